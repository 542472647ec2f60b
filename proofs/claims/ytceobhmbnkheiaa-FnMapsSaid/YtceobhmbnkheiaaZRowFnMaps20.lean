/-
  ReadGraph: the program's walk.
-/
import Derived.Test.YtceobhmbnkheiaaZRowFnMaps17
import Derived.Test.YtceobhmbnkheiaaZRowFnMaps18
import Derived.Test.YtceobhmbnkheiaaZRowFnMaps7
set_option linter.unusedVariables false
set_option linter.unusedSimpArgs false
namespace Go.Proofs.Ytceobhmbnkheiaa
open Go.RowKit Go.Sort
theorem data_get {s : ByteArray} {i : Nat} (h : i < s.size) : s.data.toList[i]'(by rw [len_data]; exact h) = s[i] := by rfl
theorem last_yes {s : ByteArray} {m : Nat} (hm : s.size = m + 1) (e : s[m] = 10) : s.extract 0 m ++ mkB [10] = s := by
  apply bext
  rw [app_list, mkB_data, extract_eq, mkB_data, List.drop_zero, Nat.sub_zero]
  have hl : m < s.data.toList.length := by rw [len_data]; omega
  have := List.take_succ_eq_append_getElem hl
  rw [data_get (by omega), e, List.take_of_length_le (by rw [len_data]; omega)] at this
  exact this.symm
theorem last_no {s : ByteArray} {m : Nat} (hm : s.size = m + 1) (e : ¬ s[m] = 10) : ∀ t, s ≠ t ++ mkB [10] := by
  intro t ht
  apply e
  have h1 : s.data.toList = t.data.toList ++ [10] := by rw [ht, app_list, mkB_data]
  have h2 : t.data.toList.length = m := by have := congrArg List.length h1; simp only [List.length_append, List.length_cons, List.length_nil] at this; rw [len_data] at this; omega
  have h3 : s.data.toList[m]? = some 10 := by rw [h1, List.getElem?_append_right (by omega)]; simp [h2]
  have hl : m < s.data.toList.length := by rw [len_data]; omega
  rw [List.getElem?_eq_getElem hl, data_get (by omega)] at h3
  exact Option.some.inj h3
theorem none_no {s : ByteArray} (h : s.size = 0) : ∀ t, s ≠ t ++ mkB [10] := by
  intro t ht
  have := congrArg ByteArray.size ht
  rw [ByteArray.size_append] at this
  have h2 : (mkB [10]).size = 1 := rfl
  omega
theorem size_zero {s : ByteArray} (h : s.size = 0) : s = ⟨#[]⟩ := by
  apply ByteArray.ext
  exact Array.eq_empty_of_size_eq_zero h
/-- the lines of a text -/
def linesI (s : ByteArray) : List ByteArray × Bool := if h : 0 < s.size then (if s[s.size - 1] = 10 then (cuts (s.extract 0 (s.size - 1)) 10, true) else ([], false)) else ([], true)
theorem linesI_yes {s : ByteArray} {m : Nat} (hm : s.size = m + 1) (e : s[m] = 10) : linesI s = (cuts (s.extract 0 m) 10, true) := by
  unfold linesI
  have h1 : s.size - 1 = m := by omega
  simp only [h1]
  rw [dif_pos (by omega), if_pos e]
theorem linesI_no {s : ByteArray} {m : Nat} (hm : s.size = m + 1) (e : ¬ s[m] = 10) : linesI s = ([], false) := by
  unfold linesI
  have h1 : s.size - 1 = m := by omega
  simp only [h1]
  rw [dif_pos (by omega), if_neg e]
theorem linesI_zero {s : ByteArray} (h : s.size = 0) : linesI s = ([], true) := by
  unfold linesI
  rw [dif_neg (by omega)]

set_option maxHeartbeats 1000000 in
theorem linesIn_any (s : ByteArray) (w : World) (hs : s.size ≤ 1048576) :
    Calls Try.prog 58 #[.string s] w fun e w' => ∃ v, e = .returned (tupVB v (linesI s).2) ∧ FStr.Own w' w.heap.size v (linesI s).1 ∧ Below w.heap.size w w' := by
  by_cases h0 : s.size = 0
  · have HL := Lib.hid (linesI_zero h0)
    have he := size_zero h0
    subst he
    go_enter Try.func58, Try.ntmps58
    go_wp2
    go_ret2
    exact ⟨_, by rw [HL.out]; rfl, by rw [HL.out]; exact World.ownsRow_nil _ _ _ _, Below.refl _ _⟩
  · obtain ⟨m, hm⟩ : ∃ m, s.size = m + 1 := ⟨s.size - 1, by omega⟩
    have hne : (s.toList == []) = false := by have := beq_no (a := s) (b := ⟨#[]⟩) (fun e => by rw [e] at h0; exact h0 rfl); rw [show (⟨#[]⟩ : ByteArray).toList = [] by rw [ByteArray.toList_eq]] at this; exact this
    have hne2 : ¬ s.toList = [] := fun e => by rw [e] at hne; simp at hne
    have r1 : IntKind.i64.wrap ((s.size : Int) - 1) = (m : Int) := by rw [IntWalk.i64_in _ (by omega)]; omega
    have i1 : (m : Int) < (s.size : Int) := by omega
    have hml : m < s.size := by omega
    by_cases e : s[m] = 10
    · have HL := Lib.hid (linesI_yes hm e)
      have ht : ((s[m].toNat : Int) != 10) = false := by rw [e]; rfl
      have ht2 : ((s[m].toNat : Int) == 10) = true := by rw [e]; rfl
      have i2 : (m : Int) ≤ (s.size : Int) := by omega
      have i3 : m ≤ s.size := by omega
      have hz : (s.extract 0 m).size ≤ 1048576 := by rw [ByteArray.size_extract]; omega
      clear e h0
      go_enter Try.func58, Try.ntmps58
      go_wp2_with fail
      refine (splitAt_any (s.extract 0 m) 10 _ hz).mono ?_
      rintro e w1 ⟨v1, rfl, o1, b1⟩
      go_wp2
      go_ret2
      exact ⟨_, by rw [HL.out]; rfl, by rw [HL.out]; exact o1, b1⟩
    · have HL := Lib.hid (linesI_no hm e)
      have hx : ¬ (s[m].toNat : Int) = 10 := fun h => e (u8_eq.1 (by rw [h]; rfl))
      have ht : ((s[m].toNat : Int) != 10) = true := by rw [bne_iff_ne]; exact hx
      have ht2 : ((s[m].toNat : Int) == 10) = false := by rw [beq_eq_false_iff_ne]; exact hx
      clear e h0
      go_enter Try.func58, Try.ntmps58
      go_wp2
      go_ret2
      exact ⟨_, by rw [HL.out]; rfl, by rw [HL.out]; exact World.ownsRow_nil _ _ _ _, Below.refl _ _⟩
end Go.Proofs.Ytceobhmbnkheiaa
