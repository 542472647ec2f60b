/-
  slices.Max, slices.Min, allSame.
-/
import Derived.Test.YtipkdbicijibpaaWindow
namespace Go.Proofs.Ytipkdbicijibpaa
open Go.RowKit Go.Sort
def mxTo (l : List Int) (j : Nat) : Int := (l.take j).foldl max (l.headD 0)
def mnTo (l : List Int) (j : Nat) : Int := (l.take j).foldl min (l.headD 0)
theorem mxTo_succ {l : List Int} {j : Nat} (hj : j < l.length) : mxTo l (j + 1) = max (mxTo l j) l[j] := by
  unfold mxTo; rw [List.take_succ_eq_append_getElem hj, List.foldl_append]; rfl
theorem mnTo_succ {l : List Int} {j : Nat} (hj : j < l.length) : mnTo l (j + 1) = min (mnTo l j) l[j] := by
  unfold mnTo; rw [List.take_succ_eq_append_getElem hj, List.foldl_append]; rfl
theorem foldl_max_ge : ∀ (l : List Int) (a : Int), a ≤ l.foldl max a ∧ ∀ x ∈ l, x ≤ l.foldl max a
  | [], a => ⟨Int.le_refl _, by simp⟩
  | y :: l, a => by
    obtain ⟨h1, h2⟩ := foldl_max_ge l (max a y)
    rw [List.foldl_cons]
    refine ⟨by omega, fun x hx => ?_⟩
    simp at hx
    rcases hx with rfl | hx
    · omega
    · exact h2 x hx
theorem foldl_min_le : ∀ (l : List Int) (a : Int), l.foldl min a ≤ a ∧ ∀ x ∈ l, l.foldl min a ≤ x
  | [], a => ⟨Int.le_refl _, by simp⟩
  | y :: l, a => by
    obtain ⟨h1, h2⟩ := foldl_min_le l (min a y)
    rw [List.foldl_cons]
    refine ⟨by omega, fun x hx => ?_⟩
    simp at hx
    rcases hx with rfl | hx
    · omega
    · exact h2 x hx
theorem foldl_same : ∀ (l : List Int) (a : Int), (∀ x ∈ l, x = a) → l.foldl max a = a ∧ l.foldl min a = a
  | [], _, _ => ⟨rfl, rfl⟩
  | y :: l, a, h => by
    have hy : y = a := h y (by simp)
    subst hy
    have := foldl_same l y (fun x hx => h x (by simp [hx]))
    simpa using this
theorem allAs_mm (l : List Int) : decide (mxTo l l.length = mnTo l l.length) = allAs l := by
  unfold mxTo mnTo
  rw [List.take_length]
  by_cases h : allAs l = true
  · rw [h]
    have h2 : ∀ x ∈ l, x = l.headD 0 := by
      intro x hx
      unfold allAs at h
      rw [List.all_eq_true] at h
      simpa using h x hx
    obtain ⟨h3, h4⟩ := foldl_same l _ h2
    rw [h3, h4]; simp
  · have h' : allAs l = false := by simpa using h
    rw [h']
    simp only [decide_eq_false_iff_not]
    intro e
    apply h
    unfold allAs
    rw [List.all_eq_true]
    intro x hx
    have h1 := (foldl_max_ge l (l.headD 0))
    have h2 := (foldl_min_le l (l.headD 0))
    have h3 := h1.2 x hx
    have h4 := h2.2 x hx
    exact decide_eq_true (by omega)
set_option maxHeartbeats 400000 in
theorem Max_any {v : Value} {l : List Int} (w : World) (ha : SlI w v l) (hne : 0 < l.length) :
    Calls Try.prog 98 #[v] w fun e w' => e = .returned (.int .i64 (mxTo l l.length)) ∧ w = w' := by
  obtain ⟨a, c, rfl, hc, hc', hrd⟩ := ha
  unfold maxLen at hc'
  have hm : l.length ≤ 9223372036854775807 := by omega
  have hm1 : ¬ ((l.length : Int) < 1) := by omega
  obtain ⟨b, off, rfl, g0⟩ := hrd.one (i64s_get hne)
  have hh := head_get hne
  rw [hh, Nat.add_zero] at g0
  have e1 : mxTo l 1 = l.headD 0 := by
    cases l with
    | nil => simp at hne
    | cons x l => simp [mxTo]
  obtain ⟨h, hq⟩ : ∃ h : Int, h = l.headD 0 := ⟨_, rfl⟩
  rw [← hq] at g0 e1
  have E1 := Lib.hid e1
  clear hh hc hc' hq e1
  go_enter Try.func98, Try.ntmps98
  go_wp2
  go_loopw [3, 4] (fun m i wr => ∃ j : Nat, 1 ≤ j ∧ j ≤ l.length ∧ i = .int .i64 j ∧ m = .int .i64 (mxTo l j) ∧ wr = w) (fun _ i _ => l.length - (intOf i).toNat)
  case atStart => exact ⟨1, by omega, by omega, rfl, vi E1.out.symm, rfl⟩
  case round =>
    obtain ⟨j, hj1, hj, rfl, rfl, rfl⟩ := hrel
    clear g0
    by_cases hjt : j < l.length
    · have hs := mxTo_succ hjt
      have HS := Lib.hid hs
      obtain ⟨b', off', he, gj⟩ := hrd.one (i64s_get hjt)
      simp at he
      obtain ⟨rfl, rfl⟩ := he
      clear hs
      go_wp2
      go_roundw
      case rel => exact ⟨j + 1, by omega, by omega, by go_num, vi (by rw [HS.out]; split <;> omega), trivial⟩
      case measure => simp [intOf]; omega
    · obtain rfl : j = l.length := by omega
      go_wp2
      go_ret
      exact ⟨rfl, rfl⟩
set_option maxHeartbeats 400000 in
theorem Min_any {v : Value} {l : List Int} (w : World) (ha : SlI w v l) (hne : 0 < l.length) :
    Calls Try.prog 99 #[v] w fun e w' => e = .returned (.int .i64 (mnTo l l.length)) ∧ w = w' := by
  obtain ⟨a, c, rfl, hc, hc', hrd⟩ := ha
  unfold maxLen at hc'
  have hm : l.length ≤ 9223372036854775807 := by omega
  have hm1 : ¬ ((l.length : Int) < 1) := by omega
  obtain ⟨b, off, rfl, g0⟩ := hrd.one (i64s_get hne)
  have hh := head_get hne
  rw [hh, Nat.add_zero] at g0
  have e1 : mnTo l 1 = l.headD 0 := by
    cases l with
    | nil => simp at hne
    | cons x l => simp [mnTo]
  obtain ⟨h, hq⟩ : ∃ h : Int, h = l.headD 0 := ⟨_, rfl⟩
  rw [← hq] at g0 e1
  have E1 := Lib.hid e1
  clear hh hc hc' hq e1
  go_enter Try.func99, Try.ntmps99
  go_wp2
  go_loopw [3, 4] (fun m i wr => ∃ j : Nat, 1 ≤ j ∧ j ≤ l.length ∧ i = .int .i64 j ∧ m = .int .i64 (mnTo l j) ∧ wr = w) (fun _ i _ => l.length - (intOf i).toNat)
  case atStart => exact ⟨1, by omega, by omega, rfl, vi E1.out.symm, rfl⟩
  case round =>
    obtain ⟨j, hj1, hj, rfl, rfl, rfl⟩ := hrel
    clear g0
    by_cases hjt : j < l.length
    · have hs := mnTo_succ hjt
      have HS := Lib.hid hs
      obtain ⟨b', off', he, gj⟩ := hrd.one (i64s_get hjt)
      simp at he
      obtain ⟨rfl, rfl⟩ := he
      clear hs
      go_wp2
      go_roundw
      case rel => exact ⟨j + 1, by omega, by omega, by go_num, vi (by rw [HS.out]; split <;> omega), trivial⟩
      case measure => simp [intOf]; omega
    · obtain rfl : j = l.length := by omega
      go_wp2
      go_ret
      exact ⟨rfl, rfl⟩

theorem allSame_any {v : Value} {l : List Int} (w : World) (ha : SlI w v l) (hne : 0 < l.length) :
    Calls Try.prog 57 #[v] w fun e w' => e = .returned (.bool (allAs l)) ∧ w = w' := by
  have K1 := Lib.hid (Max_any w ha hne)
  have K2 := Lib.hid (Min_any w ha hne)
  obtain ⟨a, c, rfl, _, _, _⟩ := ha
  have hm := allAs_mm l
  have HM := Lib.hid hm
  generalize mxTo l l.length = m1 at K1 HM
  generalize mnTo l l.length = m2 at K2 HM
  have ht : (m1 == m2) = decide (m1 = m2) := by by_cases h : m1 = m2 <;> simp [h]
  have HT := Lib.hid ht
  clear hm ht
  go_enter Try.func57, Try.ntmps57
  go_wp2_with fail
  refine (K1.out).mono ?_
  rintro e w' ⟨rfl, rfl⟩
  go_wp2_with fail
  refine (K2.out).mono ?_
  rintro e w' ⟨rfl, rfl⟩
  go_wp2
  go_ret
  exact ⟨rb (by rw [← HM.out]; exact HT.out), rfl⟩

end Go.Proofs.Ytipkdbicijibpaa
