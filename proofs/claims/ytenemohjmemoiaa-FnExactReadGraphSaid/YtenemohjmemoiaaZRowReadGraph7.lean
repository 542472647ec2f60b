/-
  A region that draws its order: what only reads is taken first under a condition on the world; what changes the world in one forced order, keeps the condition, but for the last operations, in front of which all that reads has come up. With it: The line graph: the program's walk. ReadGraph: the program's walk.
-/
import Derived.Test.YtenemohjmemoiaaZRowReadGraph6
import Derived.Test.YtenemohjmemoiaaZRowReadGraph3
import Derived.Test.YtenemohjmemoiaaZRowReadGraph5
import Derived.OrdersHeld
import Derived.StillTail
set_option linter.unusedVariables false
set_option linter.unusedSimpArgs false
namespace Go.Proofs.Ytenemohjmemoiaa
open Go.RowKit Go.Sort
theorem OwnII.setLow {w : World} {base : Nat} {v : Value} {xss : List (List Int)} (h : OwnII w base v xss) {a : Addr} (ha : a.block < base) (u : Value) : OwnII (w.setCell a u) base v xss :=
  h.fs (S := fun k => k = a.block) (Fs.set (a := a) (Fs.refl (fun k => k = a.block) w) rfl u) (fun k (hk : k = a.block) => by rw [hk]; exact ha)
theorem cells2_set {w : World} {b : Nat} {x y u : Value} (h : CellsAt w b [x, y]) : CellsAt (w.setCell ⟨b, 1, none⟩ u) b [x, u] := by
  have c0 := h.get 0 _ rfl
  have c1 := h.get 1 _ rfl
  refine ⟨by simpa using h.1, fun i v hv => ?_⟩
  match i, hv with
  | 0, hv => simp at hv; subst hv; simp [go_sem, c0]
  | 1, hv => simp at hv; subst hv; simp [go_sem, c1]
theorem frozen_new {w : World} {cs : Array Value} {T i : Nat} : (w.alloc (.cells cs T)).frozen? ⟨w.heap.size, i, none⟩ = false := by simp [go_sem]
theorem frozen_of_below {w w' : World} {B : Nat} (h : Below B w w') {p : Addr} (hp : p.block < B) (hf : w.frozen? p = false) : w'.frozen? p = false := by
  have := h.block p.block hp
  simpa [World.frozen?, this] using hf
theorem OwnI.two (w : World) {base : Nat} (hb : base ≤ w.heap.size) (x y : Int) : OwnI (w.alloc (.cells #[.int .i64 x, .int .i64 y] 2)) base (.slice (some ⟨w.heap.size, 0, none⟩) 2 2) [x, y] :=
  World.ownsRow_lit (base := base) (e := 2) (size := 1) w #[.int .i64 x, .int .i64 y] 2 hb (by simp [maxLen]) (by simp)
/-- the graph under work -/
structure LineB (w : World) (b : Nat) (n : Int) (v : Value) : Prop where
  c : CellsAt w b [.int .i64 n, v]
  f : w.frozen? ⟨b, 1, none⟩ = false
theorem LineB.below {w w' : World} {b B : Nat} {n : Int} {v : Value} (h : LineB w b n v) (hb : Below B w w') (hB : b < B) : LineB w' b n v :=
  ⟨⟨Nat.lt_of_lt_of_le h.c.1 hb.size, fun i u hu => by rw [hb.cell (p := ⟨b, i, none⟩) hB]; exact h.c.2 i u hu⟩, frozen_of_below hb hB h.f⟩
theorem LineB.set {w : World} {b : Nat} {n : Int} {v : Value} (h : LineB w b n v) (u : Value) : LineB (w.setCell ⟨b, 1, none⟩ u) b n u := ⟨cells2_set h.c, by simpa using h.f⟩
end Go.Proofs.Ytenemohjmemoiaa
namespace Go.Proofs.Ytenemohjmemoiaa
open Go.RowKit Go.Sort
theorem data_get {s : ByteArray} {i : Nat} (h : i < s.size) : s.data.toList[i]'(by rw [len_data]; exact h) = s[i] := by rfl
theorem last_yes {s : ByteArray} {m : Nat} (hm : s.size = m + 1) (e : s[m] = 10) : s.extract 0 m ++ mkB [10] = s := by
  apply bext
  rw [app_list, mkB_data, extract_eq, mkB_data, List.drop_zero, Nat.sub_zero]
  have hl : m < s.data.toList.length := by rw [len_data]; omega
  have := List.take_succ_eq_append_getElem hl
  rw [data_get (by omega), e, List.take_of_length_le (by rw [len_data]; omega)] at this
  exact this.symm
theorem last_no {s : ByteArray} {m : Nat} (hm : s.size = m + 1) (e : ¬ s[m] = 10) : ∀ t, s ≠ t ++ mkB [10] := by
  intro t ht
  apply e
  have h1 : s.data.toList = t.data.toList ++ [10] := by rw [ht, app_list, mkB_data]
  have h2 : t.data.toList.length = m := by have := congrArg List.length h1; simp only [List.length_append, List.length_cons, List.length_nil] at this; rw [len_data] at this; omega
  have h3 : s.data.toList[m]? = some 10 := by rw [h1, List.getElem?_append_right (by omega)]; simp [h2]
  have hl : m < s.data.toList.length := by rw [len_data]; omega
  rw [List.getElem?_eq_getElem hl, data_get (by omega)] at h3
  exact Option.some.inj h3
theorem none_no {s : ByteArray} (h : s.size = 0) : ∀ t, s ≠ t ++ mkB [10] := by
  intro t ht
  have := congrArg ByteArray.size ht
  rw [ByteArray.size_append] at this
  have h2 : (mkB [10]).size = 1 := rfl
  omega
theorem size_zero {s : ByteArray} (h : s.size = 0) : s = ⟨#[]⟩ := by
  apply ByteArray.ext
  exact Array.eq_empty_of_size_eq_zero h
/-- the lines of a text -/
def linesI (s : ByteArray) : List ByteArray × Bool := if h : 0 < s.size then (if s[s.size - 1] = 10 then (cuts (s.extract 0 (s.size - 1)) 10, true) else ([], false)) else ([], true)
theorem linesI_yes {s : ByteArray} {m : Nat} (hm : s.size = m + 1) (e : s[m] = 10) : linesI s = (cuts (s.extract 0 m) 10, true) := by
  unfold linesI
  have h1 : s.size - 1 = m := by omega
  simp only [h1]
  rw [dif_pos (by omega), if_pos e]
theorem linesI_no {s : ByteArray} {m : Nat} (hm : s.size = m + 1) (e : ¬ s[m] = 10) : linesI s = ([], false) := by
  unfold linesI
  have h1 : s.size - 1 = m := by omega
  simp only [h1]
  rw [dif_pos (by omega), if_neg e]
theorem linesI_zero {s : ByteArray} (h : s.size = 0) : linesI s = ([], true) := by
  unfold linesI
  rw [dif_neg (by omega)]

set_option maxHeartbeats 1000000 in
theorem linesIn_any (s : ByteArray) (w : World) (hs : s.size ≤ 1048576) :
    Calls Try.prog 53 #[.string s] w fun e w' => ∃ v, e = .returned (tupVB v (linesI s).2) ∧ FStr.Own w' w.heap.size v (linesI s).1 ∧ Below w.heap.size w w' := by
  by_cases h0 : s.size = 0
  · have HL := Lib.hid (linesI_zero h0)
    have he := size_zero h0
    subst he
    go_enter Try.func53, Try.ntmps53
    go_wp2
    go_ret2
    exact ⟨_, by rw [HL.out]; rfl, by rw [HL.out]; exact World.ownsRow_nil _ _ _ _, Below.refl _ _⟩
  · obtain ⟨m, hm⟩ : ∃ m, s.size = m + 1 := ⟨s.size - 1, by omega⟩
    have hne : (s.toList == []) = false := by have := beq_no (a := s) (b := ⟨#[]⟩) (fun e => by rw [e] at h0; exact h0 rfl); rw [show (⟨#[]⟩ : ByteArray).toList = [] by rw [ByteArray.toList_eq]] at this; exact this
    have hne2 : ¬ s.toList = [] := fun e => by rw [e] at hne; simp at hne
    have r1 : IntKind.i64.wrap ((s.size : Int) - 1) = (m : Int) := by rw [IntWalk.i64_in _ (by omega)]; omega
    have i1 : (m : Int) < (s.size : Int) := by omega
    have hml : m < s.size := by omega
    by_cases e : s[m] = 10
    · have HL := Lib.hid (linesI_yes hm e)
      have ht : ((s[m].toNat : Int) != 10) = false := by rw [e]; rfl
      have ht2 : ((s[m].toNat : Int) == 10) = true := by rw [e]; rfl
      have i2 : (m : Int) ≤ (s.size : Int) := by omega
      have i3 : m ≤ s.size := by omega
      have hz : (s.extract 0 m).size ≤ 1048576 := by rw [ByteArray.size_extract]; omega
      clear e h0
      go_enter Try.func53, Try.ntmps53
      go_wp2_with fail
      refine (splitAt_any (s.extract 0 m) 10 _ hz).mono ?_
      rintro e w1 ⟨v1, rfl, o1, b1⟩
      go_wp2
      go_ret2
      exact ⟨_, by rw [HL.out]; rfl, by rw [HL.out]; exact o1, b1⟩
    · have HL := Lib.hid (linesI_no hm e)
      have hx : ¬ (s[m].toNat : Int) = 10 := fun h => e (u8_eq.1 (by rw [h]; rfl))
      have ht : ((s[m].toNat : Int) != 10) = true := by rw [bne_iff_ne]; exact hx
      have ht2 : ((s[m].toNat : Int) == 10) = false := by rw [beq_eq_false_iff_ne]; exact hx
      clear e h0
      go_enter Try.func53, Try.ntmps53
      go_wp2
      go_ret2
      exact ⟨_, by rw [HL.out]; rfl, by rw [HL.out]; exact World.ownsRow_nil _ _ _ _, Below.refl _ _⟩

set_option maxHeartbeats 4000000 in
theorem ImplReadGraph_early (s : ByteArray) (w : World) (hs : s.size ≤ 1048576) (h : 2000 < s.size ∨ (s.size ≤ 2000 ∧ ∃ b, linesI s = ([], b) ∧ rdG s = ((0, []), 5))) :
    Calls Try.prog 10 #[.string s] w (FreshGC w (rdG s)) := by
  obtain ⟨W1, hW1⟩ : ∃ W1, W1 = w.alloc (.cells #[.int .i64 0, .slice none 0 0] 24) := ⟨_, rfl⟩
  have b1 : Below w.heap.size w W1 := by rw [hW1]; exact (Below.refl _ _).alloc (Nat.le_refl _) _
  have z1 : W1.heap.size = w.heap.size + 1 := by rw [hW1]; simp
  have RB := Lib.hid (show ∀ W, Below W1.heap.size W1 W → LineB W w.heap.size 0 (.slice none 0 0) ∧ W.frozen? ⟨w.heap.size, 0, none⟩ = false from fun W hW => by
    have l1 : LineB W1 w.heap.size 0 (.slice none 0 0) := by rw [hW1]; exact ⟨CellsAt.new' _ _ _ rfl, frozen_new⟩
    have l2 : W1.frozen? ⟨w.heap.size, 0, none⟩ = false := by rw [hW1]; exact frozen_new
    exact ⟨l1.below hW (by omega), frozen_of_below (p := ⟨w.heap.size, 0, none⟩) hW (by simp; omega) l2⟩)
  have B1 := Lib.hid b1
  have HW1 := Lib.hid hW1
  clear b1 hW1
  rcases h with h | ⟨h, b, hli, hrd⟩
  · have i1 : (2000 : Int) < (s.size : Int) := by omega
    have HR := Lib.hid (show rdG s = ((0, []), 2) by unfold rdG; rw [if_neg (by omega)])
    go_enter Try.func10, Try.ntmps10
    go_upto_region 1 with (fail)
    rw [← HW1.out]
    obtain ⟨rl, f0⟩ := RB.out _ (Below.refl W1.heap.size W1)
    have f1 := rl.f
    have q0 := rl.c.get 0 _ rfl
    have q1 := rl.c.get 1 _ rfl
    have zr := rl.c.1
    have HB := Lib.hid (B1.out.trans ((Below.refl W1.heap.size W1).mono (by have := B1.out.size; omega)))
    clear rl
    go_wp2
    refine bodyPost_ret (v := .tuple #[.agg #[.int .i64 0, .slice none 0 0], .int .i64 2]) (by simp [results, Try.results10, go_sem, q0, q1, zr]) rfl ?_
    have hr := HR.out
    rw [hr]
    exact ⟨_, rfl, OwnII.nil _ _, (HB.out.setCell (by simp) _).setCell (by simp) _⟩
  · have i1 : ¬ (2000 : Int) < (s.size : Int) := by omega
    have HR := Lib.hid hrd
    have HLI := Lib.hid hli
    clear hrd hli
    go_enter Try.func10, Try.ntmps10
    go_wp2_with fail
    rw [← HW1.out]
    refine (linesIn_any s _ hs).mono ?_
    rintro e w2 ⟨v2, rfl, o2, b2⟩
    rw [HLI.out] at o2 ⊢
    unfold tupVB
    obtain ⟨la, lc, rfl, lm1, lm2, _⟩ := id o2.sl
    clear o2
    cases b
    all_goals
      obtain ⟨rl, f0⟩ := RB.out _ (b2)
      have f1 := rl.f
      have q0 := rl.c.get 0 _ rfl
      have q1 := rl.c.get 1 _ rfl
      have zr := rl.c.1
      have HB := Lib.hid (B1.out.trans ((b2).mono (by have := B1.out.size; omega)))
      clear rl
      go_wp2
      refine bodyPost_ret (v := .tuple #[.agg #[.int .i64 0, .slice none 0 0], .int .i64 5]) (by simp [results, Try.results10, go_sem, q0, q1, zr]) rfl ?_
      have hr := HR.out
      rw [hr]
      exact ⟨_, rfl, OwnII.nil _ _, (HB.out.setCell (by simp) _).setCell (by simp) _⟩
set_option maxRecDepth 100000 in
set_option maxHeartbeats 16000000 in
theorem ImplReadGraph_main (s : ByteArray) (L : List ByteArray) (w : World) (hs : s.size ≤ 2000) (hli : linesI s = (L, true)) (hL1 : 1 ≤ L.length) (hL2 : L.length ≤ 2001) (hLz : ∀ x ∈ L, x.size ≤ 2000)
    (hrd : rdG s = match readI L with
      | some g => if isGr s g = true then (g, 0) else ((0, []), 5)
      | none => ((0, []), 5)) :
    Calls Try.prog 10 #[.string s] w (FreshGC w (rdG s)) := by
  obtain ⟨W1, hW1⟩ : ∃ W1, W1 = w.alloc (.cells #[.int .i64 0, .slice none 0 0] 24) := ⟨_, rfl⟩
  have b1 : Below w.heap.size w W1 := by rw [hW1]; exact (Below.refl _ _).alloc (Nat.le_refl _) _
  have z1 : W1.heap.size = w.heap.size + 1 := by rw [hW1]; simp
  have RB := Lib.hid (show ∀ W, Below W1.heap.size W1 W → LineB W w.heap.size 0 (.slice none 0 0) ∧ W.frozen? ⟨w.heap.size, 0, none⟩ = false from fun W hW => by
    have l1 : LineB W1 w.heap.size 0 (.slice none 0 0) := by rw [hW1]; exact ⟨CellsAt.new' _ _ _ rfl, frozen_new⟩
    have l2 : W1.frozen? ⟨w.heap.size, 0, none⟩ = false := by rw [hW1]; exact frozen_new
    exact ⟨l1.below hW (by omega), frozen_of_below (p := ⟨w.heap.size, 0, none⟩) hW (by simp; omega) l2⟩)
  have B1 := Lib.hid b1
  have HW1 := Lib.hid hW1
  clear b1 hW1
  have i1 : ¬ (2000 : Int) < (s.size : Int) := by omega
  have HRD := Lib.hid hrd
  have HLI := Lib.hid hli
  have HLZ := Lib.hid hLz
  obtain ⟨M, hM⟩ : ∃ M, L.length = M + 1 := ⟨L.length - 1, by omega⟩
  have HM := Lib.hid hM
  have h0L : 0 < L.length := by omega
  have hx0 : L.getD 0 ⟨#[]⟩ = L[0]'h0L := by simp [h0L]
  have hRI : readI L = if ((behindG (L[0]'h0L) graphB).2 && decide ((behindG (L[0]'h0L) graphB).1.length = 1)) = true then (readsE (L.drop 1) []).map (fun es => ((behindG (L[0]'h0L) graphB).1.getD 0 0, es)) else none := by unfold readI; rw [hx0]
  have hz0 := hLz _ (List.getElem_mem h0L)
  generalize hbb : behindG (L[0]'h0L) graphB = R at hRI
  obtain ⟨h, okh⟩ := R
  generalize hl0 : L[0]'h0L = l0 at hbb hz0
  have HBB := Lib.hid hbb
  have HL0 := Lib.hid hl0
  have HRI0 := Lib.hid hRI
  have hM2 : M ≤ 2000 := by omega
  clear hrd hli hLz hx0 hbb hl0 hRI hM hL2 hL1
  go_enter Try.func10, Try.ntmps10
  go_wp2_with fail
  rw [← HW1.out]
  refine (linesIn_any s _ (by omega)).mono ?_
  rintro e w2 ⟨v2, rfl, o2, b2⟩
  rw [HLI.out] at o2 ⊢
  unfold tupVB
  have o2 : FStr.Own _ _ _ L := o2
  rcases o2.forms with ⟨rfl, h0⟩ | ⟨g, c, rfl, hg, hg1, hgc, hgc2⟩
  · have := HM.out; rw [h0] at this; simp at this
  unfold maxLen at hgc2
  have HS := Lib.hid (fun W (h : Below w2.heap.size w2 W) => o2.sl.below h)
  obtain ⟨b, off, hadr, _, gc⟩ := FS_get o2.sl h0L
  simp at hadr
  obtain ⟨rfl, rfl⟩ := hadr
  rw [HL0.out] at gc
  simp only [Nat.add_zero] at gc
  have hmc := HM.out
  rw [hmc] at hgc HS ⊢
  have HB2 := Lib.hid b2
  have e1 : (((M + 1 : Nat) : Int) == 0) = false := by rw [beq_eq_false_iff_ne]; omega
  have e1' : ((M : Int) + 1 == 0) = false := by rw [beq_eq_false_iff_ne]; omega
  have e2 : (0 : Int) < ((M + 1 : Nat) : Int) := by omega
  clear o2 hmc b2
  go_wp2_with fail
  refine (numbersBehind_any l0 graphB _ (by omega)).mono ?_
  rintro e w3 ⟨v3, rfl, o3, b3⟩
  rw [HBB.out] at o3 ⊢
  unfold tupVB
  have o3 : OwnI _ _ _ h := o3
  have hb3 := HB2.out.trans (b3.mono HB2.out.size)
  obtain ⟨na, nc, rfl, nl1, nl2, _⟩ := id o3.sl
  unfold maxLen at nl2
  clear gc
  cases okh
  · skip
    obtain ⟨rl, f0⟩ := RB.out _ (hb3)
    have f1 := rl.f
    have q0 := rl.c.get 0 _ rfl
    have q1 := rl.c.get 1 _ rfl
    have zr := rl.c.1
    have HB := Lib.hid (B1.out.trans ((hb3).mono (by have := B1.out.size; omega)))
    clear rl
    go_wp2
    refine bodyPost_ret (v := .tuple #[.agg #[.int .i64 0, .slice none 0 0], .int .i64 5]) (by simp [results, Try.results10, go_sem, q0, q1, zr]) rfl ?_
    have hr := (show rdG s = ((0, []), 5) by rw [HRD.out, HRI0.out]; simp)
    rw [hr]
    exact ⟨_, rfl, OwnII.nil _ _, (HB.out.setCell (by simp) _).setCell (by simp) _⟩
  · by_cases hl : h.length = 1
    · obtain ⟨n, rfl⟩ : ∃ n, h = [n] := by
        match h, hl with
        | [n], _ => exact ⟨n, rfl⟩
      have HRI := Lib.hid (show readI L = (readsE (L.drop (0 + 1)) []).map (fun es => (n, es)) by rw [HRI0.out]; simp)
      obtain ⟨nb, noff, rfl, _, g0⟩ := o3.sl.at_ (k := 0) (by simp)
      simp only [Nat.add_zero, List.getElem_cons_zero, List.length_cons, List.length_nil, Nat.zero_add] at g0 nl1 ⊢
      obtain ⟨W4, hW4⟩ : ∃ W4, W4 = w3.alloc (.cells #[.int .i64 n, .slice none 0 0] 24) := ⟨_, rfl⟩
      have b4 : Below w3.heap.size w3 W4 := by rw [hW4]; exact (Below.refl _ _).alloc (Nat.le_refl _) _
      have X4 := Lib.hid (show LineB W4 w3.heap.size n (.slice none 0 0) by rw [hW4]; exact ⟨CellsAt.new' _ _ _ rfl, frozen_new⟩)
      have HB4 := Lib.hid (hb3.trans (b4.mono hb3.size))
      have HSW := Lib.hid (fun W (h : Below w3.heap.size W4 W) => HS.out W (b3.trans ((b4.trans h).mono b3.size)))
      have Z3 := Lib.hid (show w.heap.size < w3.heap.size from by have := (RB.out _ hb3).1.c.1; exact this)
      have Z13 := Lib.hid (show W1.heap.size ≤ w3.heap.size from hb3.size)
      have B44 := Lib.hid (Below.refl w3.heap.size W4)
      have HW4 := Lib.hid hW4
      have htb : c = 1 ∨ ¬ c = 1 := Classical.em _
      clear hW4 b4 hl o3 b3 hb3
      rcases htb with hc | hc
      · subst hc
        obtain rfl : M = 0 := by omega
        go_wp2
        rw [← HW4.out]
        go_loopw [9, 10, 11, 51] (fun _ _ _ i wr => ∃ (k : Nat) (v : Value) (es' : List (List Int)), k ≤ 0 ∧ i = .int .i64 k ∧ es'.length = k ∧ Hid (readI L = (readsE (L.drop (k + 1)) es').map (fun es => (n, es))) ∧ LineB wr w3.heap.size n v ∧ OwnII wr (w3.heap.size + 1) v es' ∧ Below w3.heap.size W4 wr) (fun _ _ _ i _ => 0 - (intOf i).toNat)
        case atStart => exact ⟨0, _, [], Nat.zero_le _, rfl, rfl, HRI.out, X4.out, OwnII.nil _ _, B44.out⟩
        case round =>
          obtain ⟨k, v, es', hk, rfl, hel, hri, hline, hown, hbr⟩ := hrel
          obtain rfl : k = 0 := by omega
          have HRS := Lib.hid (show readI L = some (n, es') by rw [hri.out, List.drop_of_length_le (by have := HM.out; omega)]; rfl)
          have hb4 := HB4.out.trans (hbr.mono (by have := Z13.out; omega))
          have x0 := hline.c.get 0 _ rfl
          have x1 := hline.c.get 1 _ rfl
          have HS5 := Lib.hid (fun W (h : Below wr.heap.size wr W) => hown.sl.below h)
          have HX5 := Lib.hid (fun W (h : Below wr.heap.size wr W) => hline.below h hline.c.1)
          have HO := Lib.hid hown
          have HB5 := Lib.hid hb4
          obtain ⟨oa, on, oc, rfl, _⟩ := hown.form
          generalize hg : graphOk n es' = g
          have HG := Lib.hid hg
          clear hg hline hown hri hbr hb4
          go_wp2_with fail
          refine (ImplValidGraph_any n _ (HS5.out _ (Below.refl _ _))).mono ?_
          rintro e w5 ⟨rfl, b5⟩
          rw [HG.out]
          have hb5 := HB5.out.trans (b5.mono HB5.out.size)
          clear x0 x1
          cases g
          · skip
            obtain ⟨rl, f0⟩ := RB.out _ (hb5)
            have f1 := rl.f
            have q0 := rl.c.get 0 _ rfl
            have q1 := rl.c.get 1 _ rfl
            have zr := rl.c.1
            have HB := Lib.hid (B1.out.trans ((hb5).mono (by have := B1.out.size; omega)))
            clear rl
            go_wp2
            refine bodyPost_ret (v := .tuple #[.agg #[.int .i64 0, .slice none 0 0], .int .i64 5]) (by simp [results, Try.results10, go_sem, q0, q1, zr]) rfl ?_
            have hr := (show rdG s = ((0, []), 5) by rw [HRD.out, HRS.out]; simp [isGr, HG.out])
            rw [hr]
            exact ⟨_, rfl, OwnII.nil _ _, (HB.out.setCell (by simp) _).setCell (by simp) _⟩
          · skip
            obtain ⟨m', rfl, hm1, hm5, hE, hlen⟩ := graphOk_all HG.out
            have HE := Lib.hid hE
            have x0 := (HX5.out _ b5).c.get 0 _ rfl
            have x1 := (HX5.out _ b5).c.get 1 _ rfl
            have HB6 := Lib.hid b5
            generalize hT : graphTx m' es' = T
            have HT := Lib.hid hT
            have hd : T = s ∨ ¬ T = s := Classical.em _
            clear hT hE
            go_wp2_with fail
            refine (graphText_any m' _ (HS5.out _ b5) HE.out hm5 (by omega)).mono ?_
            rintro e w6 ⟨rfl, b6⟩
            rw [HT.out]
            have hb6 := hb5.trans (b6.mono hb5.size)
            have hb56 := HB6.out.trans (b6.mono HB6.out.size)
            clear x0 x1
            rcases hd with hd | hd
            · skip
              have t1 : (T.toList == s.toList) = true := beq_yes hd
              have HD := Lib.hid hd
              obtain ⟨rl, f0⟩ := RB.out _ hb6
              have f1 := rl.f
              have q0 := rl.c.get 0 _ rfl
              have q1 := rl.c.get 1 _ rfl
              have zr := rl.c.1
              have x0 := (HX5.out _ hb56).c.get 0 _ rfl
              have x1 := (HX5.out _ hb56).c.get 1 _ rfl
              have zx := (HX5.out _ hb56).c.1
              have O6 := Lib.hid (HO.out.below hb56)
              have HB := Lib.hid (B1.out.trans (hb6.mono (by have := B1.out.size; omega)))
              clear rl hd
              go_wp2
              refine bodyPost_ret (v := .tuple #[.agg #[.int .i64 m', .slice oa on oc], .int .i64 0]) (by simp [results, Try.results10, go_sem, q0, q1, x0, x1, zr, zx]) rfl ?_
              have hr := (show rdG s = (((m' : Int), es'), 0) by rw [HRD.out, HRS.out]; simp [isGr, HG.out, HT.out, HD.out])
              rw [hr]
              exact ⟨_, rfl, ((O6.out.setLow (by have := Z3.out; simp; omega) _).setLow (by have := Z3.out; simp; omega) _).lower (by have := Z3.out; omega), (HB.out.setCell (by simp) _).setCell (by simp) _⟩
            · skip
              have t1 : (T.toList == s.toList) = false := beq_no hd
              have HD := Lib.hid hd
              clear hd
              obtain ⟨rl, f0⟩ := RB.out _ (hb6)
              have f1 := rl.f
              have q0 := rl.c.get 0 _ rfl
              have q1 := rl.c.get 1 _ rfl
              have zr := rl.c.1
              have HB := Lib.hid (B1.out.trans ((hb6).mono (by have := B1.out.size; omega)))
              clear rl
              go_wp2
              refine bodyPost_ret (v := .tuple #[.agg #[.int .i64 0, .slice none 0 0], .int .i64 5]) (by simp [results, Try.results10, go_sem, q0, q1, zr]) rfl ?_
              have hr := (show rdG s = ((0, []), 5) by rw [HRD.out, HRS.out]; simp [isGr, HG.out, HT.out, HD.out])
              rw [hr]
              exact ⟨_, rfl, OwnII.nil _ _, (HB.out.setCell (by simp) _).setCell (by simp) _⟩
      · skip
        go_wp2
        rw [← HW4.out]
        go_loopw [9, 10, 11, 51] (fun _ _ _ i wr => ∃ (k : Nat) (v : Value) (es' : List (List Int)), k ≤ M ∧ i = .int .i64 k ∧ es'.length = k ∧ Hid (readI L = (readsE (L.drop (k + 1)) es').map (fun es => (n, es))) ∧ LineB wr w3.heap.size n v ∧ OwnII wr (w3.heap.size + 1) v es' ∧ Below w3.heap.size W4 wr) (fun _ _ _ i _ => M - (intOf i).toNat)
        case atStart => exact ⟨0, _, [], Nat.zero_le _, rfl, rfl, HRI.out, X4.out, OwnII.nil _ _, B44.out⟩
        case round =>
          obtain ⟨k, v, es', hk, rfl, hel, hri, hline, hown, hbr⟩ := hrel
          by_cases hlt : k < M
          · obtain ⟨b, off, hadr, _, gc⟩ := FS_get (HSW.out _ hbr) (i := k + 1) (by have := HM.out; omega)
            simp at hadr
            obtain ⟨rfl, rfl⟩ := hadr
            rw [show 0 + (k + 1) = 1 + k by omega] at gc
            have i2 : (k : Int) < (M : Int) := by omega
            have hz := HLZ.out _ (List.getElem_mem (show k + 1 < L.length by have := HM.out; omega))
            have hst := readsE_step (L := L) (acc := es') (k := k + 1) (by have := HM.out; omega)
            generalize L[k + 1]'(by have := HM.out; omega) = y at gc hz hst
            generalize hry : behindG y edgeB = R at hst
            obtain ⟨r, ok⟩ := R
            have HRY := Lib.hid hry
            have HST := Lib.hid hst
            have HRK := Lib.hid hri.out
            have HL := Lib.hid hline
            have HO := Lib.hid hown
            have HBR := Lib.hid hbr
            have hzr := hline.c.1
            clear hst hry hri hline hown hbr
            go_wp2_with fail
            refine (numbersBehind_any y edgeB _ (by omega)).mono ?_
            rintro e w5 ⟨v5, rfl, o5, b5⟩
            rw [HRY.out] at o5 ⊢
            unfold tupVB
            have o5 : OwnI _ _ _ r := o5
            have hb5 := HB4.out.trans ((HBR.out.trans (b5.mono (by omega))).mono (by have := Z13.out; omega))
            obtain ⟨ra, rc, rfl, _⟩ := id o5.sl
            clear gc
            cases ok
            · skip
              obtain ⟨rl, f0⟩ := RB.out _ (hb5)
              have f1 := rl.f
              have q0 := rl.c.get 0 _ rfl
              have q1 := rl.c.get 1 _ rfl
              have zr := rl.c.1
              have HB := Lib.hid (B1.out.trans ((hb5).mono (by have := B1.out.size; omega)))
              clear rl
              go_wp2
              refine bodyPost_ret (v := .tuple #[.agg #[.int .i64 0, .slice none 0 0], .int .i64 5]) (by simp [results, Try.results10, go_sem, q0, q1, zr]) rfl ?_
              have hr := (show rdG s = ((0, []), 5) by rw [HRD.out, HRK.out, HST.out]; simp)
              rw [hr]
              exact ⟨_, rfl, OwnII.nil _ _, (HB.out.setCell (by simp) _).setCell (by simp) _⟩
            · have l5 := HL.out.below b5 hzr
              have c0 := l5.c.get 0 _ rfl
              have c1 := l5.c.get 1 _ rfl
              have hlx : es'.length < 16777216 := by omega
              have L5 := Lib.hid l5
              have HB5 := Lib.hid (HBR.out.trans (b5.mono (by omega)))
              have hz5 : wr.heap.size ≤ w5.heap.size := b5.size
              clear l5 hb5
              go_wp2_with (at_builtin; refine append_row wr w5 _ _ rfl rfl rfl HO.out b5 o5 (by simp [go_sem]) hlx (by omega) ?_)
              intro v6 w6 o6 b6 z6
              have hb6 : Below (w3.heap.size + 1) w5 w6 := (((Below.refl w5.heap.size w5).alloc (Nat.le_refl _) _).mono (by omega)).trans b6
              have l6 := L5.out.below hb6 (by omega)
              have f6 := l6.f
              have r6 := l6.c.get 1 _ rfl
              have s6 := l6.c.1
              obtain ⟨oa, on, oc, rfl, _⟩ := o6.form
              have L6 := Lib.hid l6
              have O6 := Lib.hid o6
              have B6 := Lib.hid (HB5.out.trans (hb6.mono (by omega)))
              clear l6 o6 hb6 b6 c0 c1 z6 o5 b5
              go_wp2
              go_roundw
              case rel => exact ⟨k + 1, _, es' ++ [r], by omega, by go_num, by simp [hel], Lib.hid (by rw [HRK.out, HST.out]; simp), L6.out.set _, O6.out.setLow (by simp) _, B6.out.setCell (by simp) _⟩
              case measure => simp [intOf]; omega
          · skip
            obtain rfl : k = M := by omega
            have HRS := Lib.hid (show readI L = some (n, es') by rw [hri.out, List.drop_of_length_le (by have := HM.out; omega)]; rfl)
            have hb4 := HB4.out.trans (hbr.mono (by have := Z13.out; omega))
            have x0 := hline.c.get 0 _ rfl
            have x1 := hline.c.get 1 _ rfl
            have HS5 := Lib.hid (fun W (h : Below wr.heap.size wr W) => hown.sl.below h)
            have HX5 := Lib.hid (fun W (h : Below wr.heap.size wr W) => hline.below h hline.c.1)
            have HO := Lib.hid hown
            have HB5 := Lib.hid hb4
            obtain ⟨oa, on, oc, rfl, _⟩ := hown.form
            generalize hg : graphOk n es' = g
            have HG := Lib.hid hg
            clear hg hline hown hri hbr hb4
            go_wp2_with fail
            refine (ImplValidGraph_any n _ (HS5.out _ (Below.refl _ _))).mono ?_
            rintro e w5 ⟨rfl, b5⟩
            rw [HG.out]
            have hb5 := HB5.out.trans (b5.mono HB5.out.size)
            clear x0 x1
            cases g
            · skip
              obtain ⟨rl, f0⟩ := RB.out _ (hb5)
              have f1 := rl.f
              have q0 := rl.c.get 0 _ rfl
              have q1 := rl.c.get 1 _ rfl
              have zr := rl.c.1
              have HB := Lib.hid (B1.out.trans ((hb5).mono (by have := B1.out.size; omega)))
              clear rl
              go_wp2
              refine bodyPost_ret (v := .tuple #[.agg #[.int .i64 0, .slice none 0 0], .int .i64 5]) (by simp [results, Try.results10, go_sem, q0, q1, zr]) rfl ?_
              have hr := (show rdG s = ((0, []), 5) by rw [HRD.out, HRS.out]; simp [isGr, HG.out])
              rw [hr]
              exact ⟨_, rfl, OwnII.nil _ _, (HB.out.setCell (by simp) _).setCell (by simp) _⟩
            · skip
              obtain ⟨m', rfl, hm1, hm5, hE, hlen⟩ := graphOk_all HG.out
              have HE := Lib.hid hE
              have x0 := (HX5.out _ b5).c.get 0 _ rfl
              have x1 := (HX5.out _ b5).c.get 1 _ rfl
              have HB6 := Lib.hid b5
              generalize hT : graphTx m' es' = T
              have HT := Lib.hid hT
              have hd : T = s ∨ ¬ T = s := Classical.em _
              clear hT hE
              go_wp2_with fail
              refine (graphText_any m' _ (HS5.out _ b5) HE.out hm5 (by omega)).mono ?_
              rintro e w6 ⟨rfl, b6⟩
              rw [HT.out]
              have hb6 := hb5.trans (b6.mono hb5.size)
              have hb56 := HB6.out.trans (b6.mono HB6.out.size)
              clear x0 x1
              rcases hd with hd | hd
              · skip
                have t1 : (T.toList == s.toList) = true := beq_yes hd
                have HD := Lib.hid hd
                obtain ⟨rl, f0⟩ := RB.out _ hb6
                have f1 := rl.f
                have q0 := rl.c.get 0 _ rfl
                have q1 := rl.c.get 1 _ rfl
                have zr := rl.c.1
                have x0 := (HX5.out _ hb56).c.get 0 _ rfl
                have x1 := (HX5.out _ hb56).c.get 1 _ rfl
                have zx := (HX5.out _ hb56).c.1
                have O6 := Lib.hid (HO.out.below hb56)
                have HB := Lib.hid (B1.out.trans (hb6.mono (by have := B1.out.size; omega)))
                clear rl hd
                go_wp2
                refine bodyPost_ret (v := .tuple #[.agg #[.int .i64 m', .slice oa on oc], .int .i64 0]) (by simp [results, Try.results10, go_sem, q0, q1, x0, x1, zr, zx]) rfl ?_
                have hr := (show rdG s = (((m' : Int), es'), 0) by rw [HRD.out, HRS.out]; simp [isGr, HG.out, HT.out, HD.out])
                rw [hr]
                exact ⟨_, rfl, ((O6.out.setLow (by have := Z3.out; simp; omega) _).setLow (by have := Z3.out; simp; omega) _).lower (by have := Z3.out; omega), (HB.out.setCell (by simp) _).setCell (by simp) _⟩
              · skip
                have t1 : (T.toList == s.toList) = false := beq_no hd
                have HD := Lib.hid hd
                clear hd
                obtain ⟨rl, f0⟩ := RB.out _ (hb6)
                have f1 := rl.f
                have q0 := rl.c.get 0 _ rfl
                have q1 := rl.c.get 1 _ rfl
                have zr := rl.c.1
                have HB := Lib.hid (B1.out.trans ((hb6).mono (by have := B1.out.size; omega)))
                clear rl
                go_wp2
                refine bodyPost_ret (v := .tuple #[.agg #[.int .i64 0, .slice none 0 0], .int .i64 5]) (by simp [results, Try.results10, go_sem, q0, q1, zr]) rfl ?_
                have hr := (show rdG s = ((0, []), 5) by rw [HRD.out, HRS.out]; simp [isGr, HG.out, HT.out, HD.out])
                rw [hr]
                exact ⟨_, rfl, OwnII.nil _ _, (HB.out.setCell (by simp) _).setCell (by simp) _⟩
    · have hne : ((h.length : Int) != 1) = true := by rw [bne_iff_ne]; omega
      have HNE := Lib.hid hl
      clear hl
      obtain ⟨rl, f0⟩ := RB.out _ (hb3)
      have f1 := rl.f
      have q0 := rl.c.get 0 _ rfl
      have q1 := rl.c.get 1 _ rfl
      have zr := rl.c.1
      have HB := Lib.hid (B1.out.trans ((hb3).mono (by have := B1.out.size; omega)))
      clear rl
      go_wp2
      refine bodyPost_ret (v := .tuple #[.agg #[.int .i64 0, .slice none 0 0], .int .i64 5]) (by simp [results, Try.results10, go_sem, q0, q1, zr]) rfl ?_
      have hr := (show rdG s = ((0, []), 5) by rw [HRD.out, HRI0.out]; simp [HNE.out])
      rw [hr]
      exact ⟨_, rfl, OwnII.nil _ _, (HB.out.setCell (by simp) _).setCell (by simp) _⟩
end Go.Proofs.Ytenemohjmemoiaa
namespace Go.Proofs.Ytenemohjmemoiaa
section
variable {P : Program} {ops : Array Oper} {md : Region.Mode} {C : World → Prop} {ex : List Nat} {Q : Exit → Act → World → Prop}
def wpAnyX (P : Program) (md : Region.Mode) (ops : Array Oper) (Q : Exit → Act → World → Prop) (C : World → Prop) (ex : List Nat) : Nat → Array Bool → Act → World → Prop
  | 0, listed, a, w => Region.ready md ops listed = [] ∧ Q .normal a w
  | fuel + 1, listed, a, w =>
    (Region.ready md ops listed = [] → Q .normal a w) ∧
    ∀ i ∈ Region.ready md ops listed, wpOp P ops Q i (fun a' w' => (i ∉ ex → C w → C w') ∧ wpAnyX P md ops Q C ex fuel (listed.setIfInBounds i true) a' w') a w
theorem wpAny_of_X : ∀ (fuel : Nat) (listed : Array Bool) (a : Act) (w : World), wpAnyX P md ops Q C ex fuel listed a w → wpAny P md ops Q fuel listed a w
  | 0, _, _, _, h => h
  | fuel + 1, _, _, _, h => ⟨h.1, fun i hi => wpOp_mono (fun a' w' h' => wpAny_of_X fuel _ a' w' h'.2) (h.2 i hi)⟩
/-- whatever has come up, what it waits for has -/
def ClosedX (md : Region.Mode) (ops : Array Oper) (listed : Array Bool) : Prop := ∀ j oj, ops[j]? = some oj → listed.getD j false = true → ∀ e ∈ oj.after, Region.binds md e = true → listed.getD e.on false = true
theorem ClosedX.first (n : Nat) : ClosedX md ops (Array.replicate n false) := fun j _ _ hl => by rw [getD_replicate_false] at hl; cases hl
theorem ClosedX.set {i : Nat} {listed : Array Bool} (inv : ClosedX md ops listed) (hi : i ∈ Region.ready md ops listed) : ClosedX md ops (listed.setIfInBounds i true) := by
  obtain ⟨_, oi, hoi, hall⟩ := mem_ready.1 hi
  intro j oj hj hl e he hb
  by_cases hij : i = j
  · subst hij
    have : oj = oi := Option.some.inj (hj.symm.trans hoi)
    subst this
    exact getD_set_true (hall e he hb)
  · rw [getD_set_ne false hij] at hl
    exact getD_set_true (inv j oj hj hl e he hb)
/-- j waits for i, over others -/
def ancX (md : Region.Mode) (ops : Array Oper) : Nat → Nat → Nat → Bool
  | 0, _, _ => false
  | f + 1, j, i => match ops[j]? with
    | some o => o.after.any fun e => Region.binds md e && (e.on == i || ancX md ops f e.on i)
    | none => false
theorem anc_listed {listed : Array Bool} (inv : ClosedX md ops listed) {i : Nat} : ∀ (f j : Nat) (o : Oper), ops[j]? = some o → ancX md ops f j i = true → (∀ e ∈ o.after, Region.binds md e = true → listed.getD e.on false = true) → listed.getD i false = true
  | 0, _, _, _, h, _ => by simp [ancX] at h
  | f + 1, j, o, ho, h, hall => by
    unfold ancX at h
    simp only [ho] at h
    obtain ⟨e, he, hb⟩ := Array.any_eq_true'.1 h
    simp only [Bool.and_eq_true, Bool.or_eq_true, beq_iff_eq] at hb
    have hl := hall e he hb.1
    rcases hb.2 with h2 | h2
    · rw [← h2]; exact hl
    · have ho2 : ∃ o2, ops[e.on]? = some o2 := by
        cases f with
        | zero => simp [ancX] at h2
        | succ f =>
          unfold ancX at h2
          cases ho2 : ops[e.on]? with
          | some o2 => exact ⟨o2, rfl⟩
          | none => simp [ho2] at h2
      obtain ⟨o2, ho2⟩ := ho2
      exact anc_listed inv f e.on o2 ho2 h2 (fun e2 he2 hb2 => inv e.on o2 ho2 hl e2 he2 hb2)
theorem wpAnyX_first {i : Nat} {oi : Oper} {v : Value} (hi : ops[i]? = some oi) (hsel : ∀ (j : Nat) (o : Oper) cs b, ops[j]? = some o → o.op ≠ .select cs b)
    (hQ : ∀ c a w, Q (.panic c) (a.put oi.dst v) w → Q (.panic c) a w) (hex : ∀ e ∈ ex, ∃ f, ancX md ops f e i = true) :
    ∀ (fuel : Nat) (listed : Array Bool) (a : Act) (w : World),
      (∀ j oj, ops[j]? = some oj → j ≠ i → listed.getD j true = false → (∀ e ∈ oj.after, Region.binds md e = true → e.on ≠ i) → oi.apart ops oj = true) →
      ClosedX md ops listed → i ∈ Region.ready md ops listed → YieldsIf P ops C oi v a → C w →
      wpAnyX P md ops Q C ex fuel (listed.setIfInBounds i true) (a.put oi.dst v) w → wpAnyX P md ops Q C ex (fuel + 1) listed a w := by
  intro fuel
  induction fuel with
  | zero =>
    intro listed a w _ _ hr hy hS H
    refine ⟨fun h => (by rw [h] at hr; cases hr), fun j hj => ?_⟩
    by_cases hji : j = i
    · subst hji; exact hy.wpOp hi hS ⟨fun _ h => h, H⟩
    · have := ready_mono hj hji
      rw [H.1] at this
      cases this
  | succ fuel ih =>
    intro listed a w hfree inv hr hy hS H
    refine ⟨fun h => (by rw [h] at hr; cases hr), fun j hj => ?_⟩
    by_cases hji : j = i
    · subst hji; exact hy.wpOp hi hS ⟨fun _ h => h, H⟩
    · have h1 := H.2 j (ready_mono hj hji)
      obtain ⟨hjun, oj, hoj, hall⟩ := mem_ready.1 hj
      have h0 := (mem_ready.1 hr).1
      have hnot : ∀ e ∈ oj.after, Region.binds md e = true → e.on ≠ i := fun e he hb heq => by
        have h1 := hall e he hb
        rw [heq, getD_both h0] at h1
        cases h1
      have hjx : j ∉ ex := fun hx => by
        obtain ⟨f, hf⟩ := hex j hx
        have := anc_listed inv f j oj hoj hf hall
        rw [getD_both h0] at this
        cases this
      have h2 := wpOp_putIf hoj (hfree j oj hoj hji hjun hnot) (fun cs b => hsel i oi cs b hi) (fun cs b => hsel j oj cs b hoj) hQ hy h1
      have hfree' : ∀ k ok, ops[k]? = some ok → k ≠ i → (listed.setIfInBounds j true).getD k true = false →
          (∀ e ∈ ok.after, Region.binds md e = true → e.on ≠ i) → oi.apart ops ok = true := fun k ok hk hki hun hno => by
        refine hfree k ok hk hki ?_ hno
        by_cases hjk : j = k
        · subst hjk; exact hjun
        · rw [getD_set_ne true hjk] at hun; exact hun
      refine wpOp_mono (fun a' w' h3 => ⟨h3.2.1, ih (listed.setIfInBounds j true) a' w' hfree' (inv.set hj) (ready_mono hr (Ne.symm hji)) h3.1 (h3.2.1 hjx hS) ?_⟩) h2
      rw [Array.setIfInBounds_comm _ _ hji]
      exact h3.2.2
/-- the same for what yields its value in whatever world -/
theorem wpAnyX_firstF {i : Nat} {oi : Oper} {v : Value} (hi : ops[i]? = some oi) (hsel : ∀ (j : Nat) (o : Oper) cs b, ops[j]? = some o → o.op ≠ .select cs b)
    (hQ : ∀ c a w, Q (.panic c) (a.put oi.dst v) w → Q (.panic c) a w) :
    ∀ (fuel : Nat) (listed : Array Bool) (a : Act) (w : World),
      (∀ j oj, ops[j]? = some oj → j ≠ i → listed.getD j true = false → (∀ e ∈ oj.after, Region.binds md e = true → e.on ≠ i) → oi.apart ops oj = true) →
      i ∈ Region.ready md ops listed → YieldsIf P ops (fun _ => True) oi v a →
      wpAnyX P md ops Q C ex fuel (listed.setIfInBounds i true) (a.put oi.dst v) w → wpAnyX P md ops Q C ex (fuel + 1) listed a w := by
  intro fuel
  induction fuel with
  | zero =>
    intro listed a w _ hr hy H
    refine ⟨fun h => (by rw [h] at hr; cases hr), fun j hj => ?_⟩
    by_cases hji : j = i
    · subst hji; exact hy.wpOp hi trivial ⟨fun _ h => h, H⟩
    · have := ready_mono hj hji
      rw [H.1] at this
      cases this
  | succ fuel ih =>
    intro listed a w hfree hr hy H
    refine ⟨fun h => (by rw [h] at hr; cases hr), fun j hj => ?_⟩
    by_cases hji : j = i
    · subst hji; exact hy.wpOp hi trivial ⟨fun _ h => h, H⟩
    · have h1 := H.2 j (ready_mono hj hji)
      obtain ⟨hjun, oj, hoj, hall⟩ := mem_ready.1 hj
      have h0 := (mem_ready.1 hr).1
      have hnot : ∀ e ∈ oj.after, Region.binds md e = true → e.on ≠ i := fun e he hb heq => by
        have h1 := hall e he hb
        rw [heq, getD_both h0] at h1
        cases h1
      have h2 := wpOp_putIf hoj (hfree j oj hoj hji hjun hnot) (fun cs b => hsel i oi cs b hi) (fun cs b => hsel j oj cs b hoj) hQ hy h1
      have hfree' : ∀ k ok, ops[k]? = some ok → k ≠ i → (listed.setIfInBounds j true).getD k true = false →
          (∀ e ∈ ok.after, Region.binds md e = true → e.on ≠ i) → oi.apart ops ok = true := fun k ok hk hki hun hno => by
        refine hfree k ok hk hki ?_ hno
        by_cases hjk : j = k
        · subst hjk; exact hjun
        · rw [getD_set_ne true hjk] at hun; exact hun
      refine wpOp_mono (fun a' w' h3 => ⟨h3.2.1, ih (listed.setIfInBounds j true) a' w' hfree' (ready_mono hr (Ne.symm hji)) h3.1 ?_⟩) h2
      rw [Array.setIfInBounds_comm _ _ hji]
      exact h3.2.2
/-! the moves -/
/-- the state of a walk: closed under what is waited for -/
def WX (P : Program) (ops : Array Oper) (Q : Exit → Act → World → Prop) (C : World → Prop) (ex : List Nat) (fuel : Nat) (listed : Array Bool) (a : Act) (w : World) : Prop :=
  ClosedX .any ops listed → wpAnyX P .any ops Q C ex fuel listed a w
def takeB (ops : Array Oper) (listed : Array Bool) (i : Nat) : Bool := Region.noSelect ops && Region.free .any ops listed i && (Region.ready .any ops listed).contains i
theorem wpX_free {i fuel : Nat} {oi : Oper} {v : Value} {listed : Array Bool} {a : Act} {w : World} (hi : ops[i]? = some oi) (hB : takeB ops listed i = true)
    (hQ : ∀ c a w, Q (.panic c) (a.put oi.dst v) w → Q (.panic c) a w) (hw : Region.wanted oi (yielded ops a.tmps) = true) (hy : ∀ w, (execOp a.eval oi).run P w = .ok (.value v) w)
    (h : WX P ops Q C ex fuel (listed.setIfInBounds i true) (a.put oi.dst v) w) : WX P ops Q C ex (fuel + 1) listed a w := fun hc => by
  unfold takeB at hB
  rw [Bool.and_eq_true, Bool.and_eq_true] at hB
  have hr : i ∈ Region.ready .any ops listed := by simpa using hB.2
  exact wpAnyX_firstF hi (Region.noSelect_spec hB.1.1) hQ fuel listed a w (Region.free_spec hi hB.1.2) hr (.inl ⟨hw, fun w _ => hy w⟩) (h (hc.set hr))
theorem wpX_load {i fuel : Nat} {oi : Oper} {v : Value} {listed : Array Bool} {a : Act} {w : World} (hi : ops[i]? = some oi) (hB : (takeB ops listed i && ex.all fun e => ancX .any ops ops.size e i) = true)
    (hQ : ∀ c a w, Q (.panic c) (a.put oi.dst v) w → Q (.panic c) a w) (hC : C w) (hw : Region.wanted oi (yielded ops a.tmps) = true) (hy : ∀ w, C w → (execOp a.eval oi).run P w = .ok (.value v) w)
    (h : WX P ops Q C ex fuel (listed.setIfInBounds i true) (a.put oi.dst v) w) : WX P ops Q C ex (fuel + 1) listed a w := fun hc => by
  rw [Bool.and_eq_true] at hB
  obtain ⟨hB, hx⟩ := hB
  unfold takeB at hB
  rw [Bool.and_eq_true, Bool.and_eq_true] at hB
  have hr : i ∈ Region.ready .any ops listed := by simpa using hB.2
  exact wpAnyX_first hi (Region.noSelect_spec hB.1.1) hQ (fun e he => ⟨ops.size, List.all_eq_true.1 hx e he⟩) fuel listed a w (Region.free_spec hi hB.1.2) hc hr (.inl ⟨hw, hy⟩) hC (h (hc.set hr))
/-- the one that can come up now -/
theorem wpX_one {i fuel : Nat} {oi : Oper} {listed : Array Bool} {a : Act} {w : World} (hi : ops[i]? = some oi) (hr : Region.ready .any ops listed = [i]) (hg : oi.guard = none)
    (h : ∀ K : Act → World → Prop, (∀ a' w', C w' → WX P ops Q C ex fuel (listed.setIfInBounds i true) a' w' → K a' w') → Oper.wp P oi a w K Q) : WX P ops Q C ex (fuel + 1) listed a w := fun hc => by
  refine ⟨fun h0 => (by rw [hr] at h0; cases h0), fun j hj => ?_⟩
  have hri : i ∈ Region.ready .any ops listed := by rw [hr]; simp
  rw [hr] at hj
  have hji : j = i := by simpa using hj
  subst hji
  unfold wpOp
  simp only [hi, Region.wanted, hg, if_true]
  exact .inl (h _ (fun a' w' hC hK => ⟨fun _ _ => hC, hK (hc.set hri)⟩))
def seqX (ops : Array Oper) : List Nat → Array Bool → Bool
  | [], listed => (Region.ready .any ops listed).isEmpty
  | i :: l, listed => decide (Region.ready .any ops listed = [i]) && seqX ops l (listed.setIfInBounds i true)
/-- the last ones, in front of which all that reads has come up -/
theorem wpX_rest : ∀ {t : List Nat} {l : List Oper} {listed : Array Bool} {a : Act} {w : World} (_ : l.map some = t.map (fun i => ops[i]?)) (_ : seqX ops t listed = true) (_ : t.all (fun i => ex.contains i) = true) (_ : wpList P ops Q l a w), WX P ops Q C ex t.length listed a w
  | [], l, listed, a, w, hl, hB, _, h => fun _ => by
    have : l = [] := by simpa using hl
    subst this
    exact ⟨by simpa [seqX] using hB, h⟩
  | i :: t, [], listed, a, w, hl, hB, hx, h => by simp at hl
  | i :: t, o :: l, listed, a, w, hl, hB, hx, h => fun hc => by
    simp only [List.map_cons, List.cons.injEq] at hl
    unfold seqX at hB
    rw [Bool.and_eq_true, decide_eq_true_eq] at hB
    rw [List.all_cons, Bool.and_eq_true] at hx
    refine ⟨fun h0 => (by rw [hB.1] at h0; cases h0), fun j hj => ?_⟩
    have hri : i ∈ Region.ready .any ops listed := by rw [hB.1]; simp
    rw [hB.1] at hj
    have hji : j = i := by simpa using hj
    subst hji
    have hw : wpOp P ops Q j (wpList P ops Q l) a w := by unfold wpOp; simp only [← hl.1]; exact h
    have hj2 : j ∈ ex := by simpa using hx.1
    exact wpOp_mono (fun a' w' h' => ⟨fun hn => absurd hj2 hn, wpX_rest hl.2 hB.2 hx.2 h' (hc.set hri)⟩) hw
/-- the beginning -/
theorem wpX_start (C : World → Prop) (ex : List Nat) {id : Nat} {a : Act} {w : World} (hm : P.follows .mixedOrders = true)
    (h : WX P ops Q C ex ops.size (Array.replicate ops.size false) a w.drew) : (Code.region id ops true).wp P Q a w :=
  wp_region_any hm (wpAny_of_X _ _ _ _ (h (ClosedX.first _)))
end
end Go.Proofs.Ytenemohjmemoiaa
