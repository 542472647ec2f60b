/-
  The program's plant: a crash. With it: The reference's plant: a worker works. The program's plant: a sample is handed out.
-/
import Derived.Test.YtijpkcdalmlaiaaZRowFinishDeeds31
import Derived.Test.YtijpkcdalmlaiaaZRowFinishDeeds14
import Derived.Test.YtijpkcdalmlaiaaZRowFinishDeeds29
import Derived.Test.YtijpkcdalmlaiaaZRowFinishDeeds23
set_option linter.unusedVariables false
set_option linter.unusedSimpArgs false
namespace Go.Proofs.Ytijpkcdalmlaiaa
open Go.RowKit Go.Sort
theorem RunIs.own {w : World} {b sb : Nat} {B : Nat → Prop} {S : PS} {vl vr ve vh vw vo : Value} (h : RunIs w b sb B S vl vr ve vh vw vo) : RunIs w b sb (OwnB b S vl vr ve vh vw vo) S vl vr ve vh vw vo := ⟨h.toPlIs.own, h.c0⟩

set_option maxRecDepth 100000 in
set_option maxHeartbeats 4000000 in
theorem RnWorker_2 {b sb sm wk n : Nat} {t bs : Int} {sv : Value} {xss : List (List Int)} {M : Nat} {B : Nat → Prop} {S : PS} {vl vr ve vh vw vo : Value} {a : Nat} (w : World) (P : RunIs w b sb B S vl vr ve vh vw vo) (V : SvF M w sb n t sv xss bs sm wk) (hB : ∀ k, B k → M ≤ k) (hI : PInv n sm wk S) (hs : 1 ≤ sm ∧ sm ≤ 8) (hwk : 1 ≤ wk ∧ wk ≤ 4) (hch : chainOk n t xss = true) (hbs : 0 ≤ bs ∧ bs ≤ 999999992) (ha : a ≤ 999) :
    Calls Try.prog 102 #[.pointer (some ⟨b, 0, none⟩), .agg #[.int .i64 2, .int .i64 a]] w (DoR b sb B (workS t xss bs wk a S) w) := by
  have HBM := Lib.hid hB
  have HIN := Lib.hid hI
  have b1 : Below w.heap.size w (w.alloc (.cells #[.int .i64 2, .int .i64 a] 68)) := (Below.refl _ _).alloc (Nat.le_refl _) _
  have K1 := Lib.hid (CellsAt.new w [.int .i64 2, .int .i64 a] 68)
  obtain ⟨W1, hW1⟩ : ∃ W1, W1 = w.alloc (.cells #[.int .i64 2, .int .i64 a] 68) := ⟨_, rfl⟩
  rw [show (w.alloc (.cells ([.int .i64 2, .int .i64 a] : List Value).toArray 68)) = W1 from hW1.symm] at K1
  rw [← hW1] at b1
  have P1 := Lib.hid (P.below b1)
  have B1 := Lib.hid b1
  have HB := Lib.hid P.ownB
  have HL := Lib.hid P.ownLt
  have F1 := Lib.hid (Fs.of_below (S := B) b1)
  have HZ1 := Lib.hid (show W1.heap.size = w.heap.size + 1 by rw [hW1]; simp)
  have HW1 := Lib.hid hW1.symm
  have V1 := Lib.hid (V.fs F1.out hB)
  have hbl := P1.out.blt
  have HHL := Lib.hid hI.hl
  have k0 := K1.out.get 0 _ rfl
  have k1 := K1.out.get 1 _ rfl
  have q0 := P1.out.c0
  obtain ⟨_, _, _, _, _, s5⟩ := servCells V1.out.now.1
  have kk1 := fun d os => cell_regrown k1 d os
  have kq0 := fun d os => cell_regrown q0 d os
  have ks5 := fun d os => cell_regrown s5 d os
  clear P b1 hW1 hI V hB k1 q0 s5
  by_cases hr : (wk : Int) ≤ a
  · rw [show workS t xss bs wk a S = (2, S) by unfold workS; rw [if_pos hr]]
    go_enter Try.func102, Try.ntmps102
    go_wp2_with fail
    rw [HW1.out]
    refine wp_region_quiet_below (by kernel_rfl) (by kernel_rfl) ?_
    repeat (first | go_big_quiet_skip | quiet_step (fail))
    refine wpQuiet_nil ?_
    intro _ hw'
    obtain ⟨⟨dq, osq⟩, hw''⟩ := hw'
    subst hw''
    have bq := below_regrown W1 dq osq
    generalize grow (redrawn W1 dq) osq = wq at bq ⊢
    clear kk1 kq0 ks5 k0
    go_wp2
    go_ret
    exact DoR.mk rfl ((P1.out.below bq).mono (fun k hk => .inl hk)) (F1.out.trans (Fs.of_below bq))
  · have HNR := Lib.hid hr
    have hal : a < S.hands.length := by rw [HHL.out]; omega
    have hle : (a : Int) < (wk : Int) := by omega
    clear hr
    go_enter Try.func102, Try.ntmps102
    go_wp2_with fail
    rw [HW1.out]
    refine wp_region_quiet_below (by kernel_rfl) (by kernel_rfl) ?_
    repeat (first | go_big_quiet_skip | quiet_step (fail))
    refine wpQuiet_nil ?_
    intro _ hw'
    obtain ⟨⟨dq, osq⟩, hw''⟩ := hw'
    subst hw''
    have bq := below_regrown W1 dq osq
    generalize grow (redrawn W1 dq) osq = wq at bq ⊢
    have P2 := Lib.hid (P1.out.below bq)
    have F2 := Lib.hid (F1.out.trans (Fs.of_below bq))
    have K2 := Lib.hid (K1.out.below bq)
    have V2 := Lib.hid (V1.out.fs (Fs.of_below (S := B) bq) HBM.out)
    have HZ2 := Lib.hid (show w.heap.size ≤ wq.heap.size by have := bq.size; have := HZ1.out; omega)
    have hk0 := K2.out.get 0 _ rfl
    clear kk1 kq0 ks5 k0 bq
    have HE := Lib.hid (show workS t xss bs wk a S = if (S.hands.getD a noHand).1 = false then (4, S) else if S.wire.length = 12 then (3, S)
      else (0, handOff a { S with wire := S.wire ++ [(true, (a : Int), (S.hands.getD a noHand).2.1, (S.hands.getD a noHand).2.2, winMet (lvR t xss bs (S.hands.getD a noHand)), winState (lvR t xss bs (S.hands.getD a noHand)))] }) by
        unfold workS; rw [if_neg (show ¬ (wk : Int) ≤ a by omega), Int.toNat_natCast])
    have HG : S.hands.getD a noHand = S.hands[a] := by simp [hal]
    obtain ⟨g, hcp, rfl, hglt⟩ := P2.out.oh.form (by omega)
    obtain ⟨h0, h1, h2⟩ := FHand_cell P2.out.oh hal
    have hok := HIN.out.hands _ (List.getElem_mem hal)
    rw [HG] at HE
    generalize S.hands[a] = x at h0 h1 h2 hok HE
    obtain ⟨busy, j0, k0⟩ := x
    obtain ⟨o1, o2, o3, o4⟩ := hok
    dsimp only at h0 h1 h2 o1 o2 o3 o4 HE
    obtain ⟨j, rfl⟩ := Int.eq_ofNat_of_zero_le o1
    obtain ⟨k, rfl⟩ := Int.eq_ofNat_of_zero_le o3
    have a0 : (0 : Int) ≤ (a : Int) := by omega
    have a1 : (a : Int) < (S.hands.length : Int) := by omega
    have CQ := Lib.hid (show ∀ W, Below wq.heap.size wq W → (W.cell? ⟨b, 6, none⟩ = some (.slice (some ⟨g, 0, none⟩) S.hands.length hcp) ∧ W.cell? ⟨w.heap.size, 1, none⟩ = some (.int .i64 a) ∧ W.cell? ⟨g, a * 3, none⟩ = some (.bool busy) ∧ W.cell? ⟨g, a * 3 + 1, none⟩ = some (.int .i64 j) ∧ W.cell? ⟨g, a * 3 + 2, none⟩ = some (.int .i64 k)) from fun W h => ⟨(P2.out.below h).get.2.2.1, (K2.out.below h).get 1 _ rfl, (h.cell (p := ⟨g, a * 3, none⟩) hglt).trans h0, (h.cell (p := ⟨g, a * 3 + 1, none⟩) hglt).trans h1, (h.cell (p := ⟨g, a * 3 + 2, none⟩) hglt).trans h2⟩)
    have HQ2 := Lib.hid (show w.heap.size < wq.heap.size from K2.out.1)
    have HAL := Lib.hid hal
    clear HG o1 o3 h0 h1 h2
    go_wp2_with fail
    refine wpX_start (fun W => W.cell? ⟨b, 6, none⟩ = some (.slice (some ⟨g, 0, none⟩) S.hands.length hcp) ∧ W.cell? ⟨w.heap.size, 1, none⟩ = some (.int .i64 a) ∧ W.cell? ⟨g, a * 3, none⟩ = some (.bool busy) ∧ W.cell? ⟨g, a * 3 + 1, none⟩ = some (.int .i64 j) ∧ W.cell? ⟨g, a * 3 + 2, none⟩ = some (.int .i64 k)) [] (by kernel_rfl) ?_
    have hC := CQ.out wq.drew (Below.refl wq.heap.size wq).drew
    refine wpX_free (i := 0) (v := ?_) rfl (by kernel_rfl) (fun _ _ _ h => h) rfl (fun w' => ?_) ?_
    rotate_left
    · go_simp; try with_reducible rfl
    try simp only [Act.put, List.setIfInBounds_toArray, List.set_cons_zero, List.set_cons_succ]
    refine wpX_free (i := 1) (v := ?_) rfl (by kernel_rfl) (fun _ _ _ h => h) rfl (fun w' => ?_) ?_
    rotate_left
    · go_simp; try with_reducible rfl
    try simp only [Act.put, List.setIfInBounds_toArray, List.set_cons_zero, List.set_cons_succ]
    refine wpX_free (i := 2) (v := ?_) rfl (by kernel_rfl) (fun _ _ _ h => h) rfl (fun w' => ?_) ?_
    rotate_left
    · go_simp; try with_reducible rfl
    try simp only [Act.put, List.setIfInBounds_toArray, List.set_cons_zero, List.set_cons_succ]
    refine wpX_free (i := 3) (v := ?_) rfl (by kernel_rfl) (fun _ _ _ h => h) rfl (fun w' => ?_) ?_
    rotate_left
    · go_simp; try with_reducible rfl
    try simp only [Act.put, List.setIfInBounds_toArray, List.set_cons_zero, List.set_cons_succ]
    refine wpX_load (i := 4) (v := ?_) rfl (by kernel_rfl) (fun _ _ _ h => h) hC rfl (fun w' hw' => ?_) ?_
    rotate_left
    · obtain ⟨k1, k2, k3, k4, k5⟩ := hw'; go_simp; try with_reducible rfl
    try simp only [Act.put, List.setIfInBounds_toArray, List.set_cons_zero, List.set_cons_succ]
    refine wpX_free (i := 5) (v := ?_) rfl (by kernel_rfl) (fun _ _ _ h => h) rfl (fun w' => ?_) ?_
    rotate_left
    · go_simp; try with_reducible rfl
    try simp only [Act.put, List.setIfInBounds_toArray, List.set_cons_zero, List.set_cons_succ]
    refine wpX_load (i := 6) (v := ?_) rfl (by kernel_rfl) (fun _ _ _ h => h) hC rfl (fun w' hw' => ?_) ?_
    rotate_left
    · obtain ⟨k1, k2, k3, k4, k5⟩ := hw'; go_simp; try with_reducible rfl
    try simp only [Act.put, List.setIfInBounds_toArray, List.set_cons_zero, List.set_cons_succ]
    refine wpX_free (i := 7) (v := ?_) rfl (by kernel_rfl) (fun _ _ _ h => h) rfl (fun w' => ?_) ?_
    rotate_left
    · go_simp; try with_reducible rfl
    try simp only [Act.put, List.setIfInBounds_toArray, List.set_cons_zero, List.set_cons_succ]
    refine wpX_load (i := 8) (v := ?_) rfl (by kernel_rfl) (fun _ _ _ h => h) hC rfl (fun w' hw' => ?_) ?_
    rotate_left
    · obtain ⟨k1, k2, k3, k4, k5⟩ := hw'; go_simp; try with_reducible rfl
    try simp only [Act.put, List.setIfInBounds_toArray, List.set_cons_zero, List.set_cons_succ]
    refine wpX_one (i := 9) rfl (by kernel_rfl) rfl ?_
    intro K hK
    go_simp
    refine hK _ _ (CQ.out _ (by (repeat (first | exact Below.refl _ _ | refine Below.drew ?_ | refine Below.alloc ?_ (by simp) _)))) ?_
    have hC := CQ.out _ (show Below wq.heap.size wq (wq.alloc (.cells #[.bool false, .int .i64 0, .int .i64 0] 123)).drew from ((Below.refl _ _).alloc (Nat.le_refl _) _).drew)
    clear hK K
    try simp only [Act.put, List.setIfInBounds_toArray, List.set_cons_zero, List.set_cons_succ]
    refine wpX_one (i := 10) rfl (by kernel_rfl) rfl ?_
    intro K hK
    go_simp
    refine hK _ _ (CQ.out _ (by (repeat (first | exact Below.refl _ _ | refine Below.drew ?_ | refine Below.alloc ?_ (by simp) _)))) ?_
    have hC := CQ.out _ (show Below wq.heap.size wq (wq.alloc (.cells #[.bool busy, .int .i64 j, .int .i64 k] 123)).drew from ((Below.refl _ _).alloc (Nat.le_refl _) _).drew)
    clear hK K
    try simp only [Act.put, List.setIfInBounds_toArray, List.set_cons_zero, List.set_cons_succ]
    refine wpX_rest (t := []) (l := []) rfl (by kernel_rfl) (by kernel_rfl) ?_
    clear hC
    obtain ⟨W3, hW3⟩ : ∃ W3, W3 = (wq.alloc (.cells #[.bool busy, .int .i64 j, .int .i64 k] 123)).drew := ⟨_, rfl⟩
    have b3 : Below wq.heap.size wq W3 := by rw [hW3]; exact ((Below.refl _ _).alloc (Nat.le_refl _) _).drew
    have P3 := Lib.hid (P2.out.below b3)
    have F3 := Lib.hid (F2.out.trans (Fs.of_below b3))
    have K3 := Lib.hid (K2.out.below b3)
    have V3 := Lib.hid (V2.out.fs (Fs.of_below (S := B) b3) HBM.out)
    have H3 := Lib.hid (show CellsAt W3 wq.heap.size [.bool busy, .int .i64 j, .int .i64 k] by rw [hW3]; exact (CellsAt.new wq [.bool busy, .int .i64 j, .int .i64 k] 123).below (Below.refl _ _).drew)
    have HZ3 := Lib.hid (Nat.le_trans HZ2.out b3.size)
    have HS3 := Lib.hid (show wq.heap.size < W3.heap.size by rw [hW3]; simp)
    have HW3 := Lib.hid hW3.symm
    clear b3 hW3 hk0 CQ
    rw [HW3.out]
    have z0 := H3.out.get 0 _ rfl
    cases busy
    · have HR := Lib.hid (HE.out.trans (if_pos rfl))
      go_wp2
      go_ret
      exact DoR.mk HR.out (P3.out.mono (fun k hk => .inl hk)) F3.out
    · have HR := Lib.hid (HE.out.trans (if_neg (by decide)))
      have hlv : lvR t xss bs (true, (j : Int), (k : Int)) = lvlRun t xss (bs + j) k := by unfold lvR; rw [Int.toNat_natCast]
      rw [hlv] at HR
      have hseed : IntKind.i64.wrap (bs + (j : Int)) = bs + j := IntWalk.i64_in _ (by omega)
      have CX := Lib.hid (show ∀ W, Below W3.heap.size W3 W → (W.cell? ⟨b, 0, none⟩ = some (.pointer (some ⟨sb, 0, none⟩)) ∧ W.cell? ⟨sb, 3, none⟩ = some (.int .i64 bs) ∧ W.cell? ⟨wq.heap.size, 1, none⟩ = some (.int .i64 j) ∧ W.cell? ⟨wq.heap.size, 2, none⟩ = some (.int .i64 k)) from fun W h => ⟨(P3.out.below h).c0, (servCells (V3.out.get W (h.mono V3.out.le)).1).2.2.2.1, (H3.out.below h).get 1 _ rfl, (H3.out.below h).get 2 _ rfl⟩)
      have VD := Lib.hid (V3.out.step ((Below.refl W3.heap.size W3).drew.mono V3.out.le))
      clear HE hlv
      go_wp2_with fail
      clear z0
      refine wpX_start (fun W => W.cell? ⟨b, 0, none⟩ = some (.pointer (some ⟨sb, 0, none⟩)) ∧ W.cell? ⟨sb, 3, none⟩ = some (.int .i64 bs) ∧ W.cell? ⟨wq.heap.size, 1, none⟩ = some (.int .i64 j) ∧ W.cell? ⟨wq.heap.size, 2, none⟩ = some (.int .i64 k)) [] (by kernel_rfl) ?_
      have hC := CX.out W3.drew (Below.refl W3.heap.size W3).drew
      refine wpX_free (i := 0) (v := ?_) rfl (by kernel_rfl) (fun _ _ _ h => h) rfl (fun w' => ?_) ?_
      rotate_left
      · go_simp; try with_reducible rfl
      try simp only [Act.put, List.setIfInBounds_toArray, List.set_cons_zero, List.set_cons_succ]
      refine wpX_free (i := 1) (v := ?_) rfl (by kernel_rfl) (fun _ _ _ h => h) rfl (fun w' => ?_) ?_
      rotate_left
      · go_simp; try with_reducible rfl
      try simp only [Act.put, List.setIfInBounds_toArray, List.set_cons_zero, List.set_cons_succ]
      refine wpX_free (i := 2) (v := ?_) rfl (by kernel_rfl) (fun _ _ _ h => h) rfl (fun w' => ?_) ?_
      rotate_left
      · go_simp; try with_reducible rfl
      try simp only [Act.put, List.setIfInBounds_toArray, List.set_cons_zero, List.set_cons_succ]
      refine wpX_load (i := 3) (v := ?_) rfl (by kernel_rfl) (fun _ _ _ h => h) hC rfl (fun w' hw' => ?_) ?_
      rotate_left
      · obtain ⟨k1, k2, k3, k4⟩ := hw'; go_simp; try with_reducible rfl
      try simp only [Act.put, List.setIfInBounds_toArray, List.set_cons_zero, List.set_cons_succ]
      refine wpX_free (i := 4) (v := ?_) rfl (by kernel_rfl) (fun _ _ _ h => h) rfl (fun w' => ?_) ?_
      rotate_left
      · go_simp; try with_reducible rfl
      try simp only [Act.put, List.setIfInBounds_toArray, List.set_cons_zero, List.set_cons_succ]
      refine wpX_free (i := 5) (v := ?_) rfl (by kernel_rfl) (fun _ _ _ h => h) rfl (fun w' => ?_) ?_
      rotate_left
      · go_simp; try with_reducible rfl
      try simp only [Act.put, List.setIfInBounds_toArray, List.set_cons_zero, List.set_cons_succ]
      refine wpX_free (i := 6) (v := ?_) rfl (by kernel_rfl) (fun _ _ _ h => h) rfl (fun w' => ?_) ?_
      rotate_left
      · go_simp; try with_reducible rfl
      try simp only [Act.put, List.setIfInBounds_toArray, List.set_cons_zero, List.set_cons_succ]
      refine wpX_free (i := 7) (v := ?_) rfl (by kernel_rfl) (fun _ _ _ h => h) rfl (fun w' => ?_) ?_
      rotate_left
      · go_simp; try with_reducible rfl
      try simp only [Act.put, List.setIfInBounds_toArray, List.set_cons_zero, List.set_cons_succ]
      refine wpX_free (i := 8) (v := ?_) rfl (by kernel_rfl) (fun _ _ _ h => h) rfl (fun w' => ?_) ?_
      rotate_left
      · go_simp; try with_reducible rfl
      try simp only [Act.put, List.setIfInBounds_toArray, List.set_cons_zero, List.set_cons_succ]
      refine wpX_load (i := 9) (v := ?_) rfl (by kernel_rfl) (fun _ _ _ h => h) hC rfl (fun w' hw' => ?_) ?_
      rotate_left
      · obtain ⟨k1, k2, k3, k4⟩ := hw'; go_simp; try with_reducible rfl
      try simp only [Act.put, List.setIfInBounds_toArray, List.set_cons_zero, List.set_cons_succ]
      refine wpX_free (i := 10) (v := ?_) rfl (by kernel_rfl) (fun _ _ _ h => h) rfl (fun w' => ?_) ?_
      rotate_left
      · go_simp; try with_reducible rfl
      try simp only [Act.put, List.setIfInBounds_toArray, List.set_cons_zero, List.set_cons_succ]
      refine wpX_free (i := 11) (v := ?_) rfl (by kernel_rfl) (fun _ _ _ h => h) rfl (fun w' => ?_) ?_
      rotate_left
      · go_simp; try with_reducible rfl
      try simp only [Act.put, List.setIfInBounds_toArray, List.set_cons_zero, List.set_cons_succ]
      refine wpX_load (i := 12) (v := ?_) rfl (by kernel_rfl) (fun _ _ _ h => h) hC rfl (fun w' hw' => ?_) ?_
      rotate_left
      · obtain ⟨k1, k2, k3, k4⟩ := hw'; go_simp; try with_reducible rfl
      try simp only [Act.put, List.setIfInBounds_toArray, List.set_cons_zero, List.set_cons_succ]
      refine wpX_free (i := 13) (v := ?_) rfl (by kernel_rfl) (fun _ _ _ h => h) rfl (fun w' => ?_) ?_
      rotate_left
      · go_simp; try with_reducible rfl
      try simp only [Act.put, List.setIfInBounds_toArray, List.set_cons_zero, List.set_cons_succ]
      refine wpX_load (i := 14) (v := ?_) rfl (by kernel_rfl) (fun _ _ _ h => h) hC rfl (fun w' hw' => ?_) ?_
      rotate_left
      · obtain ⟨k1, k2, k3, k4⟩ := hw'; go_simp; try with_reducible rfl
      try simp only [Act.put, List.setIfInBounds_toArray, List.set_cons_zero, List.set_cons_succ]
      refine wpX_free (i := 15) (v := ?_) rfl (by kernel_rfl) (fun _ _ _ h => h) rfl (fun w' => ?_) ?_
      rotate_left
      · go_simp; try with_reducible rfl
      try simp only [Act.put, List.setIfInBounds_toArray, List.set_cons_zero, List.set_cons_succ]
      refine wpX_free (i := 16) (v := ?_) rfl (by kernel_rfl) (fun _ _ _ h => h) rfl (fun w' => ?_) ?_
      rotate_left
      · go_simp; try with_reducible rfl
      try simp only [Act.put, List.setIfInBounds_toArray, List.set_cons_zero, List.set_cons_succ]
      refine wpX_load (i := 17) (v := ?_) rfl (by kernel_rfl) (fun _ _ _ h => h) hC rfl (fun w' hw' => ?_) ?_
      rotate_left
      · obtain ⟨k1, k2, k3, k4⟩ := hw'; go_simp; try with_reducible rfl
      try simp only [Act.put, List.setIfInBounds_toArray, List.set_cons_zero, List.set_cons_succ]
      refine wpX_one (i := 18) rfl (by kernel_rfl) rfl ?_
      intro K hK
      go_simp
      go_at_call 125
      refine (l09Level_any sb 0 n t (bs + j) k _ (VD.out.now.1.1) VD.out.now.2 hch (by omega) (by omega) (by omega)).mono ?_
      rintro e w4 ⟨rfl, b4⟩
      have b40 := (Below.refl W3.heap.size W3).drew.trans b4
      have hC := CX.out w4 b40
      refine hK _ _ hC ?_
      clear hK K
      have P4 := Lib.hid (P3.out.below b40)
      have F4 := Lib.hid (F3.out.trans (Fs.of_below b40))
      have K4 := Lib.hid (K3.out.below b40)
      have H4 := Lib.hid (H3.out.below b40)
      have HZ4 := Lib.hid (show w.heap.size ≤ w4.heap.size from Nat.le_trans HZ3.out b40.size)
      have HS4 := Lib.hid (show wq.heap.size < w4.heap.size from Nat.lt_of_lt_of_le HS3.out b40.size)
      clear b4 b40
      generalize winMet (lvlRun t xss (bs + j) k) = mt at HR ⊢
      generalize winState (lvlRun t xss (bs + j) k) = st at HR ⊢
      try simp only [Act.put, List.setIfInBounds_toArray, List.set_cons_zero, List.set_cons_succ]
      refine wpX_free (i := 19) (v := ?_) rfl (by kernel_rfl) (fun _ _ _ h => h) rfl (fun w' => ?_) ?_
      rotate_left
      · go_simp; try with_reducible rfl
      try simp only [Act.put, List.setIfInBounds_toArray, List.set_cons_zero, List.set_cons_succ]
      refine wpX_free (i := 20) (v := ?_) rfl (by kernel_rfl) (fun _ _ _ h => h) rfl (fun w' => ?_) ?_
      rotate_left
      · go_simp; try with_reducible rfl
      try simp only [Act.put, List.setIfInBounds_toArray, List.set_cons_zero, List.set_cons_succ]
      refine wpX_free (i := 21) (v := ?_) rfl (by kernel_rfl) (fun _ _ _ h => h) rfl (fun w' => ?_) ?_
      rotate_left
      · go_simp; try with_reducible rfl
      try simp only [Act.put, List.setIfInBounds_toArray, List.set_cons_zero, List.set_cons_succ]
      refine wpX_free (i := 22) (v := ?_) rfl (by kernel_rfl) (fun _ _ _ h => h) rfl (fun w' => ?_) ?_
      rotate_left
      · go_simp; try with_reducible rfl
      try simp only [Act.put, List.setIfInBounds_toArray, List.set_cons_zero, List.set_cons_succ]
      refine wpX_free (i := 23) (v := ?_) rfl (by kernel_rfl) (fun _ _ _ h => h) rfl (fun w' => ?_) ?_
      rotate_left
      · go_simp; try with_reducible rfl
      try simp only [Act.put, List.setIfInBounds_toArray, List.set_cons_zero, List.set_cons_succ]
      refine wpX_rest (t := []) (l := []) rfl (by kernel_rfl) (by kernel_rfl) ?_
      have y1 := H4.out.get 1 _ rfl
      have y2 := H4.out.get 2 _ rfl
      have y3 := K4.out.get 1 _ rfl
      clear hC
      go_wp2_with fail
      have P4o := Lib.hid (P4.out.own)
      have HOB := Lib.hid P4.out.toPlIs.ownB
      have HOL := Lib.hid (show ¬ OwnB b S vl vr ve (.slice (some ⟨g, 0, none⟩) S.hands.length hcp) vw vo w.heap.size from fun h => by have := HL.out w.heap.size h; omega)
      refine (RnSend_any true a j k mt st _ P4o.out HIN.out.wl).mono ?_
      intro e w5 h
      by_cases h12 : S.wire.length = 12
      · rw [show sendS S (true, (a : Int), (j : Int), (k : Int), mt, st) = (3, S) by unfold sendS; rw [if_pos h12]] at h
        have HR := Lib.hid (HR.out.trans (if_pos h12))
        obtain ⟨rfl, ⟨vl5, vr5, ve5, vh5, vw5, vo5, P5⟩, F5⟩ := h
        have P5 := Lib.hid (P5.mono (B' := Bm B w.heap.size) (fun k hk => hk.elim (fun h => .inl (HOB.out k h)) (fun h => .inr (Nat.le_trans HZ4.out h))))
        have F5 := Lib.hid (F4.out.trans (F5.mono HOB.out))
        clear h12 y1 y2 y3
        go_wp2
        go_ret
        exact DoR.mk HR.out P5.out F5.out
      · rw [show sendS S (true, (a : Int), (j : Int), (k : Int), mt, st) = (0, { S with wire := S.wire ++ [(true, (a : Int), (j : Int), (k : Int), mt, st)] }) by unfold sendS; rw [if_neg h12]] at h
        have HR := Lib.hid (HR.out.trans (if_neg h12))
        obtain ⟨rfl, ⟨vl5, vr5, ve5, vh5, vw5, vo5, P5⟩, F5⟩ := h
        have K5 := Lib.hid (K4.out.fs F5 HOL.out)
        have P5 := P5.mono (B' := Bm B w.heap.size) (fun k hk => hk.elim (fun h => .inl (HOB.out k h)) (fun h => .inr (Nat.le_trans HZ4.out h)))
        have F5 := Lib.hid (F4.out.trans (F5.mono HOB.out))
        obtain ⟨g, hcp, rfl, _⟩ := P5.oh.form (show 0 < S.hands.length by omega)
        have P5 := Lib.hid P5
        clear h12 y1 y2 y3
        have CW := Lib.hid (show ∀ W, Below w5.heap.size w5 W → (W.cell? ⟨b, 6, none⟩ = some (.slice (some ⟨g, 0, none⟩) S.hands.length hcp) ∧ W.cell? ⟨w.heap.size, 1, none⟩ = some (.int .i64 a)) from fun W h => ⟨(P5.out.below h).get.2.2.1, (K5.out.below h).get 1 _ rfl⟩)
        go_wp2_with fail
        refine wpX_start (fun W => W.cell? ⟨b, 6, none⟩ = some (.slice (some ⟨g, 0, none⟩) S.hands.length hcp) ∧ W.cell? ⟨w.heap.size, 1, none⟩ = some (.int .i64 a)) [9] (by kernel_rfl) ?_
        have hC := CW.out w5.drew (Below.refl w5.heap.size w5).drew
        refine wpX_free (i := 0) (v := ?_) rfl (by kernel_rfl) (fun _ _ _ h => h) rfl (fun w' => ?_) ?_
        rotate_left
        · go_simp; try with_reducible rfl
        try simp only [Act.put, List.setIfInBounds_toArray, List.set_cons_zero, List.set_cons_succ]
        refine wpX_free (i := 1) (v := ?_) rfl (by kernel_rfl) (fun _ _ _ h => h) rfl (fun w' => ?_) ?_
        rotate_left
        · go_simp; try with_reducible rfl
        try simp only [Act.put, List.setIfInBounds_toArray, List.set_cons_zero, List.set_cons_succ]
        refine wpX_free (i := 2) (v := ?_) rfl (by kernel_rfl) (fun _ _ _ h => h) rfl (fun w' => ?_) ?_
        rotate_left
        · go_simp; try with_reducible rfl
        try simp only [Act.put, List.setIfInBounds_toArray, List.set_cons_zero, List.set_cons_succ]
        refine wpX_free (i := 3) (v := ?_) rfl (by kernel_rfl) (fun _ _ _ h => h) rfl (fun w' => ?_) ?_
        rotate_left
        · go_simp; try with_reducible rfl
        try simp only [Act.put, List.setIfInBounds_toArray, List.set_cons_zero, List.set_cons_succ]
        refine wpX_load (i := 4) (v := ?_) rfl (by kernel_rfl) (fun _ _ _ h => h) hC rfl (fun w' hw' => ?_) ?_
        rotate_left
        · obtain ⟨k1, k2⟩ := hw'; go_simp; try with_reducible rfl
        try simp only [Act.put, List.setIfInBounds_toArray, List.set_cons_zero, List.set_cons_succ]
        refine wpX_free (i := 5) (v := ?_) rfl (by kernel_rfl) (fun _ _ _ h => h) rfl (fun w' => ?_) ?_
        rotate_left
        · go_simp; try with_reducible rfl
        try simp only [Act.put, List.setIfInBounds_toArray, List.set_cons_zero, List.set_cons_succ]
        refine wpX_load (i := 6) (v := ?_) rfl (by kernel_rfl) (fun _ _ _ h => h) hC rfl (fun w' hw' => ?_) ?_
        rotate_left
        · obtain ⟨k1, k2⟩ := hw'; go_simp; try with_reducible rfl
        try simp only [Act.put, List.setIfInBounds_toArray, List.set_cons_zero, List.set_cons_succ]
        refine wpX_free (i := 7) (v := ?_) rfl (by kernel_rfl) (fun _ _ _ h => h) rfl (fun w' => ?_) ?_
        rotate_left
        · go_simp; try with_reducible rfl
        try simp only [Act.put, List.setIfInBounds_toArray, List.set_cons_zero, List.set_cons_succ]
        refine wpX_free (i := 8) (v := ?_) rfl (by kernel_rfl) (fun _ _ _ h => h) rfl (fun w' => ?_) ?_
        rotate_left
        · go_simp; try with_reducible rfl
        try simp only [Act.put, List.setIfInBounds_toArray, List.set_cons_zero, List.set_cons_succ]
        refine wpX_rest (t := [9]) (l := [_]) rfl (by kernel_rfl) (by kernel_rfl) ?_
        clear hC
        have P3 := P5.out
        have hp := P3.toPlIs.oh
        have f0 := hp.free (a * 3)
        have f1 := hp.free (a * 3 + 1)
        have f2 := hp.free (a * 3 + 2)
        have hq := FHand_cell hp (show a < S.hands.length from HAL.out)
        have y0 := hq.1
        have y1 := hq.2.1
        have y2 := hq.2.2
        clear hq
        have PN := P3.part0 (S' := handOff a { S with wire := S.wire ++ [(true, (a : Int), (j : Int), (k : Int), mt, st)] }) 3 (c' := FHand.ch (.slice (some ⟨g, 0, none⟩) S.hands.length hcp) (S.hands.set a noHand)) rfl rfl rfl (w2 := ((w5.setCell ⟨g, a * 3, none⟩ (.bool false)).setCell ⟨g, a * 3 + 1, none⟩ (.int .i64 0)).setCell ⟨g, a * 3 + 2, none⟩ (.int .i64 0)) (grown_set3 _ g _ _ _ _ _ _) (FHand.set_cells hp a noHand HAL.out) rfl P3.len P3.pos
        have FY := Fs.of_grown (S := Bm B w.heap.size) (grown_set3 w5 g (a * 3) (a * 3 + 1) (a * 3 + 2) (.bool false) (.int .i64 0) (.int .i64 0)) (fun k hk => P3.inB 4 k (by rw [← hk]; rfl))
        have FY := F5.out.bm FY (Nat.le_refl _)
        have PN := Lib.hid (PN.below (Below.refl _ _).drew)
        have FY := Lib.hid (FY.trans (Fs.of_below (Below.refl _ _).drew))
        clear P3 hp
        go_wp2
        go_ret
        exact DoR.mk HR.out (PN.out) FY.out
end Go.Proofs.Ytijpkcdalmlaiaa
namespace Go.Proofs.Ytijpkcdalmlaiaa
open Go.RowKit Go.Sort

set_option maxRecDepth 100000 in
set_option maxHeartbeats 4000000 in
theorem PlOut_any {b sm wk n : Nat} {B : Nat → Prop} {S : PS} {vl vr ve vh vw vo : Value} (w : World) (P : PlIs w b 0 B S vl vr ve vh vw vo) (hI : PInv n sm wk S) (hs : 1 ≤ sm ∧ sm ≤ 8) :
    Calls Try.prog 89 #[.pointer (some ⟨b, 0, none⟩)] w (DoP b B (outS sm S) w) := by
  obtain ⟨hs1, hs8⟩ := hs
  have HD := Lib.hid (hI.plOk hs1 hs8)
  obtain ⟨d1, d2, d3, d4, d5⟩ := hI.desk.ok
  replace d1 : S.l.length = sm := d1
  replace d4 : 0 ≤ S.q := d4
  replace d5 : S.q ≤ (sm : Int) := d5
  have hol : (S.out.length : Int) = S.q := hI.outs
  have hrl := hI.len
  have HOK := Lib.hid (hI.plOk' hs1 hs8)
  have HB := Lib.hid P.ownB
  have HL := Lib.hid P.ownLt
  obtain ⟨j, hj⟩ : ∃ j : Nat, S.q = (j : Int) := ⟨S.q.toNat, by omega⟩
  obtain ⟨gl, cl, gr, cr, rfl, rfl, _⟩ := P.desk
  obtain ⟨oa, oc, rfl, _, _⟩ := P.oo'.shape
  obtain ⟨⟨_, q1, q2, _⟩, _, _, _, q7⟩ := P.get
  rw [hj] at q2
  have P0 := Lib.hid P
  have D1 := Lib.hid d1
  have hbl := P.blt
  have RL := Lib.hid (show S.r.length = S.l.length from P.len)
  clear P hI
  by_cases he : S.q = (sm : Int)
  · have t1 : ((j : Int) == (S.l.length : Int)) = true := by rw [beq_iff_eq, d1]; omega
    have HR := Lib.hid (show outS sm S = (4, S) by unfold outS; rw [if_pos (.inl he)])
    clear he d1 d2 d3 d4 d5 hol hj
    go_enter Try.func89, Try.ntmps89
    go_wp2
    go_ret
    exact DoP.mk HR.out (P0.out.mono (fun k hk => .inl hk)) (Fs.refl _ _)
  · have hjl : j < S.l.length := by omega
    have hjr : j < S.r.length := by rw [RL.out]; exact hjl
    have t1 : ((j : Int) == (S.l.length : Int)) = false := by rw [beq_eq_false_iff_ne]; omega
    have y0 := P0.out.or_.cell hjr
    have GY := Lib.hid (show S.r.getD S.q.toNat 0 = S.r[j] by rw [hj, Int.toNat_natCast]; simp [hjr])
    generalize S.r[j] = y at y0 GY
    have i0 : (0 : Int) ≤ (j : Int) := by omega
    have i1 : (j : Int) < (S.l.length : Int) := by omega
    have Y0 := Lib.hid y0
    have HJ := Lib.hid hj
    by_cases hy : y = -1
    · have t2 : (y == (-1 : Int)) = true := by simp [hy]
      have HR := Lib.hid (show outS sm S = (4, S) by unfold outS; rw [if_pos (.inr (GY.out.trans hy))])
      clear he d1 d2 d3 d4 d5 hol hj hy
      go_enter Try.func89, Try.ntmps89
      go_wp2
      go_ret
      exact DoP.mk HR.out (P0.out.mono (fun k hk => .inl hk)) (Fs.refl _ _)
    · have t2 : (y == (-1 : Int)) = false := by simp [hy]
      have HR := Lib.hid (show outS sm S = (0, (fun T : PS => { T with sy := T.recs.length }) (writeS { S with out := S.out ++ [y] } (3, (j : Int), 0))) by
        unfold outS; rw [if_neg (fun h => h.elim he (fun h => hy (GY.out.symm.trans h))), GY.out, HJ.out])
      have hln : S.out.length + [y].length ≤ 16777216 := by simp; omega
      have hjs : j < sm := by omega
      have HPO := Lib.hid (HOK.out (S.out ++ [y]) (by simp; omega))
      clear he d1 d2 d3 d4 d5 hol hj hy
      go_enter Try.func89, Try.ntmps89
      go_wp2_with fail
      clear q1 q2 q7 y0
      have b1 : Below w.heap.size w (w.alloc (.cells #[.int .i64 y] 2)).drew := ((Below.refl _ _).alloc (Nat.le_refl _) _).drew
      obtain ⟨W1, hW1⟩ : ∃ W1, W1 = (w.alloc (.cells #[.int .i64 y] 2)).drew := ⟨_, rfl⟩
      rw [← hW1] at b1
      have P1 := Lib.hid (P0.out.below b1)
      have F1 := Lib.hid (Fs.of_below (S := B) b1)
      have HZ1 := Lib.hid b1.size
      have RD := Lib.hid (show Rd W1 (some ⟨w.heap.size, 0, none⟩) (FI.encs [y]) by
        rw [hW1]
        exact (rd_new w #[.int .i64 y] 2).below (Below.refl _ _).drew)
      have CW := Lib.hid (show ∀ W, Below w.heap.size w W → (W.cell? ⟨b, 7, none⟩ = some (.slice oa S.out.length oc) ∧ W.cell? ⟨b, 1, none⟩ = some (.slice (some ⟨gr, 0, none⟩) S.l.length cr) ∧ W.cell? ⟨gr, j, none⟩ = some (.int .i64 y)) from fun W h => by
        obtain ⟨⟨_, q1, _, _⟩, _, _, _, q7⟩ := (P0.out.below h).get
        exact ⟨q7, q1, (h.cell (p := ⟨gr, j, none⟩) (cell_lt Y0.out)).trans Y0.out⟩)
      have HW1 := Lib.hid hW1.symm
      have B1 := Lib.hid b1
      clear b1 hW1
      refine wpX_start (fun W => W.cell? ⟨b, 7, none⟩ = some (.slice oa S.out.length oc) ∧ W.cell? ⟨b, 1, none⟩ = some (.slice (some ⟨gr, 0, none⟩) S.l.length cr) ∧ W.cell? ⟨gr, j, none⟩ = some (.int .i64 y)) [14, 15, 16, 17] (by kernel_rfl) ?_
      have hC := CW.out w.drew (Below.refl w.heap.size w).drew
      refine wpX_free (i := 0) (v := ?_) rfl (by kernel_rfl) (fun _ _ _ h => h) rfl (fun w' => ?_) ?_
      rotate_left
      · go_simp; try with_reducible rfl
      try simp only [Act.put, List.setIfInBounds_toArray, List.set_cons_zero, List.set_cons_succ]
      refine wpX_free (i := 1) (v := ?_) rfl (by kernel_rfl) (fun _ _ _ h => h) rfl (fun w' => ?_) ?_
      rotate_left
      · go_simp; try with_reducible rfl
      try simp only [Act.put, List.setIfInBounds_toArray, List.set_cons_zero, List.set_cons_succ]
      refine wpX_free (i := 2) (v := ?_) rfl (by kernel_rfl) (fun _ _ _ h => h) rfl (fun w' => ?_) ?_
      rotate_left
      · go_simp; try with_reducible rfl
      try simp only [Act.put, List.setIfInBounds_toArray, List.set_cons_zero, List.set_cons_succ]
      refine wpX_free (i := 3) (v := ?_) rfl (by kernel_rfl) (fun _ _ _ h => h) rfl (fun w' => ?_) ?_
      rotate_left
      · go_simp; try with_reducible rfl
      try simp only [Act.put, List.setIfInBounds_toArray, List.set_cons_zero, List.set_cons_succ]
      refine wpX_load (i := 4) (v := ?_) rfl (by kernel_rfl) (fun _ _ _ h => h) hC rfl (fun w' hw' => ?_) ?_
      rotate_left
      · obtain ⟨k1, k2, k3⟩ := hw'; go_simp; try with_reducible rfl
      try simp only [Act.put, List.setIfInBounds_toArray, List.set_cons_zero, List.set_cons_succ]
      refine wpX_free (i := 5) (v := ?_) rfl (by kernel_rfl) (fun _ _ _ h => h) rfl (fun w' => ?_) ?_
      rotate_left
      · go_simp; try with_reducible rfl
      try simp only [Act.put, List.setIfInBounds_toArray, List.set_cons_zero, List.set_cons_succ]
      refine wpX_free (i := 6) (v := ?_) rfl (by kernel_rfl) (fun _ _ _ h => h) rfl (fun w' => ?_) ?_
      rotate_left
      · go_simp; try with_reducible rfl
      try simp only [Act.put, List.setIfInBounds_toArray, List.set_cons_zero, List.set_cons_succ]
      refine wpX_free (i := 7) (v := ?_) rfl (by kernel_rfl) (fun _ _ _ h => h) rfl (fun w' => ?_) ?_
      rotate_left
      · go_simp; try with_reducible rfl
      try simp only [Act.put, List.setIfInBounds_toArray, List.set_cons_zero, List.set_cons_succ]
      refine wpX_free (i := 8) (v := ?_) rfl (by kernel_rfl) (fun _ _ _ h => h) rfl (fun w' => ?_) ?_
      rotate_left
      · go_simp; try with_reducible rfl
      try simp only [Act.put, List.setIfInBounds_toArray, List.set_cons_zero, List.set_cons_succ]
      refine wpX_load (i := 9) (v := ?_) rfl (by kernel_rfl) (fun _ _ _ h => h) hC rfl (fun w' hw' => ?_) ?_
      rotate_left
      · obtain ⟨k1, k2, k3⟩ := hw'; go_simp; try with_reducible rfl
      try simp only [Act.put, List.setIfInBounds_toArray, List.set_cons_zero, List.set_cons_succ]
      refine wpX_free (i := 10) (v := ?_) rfl (by kernel_rfl) (fun _ _ _ h => h) rfl (fun w' => ?_) ?_
      rotate_left
      · go_simp; try with_reducible rfl
      try simp only [Act.put, List.setIfInBounds_toArray, List.set_cons_zero, List.set_cons_succ]
      refine wpX_free (i := 11) (v := ?_) rfl (by kernel_rfl) (fun _ _ _ h => h) rfl (fun w' => ?_) ?_
      rotate_left
      · go_simp; try with_reducible rfl
      try simp only [Act.put, List.setIfInBounds_toArray, List.set_cons_zero, List.set_cons_succ]
      refine wpX_load (i := 12) (v := ?_) rfl (by kernel_rfl) (fun _ _ _ h => h) hC rfl (fun w' hw' => ?_) ?_
      rotate_left
      · obtain ⟨k1, k2, k3⟩ := hw'; go_simp; try with_reducible rfl
      try simp only [Act.put, List.setIfInBounds_toArray, List.set_cons_zero, List.set_cons_succ]
      refine wpX_one (i := 13) rfl (by kernel_rfl) rfl ?_
      intro K hK
      go_simp
      rw [HW1.out]
      have hC := CW.out W1 B1.out
      refine hK _ _ hC ?_
      clear hK K
      try simp only [Act.put, List.setIfInBounds_toArray, List.set_cons_zero, List.set_cons_succ]
      refine wpX_rest (t := [14, 15, 16, 17]) (l := [_, _, _, _]) rfl (by kernel_rfl) (by kernel_rfl) ?_
      clear hC
      refine Flat.append_at FI W1 (.tmp 32) (.tmp 41) rfl rfl (base := 0) (v := .slice oa S.out.length oc) (xs := S.out) (ys := [y]) rfl P1.out.oo' rfl RD.out hln (Nat.zero_le _) ?_
      intro v' w4 o4 g4 at4
      obtain ⟨na, nc, hv', _, _⟩ := o4.shape
      simp only [List.length_append, List.length_cons, List.length_nil, Nat.zero_add] at hv'
      have e4 := grown_at g4 P1.out.hold.lt (P1.out.hold.ne_box (i := 5) rfl) 7
      have c4 := e4.1.trans P1.out.get.2.2.2.2
      have f4 := e4.2.trans (P1.out.fz 7)
      have P4 := P1.out.part (S' := { S with out := S.out ++ [y] }) 5 7 (c' := FI.ch v' (S.out ++ [y])) rfl rfl rfl (by decide) g4 o4 (m := w.heap.size) HZ1.out (at_of at4) P1.out.len P1.out.pos
      have F4 := F1.out.trans ((Fs.of_grown (S := B) g4 (fun k hk => HB.out k (P1.out.row (i := 5) rfl k hk))).set (a := ⟨b, 0 + 7, none⟩) (HB.out b ⟨0, rfl⟩) v')
      subst hv'
      have P4 := Lib.hid P4
      have F4 := Lib.hid F4
      clear o4 g4 at4 e4
      obtain ⟨W5, hW5⟩ : ∃ W5, W5 = w4.setCell ⟨b, 7, none⟩ (.slice na (S.out.length + 1) nc) := ⟨_, rfl⟩
      have P5 := Lib.hid (show PlIs W5 b 0 (Bm B w.heap.size) { S with out := S.out ++ [y] } (.slice (some ⟨gl, 0, none⟩) S.l.length cl) (.slice (some ⟨gr, 0, none⟩) S.l.length cr) ve vh vw (.slice na (S.out.length + 1) nc) by rw [hW5]; exact P4.out)
      have F5 := Lib.hid (show Fs B w W5 by rw [hW5]; exact F4.out)
      have q25 := P4.out.get.1.2.2.1
      have HW5 := Lib.hid hW5.symm
      clear hW5 P4 F4
      go_wp2_with fail
      rw [HW5.out]
      refine (PlWrite_any 3 0 _ P5.out HPO.out (by omega) hjs).mono ?_
      rintro e w6 ⟨rfl, ve6, P6, F6⟩
      have P6 := Lib.hid (P6.mono (Bm.bm (n := w.heap.size) (Nat.le_refl _) (by have := F5.out.size; omega)))
      have F6 := Lib.hid (F5.out.bm F6 (Nat.le_refl _))
      generalize writeS { S with out := S.out ++ [y] } (3, (j : Int), 0) = T at HR P6
      obtain ⟨ea, ec, rfl, _, _⟩ := P6.out.oe.shape
      have q3 := P6.out.get.1.2.2.2
      have f4 := P6.out.fz 4
      have q4 := P6.out.get.2.1
      have P7 := Lib.hid (P6.out.number T.recs.length)
      have F7 := Lib.hid (F6.out.set (a := ⟨b, 0 + 4, none⟩) (HB.out b ⟨0, rfl⟩) (.int .i64 T.recs.length))
      go_wp2
      go_ret
      exact DoP.mk HR.out P7.out F7.out
end Go.Proofs.Ytijpkcdalmlaiaa
namespace Go.Proofs.Ytijpkcdalmlaiaa
open Go.RowKit Go.Sort

set_option maxRecDepth 100000 in
set_option maxHeartbeats 4000000 in
theorem PlCrash_any {ad : Option Addr} {m c b sm wk n : Nat} {B : Nat → Prop} {S : PS} {vl vr ve vh vw vo : Value} (t bs : Int) (w : World) (P : PlIs w b 0 B S vl vr ve vh vw vo) (hI : PInv n sm wk S) (hs : 1 ≤ sm ∧ sm ≤ 8) (hn : n ≤ 6) :
    Calls Try.prog 90 #[.pointer (some ⟨b, 0, none⟩), .agg #[.int .i64 n, .int .i64 t, .slice ad m c, .int .i64 bs, .int .i64 sm, .int .i64 wk]] w fun e w' => e = .returned (.tuple #[]) ∧ (∃ vl vr ve vh vw vo, PlIs w' b 0 (Bm B w.heap.size) (crashS sm S) vl vr ve vh vw vo) ∧ Fs B w w' := by
  obtain ⟨hs1, hs8⟩ := hs
  have hrl := hI.len
  have hsy := hI.sy
  have hrec := Lib.hid hI.recs
  obtain ⟨_, l0, r0, hla, hcr⟩ := hI.crash
  have HLA := Lib.hid hla
  have HR := Lib.hid hcr
  have hdg := (learnAll_g (deskG_new n sm) (fun x hx => hI.recs x (List.mem_of_mem_take hx)) hla).ok
  have hl0 : l0.length = sm := hdg.1
  have hr0 : r0.length = sm := hdg.2.1
  have b1 : Below w.heap.size w (w.alloc (.cells #[.int .i64 n, .int .i64 t, .slice ad m c, .int .i64 bs, .int .i64 sm, .int .i64 wk] 35)) := (Below.refl _ _).alloc (Nat.le_refl _) _
  have K1 := Lib.hid (CellsAt.new w [.int .i64 n, .int .i64 t, .slice ad m c, .int .i64 bs, .int .i64 sm, .int .i64 wk] 35)
  obtain ⟨W1, hW1⟩ : ∃ W1, W1 = w.alloc (.cells #[.int .i64 n, .int .i64 t, .slice ad m c, .int .i64 bs, .int .i64 sm, .int .i64 wk] 35) := ⟨_, rfl⟩
  rw [show (w.alloc (.cells ([.int .i64 n, .int .i64 t, .slice ad m c, .int .i64 bs, .int .i64 sm, .int .i64 wk] : List Value).toArray 35)) = W1 from hW1.symm] at K1
  rw [← hW1] at b1
  have P1 := Lib.hid (P.below b1)
  have B1 := Lib.hid b1
  have HB := Lib.hid P.ownB
  have HL := Lib.hid P.ownLt
  have F1 := Lib.hid (Fs.of_below (S := B) b1)
  have HZ1 := Lib.hid (show W1.heap.size = w.heap.size + 1 by rw [hW1]; simp)
  have HW1 := Lib.hid hW1.symm
  obtain ⟨ea, ec, rfl, hec, hec2⟩ := P.oe.shape
  have P0 := Lib.hid P
  have hbl := P1.out.blt
  have s0 : (0 : Int) ≤ (S.sy : Int) := by omega
  have s1 : (S.sy : Int) ≤ (ec : Int) := by omega
  have CW := Lib.hid (show ∀ W, Below W1.heap.size W1 W → (W.cell? ⟨b, 3, none⟩ = some (.slice ea S.recs.length ec) ∧ W.cell? ⟨b, 4, none⟩ = some (.int .i64 S.sy)) from fun W h => by
    obtain ⟨⟨_, _, _, q3⟩, q4, _⟩ := (P1.out.below h).get
    exact ⟨q3, q4⟩)
  have HT := Lib.hid (show (S.recs.take S.sy).length = S.sy by simp; omega)
  have HSY := Lib.hid hsy
  clear P b1 hW1 hI hla hcr hdg hsy
  go_enter Try.func90, Try.ntmps90
  go_wp2_with fail
  rw [HW1.out]
  refine wpX_start (fun W => W.cell? ⟨b, 3, none⟩ = some (.slice ea S.recs.length ec) ∧ W.cell? ⟨b, 4, none⟩ = some (.int .i64 S.sy)) [10, 11, 12, 13] (by kernel_rfl) ?_
  have hC := CW.out W1.drew (Below.refl W1.heap.size W1).drew
  refine wpX_free (i := 0) (v := ?_) rfl (by kernel_rfl) (fun _ _ _ h => h) rfl (fun w' => ?_) ?_
  rotate_left
  · go_simp; try with_reducible rfl
  try simp only [Act.put, List.setIfInBounds_toArray, List.set_cons_zero, List.set_cons_succ]
  refine wpX_free (i := 1) (v := ?_) rfl (by kernel_rfl) (fun _ _ _ h => h) rfl (fun w' => ?_) ?_
  rotate_left
  · go_simp; try with_reducible rfl
  try simp only [Act.put, List.setIfInBounds_toArray, List.set_cons_zero, List.set_cons_succ]
  refine wpX_free (i := 2) (v := ?_) rfl (by kernel_rfl) (fun _ _ _ h => h) rfl (fun w' => ?_) ?_
  rotate_left
  · go_simp; try with_reducible rfl
  try simp only [Act.put, List.setIfInBounds_toArray, List.set_cons_zero, List.set_cons_succ]
  refine wpX_free (i := 3) (v := ?_) rfl (by kernel_rfl) (fun _ _ _ h => h) rfl (fun w' => ?_) ?_
  rotate_left
  · go_simp; try with_reducible rfl
  try simp only [Act.put, List.setIfInBounds_toArray, List.set_cons_zero, List.set_cons_succ]
  refine wpX_load (i := 4) (v := ?_) rfl (by kernel_rfl) (fun _ _ _ h => h) hC rfl (fun w' hw' => ?_) ?_
  rotate_left
  · obtain ⟨k1, k2⟩ := hw'; go_simp; try with_reducible rfl
  try simp only [Act.put, List.setIfInBounds_toArray, List.set_cons_zero, List.set_cons_succ]
  refine wpX_free (i := 5) (v := ?_) rfl (by kernel_rfl) (fun _ _ _ h => h) rfl (fun w' => ?_) ?_
  rotate_left
  · go_simp; try with_reducible rfl
  try simp only [Act.put, List.setIfInBounds_toArray, List.set_cons_zero, List.set_cons_succ]
  refine wpX_free (i := 6) (v := ?_) rfl (by kernel_rfl) (fun _ _ _ h => h) rfl (fun w' => ?_) ?_
  rotate_left
  · go_simp; try with_reducible rfl
  try simp only [Act.put, List.setIfInBounds_toArray, List.set_cons_zero, List.set_cons_succ]
  refine wpX_free (i := 7) (v := ?_) rfl (by kernel_rfl) (fun _ _ _ h => h) rfl (fun w' => ?_) ?_
  rotate_left
  · go_simp; try with_reducible rfl
  try simp only [Act.put, List.setIfInBounds_toArray, List.set_cons_zero, List.set_cons_succ]
  refine wpX_load (i := 8) (v := ?_) rfl (by kernel_rfl) (fun _ _ _ h => h) hC rfl (fun w' hw' => ?_) ?_
  rotate_left
  · obtain ⟨k1, k2⟩ := hw'; go_simp; try with_reducible rfl
  try simp only [Act.put, List.setIfInBounds_toArray, List.set_cons_zero, List.set_cons_succ]
  refine wpX_free (i := 9) (v := ?_) rfl (by kernel_rfl) (fun _ _ _ h => h) rfl (fun w' => ?_) ?_
  rotate_left
  · go_simp; try with_reducible rfl
  try simp only [Act.put, List.setIfInBounds_toArray, List.set_cons_zero, List.set_cons_succ]
  refine wpX_rest (t := [10, 11, 12, 13]) (l := [_, _, _, _]) rfl (by kernel_rfl) (by kernel_rfl) ?_
  clear hC
  have P1d := Lib.hid (P1.out.below (Below.refl W1.heap.size W1).drew)
  go_wp2_with fail
  refine (CloneR_any _ (Flat.Sl.take' P1d.out.oe.sl HSY.out) (by rw [HT.out]; have := HSY.out; omega)).mono ?_
  rintro e w2 ⟨v', rfl, o2, b2⟩
  obtain ⟨na, nc, hv', _, _⟩ := o2.shape
  rw [HT.out] at hv'
  have g2 := grown_of_below b2 (Value.slice ea S.recs.length ec).ownBlock
  have e2 := grown_at g2 P1d.out.hold.lt (P1d.out.hold.ne_box (i := 2) rfl) 3
  have c3 := e2.1.trans P1d.out.get.1.2.2.2
  have f3 := e2.2.trans (P1d.out.fz 3)
  have P2 := P1d.out.part (S' := { S with recs := S.recs.take S.sy }) 2 3 (c' := FRecord.ch v' (S.recs.take S.sy)) rfl rfl rfl (by decide) g2 (Flat.Own.lower o2 (Nat.zero_le _)) (m := w.heap.size) (by have := HZ1.out; show w.heap.size ≤ W1.heap.size; omega) (fun x hx => .inr (World.ownsRow.lt o2 x hx).1) P1d.out.len P1d.out.pos
  have F2 := (F1.out.trans ((Fs.of_below (S := B) (Below.refl W1.heap.size W1).drew).trans (Fs.of_below b2))).set (a := ⟨b, 0 + 3, none⟩) (HB.out b ⟨0, rfl⟩) v'
  subst hv'
  have K2 := K1.out.below ((Below.refl W1.heap.size W1).drew.trans b2)
  obtain ⟨W3, hW3⟩ : ∃ W3, W3 = w2.setCell ⟨b, 3, none⟩ (.slice na S.sy nc) := ⟨_, rfl⟩
  have P3 := Lib.hid (show PlIs W3 b 0 (Bm B w.heap.size) { S with recs := S.recs.take S.sy } vl vr (.slice na S.sy nc) vh vw vo by rw [hW3]; exact P2)
  have F3 := Lib.hid (show Fs B w W3 by rw [hW3]; exact F2)
  have K3 := Lib.hid (show CellsAt W3 w.heap.size [.int .i64 n, .int .i64 t, .slice ad m c, .int .i64 bs, .int .i64 sm, .int .i64 wk] by
    rw [hW3]
    exact K2.fs (S := fun k => k = b) (Fs.set (S := fun k => k = b) (Fs.refl _ _) (a := ⟨b, 3, none⟩) rfl _) (fun h => by have := HL.out b ⟨0, rfl⟩; omega))
  have HW3 := Lib.hid hW3.symm
  clear P2 F2 K2 g2 e2 o2 b2 hW3
  go_wp2_with fail
  rw [HW3.out]
  have CW := Lib.hid (show ∀ W, Below W3.heap.size W3 W → (W.cell? ⟨b, 3, none⟩ = some (.slice na S.sy nc) ∧ W.cell? ⟨w.heap.size, 0, none⟩ = some (.int .i64 n) ∧ W.cell? ⟨w.heap.size, 1, none⟩ = some (.int .i64 t) ∧ W.cell? ⟨w.heap.size, 2, none⟩ = some (.slice ad m c) ∧ W.cell? ⟨w.heap.size, 3, none⟩ = some (.int .i64 bs) ∧ W.cell? ⟨w.heap.size, 4, none⟩ = some (.int .i64 sm) ∧ W.cell? ⟨w.heap.size, 5, none⟩ = some (.int .i64 wk)) from fun W h => by
    obtain ⟨⟨_, _, _, q3⟩, _⟩ := (P3.out.below h).get
    have kk := K3.out.below h
    exact ⟨q3, kk.get 0 _ rfl, kk.get 1 _ rfl, kk.get 2 _ rfl, kk.get 3 _ rfl, kk.get 4 _ rfl, kk.get 5 _ rfl⟩)
  refine wpX_start (fun W => W.cell? ⟨b, 3, none⟩ = some (.slice na S.sy nc) ∧ W.cell? ⟨w.heap.size, 0, none⟩ = some (.int .i64 n) ∧ W.cell? ⟨w.heap.size, 1, none⟩ = some (.int .i64 t) ∧ W.cell? ⟨w.heap.size, 2, none⟩ = some (.slice ad m c) ∧ W.cell? ⟨w.heap.size, 3, none⟩ = some (.int .i64 bs) ∧ W.cell? ⟨w.heap.size, 4, none⟩ = some (.int .i64 sm) ∧ W.cell? ⟨w.heap.size, 5, none⟩ = some (.int .i64 wk)) [12] (by kernel_rfl) ?_
  have hC := CW.out W3.drew (Below.refl W3.heap.size W3).drew
  refine wpX_free (i := 0) (v := ?_) rfl (by kernel_rfl) (fun _ _ _ h => h) rfl (fun w' => ?_) ?_
  rotate_left
  · go_simp; try with_reducible rfl
  try simp only [Act.put, List.setIfInBounds_toArray, List.set_cons_zero, List.set_cons_succ]
  refine wpX_load (i := 1) (v := ?_) rfl (by kernel_rfl) (fun _ _ _ h => h) hC rfl (fun w' hw' => ?_) ?_
  rotate_left
  · obtain ⟨k1, k2, k3, k4, k5, k6, k7⟩ := hw'; go_simp; try with_reducible rfl
  try simp only [Act.put, List.setIfInBounds_toArray, List.set_cons_zero, List.set_cons_succ]
  refine wpX_free (i := 2) (v := ?_) rfl (by kernel_rfl) (fun _ _ _ h => h) rfl (fun w' => ?_) ?_
  rotate_left
  · go_simp; try with_reducible rfl
  try simp only [Act.put, List.setIfInBounds_toArray, List.set_cons_zero, List.set_cons_succ]
  refine wpX_free (i := 3) (v := ?_) rfl (by kernel_rfl) (fun _ _ _ h => h) rfl (fun w' => ?_) ?_
  rotate_left
  · go_simp; try with_reducible rfl
  try simp only [Act.put, List.setIfInBounds_toArray, List.set_cons_zero, List.set_cons_succ]
  refine wpX_free (i := 4) (v := ?_) rfl (by kernel_rfl) (fun _ _ _ h => h) rfl (fun w' => ?_) ?_
  rotate_left
  · go_simp; try with_reducible rfl
  try simp only [Act.put, List.setIfInBounds_toArray, List.set_cons_zero, List.set_cons_succ]
  refine wpX_load (i := 5) (v := ?_) rfl (by kernel_rfl) (fun _ _ _ h => h) hC rfl (fun w' hw' => ?_) ?_
  rotate_left
  · obtain ⟨k1, k2, k3, k4, k5, k6, k7⟩ := hw'; go_simp; try with_reducible rfl
  try simp only [Act.put, List.setIfInBounds_toArray, List.set_cons_zero, List.set_cons_succ]
  refine wpX_one (i := 6) rfl (by kernel_rfl) rfl ?_
  intro K hK
  go_simp
  go_at_call 115
  refine (deskAfter_any (xs := S.recs.take S.sy) n t bs wk _ (P3.out.below (Below.refl W3.heap.size W3).drew).oe.sl hs1 hs8 (by omega) (fun x hx => hrec.out x (List.mem_of_mem_take hx))).mono ?_
  rintro e w4 ⟨res, vl', vr', hres, rfl, od4, b4⟩
  rw [show (List.replicate sm (0 : Int), List.replicate sm (-1 : Int), (0 : Int)) = newD sm from rfl, HLA.out] at hres
  subst hres
  have b5 := (Below.refl W3.heap.size W3).drew.trans b4
  have hC := CW.out w4 b5
  refine hK _ _ hC ?_
  clear hK K
  have od4 : DeskO w4 W3.heap.size vl' vr' l0 r0 := od4
  obtain ⟨da, dn, dc, xa, xc, hvl, hvr⟩ := od4.form
  have PN := Lib.hid (P3.out.newDesk S.q b5 od4 (by rw [hl0]; omega))
  have F4 := Lib.hid (F3.out.bm ((Fs.set3b (B := Bm B w.heap.size) (i := 0 + 0) (j := 0 + 1) (k := 0 + 2) (Fs.of_below b5) (.inl (HB.out b ⟨0, rfl⟩)) vl' vr' (.int .i64 S.q))) (Nat.le_refl _))
  have e4 := (P3.out.below b5)
  have g0 := e4.fz 0
  have g1 := e4.fz 1
  have g2 := e4.fz 2
  obtain ⟨⟨q0, q1, q2, _⟩, _⟩ := e4.get
  subst hvl hvr
  unfold deskV
  simp only [Option.getD_some, Option.isSome_some]
  clear od4 b4 b5 e4
  try simp only [Act.put, List.setIfInBounds_toArray, List.set_cons_zero, List.set_cons_succ]
  refine wpX_free (i := 7) (v := ?_) rfl (by kernel_rfl) (fun _ _ _ h => h) rfl (fun w' => ?_) ?_
  rotate_left
  · go_simp; try with_reducible rfl
  try simp only [Act.put, List.setIfInBounds_toArray, List.set_cons_zero, List.set_cons_succ]
  refine wpX_free (i := 8) (v := ?_) rfl (by kernel_rfl) (fun _ _ _ h => h) rfl (fun w' => ?_) ?_
  rotate_left
  · go_simp; try with_reducible rfl
  try simp only [Act.put, List.setIfInBounds_toArray, List.set_cons_zero, List.set_cons_succ]
  refine wpX_free (i := 9) (v := ?_) rfl (by kernel_rfl) (fun _ _ _ h => h) rfl (fun w' => ?_) ?_
  rotate_left
  · go_simp; try with_reducible rfl
  try simp only [Act.put, List.setIfInBounds_toArray, List.set_cons_zero, List.set_cons_succ]
  refine wpX_free (i := 10) (v := ?_) rfl (by kernel_rfl) (fun _ _ _ h => h) rfl (fun w' => ?_) ?_
  rotate_left
  · go_simp; try with_reducible rfl
  try simp only [Act.put, List.setIfInBounds_toArray, List.set_cons_zero, List.set_cons_succ]
  refine wpX_free (i := 11) (v := ?_) rfl (by kernel_rfl) (fun _ _ _ h => h) rfl (fun w' => ?_) ?_
  rotate_left
  · go_simp; try with_reducible rfl
  try simp only [Act.put, List.setIfInBounds_toArray, List.set_cons_zero, List.set_cons_succ]
  refine wpX_rest (t := [12]) (l := [_]) rfl (by kernel_rfl) (by kernel_rfl) ?_
  clear hC
  go_wp2
  exact bodyPost_end (v := .tuple #[]) (by simp [results, Try.results90, go_sem]) rfl ⟨rfl, ⟨_, _, _, _, _, _, by rw [HR.out]; exact PN.out.mono (fun k hk => Bm.bm (n := w.heap.size) (Nat.le_refl _) (by have := F3.out.size; omega) k hk)⟩, F4.out⟩
end Go.Proofs.Ytijpkcdalmlaiaa
