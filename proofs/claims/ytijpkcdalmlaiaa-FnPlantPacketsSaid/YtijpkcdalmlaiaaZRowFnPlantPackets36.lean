/-
  The reference's plant: a worker works.
-/
import Derived.Test.YtijpkcdalmlaiaaZRowFnPlantPackets34
import Derived.Test.YtijpkcdalmlaiaaZRowFnPlantPackets14
set_option linter.unusedVariables false
set_option linter.unusedSimpArgs false
namespace Go.Proofs.Ytijpkcdalmlaiaa
open Go.RowKit Go.Sort
theorem RunIs.own {w : World} {b sb : Nat} {B : Nat → Prop} {S : PS} {vl vr ve vh vw vo : Value} (h : RunIs w b sb B S vl vr ve vh vw vo) : RunIs w b sb (OwnB b S vl vr ve vh vw vo) S vl vr ve vh vw vo := ⟨h.toPlIs.own, h.c0⟩

set_option maxRecDepth 100000 in
set_option maxHeartbeats 4000000 in
theorem RnWorker_2 {b sb sm wk n : Nat} {t bs : Int} {sv : Value} {xss : List (List Int)} {M : Nat} {B : Nat → Prop} {S : PS} {vl vr ve vh vw vo : Value} {a : Nat} (w : World) (P : RunIs w b sb B S vl vr ve vh vw vo) (V : SvF M w sb n t sv xss bs sm wk) (hB : ∀ k, B k → M ≤ k) (hI : PInv n sm wk S) (hs : 1 ≤ sm ∧ sm ≤ 8) (hwk : 1 ≤ wk ∧ wk ≤ 4) (hch : chainOk n t xss = true) (hbs : 0 ≤ bs ∧ bs ≤ 999999992) (ha : a ≤ 999) :
    Calls Try.prog 102 #[.pointer (some ⟨b, 0, none⟩), .agg #[.int .i64 2, .int .i64 a]] w (DoR b sb B (workS t xss bs wk a S) w) := by
  have HBM := Lib.hid hB
  have HIN := Lib.hid hI
  have b1 : Below w.heap.size w (w.alloc (.cells #[.int .i64 2, .int .i64 a] 68)) := (Below.refl _ _).alloc (Nat.le_refl _) _
  have K1 := Lib.hid (CellsAt.new w [.int .i64 2, .int .i64 a] 68)
  obtain ⟨W1, hW1⟩ : ∃ W1, W1 = w.alloc (.cells #[.int .i64 2, .int .i64 a] 68) := ⟨_, rfl⟩
  rw [show (w.alloc (.cells ([.int .i64 2, .int .i64 a] : List Value).toArray 68)) = W1 from hW1.symm] at K1
  rw [← hW1] at b1
  have P1 := Lib.hid (P.below b1)
  have B1 := Lib.hid b1
  have HB := Lib.hid P.ownB
  have HL := Lib.hid P.ownLt
  have F1 := Lib.hid (Fs.of_below (S := B) b1)
  have HZ1 := Lib.hid (show W1.heap.size = w.heap.size + 1 by rw [hW1]; simp)
  have HW1 := Lib.hid hW1.symm
  have V1 := Lib.hid (V.fs F1.out hB)
  have hbl := P1.out.blt
  have HHL := Lib.hid hI.hl
  have k0 := K1.out.get 0 _ rfl
  have k1 := K1.out.get 1 _ rfl
  have q0 := P1.out.c0
  obtain ⟨_, _, _, _, _, s5⟩ := servCells V1.out.now.1
  have kk1 := fun d os => cell_regrown k1 d os
  have kq0 := fun d os => cell_regrown q0 d os
  have ks5 := fun d os => cell_regrown s5 d os
  clear P b1 hW1 hI V hB k1 q0 s5
  by_cases hr : (wk : Int) ≤ a
  · rw [show workS t xss bs wk a S = (2, S) by unfold workS; rw [if_pos hr]]
    go_enter Try.func102, Try.ntmps102
    go_wp2_with fail
    rw [HW1.out]
    refine wp_region_quiet_below (by kernel_rfl) (by kernel_rfl) ?_
    repeat (first | go_big_quiet_skip | quiet_step (fail))
    refine wpQuiet_nil ?_
    intro _ hw'
    obtain ⟨⟨dq, osq⟩, hw''⟩ := hw'
    subst hw''
    have bq := below_regrown W1 dq osq
    generalize grow (redrawn W1 dq) osq = wq at bq ⊢
    clear kk1 kq0 ks5 k0
    go_wp2
    go_ret
    exact DoR.mk rfl ((P1.out.below bq).mono (fun k hk => .inl hk)) (F1.out.trans (Fs.of_below bq))
  · have HNR := Lib.hid hr
    have hal : a < S.hands.length := by rw [HHL.out]; omega
    have hle : (a : Int) < (wk : Int) := by omega
    clear hr
    go_enter Try.func102, Try.ntmps102
    go_wp2_with fail
    rw [HW1.out]
    refine wp_region_quiet_below (by kernel_rfl) (by kernel_rfl) ?_
    repeat (first | go_big_quiet_skip | quiet_step (fail))
    refine wpQuiet_nil ?_
    intro _ hw'
    obtain ⟨⟨dq, osq⟩, hw''⟩ := hw'
    subst hw''
    have bq := below_regrown W1 dq osq
    generalize grow (redrawn W1 dq) osq = wq at bq ⊢
    have P2 := Lib.hid (P1.out.below bq)
    have F2 := Lib.hid (F1.out.trans (Fs.of_below bq))
    have K2 := Lib.hid (K1.out.below bq)
    have V2 := Lib.hid (V1.out.fs (Fs.of_below (S := B) bq) HBM.out)
    have HZ2 := Lib.hid (show w.heap.size ≤ wq.heap.size by have := bq.size; have := HZ1.out; omega)
    have hk0 := K2.out.get 0 _ rfl
    clear kk1 kq0 ks5 k0 bq
    have HE := Lib.hid (show workS t xss bs wk a S = if (S.hands.getD a noHand).1 = false then (4, S) else if S.wire.length = 12 then (3, S)
      else (0, handOff a { S with wire := S.wire ++ [(true, (a : Int), (S.hands.getD a noHand).2.1, (S.hands.getD a noHand).2.2, winMet (lvR t xss bs (S.hands.getD a noHand)), winState (lvR t xss bs (S.hands.getD a noHand)))] }) by
        unfold workS; rw [if_neg (show ¬ (wk : Int) ≤ a by omega), Int.toNat_natCast])
    have HG : S.hands.getD a noHand = S.hands[a] := by simp [hal]
    obtain ⟨g, hcp, rfl, hglt⟩ := P2.out.oh.form (by omega)
    obtain ⟨h0, h1, h2⟩ := FHand_cell P2.out.oh hal
    have hok := HIN.out.hands _ (List.getElem_mem hal)
    rw [HG] at HE
    generalize S.hands[a] = x at h0 h1 h2 hok HE
    obtain ⟨busy, j0, k0⟩ := x
    obtain ⟨o1, o2, o3, o4⟩ := hok
    dsimp only at h0 h1 h2 o1 o2 o3 o4 HE
    obtain ⟨j, rfl⟩ := Int.eq_ofNat_of_zero_le o1
    obtain ⟨k, rfl⟩ := Int.eq_ofNat_of_zero_le o3
    have a0 : (0 : Int) ≤ (a : Int) := by omega
    have a1 : (a : Int) < (S.hands.length : Int) := by omega
    have CQ := Lib.hid (show ∀ W, Below wq.heap.size wq W → (W.cell? ⟨b, 6, none⟩ = some (.slice (some ⟨g, 0, none⟩) S.hands.length hcp) ∧ W.cell? ⟨w.heap.size, 1, none⟩ = some (.int .i64 a) ∧ W.cell? ⟨g, a * 3, none⟩ = some (.bool busy) ∧ W.cell? ⟨g, a * 3 + 1, none⟩ = some (.int .i64 j) ∧ W.cell? ⟨g, a * 3 + 2, none⟩ = some (.int .i64 k)) from fun W h => ⟨(P2.out.below h).get.2.2.1, (K2.out.below h).get 1 _ rfl, (h.cell (p := ⟨g, a * 3, none⟩) hglt).trans h0, (h.cell (p := ⟨g, a * 3 + 1, none⟩) hglt).trans h1, (h.cell (p := ⟨g, a * 3 + 2, none⟩) hglt).trans h2⟩)
    have HQ2 := Lib.hid (show w.heap.size < wq.heap.size from K2.out.1)
    have HAL := Lib.hid hal
    clear HG o1 o3 h0 h1 h2
    go_wp2_with fail
    refine wpX_start (fun W => W.cell? ⟨b, 6, none⟩ = some (.slice (some ⟨g, 0, none⟩) S.hands.length hcp) ∧ W.cell? ⟨w.heap.size, 1, none⟩ = some (.int .i64 a) ∧ W.cell? ⟨g, a * 3, none⟩ = some (.bool busy) ∧ W.cell? ⟨g, a * 3 + 1, none⟩ = some (.int .i64 j) ∧ W.cell? ⟨g, a * 3 + 2, none⟩ = some (.int .i64 k)) [] (by kernel_rfl) ?_
    have hC := CQ.out wq.drew (Below.refl wq.heap.size wq).drew
    refine wpX_free (i := 0) (v := ?_) rfl (by kernel_rfl) (fun _ _ _ h => h) rfl (fun w' => ?_) ?_
    rotate_left
    · go_simp; try with_reducible rfl
    try simp only [Act.put, List.setIfInBounds_toArray, List.set_cons_zero, List.set_cons_succ]
    refine wpX_free (i := 1) (v := ?_) rfl (by kernel_rfl) (fun _ _ _ h => h) rfl (fun w' => ?_) ?_
    rotate_left
    · go_simp; try with_reducible rfl
    try simp only [Act.put, List.setIfInBounds_toArray, List.set_cons_zero, List.set_cons_succ]
    refine wpX_free (i := 2) (v := ?_) rfl (by kernel_rfl) (fun _ _ _ h => h) rfl (fun w' => ?_) ?_
    rotate_left
    · go_simp; try with_reducible rfl
    try simp only [Act.put, List.setIfInBounds_toArray, List.set_cons_zero, List.set_cons_succ]
    refine wpX_free (i := 3) (v := ?_) rfl (by kernel_rfl) (fun _ _ _ h => h) rfl (fun w' => ?_) ?_
    rotate_left
    · go_simp; try with_reducible rfl
    try simp only [Act.put, List.setIfInBounds_toArray, List.set_cons_zero, List.set_cons_succ]
    refine wpX_load (i := 4) (v := ?_) rfl (by kernel_rfl) (fun _ _ _ h => h) hC rfl (fun w' hw' => ?_) ?_
    rotate_left
    · obtain ⟨k1, k2, k3, k4, k5⟩ := hw'; go_simp; try with_reducible rfl
    try simp only [Act.put, List.setIfInBounds_toArray, List.set_cons_zero, List.set_cons_succ]
    refine wpX_free (i := 5) (v := ?_) rfl (by kernel_rfl) (fun _ _ _ h => h) rfl (fun w' => ?_) ?_
    rotate_left
    · go_simp; try with_reducible rfl
    try simp only [Act.put, List.setIfInBounds_toArray, List.set_cons_zero, List.set_cons_succ]
    refine wpX_load (i := 6) (v := ?_) rfl (by kernel_rfl) (fun _ _ _ h => h) hC rfl (fun w' hw' => ?_) ?_
    rotate_left
    · obtain ⟨k1, k2, k3, k4, k5⟩ := hw'; go_simp; try with_reducible rfl
    try simp only [Act.put, List.setIfInBounds_toArray, List.set_cons_zero, List.set_cons_succ]
    refine wpX_free (i := 7) (v := ?_) rfl (by kernel_rfl) (fun _ _ _ h => h) rfl (fun w' => ?_) ?_
    rotate_left
    · go_simp; try with_reducible rfl
    try simp only [Act.put, List.setIfInBounds_toArray, List.set_cons_zero, List.set_cons_succ]
    refine wpX_load (i := 8) (v := ?_) rfl (by kernel_rfl) (fun _ _ _ h => h) hC rfl (fun w' hw' => ?_) ?_
    rotate_left
    · obtain ⟨k1, k2, k3, k4, k5⟩ := hw'; go_simp; try with_reducible rfl
    try simp only [Act.put, List.setIfInBounds_toArray, List.set_cons_zero, List.set_cons_succ]
    refine wpX_one (i := 9) rfl (by kernel_rfl) rfl ?_
    intro K hK
    go_simp
    refine hK _ _ (CQ.out _ (by (repeat (first | exact Below.refl _ _ | refine Below.drew ?_ | refine Below.alloc ?_ (by simp) _)))) ?_
    have hC := CQ.out _ (show Below wq.heap.size wq (wq.alloc (.cells #[.bool false, .int .i64 0, .int .i64 0] 123)).drew from ((Below.refl _ _).alloc (Nat.le_refl _) _).drew)
    clear hK K
    try simp only [Act.put, List.setIfInBounds_toArray, List.set_cons_zero, List.set_cons_succ]
    refine wpX_one (i := 10) rfl (by kernel_rfl) rfl ?_
    intro K hK
    go_simp
    refine hK _ _ (CQ.out _ (by (repeat (first | exact Below.refl _ _ | refine Below.drew ?_ | refine Below.alloc ?_ (by simp) _)))) ?_
    have hC := CQ.out _ (show Below wq.heap.size wq (wq.alloc (.cells #[.bool busy, .int .i64 j, .int .i64 k] 123)).drew from ((Below.refl _ _).alloc (Nat.le_refl _) _).drew)
    clear hK K
    try simp only [Act.put, List.setIfInBounds_toArray, List.set_cons_zero, List.set_cons_succ]
    refine wpX_rest (t := []) (l := []) rfl (by kernel_rfl) (by kernel_rfl) ?_
    clear hC
    obtain ⟨W3, hW3⟩ : ∃ W3, W3 = (wq.alloc (.cells #[.bool busy, .int .i64 j, .int .i64 k] 123)).drew := ⟨_, rfl⟩
    have b3 : Below wq.heap.size wq W3 := by rw [hW3]; exact ((Below.refl _ _).alloc (Nat.le_refl _) _).drew
    have P3 := Lib.hid (P2.out.below b3)
    have F3 := Lib.hid (F2.out.trans (Fs.of_below b3))
    have K3 := Lib.hid (K2.out.below b3)
    have V3 := Lib.hid (V2.out.fs (Fs.of_below (S := B) b3) HBM.out)
    have H3 := Lib.hid (show CellsAt W3 wq.heap.size [.bool busy, .int .i64 j, .int .i64 k] by rw [hW3]; exact (CellsAt.new wq [.bool busy, .int .i64 j, .int .i64 k] 123).below (Below.refl _ _).drew)
    have HZ3 := Lib.hid (Nat.le_trans HZ2.out b3.size)
    have HS3 := Lib.hid (show wq.heap.size < W3.heap.size by rw [hW3]; simp)
    have HW3 := Lib.hid hW3.symm
    clear b3 hW3 hk0 CQ
    rw [HW3.out]
    have z0 := H3.out.get 0 _ rfl
    cases busy
    · have HR := Lib.hid (HE.out.trans (if_pos rfl))
      go_wp2
      go_ret
      exact DoR.mk HR.out (P3.out.mono (fun k hk => .inl hk)) F3.out
    · have HR := Lib.hid (HE.out.trans (if_neg (by decide)))
      have hlv : lvR t xss bs (true, (j : Int), (k : Int)) = lvlRun t xss (bs + j) k := by unfold lvR; rw [Int.toNat_natCast]
      rw [hlv] at HR
      have hseed : IntKind.i64.wrap (bs + (j : Int)) = bs + j := IntWalk.i64_in _ (by omega)
      have CX := Lib.hid (show ∀ W, Below W3.heap.size W3 W → (W.cell? ⟨b, 0, none⟩ = some (.pointer (some ⟨sb, 0, none⟩)) ∧ W.cell? ⟨sb, 3, none⟩ = some (.int .i64 bs) ∧ W.cell? ⟨wq.heap.size, 1, none⟩ = some (.int .i64 j) ∧ W.cell? ⟨wq.heap.size, 2, none⟩ = some (.int .i64 k)) from fun W h => ⟨(P3.out.below h).c0, (servCells (V3.out.get W (h.mono V3.out.le)).1).2.2.2.1, (H3.out.below h).get 1 _ rfl, (H3.out.below h).get 2 _ rfl⟩)
      have VD := Lib.hid (V3.out.step ((Below.refl W3.heap.size W3).drew.mono V3.out.le))
      clear HE hlv
      go_wp2_with fail
      clear z0
      refine wpX_start (fun W => W.cell? ⟨b, 0, none⟩ = some (.pointer (some ⟨sb, 0, none⟩)) ∧ W.cell? ⟨sb, 3, none⟩ = some (.int .i64 bs) ∧ W.cell? ⟨wq.heap.size, 1, none⟩ = some (.int .i64 j) ∧ W.cell? ⟨wq.heap.size, 2, none⟩ = some (.int .i64 k)) [] (by kernel_rfl) ?_
      have hC := CX.out W3.drew (Below.refl W3.heap.size W3).drew
      refine wpX_free (i := 0) (v := ?_) rfl (by kernel_rfl) (fun _ _ _ h => h) rfl (fun w' => ?_) ?_
      rotate_left
      · go_simp; try with_reducible rfl
      try simp only [Act.put, List.setIfInBounds_toArray, List.set_cons_zero, List.set_cons_succ]
      refine wpX_free (i := 1) (v := ?_) rfl (by kernel_rfl) (fun _ _ _ h => h) rfl (fun w' => ?_) ?_
      rotate_left
      · go_simp; try with_reducible rfl
      try simp only [Act.put, List.setIfInBounds_toArray, List.set_cons_zero, List.set_cons_succ]
      refine wpX_free (i := 2) (v := ?_) rfl (by kernel_rfl) (fun _ _ _ h => h) rfl (fun w' => ?_) ?_
      rotate_left
      · go_simp; try with_reducible rfl
      try simp only [Act.put, List.setIfInBounds_toArray, List.set_cons_zero, List.set_cons_succ]
      refine wpX_load (i := 3) (v := ?_) rfl (by kernel_rfl) (fun _ _ _ h => h) hC rfl (fun w' hw' => ?_) ?_
      rotate_left
      · obtain ⟨k1, k2, k3, k4⟩ := hw'; go_simp; try with_reducible rfl
      try simp only [Act.put, List.setIfInBounds_toArray, List.set_cons_zero, List.set_cons_succ]
      refine wpX_free (i := 4) (v := ?_) rfl (by kernel_rfl) (fun _ _ _ h => h) rfl (fun w' => ?_) ?_
      rotate_left
      · go_simp; try with_reducible rfl
      try simp only [Act.put, List.setIfInBounds_toArray, List.set_cons_zero, List.set_cons_succ]
      refine wpX_free (i := 5) (v := ?_) rfl (by kernel_rfl) (fun _ _ _ h => h) rfl (fun w' => ?_) ?_
      rotate_left
      · go_simp; try with_reducible rfl
      try simp only [Act.put, List.setIfInBounds_toArray, List.set_cons_zero, List.set_cons_succ]
      refine wpX_free (i := 6) (v := ?_) rfl (by kernel_rfl) (fun _ _ _ h => h) rfl (fun w' => ?_) ?_
      rotate_left
      · go_simp; try with_reducible rfl
      try simp only [Act.put, List.setIfInBounds_toArray, List.set_cons_zero, List.set_cons_succ]
      refine wpX_free (i := 7) (v := ?_) rfl (by kernel_rfl) (fun _ _ _ h => h) rfl (fun w' => ?_) ?_
      rotate_left
      · go_simp; try with_reducible rfl
      try simp only [Act.put, List.setIfInBounds_toArray, List.set_cons_zero, List.set_cons_succ]
      refine wpX_free (i := 8) (v := ?_) rfl (by kernel_rfl) (fun _ _ _ h => h) rfl (fun w' => ?_) ?_
      rotate_left
      · go_simp; try with_reducible rfl
      try simp only [Act.put, List.setIfInBounds_toArray, List.set_cons_zero, List.set_cons_succ]
      refine wpX_load (i := 9) (v := ?_) rfl (by kernel_rfl) (fun _ _ _ h => h) hC rfl (fun w' hw' => ?_) ?_
      rotate_left
      · obtain ⟨k1, k2, k3, k4⟩ := hw'; go_simp; try with_reducible rfl
      try simp only [Act.put, List.setIfInBounds_toArray, List.set_cons_zero, List.set_cons_succ]
      refine wpX_free (i := 10) (v := ?_) rfl (by kernel_rfl) (fun _ _ _ h => h) rfl (fun w' => ?_) ?_
      rotate_left
      · go_simp; try with_reducible rfl
      try simp only [Act.put, List.setIfInBounds_toArray, List.set_cons_zero, List.set_cons_succ]
      refine wpX_free (i := 11) (v := ?_) rfl (by kernel_rfl) (fun _ _ _ h => h) rfl (fun w' => ?_) ?_
      rotate_left
      · go_simp; try with_reducible rfl
      try simp only [Act.put, List.setIfInBounds_toArray, List.set_cons_zero, List.set_cons_succ]
      refine wpX_load (i := 12) (v := ?_) rfl (by kernel_rfl) (fun _ _ _ h => h) hC rfl (fun w' hw' => ?_) ?_
      rotate_left
      · obtain ⟨k1, k2, k3, k4⟩ := hw'; go_simp; try with_reducible rfl
      try simp only [Act.put, List.setIfInBounds_toArray, List.set_cons_zero, List.set_cons_succ]
      refine wpX_free (i := 13) (v := ?_) rfl (by kernel_rfl) (fun _ _ _ h => h) rfl (fun w' => ?_) ?_
      rotate_left
      · go_simp; try with_reducible rfl
      try simp only [Act.put, List.setIfInBounds_toArray, List.set_cons_zero, List.set_cons_succ]
      refine wpX_load (i := 14) (v := ?_) rfl (by kernel_rfl) (fun _ _ _ h => h) hC rfl (fun w' hw' => ?_) ?_
      rotate_left
      · obtain ⟨k1, k2, k3, k4⟩ := hw'; go_simp; try with_reducible rfl
      try simp only [Act.put, List.setIfInBounds_toArray, List.set_cons_zero, List.set_cons_succ]
      refine wpX_free (i := 15) (v := ?_) rfl (by kernel_rfl) (fun _ _ _ h => h) rfl (fun w' => ?_) ?_
      rotate_left
      · go_simp; try with_reducible rfl
      try simp only [Act.put, List.setIfInBounds_toArray, List.set_cons_zero, List.set_cons_succ]
      refine wpX_free (i := 16) (v := ?_) rfl (by kernel_rfl) (fun _ _ _ h => h) rfl (fun w' => ?_) ?_
      rotate_left
      · go_simp; try with_reducible rfl
      try simp only [Act.put, List.setIfInBounds_toArray, List.set_cons_zero, List.set_cons_succ]
      refine wpX_load (i := 17) (v := ?_) rfl (by kernel_rfl) (fun _ _ _ h => h) hC rfl (fun w' hw' => ?_) ?_
      rotate_left
      · obtain ⟨k1, k2, k3, k4⟩ := hw'; go_simp; try with_reducible rfl
      try simp only [Act.put, List.setIfInBounds_toArray, List.set_cons_zero, List.set_cons_succ]
      refine wpX_one (i := 18) rfl (by kernel_rfl) rfl ?_
      intro K hK
      go_simp
      go_at_call 125
      refine (l09Level_any sb 0 n t (bs + j) k _ (VD.out.now.1.1) VD.out.now.2 hch (by omega) (by omega) (by omega)).mono ?_
      rintro e w4 ⟨rfl, b4⟩
      have b40 := (Below.refl W3.heap.size W3).drew.trans b4
      have hC := CX.out w4 b40
      refine hK _ _ hC ?_
      clear hK K
      have P4 := Lib.hid (P3.out.below b40)
      have F4 := Lib.hid (F3.out.trans (Fs.of_below b40))
      have K4 := Lib.hid (K3.out.below b40)
      have H4 := Lib.hid (H3.out.below b40)
      have HZ4 := Lib.hid (show w.heap.size ≤ w4.heap.size from Nat.le_trans HZ3.out b40.size)
      have HS4 := Lib.hid (show wq.heap.size < w4.heap.size from Nat.lt_of_lt_of_le HS3.out b40.size)
      clear b4 b40
      generalize winMet (lvlRun t xss (bs + j) k) = mt at HR ⊢
      generalize winState (lvlRun t xss (bs + j) k) = st at HR ⊢
      try simp only [Act.put, List.setIfInBounds_toArray, List.set_cons_zero, List.set_cons_succ]
      refine wpX_free (i := 19) (v := ?_) rfl (by kernel_rfl) (fun _ _ _ h => h) rfl (fun w' => ?_) ?_
      rotate_left
      · go_simp; try with_reducible rfl
      try simp only [Act.put, List.setIfInBounds_toArray, List.set_cons_zero, List.set_cons_succ]
      refine wpX_free (i := 20) (v := ?_) rfl (by kernel_rfl) (fun _ _ _ h => h) rfl (fun w' => ?_) ?_
      rotate_left
      · go_simp; try with_reducible rfl
      try simp only [Act.put, List.setIfInBounds_toArray, List.set_cons_zero, List.set_cons_succ]
      refine wpX_free (i := 21) (v := ?_) rfl (by kernel_rfl) (fun _ _ _ h => h) rfl (fun w' => ?_) ?_
      rotate_left
      · go_simp; try with_reducible rfl
      try simp only [Act.put, List.setIfInBounds_toArray, List.set_cons_zero, List.set_cons_succ]
      refine wpX_free (i := 22) (v := ?_) rfl (by kernel_rfl) (fun _ _ _ h => h) rfl (fun w' => ?_) ?_
      rotate_left
      · go_simp; try with_reducible rfl
      try simp only [Act.put, List.setIfInBounds_toArray, List.set_cons_zero, List.set_cons_succ]
      refine wpX_free (i := 23) (v := ?_) rfl (by kernel_rfl) (fun _ _ _ h => h) rfl (fun w' => ?_) ?_
      rotate_left
      · go_simp; try with_reducible rfl
      try simp only [Act.put, List.setIfInBounds_toArray, List.set_cons_zero, List.set_cons_succ]
      refine wpX_rest (t := []) (l := []) rfl (by kernel_rfl) (by kernel_rfl) ?_
      have y1 := H4.out.get 1 _ rfl
      have y2 := H4.out.get 2 _ rfl
      have y3 := K4.out.get 1 _ rfl
      clear hC
      go_wp2_with fail
      have P4o := Lib.hid (P4.out.own)
      have HOB := Lib.hid P4.out.toPlIs.ownB
      have HOL := Lib.hid (show ¬ OwnB b S vl vr ve (.slice (some ⟨g, 0, none⟩) S.hands.length hcp) vw vo w.heap.size from fun h => by have := HL.out w.heap.size h; omega)
      refine (RnSend_any true a j k mt st _ P4o.out HIN.out.wl).mono ?_
      intro e w5 h
      by_cases h12 : S.wire.length = 12
      · rw [show sendS S (true, (a : Int), (j : Int), (k : Int), mt, st) = (3, S) by unfold sendS; rw [if_pos h12]] at h
        have HR := Lib.hid (HR.out.trans (if_pos h12))
        obtain ⟨rfl, ⟨vl5, vr5, ve5, vh5, vw5, vo5, P5⟩, F5⟩ := h
        have P5 := Lib.hid (P5.mono (B' := Bm B w.heap.size) (fun k hk => hk.elim (fun h => .inl (HOB.out k h)) (fun h => .inr (Nat.le_trans HZ4.out h))))
        have F5 := Lib.hid (F4.out.trans (F5.mono HOB.out))
        clear h12 y1 y2 y3
        go_wp2
        go_ret
        exact DoR.mk HR.out P5.out F5.out
      · rw [show sendS S (true, (a : Int), (j : Int), (k : Int), mt, st) = (0, { S with wire := S.wire ++ [(true, (a : Int), (j : Int), (k : Int), mt, st)] }) by unfold sendS; rw [if_neg h12]] at h
        have HR := Lib.hid (HR.out.trans (if_neg h12))
        obtain ⟨rfl, ⟨vl5, vr5, ve5, vh5, vw5, vo5, P5⟩, F5⟩ := h
        have K5 := Lib.hid (K4.out.fs F5 HOL.out)
        have P5 := P5.mono (B' := Bm B w.heap.size) (fun k hk => hk.elim (fun h => .inl (HOB.out k h)) (fun h => .inr (Nat.le_trans HZ4.out h)))
        have F5 := Lib.hid (F4.out.trans (F5.mono HOB.out))
        obtain ⟨g, hcp, rfl, _⟩ := P5.oh.form (show 0 < S.hands.length by omega)
        have P5 := Lib.hid P5
        clear h12 y1 y2 y3
        have CW := Lib.hid (show ∀ W, Below w5.heap.size w5 W → (W.cell? ⟨b, 6, none⟩ = some (.slice (some ⟨g, 0, none⟩) S.hands.length hcp) ∧ W.cell? ⟨w.heap.size, 1, none⟩ = some (.int .i64 a)) from fun W h => ⟨(P5.out.below h).get.2.2.1, (K5.out.below h).get 1 _ rfl⟩)
        go_wp2_with fail
        refine wpX_start (fun W => W.cell? ⟨b, 6, none⟩ = some (.slice (some ⟨g, 0, none⟩) S.hands.length hcp) ∧ W.cell? ⟨w.heap.size, 1, none⟩ = some (.int .i64 a)) [9] (by kernel_rfl) ?_
        have hC := CW.out w5.drew (Below.refl w5.heap.size w5).drew
        refine wpX_free (i := 0) (v := ?_) rfl (by kernel_rfl) (fun _ _ _ h => h) rfl (fun w' => ?_) ?_
        rotate_left
        · go_simp; try with_reducible rfl
        try simp only [Act.put, List.setIfInBounds_toArray, List.set_cons_zero, List.set_cons_succ]
        refine wpX_free (i := 1) (v := ?_) rfl (by kernel_rfl) (fun _ _ _ h => h) rfl (fun w' => ?_) ?_
        rotate_left
        · go_simp; try with_reducible rfl
        try simp only [Act.put, List.setIfInBounds_toArray, List.set_cons_zero, List.set_cons_succ]
        refine wpX_free (i := 2) (v := ?_) rfl (by kernel_rfl) (fun _ _ _ h => h) rfl (fun w' => ?_) ?_
        rotate_left
        · go_simp; try with_reducible rfl
        try simp only [Act.put, List.setIfInBounds_toArray, List.set_cons_zero, List.set_cons_succ]
        refine wpX_free (i := 3) (v := ?_) rfl (by kernel_rfl) (fun _ _ _ h => h) rfl (fun w' => ?_) ?_
        rotate_left
        · go_simp; try with_reducible rfl
        try simp only [Act.put, List.setIfInBounds_toArray, List.set_cons_zero, List.set_cons_succ]
        refine wpX_load (i := 4) (v := ?_) rfl (by kernel_rfl) (fun _ _ _ h => h) hC rfl (fun w' hw' => ?_) ?_
        rotate_left
        · obtain ⟨k1, k2⟩ := hw'; go_simp; try with_reducible rfl
        try simp only [Act.put, List.setIfInBounds_toArray, List.set_cons_zero, List.set_cons_succ]
        refine wpX_free (i := 5) (v := ?_) rfl (by kernel_rfl) (fun _ _ _ h => h) rfl (fun w' => ?_) ?_
        rotate_left
        · go_simp; try with_reducible rfl
        try simp only [Act.put, List.setIfInBounds_toArray, List.set_cons_zero, List.set_cons_succ]
        refine wpX_load (i := 6) (v := ?_) rfl (by kernel_rfl) (fun _ _ _ h => h) hC rfl (fun w' hw' => ?_) ?_
        rotate_left
        · obtain ⟨k1, k2⟩ := hw'; go_simp; try with_reducible rfl
        try simp only [Act.put, List.setIfInBounds_toArray, List.set_cons_zero, List.set_cons_succ]
        refine wpX_free (i := 7) (v := ?_) rfl (by kernel_rfl) (fun _ _ _ h => h) rfl (fun w' => ?_) ?_
        rotate_left
        · go_simp; try with_reducible rfl
        try simp only [Act.put, List.setIfInBounds_toArray, List.set_cons_zero, List.set_cons_succ]
        refine wpX_free (i := 8) (v := ?_) rfl (by kernel_rfl) (fun _ _ _ h => h) rfl (fun w' => ?_) ?_
        rotate_left
        · go_simp; try with_reducible rfl
        try simp only [Act.put, List.setIfInBounds_toArray, List.set_cons_zero, List.set_cons_succ]
        refine wpX_rest (t := [9]) (l := [_]) rfl (by kernel_rfl) (by kernel_rfl) ?_
        clear hC
        have P3 := P5.out
        have hp := P3.toPlIs.oh
        have f0 := hp.free (a * 3)
        have f1 := hp.free (a * 3 + 1)
        have f2 := hp.free (a * 3 + 2)
        have hq := FHand_cell hp (show a < S.hands.length from HAL.out)
        have y0 := hq.1
        have y1 := hq.2.1
        have y2 := hq.2.2
        clear hq
        have PN := P3.part0 (S' := handOff a { S with wire := S.wire ++ [(true, (a : Int), (j : Int), (k : Int), mt, st)] }) 3 (c' := FHand.ch (.slice (some ⟨g, 0, none⟩) S.hands.length hcp) (S.hands.set a noHand)) rfl rfl rfl (w2 := ((w5.setCell ⟨g, a * 3, none⟩ (.bool false)).setCell ⟨g, a * 3 + 1, none⟩ (.int .i64 0)).setCell ⟨g, a * 3 + 2, none⟩ (.int .i64 0)) (grown_set3 _ g _ _ _ _ _ _) (FHand.set_cells hp a noHand HAL.out) rfl P3.len P3.pos
        have FY := Fs.of_grown (S := Bm B w.heap.size) (grown_set3 w5 g (a * 3) (a * 3 + 1) (a * 3 + 2) (.bool false) (.int .i64 0) (.int .i64 0)) (fun k hk => P3.inB 4 k (by rw [← hk]; rfl))
        have FY := F5.out.bm FY (Nat.le_refl _)
        have PN := Lib.hid (PN.below (Below.refl _ _).drew)
        have FY := Lib.hid (FY.trans (Fs.of_below (Below.refl _ _).drew))
        clear P3 hp
        go_wp2
        go_ret
        exact DoR.mk HR.out (PN.out) FY.out
end Go.Proofs.Ytijpkcdalmlaiaa
