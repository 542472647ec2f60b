/-
  The reference's plant: a packet comes in. With it: The reference's plant: the desk made anew, workers' deeds.
-/
import Derived.Test.YtijpkcdalmlaiaaZRowFnPlantPackets33
import Derived.Test.YtijpkcdalmlaiaaZRowFnPlantPackets23
set_option linter.unusedVariables false
set_option linter.unusedSimpArgs false
namespace Go.Proofs.Ytijpkcdalmlaiaa
open Go.RowKit Go.Sort

set_option maxRecDepth 100000 in
set_option maxHeartbeats 4000000 in
theorem RnBack_any {b sb sm wk n : Nat} {t bs : Int} {sv : Value} {xss : List (List Int)} {M : Nat} {B : Nat → Prop} {S : PS} {vl vr ve vh vw vo : Value} {rv : Value} {rs : List (Int × Int × Int)} {l r : List Int} {q : Int} (w : World) (P : RunIs w b sb B S vl vr ve vh vw vo) (V : SvF M w sb n t sv xss bs sm wk) (hB : ∀ k, B k → M ≤ k) (hr : ∀ W, Fs (fun k => k = b) w W → FRecord.Sl W rv rs) (hla : learnAll rs (newD sm) = some (l, r, q)) (hok : ∀ x ∈ rs, recOk n sm x.1 x.2.1 x.2.2 = true) (hs : 1 ≤ sm ∧ sm ≤ 8) (hn6 : n ≤ 6) :
    Calls Try.prog 100 #[.pointer (some ⟨b, 0, none⟩), rv] w fun e w' => e = .returned (.tuple #[]) ∧ (∃ vl vr ve vh vw vo, RunIs w' b sb (Bm B w.heap.size) { S with recs := rs, sy := rs.length, l := l, r := r, q := q } vl vr ve vh vw vo) ∧ Fs B w w' := by
  have HB := Lib.hid P.ownB
  have HL := Lib.hid P.ownLt
  have hrl := hist_len hok hla
  have HLA := Lib.hid hla
  have HOK := Lib.hid hok
  have hdg := (learnAll_g (deskG_new n sm) hok hla).ok
  have hl0 : l.length = sm := hdg.1
  have hr0 : r.length = sm := hdg.2.1
  have HRS := Lib.hid hr
  have s0 := hr w (Fs.refl _ _)
  obtain ⟨ra, rc, hrv, hrc, hrc2, hrd⟩ := id s0
  subst hrv
  have own0 := Flat.Own.empty (F := FRecord) w (base := w.heap.size) (Nat.le_refl _)
  have bE : Below w.heap.size w (w.alloc (.cells #[] 121)) := (Below.refl _ _).alloc (Nat.le_refl _) _
  have hrd2 := hrd.below bE
  have P0 := Lib.hid P
  have HV := Lib.hid V
  have HBM := Lib.hid hB
  have hbl := P.blt
  have hln : ([] : List (Int × Int × Int)).length + rs.length ≤ 16777216 := by simp; omega
  have hbs : w.heap.size ≤ (w.alloc (.cells #[] 121)).heap.size := by simp
  unfold maxLen at hrc2
  clear P V hB hr hla hok hdg s0 hrd
  go_enter Try.func100, Try.ntmps100
  go_wp2_with (at_builtin; refine Flat.append FRecord _ _ _ rfl rfl rfl own0 rfl hrd2 hln hbs ?_)
  intro v' w2 o2 g2 b2

  have bA : Below w.heap.size w w2 := bE.trans b2
  obtain ⟨na, nc, hv', _, _⟩ := o2.shape
  have gA := grown_of_below bA ve.ownBlock
  have e2 := grown_at gA P0.out.hold.lt (P0.out.hold.ne_box (i := 2) rfl) 4
  have c4 := e2.1.trans P0.out.get.1.2.2.2.2
  have f4 := e2.2.trans (P0.out.fz 4)
  have f5 := (grown_at gA P0.out.hold.lt (P0.out.hold.ne_box (i := 2) rfl) 5).2.trans (P0.out.fz 5)
  have c5 := (grown_at gA P0.out.hold.lt (P0.out.hold.ne_box (i := 2) rfl) 5).1.trans P0.out.get.2.1
  have c0 := (grown_at gA P0.out.hold.lt (P0.out.hold.ne_box (i := 2) rfl) 0).1.trans P0.out.c0
  have P3 := P0.out.part (S' := { S with recs := rs }) 2 3 (c' := FRecord.ch v' rs) rfl rfl rfl (by decide) gA (Flat.Own.lower o2 (Nat.zero_le _)) (m := w.heap.size) (Nat.le_refl _) (fun x hx => .inr (World.ownsRow.lt o2 x hx).1) P0.out.len P0.out.pos
  have P4 := P3.number rs.length
  subst hv'
  have Fb : Fs (fun k => k = b) w ((w2.setCell ⟨b, 1 + 3, none⟩ (.slice na rs.length nc)).setCell ⟨b, 1 + 4, none⟩ (.int .i64 rs.length)) := Fs.set (S := fun k => k = b) (Fs.set (S := fun k => k = b) (Fs.of_below bA) (a := ⟨b, 1 + 3, none⟩) rfl _) (a := ⟨b, 1 + 4, none⟩) rfl _
  obtain ⟨W3, hW3⟩ : ∃ W3, W3 = (w2.setCell ⟨b, 4, none⟩ (.slice na rs.length nc)).setCell ⟨b, 5, none⟩ (.int .i64 rs.length) := ⟨_, rfl⟩
  have P5 := Lib.hid (show RunIs W3 b sb (Bm B w.heap.size) { S with recs := rs, sy := rs.length } vl vr (.slice na rs.length nc) vh vw vo by rw [hW3]; exact P4)
  have F5 := Lib.hid (show Fs (fun k => k = b) w W3 by rw [hW3]; exact Fb)
  have FB5 := Lib.hid (F5.out.mono (T := B) (fun k hk => by subst hk; exact HB.out k ⟨0, rfl⟩))
  have V5 := Lib.hid (HV.out.fs FB5.out HBM.out)
  have HW3 := Lib.hid hW3.symm
  clear P3 P4 Fb gA e2 o2 g2 b2 bA hW3
  go_wp2_with fail
  rw [HW3.out]
  refine (l09Desk_any n t bs wk _ V5.out.now.1 (HRS.out _ F5.out) hs.1 hs.2 (by omega) HOK.out).mono ?_
  rintro e w4 ⟨vl', vr', l', r', q', rfl, od4, b4, hd⟩
  have hd := hd _ HLA.out
  simp only [Prod.mk.injEq] at hd
  obtain ⟨rfl, rfl, rfl⟩ := hd
  have PN := Lib.hid (P5.out.newDesk q b4 od4 (by rw [hl0]; omega))
  have F6 := Lib.hid (FB5.out.bm (Fs.set3b (B := Bm B w.heap.size) (i := 1 + 0) (j := 1 + 1) (k := 1 + 2) (Fs.of_below b4) (.inl (HB.out b ⟨0, rfl⟩)) vl' vr' (.int .i64 q)) (Nat.le_refl _))
  obtain ⟨da, dn, dc, xa, xc, hvl, hvr⟩ := od4.form
  have e4 := (P5.out.below b4)
  have g1 := e4.fz 1
  have g2 := e4.fz 2
  have g3 := e4.fz 3
  obtain ⟨⟨_, q1, q2, q3, _⟩, _⟩ := e4.get
  subst hvl hvr
  unfold deskV
  clear od4 b4 e4
  go_wp2
  exact bodyPost_end (v := .tuple #[]) (by simp [results, Try.results100, go_sem]) rfl ⟨rfl, ⟨_, _, _, _, _, _, PN.out.mono (fun k hk => Bm.bm (n := w.heap.size) (Nat.le_refl _) FB5.out.size k hk)⟩, F6.out⟩
set_option maxRecDepth 100000 in
set_option maxHeartbeats 4000000 in
theorem RnWorker_10 {b sb sm wk n : Nat} {t bs : Int} {sv : Value} {xss : List (List Int)} {M : Nat} {B : Nat → Prop} {S : PS} {vl vr ve vh vw vo : Value} {a : Nat} (w : World) (P : RunIs w b sb B S vl vr ve vh vw vo) (V : SvF M w sb n t sv xss bs sm wk) (hB : ∀ k, B k → M ≤ k) (hI : PInv n sm wk S) (hs : 1 ≤ sm ∧ sm ≤ 8) (hwk : 1 ≤ wk ∧ wk ≤ 4) (hch : chainOk n t xss = true) (hbs : 0 ≤ bs ∧ bs ≤ 999999992) (ha : a ≤ 999) :
    Calls Try.prog 102 #[.pointer (some ⟨b, 0, none⟩), .agg #[.int .i64 10, .int .i64 a]] w (DoR b sb B (if (wk : Int) ≤ a then (2, S) else (0, handOff a S)) w) := by
  have HBM := Lib.hid hB
  have HIN := Lib.hid hI
  have b1 : Below w.heap.size w (w.alloc (.cells #[.int .i64 10, .int .i64 a] 68)) := (Below.refl _ _).alloc (Nat.le_refl _) _
  have K1 := Lib.hid (CellsAt.new w [.int .i64 10, .int .i64 a] 68)
  obtain ⟨W1, hW1⟩ : ∃ W1, W1 = w.alloc (.cells #[.int .i64 10, .int .i64 a] 68) := ⟨_, rfl⟩
  rw [show (w.alloc (.cells ([.int .i64 10, .int .i64 a] : List Value).toArray 68)) = W1 from hW1.symm] at K1
  rw [← hW1] at b1
  have P1 := Lib.hid (P.below b1)
  have B1 := Lib.hid b1
  have HB := Lib.hid P.ownB
  have HL := Lib.hid P.ownLt
  have F1 := Lib.hid (Fs.of_below (S := B) b1)
  have HZ1 := Lib.hid (show W1.heap.size = w.heap.size + 1 by rw [hW1]; simp)
  have HW1 := Lib.hid hW1.symm
  have V1 := Lib.hid (V.fs F1.out hB)
  have hbl := P1.out.blt
  have HHL := Lib.hid hI.hl
  have k0 := K1.out.get 0 _ rfl
  have k1 := K1.out.get 1 _ rfl
  have q0 := P1.out.c0
  obtain ⟨_, _, _, _, _, s5⟩ := servCells V1.out.now.1
  have kk1 := fun d os => cell_regrown k1 d os
  have kq0 := fun d os => cell_regrown q0 d os
  have ks5 := fun d os => cell_regrown s5 d os
  clear P b1 hW1 hI V hB k1 q0 s5
  by_cases hr : (wk : Int) ≤ a
  · rw [if_pos hr]
    go_enter Try.func102, Try.ntmps102
    go_wp2_with fail
    rw [HW1.out]
    refine wp_region_quiet_below (by kernel_rfl) (by kernel_rfl) ?_
    repeat (first | go_big_quiet_skip | quiet_step (fail))
    refine wpQuiet_nil ?_
    intro _ hw'
    obtain ⟨⟨dq, osq⟩, hw''⟩ := hw'
    subst hw''
    have bq := below_regrown W1 dq osq
    generalize grow (redrawn W1 dq) osq = wq at bq ⊢
    clear kk1 kq0 ks5 k0
    go_wp2
    go_ret
    exact DoR.mk rfl ((P1.out.below bq).mono (fun k hk => .inl hk)) (F1.out.trans (Fs.of_below bq))
  · rw [if_neg hr]
    have hal : a < S.hands.length := by rw [HHL.out]; omega
    have hle : (a : Int) < (wk : Int) := by omega
    clear hr
    go_enter Try.func102, Try.ntmps102
    go_wp2_with fail
    rw [HW1.out]
    refine wp_region_quiet_below (by kernel_rfl) (by kernel_rfl) ?_
    repeat (first | go_big_quiet_skip | quiet_step (fail))
    refine wpQuiet_nil ?_
    intro _ hw'
    obtain ⟨⟨dq, osq⟩, hw''⟩ := hw'
    subst hw''
    have bq := below_regrown W1 dq osq
    generalize grow (redrawn W1 dq) osq = wq at bq ⊢
    have P2 := Lib.hid (P1.out.below bq)
    have F2 := Lib.hid (F1.out.trans (Fs.of_below bq))
    have K2 := Lib.hid (K1.out.below bq)
    have V2 := Lib.hid (V1.out.fs (Fs.of_below (S := B) bq) HBM.out)
    have HZ2 := Lib.hid (show w.heap.size ≤ wq.heap.size by have := bq.size; have := HZ1.out; omega)
    have hk0 := K2.out.get 0 _ rfl
    clear kk1 kq0 ks5 k0 bq
    obtain ⟨g, hcp, rfl, _⟩ := P2.out.oh.form (by omega)
    have a0 : (0 : Int) ≤ (a : Int) := by omega
    have a1 : (a : Int) < (S.hands.length : Int) := by omega
    have CW := Lib.hid (show ∀ W, Below wq.heap.size wq W → (W.cell? ⟨b, 6, none⟩ = some (.slice (some ⟨g, 0, none⟩) S.hands.length hcp) ∧ W.cell? ⟨w.heap.size, 1, none⟩ = some (.int .i64 a)) from fun W h => ⟨(P2.out.below h).get.2.2.1, (K2.out.below h).get 1 _ rfl⟩)
    go_wp2_with fail
    refine wpX_start (fun W => W.cell? ⟨b, 6, none⟩ = some (.slice (some ⟨g, 0, none⟩) S.hands.length hcp) ∧ W.cell? ⟨w.heap.size, 1, none⟩ = some (.int .i64 a)) [9] (by kernel_rfl) ?_
    have hC := CW.out wq.drew (Below.refl wq.heap.size wq).drew
    refine wpX_free (i := 0) (v := ?_) rfl (by kernel_rfl) (fun _ _ _ h => h) rfl (fun w' => ?_) ?_
    rotate_left
    · go_simp; try with_reducible rfl
    try simp only [Act.put, List.setIfInBounds_toArray, List.set_cons_zero, List.set_cons_succ]
    refine wpX_free (i := 1) (v := ?_) rfl (by kernel_rfl) (fun _ _ _ h => h) rfl (fun w' => ?_) ?_
    rotate_left
    · go_simp; try with_reducible rfl
    try simp only [Act.put, List.setIfInBounds_toArray, List.set_cons_zero, List.set_cons_succ]
    refine wpX_free (i := 2) (v := ?_) rfl (by kernel_rfl) (fun _ _ _ h => h) rfl (fun w' => ?_) ?_
    rotate_left
    · go_simp; try with_reducible rfl
    try simp only [Act.put, List.setIfInBounds_toArray, List.set_cons_zero, List.set_cons_succ]
    refine wpX_free (i := 3) (v := ?_) rfl (by kernel_rfl) (fun _ _ _ h => h) rfl (fun w' => ?_) ?_
    rotate_left
    · go_simp; try with_reducible rfl
    try simp only [Act.put, List.setIfInBounds_toArray, List.set_cons_zero, List.set_cons_succ]
    refine wpX_load (i := 4) (v := ?_) rfl (by kernel_rfl) (fun _ _ _ h => h) hC rfl (fun w' hw' => ?_) ?_
    rotate_left
    · obtain ⟨k1, k2⟩ := hw'; go_simp; try with_reducible rfl
    try simp only [Act.put, List.setIfInBounds_toArray, List.set_cons_zero, List.set_cons_succ]
    refine wpX_free (i := 5) (v := ?_) rfl (by kernel_rfl) (fun _ _ _ h => h) rfl (fun w' => ?_) ?_
    rotate_left
    · go_simp; try with_reducible rfl
    try simp only [Act.put, List.setIfInBounds_toArray, List.set_cons_zero, List.set_cons_succ]
    refine wpX_load (i := 6) (v := ?_) rfl (by kernel_rfl) (fun _ _ _ h => h) hC rfl (fun w' hw' => ?_) ?_
    rotate_left
    · obtain ⟨k1, k2⟩ := hw'; go_simp; try with_reducible rfl
    try simp only [Act.put, List.setIfInBounds_toArray, List.set_cons_zero, List.set_cons_succ]
    refine wpX_free (i := 7) (v := ?_) rfl (by kernel_rfl) (fun _ _ _ h => h) rfl (fun w' => ?_) ?_
    rotate_left
    · go_simp; try with_reducible rfl
    try simp only [Act.put, List.setIfInBounds_toArray, List.set_cons_zero, List.set_cons_succ]
    refine wpX_free (i := 8) (v := ?_) rfl (by kernel_rfl) (fun _ _ _ h => h) rfl (fun w' => ?_) ?_
    rotate_left
    · go_simp; try with_reducible rfl
    try simp only [Act.put, List.setIfInBounds_toArray, List.set_cons_zero, List.set_cons_succ]
    refine wpX_rest (t := [9]) (l := [_]) rfl (by kernel_rfl) (by kernel_rfl) ?_
    clear hC
    have P3 := P2.out
    have hp := P3.toPlIs.oh
    have f0 := hp.free (a * 3)
    have f1 := hp.free (a * 3 + 1)
    have f2 := hp.free (a * 3 + 2)
    have hq := FHand_cell hp hal
    have y0 := hq.1
    have y1 := hq.2.1
    have y2 := hq.2.2
    clear hq
    have PN := P3.part0 (S' := handOff a S) 3 (c' := FHand.ch (.slice (some ⟨g, 0, none⟩) S.hands.length hcp) (S.hands.set a noHand)) rfl rfl rfl (w2 := ((wq.setCell ⟨g, a * 3, none⟩ (.bool false)).setCell ⟨g, a * 3 + 1, none⟩ (.int .i64 0)).setCell ⟨g, a * 3 + 2, none⟩ (.int .i64 0)) (grown_set3 _ g _ _ _ _ _ _) (FHand.set_cells hp a noHand hal) rfl P3.len P3.pos
    have FY := Fs.of_grown (S := B) (grown_set3 wq g (a * 3) (a * 3 + 1) (a * 3 + 2) (.bool false) (.int .i64 0) (.int .i64 0)) (fun k hk => P3.inB 4 k (by rw [← hk]; rfl))
    have FY := F2.out.trans FY
    have PN := Lib.hid (PN.below (Below.refl _ _).drew)
    have FY := Lib.hid (FY.trans (Fs.of_below (Below.refl _ _).drew))
    clear P3 hp
    go_wp2
    go_ret
    exact DoR.mk rfl (PN.out.mono (fun k hk => .inl hk)) FY.out
set_option maxRecDepth 100000 in
set_option maxHeartbeats 4000000 in
theorem RnWorker_1 {b sb sm wk n : Nat} {t bs : Int} {sv : Value} {xss : List (List Int)} {M : Nat} {B : Nat → Prop} {S : PS} {vl vr ve vh vw vo : Value} {a : Nat} (w : World) (P : RunIs w b sb B S vl vr ve vh vw vo) (V : SvF M w sb n t sv xss bs sm wk) (hB : ∀ k, B k → M ≤ k) (hI : PInv n sm wk S) (hs : 1 ≤ sm ∧ sm ≤ 8) (hwk : 1 ≤ wk ∧ wk ≤ 4) (hch : chainOk n t xss = true) (hbs : 0 ≤ bs ∧ bs ≤ 999999992) (ha : a ≤ 999) :
    Calls Try.prog 102 #[.pointer (some ⟨b, 0, none⟩), .agg #[.int .i64 1, .int .i64 a]] w (DoR b sb B (giveS sm wk a S) w) := by
  have HBM := Lib.hid hB
  have HIN := Lib.hid hI
  have b1 : Below w.heap.size w (w.alloc (.cells #[.int .i64 1, .int .i64 a] 68)) := (Below.refl _ _).alloc (Nat.le_refl _) _
  have K1 := Lib.hid (CellsAt.new w [.int .i64 1, .int .i64 a] 68)
  obtain ⟨W1, hW1⟩ : ∃ W1, W1 = w.alloc (.cells #[.int .i64 1, .int .i64 a] 68) := ⟨_, rfl⟩
  rw [show (w.alloc (.cells ([.int .i64 1, .int .i64 a] : List Value).toArray 68)) = W1 from hW1.symm] at K1
  rw [← hW1] at b1
  have P1 := Lib.hid (P.below b1)
  have B1 := Lib.hid b1
  have HB := Lib.hid P.ownB
  have HL := Lib.hid P.ownLt
  have F1 := Lib.hid (Fs.of_below (S := B) b1)
  have HZ1 := Lib.hid (show W1.heap.size = w.heap.size + 1 by rw [hW1]; simp)
  have HW1 := Lib.hid hW1.symm
  have V1 := Lib.hid (V.fs F1.out hB)
  have hbl := P1.out.blt
  have HHL := Lib.hid hI.hl
  have k0 := K1.out.get 0 _ rfl
  have k1 := K1.out.get 1 _ rfl
  have q0 := P1.out.c0
  obtain ⟨_, _, _, _, _, s5⟩ := servCells V1.out.now.1
  have kk1 := fun d os => cell_regrown k1 d os
  have kq0 := fun d os => cell_regrown q0 d os
  have ks5 := fun d os => cell_regrown s5 d os
  clear P b1 hW1 hI V hB k1 q0 s5
  by_cases hr : (wk : Int) ≤ a
  · rw [show giveS sm wk a S = (2, S) by unfold giveS; rw [if_pos hr]]
    go_enter Try.func102, Try.ntmps102
    go_wp2_with fail
    rw [HW1.out]
    refine wp_region_quiet_below (by kernel_rfl) (by kernel_rfl) ?_
    repeat (first | go_big_quiet_skip | quiet_step (fail))
    refine wpQuiet_nil ?_
    intro _ hw'
    obtain ⟨⟨dq, osq⟩, hw''⟩ := hw'
    subst hw''
    have bq := below_regrown W1 dq osq
    generalize grow (redrawn W1 dq) osq = wq at bq ⊢
    clear kk1 kq0 ks5 k0
    go_wp2
    go_ret
    exact DoR.mk rfl ((P1.out.below bq).mono (fun k hk => .inl hk)) (F1.out.trans (Fs.of_below bq))
  · have HR := Lib.hid (show giveS sm wk a S = if nextS S.l S.r sm < 0 then (4, S) else sendS S (false, (a : Int), nextS S.l S.r sm, S.l.getD (nextS S.l S.r sm).toNat 0, false, 0) by unfold giveS; rw [if_neg hr])
    have hal : a < S.hands.length := by rw [HHL.out]; omega
    have hle : (a : Int) < (wk : Int) := by omega
    clear hr
    go_enter Try.func102, Try.ntmps102
    go_wp2_with fail
    rw [HW1.out]
    refine wp_region_quiet_below (by kernel_rfl) (by kernel_rfl) ?_
    repeat (first | go_big_quiet_skip | quiet_step (fail))
    refine wpQuiet_nil ?_
    intro _ hw'
    obtain ⟨⟨dq, osq⟩, hw''⟩ := hw'
    subst hw''
    have bq := below_regrown W1 dq osq
    generalize grow (redrawn W1 dq) osq = wq at bq ⊢
    have P2 := Lib.hid (P1.out.below bq)
    have F2 := Lib.hid (F1.out.trans (Fs.of_below bq))
    have K2 := Lib.hid (K1.out.below bq)
    have V2 := Lib.hid (V1.out.fs (Fs.of_below (S := B) bq) HBM.out)
    have HZ2 := Lib.hid (show w.heap.size ≤ wq.heap.size by have := bq.size; have := HZ1.out; omega)
    have hk0 := K2.out.get 0 _ rfl
    clear kk1 kq0 ks5 k0 bq
    obtain ⟨gl, cl, gr, cr, rfl, rfl, _⟩ := P2.out.desk
    have hdl : S.l.length = sm := HIN.out.desk.ok.1
    have HDL := Lib.hid hdl
    have hnx := nextS_in S.l S.r sm
    clear hdl
    go_wp2_with fail
    refine (RnNext_any _ P2.out V2.out HDL.out (by omega)).mono ?_
    rintro e w3 ⟨rfl, b3⟩
    generalize hz : nextS S.l S.r sm = z at hnx HR ⊢
    clear hz
    have P3 := Lib.hid (P2.out.below b3)
    have F3 := Lib.hid (F2.out.trans (Fs.of_below b3))
    have K3 := Lib.hid (K2.out.below b3)
    have HZ3 := Lib.hid (Nat.le_trans HZ2.out b3.size)
    clear b3 hk0
    by_cases hz : z < 0
    · have HR := Lib.hid (HR.out.trans (if_pos hz))
      go_wp2
      go_ret
      exact DoR.mk HR.out (P3.out.mono (fun k hk => .inl hk)) F3.out
    · have HR := Lib.hid (HR.out.trans (if_neg hz))
      obtain ⟨x, rfl⟩ : ∃ x : Nat, z = (x : Int) := ⟨z.toNat, by omega⟩
      have hx : x < S.l.length := by rw [HDL.out]; omega
      have y0 := P3.out.ol.cell hx
      have HY := Lib.hid (show S.l.getD (x : Int).toNat 0 = S.l[x] by rw [Int.toNat_natCast]; simp [hx])
      generalize S.l[x] = y at y0 HY
      rw [HY.out] at HR
      have x0 : (0 : Int) ≤ (x : Int) := by omega
      have x1 : (x : Int) < (S.l.length : Int) := by omega
      have Y0 := Lib.hid y0
      have CW := Lib.hid (show ∀ W, Below w3.heap.size w3 W → (W.cell? ⟨w.heap.size, 1, none⟩ = some (.int .i64 a) ∧ W.cell? ⟨b, 1, none⟩ = some (.slice (some ⟨gl, 0, none⟩) S.l.length cl) ∧ W.cell? ⟨gl, x, none⟩ = some (.int .i64 y)) from fun W h => ⟨(K3.out.below h).get 1 _ rfl, (P3.out.below h).get.1.2.1, (h.cell (p := ⟨gl, x, none⟩) (cell_lt Y0.out)).trans Y0.out⟩)
      clear hz hnx y0
      go_wp2_with fail
      refine wpX_start (fun W => W.cell? ⟨w.heap.size, 1, none⟩ = some (.int .i64 a) ∧ W.cell? ⟨b, 1, none⟩ = some (.slice (some ⟨gl, 0, none⟩) S.l.length cl) ∧ W.cell? ⟨gl, x, none⟩ = some (.int .i64 y)) [14, 15] (by kernel_rfl) ?_
      have hC := CW.out w3.drew (Below.refl w3.heap.size w3).drew
      refine wpX_free (i := 0) (v := ?_) rfl (by kernel_rfl) (fun _ _ _ h => h) rfl (fun w' => ?_) ?_
      rotate_left
      · go_simp; try with_reducible rfl
      try simp only [Act.put, List.setIfInBounds_toArray, List.set_cons_zero, List.set_cons_succ]
      refine wpX_free (i := 1) (v := ?_) rfl (by kernel_rfl) (fun _ _ _ h => h) rfl (fun w' => ?_) ?_
      rotate_left
      · go_simp; try with_reducible rfl
      try simp only [Act.put, List.setIfInBounds_toArray, List.set_cons_zero, List.set_cons_succ]
      refine wpX_load (i := 2) (v := ?_) rfl (by kernel_rfl) (fun _ _ _ h => h) hC rfl (fun w' hw' => ?_) ?_
      rotate_left
      · obtain ⟨k1, k2, k3⟩ := hw'; go_simp; try with_reducible rfl
      try simp only [Act.put, List.setIfInBounds_toArray, List.set_cons_zero, List.set_cons_succ]
      refine wpX_free (i := 3) (v := ?_) rfl (by kernel_rfl) (fun _ _ _ h => h) rfl (fun w' => ?_) ?_
      rotate_left
      · go_simp; try with_reducible rfl
      try simp only [Act.put, List.setIfInBounds_toArray, List.set_cons_zero, List.set_cons_succ]
      refine wpX_free (i := 4) (v := ?_) rfl (by kernel_rfl) (fun _ _ _ h => h) rfl (fun w' => ?_) ?_
      rotate_left
      · go_simp; try with_reducible rfl
      try simp only [Act.put, List.setIfInBounds_toArray, List.set_cons_zero, List.set_cons_succ]
      refine wpX_free (i := 5) (v := ?_) rfl (by kernel_rfl) (fun _ _ _ h => h) rfl (fun w' => ?_) ?_
      rotate_left
      · go_simp; try with_reducible rfl
      try simp only [Act.put, List.setIfInBounds_toArray, List.set_cons_zero, List.set_cons_succ]
      refine wpX_free (i := 6) (v := ?_) rfl (by kernel_rfl) (fun _ _ _ h => h) rfl (fun w' => ?_) ?_
      rotate_left
      · go_simp; try with_reducible rfl
      try simp only [Act.put, List.setIfInBounds_toArray, List.set_cons_zero, List.set_cons_succ]
      refine wpX_free (i := 7) (v := ?_) rfl (by kernel_rfl) (fun _ _ _ h => h) rfl (fun w' => ?_) ?_
      rotate_left
      · go_simp; try with_reducible rfl
      try simp only [Act.put, List.setIfInBounds_toArray, List.set_cons_zero, List.set_cons_succ]
      refine wpX_free (i := 8) (v := ?_) rfl (by kernel_rfl) (fun _ _ _ h => h) rfl (fun w' => ?_) ?_
      rotate_left
      · go_simp; try with_reducible rfl
      try simp only [Act.put, List.setIfInBounds_toArray, List.set_cons_zero, List.set_cons_succ]
      refine wpX_load (i := 9) (v := ?_) rfl (by kernel_rfl) (fun _ _ _ h => h) hC rfl (fun w' hw' => ?_) ?_
      rotate_left
      · obtain ⟨k1, k2, k3⟩ := hw'; go_simp; try with_reducible rfl
      try simp only [Act.put, List.setIfInBounds_toArray, List.set_cons_zero, List.set_cons_succ]
      refine wpX_free (i := 10) (v := ?_) rfl (by kernel_rfl) (fun _ _ _ h => h) rfl (fun w' => ?_) ?_
      rotate_left
      · go_simp; try with_reducible rfl
      try simp only [Act.put, List.setIfInBounds_toArray, List.set_cons_zero, List.set_cons_succ]
      refine wpX_free (i := 11) (v := ?_) rfl (by kernel_rfl) (fun _ _ _ h => h) rfl (fun w' => ?_) ?_
      rotate_left
      · go_simp; try with_reducible rfl
      try simp only [Act.put, List.setIfInBounds_toArray, List.set_cons_zero, List.set_cons_succ]
      refine wpX_load (i := 12) (v := ?_) rfl (by kernel_rfl) (fun _ _ _ h => h) hC rfl (fun w' hw' => ?_) ?_
      rotate_left
      · obtain ⟨k1, k2, k3⟩ := hw'; go_simp; try with_reducible rfl
      try simp only [Act.put, List.setIfInBounds_toArray, List.set_cons_zero, List.set_cons_succ]
      refine wpX_free (i := 13) (v := ?_) rfl (by kernel_rfl) (fun _ _ _ h => h) rfl (fun w' => ?_) ?_
      rotate_left
      · go_simp; try with_reducible rfl
      try simp only [Act.put, List.setIfInBounds_toArray, List.set_cons_zero, List.set_cons_succ]
      refine wpX_rest (t := [14, 15]) (l := [_, _]) rfl (by kernel_rfl) (by kernel_rfl) ?_
      clear hC
      have P4 := Lib.hid (P3.out.below (Below.refl w3.heap.size w3).drew)
      have F4 := Lib.hid (F3.out.trans (Fs.of_below (Below.refl w3.heap.size w3).drew))
      go_wp2_with fail
      refine (RnSend_any false a x y false 0 _ P4.out HIN.out.wl).mono ?_
      intro e w5 h
      obtain ⟨rfl, h9⟩ := h.up F4.out
      have HP := Lib.hid h9
      clear h h9
      go_wp2
      go_ret
      rw [HR.out]
      exact ⟨rfl, HP.out⟩
end Go.Proofs.Ytijpkcdalmlaiaa
namespace Go.Proofs.Ytijpkcdalmlaiaa
open Go.RowKit Go.Sort

set_option maxRecDepth 100000 in
set_option maxHeartbeats 4000000 in
theorem RnCome_front {b sb sm wk n a j : Nat} {B : Nat → Prop} {S : PS} {vl vr ve vh vw vo : Value} (mt : Bool) (lev st : Int) (w : World) (P : RunIs w b sb B S vl vr ve vh vw vo) (hD : PlOk sm S) (hp : PkOk n sm wk (false, a, j, lev, mt, st)) (hh : S.hands.length = wk) :
    Calls Try.prog 118 #[.pointer (some ⟨b, 0, none⟩), .agg #[.bool false, .int .i64 a, .int .i64 j, .int .i64 lev, .bool mt, .int .i64 st]] w fun e w' => e = .returned (.tuple #[]) ∧ ∃ ve', RunIs w' b sb (Bm B w.heap.size) (comeS (false, a, j, lev, mt, st) S) vl vr ve' vh vw vo ∧ Fs B w w' := by
  obtain ⟨p1, p2, p3, p4, p5, p6, p7, p8⟩ := hp
  replace p2 : (a : Int) < (wk : Int) := p2
  replace p4 : (j : Int) < (sm : Int) := p4
  replace p5 : 0 ≤ lev := p5
  replace p6 : lev ≤ 6 := p6
  have hD0 := Lib.hid hD
  obtain ⟨hd, hs1, hs8, hrl, _, _⟩ := hD
  obtain ⟨d1, d2, d3, d4, d5⟩ := hd
  replace d1 : S.l.length = sm := d1
  have b1 : Below w.heap.size w (w.alloc (.cells #[.bool false, .int .i64 a, .int .i64 j, .int .i64 lev, .bool mt, .int .i64 st] 125)) := (Below.refl _ _).alloc (Nat.le_refl _) _
  have K1 := Lib.hid (CellsAt.new w [.bool false, .int .i64 a, .int .i64 j, .int .i64 lev, .bool mt, .int .i64 st] 125)
  obtain ⟨W1, hW1⟩ : ∃ W1, W1 = w.alloc (.cells #[.bool false, .int .i64 a, .int .i64 j, .int .i64 lev, .bool mt, .int .i64 st] 125) := ⟨_, rfl⟩
  rw [show (w.alloc (.cells ([.bool false, .int .i64 a, .int .i64 j, .int .i64 lev, .bool mt, .int .i64 st] : List Value).toArray 125)) = W1 from hW1.symm] at K1
  rw [← hW1] at b1
  have P1 := Lib.hid (P.below b1)
  have B1 := Lib.hid b1
  have HB := Lib.hid P.ownB
  have HL := Lib.hid P.ownLt
  have F1 := Lib.hid (Fs.of_below (S := B) b1)
  have HZ1 := Lib.hid (show W1.heap.size = w.heap.size + 1 by rw [hW1]; simp)
  have HW1 := Lib.hid hW1.symm
  have HH := Lib.hid hh
  have D1 := Lib.hid d1
  have ha : a < S.hands.length := by omega
  obtain ⟨g, hc, rfl, _⟩ := P.oh.form (by omega)
  have g5 := P1.out.get.2.2.1
  obtain ⟨h0, _, _⟩ := FHand_cell P1.out.oh ha
  have HX := Lib.hid (show (S.hands.getD (a : Int).toNat noHand) = S.hands[a] by rw [Int.toNat_natCast]; simp [ha])
  generalize S.hands[a] = x at h0 HX
  obtain ⟨x0, x1, x2⟩ := x
  dsimp only at h0
  have HH0 := Lib.hid h0
  have c0 := K1.out.get 0 _ rfl
  have c1 := K1.out.get 1 _ rfl
  have i0 : (0 : Int) ≤ (a : Int) := by omega
  have i1 : (a : Int) < (S.hands.length : Int) := by omega
  have kg5 := fun d os => cell_regrown g5 d os
  have kc1 := fun d os => cell_regrown c1 d os
  have kh0 := fun d os => cell_regrown h0 d os
  have HA := Lib.hid ha
  clear P b1 hW1 p1 p2 p3 p4 p7 p8 hh d1 d2 d3 d4 d5
  cases x0
  · have HS := Lib.hid (show comeS (false, (a : Int), (j : Int), lev, mt, st) S = { S with hands := S.hands.set a (true, (j : Int), lev) } by
      unfold comeS
      dsimp only
      rw [if_pos rfl, HX.out, if_pos rfl, Int.toNat_natCast])
    go_enter Try.func118, Try.ntmps118
    go_wp2_with fail
    rw [HW1.out]
    refine wp_region_quiet_below (by kernel_rfl) (by kernel_rfl) ?_
    repeat (first | go_big_quiet_skip | quiet_step (fail))
    refine wpQuiet_nil ?_
    intro _ hw'
    obtain ⟨⟨dq, osq⟩, hw''⟩ := hw'
    subst hw''
    have bq := below_regrown W1 dq osq
    generalize grow (redrawn W1 dq) osq = wq at bq ⊢
    have P2 := Lib.hid (P1.out.below bq)
    have F2 := Lib.hid (F1.out.trans (Fs.of_below bq))
    have K2 := Lib.hid (K1.out.below bq)
    have CW := Lib.hid (show ∀ W, Below wq.heap.size wq W → (W.cell? ⟨b, 6, none⟩ = some (.slice (some ⟨g, 0, none⟩) S.hands.length hc) ∧ W.cell? ⟨w.heap.size, 1, none⟩ = some (.int .i64 a) ∧ W.cell? ⟨w.heap.size, 2, none⟩ = some (.int .i64 j) ∧ W.cell? ⟨w.heap.size, 3, none⟩ = some (.int .i64 lev)) from fun W h => ⟨(P2.out.below h).get.2.2.1, (K2.out.below h).get 1 _ rfl, (K2.out.below h).get 2 _ rfl, (K2.out.below h).get 3 _ rfl⟩)
    clear kg5 kc1 kh0 bq g5 c0 c1 h0
    go_wp2_with fail
    refine wpX_start (fun W => W.cell? ⟨b, 6, none⟩ = some (.slice (some ⟨g, 0, none⟩) S.hands.length hc) ∧ W.cell? ⟨w.heap.size, 1, none⟩ = some (.int .i64 a) ∧ W.cell? ⟨w.heap.size, 2, none⟩ = some (.int .i64 j) ∧ W.cell? ⟨w.heap.size, 3, none⟩ = some (.int .i64 lev)) [13] (by kernel_rfl) ?_
    have hC := CW.out wq.drew (Below.refl wq.heap.size wq).drew
    refine wpX_free (i := 0) (v := ?_) rfl (by kernel_rfl) (fun _ _ _ h => h) rfl (fun w' => ?_) ?_
    rotate_left
    · go_simp; try with_reducible rfl
    try simp only [Act.put, List.setIfInBounds_toArray, List.set_cons_zero, List.set_cons_succ]
    refine wpX_free (i := 1) (v := ?_) rfl (by kernel_rfl) (fun _ _ _ h => h) rfl (fun w' => ?_) ?_
    rotate_left
    · go_simp; try with_reducible rfl
    try simp only [Act.put, List.setIfInBounds_toArray, List.set_cons_zero, List.set_cons_succ]
    refine wpX_free (i := 2) (v := ?_) rfl (by kernel_rfl) (fun _ _ _ h => h) rfl (fun w' => ?_) ?_
    rotate_left
    · go_simp; try with_reducible rfl
    try simp only [Act.put, List.setIfInBounds_toArray, List.set_cons_zero, List.set_cons_succ]
    refine wpX_free (i := 3) (v := ?_) rfl (by kernel_rfl) (fun _ _ _ h => h) rfl (fun w' => ?_) ?_
    rotate_left
    · go_simp; try with_reducible rfl
    try simp only [Act.put, List.setIfInBounds_toArray, List.set_cons_zero, List.set_cons_succ]
    refine wpX_load (i := 4) (v := ?_) rfl (by kernel_rfl) (fun _ _ _ h => h) hC rfl (fun w' hw' => ?_) ?_
    rotate_left
    · obtain ⟨k1, k2, k3, k4⟩ := hw'; go_simp; try with_reducible rfl
    try simp only [Act.put, List.setIfInBounds_toArray, List.set_cons_zero, List.set_cons_succ]
    refine wpX_free (i := 5) (v := ?_) rfl (by kernel_rfl) (fun _ _ _ h => h) rfl (fun w' => ?_) ?_
    rotate_left
    · go_simp; try with_reducible rfl
    try simp only [Act.put, List.setIfInBounds_toArray, List.set_cons_zero, List.set_cons_succ]
    refine wpX_load (i := 6) (v := ?_) rfl (by kernel_rfl) (fun _ _ _ h => h) hC rfl (fun w' hw' => ?_) ?_
    rotate_left
    · obtain ⟨k1, k2, k3, k4⟩ := hw'; go_simp; try with_reducible rfl
    try simp only [Act.put, List.setIfInBounds_toArray, List.set_cons_zero, List.set_cons_succ]
    refine wpX_free (i := 7) (v := ?_) rfl (by kernel_rfl) (fun _ _ _ h => h) rfl (fun w' => ?_) ?_
    rotate_left
    · go_simp; try with_reducible rfl
    try simp only [Act.put, List.setIfInBounds_toArray, List.set_cons_zero, List.set_cons_succ]
    refine wpX_load (i := 8) (v := ?_) rfl (by kernel_rfl) (fun _ _ _ h => h) hC rfl (fun w' hw' => ?_) ?_
    rotate_left
    · obtain ⟨k1, k2, k3, k4⟩ := hw'; go_simp; try with_reducible rfl
    try simp only [Act.put, List.setIfInBounds_toArray, List.set_cons_zero, List.set_cons_succ]
    refine wpX_free (i := 9) (v := ?_) rfl (by kernel_rfl) (fun _ _ _ h => h) rfl (fun w' => ?_) ?_
    rotate_left
    · go_simp; try with_reducible rfl
    try simp only [Act.put, List.setIfInBounds_toArray, List.set_cons_zero, List.set_cons_succ]
    refine wpX_load (i := 10) (v := ?_) rfl (by kernel_rfl) (fun _ _ _ h => h) hC rfl (fun w' hw' => ?_) ?_
    rotate_left
    · obtain ⟨k1, k2, k3, k4⟩ := hw'; go_simp; try with_reducible rfl
    try simp only [Act.put, List.setIfInBounds_toArray, List.set_cons_zero, List.set_cons_succ]
    refine wpX_free (i := 11) (v := ?_) rfl (by kernel_rfl) (fun _ _ _ h => h) rfl (fun w' => ?_) ?_
    rotate_left
    · go_simp; try with_reducible rfl
    try simp only [Act.put, List.setIfInBounds_toArray, List.set_cons_zero, List.set_cons_succ]
    refine wpX_free (i := 12) (v := ?_) rfl (by kernel_rfl) (fun _ _ _ h => h) rfl (fun w' => ?_) ?_
    rotate_left
    · go_simp; try with_reducible rfl
    try simp only [Act.put, List.setIfInBounds_toArray, List.set_cons_zero, List.set_cons_succ]
    refine wpX_rest (t := [13]) (l := [_]) rfl (by kernel_rfl) (by kernel_rfl) ?_
    clear hC
    have P3 := P2.out
    have hp := P3.toPlIs.oh
    have f0 := hp.free (a * 3)
    have f1 := hp.free (a * 3 + 1)
    have f2 := hp.free (a * 3 + 2)
    have hq := FHand_cell hp ha
    have y0 := hq.1
    have y1 := hq.2.1
    have y2 := hq.2.2
    clear hq
    have PN := P3.part0 (S' := { S with hands := S.hands.set a (true, (j : Int), lev) }) 3 (c' := FHand.ch (.slice (some ⟨g, 0, none⟩) S.hands.length hc) (S.hands.set a (true, (j : Int), lev))) rfl rfl rfl (w2 := ((wq.setCell ⟨g, a * 3, none⟩ (.bool true)).setCell ⟨g, a * 3 + 1, none⟩ (.int .i64 j)).setCell ⟨g, a * 3 + 2, none⟩ (.int .i64 lev)) (grown_set3 _ g _ _ _ _ _ _) (FHand.set_cells hp a (true, (j : Int), lev) ha) rfl P3.len P3.pos
    have FY := F2.out.trans (Fs.of_grown (S := B) (grown_set3 wq g (a * 3) (a * 3 + 1) (a * 3 + 2) (.bool true) (.int .i64 j) (.int .i64 lev)) (fun k hk => P3.inB 4 k (by rw [← hk]; rfl)))
    have PN := Lib.hid (PN.below (Below.refl _ _).drew)
    have FY := Lib.hid (FY.trans (Fs.of_below (Below.refl _ _).drew))
    clear P3 hp
    go_wp2
    exact bodyPost_ret (v := .tuple #[]) (by simp [results, Try.results118, go_sem]) rfl ⟨rfl, _, by rw [HS.out]; exact PN.out.mono (fun k hk => .inl hk), FY.out⟩
  · have HS := Lib.hid (show comeS (false, (a : Int), (j : Int), lev, mt, st) S = S by
      unfold comeS
      dsimp only
      rw [if_pos rfl, HX.out, if_neg (by simp)])
    go_enter Try.func118, Try.ntmps118
    go_wp2_with fail
    rw [HW1.out]
    refine wp_region_quiet_below (by kernel_rfl) (by kernel_rfl) ?_
    repeat (first | go_big_quiet_skip | quiet_step (fail))
    refine wpQuiet_nil ?_
    intro _ hw'
    obtain ⟨⟨dq, osq⟩, hw''⟩ := hw'
    subst hw''
    have bq := below_regrown W1 dq osq
    generalize grow (redrawn W1 dq) osq = wq at bq ⊢
    have P2 := Lib.hid (P1.out.below bq)
    have F2 := Lib.hid (F1.out.trans (Fs.of_below bq))
    clear kg5 kc1 kh0 bq g5 c0 c1 h0
    go_wp2
    exact bodyPost_ret (v := .tuple #[]) (by simp [results, Try.results118, go_sem]) rfl ⟨rfl, _, by rw [HS.out]; exact P2.out.mono (fun k hk => .inl hk), F2.out⟩
set_option maxRecDepth 100000 in
set_option maxHeartbeats 4000000 in
theorem RnCome_back_true {b sb sm wk n a j : Nat} {B : Nat → Prop} {S : PS} {vl vr ve vh vw vo : Value} (lev st : Int) (w : World) (P : RunIs w b sb B S vl vr ve vh vw vo) (hD : PlOk sm S) (hp : PkOk n sm wk (true, a, j, lev, true, st)) (hh : S.hands.length = wk) :
    Calls Try.prog 118 #[.pointer (some ⟨b, 0, none⟩), .agg #[.bool true, .int .i64 a, .int .i64 j, .int .i64 lev, .bool true, .int .i64 st]] w fun e w' => e = .returned (.tuple #[]) ∧ ∃ ve', RunIs w' b sb (Bm B w.heap.size) (comeS (true, a, j, lev, true, st) S) vl vr ve' vh vw vo ∧ Fs B w w' := by
  obtain ⟨p1, p2, p3, p4, p5, p6, p7, p8⟩ := hp
  replace p2 : (a : Int) < (wk : Int) := p2
  replace p4 : (j : Int) < (sm : Int) := p4
  replace p5 : 0 ≤ lev := p5
  replace p6 : lev ≤ 6 := p6
  have hD0 := Lib.hid hD
  obtain ⟨hd, hs1, hs8, hrl, _, _⟩ := hD
  obtain ⟨d1, d2, d3, d4, d5⟩ := hd
  replace d1 : S.l.length = sm := d1
  have b1 : Below w.heap.size w (w.alloc (.cells #[.bool true, .int .i64 a, .int .i64 j, .int .i64 lev, .bool true, .int .i64 st] 125)) := (Below.refl _ _).alloc (Nat.le_refl _) _
  have K1 := Lib.hid (CellsAt.new w [.bool true, .int .i64 a, .int .i64 j, .int .i64 lev, .bool true, .int .i64 st] 125)
  obtain ⟨W1, hW1⟩ : ∃ W1, W1 = w.alloc (.cells #[.bool true, .int .i64 a, .int .i64 j, .int .i64 lev, .bool true, .int .i64 st] 125) := ⟨_, rfl⟩
  rw [show (w.alloc (.cells ([.bool true, .int .i64 a, .int .i64 j, .int .i64 lev, .bool true, .int .i64 st] : List Value).toArray 125)) = W1 from hW1.symm] at K1
  rw [← hW1] at b1
  have P1 := Lib.hid (P.below b1)
  have B1 := Lib.hid b1
  have HB := Lib.hid P.ownB
  have HL := Lib.hid P.ownLt
  have F1 := Lib.hid (Fs.of_below (S := B) b1)
  have HZ1 := Lib.hid (show W1.heap.size = w.heap.size + 1 by rw [hW1]; simp)
  have HW1 := Lib.hid hW1.symm
  have HH := Lib.hid hh
  have D1 := Lib.hid d1
  have hj : j < sm := by omega
  obtain ⟨gl, cl, gr, cr, rfl, rfl, dk⟩ := P1.out.desk
  have hjl : j < S.l.length := by rw [d1]; exact hj
  have hjr : j < S.r.length := by rw [show S.r.length = S.l.length from P.len]; exact hjl
  have DK := Lib.hid dk
  obtain ⟨⟨_, q0, q1, _, _⟩, _⟩ := P1.out.get
  have y0 := dk.ol.cell hjl
  have y1 := dk.or_.cell (i := j) hjr
  have GL := Lib.hid (show S.l.getD j 0 = S.l[j] by simp [hjl])
  have GR := Lib.hid (show S.r.getD j 0 = S.r[j] by simp [hjr])
  generalize S.l[j] = u at y0 GL
  generalize S.r[j] = v at y1 GR
  have c0 := K1.out.get 0 _ rfl
  have c2 := K1.out.get 2 _ rfl
  have c3 := K1.out.get 3 _ rfl
  have i0 : (0 : Int) ≤ (j : Int) := by omega
  have i1 : (j : Int) < (S.l.length : Int) := by omega
  have kq0 := fun d os => cell_regrown q0 d os
  have kq1 := fun d os => cell_regrown q1 d os
  have ky0 := fun d os => cell_regrown y0 d os
  have ky1 := fun d os => cell_regrown y1 d os
  have kc2 := fun d os => cell_regrown c2 d os
  have kc3 := fun d os => cell_regrown c3 d os
  have hwr : IntKind.i64.wrap (lev + 1) = lev + 1 := IntWalk.i64_in _ (by omega)
  clear P b1 hW1 p1 p2 p3 p4 p7 p8 hh d1 d2 d3 d4 d5 q0 q1 y0 y1 dk c2 c3
  by_cases hv : v = -1
  · by_cases hu : u = lev
    · have tv : (v != (-1 : Int)) = false := by simp [hv]
      have tu : (u != lev) = false := by simp [hu]
      have HS := Lib.hid (show comeS (true, (a : Int), (j : Int), lev, true, st) S = writeS S (2, (j : Int), st) by
        unfold comeS
        dsimp only
        rw [if_neg (by decide), Int.toNat_natCast, GL.out, GR.out, if_neg (fun h => h.elim (fun h => h hv) (fun h => h hu)), if_pos rfl])
      clear hv hu
      go_enter Try.func118, Try.ntmps118
      go_wp2_with fail
      rw [HW1.out]
      refine wp_region_quiet_below (by kernel_rfl) (by kernel_rfl) ?_
      repeat (first | go_big_quiet_skip | quiet_step (fail))
      refine wpQuiet_nil ?_
      intro _ hw'
      obtain ⟨⟨dq, osq⟩, hw''⟩ := hw'
      subst hw''
      have bq := below_regrown W1 dq osq
      generalize grow (redrawn W1 dq) osq = wq at bq ⊢
      have P2 := Lib.hid (P1.out.below bq)
      have F2 := Lib.hid (F1.out.trans (Fs.of_below bq))
      have K2 := K1.out.below bq
      have c2 := K2.get 2 _ rfl
      have c3 := K2.get 3 _ rfl
      have c4 := K2.get 4 _ rfl
      have c5 := K2.get 5 _ rfl
      have HZ2 := Lib.hid (show w.heap.size ≤ wq.heap.size by have := bq.size; have := HZ1.out; omega)
      clear kq0 kq1 ky0 ky1 kc2 kc3 bq K2 c0
      go_wp2_with fail
      refine (RnWrite_any (2 : Int) st _ P2.out hD0.out (by omega) hj).mono ?_
      rintro e w3 ⟨rfl, ve', P3, F3⟩
      have P3 := Lib.hid (P3.mono (Bm.mono HZ2.out))
      have F3 := Lib.hid (F2.out.trans F3)
      go_wp2
      exact bodyPost_end (v := .tuple #[]) (by simp [results, Try.results118, go_sem]) rfl ⟨rfl, _, by rw [HS.out]; exact P3.out, F3.out⟩
    · have tv : (v != (-1 : Int)) = false := by simp [hv]
      have tu : (u != lev) = true := by simp [hu]
      have HS := Lib.hid (show comeS (true, (a : Int), (j : Int), lev, true, st) S = S by
        unfold comeS
        dsimp only
        rw [if_neg (by decide), Int.toNat_natCast, GL.out, GR.out, if_pos (.inr hu)])
      clear hv hu
      go_enter Try.func118, Try.ntmps118
      go_wp2_with fail
      rw [HW1.out]
      refine wp_region_quiet_below (by kernel_rfl) (by kernel_rfl) ?_
      repeat (first | go_big_quiet_skip | quiet_step (fail))
      refine wpQuiet_nil ?_
      intro _ hw'
      obtain ⟨⟨dq, osq⟩, hw''⟩ := hw'
      subst hw''
      have bq := below_regrown W1 dq osq
      generalize grow (redrawn W1 dq) osq = wq at bq ⊢
      have P2 := Lib.hid (P1.out.below bq)
      have F2 := Lib.hid (F1.out.trans (Fs.of_below bq))
      clear kq0 kq1 ky0 ky1 kc2 kc3 bq c0
      go_wp2
      exact bodyPost_ret (v := .tuple #[]) (by simp [results, Try.results118, go_sem]) rfl ⟨rfl, _, by rw [HS.out]; exact P2.out.mono (fun k hk => .inl hk), F2.out⟩
  · have tv : (v != (-1 : Int)) = true := by simp [hv]
    have HS := Lib.hid (show comeS (true, (a : Int), (j : Int), lev, true, st) S = S by
      unfold comeS
      dsimp only
      rw [if_neg (by decide), Int.toNat_natCast, GL.out, GR.out, if_pos (.inl hv)])
    clear hv
    go_enter Try.func118, Try.ntmps118
    go_wp2_with fail
    rw [HW1.out]
    refine wp_region_quiet_below (by kernel_rfl) (by kernel_rfl) ?_
    repeat (first | go_big_quiet_skip | quiet_step (fail))
    refine wpQuiet_nil ?_
    intro _ hw'
    obtain ⟨⟨dq, osq⟩, hw''⟩ := hw'
    subst hw''
    have bq := below_regrown W1 dq osq
    generalize grow (redrawn W1 dq) osq = wq at bq ⊢
    have P2 := Lib.hid (P1.out.below bq)
    have F2 := Lib.hid (F1.out.trans (Fs.of_below bq))
    clear kq0 kq1 ky0 ky1 kc2 kc3 bq c0
    go_wp2
    exact bodyPost_ret (v := .tuple #[]) (by simp [results, Try.results118, go_sem]) rfl ⟨rfl, _, by rw [HS.out]; exact P2.out.mono (fun k hk => .inl hk), F2.out⟩
set_option maxRecDepth 100000 in
set_option maxHeartbeats 4000000 in
theorem RnCome_back_false {b sb sm wk n a j : Nat} {B : Nat → Prop} {S : PS} {vl vr ve vh vw vo : Value} (lev st : Int) (w : World) (P : RunIs w b sb B S vl vr ve vh vw vo) (hD : PlOk sm S) (hp : PkOk n sm wk (true, a, j, lev, false, st)) (hh : S.hands.length = wk) :
    Calls Try.prog 118 #[.pointer (some ⟨b, 0, none⟩), .agg #[.bool true, .int .i64 a, .int .i64 j, .int .i64 lev, .bool false, .int .i64 st]] w fun e w' => e = .returned (.tuple #[]) ∧ ∃ ve', RunIs w' b sb (Bm B w.heap.size) (comeS (true, a, j, lev, false, st) S) vl vr ve' vh vw vo ∧ Fs B w w' := by
  obtain ⟨p1, p2, p3, p4, p5, p6, p7, p8⟩ := hp
  replace p2 : (a : Int) < (wk : Int) := p2
  replace p4 : (j : Int) < (sm : Int) := p4
  replace p5 : 0 ≤ lev := p5
  replace p6 : lev ≤ 6 := p6
  have hD0 := Lib.hid hD
  obtain ⟨hd, hs1, hs8, hrl, _, _⟩ := hD
  obtain ⟨d1, d2, d3, d4, d5⟩ := hd
  replace d1 : S.l.length = sm := d1
  have b1 : Below w.heap.size w (w.alloc (.cells #[.bool true, .int .i64 a, .int .i64 j, .int .i64 lev, .bool false, .int .i64 st] 125)) := (Below.refl _ _).alloc (Nat.le_refl _) _
  have K1 := Lib.hid (CellsAt.new w [.bool true, .int .i64 a, .int .i64 j, .int .i64 lev, .bool false, .int .i64 st] 125)
  obtain ⟨W1, hW1⟩ : ∃ W1, W1 = w.alloc (.cells #[.bool true, .int .i64 a, .int .i64 j, .int .i64 lev, .bool false, .int .i64 st] 125) := ⟨_, rfl⟩
  rw [show (w.alloc (.cells ([.bool true, .int .i64 a, .int .i64 j, .int .i64 lev, .bool false, .int .i64 st] : List Value).toArray 125)) = W1 from hW1.symm] at K1
  rw [← hW1] at b1
  have P1 := Lib.hid (P.below b1)
  have B1 := Lib.hid b1
  have HB := Lib.hid P.ownB
  have HL := Lib.hid P.ownLt
  have F1 := Lib.hid (Fs.of_below (S := B) b1)
  have HZ1 := Lib.hid (show W1.heap.size = w.heap.size + 1 by rw [hW1]; simp)
  have HW1 := Lib.hid hW1.symm
  have HH := Lib.hid hh
  have D1 := Lib.hid d1
  have hj : j < sm := by omega
  obtain ⟨gl, cl, gr, cr, rfl, rfl, dk⟩ := P1.out.desk
  have hjl : j < S.l.length := by rw [d1]; exact hj
  have hjr : j < S.r.length := by rw [show S.r.length = S.l.length from P.len]; exact hjl
  have DK := Lib.hid dk
  obtain ⟨⟨_, q0, q1, _, _⟩, _⟩ := P1.out.get
  have y0 := dk.ol.cell hjl
  have y1 := dk.or_.cell (i := j) hjr
  have GL := Lib.hid (show S.l.getD j 0 = S.l[j] by simp [hjl])
  have GR := Lib.hid (show S.r.getD j 0 = S.r[j] by simp [hjr])
  generalize S.l[j] = u at y0 GL
  generalize S.r[j] = v at y1 GR
  have c0 := K1.out.get 0 _ rfl
  have c2 := K1.out.get 2 _ rfl
  have c3 := K1.out.get 3 _ rfl
  have i0 : (0 : Int) ≤ (j : Int) := by omega
  have i1 : (j : Int) < (S.l.length : Int) := by omega
  have kq0 := fun d os => cell_regrown q0 d os
  have kq1 := fun d os => cell_regrown q1 d os
  have ky0 := fun d os => cell_regrown y0 d os
  have ky1 := fun d os => cell_regrown y1 d os
  have kc2 := fun d os => cell_regrown c2 d os
  have kc3 := fun d os => cell_regrown c3 d os
  have hwr : IntKind.i64.wrap (lev + 1) = lev + 1 := IntWalk.i64_in _ (by omega)
  clear P b1 hW1 p1 p2 p3 p4 p7 p8 hh d1 d2 d3 d4 d5 q0 q1 y0 y1 dk c2 c3
  by_cases hv : v = -1
  · by_cases hu : u = lev
    · have tv : (v != (-1 : Int)) = false := by simp [hv]
      have tu : (u != lev) = false := by simp [hu]
      have HS := Lib.hid (show comeS (true, (a : Int), (j : Int), lev, false, st) S = writeS S (1, (j : Int), lev + 1) by
        unfold comeS
        dsimp only
        rw [if_neg (by decide), Int.toNat_natCast, GL.out, GR.out, if_neg (fun h => h.elim (fun h => h hv) (fun h => h hu)), if_neg (by decide)])
      clear hv hu
      go_enter Try.func118, Try.ntmps118
      go_wp2_with fail
      rw [HW1.out]
      refine wp_region_quiet_below (by kernel_rfl) (by kernel_rfl) ?_
      repeat (first | go_big_quiet_skip | quiet_step (fail))
      refine wpQuiet_nil ?_
      intro _ hw'
      obtain ⟨⟨dq, osq⟩, hw''⟩ := hw'
      subst hw''
      have bq := below_regrown W1 dq osq
      generalize grow (redrawn W1 dq) osq = wq at bq ⊢
      have P2 := Lib.hid (P1.out.below bq)
      have F2 := Lib.hid (F1.out.trans (Fs.of_below bq))
      have K2 := K1.out.below bq
      have c2 := K2.get 2 _ rfl
      have c3 := K2.get 3 _ rfl
      have c4 := K2.get 4 _ rfl
      have c5 := K2.get 5 _ rfl
      have HZ2 := Lib.hid (show w.heap.size ≤ wq.heap.size by have := bq.size; have := HZ1.out; omega)
      clear kq0 kq1 ky0 ky1 kc2 kc3 bq K2 c0
      go_wp2_with fail
      refine (RnWrite_any (1 : Int) (lev + 1) _ P2.out hD0.out (by omega) hj).mono ?_
      rintro e w3 ⟨rfl, ve', P3, F3⟩
      have P3 := Lib.hid (P3.mono (Bm.mono HZ2.out))
      have F3 := Lib.hid (F2.out.trans F3)
      go_wp2
      exact bodyPost_end (v := .tuple #[]) (by simp [results, Try.results118, go_sem]) rfl ⟨rfl, _, by rw [HS.out]; exact P3.out, F3.out⟩
    · have tv : (v != (-1 : Int)) = false := by simp [hv]
      have tu : (u != lev) = true := by simp [hu]
      have HS := Lib.hid (show comeS (true, (a : Int), (j : Int), lev, false, st) S = S by
        unfold comeS
        dsimp only
        rw [if_neg (by decide), Int.toNat_natCast, GL.out, GR.out, if_pos (.inr hu)])
      clear hv hu
      go_enter Try.func118, Try.ntmps118
      go_wp2_with fail
      rw [HW1.out]
      refine wp_region_quiet_below (by kernel_rfl) (by kernel_rfl) ?_
      repeat (first | go_big_quiet_skip | quiet_step (fail))
      refine wpQuiet_nil ?_
      intro _ hw'
      obtain ⟨⟨dq, osq⟩, hw''⟩ := hw'
      subst hw''
      have bq := below_regrown W1 dq osq
      generalize grow (redrawn W1 dq) osq = wq at bq ⊢
      have P2 := Lib.hid (P1.out.below bq)
      have F2 := Lib.hid (F1.out.trans (Fs.of_below bq))
      clear kq0 kq1 ky0 ky1 kc2 kc3 bq c0
      go_wp2
      exact bodyPost_ret (v := .tuple #[]) (by simp [results, Try.results118, go_sem]) rfl ⟨rfl, _, by rw [HS.out]; exact P2.out.mono (fun k hk => .inl hk), F2.out⟩
  · have tv : (v != (-1 : Int)) = true := by simp [hv]
    have HS := Lib.hid (show comeS (true, (a : Int), (j : Int), lev, false, st) S = S by
      unfold comeS
      dsimp only
      rw [if_neg (by decide), Int.toNat_natCast, GL.out, GR.out, if_pos (.inl hv)])
    clear hv
    go_enter Try.func118, Try.ntmps118
    go_wp2_with fail
    rw [HW1.out]
    refine wp_region_quiet_below (by kernel_rfl) (by kernel_rfl) ?_
    repeat (first | go_big_quiet_skip | quiet_step (fail))
    refine wpQuiet_nil ?_
    intro _ hw'
    obtain ⟨⟨dq, osq⟩, hw''⟩ := hw'
    subst hw''
    have bq := below_regrown W1 dq osq
    generalize grow (redrawn W1 dq) osq = wq at bq ⊢
    have P2 := Lib.hid (P1.out.below bq)
    have F2 := Lib.hid (F1.out.trans (Fs.of_below bq))
    clear kq0 kq1 ky0 ky1 kc2 kc3 bq c0
    go_wp2
    exact bodyPost_ret (v := .tuple #[]) (by simp [results, Try.results118, go_sem]) rfl ⟨rfl, _, by rw [HS.out]; exact P2.out.mono (fun k hk => .inl hk), F2.out⟩
theorem RnCome_any {b sb sm wk n : Nat} {B : Nat → Prop} {S : PS} {vl vr ve vh vw vo : Value} (pk : Pk) (w : World) (P : RunIs w b sb B S vl vr ve vh vw vo) (hD : PlOk sm S) (hp : PkOk n sm wk pk) (hh : S.hands.length = wk) :
    Calls Try.prog 118 #[.pointer (some ⟨b, 0, none⟩), .agg #[.bool pk.1, .int .i64 pk.2.1, .int .i64 pk.2.2.1, .int .i64 pk.2.2.2.1, .bool pk.2.2.2.2.1, .int .i64 pk.2.2.2.2.2]] w fun e w' => e = .returned (.tuple #[]) ∧ ∃ ve', RunIs w' b sb (Bm B w.heap.size) (comeS pk S) vl vr ve' vh vw vo ∧ Fs B w w' := by
  obtain ⟨bk, a0, j0, lev, met, st⟩ := pk
  have hp0 := hp
  obtain ⟨p1, p2, p3, p4, _⟩ := hp
  obtain ⟨a, rfl⟩ := Int.eq_ofNat_of_zero_le p1
  obtain ⟨j, rfl⟩ := Int.eq_ofNat_of_zero_le p3
  cases bk
  · exact RnCome_front met lev st w P hD hp0 hh
  · cases met
    · exact RnCome_back_false lev st w P hD hp0 hh
    · exact RnCome_back_true lev st w P hD hp0 hh
end Go.Proofs.Ytijpkcdalmlaiaa
