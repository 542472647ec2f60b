/-
  The reference's plant: a packet comes in.
-/
import Derived.Test.YtofpelmplcoegaaGreatZRowFnPlantScript32
set_option linter.unusedVariables false
set_option linter.unusedSimpArgs false
namespace Go.Proofs.YtofpelmplcoegaaGreat
open Go.RowKit Go.Sort

set_option maxRecDepth 100000 in
set_option maxHeartbeats 4000000 in
theorem RnCome_front {b sb sm wk n a j : Nat} {B : Nat → Prop} {S : PS} {vl vr ve vh vw vo : Value} (mt : Bool) (lev st : Int) (w : World) (P : RunIs w b sb B S vl vr ve vh vw vo) (hD : PlOk sm S) (hp : PkOk n sm wk (false, a, j, lev, mt, st)) (hh : S.hands.length = wk) :
    Calls Tryz.prog 123 #[.pointer (some ⟨b, 0, none⟩), .agg #[.bool false, .int .i64 a, .int .i64 j, .int .i64 lev, .bool mt, .int .i64 st]] w fun e w' => e = .returned (.tuple #[]) ∧ ∃ ve', RunIs w' b sb (Bm B w.heap.size) (comeS (false, a, j, lev, mt, st) S) vl vr ve' vh vw vo ∧ Fs B w w' := by
  obtain ⟨p1, p2, p3, p4, p5, p6, p7, p8⟩ := hp
  replace p2 : (a : Int) < (wk : Int) := p2
  replace p4 : (j : Int) < (sm : Int) := p4
  replace p5 : 0 ≤ lev := p5
  replace p6 : lev ≤ 6 := p6
  have hD0 := Lib.hid hD
  obtain ⟨hd, hs1, hs8, hrl, _, _⟩ := hD
  obtain ⟨d1, d2, d3, d4, d5⟩ := hd
  replace d1 : S.l.length = sm := d1
  have b1 : Below w.heap.size w (w.alloc (.cells #[.bool false, .int .i64 a, .int .i64 j, .int .i64 lev, .bool mt, .int .i64 st] 124)) := (Below.refl _ _).alloc (Nat.le_refl _) _
  have K1 := Lib.hid (CellsAt.new w [.bool false, .int .i64 a, .int .i64 j, .int .i64 lev, .bool mt, .int .i64 st] 124)
  obtain ⟨W1, hW1⟩ : ∃ W1, W1 = w.alloc (.cells #[.bool false, .int .i64 a, .int .i64 j, .int .i64 lev, .bool mt, .int .i64 st] 124) := ⟨_, rfl⟩
  rw [show (w.alloc (.cells ([.bool false, .int .i64 a, .int .i64 j, .int .i64 lev, .bool mt, .int .i64 st] : List Value).toArray 124)) = W1 from hW1.symm] at K1
  rw [← hW1] at b1
  have P1 := Lib.hid (P.below b1)
  have B1 := Lib.hid b1
  have HB := Lib.hid P.ownB
  have HL := Lib.hid P.ownLt
  have F1 := Lib.hid (Fs.of_below (S := B) b1)
  have HZ1 := Lib.hid (show W1.heap.size = w.heap.size + 1 by rw [hW1]; simp)
  have HW1 := Lib.hid hW1.symm
  have HH := Lib.hid hh
  have D1 := Lib.hid d1
  have ha : a < S.hands.length := by omega
  obtain ⟨g, hc, rfl, _⟩ := P.oh.form (by omega)
  have g5 := P1.out.get.2.2.1
  obtain ⟨h0, _, _⟩ := FHand_cell P1.out.oh ha
  have HX := Lib.hid (show (S.hands.getD (a : Int).toNat noHand) = S.hands[a] by rw [Int.toNat_natCast]; simp [ha])
  generalize S.hands[a] = x at h0 HX
  obtain ⟨x0, x1, x2⟩ := x
  dsimp only at h0
  have HH0 := Lib.hid h0
  have c0 := K1.out.get 0 _ rfl
  have c1 := K1.out.get 1 _ rfl
  have i0 : (0 : Int) ≤ (a : Int) := by omega
  have i1 : (a : Int) < (S.hands.length : Int) := by omega
  have kg5 := fun d os => cell_regrown g5 d os
  have kc1 := fun d os => cell_regrown c1 d os
  have kh0 := fun d os => cell_regrown h0 d os
  have HA := Lib.hid ha
  clear P b1 hW1 p1 p2 p3 p4 p7 p8 hh d1 d2 d3 d4 d5
  cases x0
  · have HS := Lib.hid (show comeS (false, (a : Int), (j : Int), lev, mt, st) S = { S with hands := S.hands.set a (true, (j : Int), lev) } by
      unfold comeS
      dsimp only
      rw [if_pos rfl, HX.out, if_pos rfl, Int.toNat_natCast])
    go_enter Tryz.func123, Tryz.ntmps123
    go_wp2_with fail
    rw [HW1.out]
    refine wp_region_quiet_below (by kernel_rfl) (by kernel_rfl) ?_
    repeat (first | go_big_quiet_skip | quiet_step (fail))
    refine wpQuiet_nil ?_
    intro _ hw'
    obtain ⟨⟨dq, osq⟩, hw''⟩ := hw'
    subst hw''
    have bq := below_regrown W1 dq osq
    generalize grow (redrawn W1 dq) osq = wq at bq ⊢
    have P2 := Lib.hid (P1.out.below bq)
    have F2 := Lib.hid (F1.out.trans (Fs.of_below bq))
    have K2 := Lib.hid (K1.out.below bq)
    have CW := Lib.hid (show ∀ W, Below wq.heap.size wq W → (W.cell? ⟨b, 6, none⟩ = some (.slice (some ⟨g, 0, none⟩) S.hands.length hc) ∧ W.cell? ⟨w.heap.size, 1, none⟩ = some (.int .i64 a) ∧ W.cell? ⟨w.heap.size, 2, none⟩ = some (.int .i64 j) ∧ W.cell? ⟨w.heap.size, 3, none⟩ = some (.int .i64 lev)) from fun W h => ⟨(P2.out.below h).get.2.2.1, (K2.out.below h).get 1 _ rfl, (K2.out.below h).get 2 _ rfl, (K2.out.below h).get 3 _ rfl⟩)
    clear kg5 kc1 kh0 bq g5 c0 c1 h0
    go_wp2_with fail
    refine wpX_start (fun W => W.cell? ⟨b, 6, none⟩ = some (.slice (some ⟨g, 0, none⟩) S.hands.length hc) ∧ W.cell? ⟨w.heap.size, 1, none⟩ = some (.int .i64 a) ∧ W.cell? ⟨w.heap.size, 2, none⟩ = some (.int .i64 j) ∧ W.cell? ⟨w.heap.size, 3, none⟩ = some (.int .i64 lev)) [13] (by kernel_rfl) ?_
    have hC := CW.out wq.drew (Below.refl wq.heap.size wq).drew
    refine wpX_free (i := 0) (v := ?_) rfl (by kernel_rfl) (fun _ _ _ h => h) rfl (fun w' => ?_) ?_
    rotate_left
    · go_simp; try with_reducible rfl
    try simp only [Act.put, List.setIfInBounds_toArray, List.set_cons_zero, List.set_cons_succ]
    refine wpX_free (i := 1) (v := ?_) rfl (by kernel_rfl) (fun _ _ _ h => h) rfl (fun w' => ?_) ?_
    rotate_left
    · go_simp; try with_reducible rfl
    try simp only [Act.put, List.setIfInBounds_toArray, List.set_cons_zero, List.set_cons_succ]
    refine wpX_free (i := 2) (v := ?_) rfl (by kernel_rfl) (fun _ _ _ h => h) rfl (fun w' => ?_) ?_
    rotate_left
    · go_simp; try with_reducible rfl
    try simp only [Act.put, List.setIfInBounds_toArray, List.set_cons_zero, List.set_cons_succ]
    refine wpX_free (i := 3) (v := ?_) rfl (by kernel_rfl) (fun _ _ _ h => h) rfl (fun w' => ?_) ?_
    rotate_left
    · go_simp; try with_reducible rfl
    try simp only [Act.put, List.setIfInBounds_toArray, List.set_cons_zero, List.set_cons_succ]
    refine wpX_load (i := 4) (v := ?_) rfl (by kernel_rfl) (fun _ _ _ h => h) hC rfl (fun w' hw' => ?_) ?_
    rotate_left
    · obtain ⟨k1, k2, k3, k4⟩ := hw'; go_simp; try with_reducible rfl
    try simp only [Act.put, List.setIfInBounds_toArray, List.set_cons_zero, List.set_cons_succ]
    refine wpX_free (i := 5) (v := ?_) rfl (by kernel_rfl) (fun _ _ _ h => h) rfl (fun w' => ?_) ?_
    rotate_left
    · go_simp; try with_reducible rfl
    try simp only [Act.put, List.setIfInBounds_toArray, List.set_cons_zero, List.set_cons_succ]
    refine wpX_load (i := 6) (v := ?_) rfl (by kernel_rfl) (fun _ _ _ h => h) hC rfl (fun w' hw' => ?_) ?_
    rotate_left
    · obtain ⟨k1, k2, k3, k4⟩ := hw'; go_simp; try with_reducible rfl
    try simp only [Act.put, List.setIfInBounds_toArray, List.set_cons_zero, List.set_cons_succ]
    refine wpX_free (i := 7) (v := ?_) rfl (by kernel_rfl) (fun _ _ _ h => h) rfl (fun w' => ?_) ?_
    rotate_left
    · go_simp; try with_reducible rfl
    try simp only [Act.put, List.setIfInBounds_toArray, List.set_cons_zero, List.set_cons_succ]
    refine wpX_load (i := 8) (v := ?_) rfl (by kernel_rfl) (fun _ _ _ h => h) hC rfl (fun w' hw' => ?_) ?_
    rotate_left
    · obtain ⟨k1, k2, k3, k4⟩ := hw'; go_simp; try with_reducible rfl
    try simp only [Act.put, List.setIfInBounds_toArray, List.set_cons_zero, List.set_cons_succ]
    refine wpX_free (i := 9) (v := ?_) rfl (by kernel_rfl) (fun _ _ _ h => h) rfl (fun w' => ?_) ?_
    rotate_left
    · go_simp; try with_reducible rfl
    try simp only [Act.put, List.setIfInBounds_toArray, List.set_cons_zero, List.set_cons_succ]
    refine wpX_load (i := 10) (v := ?_) rfl (by kernel_rfl) (fun _ _ _ h => h) hC rfl (fun w' hw' => ?_) ?_
    rotate_left
    · obtain ⟨k1, k2, k3, k4⟩ := hw'; go_simp; try with_reducible rfl
    try simp only [Act.put, List.setIfInBounds_toArray, List.set_cons_zero, List.set_cons_succ]
    refine wpX_free (i := 11) (v := ?_) rfl (by kernel_rfl) (fun _ _ _ h => h) rfl (fun w' => ?_) ?_
    rotate_left
    · go_simp; try with_reducible rfl
    try simp only [Act.put, List.setIfInBounds_toArray, List.set_cons_zero, List.set_cons_succ]
    refine wpX_free (i := 12) (v := ?_) rfl (by kernel_rfl) (fun _ _ _ h => h) rfl (fun w' => ?_) ?_
    rotate_left
    · go_simp; try with_reducible rfl
    try simp only [Act.put, List.setIfInBounds_toArray, List.set_cons_zero, List.set_cons_succ]
    refine wpX_rest (t := [13]) (l := [_]) rfl (by kernel_rfl) (by kernel_rfl) ?_
    clear hC
    have P3 := P2.out
    have hp := P3.toPlIs.oh
    have f0 := hp.free (a * 3)
    have f1 := hp.free (a * 3 + 1)
    have f2 := hp.free (a * 3 + 2)
    have hq := FHand_cell hp ha
    have y0 := hq.1
    have y1 := hq.2.1
    have y2 := hq.2.2
    clear hq
    have PN := P3.part0 (S' := { S with hands := S.hands.set a (true, (j : Int), lev) }) 3 (c' := FHand.ch (.slice (some ⟨g, 0, none⟩) S.hands.length hc) (S.hands.set a (true, (j : Int), lev))) rfl rfl rfl (w2 := ((wq.setCell ⟨g, a * 3, none⟩ (.bool true)).setCell ⟨g, a * 3 + 1, none⟩ (.int .i64 j)).setCell ⟨g, a * 3 + 2, none⟩ (.int .i64 lev)) (grown_set3 _ g _ _ _ _ _ _) (FHand.set_cells hp a (true, (j : Int), lev) ha) rfl P3.len P3.pos
    have FY := F2.out.trans (Fs.of_grown (S := B) (grown_set3 wq g (a * 3) (a * 3 + 1) (a * 3 + 2) (.bool true) (.int .i64 j) (.int .i64 lev)) (fun k hk => P3.inB 4 k (by rw [← hk]; rfl)))
    have PN := Lib.hid (PN.below (Below.refl _ _).drew)
    have FY := Lib.hid (FY.trans (Fs.of_below (Below.refl _ _).drew))
    clear P3 hp
    go_wp2
    exact bodyPost_ret (v := .tuple #[]) (by simp [results, Tryz.results123, go_sem]) rfl ⟨rfl, _, by rw [HS.out]; exact PN.out.mono (fun k hk => .inl hk), FY.out⟩
  · have HS := Lib.hid (show comeS (false, (a : Int), (j : Int), lev, mt, st) S = S by
      unfold comeS
      dsimp only
      rw [if_pos rfl, HX.out, if_neg (by simp)])
    go_enter Tryz.func123, Tryz.ntmps123
    go_wp2_with fail
    rw [HW1.out]
    refine wp_region_quiet_below (by kernel_rfl) (by kernel_rfl) ?_
    repeat (first | go_big_quiet_skip | quiet_step (fail))
    refine wpQuiet_nil ?_
    intro _ hw'
    obtain ⟨⟨dq, osq⟩, hw''⟩ := hw'
    subst hw''
    have bq := below_regrown W1 dq osq
    generalize grow (redrawn W1 dq) osq = wq at bq ⊢
    have P2 := Lib.hid (P1.out.below bq)
    have F2 := Lib.hid (F1.out.trans (Fs.of_below bq))
    clear kg5 kc1 kh0 bq g5 c0 c1 h0
    go_wp2
    exact bodyPost_ret (v := .tuple #[]) (by simp [results, Tryz.results123, go_sem]) rfl ⟨rfl, _, by rw [HS.out]; exact P2.out.mono (fun k hk => .inl hk), F2.out⟩
set_option maxRecDepth 100000 in
set_option maxHeartbeats 4000000 in
theorem RnCome_back_true {b sb sm wk n a j : Nat} {B : Nat → Prop} {S : PS} {vl vr ve vh vw vo : Value} (lev st : Int) (w : World) (P : RunIs w b sb B S vl vr ve vh vw vo) (hD : PlOk sm S) (hp : PkOk n sm wk (true, a, j, lev, true, st)) (hh : S.hands.length = wk) :
    Calls Tryz.prog 123 #[.pointer (some ⟨b, 0, none⟩), .agg #[.bool true, .int .i64 a, .int .i64 j, .int .i64 lev, .bool true, .int .i64 st]] w fun e w' => e = .returned (.tuple #[]) ∧ ∃ ve', RunIs w' b sb (Bm B w.heap.size) (comeS (true, a, j, lev, true, st) S) vl vr ve' vh vw vo ∧ Fs B w w' := by
  obtain ⟨p1, p2, p3, p4, p5, p6, p7, p8⟩ := hp
  replace p2 : (a : Int) < (wk : Int) := p2
  replace p4 : (j : Int) < (sm : Int) := p4
  replace p5 : 0 ≤ lev := p5
  replace p6 : lev ≤ 6 := p6
  have hD0 := Lib.hid hD
  obtain ⟨hd, hs1, hs8, hrl, _, _⟩ := hD
  obtain ⟨d1, d2, d3, d4, d5⟩ := hd
  replace d1 : S.l.length = sm := d1
  have b1 : Below w.heap.size w (w.alloc (.cells #[.bool true, .int .i64 a, .int .i64 j, .int .i64 lev, .bool true, .int .i64 st] 124)) := (Below.refl _ _).alloc (Nat.le_refl _) _
  have K1 := Lib.hid (CellsAt.new w [.bool true, .int .i64 a, .int .i64 j, .int .i64 lev, .bool true, .int .i64 st] 124)
  obtain ⟨W1, hW1⟩ : ∃ W1, W1 = w.alloc (.cells #[.bool true, .int .i64 a, .int .i64 j, .int .i64 lev, .bool true, .int .i64 st] 124) := ⟨_, rfl⟩
  rw [show (w.alloc (.cells ([.bool true, .int .i64 a, .int .i64 j, .int .i64 lev, .bool true, .int .i64 st] : List Value).toArray 124)) = W1 from hW1.symm] at K1
  rw [← hW1] at b1
  have P1 := Lib.hid (P.below b1)
  have B1 := Lib.hid b1
  have HB := Lib.hid P.ownB
  have HL := Lib.hid P.ownLt
  have F1 := Lib.hid (Fs.of_below (S := B) b1)
  have HZ1 := Lib.hid (show W1.heap.size = w.heap.size + 1 by rw [hW1]; simp)
  have HW1 := Lib.hid hW1.symm
  have HH := Lib.hid hh
  have D1 := Lib.hid d1
  have hj : j < sm := by omega
  obtain ⟨gl, cl, gr, cr, rfl, rfl, dk⟩ := P1.out.desk
  have hjl : j < S.l.length := by rw [d1]; exact hj
  have hjr : j < S.r.length := by rw [show S.r.length = S.l.length from P.len]; exact hjl
  have DK := Lib.hid dk
  obtain ⟨⟨_, q0, q1, _, _⟩, _⟩ := P1.out.get
  have y0 := dk.ol.cell hjl
  have y1 := dk.or_.cell (i := j) hjr
  have GL := Lib.hid (show S.l.getD j 0 = S.l[j] by simp [hjl])
  have GR := Lib.hid (show S.r.getD j 0 = S.r[j] by simp [hjr])
  generalize S.l[j] = u at y0 GL
  generalize S.r[j] = v at y1 GR
  have c0 := K1.out.get 0 _ rfl
  have c2 := K1.out.get 2 _ rfl
  have c3 := K1.out.get 3 _ rfl
  have i0 : (0 : Int) ≤ (j : Int) := by omega
  have i1 : (j : Int) < (S.l.length : Int) := by omega
  have kq0 := fun d os => cell_regrown q0 d os
  have kq1 := fun d os => cell_regrown q1 d os
  have ky0 := fun d os => cell_regrown y0 d os
  have ky1 := fun d os => cell_regrown y1 d os
  have kc2 := fun d os => cell_regrown c2 d os
  have kc3 := fun d os => cell_regrown c3 d os
  have hwr : IntKind.i64.wrap (lev + 1) = lev + 1 := IntWalk.i64_in _ (by omega)
  clear P b1 hW1 p1 p2 p3 p4 p7 p8 hh d1 d2 d3 d4 d5 q0 q1 y0 y1 dk c2 c3
  by_cases hv : v = -1
  · by_cases hu : u = lev
    · have tv : (v != (-1 : Int)) = false := by simp [hv]
      have tu : (u != lev) = false := by simp [hu]
      have HS := Lib.hid (show comeS (true, (a : Int), (j : Int), lev, true, st) S = writeS S (2, (j : Int), st) by
        unfold comeS
        dsimp only
        rw [if_neg (by decide), Int.toNat_natCast, GL.out, GR.out, if_neg (fun h => h.elim (fun h => h hv) (fun h => h hu)), if_pos rfl])
      clear hv hu
      go_enter Tryz.func123, Tryz.ntmps123
      go_wp2_with fail
      rw [HW1.out]
      refine wp_region_quiet_below (by kernel_rfl) (by kernel_rfl) ?_
      repeat (first | go_big_quiet_skip | quiet_step (fail))
      refine wpQuiet_nil ?_
      intro _ hw'
      obtain ⟨⟨dq, osq⟩, hw''⟩ := hw'
      subst hw''
      have bq := below_regrown W1 dq osq
      generalize grow (redrawn W1 dq) osq = wq at bq ⊢
      have P2 := Lib.hid (P1.out.below bq)
      have F2 := Lib.hid (F1.out.trans (Fs.of_below bq))
      have K2 := K1.out.below bq
      have c2 := K2.get 2 _ rfl
      have c3 := K2.get 3 _ rfl
      have c4 := K2.get 4 _ rfl
      have c5 := K2.get 5 _ rfl
      have HZ2 := Lib.hid (show w.heap.size ≤ wq.heap.size by have := bq.size; have := HZ1.out; omega)
      clear kq0 kq1 ky0 ky1 kc2 kc3 bq K2 c0
      go_wp2_with fail
      refine (RnWrite_any (2 : Int) st _ P2.out hD0.out (by omega) hj).mono ?_
      rintro e w3 ⟨rfl, ve', P3, F3⟩
      have P3 := Lib.hid (P3.mono (Bm.mono HZ2.out))
      have F3 := Lib.hid (F2.out.trans F3)
      go_wp2
      exact bodyPost_end (v := .tuple #[]) (by simp [results, Tryz.results123, go_sem]) rfl ⟨rfl, _, by rw [HS.out]; exact P3.out, F3.out⟩
    · have tv : (v != (-1 : Int)) = false := by simp [hv]
      have tu : (u != lev) = true := by simp [hu]
      have HS := Lib.hid (show comeS (true, (a : Int), (j : Int), lev, true, st) S = S by
        unfold comeS
        dsimp only
        rw [if_neg (by decide), Int.toNat_natCast, GL.out, GR.out, if_pos (.inr hu)])
      clear hv hu
      go_enter Tryz.func123, Tryz.ntmps123
      go_wp2_with fail
      rw [HW1.out]
      refine wp_region_quiet_below (by kernel_rfl) (by kernel_rfl) ?_
      repeat (first | go_big_quiet_skip | quiet_step (fail))
      refine wpQuiet_nil ?_
      intro _ hw'
      obtain ⟨⟨dq, osq⟩, hw''⟩ := hw'
      subst hw''
      have bq := below_regrown W1 dq osq
      generalize grow (redrawn W1 dq) osq = wq at bq ⊢
      have P2 := Lib.hid (P1.out.below bq)
      have F2 := Lib.hid (F1.out.trans (Fs.of_below bq))
      clear kq0 kq1 ky0 ky1 kc2 kc3 bq c0
      go_wp2
      exact bodyPost_ret (v := .tuple #[]) (by simp [results, Tryz.results123, go_sem]) rfl ⟨rfl, _, by rw [HS.out]; exact P2.out.mono (fun k hk => .inl hk), F2.out⟩
  · have tv : (v != (-1 : Int)) = true := by simp [hv]
    have HS := Lib.hid (show comeS (true, (a : Int), (j : Int), lev, true, st) S = S by
      unfold comeS
      dsimp only
      rw [if_neg (by decide), Int.toNat_natCast, GL.out, GR.out, if_pos (.inl hv)])
    clear hv
    go_enter Tryz.func123, Tryz.ntmps123
    go_wp2_with fail
    rw [HW1.out]
    refine wp_region_quiet_below (by kernel_rfl) (by kernel_rfl) ?_
    repeat (first | go_big_quiet_skip | quiet_step (fail))
    refine wpQuiet_nil ?_
    intro _ hw'
    obtain ⟨⟨dq, osq⟩, hw''⟩ := hw'
    subst hw''
    have bq := below_regrown W1 dq osq
    generalize grow (redrawn W1 dq) osq = wq at bq ⊢
    have P2 := Lib.hid (P1.out.below bq)
    have F2 := Lib.hid (F1.out.trans (Fs.of_below bq))
    clear kq0 kq1 ky0 ky1 kc2 kc3 bq c0
    go_wp2
    exact bodyPost_ret (v := .tuple #[]) (by simp [results, Tryz.results123, go_sem]) rfl ⟨rfl, _, by rw [HS.out]; exact P2.out.mono (fun k hk => .inl hk), F2.out⟩
set_option maxRecDepth 100000 in
set_option maxHeartbeats 4000000 in
theorem RnCome_back_false {b sb sm wk n a j : Nat} {B : Nat → Prop} {S : PS} {vl vr ve vh vw vo : Value} (lev st : Int) (w : World) (P : RunIs w b sb B S vl vr ve vh vw vo) (hD : PlOk sm S) (hp : PkOk n sm wk (true, a, j, lev, false, st)) (hh : S.hands.length = wk) :
    Calls Tryz.prog 123 #[.pointer (some ⟨b, 0, none⟩), .agg #[.bool true, .int .i64 a, .int .i64 j, .int .i64 lev, .bool false, .int .i64 st]] w fun e w' => e = .returned (.tuple #[]) ∧ ∃ ve', RunIs w' b sb (Bm B w.heap.size) (comeS (true, a, j, lev, false, st) S) vl vr ve' vh vw vo ∧ Fs B w w' := by
  obtain ⟨p1, p2, p3, p4, p5, p6, p7, p8⟩ := hp
  replace p2 : (a : Int) < (wk : Int) := p2
  replace p4 : (j : Int) < (sm : Int) := p4
  replace p5 : 0 ≤ lev := p5
  replace p6 : lev ≤ 6 := p6
  have hD0 := Lib.hid hD
  obtain ⟨hd, hs1, hs8, hrl, _, _⟩ := hD
  obtain ⟨d1, d2, d3, d4, d5⟩ := hd
  replace d1 : S.l.length = sm := d1
  have b1 : Below w.heap.size w (w.alloc (.cells #[.bool true, .int .i64 a, .int .i64 j, .int .i64 lev, .bool false, .int .i64 st] 124)) := (Below.refl _ _).alloc (Nat.le_refl _) _
  have K1 := Lib.hid (CellsAt.new w [.bool true, .int .i64 a, .int .i64 j, .int .i64 lev, .bool false, .int .i64 st] 124)
  obtain ⟨W1, hW1⟩ : ∃ W1, W1 = w.alloc (.cells #[.bool true, .int .i64 a, .int .i64 j, .int .i64 lev, .bool false, .int .i64 st] 124) := ⟨_, rfl⟩
  rw [show (w.alloc (.cells ([.bool true, .int .i64 a, .int .i64 j, .int .i64 lev, .bool false, .int .i64 st] : List Value).toArray 124)) = W1 from hW1.symm] at K1
  rw [← hW1] at b1
  have P1 := Lib.hid (P.below b1)
  have B1 := Lib.hid b1
  have HB := Lib.hid P.ownB
  have HL := Lib.hid P.ownLt
  have F1 := Lib.hid (Fs.of_below (S := B) b1)
  have HZ1 := Lib.hid (show W1.heap.size = w.heap.size + 1 by rw [hW1]; simp)
  have HW1 := Lib.hid hW1.symm
  have HH := Lib.hid hh
  have D1 := Lib.hid d1
  have hj : j < sm := by omega
  obtain ⟨gl, cl, gr, cr, rfl, rfl, dk⟩ := P1.out.desk
  have hjl : j < S.l.length := by rw [d1]; exact hj
  have hjr : j < S.r.length := by rw [show S.r.length = S.l.length from P.len]; exact hjl
  have DK := Lib.hid dk
  obtain ⟨⟨_, q0, q1, _, _⟩, _⟩ := P1.out.get
  have y0 := dk.ol.cell hjl
  have y1 := dk.or_.cell (i := j) hjr
  have GL := Lib.hid (show S.l.getD j 0 = S.l[j] by simp [hjl])
  have GR := Lib.hid (show S.r.getD j 0 = S.r[j] by simp [hjr])
  generalize S.l[j] = u at y0 GL
  generalize S.r[j] = v at y1 GR
  have c0 := K1.out.get 0 _ rfl
  have c2 := K1.out.get 2 _ rfl
  have c3 := K1.out.get 3 _ rfl
  have i0 : (0 : Int) ≤ (j : Int) := by omega
  have i1 : (j : Int) < (S.l.length : Int) := by omega
  have kq0 := fun d os => cell_regrown q0 d os
  have kq1 := fun d os => cell_regrown q1 d os
  have ky0 := fun d os => cell_regrown y0 d os
  have ky1 := fun d os => cell_regrown y1 d os
  have kc2 := fun d os => cell_regrown c2 d os
  have kc3 := fun d os => cell_regrown c3 d os
  have hwr : IntKind.i64.wrap (lev + 1) = lev + 1 := IntWalk.i64_in _ (by omega)
  clear P b1 hW1 p1 p2 p3 p4 p7 p8 hh d1 d2 d3 d4 d5 q0 q1 y0 y1 dk c2 c3
  by_cases hv : v = -1
  · by_cases hu : u = lev
    · have tv : (v != (-1 : Int)) = false := by simp [hv]
      have tu : (u != lev) = false := by simp [hu]
      have HS := Lib.hid (show comeS (true, (a : Int), (j : Int), lev, false, st) S = writeS S (1, (j : Int), lev + 1) by
        unfold comeS
        dsimp only
        rw [if_neg (by decide), Int.toNat_natCast, GL.out, GR.out, if_neg (fun h => h.elim (fun h => h hv) (fun h => h hu)), if_neg (by decide)])
      clear hv hu
      go_enter Tryz.func123, Tryz.ntmps123
      go_wp2_with fail
      rw [HW1.out]
      refine wp_region_quiet_below (by kernel_rfl) (by kernel_rfl) ?_
      repeat (first | go_big_quiet_skip | quiet_step (fail))
      refine wpQuiet_nil ?_
      intro _ hw'
      obtain ⟨⟨dq, osq⟩, hw''⟩ := hw'
      subst hw''
      have bq := below_regrown W1 dq osq
      generalize grow (redrawn W1 dq) osq = wq at bq ⊢
      have P2 := Lib.hid (P1.out.below bq)
      have F2 := Lib.hid (F1.out.trans (Fs.of_below bq))
      have K2 := K1.out.below bq
      have c2 := K2.get 2 _ rfl
      have c3 := K2.get 3 _ rfl
      have c4 := K2.get 4 _ rfl
      have c5 := K2.get 5 _ rfl
      have HZ2 := Lib.hid (show w.heap.size ≤ wq.heap.size by have := bq.size; have := HZ1.out; omega)
      clear kq0 kq1 ky0 ky1 kc2 kc3 bq K2 c0
      go_wp2_with fail
      refine (RnWrite_any (1 : Int) (lev + 1) _ P2.out hD0.out (by omega) hj).mono ?_
      rintro e w3 ⟨rfl, ve', P3, F3⟩
      have P3 := Lib.hid (P3.mono (Bm.mono HZ2.out))
      have F3 := Lib.hid (F2.out.trans F3)
      go_wp2
      exact bodyPost_end (v := .tuple #[]) (by simp [results, Tryz.results123, go_sem]) rfl ⟨rfl, _, by rw [HS.out]; exact P3.out, F3.out⟩
    · have tv : (v != (-1 : Int)) = false := by simp [hv]
      have tu : (u != lev) = true := by simp [hu]
      have HS := Lib.hid (show comeS (true, (a : Int), (j : Int), lev, false, st) S = S by
        unfold comeS
        dsimp only
        rw [if_neg (by decide), Int.toNat_natCast, GL.out, GR.out, if_pos (.inr hu)])
      clear hv hu
      go_enter Tryz.func123, Tryz.ntmps123
      go_wp2_with fail
      rw [HW1.out]
      refine wp_region_quiet_below (by kernel_rfl) (by kernel_rfl) ?_
      repeat (first | go_big_quiet_skip | quiet_step (fail))
      refine wpQuiet_nil ?_
      intro _ hw'
      obtain ⟨⟨dq, osq⟩, hw''⟩ := hw'
      subst hw''
      have bq := below_regrown W1 dq osq
      generalize grow (redrawn W1 dq) osq = wq at bq ⊢
      have P2 := Lib.hid (P1.out.below bq)
      have F2 := Lib.hid (F1.out.trans (Fs.of_below bq))
      clear kq0 kq1 ky0 ky1 kc2 kc3 bq c0
      go_wp2
      exact bodyPost_ret (v := .tuple #[]) (by simp [results, Tryz.results123, go_sem]) rfl ⟨rfl, _, by rw [HS.out]; exact P2.out.mono (fun k hk => .inl hk), F2.out⟩
  · have tv : (v != (-1 : Int)) = true := by simp [hv]
    have HS := Lib.hid (show comeS (true, (a : Int), (j : Int), lev, false, st) S = S by
      unfold comeS
      dsimp only
      rw [if_neg (by decide), Int.toNat_natCast, GL.out, GR.out, if_pos (.inl hv)])
    clear hv
    go_enter Tryz.func123, Tryz.ntmps123
    go_wp2_with fail
    rw [HW1.out]
    refine wp_region_quiet_below (by kernel_rfl) (by kernel_rfl) ?_
    repeat (first | go_big_quiet_skip | quiet_step (fail))
    refine wpQuiet_nil ?_
    intro _ hw'
    obtain ⟨⟨dq, osq⟩, hw''⟩ := hw'
    subst hw''
    have bq := below_regrown W1 dq osq
    generalize grow (redrawn W1 dq) osq = wq at bq ⊢
    have P2 := Lib.hid (P1.out.below bq)
    have F2 := Lib.hid (F1.out.trans (Fs.of_below bq))
    clear kq0 kq1 ky0 ky1 kc2 kc3 bq c0
    go_wp2
    exact bodyPost_ret (v := .tuple #[]) (by simp [results, Tryz.results123, go_sem]) rfl ⟨rfl, _, by rw [HS.out]; exact P2.out.mono (fun k hk => .inl hk), F2.out⟩
theorem RnCome_any {b sb sm wk n : Nat} {B : Nat → Prop} {S : PS} {vl vr ve vh vw vo : Value} (pk : Pk) (w : World) (P : RunIs w b sb B S vl vr ve vh vw vo) (hD : PlOk sm S) (hp : PkOk n sm wk pk) (hh : S.hands.length = wk) :
    Calls Tryz.prog 123 #[.pointer (some ⟨b, 0, none⟩), .agg #[.bool pk.1, .int .i64 pk.2.1, .int .i64 pk.2.2.1, .int .i64 pk.2.2.2.1, .bool pk.2.2.2.2.1, .int .i64 pk.2.2.2.2.2]] w fun e w' => e = .returned (.tuple #[]) ∧ ∃ ve', RunIs w' b sb (Bm B w.heap.size) (comeS pk S) vl vr ve' vh vw vo ∧ Fs B w w' := by
  obtain ⟨bk, a0, j0, lev, met, st⟩ := pk
  have hp0 := hp
  obtain ⟨p1, p2, p3, p4, _⟩ := hp
  obtain ⟨a, rfl⟩ := Int.eq_ofNat_of_zero_le p1
  obtain ⟨j, rfl⟩ := Int.eq_ofNat_of_zero_le p3
  cases bk
  · exact RnCome_front met lev st w P hD hp0 hh
  · cases met
    · exact RnCome_back_false lev st w P hD hp0 hh
    · exact RnCome_back_true lev st w P hD hp0 hh
end Go.Proofs.YtofpelmplcoegaaGreat
