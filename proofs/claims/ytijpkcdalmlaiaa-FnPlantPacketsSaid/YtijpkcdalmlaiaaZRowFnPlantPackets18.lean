/-
  The program's learn.
-/
import Derived.Test.YtijpkcdalmlaiaaZRowFnPlantPackets17
import Derived.Deep.DeepCutAuto
set_option linter.unusedVariables false
set_option linter.unusedSimpArgs false
namespace Go.Proofs.Ytijpkcdalmlaiaa
open Go.RowKit Go.Sort
set_option maxHeartbeats 8000000 in
theorem learn_1 {base b o gl cl gr cr j : Nat} {lv rs : List Int} (outs v : Int) (w : World) (hD : DeskIs w base b o gl cl gr cr lv rs outs) (hj : j < lv.length) (hn : lv.length ≤ 1000000)
    (hx1 : ∀ x ∈ lv, -1000000000 ≤ x ∧ x ≤ 1000000000) (ho1 : 0 ≤ outs) (ho2 : outs ≤ 1000000000) :
    Calls Try.prog 131 #[.pointer (some ⟨b, o, none⟩), .agg #[.int .i64 1, .int .i64 j, .int .i64 v]] w (LearnP w base b o gl cl gr cr lv rs outs 1 j v) := by
  obtain ⟨x, hx⟩ : ∃ x, lv[j]'hj = x := ⟨_, rfl⟩
  have hjr : j < rs.length := by rw [hD.len]; exact hj
  obtain ⟨y, hy⟩ : ∃ y, rs[j]'hjr = y := ⟨_, rfl⟩
  have hxb := hx1 _ (List.getElem_mem hj)
  rw [hx] at hxb
  have hxl : -1000000000 ≤ x := hxb.1
  have hxu : x ≤ 1000000000 := hxb.2
  have hgx : lv.getD j 0 = x := by rw [← hx]; simp [hj]
  have hgy : rs.getD j 0 = y := by rw [← hy]; simp [hjr]
  have HX := Lib.hid hx
  have HY := Lib.hid hy
  have HF := Lib.hid (show learnF lv rs outs 1 j v = (if y = -1 ∧ v = x + 1 then some (lv.set j v, if v = 7 then rs.set j (-2) else rs, outs) else none) by unfold learnF; simp only [Int.toNat_natCast, hgx, hgy]; simp)
  have hwr : IntKind.i64.wrap (x + 1) = x + 1 := IntWalk.i64_in _ (by omega)
  have hji : (0 : Int) ≤ (j : Int) := by omega
  have hjl : (j : Int) < (lv.length : Int) := by omega
  have hgl := (hD.ol.lt gl rfl).2
  have hgr := (hD.or_.lt gr rfl).2
  have hbb := hD.at_.1
  have n1 : ¬ w.heap.size = gl := by omega
  have n2 : ¬ w.heap.size = gr := by omega
  have n3 : ¬ gl = w.heap.size := by omega
  have n4 : ¬ gr = w.heap.size := by omega
  have n5 := hD.lr
  have n6 := hD.bl
  have n7 := hD.br
  have bx : Below w.heap.size w (w.alloc (.cells #[.int .i64 1, .int .i64 j, .int .i64 v] 121)) := (Below.refl _ _).alloc (Nat.le_refl _) _
  have DX := Lib.hid (hD.below bx)
  have RX := Lib.hid (rec3At_new w 1 j v)
  have FX := Lib.hid (FrD.of_below (o := o) (gl := gl) (gr := gr) bx hbb)
  clear hx1 hxb hx hy hgx hgy hD bx
  by_cases hy1 : y = -1
  · by_cases hv1 : v = x + 1
    · by_cases hv7 : v = 7
      · skip
        have ty : (y != (-1 : Int)) = false := by simp [hy1]
        have HY1 := Lib.hid hy1
        clear hy1
        have tv : (v != x + 1) = false := by simp [hv1]
        have HV1 := Lib.hid hv1
        clear hv1
        have t7 : (v == (7 : Int)) = true := by simp [hv7]
        have HV7 := Lib.hid hv7
        clear hv7
        go_enter Try.func131, Try.ntmps131
        go_upto_region 1 with (fail)
        generalize w.alloc (.cells #[.int .i64 1, .int .i64 j, .int .i64 v] 121) = w0 at DX RX FX ⊢
        have D := DX.out
        obtain ⟨p0, p1, p2⟩ := RX.out.2
        obtain ⟨zb, a0, a1, a2, af⟩ := D.at_
        have gl0 := D.ol.cell hj
        have gr0 := D.or_.cell (i := j) hjr
        rw [HX.out] at gl0
        rw [HY.out] at gr0
        have k0 := fun d os => cell_regrown a0 d os
        have k1 := fun d os => cell_regrown a1 d os
        have k2 := fun d os => cell_regrown a2 d os
        have k3 := fun d os => cell_regrown p0 d os
        have k4 := fun d os => cell_regrown p1 d os
        have k5 := fun d os => cell_regrown p2 d os
        have k6 := fun d os => cell_regrown gl0 d os
        have k7 := fun d os => cell_regrown gr0 d os
        clear D a0 a1 a2 af gl0 gr0 p0 p1 p2 zb
        refine wp_region_quiet_below (by kernel_rfl) (by kernel_rfl) ?_
        repeat (first | go_big_quiet_skip | quiet_step (fail))
        refine wpQuiet_nil ?_
        intro _ hw'
        obtain ⟨⟨dq, osq⟩, hw''⟩ := hw'
        subst hw''
        have bq := below_regrown w0 dq osq
        generalize grow (redrawn w0 dq) osq = w1 at bq ⊢
        clear k0 k1 k2 k3 k4 k5 k6 k7
        have DX := Lib.hid (DX.out.below bq)
        have RX := Lib.hid (RX.out.below bq)
        have FX := Lib.hid (FX.out.then_below bq)
        clear bq
        obtain ⟨p0, p1, p2⟩ := RX.out.2
        go_wp2
        clear p0 p1 p2
        have D := DX.out
        obtain ⟨p0, p1, p2⟩ := RX.out.2
        obtain ⟨zb, a0, a1, a2, af⟩ := D.at_
        have gl0 := D.ol.cell hj
        have gr0 := D.or_.cell (i := j) hjr
        rw [HX.out] at gl0
        rw [HY.out] at gr0
        have k0 := fun d os => cell_regrown a0 d os
        have k1 := fun d os => cell_regrown a1 d os
        have k2 := fun d os => cell_regrown a2 d os
        have k3 := fun d os => cell_regrown p0 d os
        have k4 := fun d os => cell_regrown p1 d os
        have k5 := fun d os => cell_regrown p2 d os
        have k6 := fun d os => cell_regrown gl0 d os
        have k7 := fun d os => cell_regrown gr0 d os
        clear D a0 a1 a2 af gl0 gr0 p0 p1 p2 zb
        refine wp_region_quiet_below (by kernel_rfl) (by kernel_rfl) ?_
        repeat (first | go_big_quiet_skip | quiet_step (fail))
        refine wpQuiet_nil ?_
        intro _ hw'
        obtain ⟨⟨dq, osq⟩, hw''⟩ := hw'
        subst hw''
        have bq := below_regrown w1 dq osq
        generalize grow (redrawn w1 dq) osq = w2 at bq ⊢
        clear k0 k1 k2 k3 k4 k5 k6 k7
        have DX := Lib.hid (DX.out.below bq)
        have RX := Lib.hid (RX.out.below bq)
        have FX := Lib.hid (FX.out.then_below bq)
        clear bq
        go_wp2_with fail
        have D := DX.out
        obtain ⟨p0, p1, p2⟩ := RX.out.2
        obtain ⟨zb, a0, a1, a2, af⟩ := D.at_
        have gl0 := D.ol.cell hj
        have gr0 := D.or_.cell (i := j) hjr
        rw [HX.out] at gl0
        rw [HY.out] at gr0
        have k0 := fun d os => cell_regrown a0 d os
        have k1 := fun d os => cell_regrown a1 d os
        have k2 := fun d os => cell_regrown a2 d os
        have k3 := fun d os => cell_regrown p0 d os
        have k4 := fun d os => cell_regrown p1 d os
        have k5 := fun d os => cell_regrown p2 d os
        have k6 := fun d os => cell_regrown gl0 d os
        have k7 := fun d os => cell_regrown gr0 d os
        clear D a0 a1 a2 af gl0 gr0 p0 p1 p2 zb
        refine wp_region_below_tail 9 (by kernel_rfl) (by kernel_rfl) ?_
        simp only [List.take_succ_cons, List.take_zero, List.drop_succ_cons, List.drop_zero]
        repeat (first | go_big_quiet_skip | quiet_step (fail))
        refine wpQuiet_nil ?_
        intro _ hw'
        obtain ⟨⟨dq, osq⟩, hw''⟩ := hw'
        subst hw''
        have bq := below_regrown w2 dq osq
        generalize grow (redrawn w2 dq) osq = w3 at bq ⊢
        clear k0 k1 k2 k3 k4 k5 k6 k7
        have DX := Lib.hid (DX.out.below bq)
        have RX := Lib.hid (RX.out.below bq)
        have FX := Lib.hid (FX.out.then_below bq)
        have gl0 := DX.out.ol.cell hj
        have gr0 := DX.out.or_.cell (i := j) hjr
        have gf := DX.out.ol.free j
        have gg := DX.out.or_.free j
        clear bq
        obtain ⟨p0, p1, p2⟩ := RX.out.2
        go_wp2
        generalize hW4 : w3.setCell ⟨gl, j, none⟩ (.int .i64 v) = w4
        have DX := Lib.hid (show DeskIs w4 base b o gl cl gr cr (lv.set j v) rs outs by rw [← hW4]; exact DX.out.setL j v)
        have RX := Lib.hid (show Rec3At w4 w.heap.size 1 j v by rw [← hW4]; exact RX.out.far n1 _)
        have FX := Lib.hid (show FrD b o gl gr w w4 by rw [← hW4]; exact FX.out.setF (.inl rfl) DX.out.bl j _)
        clear hW4 p0 p1 p2 gl0 gr0 gf gg
        have D := DX.out
        obtain ⟨p0, p1, p2⟩ := RX.out.2
        obtain ⟨zb, a0, a1, a2, af⟩ := D.at_
        rw [List.length_set] at a0 a1
        have gl0 := D.ol.cell (i := j) (by rw [List.length_set]; exact hj)
        have gr0 := D.or_.cell (i := j) hjr
        rw [HY.out] at gr0
        have k0 := fun d os => cell_regrown a0 d os
        have k1 := fun d os => cell_regrown a1 d os
        have k2 := fun d os => cell_regrown a2 d os
        have k3 := fun d os => cell_regrown p0 d os
        have k4 := fun d os => cell_regrown p1 d os
        have k5 := fun d os => cell_regrown p2 d os
        have k6 := fun d os => cell_regrown gl0 d os
        have k7 := fun d os => cell_regrown gr0 d os
        clear D a0 a1 a2 af gl0 gr0 p0 p1 p2 zb
        refine wp_region_below_tail 7 (by kernel_rfl) (by kernel_rfl) ?_
        simp only [List.take_succ_cons, List.take_zero, List.drop_succ_cons, List.drop_zero]
        repeat (first | go_big_quiet_skip | quiet_step (fail))
        refine wpQuiet_nil ?_
        intro _ hw'
        obtain ⟨⟨dq, osq⟩, hw''⟩ := hw'
        subst hw''
        have bq := below_regrown w4 dq osq
        generalize grow (redrawn w4 dq) osq = w5 at bq ⊢
        clear k0 k1 k2 k3 k4 k5 k6 k7
        have DX := Lib.hid (DX.out.below bq)
        have RX := Lib.hid (RX.out.below bq)
        have FX := Lib.hid (FX.out.then_below bq)
        have gl0 := DX.out.ol.cell (i := j) (by rw [List.length_set]; exact hj)
        have gr0 := DX.out.or_.cell (i := j) hjr
        have gf := DX.out.ol.free j
        have gg := DX.out.or_.free j
        clear bq
        have hN := HF.out
        rw [if_pos ⟨HY1.out, HV1.out⟩, if_pos HV7.out] at hN
        have HN := Lib.hid hN
        clear hN
        go_wp2
        go_ret
        exact LearnP.yes HN.out (DX.out.setR j (-2)) (FX.out.setF (.inr rfl) DX.out.br j _)
      · skip
        have ty : (y != (-1 : Int)) = false := by simp [hy1]
        have HY1 := Lib.hid hy1
        clear hy1
        have tv : (v != x + 1) = false := by simp [hv1]
        have HV1 := Lib.hid hv1
        clear hv1
        have t7 : (v == (7 : Int)) = false := by simp [hv7]
        have HV7 := Lib.hid hv7
        clear hv7
        go_enter Try.func131, Try.ntmps131
        go_upto_region 1 with (fail)
        generalize w.alloc (.cells #[.int .i64 1, .int .i64 j, .int .i64 v] 121) = w0 at DX RX FX ⊢
        have D := DX.out
        obtain ⟨p0, p1, p2⟩ := RX.out.2
        obtain ⟨zb, a0, a1, a2, af⟩ := D.at_
        have gl0 := D.ol.cell hj
        have gr0 := D.or_.cell (i := j) hjr
        rw [HX.out] at gl0
        rw [HY.out] at gr0
        have k0 := fun d os => cell_regrown a0 d os
        have k1 := fun d os => cell_regrown a1 d os
        have k2 := fun d os => cell_regrown a2 d os
        have k3 := fun d os => cell_regrown p0 d os
        have k4 := fun d os => cell_regrown p1 d os
        have k5 := fun d os => cell_regrown p2 d os
        have k6 := fun d os => cell_regrown gl0 d os
        have k7 := fun d os => cell_regrown gr0 d os
        clear D a0 a1 a2 af gl0 gr0 p0 p1 p2 zb
        refine wp_region_quiet_below (by kernel_rfl) (by kernel_rfl) ?_
        repeat (first | go_big_quiet_skip | quiet_step (fail))
        refine wpQuiet_nil ?_
        intro _ hw'
        obtain ⟨⟨dq, osq⟩, hw''⟩ := hw'
        subst hw''
        have bq := below_regrown w0 dq osq
        generalize grow (redrawn w0 dq) osq = w1 at bq ⊢
        clear k0 k1 k2 k3 k4 k5 k6 k7
        have DX := Lib.hid (DX.out.below bq)
        have RX := Lib.hid (RX.out.below bq)
        have FX := Lib.hid (FX.out.then_below bq)
        clear bq
        obtain ⟨p0, p1, p2⟩ := RX.out.2
        go_wp2
        clear p0 p1 p2
        have D := DX.out
        obtain ⟨p0, p1, p2⟩ := RX.out.2
        obtain ⟨zb, a0, a1, a2, af⟩ := D.at_
        have gl0 := D.ol.cell hj
        have gr0 := D.or_.cell (i := j) hjr
        rw [HX.out] at gl0
        rw [HY.out] at gr0
        have k0 := fun d os => cell_regrown a0 d os
        have k1 := fun d os => cell_regrown a1 d os
        have k2 := fun d os => cell_regrown a2 d os
        have k3 := fun d os => cell_regrown p0 d os
        have k4 := fun d os => cell_regrown p1 d os
        have k5 := fun d os => cell_regrown p2 d os
        have k6 := fun d os => cell_regrown gl0 d os
        have k7 := fun d os => cell_regrown gr0 d os
        clear D a0 a1 a2 af gl0 gr0 p0 p1 p2 zb
        refine wp_region_quiet_below (by kernel_rfl) (by kernel_rfl) ?_
        repeat (first | go_big_quiet_skip | quiet_step (fail))
        refine wpQuiet_nil ?_
        intro _ hw'
        obtain ⟨⟨dq, osq⟩, hw''⟩ := hw'
        subst hw''
        have bq := below_regrown w1 dq osq
        generalize grow (redrawn w1 dq) osq = w2 at bq ⊢
        clear k0 k1 k2 k3 k4 k5 k6 k7
        have DX := Lib.hid (DX.out.below bq)
        have RX := Lib.hid (RX.out.below bq)
        have FX := Lib.hid (FX.out.then_below bq)
        clear bq
        go_wp2_with fail
        have D := DX.out
        obtain ⟨p0, p1, p2⟩ := RX.out.2
        obtain ⟨zb, a0, a1, a2, af⟩ := D.at_
        have gl0 := D.ol.cell hj
        have gr0 := D.or_.cell (i := j) hjr
        rw [HX.out] at gl0
        rw [HY.out] at gr0
        have k0 := fun d os => cell_regrown a0 d os
        have k1 := fun d os => cell_regrown a1 d os
        have k2 := fun d os => cell_regrown a2 d os
        have k3 := fun d os => cell_regrown p0 d os
        have k4 := fun d os => cell_regrown p1 d os
        have k5 := fun d os => cell_regrown p2 d os
        have k6 := fun d os => cell_regrown gl0 d os
        have k7 := fun d os => cell_regrown gr0 d os
        clear D a0 a1 a2 af gl0 gr0 p0 p1 p2 zb
        refine wp_region_below_tail 9 (by kernel_rfl) (by kernel_rfl) ?_
        simp only [List.take_succ_cons, List.take_zero, List.drop_succ_cons, List.drop_zero]
        repeat (first | go_big_quiet_skip | quiet_step (fail))
        refine wpQuiet_nil ?_
        intro _ hw'
        obtain ⟨⟨dq, osq⟩, hw''⟩ := hw'
        subst hw''
        have bq := below_regrown w2 dq osq
        generalize grow (redrawn w2 dq) osq = w3 at bq ⊢
        clear k0 k1 k2 k3 k4 k5 k6 k7
        have DX := Lib.hid (DX.out.below bq)
        have RX := Lib.hid (RX.out.below bq)
        have FX := Lib.hid (FX.out.then_below bq)
        have gl0 := DX.out.ol.cell hj
        have gr0 := DX.out.or_.cell (i := j) hjr
        have gf := DX.out.ol.free j
        have gg := DX.out.or_.free j
        clear bq
        obtain ⟨p0, p1, p2⟩ := RX.out.2
        have hN := HF.out
        rw [if_pos ⟨HY1.out, HV1.out⟩, if_neg HV7.out] at hN
        have HN := Lib.hid hN
        clear hN
        go_wp2
        go_ret
        exact LearnP.yes HN.out (DX.out.setL j v) (FX.out.setF (.inl rfl) DX.out.bl j _)
    · skip
      have ty : (y != (-1 : Int)) = false := by simp [hy1]
      have HY1 := Lib.hid hy1
      clear hy1
      have tv : (v != x + 1) = true := by simp [hv1]
      have HV1 := Lib.hid hv1
      clear hv1
      go_enter Try.func131, Try.ntmps131
      go_upto_region 1 with (fail)
      generalize w.alloc (.cells #[.int .i64 1, .int .i64 j, .int .i64 v] 121) = w0 at DX RX FX ⊢
      have D := DX.out
      obtain ⟨p0, p1, p2⟩ := RX.out.2
      obtain ⟨zb, a0, a1, a2, af⟩ := D.at_
      have gl0 := D.ol.cell hj
      have gr0 := D.or_.cell (i := j) hjr
      rw [HX.out] at gl0
      rw [HY.out] at gr0
      have k0 := fun d os => cell_regrown a0 d os
      have k1 := fun d os => cell_regrown a1 d os
      have k2 := fun d os => cell_regrown a2 d os
      have k3 := fun d os => cell_regrown p0 d os
      have k4 := fun d os => cell_regrown p1 d os
      have k5 := fun d os => cell_regrown p2 d os
      have k6 := fun d os => cell_regrown gl0 d os
      have k7 := fun d os => cell_regrown gr0 d os
      clear D a0 a1 a2 af gl0 gr0 p0 p1 p2 zb
      refine wp_region_quiet_below (by kernel_rfl) (by kernel_rfl) ?_
      repeat (first | go_big_quiet_skip | quiet_step (fail))
      refine wpQuiet_nil ?_
      intro _ hw'
      obtain ⟨⟨dq, osq⟩, hw''⟩ := hw'
      subst hw''
      have bq := below_regrown w0 dq osq
      generalize grow (redrawn w0 dq) osq = w1 at bq ⊢
      clear k0 k1 k2 k3 k4 k5 k6 k7
      have DX := Lib.hid (DX.out.below bq)
      have RX := Lib.hid (RX.out.below bq)
      have FX := Lib.hid (FX.out.then_below bq)
      clear bq
      obtain ⟨p0, p1, p2⟩ := RX.out.2
      go_wp2
      clear p0 p1 p2
      have D := DX.out
      obtain ⟨p0, p1, p2⟩ := RX.out.2
      obtain ⟨zb, a0, a1, a2, af⟩ := D.at_
      have gl0 := D.ol.cell hj
      have gr0 := D.or_.cell (i := j) hjr
      rw [HX.out] at gl0
      rw [HY.out] at gr0
      have k0 := fun d os => cell_regrown a0 d os
      have k1 := fun d os => cell_regrown a1 d os
      have k2 := fun d os => cell_regrown a2 d os
      have k3 := fun d os => cell_regrown p0 d os
      have k4 := fun d os => cell_regrown p1 d os
      have k5 := fun d os => cell_regrown p2 d os
      have k6 := fun d os => cell_regrown gl0 d os
      have k7 := fun d os => cell_regrown gr0 d os
      clear D a0 a1 a2 af gl0 gr0 p0 p1 p2 zb
      refine wp_region_quiet_below (by kernel_rfl) (by kernel_rfl) ?_
      repeat (first | go_big_quiet_skip | quiet_step (fail))
      refine wpQuiet_nil ?_
      intro _ hw'
      obtain ⟨⟨dq, osq⟩, hw''⟩ := hw'
      subst hw''
      have bq := below_regrown w1 dq osq
      generalize grow (redrawn w1 dq) osq = w2 at bq ⊢
      clear k0 k1 k2 k3 k4 k5 k6 k7
      have DX := Lib.hid (DX.out.below bq)
      have RX := Lib.hid (RX.out.below bq)
      have FX := Lib.hid (FX.out.then_below bq)
      clear bq
      have hN := HF.out
      rw [if_neg (fun h => HV1.out h.2)] at hN
      have HN := Lib.hid hN
      clear hN
      go_wp2
      go_ret
      exact LearnP.no HN.out DX.out FX.out
  · skip
    have ty : (y != (-1 : Int)) = true := by simp [hy1]
    have HY1 := Lib.hid hy1
    clear hy1
    go_enter Try.func131, Try.ntmps131
    go_upto_region 1 with (fail)
    generalize w.alloc (.cells #[.int .i64 1, .int .i64 j, .int .i64 v] 121) = w0 at DX RX FX ⊢
    have D := DX.out
    obtain ⟨p0, p1, p2⟩ := RX.out.2
    obtain ⟨zb, a0, a1, a2, af⟩ := D.at_
    have gl0 := D.ol.cell hj
    have gr0 := D.or_.cell (i := j) hjr
    rw [HX.out] at gl0
    rw [HY.out] at gr0
    have k0 := fun d os => cell_regrown a0 d os
    have k1 := fun d os => cell_regrown a1 d os
    have k2 := fun d os => cell_regrown a2 d os
    have k3 := fun d os => cell_regrown p0 d os
    have k4 := fun d os => cell_regrown p1 d os
    have k5 := fun d os => cell_regrown p2 d os
    have k6 := fun d os => cell_regrown gl0 d os
    have k7 := fun d os => cell_regrown gr0 d os
    clear D a0 a1 a2 af gl0 gr0 p0 p1 p2 zb
    refine wp_region_quiet_below (by kernel_rfl) (by kernel_rfl) ?_
    repeat (first | go_big_quiet_skip | quiet_step (fail))
    refine wpQuiet_nil ?_
    intro _ hw'
    obtain ⟨⟨dq, osq⟩, hw''⟩ := hw'
    subst hw''
    have bq := below_regrown w0 dq osq
    generalize grow (redrawn w0 dq) osq = w1 at bq ⊢
    clear k0 k1 k2 k3 k4 k5 k6 k7
    have DX := Lib.hid (DX.out.below bq)
    have RX := Lib.hid (RX.out.below bq)
    have FX := Lib.hid (FX.out.then_below bq)
    clear bq
    obtain ⟨p0, p1, p2⟩ := RX.out.2
    go_wp2
    clear p0 p1 p2
    have D := DX.out
    obtain ⟨p0, p1, p2⟩ := RX.out.2
    obtain ⟨zb, a0, a1, a2, af⟩ := D.at_
    have gl0 := D.ol.cell hj
    have gr0 := D.or_.cell (i := j) hjr
    rw [HX.out] at gl0
    rw [HY.out] at gr0
    have k0 := fun d os => cell_regrown a0 d os
    have k1 := fun d os => cell_regrown a1 d os
    have k2 := fun d os => cell_regrown a2 d os
    have k3 := fun d os => cell_regrown p0 d os
    have k4 := fun d os => cell_regrown p1 d os
    have k5 := fun d os => cell_regrown p2 d os
    have k6 := fun d os => cell_regrown gl0 d os
    have k7 := fun d os => cell_regrown gr0 d os
    clear D a0 a1 a2 af gl0 gr0 p0 p1 p2 zb
    refine wp_region_quiet_below (by kernel_rfl) (by kernel_rfl) ?_
    repeat (first | go_big_quiet_skip | quiet_step (fail))
    refine wpQuiet_nil ?_
    intro _ hw'
    obtain ⟨⟨dq, osq⟩, hw''⟩ := hw'
    subst hw''
    have bq := below_regrown w1 dq osq
    generalize grow (redrawn w1 dq) osq = w2 at bq ⊢
    clear k0 k1 k2 k3 k4 k5 k6 k7
    have DX := Lib.hid (DX.out.below bq)
    have RX := Lib.hid (RX.out.below bq)
    have FX := Lib.hid (FX.out.then_below bq)
    clear bq
    have hN := HF.out
    rw [if_neg (fun h => HY1.out h.1)] at hN
    have HN := Lib.hid hN
    clear hN
    go_wp2
    go_ret
    exact LearnP.no HN.out DX.out FX.out
set_option maxHeartbeats 8000000 in
theorem learn_2 {base b o gl cl gr cr j : Nat} {lv rs : List Int} (outs v : Int) (w : World) (hD : DeskIs w base b o gl cl gr cr lv rs outs) (hj : j < lv.length) (hn : lv.length ≤ 1000000)
    (hx1 : ∀ x ∈ lv, -1000000000 ≤ x ∧ x ≤ 1000000000) (ho1 : 0 ≤ outs) (ho2 : outs ≤ 1000000000) :
    Calls Try.prog 131 #[.pointer (some ⟨b, o, none⟩), .agg #[.int .i64 2, .int .i64 j, .int .i64 v]] w (LearnP w base b o gl cl gr cr lv rs outs 2 j v) := by
  obtain ⟨x, hx⟩ : ∃ x, lv[j]'hj = x := ⟨_, rfl⟩
  have hjr : j < rs.length := by rw [hD.len]; exact hj
  obtain ⟨y, hy⟩ : ∃ y, rs[j]'hjr = y := ⟨_, rfl⟩
  have hxb := hx1 _ (List.getElem_mem hj)
  rw [hx] at hxb
  have hxl : -1000000000 ≤ x := hxb.1
  have hxu : x ≤ 1000000000 := hxb.2
  have hgx : lv.getD j 0 = x := by rw [← hx]; simp [hj]
  have hgy : rs.getD j 0 = y := by rw [← hy]; simp [hjr]
  have HX := Lib.hid hx
  have HY := Lib.hid hy
  have HF := Lib.hid (show learnF lv rs outs 2 j v = (if y = -1 then some (lv, rs.set j v, outs) else none) by unfold learnF; simp only [Int.toNat_natCast, hgx, hgy]; simp)
  have hwr : IntKind.i64.wrap (x + 1) = x + 1 := IntWalk.i64_in _ (by omega)
  have hji : (0 : Int) ≤ (j : Int) := by omega
  have hjl : (j : Int) < (lv.length : Int) := by omega
  have hgl := (hD.ol.lt gl rfl).2
  have hgr := (hD.or_.lt gr rfl).2
  have hbb := hD.at_.1
  have n1 : ¬ w.heap.size = gl := by omega
  have n2 : ¬ w.heap.size = gr := by omega
  have n3 : ¬ gl = w.heap.size := by omega
  have n4 : ¬ gr = w.heap.size := by omega
  have n5 := hD.lr
  have n6 := hD.bl
  have n7 := hD.br
  have bx : Below w.heap.size w (w.alloc (.cells #[.int .i64 2, .int .i64 j, .int .i64 v] 121)) := (Below.refl _ _).alloc (Nat.le_refl _) _
  have DX := Lib.hid (hD.below bx)
  have RX := Lib.hid (rec3At_new w 2 j v)
  have FX := Lib.hid (FrD.of_below (o := o) (gl := gl) (gr := gr) bx hbb)
  clear hx1 hxb hx hy hgx hgy hD bx
  by_cases hy1 : y = -1
  · skip
    have ty : (y != (-1 : Int)) = false := by simp [hy1]
    have HY1 := Lib.hid hy1
    clear hy1
    go_enter Try.func131, Try.ntmps131
    go_upto_region 1 with (fail)
    generalize w.alloc (.cells #[.int .i64 2, .int .i64 j, .int .i64 v] 121) = w0 at DX RX FX ⊢
    have D := DX.out
    obtain ⟨p0, p1, p2⟩ := RX.out.2
    obtain ⟨zb, a0, a1, a2, af⟩ := D.at_
    have gl0 := D.ol.cell hj
    have gr0 := D.or_.cell (i := j) hjr
    rw [HX.out] at gl0
    rw [HY.out] at gr0
    have k0 := fun d os => cell_regrown a0 d os
    have k1 := fun d os => cell_regrown a1 d os
    have k2 := fun d os => cell_regrown a2 d os
    have k3 := fun d os => cell_regrown p0 d os
    have k4 := fun d os => cell_regrown p1 d os
    have k5 := fun d os => cell_regrown p2 d os
    have k6 := fun d os => cell_regrown gl0 d os
    have k7 := fun d os => cell_regrown gr0 d os
    clear D a0 a1 a2 af gl0 gr0 p0 p1 p2 zb
    refine wp_region_quiet_below (by kernel_rfl) (by kernel_rfl) ?_
    repeat (first | go_big_quiet_skip | quiet_step (fail))
    refine wpQuiet_nil ?_
    intro _ hw'
    obtain ⟨⟨dq, osq⟩, hw''⟩ := hw'
    subst hw''
    have bq := below_regrown w0 dq osq
    generalize grow (redrawn w0 dq) osq = w1 at bq ⊢
    clear k0 k1 k2 k3 k4 k5 k6 k7
    have DX := Lib.hid (DX.out.below bq)
    have RX := Lib.hid (RX.out.below bq)
    have FX := Lib.hid (FX.out.then_below bq)
    clear bq
    obtain ⟨p0, p1, p2⟩ := RX.out.2
    go_wp2
    clear p0 p1 p2
    have D := DX.out
    obtain ⟨p0, p1, p2⟩ := RX.out.2
    obtain ⟨zb, a0, a1, a2, af⟩ := D.at_
    have gl0 := D.ol.cell hj
    have gr0 := D.or_.cell (i := j) hjr
    rw [HX.out] at gl0
    rw [HY.out] at gr0
    have k0 := fun d os => cell_regrown a0 d os
    have k1 := fun d os => cell_regrown a1 d os
    have k2 := fun d os => cell_regrown a2 d os
    have k3 := fun d os => cell_regrown p0 d os
    have k4 := fun d os => cell_regrown p1 d os
    have k5 := fun d os => cell_regrown p2 d os
    have k6 := fun d os => cell_regrown gl0 d os
    have k7 := fun d os => cell_regrown gr0 d os
    clear D a0 a1 a2 af gl0 gr0 p0 p1 p2 zb
    refine wp_region_below_tail 9 (by kernel_rfl) (by kernel_rfl) ?_
    simp only [List.take_succ_cons, List.take_zero, List.drop_succ_cons, List.drop_zero]
    repeat (first | go_big_quiet_skip | quiet_step (fail))
    refine wpQuiet_nil ?_
    intro _ hw'
    obtain ⟨⟨dq, osq⟩, hw''⟩ := hw'
    subst hw''
    have bq := below_regrown w1 dq osq
    generalize grow (redrawn w1 dq) osq = w2 at bq ⊢
    clear k0 k1 k2 k3 k4 k5 k6 k7
    have DX := Lib.hid (DX.out.below bq)
    have RX := Lib.hid (RX.out.below bq)
    have FX := Lib.hid (FX.out.then_below bq)
    have gl0 := DX.out.ol.cell hj
    have gr0 := DX.out.or_.cell (i := j) hjr
    have gf := DX.out.ol.free j
    have gg := DX.out.or_.free j
    clear bq
    have hN := HF.out
    rw [if_pos HY1.out] at hN
    have HN := Lib.hid hN
    clear hN
    go_wp2
    go_ret
    exact LearnP.yes HN.out (DX.out.setR j v) (FX.out.setF (.inr rfl) DX.out.br j _)
  · skip
    have ty : (y != (-1 : Int)) = true := by simp [hy1]
    have HY1 := Lib.hid hy1
    clear hy1
    go_enter Try.func131, Try.ntmps131
    go_upto_region 1 with (fail)
    generalize w.alloc (.cells #[.int .i64 2, .int .i64 j, .int .i64 v] 121) = w0 at DX RX FX ⊢
    have D := DX.out
    obtain ⟨p0, p1, p2⟩ := RX.out.2
    obtain ⟨zb, a0, a1, a2, af⟩ := D.at_
    have gl0 := D.ol.cell hj
    have gr0 := D.or_.cell (i := j) hjr
    rw [HX.out] at gl0
    rw [HY.out] at gr0
    have k0 := fun d os => cell_regrown a0 d os
    have k1 := fun d os => cell_regrown a1 d os
    have k2 := fun d os => cell_regrown a2 d os
    have k3 := fun d os => cell_regrown p0 d os
    have k4 := fun d os => cell_regrown p1 d os
    have k5 := fun d os => cell_regrown p2 d os
    have k6 := fun d os => cell_regrown gl0 d os
    have k7 := fun d os => cell_regrown gr0 d os
    clear D a0 a1 a2 af gl0 gr0 p0 p1 p2 zb
    refine wp_region_quiet_below (by kernel_rfl) (by kernel_rfl) ?_
    repeat (first | go_big_quiet_skip | quiet_step (fail))
    refine wpQuiet_nil ?_
    intro _ hw'
    obtain ⟨⟨dq, osq⟩, hw''⟩ := hw'
    subst hw''
    have bq := below_regrown w0 dq osq
    generalize grow (redrawn w0 dq) osq = w1 at bq ⊢
    clear k0 k1 k2 k3 k4 k5 k6 k7
    have DX := Lib.hid (DX.out.below bq)
    have RX := Lib.hid (RX.out.below bq)
    have FX := Lib.hid (FX.out.then_below bq)
    clear bq
    obtain ⟨p0, p1, p2⟩ := RX.out.2
    have hN := HF.out
    rw [if_neg HY1.out] at hN
    have HN := Lib.hid hN
    clear hN
    go_wp2
    go_ret
    exact LearnP.no HN.out DX.out FX.out
set_option maxHeartbeats 8000000 in
theorem learn_3 {base b o gl cl gr cr j : Nat} {lv rs : List Int} (outs v : Int) (w : World) (hD : DeskIs w base b o gl cl gr cr lv rs outs) (hj : j < lv.length) (hn : lv.length ≤ 1000000)
    (hx1 : ∀ x ∈ lv, -1000000000 ≤ x ∧ x ≤ 1000000000) (ho1 : 0 ≤ outs) (ho2 : outs ≤ 1000000000) :
    Calls Try.prog 131 #[.pointer (some ⟨b, o, none⟩), .agg #[.int .i64 3, .int .i64 j, .int .i64 v]] w (LearnP w base b o gl cl gr cr lv rs outs 3 j v) := by
  obtain ⟨x, hx⟩ : ∃ x, lv[j]'hj = x := ⟨_, rfl⟩
  have hjr : j < rs.length := by rw [hD.len]; exact hj
  obtain ⟨y, hy⟩ : ∃ y, rs[j]'hjr = y := ⟨_, rfl⟩
  have hxb := hx1 _ (List.getElem_mem hj)
  rw [hx] at hxb
  have hxl : -1000000000 ≤ x := hxb.1
  have hxu : x ≤ 1000000000 := hxb.2
  have hgx : lv.getD j 0 = x := by rw [← hx]; simp [hj]
  have hgy : rs.getD j 0 = y := by rw [← hy]; simp [hjr]
  have HX := Lib.hid hx
  have HY := Lib.hid hy
  have HF := Lib.hid (show learnF lv rs outs 3 j v = (if ¬ y = -1 ∧ (j : Int) = outs then some (lv, rs, outs + 1) else none) by unfold learnF; simp only [Int.toNat_natCast, hgx, hgy]; simp)
  have hwr : IntKind.i64.wrap (x + 1) = x + 1 := IntWalk.i64_in _ (by omega)
  have hji : (0 : Int) ≤ (j : Int) := by omega
  have hjl : (j : Int) < (lv.length : Int) := by omega
  have hgl := (hD.ol.lt gl rfl).2
  have hgr := (hD.or_.lt gr rfl).2
  have hbb := hD.at_.1
  have n1 : ¬ w.heap.size = gl := by omega
  have n2 : ¬ w.heap.size = gr := by omega
  have n3 : ¬ gl = w.heap.size := by omega
  have n4 : ¬ gr = w.heap.size := by omega
  have n5 := hD.lr
  have n6 := hD.bl
  have n7 := hD.br
  have bx : Below w.heap.size w (w.alloc (.cells #[.int .i64 3, .int .i64 j, .int .i64 v] 121)) := (Below.refl _ _).alloc (Nat.le_refl _) _
  have DX := Lib.hid (hD.below bx)
  have RX := Lib.hid (rec3At_new w 3 j v)
  have FX := Lib.hid (FrD.of_below (o := o) (gl := gl) (gr := gr) bx hbb)
  clear hx1 hxb hx hy hgx hgy hD bx
  by_cases hy1 : y = -1
  · skip
    have ty : (y != (-1 : Int)) = false := by simp [hy1]
    have HY1 := Lib.hid hy1
    clear hy1
    go_enter Try.func131, Try.ntmps131
    go_upto_region 1 with (fail)
    generalize w.alloc (.cells #[.int .i64 3, .int .i64 j, .int .i64 v] 121) = w0 at DX RX FX ⊢
    have D := DX.out
    obtain ⟨p0, p1, p2⟩ := RX.out.2
    obtain ⟨zb, a0, a1, a2, af⟩ := D.at_
    have gl0 := D.ol.cell hj
    have gr0 := D.or_.cell (i := j) hjr
    rw [HX.out] at gl0
    rw [HY.out] at gr0
    have k0 := fun d os => cell_regrown a0 d os
    have k1 := fun d os => cell_regrown a1 d os
    have k2 := fun d os => cell_regrown a2 d os
    have k3 := fun d os => cell_regrown p0 d os
    have k4 := fun d os => cell_regrown p1 d os
    have k5 := fun d os => cell_regrown p2 d os
    have k6 := fun d os => cell_regrown gl0 d os
    have k7 := fun d os => cell_regrown gr0 d os
    clear D a0 a1 a2 af gl0 gr0 p0 p1 p2 zb
    refine wp_region_quiet_below (by kernel_rfl) (by kernel_rfl) ?_
    repeat (first | go_big_quiet_skip | quiet_step (fail))
    refine wpQuiet_nil ?_
    intro _ hw'
    obtain ⟨⟨dq, osq⟩, hw''⟩ := hw'
    subst hw''
    have bq := below_regrown w0 dq osq
    generalize grow (redrawn w0 dq) osq = w1 at bq ⊢
    clear k0 k1 k2 k3 k4 k5 k6 k7
    have DX := Lib.hid (DX.out.below bq)
    have RX := Lib.hid (RX.out.below bq)
    have FX := Lib.hid (FX.out.then_below bq)
    clear bq
    obtain ⟨p0, p1, p2⟩ := RX.out.2
    go_wp2
    clear p0 p1 p2
    have D := DX.out
    obtain ⟨p0, p1, p2⟩ := RX.out.2
    obtain ⟨zb, a0, a1, a2, af⟩ := D.at_
    have gl0 := D.ol.cell hj
    have gr0 := D.or_.cell (i := j) hjr
    rw [HX.out] at gl0
    rw [HY.out] at gr0
    have k0 := fun d os => cell_regrown a0 d os
    have k1 := fun d os => cell_regrown a1 d os
    have k2 := fun d os => cell_regrown a2 d os
    have k3 := fun d os => cell_regrown p0 d os
    have k4 := fun d os => cell_regrown p1 d os
    have k5 := fun d os => cell_regrown p2 d os
    have k6 := fun d os => cell_regrown gl0 d os
    have k7 := fun d os => cell_regrown gr0 d os
    clear D a0 a1 a2 af gl0 gr0 p0 p1 p2 zb
    refine wp_region_quiet_below (by kernel_rfl) (by kernel_rfl) ?_
    repeat (first | go_big_quiet_skip | quiet_step (fail))
    refine wpQuiet_nil ?_
    intro _ hw'
    obtain ⟨⟨dq, osq⟩, hw''⟩ := hw'
    subst hw''
    have bq := below_regrown w1 dq osq
    generalize grow (redrawn w1 dq) osq = w2 at bq ⊢
    clear k0 k1 k2 k3 k4 k5 k6 k7
    have DX := Lib.hid (DX.out.below bq)
    have RX := Lib.hid (RX.out.below bq)
    have FX := Lib.hid (FX.out.then_below bq)
    clear bq
    have hN := HF.out
    rw [if_neg (fun h => h.1 HY1.out)] at hN
    have HN := Lib.hid hN
    clear hN
    go_wp2
    go_ret
    exact LearnP.no HN.out DX.out FX.out
  · by_cases hjo : (j : Int) = outs
    · skip
      have tj : ((j : Int) != outs) = false := by simp [hjo]
      have HJO := Lib.hid hjo
      clear hjo
      have ty : (y != (-1 : Int)) = true := by simp [hy1]
      have HY1 := Lib.hid hy1
      clear hy1
      go_enter Try.func131, Try.ntmps131
      go_upto_region 1 with (fail)
      generalize w.alloc (.cells #[.int .i64 3, .int .i64 j, .int .i64 v] 121) = w0 at DX RX FX ⊢
      have D := DX.out
      obtain ⟨p0, p1, p2⟩ := RX.out.2
      obtain ⟨zb, a0, a1, a2, af⟩ := D.at_
      have gl0 := D.ol.cell hj
      have gr0 := D.or_.cell (i := j) hjr
      rw [HX.out] at gl0
      rw [HY.out] at gr0
      have k0 := fun d os => cell_regrown a0 d os
      have k1 := fun d os => cell_regrown a1 d os
      have k2 := fun d os => cell_regrown a2 d os
      have k3 := fun d os => cell_regrown p0 d os
      have k4 := fun d os => cell_regrown p1 d os
      have k5 := fun d os => cell_regrown p2 d os
      have k6 := fun d os => cell_regrown gl0 d os
      have k7 := fun d os => cell_regrown gr0 d os
      clear D a0 a1 a2 af gl0 gr0 p0 p1 p2 zb
      refine wp_region_quiet_below (by kernel_rfl) (by kernel_rfl) ?_
      repeat (first | go_big_quiet_skip | quiet_step (fail))
      refine wpQuiet_nil ?_
      intro _ hw'
      obtain ⟨⟨dq, osq⟩, hw''⟩ := hw'
      subst hw''
      have bq := below_regrown w0 dq osq
      generalize grow (redrawn w0 dq) osq = w1 at bq ⊢
      clear k0 k1 k2 k3 k4 k5 k6 k7
      have DX := Lib.hid (DX.out.below bq)
      have RX := Lib.hid (RX.out.below bq)
      have FX := Lib.hid (FX.out.then_below bq)
      clear bq
      obtain ⟨p0, p1, p2⟩ := RX.out.2
      go_wp2
      clear p0 p1 p2
      have D := DX.out
      obtain ⟨p0, p1, p2⟩ := RX.out.2
      obtain ⟨zb, a0, a1, a2, af⟩ := D.at_
      have gl0 := D.ol.cell hj
      have gr0 := D.or_.cell (i := j) hjr
      rw [HX.out] at gl0
      rw [HY.out] at gr0
      have k0 := fun d os => cell_regrown a0 d os
      have k1 := fun d os => cell_regrown a1 d os
      have k2 := fun d os => cell_regrown a2 d os
      have k3 := fun d os => cell_regrown p0 d os
      have k4 := fun d os => cell_regrown p1 d os
      have k5 := fun d os => cell_regrown p2 d os
      have k6 := fun d os => cell_regrown gl0 d os
      have k7 := fun d os => cell_regrown gr0 d os
      clear D a0 a1 a2 af gl0 gr0 p0 p1 p2 zb
      refine wp_region_quiet_below (by kernel_rfl) (by kernel_rfl) ?_
      repeat (first | go_big_quiet_skip | quiet_step (fail))
      refine wpQuiet_nil ?_
      intro _ hw'
      obtain ⟨⟨dq, osq⟩, hw''⟩ := hw'
      subst hw''
      have bq := below_regrown w1 dq osq
      generalize grow (redrawn w1 dq) osq = w2 at bq ⊢
      clear k0 k1 k2 k3 k4 k5 k6 k7
      have DX := Lib.hid (DX.out.below bq)
      have RX := Lib.hid (RX.out.below bq)
      have FX := Lib.hid (FX.out.then_below bq)
      clear bq
      obtain ⟨zb, a0, a1, a2, af⟩ := DX.out.at_
      have hN := HF.out
      rw [if_pos ⟨HY1.out, HJO.out⟩] at hN
      have HN := Lib.hid hN
      clear hN
      go_wp2
      go_ret
      exact LearnP.yes HN.out (DX.out.setO (outs + 1)) (FX.out.setO _)
    · skip
      have tj : ((j : Int) != outs) = true := by simp [hjo]
      have HJO := Lib.hid hjo
      clear hjo
      have ty : (y != (-1 : Int)) = true := by simp [hy1]
      have HY1 := Lib.hid hy1
      clear hy1
      go_enter Try.func131, Try.ntmps131
      go_upto_region 1 with (fail)
      generalize w.alloc (.cells #[.int .i64 3, .int .i64 j, .int .i64 v] 121) = w0 at DX RX FX ⊢
      have D := DX.out
      obtain ⟨p0, p1, p2⟩ := RX.out.2
      obtain ⟨zb, a0, a1, a2, af⟩ := D.at_
      have gl0 := D.ol.cell hj
      have gr0 := D.or_.cell (i := j) hjr
      rw [HX.out] at gl0
      rw [HY.out] at gr0
      have k0 := fun d os => cell_regrown a0 d os
      have k1 := fun d os => cell_regrown a1 d os
      have k2 := fun d os => cell_regrown a2 d os
      have k3 := fun d os => cell_regrown p0 d os
      have k4 := fun d os => cell_regrown p1 d os
      have k5 := fun d os => cell_regrown p2 d os
      have k6 := fun d os => cell_regrown gl0 d os
      have k7 := fun d os => cell_regrown gr0 d os
      clear D a0 a1 a2 af gl0 gr0 p0 p1 p2 zb
      refine wp_region_quiet_below (by kernel_rfl) (by kernel_rfl) ?_
      repeat (first | go_big_quiet_skip | quiet_step (fail))
      refine wpQuiet_nil ?_
      intro _ hw'
      obtain ⟨⟨dq, osq⟩, hw''⟩ := hw'
      subst hw''
      have bq := below_regrown w0 dq osq
      generalize grow (redrawn w0 dq) osq = w1 at bq ⊢
      clear k0 k1 k2 k3 k4 k5 k6 k7
      have DX := Lib.hid (DX.out.below bq)
      have RX := Lib.hid (RX.out.below bq)
      have FX := Lib.hid (FX.out.then_below bq)
      clear bq
      obtain ⟨p0, p1, p2⟩ := RX.out.2
      go_wp2
      clear p0 p1 p2
      have D := DX.out
      obtain ⟨p0, p1, p2⟩ := RX.out.2
      obtain ⟨zb, a0, a1, a2, af⟩ := D.at_
      have gl0 := D.ol.cell hj
      have gr0 := D.or_.cell (i := j) hjr
      rw [HX.out] at gl0
      rw [HY.out] at gr0
      have k0 := fun d os => cell_regrown a0 d os
      have k1 := fun d os => cell_regrown a1 d os
      have k2 := fun d os => cell_regrown a2 d os
      have k3 := fun d os => cell_regrown p0 d os
      have k4 := fun d os => cell_regrown p1 d os
      have k5 := fun d os => cell_regrown p2 d os
      have k6 := fun d os => cell_regrown gl0 d os
      have k7 := fun d os => cell_regrown gr0 d os
      clear D a0 a1 a2 af gl0 gr0 p0 p1 p2 zb
      refine wp_region_quiet_below (by kernel_rfl) (by kernel_rfl) ?_
      repeat (first | go_big_quiet_skip | quiet_step (fail))
      refine wpQuiet_nil ?_
      intro _ hw'
      obtain ⟨⟨dq, osq⟩, hw''⟩ := hw'
      subst hw''
      have bq := below_regrown w1 dq osq
      generalize grow (redrawn w1 dq) osq = w2 at bq ⊢
      clear k0 k1 k2 k3 k4 k5 k6 k7
      have DX := Lib.hid (DX.out.below bq)
      have RX := Lib.hid (RX.out.below bq)
      have FX := Lib.hid (FX.out.then_below bq)
      clear bq
      have hN := HF.out
      rw [if_neg (fun h => HJO.out h.2)] at hN
      have HN := Lib.hid hN
      clear hN
      go_wp2
      go_ret
      exact LearnP.no HN.out DX.out FX.out
theorem learn_any {base b o gl cl gr cr j : Nat} {lv rs : List Int} (k outs v : Int) (w : World) (hk : k = 1 ∨ k = 2 ∨ k = 3) (hD : DeskIs w base b o gl cl gr cr lv rs outs) (hj : j < lv.length) (hn : lv.length ≤ 1000000)
    (hx1 : ∀ x ∈ lv, -1000000000 ≤ x ∧ x ≤ 1000000000) (ho1 : 0 ≤ outs) (ho2 : outs ≤ 1000000000) :
    Calls Try.prog 131 #[.pointer (some ⟨b, o, none⟩), .agg #[.int .i64 k, .int .i64 j, .int .i64 v]] w (LearnP w base b o gl cl gr cr lv rs outs k j v) := by
  rcases hk with rfl | rfl | rfl
  · exact learn_1 outs v w hD hj hn hx1 ho1 ho2
  · exact learn_2 outs v w hD hj hn hx1 ho1 ho2
  · exact learn_3 outs v w hD hj hn hx1 ho1 ho2
end Go.Proofs.Ytijpkcdalmlaiaa
