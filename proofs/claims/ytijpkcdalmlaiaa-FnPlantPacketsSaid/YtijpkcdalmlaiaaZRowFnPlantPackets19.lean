/-
  ReadJournal, the reference's. With it: The reference's learn.
-/
import Derived.Test.YtijpkcdalmlaiaaZRowFnPlantPackets17
import Derived.Deep.DeepCutAuto
set_option linter.unusedVariables false
set_option linter.unusedSimpArgs false
namespace Go.Proofs.Ytijpkcdalmlaiaa
open Go.RowKit Go.Sort
set_option maxHeartbeats 8000000 in
theorem l09Learn_1 {base b o gl cl gr cr j : Nat} {lv rs : List Int} (outs v : Int) (w : World) (hD : DeskIs w base b o gl cl gr cr lv rs outs) (hj : j < lv.length) (hn : lv.length ≤ 1000000)
    (hx1 : ∀ x ∈ lv, -1000000000 ≤ x ∧ x ≤ 1000000000) (ho1 : 0 ≤ outs) (ho2 : outs ≤ 1000000000) :
    Calls Try.prog 132 #[.pointer (some ⟨b, o, none⟩), .agg #[.int .i64 1, .int .i64 j, .int .i64 v]] w (LearnP w base b o gl cl gr cr lv rs outs 1 j v) := by
  obtain ⟨x, hx⟩ : ∃ x, lv[j]'hj = x := ⟨_, rfl⟩
  have hjr : j < rs.length := by rw [hD.len]; exact hj
  obtain ⟨y, hy⟩ : ∃ y, rs[j]'hjr = y := ⟨_, rfl⟩
  have hxb := hx1 _ (List.getElem_mem hj)
  rw [hx] at hxb
  have hxl : -1000000000 ≤ x := hxb.1
  have hxu : x ≤ 1000000000 := hxb.2
  have hgx : lv.getD j 0 = x := by rw [← hx]; simp [hj]
  have hgy : rs.getD j 0 = y := by rw [← hy]; simp [hjr]
  have HX := Lib.hid hx
  have HY := Lib.hid hy
  have HF := Lib.hid (show learnF lv rs outs 1 j v = (if y = -1 ∧ v = x + 1 then some (lv.set j v, if v = 7 then rs.set j (-2) else rs, outs) else none) by unfold learnF; simp only [Int.toNat_natCast, hgx, hgy]; simp)
  have hwr : IntKind.i64.wrap (x + 1) = x + 1 := IntWalk.i64_in _ (by omega)
  have hji : (0 : Int) ≤ (j : Int) := by omega
  have hjl : (j : Int) < (lv.length : Int) := by omega
  have hgl := (hD.ol.lt gl rfl).2
  have hgr := (hD.or_.lt gr rfl).2
  have hbb := hD.at_.1
  have n1 : ¬ w.heap.size = gl := by omega
  have n2 : ¬ w.heap.size = gr := by omega
  have n3 : ¬ gl = w.heap.size := by omega
  have n4 : ¬ gr = w.heap.size := by omega
  have n5 := hD.lr
  have n6 := hD.bl
  have n7 := hD.br
  have bx : Below w.heap.size w (w.alloc (.cells #[.int .i64 1, .int .i64 j, .int .i64 v] 121)) := (Below.refl _ _).alloc (Nat.le_refl _) _
  have DX := Lib.hid (hD.below bx)
  have RX := Lib.hid (rec3At_new w 1 j v)
  have FX := Lib.hid (FrD.of_below (o := o) (gl := gl) (gr := gr) bx hbb)
  clear hx1 hxb hx hy hgx hgy hD bx
  by_cases hy1 : y = -1
  · by_cases hv1 : v = x + 1
    · by_cases hv7 : v = 7
      · skip
        have ty : (y != (-1 : Int)) = false := by simp [hy1]
        have te : (y == (-1 : Int)) = true := by simp [hy1]
        have HY1 := Lib.hid hy1
        clear hy1
        have tv : (v != x + 1) = false := by simp [hv1]
        have HV1 := Lib.hid hv1
        clear hv1
        have t7 : (v == (7 : Int)) = true := by simp [hv7]
        have HV7 := Lib.hid hv7
        clear hv7
        go_enter Try.func132, Try.ntmps132
        go_upto_region 6 with (fail)
        generalize w.alloc (.cells #[.int .i64 1, .int .i64 j, .int .i64 v] 121) = w0 at DX RX FX ⊢
        have D := DX.out
        obtain ⟨p0, p1, p2⟩ := RX.out.2
        obtain ⟨zb, a0, a1, a2, af⟩ := D.at_
        have gl0 := D.ol.cell hj
        have gr0 := D.or_.cell (i := j) hjr
        rw [HX.out] at gl0
        rw [HY.out] at gr0
        have k0 := fun d os => cell_regrown a0 d os
        have k1 := fun d os => cell_regrown a1 d os
        have k2 := fun d os => cell_regrown a2 d os
        have k3 := fun d os => cell_regrown p0 d os
        have k4 := fun d os => cell_regrown p1 d os
        have k5 := fun d os => cell_regrown p2 d os
        have k6 := fun d os => cell_regrown gl0 d os
        have k7 := fun d os => cell_regrown gr0 d os
        clear D a0 a1 a2 af gl0 gr0 p0 p1 p2 zb
        refine wp_region_quiet_below (by kernel_rfl) (by kernel_rfl) ?_
        repeat (first | go_big_quiet_skip | quiet_step (fail))
        refine wpQuiet_nil ?_
        intro _ hw'
        obtain ⟨⟨dq, osq⟩, hw''⟩ := hw'
        subst hw''
        have bq := below_regrown w0 dq osq
        generalize grow (redrawn w0 dq) osq = w1 at bq ⊢
        clear k0 k1 k2 k3 k4 k5 k6 k7
        have DX := Lib.hid (DX.out.below bq)
        have RX := Lib.hid (RX.out.below bq)
        have FX := Lib.hid (FX.out.then_below bq)
        clear bq
        go_wp2_with fail
        have D := DX.out
        obtain ⟨p0, p1, p2⟩ := RX.out.2
        obtain ⟨zb, a0, a1, a2, af⟩ := D.at_
        have gl0 := D.ol.cell hj
        have gr0 := D.or_.cell (i := j) hjr
        rw [HX.out] at gl0
        rw [HY.out] at gr0
        have k0 := fun d os => cell_regrown a0 d os
        have k1 := fun d os => cell_regrown a1 d os
        have k2 := fun d os => cell_regrown a2 d os
        have k3 := fun d os => cell_regrown p0 d os
        have k4 := fun d os => cell_regrown p1 d os
        have k5 := fun d os => cell_regrown p2 d os
        have k6 := fun d os => cell_regrown gl0 d os
        have k7 := fun d os => cell_regrown gr0 d os
        clear D a0 a1 a2 af gl0 gr0 p0 p1 p2 zb
        refine wp_region_below_tail 9 (by kernel_rfl) (by kernel_rfl) ?_
        simp only [List.take_succ_cons, List.take_zero, List.drop_succ_cons, List.drop_zero]
        repeat (first | go_big_quiet_skip | quiet_step (fail))
        refine wpQuiet_nil ?_
        intro _ hw'
        obtain ⟨⟨dq, osq⟩, hw''⟩ := hw'
        subst hw''
        have bq := below_regrown w1 dq osq
        generalize grow (redrawn w1 dq) osq = w3 at bq ⊢
        clear k0 k1 k2 k3 k4 k5 k6 k7
        have DX := Lib.hid (DX.out.below bq)
        have RX := Lib.hid (RX.out.below bq)
        have FX := Lib.hid (FX.out.then_below bq)
        have gl0 := DX.out.ol.cell hj
        have gr0 := DX.out.or_.cell (i := j) hjr
        have gf := DX.out.ol.free j
        have gg := DX.out.or_.free j
        clear bq
        obtain ⟨p0, p1, p2⟩ := RX.out.2
        go_wp2
        generalize hW4 : w3.setCell ⟨gl, j, none⟩ (.int .i64 v) = w4
        have DX := Lib.hid (show DeskIs w4 base b o gl cl gr cr (lv.set j v) rs outs by rw [← hW4]; exact DX.out.setL j v)
        have RX := Lib.hid (show Rec3At w4 w.heap.size 1 j v by rw [← hW4]; exact RX.out.far n1 _)
        have FX := Lib.hid (show FrD b o gl gr w w4 by rw [← hW4]; exact FX.out.setF (.inl rfl) DX.out.bl j _)
        clear hW4 p0 p1 p2 gl0 gr0 gf gg
        have D := DX.out
        obtain ⟨p0, p1, p2⟩ := RX.out.2
        obtain ⟨zb, a0, a1, a2, af⟩ := D.at_
        rw [List.length_set] at a0 a1
        have gl0 := D.ol.cell (i := j) (by rw [List.length_set]; exact hj)
        have gr0 := D.or_.cell (i := j) hjr
        rw [HY.out] at gr0
        have k0 := fun d os => cell_regrown a0 d os
        have k1 := fun d os => cell_regrown a1 d os
        have k2 := fun d os => cell_regrown a2 d os
        have k3 := fun d os => cell_regrown p0 d os
        have k4 := fun d os => cell_regrown p1 d os
        have k5 := fun d os => cell_regrown p2 d os
        have k6 := fun d os => cell_regrown gl0 d os
        have k7 := fun d os => cell_regrown gr0 d os
        clear D a0 a1 a2 af gl0 gr0 p0 p1 p2 zb
        refine wp_region_below_tail 7 (by kernel_rfl) (by kernel_rfl) ?_
        simp only [List.take_succ_cons, List.take_zero, List.drop_succ_cons, List.drop_zero]
        repeat (first | go_big_quiet_skip | quiet_step (fail))
        refine wpQuiet_nil ?_
        intro _ hw'
        obtain ⟨⟨dq, osq⟩, hw''⟩ := hw'
        subst hw''
        have bq := below_regrown w4 dq osq
        generalize grow (redrawn w4 dq) osq = w5 at bq ⊢
        clear k0 k1 k2 k3 k4 k5 k6 k7
        have DX := Lib.hid (DX.out.below bq)
        have RX := Lib.hid (RX.out.below bq)
        have FX := Lib.hid (FX.out.then_below bq)
        have gl0 := DX.out.ol.cell (i := j) (by rw [List.length_set]; exact hj)
        have gr0 := DX.out.or_.cell (i := j) hjr
        have gf := DX.out.ol.free j
        have gg := DX.out.or_.free j
        clear bq
        have hN := HF.out
        rw [if_pos ⟨HY1.out, HV1.out⟩, if_pos HV7.out] at hN
        have HN := Lib.hid hN
        clear hN
        go_wp2
        go_ret
        exact LearnP.yes HN.out (DX.out.setR j (-2)) (FX.out.setF (.inr rfl) DX.out.br j _)
      · skip
        have ty : (y != (-1 : Int)) = false := by simp [hy1]
        have te : (y == (-1 : Int)) = true := by simp [hy1]
        have HY1 := Lib.hid hy1
        clear hy1
        have tv : (v != x + 1) = false := by simp [hv1]
        have HV1 := Lib.hid hv1
        clear hv1
        have t7 : (v == (7 : Int)) = false := by simp [hv7]
        have HV7 := Lib.hid hv7
        clear hv7
        go_enter Try.func132, Try.ntmps132
        go_upto_region 6 with (fail)
        generalize w.alloc (.cells #[.int .i64 1, .int .i64 j, .int .i64 v] 121) = w0 at DX RX FX ⊢
        have D := DX.out
        obtain ⟨p0, p1, p2⟩ := RX.out.2
        obtain ⟨zb, a0, a1, a2, af⟩ := D.at_
        have gl0 := D.ol.cell hj
        have gr0 := D.or_.cell (i := j) hjr
        rw [HX.out] at gl0
        rw [HY.out] at gr0
        have k0 := fun d os => cell_regrown a0 d os
        have k1 := fun d os => cell_regrown a1 d os
        have k2 := fun d os => cell_regrown a2 d os
        have k3 := fun d os => cell_regrown p0 d os
        have k4 := fun d os => cell_regrown p1 d os
        have k5 := fun d os => cell_regrown p2 d os
        have k6 := fun d os => cell_regrown gl0 d os
        have k7 := fun d os => cell_regrown gr0 d os
        clear D a0 a1 a2 af gl0 gr0 p0 p1 p2 zb
        refine wp_region_quiet_below (by kernel_rfl) (by kernel_rfl) ?_
        repeat (first | go_big_quiet_skip | quiet_step (fail))
        refine wpQuiet_nil ?_
        intro _ hw'
        obtain ⟨⟨dq, osq⟩, hw''⟩ := hw'
        subst hw''
        have bq := below_regrown w0 dq osq
        generalize grow (redrawn w0 dq) osq = w1 at bq ⊢
        clear k0 k1 k2 k3 k4 k5 k6 k7
        have DX := Lib.hid (DX.out.below bq)
        have RX := Lib.hid (RX.out.below bq)
        have FX := Lib.hid (FX.out.then_below bq)
        clear bq
        go_wp2_with fail
        have D := DX.out
        obtain ⟨p0, p1, p2⟩ := RX.out.2
        obtain ⟨zb, a0, a1, a2, af⟩ := D.at_
        have gl0 := D.ol.cell hj
        have gr0 := D.or_.cell (i := j) hjr
        rw [HX.out] at gl0
        rw [HY.out] at gr0
        have k0 := fun d os => cell_regrown a0 d os
        have k1 := fun d os => cell_regrown a1 d os
        have k2 := fun d os => cell_regrown a2 d os
        have k3 := fun d os => cell_regrown p0 d os
        have k4 := fun d os => cell_regrown p1 d os
        have k5 := fun d os => cell_regrown p2 d os
        have k6 := fun d os => cell_regrown gl0 d os
        have k7 := fun d os => cell_regrown gr0 d os
        clear D a0 a1 a2 af gl0 gr0 p0 p1 p2 zb
        refine wp_region_below_tail 9 (by kernel_rfl) (by kernel_rfl) ?_
        simp only [List.take_succ_cons, List.take_zero, List.drop_succ_cons, List.drop_zero]
        repeat (first | go_big_quiet_skip | quiet_step (fail))
        refine wpQuiet_nil ?_
        intro _ hw'
        obtain ⟨⟨dq, osq⟩, hw''⟩ := hw'
        subst hw''
        have bq := below_regrown w1 dq osq
        generalize grow (redrawn w1 dq) osq = w3 at bq ⊢
        clear k0 k1 k2 k3 k4 k5 k6 k7
        have DX := Lib.hid (DX.out.below bq)
        have RX := Lib.hid (RX.out.below bq)
        have FX := Lib.hid (FX.out.then_below bq)
        have gl0 := DX.out.ol.cell hj
        have gr0 := DX.out.or_.cell (i := j) hjr
        have gf := DX.out.ol.free j
        have gg := DX.out.or_.free j
        clear bq
        obtain ⟨p0, p1, p2⟩ := RX.out.2
        have hN := HF.out
        rw [if_pos ⟨HY1.out, HV1.out⟩, if_neg HV7.out] at hN
        have HN := Lib.hid hN
        clear hN
        go_wp2
        go_ret
        exact LearnP.yes HN.out (DX.out.setL j v) (FX.out.setF (.inl rfl) DX.out.bl j _)
    · skip
      have ty : (y != (-1 : Int)) = false := by simp [hy1]
      have te : (y == (-1 : Int)) = true := by simp [hy1]
      have HY1 := Lib.hid hy1
      clear hy1
      have tv : (v != x + 1) = true := by simp [hv1]
      have HV1 := Lib.hid hv1
      clear hv1
      go_enter Try.func132, Try.ntmps132
      go_upto_region 6 with (fail)
      generalize w.alloc (.cells #[.int .i64 1, .int .i64 j, .int .i64 v] 121) = w0 at DX RX FX ⊢
      have D := DX.out
      obtain ⟨p0, p1, p2⟩ := RX.out.2
      obtain ⟨zb, a0, a1, a2, af⟩ := D.at_
      have gl0 := D.ol.cell hj
      have gr0 := D.or_.cell (i := j) hjr
      rw [HX.out] at gl0
      rw [HY.out] at gr0
      have k0 := fun d os => cell_regrown a0 d os
      have k1 := fun d os => cell_regrown a1 d os
      have k2 := fun d os => cell_regrown a2 d os
      have k3 := fun d os => cell_regrown p0 d os
      have k4 := fun d os => cell_regrown p1 d os
      have k5 := fun d os => cell_regrown p2 d os
      have k6 := fun d os => cell_regrown gl0 d os
      have k7 := fun d os => cell_regrown gr0 d os
      clear D a0 a1 a2 af gl0 gr0 p0 p1 p2 zb
      refine wp_region_quiet_below (by kernel_rfl) (by kernel_rfl) ?_
      repeat (first | go_big_quiet_skip | quiet_step (fail))
      refine wpQuiet_nil ?_
      intro _ hw'
      obtain ⟨⟨dq, osq⟩, hw''⟩ := hw'
      subst hw''
      have bq := below_regrown w0 dq osq
      generalize grow (redrawn w0 dq) osq = w1 at bq ⊢
      clear k0 k1 k2 k3 k4 k5 k6 k7
      have DX := Lib.hid (DX.out.below bq)
      have RX := Lib.hid (RX.out.below bq)
      have FX := Lib.hid (FX.out.then_below bq)
      clear bq
      have hN := HF.out
      rw [if_neg (fun h => HV1.out h.2)] at hN
      have HN := Lib.hid hN
      clear hN
      go_wp2
      go_ret
      exact LearnP.no HN.out DX.out FX.out
  · skip
    have ty : (y != (-1 : Int)) = true := by simp [hy1]
    have te : (y == (-1 : Int)) = false := by simp [hy1]
    have HY1 := Lib.hid hy1
    clear hy1
    go_enter Try.func132, Try.ntmps132
    go_upto_region 6 with (fail)
    generalize w.alloc (.cells #[.int .i64 1, .int .i64 j, .int .i64 v] 121) = w0 at DX RX FX ⊢
    have D := DX.out
    obtain ⟨p0, p1, p2⟩ := RX.out.2
    obtain ⟨zb, a0, a1, a2, af⟩ := D.at_
    have gl0 := D.ol.cell hj
    have gr0 := D.or_.cell (i := j) hjr
    rw [HX.out] at gl0
    rw [HY.out] at gr0
    have k0 := fun d os => cell_regrown a0 d os
    have k1 := fun d os => cell_regrown a1 d os
    have k2 := fun d os => cell_regrown a2 d os
    have k3 := fun d os => cell_regrown p0 d os
    have k4 := fun d os => cell_regrown p1 d os
    have k5 := fun d os => cell_regrown p2 d os
    have k6 := fun d os => cell_regrown gl0 d os
    have k7 := fun d os => cell_regrown gr0 d os
    clear D a0 a1 a2 af gl0 gr0 p0 p1 p2 zb
    refine wp_region_quiet_below (by kernel_rfl) (by kernel_rfl) ?_
    repeat (first | go_big_quiet_skip | quiet_step (fail))
    refine wpQuiet_nil ?_
    intro _ hw'
    obtain ⟨⟨dq, osq⟩, hw''⟩ := hw'
    subst hw''
    have bq := below_regrown w0 dq osq
    generalize grow (redrawn w0 dq) osq = w1 at bq ⊢
    clear k0 k1 k2 k3 k4 k5 k6 k7
    have DX := Lib.hid (DX.out.below bq)
    have RX := Lib.hid (RX.out.below bq)
    have FX := Lib.hid (FX.out.then_below bq)
    clear bq
    have hN := HF.out
    rw [if_neg (fun h => HY1.out h.1)] at hN
    have HN := Lib.hid hN
    clear hN
    go_wp2
    go_ret
    exact LearnP.no HN.out DX.out FX.out
set_option maxHeartbeats 8000000 in
theorem l09Learn_2 {base b o gl cl gr cr j : Nat} {lv rs : List Int} (outs v : Int) (w : World) (hD : DeskIs w base b o gl cl gr cr lv rs outs) (hj : j < lv.length) (hn : lv.length ≤ 1000000)
    (hx1 : ∀ x ∈ lv, -1000000000 ≤ x ∧ x ≤ 1000000000) (ho1 : 0 ≤ outs) (ho2 : outs ≤ 1000000000) :
    Calls Try.prog 132 #[.pointer (some ⟨b, o, none⟩), .agg #[.int .i64 2, .int .i64 j, .int .i64 v]] w (LearnP w base b o gl cl gr cr lv rs outs 2 j v) := by
  obtain ⟨x, hx⟩ : ∃ x, lv[j]'hj = x := ⟨_, rfl⟩
  have hjr : j < rs.length := by rw [hD.len]; exact hj
  obtain ⟨y, hy⟩ : ∃ y, rs[j]'hjr = y := ⟨_, rfl⟩
  have hxb := hx1 _ (List.getElem_mem hj)
  rw [hx] at hxb
  have hxl : -1000000000 ≤ x := hxb.1
  have hxu : x ≤ 1000000000 := hxb.2
  have hgx : lv.getD j 0 = x := by rw [← hx]; simp [hj]
  have hgy : rs.getD j 0 = y := by rw [← hy]; simp [hjr]
  have HX := Lib.hid hx
  have HY := Lib.hid hy
  have HF := Lib.hid (show learnF lv rs outs 2 j v = (if y = -1 then some (lv, rs.set j v, outs) else none) by unfold learnF; simp only [Int.toNat_natCast, hgx, hgy]; simp)
  have hwr : IntKind.i64.wrap (x + 1) = x + 1 := IntWalk.i64_in _ (by omega)
  have hji : (0 : Int) ≤ (j : Int) := by omega
  have hjl : (j : Int) < (lv.length : Int) := by omega
  have hgl := (hD.ol.lt gl rfl).2
  have hgr := (hD.or_.lt gr rfl).2
  have hbb := hD.at_.1
  have n1 : ¬ w.heap.size = gl := by omega
  have n2 : ¬ w.heap.size = gr := by omega
  have n3 : ¬ gl = w.heap.size := by omega
  have n4 : ¬ gr = w.heap.size := by omega
  have n5 := hD.lr
  have n6 := hD.bl
  have n7 := hD.br
  have bx : Below w.heap.size w (w.alloc (.cells #[.int .i64 2, .int .i64 j, .int .i64 v] 121)) := (Below.refl _ _).alloc (Nat.le_refl _) _
  have DX := Lib.hid (hD.below bx)
  have RX := Lib.hid (rec3At_new w 2 j v)
  have FX := Lib.hid (FrD.of_below (o := o) (gl := gl) (gr := gr) bx hbb)
  clear hx1 hxb hx hy hgx hgy hD bx
  by_cases hy1 : y = -1
  · skip
    have ty : (y != (-1 : Int)) = false := by simp [hy1]
    have te : (y == (-1 : Int)) = true := by simp [hy1]
    have HY1 := Lib.hid hy1
    clear hy1
    go_enter Try.func132, Try.ntmps132
    go_upto_region 12 with (fail)
    generalize w.alloc (.cells #[.int .i64 2, .int .i64 j, .int .i64 v] 121) = w0 at DX RX FX ⊢
    have D := DX.out
    obtain ⟨p0, p1, p2⟩ := RX.out.2
    obtain ⟨zb, a0, a1, a2, af⟩ := D.at_
    have gl0 := D.ol.cell hj
    have gr0 := D.or_.cell (i := j) hjr
    rw [HX.out] at gl0
    rw [HY.out] at gr0
    have k0 := fun d os => cell_regrown a0 d os
    have k1 := fun d os => cell_regrown a1 d os
    have k2 := fun d os => cell_regrown a2 d os
    have k3 := fun d os => cell_regrown p0 d os
    have k4 := fun d os => cell_regrown p1 d os
    have k5 := fun d os => cell_regrown p2 d os
    have k6 := fun d os => cell_regrown gl0 d os
    have k7 := fun d os => cell_regrown gr0 d os
    clear D a0 a1 a2 af gl0 gr0 p0 p1 p2 zb
    refine wp_region_quiet_below (by kernel_rfl) (by kernel_rfl) ?_
    repeat (first | go_big_quiet_skip | quiet_step (fail))
    refine wpQuiet_nil ?_
    intro _ hw'
    obtain ⟨⟨dq, osq⟩, hw''⟩ := hw'
    subst hw''
    have bq := below_regrown w0 dq osq
    generalize grow (redrawn w0 dq) osq = w1 at bq ⊢
    clear k0 k1 k2 k3 k4 k5 k6 k7
    have DX := Lib.hid (DX.out.below bq)
    have RX := Lib.hid (RX.out.below bq)
    have FX := Lib.hid (FX.out.then_below bq)
    clear bq
    go_wp2_with fail
    have D := DX.out
    obtain ⟨p0, p1, p2⟩ := RX.out.2
    obtain ⟨zb, a0, a1, a2, af⟩ := D.at_
    have gl0 := D.ol.cell hj
    have gr0 := D.or_.cell (i := j) hjr
    rw [HX.out] at gl0
    rw [HY.out] at gr0
    have k0 := fun d os => cell_regrown a0 d os
    have k1 := fun d os => cell_regrown a1 d os
    have k2 := fun d os => cell_regrown a2 d os
    have k3 := fun d os => cell_regrown p0 d os
    have k4 := fun d os => cell_regrown p1 d os
    have k5 := fun d os => cell_regrown p2 d os
    have k6 := fun d os => cell_regrown gl0 d os
    have k7 := fun d os => cell_regrown gr0 d os
    clear D a0 a1 a2 af gl0 gr0 p0 p1 p2 zb
    refine wp_region_below_tail 9 (by kernel_rfl) (by kernel_rfl) ?_
    simp only [List.take_succ_cons, List.take_zero, List.drop_succ_cons, List.drop_zero]
    repeat (first | go_big_quiet_skip | quiet_step (fail))
    refine wpQuiet_nil ?_
    intro _ hw'
    obtain ⟨⟨dq, osq⟩, hw''⟩ := hw'
    subst hw''
    have bq := below_regrown w1 dq osq
    generalize grow (redrawn w1 dq) osq = w2 at bq ⊢
    clear k0 k1 k2 k3 k4 k5 k6 k7
    have DX := Lib.hid (DX.out.below bq)
    have RX := Lib.hid (RX.out.below bq)
    have FX := Lib.hid (FX.out.then_below bq)
    have gl0 := DX.out.ol.cell hj
    have gr0 := DX.out.or_.cell (i := j) hjr
    have gf := DX.out.ol.free j
    have gg := DX.out.or_.free j
    clear bq
    have hN := HF.out
    rw [if_pos HY1.out] at hN
    have HN := Lib.hid hN
    clear hN
    go_wp2
    go_ret
    exact LearnP.yes HN.out (DX.out.setR j v) (FX.out.setF (.inr rfl) DX.out.br j _)
  · skip
    have ty : (y != (-1 : Int)) = true := by simp [hy1]
    have te : (y == (-1 : Int)) = false := by simp [hy1]
    have HY1 := Lib.hid hy1
    clear hy1
    go_enter Try.func132, Try.ntmps132
    go_upto_region 12 with (fail)
    generalize w.alloc (.cells #[.int .i64 2, .int .i64 j, .int .i64 v] 121) = w0 at DX RX FX ⊢
    have D := DX.out
    obtain ⟨p0, p1, p2⟩ := RX.out.2
    obtain ⟨zb, a0, a1, a2, af⟩ := D.at_
    have gl0 := D.ol.cell hj
    have gr0 := D.or_.cell (i := j) hjr
    rw [HX.out] at gl0
    rw [HY.out] at gr0
    have k0 := fun d os => cell_regrown a0 d os
    have k1 := fun d os => cell_regrown a1 d os
    have k2 := fun d os => cell_regrown a2 d os
    have k3 := fun d os => cell_regrown p0 d os
    have k4 := fun d os => cell_regrown p1 d os
    have k5 := fun d os => cell_regrown p2 d os
    have k6 := fun d os => cell_regrown gl0 d os
    have k7 := fun d os => cell_regrown gr0 d os
    clear D a0 a1 a2 af gl0 gr0 p0 p1 p2 zb
    refine wp_region_quiet_below (by kernel_rfl) (by kernel_rfl) ?_
    repeat (first | go_big_quiet_skip | quiet_step (fail))
    refine wpQuiet_nil ?_
    intro _ hw'
    obtain ⟨⟨dq, osq⟩, hw''⟩ := hw'
    subst hw''
    have bq := below_regrown w0 dq osq
    generalize grow (redrawn w0 dq) osq = w1 at bq ⊢
    clear k0 k1 k2 k3 k4 k5 k6 k7
    have DX := Lib.hid (DX.out.below bq)
    have RX := Lib.hid (RX.out.below bq)
    have FX := Lib.hid (FX.out.then_below bq)
    clear bq
    have hN := HF.out
    rw [if_neg HY1.out] at hN
    have HN := Lib.hid hN
    clear hN
    go_wp2
    go_ret
    exact LearnP.no HN.out DX.out FX.out
set_option maxHeartbeats 8000000 in
theorem l09Learn_3 {base b o gl cl gr cr j : Nat} {lv rs : List Int} (outs v : Int) (w : World) (hD : DeskIs w base b o gl cl gr cr lv rs outs) (hj : j < lv.length) (hn : lv.length ≤ 1000000)
    (hx1 : ∀ x ∈ lv, -1000000000 ≤ x ∧ x ≤ 1000000000) (ho1 : 0 ≤ outs) (ho2 : outs ≤ 1000000000) :
    Calls Try.prog 132 #[.pointer (some ⟨b, o, none⟩), .agg #[.int .i64 3, .int .i64 j, .int .i64 v]] w (LearnP w base b o gl cl gr cr lv rs outs 3 j v) := by
  obtain ⟨x, hx⟩ : ∃ x, lv[j]'hj = x := ⟨_, rfl⟩
  have hjr : j < rs.length := by rw [hD.len]; exact hj
  obtain ⟨y, hy⟩ : ∃ y, rs[j]'hjr = y := ⟨_, rfl⟩
  have hxb := hx1 _ (List.getElem_mem hj)
  rw [hx] at hxb
  have hxl : -1000000000 ≤ x := hxb.1
  have hxu : x ≤ 1000000000 := hxb.2
  have hgx : lv.getD j 0 = x := by rw [← hx]; simp [hj]
  have hgy : rs.getD j 0 = y := by rw [← hy]; simp [hjr]
  have HX := Lib.hid hx
  have HY := Lib.hid hy
  have HF := Lib.hid (show learnF lv rs outs 3 j v = (if ¬ y = -1 ∧ (j : Int) = outs then some (lv, rs, outs + 1) else none) by unfold learnF; simp only [Int.toNat_natCast, hgx, hgy]; simp)
  have hwr : IntKind.i64.wrap (x + 1) = x + 1 := IntWalk.i64_in _ (by omega)
  have hji : (0 : Int) ≤ (j : Int) := by omega
  have hjl : (j : Int) < (lv.length : Int) := by omega
  have hgl := (hD.ol.lt gl rfl).2
  have hgr := (hD.or_.lt gr rfl).2
  have hbb := hD.at_.1
  have n1 : ¬ w.heap.size = gl := by omega
  have n2 : ¬ w.heap.size = gr := by omega
  have n3 : ¬ gl = w.heap.size := by omega
  have n4 : ¬ gr = w.heap.size := by omega
  have n5 := hD.lr
  have n6 := hD.bl
  have n7 := hD.br
  have bx : Below w.heap.size w (w.alloc (.cells #[.int .i64 3, .int .i64 j, .int .i64 v] 121)) := (Below.refl _ _).alloc (Nat.le_refl _) _
  have DX := Lib.hid (hD.below bx)
  have RX := Lib.hid (rec3At_new w 3 j v)
  have FX := Lib.hid (FrD.of_below (o := o) (gl := gl) (gr := gr) bx hbb)
  clear hx1 hxb hx hy hgx hgy hD bx
  by_cases hy1 : y = -1
  · skip
    have ty : (y != (-1 : Int)) = false := by simp [hy1]
    have te : (y == (-1 : Int)) = true := by simp [hy1]
    have HY1 := Lib.hid hy1
    clear hy1
    go_enter Try.func132, Try.ntmps132
    go_upto_region 2 with (fail)
    generalize w.alloc (.cells #[.int .i64 3, .int .i64 j, .int .i64 v] 121) = w0 at DX RX FX ⊢
    have D := DX.out
    obtain ⟨p0, p1, p2⟩ := RX.out.2
    obtain ⟨zb, a0, a1, a2, af⟩ := D.at_
    have gl0 := D.ol.cell hj
    have gr0 := D.or_.cell (i := j) hjr
    rw [HX.out] at gl0
    rw [HY.out] at gr0
    have k0 := fun d os => cell_regrown a0 d os
    have k1 := fun d os => cell_regrown a1 d os
    have k2 := fun d os => cell_regrown a2 d os
    have k3 := fun d os => cell_regrown p0 d os
    have k4 := fun d os => cell_regrown p1 d os
    have k5 := fun d os => cell_regrown p2 d os
    have k6 := fun d os => cell_regrown gl0 d os
    have k7 := fun d os => cell_regrown gr0 d os
    clear D a0 a1 a2 af gl0 gr0 p0 p1 p2 zb
    refine wp_region_quiet_below (by kernel_rfl) (by kernel_rfl) ?_
    repeat (first | go_big_quiet_skip | quiet_step (fail))
    refine wpQuiet_nil ?_
    intro _ hw'
    obtain ⟨⟨dq, osq⟩, hw''⟩ := hw'
    subst hw''
    have bq := below_regrown w0 dq osq
    generalize grow (redrawn w0 dq) osq = w1 at bq ⊢
    clear k0 k1 k2 k3 k4 k5 k6 k7
    have DX := Lib.hid (DX.out.below bq)
    have RX := Lib.hid (RX.out.below bq)
    have FX := Lib.hid (FX.out.then_below bq)
    clear bq
    have hN := HF.out
    rw [if_neg (fun h => h.1 HY1.out)] at hN
    have HN := Lib.hid hN
    clear hN
    go_wp2
    go_ret
    exact LearnP.no HN.out DX.out FX.out
  · by_cases hjo : (j : Int) = outs
    · skip
      have tj : ((j : Int) != outs) = false := by simp [hjo]
      have HJO := Lib.hid hjo
      clear hjo
      have ty : (y != (-1 : Int)) = true := by simp [hy1]
      have te : (y == (-1 : Int)) = false := by simp [hy1]
      have HY1 := Lib.hid hy1
      clear hy1
      go_enter Try.func132, Try.ntmps132
      go_upto_region 2 with (fail)
      generalize w.alloc (.cells #[.int .i64 3, .int .i64 j, .int .i64 v] 121) = w0 at DX RX FX ⊢
      have D := DX.out
      obtain ⟨p0, p1, p2⟩ := RX.out.2
      obtain ⟨zb, a0, a1, a2, af⟩ := D.at_
      have gl0 := D.ol.cell hj
      have gr0 := D.or_.cell (i := j) hjr
      rw [HX.out] at gl0
      rw [HY.out] at gr0
      have k0 := fun d os => cell_regrown a0 d os
      have k1 := fun d os => cell_regrown a1 d os
      have k2 := fun d os => cell_regrown a2 d os
      have k3 := fun d os => cell_regrown p0 d os
      have k4 := fun d os => cell_regrown p1 d os
      have k5 := fun d os => cell_regrown p2 d os
      have k6 := fun d os => cell_regrown gl0 d os
      have k7 := fun d os => cell_regrown gr0 d os
      clear D a0 a1 a2 af gl0 gr0 p0 p1 p2 zb
      refine wp_region_quiet_below (by kernel_rfl) (by kernel_rfl) ?_
      repeat (first | go_big_quiet_skip | quiet_step (fail))
      refine wpQuiet_nil ?_
      intro _ hw'
      obtain ⟨⟨dq, osq⟩, hw''⟩ := hw'
      subst hw''
      have bq := below_regrown w0 dq osq
      generalize grow (redrawn w0 dq) osq = w1 at bq ⊢
      clear k0 k1 k2 k3 k4 k5 k6 k7
      have DX := Lib.hid (DX.out.below bq)
      have RX := Lib.hid (RX.out.below bq)
      have FX := Lib.hid (FX.out.then_below bq)
      clear bq
      obtain ⟨zb, a0, a1, a2, af⟩ := DX.out.at_
      have hN := HF.out
      rw [if_pos ⟨HY1.out, HJO.out⟩] at hN
      have HN := Lib.hid hN
      clear hN
      go_wp2
      go_ret
      exact LearnP.yes HN.out (DX.out.setO (outs + 1)) (FX.out.setO _)
    · skip
      have tj : ((j : Int) != outs) = true := by simp [hjo]
      have HJO := Lib.hid hjo
      clear hjo
      have ty : (y != (-1 : Int)) = true := by simp [hy1]
      have te : (y == (-1 : Int)) = false := by simp [hy1]
      have HY1 := Lib.hid hy1
      clear hy1
      go_enter Try.func132, Try.ntmps132
      go_upto_region 2 with (fail)
      generalize w.alloc (.cells #[.int .i64 3, .int .i64 j, .int .i64 v] 121) = w0 at DX RX FX ⊢
      have D := DX.out
      obtain ⟨p0, p1, p2⟩ := RX.out.2
      obtain ⟨zb, a0, a1, a2, af⟩ := D.at_
      have gl0 := D.ol.cell hj
      have gr0 := D.or_.cell (i := j) hjr
      rw [HX.out] at gl0
      rw [HY.out] at gr0
      have k0 := fun d os => cell_regrown a0 d os
      have k1 := fun d os => cell_regrown a1 d os
      have k2 := fun d os => cell_regrown a2 d os
      have k3 := fun d os => cell_regrown p0 d os
      have k4 := fun d os => cell_regrown p1 d os
      have k5 := fun d os => cell_regrown p2 d os
      have k6 := fun d os => cell_regrown gl0 d os
      have k7 := fun d os => cell_regrown gr0 d os
      clear D a0 a1 a2 af gl0 gr0 p0 p1 p2 zb
      refine wp_region_quiet_below (by kernel_rfl) (by kernel_rfl) ?_
      repeat (first | go_big_quiet_skip | quiet_step (fail))
      refine wpQuiet_nil ?_
      intro _ hw'
      obtain ⟨⟨dq, osq⟩, hw''⟩ := hw'
      subst hw''
      have bq := below_regrown w0 dq osq
      generalize grow (redrawn w0 dq) osq = w1 at bq ⊢
      clear k0 k1 k2 k3 k4 k5 k6 k7
      have DX := Lib.hid (DX.out.below bq)
      have RX := Lib.hid (RX.out.below bq)
      have FX := Lib.hid (FX.out.then_below bq)
      clear bq
      have hN := HF.out
      rw [if_neg (fun h => HJO.out h.2)] at hN
      have HN := Lib.hid hN
      clear hN
      go_wp2
      go_ret
      exact LearnP.no HN.out DX.out FX.out
theorem l09Learn_any {base b o gl cl gr cr j : Nat} {lv rs : List Int} (k outs v : Int) (w : World) (hk : k = 1 ∨ k = 2 ∨ k = 3) (hD : DeskIs w base b o gl cl gr cr lv rs outs) (hj : j < lv.length) (hn : lv.length ≤ 1000000)
    (hx1 : ∀ x ∈ lv, -1000000000 ≤ x ∧ x ≤ 1000000000) (ho1 : 0 ≤ outs) (ho2 : outs ≤ 1000000000) :
    Calls Try.prog 132 #[.pointer (some ⟨b, o, none⟩), .agg #[.int .i64 k, .int .i64 j, .int .i64 v]] w (LearnP w base b o gl cl gr cr lv rs outs k j v) := by
  rcases hk with rfl | rfl | rfl
  · exact l09Learn_1 outs v w hD hj hn hx1 ho1 ho2
  · exact l09Learn_2 outs v w hD hj hn hx1 ho1 ho2
  · exact l09Learn_3 outs v w hD hj hn hx1 ho1 ho2
end Go.Proofs.Ytijpkcdalmlaiaa
namespace Go.Proofs.Ytijpkcdalmlaiaa
open Go.RowKit Go.Sort
set_option maxHeartbeats 4000000 in
theorem SpecReadJournal_any {v : Value} {xss : List (List Int)} (s t bs sm wk : Int) (text : ByteArray) (w : World) (ha : SlII w v xss) (ht : text.size ≤ 1048576) :
    Calls Try.prog 123 #[.agg #[.int .i64 s, .int .i64 t, v, .int .i64 bs, .int .i64 sm, .int .i64 wk], .string text] w fun e w' => ∃ rv, e = .returned (tupVI rv (jReadR s t xss bs sm wk text).2) ∧ FRecord.Own w' w.heap.size rv (jReadR s t xss bs sm wk text).1 ∧ Below w.heap.size w w' := by
  have HA := Lib.hid (fun W (h : Below w.heap.size w W) => ha.below h)
  obtain ⟨a, ca, us, rfl, _, _, _, _, _⟩ := ha
  have bx : Below w.heap.size w (w.alloc (svObj s t (.slice a xss.length ca) bs sm wk)) := (Below.refl _ _).alloc (Nat.le_refl _) _
  have X := Lib.hid (svBox w s t (.slice a xss.length ca) bs sm wk)
  generalize hv : serviceOk s t xss bs sm wk = V
  have HV := Lib.hid hv
  cases V
  · have hj : jReadR s t xss bs sm wk text = ([], 1) := by unfold jReadR; rw [hv]; rfl
    have HJ := Lib.hid hj
    clear hv hj
    go_enter Try.func123, Try.ntmps123
    go_wp2_with fail
    refine (l09Ok_any w.heap.size 0 s t bs sm wk _ X.out (HA.out _ bx)).mono ?_
    rintro e w1 ⟨rfl, b1⟩
    rw [HV.out]
    have hb1 := bx.trans (b1.mono bx.size)
    go_wp2
    go_ret2
    exact ⟨_, by rw [HJ.out]; rfl, by rw [HJ.out]; exact (Flat.Own.empty _ (Nat.le_refl _)).lower hb1.size, hb1.alloc hb1.size _⟩
  · obtain ⟨h1, h2, h3, h4, _⟩ := service_bds hv
    by_cases hz : 20000 < text.size
    · have hj : jReadR s t xss bs sm wk text = ([], 2) := by unfold jReadR; rw [hv, if_pos rfl, if_neg (by omega)]
      have HJ := Lib.hid hj
      clear hv hj
      go_enter Try.func123, Try.ntmps123
      go_wp2_with fail
      refine (l09Ok_any w.heap.size 0 s t bs sm wk _ X.out (HA.out _ bx)).mono ?_
      rintro e w1 ⟨rfl, b1⟩
      rw [HV.out]
      have hb1 := bx.trans (b1.mono bx.size)
      go_wp2
      go_ret2
      exact ⟨_, by rw [HJ.out]; rfl, by rw [HJ.out]; exact (Flat.Own.empty _ (Nat.le_refl _)).lower hb1.size, hb1.alloc hb1.size _⟩
    have hcl := cuts_lens text 10
    have hc1 := cuts_len text 10
    have hcs := hcl.2
    have hcl1 := hcl.1
    have hj : jReadR s t xss bs sm wk text = readAll s sm ((cuts text 10).take ((cuts text 10).length - 1)) [] := by unfold jReadR; rw [hv, if_pos rfl, if_pos (by omega)]
    generalize hL : cuts text 10 = L at hc1 hcs hcl1 hj
    have HL := Lib.hid hL
    have HSZ := Lib.hid hcs
    obtain ⟨m, hm⟩ : ∃ m, L.length = m + 1 := ⟨L.length - 1, by omega⟩
    rw [hm, Nat.add_sub_cancel] at hj
    have hm1 : m ≤ 20000 := by omega
    have HM := Lib.hid hm
    have hml : (L.take m).length = m := by simp; omega
    have HML := Lib.hid hml
    have HJ := Lib.hid hj
    have hz' : text.size ≤ 20000 := by omega
    clear hv hj hL hcl hcs hm hml hc1 hcl1
    go_enter Try.func123, Try.ntmps123
    go_wp2_with fail
    refine (l09Ok_any w.heap.size 0 s t bs sm wk _ X.out (HA.out _ bx)).mono ?_
    rintro e w1 ⟨rfl, b1⟩
    rw [HV.out]
    have hb1 := bx.trans (b1.mono bx.size)
    have X1 := Lib.hid (X.out.below b1)
    clear b1
    go_wp2_with fail
    refine (l01Words_any text 10 _ (by omega)).mono ?_
    rintro e w2 ⟨v2, rfl, o2, b2⟩
    rw [HL.out] at o2
    have hb2 := hb1.trans (b2.mono hb1.size)
    have X2 := Lib.hid (X1.out.below b2)
    have HS := Lib.hid (fun W (h : Below w2.heap.size w2 W) => o2.sl.below h)
    obtain ⟨la, lc, rfl, lm1, lm2, _⟩ := id o2.sl
    unfold maxLen at lm2
    have hmm := HM.out
    rw [hmm] at lm1 HS ⊢
    clear o2 hmm b2
    go_wp2
    go_loopw [7, 8, 9, 10] (fun v i _ _ wr => ∃ (k : Nat) (acc : List (Int × Int × Int)), k ≤ m ∧ i = .int .i64 k ∧ acc.length ≤ k ∧ Hid (readAll s sm (L.take m) [] = readAll s sm ((L.take m).drop k) acc) ∧ FRecord.Own wr w2.heap.size v acc ∧ Below w2.heap.size w2 wr) (fun _ i _ _ _ => m - (intOf i).toNat)
    case atStart => exact ⟨0, [], Nat.zero_le _, rfl, Nat.le_refl _, rfl, Flat.Own.empty _ (Nat.le_refl _), (Below.refl _ _).alloc (Nat.le_refl _) _⟩
    case round =>
      obtain ⟨k, acc, hk, rfl, hacc, hrd, hown, hbr⟩ := hrel
      by_cases hlt : k < m
      · obtain ⟨b, off, rfl, _, gc⟩ := FS_get (HS.out _ hbr) (i := k) (by have := HM.out; omega)
        have i1 : (k : Int) < (m : Int) := by omega
        have i2 : (k : Int) < (m : Int) + 1 := by omega
        have hzx := HSZ.out _ (List.getElem_mem (show k < L.length by have := HM.out; omega))
        have hx : (L.take m)[k]'(by rw [HML.out]; exact hlt) = L[k]'(by have := HM.out; omega) := by simp
        have hsome : ∀ q, recOf s sm (L[k]'(by have := HM.out; omega)) = some q → readAll s sm (L.take m) [] = readAll s sm ((L.take m).drop (k + 1)) (acc ++ [q]) := fun q hq => by rw [hrd.out, readAll_some (by rw [HML.out]; exact hlt) (by rw [hx]; exact hq)]
        have hnone : recOf s sm (L[k]'(by have := HM.out; omega)) = none → readAll s sm (L.take m) [] = ([], 5) := fun hq => by rw [hrd.out, readAll_none (by rw [HML.out]; exact hlt) (by rw [hx]; exact hq)]
        generalize (L[k]'(by have := HM.out; omega)) = x at gc hzx hsome hnone
        have hro := recOf_parse (st := s) (sm := sm) (line := x) h4 h2
        have HSM := Lib.hid hsome
        have HNN := Lib.hid hnone
        have HRO := Lib.hid hro
        have HXS := Lib.hid (X2.out.below hbr)
        have hrz := hbr.size
        clear hx hsome hnone hro
        go_wp2_with fail
        refine (l09Parse_any x w.heap.size 0 s t bs sm wk _ HXS.out h3 h4 h1 h2 (by omega)).mono ?_
        rintro e w3 ⟨⟨⟨q0, q1, q2⟩, rfl, hrq⟩, b3⟩
        have hro := HRO.out
        generalize parseOk s sm (kindW ((cuts x 32).getD 0 ⟨#[]⟩)) (numsG ((cuts x 32).drop 1) []).1 (numsG ((cuts x 32).drop 1) []).2 = P at hrq hro ⊢
        have HRQ := Lib.hid hrq
        have HR2 := Lib.hid hro
        have hb3 := hbr.trans (b3.mono hrz)
        have z3 := hb3.size
        have o3 := hown.below b3
        clear hrq hro hown hbr b3
        unfold recV
        cases P
        · go_wp2
          go_ret2
          have hjj : jReadR s t xss bs sm wk text = ([], 5) := by rw [HJ.out]; exact HNN.out (by rw [HR2.out]; rfl)
          have hbz := hb2.trans (hb3.mono hb2.size)
          have e0 := Flat.Own.empty (F := FRecord) (w3.alloc (.cells #[.int .i64 q0, .int .i64 q1, .int .i64 q2] 121)) (Nat.le_refl _)
          rw [show (w3.alloc (.cells #[.int .i64 q0, .int .i64 q1, .int .i64 q2] 121)).heap.size = w3.heap.size + 1 by simp] at e0
          refine ⟨_, by rw [hjj]; rfl, by rw [hjj]; exact e0.lower (by have := hbz.size; omega), ?_⟩
          exact (hbz.alloc hbz.size _).alloc (by have := hbz.size; simp; omega) _
        · have ba : Below w3.heap.size w3 (w3.alloc (.cells #[.int .i64 q0, .int .i64 q1, .int .i64 q2] 121)) := (Below.refl _ _).alloc (Nat.le_refl _) _
          have o5 := o3.below ba
          have hb5 := hb3.trans (ba.mono z3)
          have z5 := hb5.size
          have d0 : (w3.alloc (.cells #[.int .i64 q0, .int .i64 q1, .int .i64 q2] 121)).cell? ⟨w3.heap.size, 0, none⟩ = some (.int .i64 q0) := by simp [go_sem]
          have d1 : (w3.alloc (.cells #[.int .i64 q0, .int .i64 q1, .int .i64 q2] 121)).cell? ⟨w3.heap.size, 1, none⟩ = some (.int .i64 q1) := by simp [go_sem]
          have d2 : (w3.alloc (.cells #[.int .i64 q0, .int .i64 q1, .int .i64 q2] 121)).cell? ⟨w3.heap.size, 2, none⟩ = some (.int .i64 q2) := by simp [go_sem]
          clear o3 ba
          go_upto_region 13 with (fail)
          generalize w3.alloc (.cells #[.int .i64 q0, .int .i64 q1, .int .i64 q2] 121) = w5 at hb5 o5 z5 d0 d1 d2 ⊢
          go_wp2_with (at_builtin; refine Flat.append FRecord _ _ _ (ys := [(q0, q1, q2)]) rfl rfl rfl (o5.alloc _) rfl (rd_new _ _ _) (by simp; omega) (by simp; omega) ?_)
          intro v' w6 o6 hg6 hb6
          have hb7 := (hb5.alloc z5 _).trans hb6
          have HSS := Lib.hid (HSM.out (q0, q1, q2) (by rw [HR2.out, HRQ.out trivial]; simp))
          clear o5 hg6 hb6
          go_wp2
          go_roundw
          case rel => exact ⟨k + 1, acc ++ [(q0, q1, q2)], by omega, by go_num, by simp; omega, HSS.out, o6, hb7⟩
          case measure => simp [intOf]; omega
      · obtain rfl : k = m := by omega
        have hjj : jReadR s t xss bs sm wk text = (acc, 0) := by rw [HJ.out, hrd.out, List.drop_of_length_le (by rw [HML.out]; exact Nat.le_refl _)]; rfl
        have HJJ := Lib.hid hjj
        clear hjj
        go_wp2
        go_ret2
        exact ⟨_, by rw [HJJ.out]; rfl, by rw [HJJ.out]; exact hown.lower hb2.size, hb2.trans (hbr.mono hb2.size)⟩
end Go.Proofs.Ytijpkcdalmlaiaa
