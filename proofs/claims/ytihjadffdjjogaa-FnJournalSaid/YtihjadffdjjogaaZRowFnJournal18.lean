/-
  The reference's reading of a line of a journal. With it: The reference's learn. The program's reading of a line of a journal. The reference's reading of a line of a journal. The reference's reading of a line, one kind of word. The reference's reading of a line, one kind of word. The reference's reading of a line, one kind of word. The reference's reading of a line, one kind of word.
-/
import Derived.Test.YtihjadffdjjogaaZRowFnJournal17
import Derived.Deep.DeepCutAuto
import Derived.Test.YtihjadffdjjogaaZRowFnJournal13
import Derived.Test.YtihjadffdjjogaaZRowFnJournal2
set_option linter.unusedVariables false
set_option linter.unusedSimpArgs false
namespace Go.Proofs.Ytihjadffdjjogaa
open Go.RowKit Go.Sort
set_option maxHeartbeats 8000000 in
theorem l09Learn_1 {base b o gl cl gr cr j : Nat} {lv rs : List Int} (outs v : Int) (w : World) (hD : DeskIs w base b o gl cl gr cr lv rs outs) (hj : j < lv.length) (hn : lv.length ≤ 1000000)
    (hx1 : ∀ x ∈ lv, -1000000000 ≤ x ∧ x ≤ 1000000000) (ho1 : 0 ≤ outs) (ho2 : outs ≤ 1000000000) :
    Calls Try.prog 19 #[.pointer (some ⟨b, o, none⟩), .agg #[.int .i64 1, .int .i64 j, .int .i64 v]] w (LearnP w base b o gl cl gr cr lv rs outs 1 j v) := by
  obtain ⟨x, hx⟩ : ∃ x, lv[j]'hj = x := ⟨_, rfl⟩
  have hjr : j < rs.length := by rw [hD.len]; exact hj
  obtain ⟨y, hy⟩ : ∃ y, rs[j]'hjr = y := ⟨_, rfl⟩
  have hxb := hx1 _ (List.getElem_mem hj)
  rw [hx] at hxb
  have hxl : -1000000000 ≤ x := hxb.1
  have hxu : x ≤ 1000000000 := hxb.2
  have hgx : lv.getD j 0 = x := by rw [← hx]; simp [hj]
  have hgy : rs.getD j 0 = y := by rw [← hy]; simp [hjr]
  have HX := Lib.hid hx
  have HY := Lib.hid hy
  have HF := Lib.hid (show learnF lv rs outs 1 j v = (if y = -1 ∧ v = x + 1 then some (lv.set j v, if v = 7 then rs.set j (-2) else rs, outs) else none) by unfold learnF; simp only [Int.toNat_natCast, hgx, hgy]; simp)
  have hwr : IntKind.i64.wrap (x + 1) = x + 1 := IntWalk.i64_in _ (by omega)
  have hji : (0 : Int) ≤ (j : Int) := by omega
  have hjl : (j : Int) < (lv.length : Int) := by omega
  have hgl := (hD.ol.lt gl rfl).2
  have hgr := (hD.or_.lt gr rfl).2
  have hbb := hD.at_.1
  have n1 : ¬ w.heap.size = gl := by omega
  have n2 : ¬ w.heap.size = gr := by omega
  have n3 : ¬ gl = w.heap.size := by omega
  have n4 : ¬ gr = w.heap.size := by omega
  have n5 := hD.lr
  have n6 := hD.bl
  have n7 := hD.br
  have bx : Below w.heap.size w (w.alloc (.cells #[.int .i64 1, .int .i64 j, .int .i64 v] 42)) := (Below.refl _ _).alloc (Nat.le_refl _) _
  have DX := Lib.hid (hD.below bx)
  have RX := Lib.hid (rec3At_new w 1 j v)
  have FX := Lib.hid (FrD.of_below (o := o) (gl := gl) (gr := gr) bx hbb)
  clear hx1 hxb hx hy hgx hgy hD bx
  by_cases hy1 : y = -1
  · by_cases hv1 : v = x + 1
    · by_cases hv7 : v = 7
      · skip
        have ty : (y != (-1 : Int)) = false := by simp [hy1]
        have te : (y == (-1 : Int)) = true := by simp [hy1]
        have HY1 := Lib.hid hy1
        clear hy1
        have tv : (v != x + 1) = false := by simp [hv1]
        have HV1 := Lib.hid hv1
        clear hv1
        have t7 : (v == (7 : Int)) = true := by simp [hv7]
        have HV7 := Lib.hid hv7
        clear hv7
        go_enter Try.func19, Try.ntmps19
        go_upto_region 6 with (fail)
        generalize w.alloc (.cells #[.int .i64 1, .int .i64 j, .int .i64 v] 42) = w0 at DX RX FX ⊢
        have D := DX.out
        obtain ⟨p0, p1, p2⟩ := RX.out.2
        obtain ⟨zb, a0, a1, a2, af⟩ := D.at_
        have gl0 := D.ol.cell hj
        have gr0 := D.or_.cell (i := j) hjr
        rw [HX.out] at gl0
        rw [HY.out] at gr0
        have k0 := fun d os => cell_regrown a0 d os
        have k1 := fun d os => cell_regrown a1 d os
        have k2 := fun d os => cell_regrown a2 d os
        have k3 := fun d os => cell_regrown p0 d os
        have k4 := fun d os => cell_regrown p1 d os
        have k5 := fun d os => cell_regrown p2 d os
        have k6 := fun d os => cell_regrown gl0 d os
        have k7 := fun d os => cell_regrown gr0 d os
        clear D a0 a1 a2 af gl0 gr0 p0 p1 p2 zb
        refine wp_region_quiet_below (by kernel_rfl) (by kernel_rfl) ?_
        repeat (first | go_big_quiet_skip | quiet_step (fail))
        refine wpQuiet_nil ?_
        intro _ hw'
        obtain ⟨⟨dq, osq⟩, hw''⟩ := hw'
        subst hw''
        have bq := below_regrown w0 dq osq
        generalize grow (redrawn w0 dq) osq = w1 at bq ⊢
        clear k0 k1 k2 k3 k4 k5 k6 k7
        have DX := Lib.hid (DX.out.below bq)
        have RX := Lib.hid (RX.out.below bq)
        have FX := Lib.hid (FX.out.then_below bq)
        clear bq
        go_wp2_with fail
        have D := DX.out
        obtain ⟨p0, p1, p2⟩ := RX.out.2
        obtain ⟨zb, a0, a1, a2, af⟩ := D.at_
        have gl0 := D.ol.cell hj
        have gr0 := D.or_.cell (i := j) hjr
        rw [HX.out] at gl0
        rw [HY.out] at gr0
        have k0 := fun d os => cell_regrown a0 d os
        have k1 := fun d os => cell_regrown a1 d os
        have k2 := fun d os => cell_regrown a2 d os
        have k3 := fun d os => cell_regrown p0 d os
        have k4 := fun d os => cell_regrown p1 d os
        have k5 := fun d os => cell_regrown p2 d os
        have k6 := fun d os => cell_regrown gl0 d os
        have k7 := fun d os => cell_regrown gr0 d os
        clear D a0 a1 a2 af gl0 gr0 p0 p1 p2 zb
        refine wp_region_below_tail 9 (by kernel_rfl) (by kernel_rfl) ?_
        simp only [List.take_succ_cons, List.take_zero, List.drop_succ_cons, List.drop_zero]
        repeat (first | go_big_quiet_skip | quiet_step (fail))
        refine wpQuiet_nil ?_
        intro _ hw'
        obtain ⟨⟨dq, osq⟩, hw''⟩ := hw'
        subst hw''
        have bq := below_regrown w1 dq osq
        generalize grow (redrawn w1 dq) osq = w3 at bq ⊢
        clear k0 k1 k2 k3 k4 k5 k6 k7
        have DX := Lib.hid (DX.out.below bq)
        have RX := Lib.hid (RX.out.below bq)
        have FX := Lib.hid (FX.out.then_below bq)
        have gl0 := DX.out.ol.cell hj
        have gr0 := DX.out.or_.cell (i := j) hjr
        have gf := DX.out.ol.free j
        have gg := DX.out.or_.free j
        clear bq
        obtain ⟨p0, p1, p2⟩ := RX.out.2
        go_wp2
        generalize hW4 : w3.setCell ⟨gl, j, none⟩ (.int .i64 v) = w4
        have DX := Lib.hid (show DeskIs w4 base b o gl cl gr cr (lv.set j v) rs outs by rw [← hW4]; exact DX.out.setL j v)
        have RX := Lib.hid (show Rec3At w4 w.heap.size 1 j v by rw [← hW4]; exact RX.out.far n1 _)
        have FX := Lib.hid (show FrD b o gl gr w w4 by rw [← hW4]; exact FX.out.setF (.inl rfl) DX.out.bl j _)
        clear hW4 p0 p1 p2 gl0 gr0 gf gg
        have D := DX.out
        obtain ⟨p0, p1, p2⟩ := RX.out.2
        obtain ⟨zb, a0, a1, a2, af⟩ := D.at_
        rw [List.length_set] at a0 a1
        have gl0 := D.ol.cell (i := j) (by rw [List.length_set]; exact hj)
        have gr0 := D.or_.cell (i := j) hjr
        rw [HY.out] at gr0
        have k0 := fun d os => cell_regrown a0 d os
        have k1 := fun d os => cell_regrown a1 d os
        have k2 := fun d os => cell_regrown a2 d os
        have k3 := fun d os => cell_regrown p0 d os
        have k4 := fun d os => cell_regrown p1 d os
        have k5 := fun d os => cell_regrown p2 d os
        have k6 := fun d os => cell_regrown gl0 d os
        have k7 := fun d os => cell_regrown gr0 d os
        clear D a0 a1 a2 af gl0 gr0 p0 p1 p2 zb
        refine wp_region_below_tail 7 (by kernel_rfl) (by kernel_rfl) ?_
        simp only [List.take_succ_cons, List.take_zero, List.drop_succ_cons, List.drop_zero]
        repeat (first | go_big_quiet_skip | quiet_step (fail))
        refine wpQuiet_nil ?_
        intro _ hw'
        obtain ⟨⟨dq, osq⟩, hw''⟩ := hw'
        subst hw''
        have bq := below_regrown w4 dq osq
        generalize grow (redrawn w4 dq) osq = w5 at bq ⊢
        clear k0 k1 k2 k3 k4 k5 k6 k7
        have DX := Lib.hid (DX.out.below bq)
        have RX := Lib.hid (RX.out.below bq)
        have FX := Lib.hid (FX.out.then_below bq)
        have gl0 := DX.out.ol.cell (i := j) (by rw [List.length_set]; exact hj)
        have gr0 := DX.out.or_.cell (i := j) hjr
        have gf := DX.out.ol.free j
        have gg := DX.out.or_.free j
        clear bq
        have hN := HF.out
        rw [if_pos ⟨HY1.out, HV1.out⟩, if_pos HV7.out] at hN
        have HN := Lib.hid hN
        clear hN
        go_wp2
        go_ret
        exact LearnP.yes HN.out (DX.out.setR j (-2)) (FX.out.setF (.inr rfl) DX.out.br j _)
      · skip
        have ty : (y != (-1 : Int)) = false := by simp [hy1]
        have te : (y == (-1 : Int)) = true := by simp [hy1]
        have HY1 := Lib.hid hy1
        clear hy1
        have tv : (v != x + 1) = false := by simp [hv1]
        have HV1 := Lib.hid hv1
        clear hv1
        have t7 : (v == (7 : Int)) = false := by simp [hv7]
        have HV7 := Lib.hid hv7
        clear hv7
        go_enter Try.func19, Try.ntmps19
        go_upto_region 6 with (fail)
        generalize w.alloc (.cells #[.int .i64 1, .int .i64 j, .int .i64 v] 42) = w0 at DX RX FX ⊢
        have D := DX.out
        obtain ⟨p0, p1, p2⟩ := RX.out.2
        obtain ⟨zb, a0, a1, a2, af⟩ := D.at_
        have gl0 := D.ol.cell hj
        have gr0 := D.or_.cell (i := j) hjr
        rw [HX.out] at gl0
        rw [HY.out] at gr0
        have k0 := fun d os => cell_regrown a0 d os
        have k1 := fun d os => cell_regrown a1 d os
        have k2 := fun d os => cell_regrown a2 d os
        have k3 := fun d os => cell_regrown p0 d os
        have k4 := fun d os => cell_regrown p1 d os
        have k5 := fun d os => cell_regrown p2 d os
        have k6 := fun d os => cell_regrown gl0 d os
        have k7 := fun d os => cell_regrown gr0 d os
        clear D a0 a1 a2 af gl0 gr0 p0 p1 p2 zb
        refine wp_region_quiet_below (by kernel_rfl) (by kernel_rfl) ?_
        repeat (first | go_big_quiet_skip | quiet_step (fail))
        refine wpQuiet_nil ?_
        intro _ hw'
        obtain ⟨⟨dq, osq⟩, hw''⟩ := hw'
        subst hw''
        have bq := below_regrown w0 dq osq
        generalize grow (redrawn w0 dq) osq = w1 at bq ⊢
        clear k0 k1 k2 k3 k4 k5 k6 k7
        have DX := Lib.hid (DX.out.below bq)
        have RX := Lib.hid (RX.out.below bq)
        have FX := Lib.hid (FX.out.then_below bq)
        clear bq
        go_wp2_with fail
        have D := DX.out
        obtain ⟨p0, p1, p2⟩ := RX.out.2
        obtain ⟨zb, a0, a1, a2, af⟩ := D.at_
        have gl0 := D.ol.cell hj
        have gr0 := D.or_.cell (i := j) hjr
        rw [HX.out] at gl0
        rw [HY.out] at gr0
        have k0 := fun d os => cell_regrown a0 d os
        have k1 := fun d os => cell_regrown a1 d os
        have k2 := fun d os => cell_regrown a2 d os
        have k3 := fun d os => cell_regrown p0 d os
        have k4 := fun d os => cell_regrown p1 d os
        have k5 := fun d os => cell_regrown p2 d os
        have k6 := fun d os => cell_regrown gl0 d os
        have k7 := fun d os => cell_regrown gr0 d os
        clear D a0 a1 a2 af gl0 gr0 p0 p1 p2 zb
        refine wp_region_below_tail 9 (by kernel_rfl) (by kernel_rfl) ?_
        simp only [List.take_succ_cons, List.take_zero, List.drop_succ_cons, List.drop_zero]
        repeat (first | go_big_quiet_skip | quiet_step (fail))
        refine wpQuiet_nil ?_
        intro _ hw'
        obtain ⟨⟨dq, osq⟩, hw''⟩ := hw'
        subst hw''
        have bq := below_regrown w1 dq osq
        generalize grow (redrawn w1 dq) osq = w3 at bq ⊢
        clear k0 k1 k2 k3 k4 k5 k6 k7
        have DX := Lib.hid (DX.out.below bq)
        have RX := Lib.hid (RX.out.below bq)
        have FX := Lib.hid (FX.out.then_below bq)
        have gl0 := DX.out.ol.cell hj
        have gr0 := DX.out.or_.cell (i := j) hjr
        have gf := DX.out.ol.free j
        have gg := DX.out.or_.free j
        clear bq
        obtain ⟨p0, p1, p2⟩ := RX.out.2
        have hN := HF.out
        rw [if_pos ⟨HY1.out, HV1.out⟩, if_neg HV7.out] at hN
        have HN := Lib.hid hN
        clear hN
        go_wp2
        go_ret
        exact LearnP.yes HN.out (DX.out.setL j v) (FX.out.setF (.inl rfl) DX.out.bl j _)
    · skip
      have ty : (y != (-1 : Int)) = false := by simp [hy1]
      have te : (y == (-1 : Int)) = true := by simp [hy1]
      have HY1 := Lib.hid hy1
      clear hy1
      have tv : (v != x + 1) = true := by simp [hv1]
      have HV1 := Lib.hid hv1
      clear hv1
      go_enter Try.func19, Try.ntmps19
      go_upto_region 6 with (fail)
      generalize w.alloc (.cells #[.int .i64 1, .int .i64 j, .int .i64 v] 42) = w0 at DX RX FX ⊢
      have D := DX.out
      obtain ⟨p0, p1, p2⟩ := RX.out.2
      obtain ⟨zb, a0, a1, a2, af⟩ := D.at_
      have gl0 := D.ol.cell hj
      have gr0 := D.or_.cell (i := j) hjr
      rw [HX.out] at gl0
      rw [HY.out] at gr0
      have k0 := fun d os => cell_regrown a0 d os
      have k1 := fun d os => cell_regrown a1 d os
      have k2 := fun d os => cell_regrown a2 d os
      have k3 := fun d os => cell_regrown p0 d os
      have k4 := fun d os => cell_regrown p1 d os
      have k5 := fun d os => cell_regrown p2 d os
      have k6 := fun d os => cell_regrown gl0 d os
      have k7 := fun d os => cell_regrown gr0 d os
      clear D a0 a1 a2 af gl0 gr0 p0 p1 p2 zb
      refine wp_region_quiet_below (by kernel_rfl) (by kernel_rfl) ?_
      repeat (first | go_big_quiet_skip | quiet_step (fail))
      refine wpQuiet_nil ?_
      intro _ hw'
      obtain ⟨⟨dq, osq⟩, hw''⟩ := hw'
      subst hw''
      have bq := below_regrown w0 dq osq
      generalize grow (redrawn w0 dq) osq = w1 at bq ⊢
      clear k0 k1 k2 k3 k4 k5 k6 k7
      have DX := Lib.hid (DX.out.below bq)
      have RX := Lib.hid (RX.out.below bq)
      have FX := Lib.hid (FX.out.then_below bq)
      clear bq
      have hN := HF.out
      rw [if_neg (fun h => HV1.out h.2)] at hN
      have HN := Lib.hid hN
      clear hN
      go_wp2
      go_ret
      exact LearnP.no HN.out DX.out FX.out
  · skip
    have ty : (y != (-1 : Int)) = true := by simp [hy1]
    have te : (y == (-1 : Int)) = false := by simp [hy1]
    have HY1 := Lib.hid hy1
    clear hy1
    go_enter Try.func19, Try.ntmps19
    go_upto_region 6 with (fail)
    generalize w.alloc (.cells #[.int .i64 1, .int .i64 j, .int .i64 v] 42) = w0 at DX RX FX ⊢
    have D := DX.out
    obtain ⟨p0, p1, p2⟩ := RX.out.2
    obtain ⟨zb, a0, a1, a2, af⟩ := D.at_
    have gl0 := D.ol.cell hj
    have gr0 := D.or_.cell (i := j) hjr
    rw [HX.out] at gl0
    rw [HY.out] at gr0
    have k0 := fun d os => cell_regrown a0 d os
    have k1 := fun d os => cell_regrown a1 d os
    have k2 := fun d os => cell_regrown a2 d os
    have k3 := fun d os => cell_regrown p0 d os
    have k4 := fun d os => cell_regrown p1 d os
    have k5 := fun d os => cell_regrown p2 d os
    have k6 := fun d os => cell_regrown gl0 d os
    have k7 := fun d os => cell_regrown gr0 d os
    clear D a0 a1 a2 af gl0 gr0 p0 p1 p2 zb
    refine wp_region_quiet_below (by kernel_rfl) (by kernel_rfl) ?_
    repeat (first | go_big_quiet_skip | quiet_step (fail))
    refine wpQuiet_nil ?_
    intro _ hw'
    obtain ⟨⟨dq, osq⟩, hw''⟩ := hw'
    subst hw''
    have bq := below_regrown w0 dq osq
    generalize grow (redrawn w0 dq) osq = w1 at bq ⊢
    clear k0 k1 k2 k3 k4 k5 k6 k7
    have DX := Lib.hid (DX.out.below bq)
    have RX := Lib.hid (RX.out.below bq)
    have FX := Lib.hid (FX.out.then_below bq)
    clear bq
    have hN := HF.out
    rw [if_neg (fun h => HY1.out h.1)] at hN
    have HN := Lib.hid hN
    clear hN
    go_wp2
    go_ret
    exact LearnP.no HN.out DX.out FX.out
set_option maxHeartbeats 8000000 in
theorem l09Learn_2 {base b o gl cl gr cr j : Nat} {lv rs : List Int} (outs v : Int) (w : World) (hD : DeskIs w base b o gl cl gr cr lv rs outs) (hj : j < lv.length) (hn : lv.length ≤ 1000000)
    (hx1 : ∀ x ∈ lv, -1000000000 ≤ x ∧ x ≤ 1000000000) (ho1 : 0 ≤ outs) (ho2 : outs ≤ 1000000000) :
    Calls Try.prog 19 #[.pointer (some ⟨b, o, none⟩), .agg #[.int .i64 2, .int .i64 j, .int .i64 v]] w (LearnP w base b o gl cl gr cr lv rs outs 2 j v) := by
  obtain ⟨x, hx⟩ : ∃ x, lv[j]'hj = x := ⟨_, rfl⟩
  have hjr : j < rs.length := by rw [hD.len]; exact hj
  obtain ⟨y, hy⟩ : ∃ y, rs[j]'hjr = y := ⟨_, rfl⟩
  have hxb := hx1 _ (List.getElem_mem hj)
  rw [hx] at hxb
  have hxl : -1000000000 ≤ x := hxb.1
  have hxu : x ≤ 1000000000 := hxb.2
  have hgx : lv.getD j 0 = x := by rw [← hx]; simp [hj]
  have hgy : rs.getD j 0 = y := by rw [← hy]; simp [hjr]
  have HX := Lib.hid hx
  have HY := Lib.hid hy
  have HF := Lib.hid (show learnF lv rs outs 2 j v = (if y = -1 then some (lv, rs.set j v, outs) else none) by unfold learnF; simp only [Int.toNat_natCast, hgx, hgy]; simp)
  have hwr : IntKind.i64.wrap (x + 1) = x + 1 := IntWalk.i64_in _ (by omega)
  have hji : (0 : Int) ≤ (j : Int) := by omega
  have hjl : (j : Int) < (lv.length : Int) := by omega
  have hgl := (hD.ol.lt gl rfl).2
  have hgr := (hD.or_.lt gr rfl).2
  have hbb := hD.at_.1
  have n1 : ¬ w.heap.size = gl := by omega
  have n2 : ¬ w.heap.size = gr := by omega
  have n3 : ¬ gl = w.heap.size := by omega
  have n4 : ¬ gr = w.heap.size := by omega
  have n5 := hD.lr
  have n6 := hD.bl
  have n7 := hD.br
  have bx : Below w.heap.size w (w.alloc (.cells #[.int .i64 2, .int .i64 j, .int .i64 v] 42)) := (Below.refl _ _).alloc (Nat.le_refl _) _
  have DX := Lib.hid (hD.below bx)
  have RX := Lib.hid (rec3At_new w 2 j v)
  have FX := Lib.hid (FrD.of_below (o := o) (gl := gl) (gr := gr) bx hbb)
  clear hx1 hxb hx hy hgx hgy hD bx
  by_cases hy1 : y = -1
  · skip
    have ty : (y != (-1 : Int)) = false := by simp [hy1]
    have te : (y == (-1 : Int)) = true := by simp [hy1]
    have HY1 := Lib.hid hy1
    clear hy1
    go_enter Try.func19, Try.ntmps19
    go_upto_region 12 with (fail)
    generalize w.alloc (.cells #[.int .i64 2, .int .i64 j, .int .i64 v] 42) = w0 at DX RX FX ⊢
    have D := DX.out
    obtain ⟨p0, p1, p2⟩ := RX.out.2
    obtain ⟨zb, a0, a1, a2, af⟩ := D.at_
    have gl0 := D.ol.cell hj
    have gr0 := D.or_.cell (i := j) hjr
    rw [HX.out] at gl0
    rw [HY.out] at gr0
    have k0 := fun d os => cell_regrown a0 d os
    have k1 := fun d os => cell_regrown a1 d os
    have k2 := fun d os => cell_regrown a2 d os
    have k3 := fun d os => cell_regrown p0 d os
    have k4 := fun d os => cell_regrown p1 d os
    have k5 := fun d os => cell_regrown p2 d os
    have k6 := fun d os => cell_regrown gl0 d os
    have k7 := fun d os => cell_regrown gr0 d os
    clear D a0 a1 a2 af gl0 gr0 p0 p1 p2 zb
    refine wp_region_quiet_below (by kernel_rfl) (by kernel_rfl) ?_
    repeat (first | go_big_quiet_skip | quiet_step (fail))
    refine wpQuiet_nil ?_
    intro _ hw'
    obtain ⟨⟨dq, osq⟩, hw''⟩ := hw'
    subst hw''
    have bq := below_regrown w0 dq osq
    generalize grow (redrawn w0 dq) osq = w1 at bq ⊢
    clear k0 k1 k2 k3 k4 k5 k6 k7
    have DX := Lib.hid (DX.out.below bq)
    have RX := Lib.hid (RX.out.below bq)
    have FX := Lib.hid (FX.out.then_below bq)
    clear bq
    go_wp2_with fail
    have D := DX.out
    obtain ⟨p0, p1, p2⟩ := RX.out.2
    obtain ⟨zb, a0, a1, a2, af⟩ := D.at_
    have gl0 := D.ol.cell hj
    have gr0 := D.or_.cell (i := j) hjr
    rw [HX.out] at gl0
    rw [HY.out] at gr0
    have k0 := fun d os => cell_regrown a0 d os
    have k1 := fun d os => cell_regrown a1 d os
    have k2 := fun d os => cell_regrown a2 d os
    have k3 := fun d os => cell_regrown p0 d os
    have k4 := fun d os => cell_regrown p1 d os
    have k5 := fun d os => cell_regrown p2 d os
    have k6 := fun d os => cell_regrown gl0 d os
    have k7 := fun d os => cell_regrown gr0 d os
    clear D a0 a1 a2 af gl0 gr0 p0 p1 p2 zb
    refine wp_region_below_tail 9 (by kernel_rfl) (by kernel_rfl) ?_
    simp only [List.take_succ_cons, List.take_zero, List.drop_succ_cons, List.drop_zero]
    repeat (first | go_big_quiet_skip | quiet_step (fail))
    refine wpQuiet_nil ?_
    intro _ hw'
    obtain ⟨⟨dq, osq⟩, hw''⟩ := hw'
    subst hw''
    have bq := below_regrown w1 dq osq
    generalize grow (redrawn w1 dq) osq = w2 at bq ⊢
    clear k0 k1 k2 k3 k4 k5 k6 k7
    have DX := Lib.hid (DX.out.below bq)
    have RX := Lib.hid (RX.out.below bq)
    have FX := Lib.hid (FX.out.then_below bq)
    have gl0 := DX.out.ol.cell hj
    have gr0 := DX.out.or_.cell (i := j) hjr
    have gf := DX.out.ol.free j
    have gg := DX.out.or_.free j
    clear bq
    have hN := HF.out
    rw [if_pos HY1.out] at hN
    have HN := Lib.hid hN
    clear hN
    go_wp2
    go_ret
    exact LearnP.yes HN.out (DX.out.setR j v) (FX.out.setF (.inr rfl) DX.out.br j _)
  · skip
    have ty : (y != (-1 : Int)) = true := by simp [hy1]
    have te : (y == (-1 : Int)) = false := by simp [hy1]
    have HY1 := Lib.hid hy1
    clear hy1
    go_enter Try.func19, Try.ntmps19
    go_upto_region 12 with (fail)
    generalize w.alloc (.cells #[.int .i64 2, .int .i64 j, .int .i64 v] 42) = w0 at DX RX FX ⊢
    have D := DX.out
    obtain ⟨p0, p1, p2⟩ := RX.out.2
    obtain ⟨zb, a0, a1, a2, af⟩ := D.at_
    have gl0 := D.ol.cell hj
    have gr0 := D.or_.cell (i := j) hjr
    rw [HX.out] at gl0
    rw [HY.out] at gr0
    have k0 := fun d os => cell_regrown a0 d os
    have k1 := fun d os => cell_regrown a1 d os
    have k2 := fun d os => cell_regrown a2 d os
    have k3 := fun d os => cell_regrown p0 d os
    have k4 := fun d os => cell_regrown p1 d os
    have k5 := fun d os => cell_regrown p2 d os
    have k6 := fun d os => cell_regrown gl0 d os
    have k7 := fun d os => cell_regrown gr0 d os
    clear D a0 a1 a2 af gl0 gr0 p0 p1 p2 zb
    refine wp_region_quiet_below (by kernel_rfl) (by kernel_rfl) ?_
    repeat (first | go_big_quiet_skip | quiet_step (fail))
    refine wpQuiet_nil ?_
    intro _ hw'
    obtain ⟨⟨dq, osq⟩, hw''⟩ := hw'
    subst hw''
    have bq := below_regrown w0 dq osq
    generalize grow (redrawn w0 dq) osq = w1 at bq ⊢
    clear k0 k1 k2 k3 k4 k5 k6 k7
    have DX := Lib.hid (DX.out.below bq)
    have RX := Lib.hid (RX.out.below bq)
    have FX := Lib.hid (FX.out.then_below bq)
    clear bq
    have hN := HF.out
    rw [if_neg HY1.out] at hN
    have HN := Lib.hid hN
    clear hN
    go_wp2
    go_ret
    exact LearnP.no HN.out DX.out FX.out
set_option maxHeartbeats 8000000 in
theorem l09Learn_3 {base b o gl cl gr cr j : Nat} {lv rs : List Int} (outs v : Int) (w : World) (hD : DeskIs w base b o gl cl gr cr lv rs outs) (hj : j < lv.length) (hn : lv.length ≤ 1000000)
    (hx1 : ∀ x ∈ lv, -1000000000 ≤ x ∧ x ≤ 1000000000) (ho1 : 0 ≤ outs) (ho2 : outs ≤ 1000000000) :
    Calls Try.prog 19 #[.pointer (some ⟨b, o, none⟩), .agg #[.int .i64 3, .int .i64 j, .int .i64 v]] w (LearnP w base b o gl cl gr cr lv rs outs 3 j v) := by
  obtain ⟨x, hx⟩ : ∃ x, lv[j]'hj = x := ⟨_, rfl⟩
  have hjr : j < rs.length := by rw [hD.len]; exact hj
  obtain ⟨y, hy⟩ : ∃ y, rs[j]'hjr = y := ⟨_, rfl⟩
  have hxb := hx1 _ (List.getElem_mem hj)
  rw [hx] at hxb
  have hxl : -1000000000 ≤ x := hxb.1
  have hxu : x ≤ 1000000000 := hxb.2
  have hgx : lv.getD j 0 = x := by rw [← hx]; simp [hj]
  have hgy : rs.getD j 0 = y := by rw [← hy]; simp [hjr]
  have HX := Lib.hid hx
  have HY := Lib.hid hy
  have HF := Lib.hid (show learnF lv rs outs 3 j v = (if ¬ y = -1 ∧ (j : Int) = outs then some (lv, rs, outs + 1) else none) by unfold learnF; simp only [Int.toNat_natCast, hgx, hgy]; simp)
  have hwr : IntKind.i64.wrap (x + 1) = x + 1 := IntWalk.i64_in _ (by omega)
  have hji : (0 : Int) ≤ (j : Int) := by omega
  have hjl : (j : Int) < (lv.length : Int) := by omega
  have hgl := (hD.ol.lt gl rfl).2
  have hgr := (hD.or_.lt gr rfl).2
  have hbb := hD.at_.1
  have n1 : ¬ w.heap.size = gl := by omega
  have n2 : ¬ w.heap.size = gr := by omega
  have n3 : ¬ gl = w.heap.size := by omega
  have n4 : ¬ gr = w.heap.size := by omega
  have n5 := hD.lr
  have n6 := hD.bl
  have n7 := hD.br
  have bx : Below w.heap.size w (w.alloc (.cells #[.int .i64 3, .int .i64 j, .int .i64 v] 42)) := (Below.refl _ _).alloc (Nat.le_refl _) _
  have DX := Lib.hid (hD.below bx)
  have RX := Lib.hid (rec3At_new w 3 j v)
  have FX := Lib.hid (FrD.of_below (o := o) (gl := gl) (gr := gr) bx hbb)
  clear hx1 hxb hx hy hgx hgy hD bx
  by_cases hy1 : y = -1
  · skip
    have ty : (y != (-1 : Int)) = false := by simp [hy1]
    have te : (y == (-1 : Int)) = true := by simp [hy1]
    have HY1 := Lib.hid hy1
    clear hy1
    go_enter Try.func19, Try.ntmps19
    go_upto_region 2 with (fail)
    generalize w.alloc (.cells #[.int .i64 3, .int .i64 j, .int .i64 v] 42) = w0 at DX RX FX ⊢
    have D := DX.out
    obtain ⟨p0, p1, p2⟩ := RX.out.2
    obtain ⟨zb, a0, a1, a2, af⟩ := D.at_
    have gl0 := D.ol.cell hj
    have gr0 := D.or_.cell (i := j) hjr
    rw [HX.out] at gl0
    rw [HY.out] at gr0
    have k0 := fun d os => cell_regrown a0 d os
    have k1 := fun d os => cell_regrown a1 d os
    have k2 := fun d os => cell_regrown a2 d os
    have k3 := fun d os => cell_regrown p0 d os
    have k4 := fun d os => cell_regrown p1 d os
    have k5 := fun d os => cell_regrown p2 d os
    have k6 := fun d os => cell_regrown gl0 d os
    have k7 := fun d os => cell_regrown gr0 d os
    clear D a0 a1 a2 af gl0 gr0 p0 p1 p2 zb
    refine wp_region_quiet_below (by kernel_rfl) (by kernel_rfl) ?_
    repeat (first | go_big_quiet_skip | quiet_step (fail))
    refine wpQuiet_nil ?_
    intro _ hw'
    obtain ⟨⟨dq, osq⟩, hw''⟩ := hw'
    subst hw''
    have bq := below_regrown w0 dq osq
    generalize grow (redrawn w0 dq) osq = w1 at bq ⊢
    clear k0 k1 k2 k3 k4 k5 k6 k7
    have DX := Lib.hid (DX.out.below bq)
    have RX := Lib.hid (RX.out.below bq)
    have FX := Lib.hid (FX.out.then_below bq)
    clear bq
    have hN := HF.out
    rw [if_neg (fun h => h.1 HY1.out)] at hN
    have HN := Lib.hid hN
    clear hN
    go_wp2
    go_ret
    exact LearnP.no HN.out DX.out FX.out
  · by_cases hjo : (j : Int) = outs
    · skip
      have tj : ((j : Int) != outs) = false := by simp [hjo]
      have HJO := Lib.hid hjo
      clear hjo
      have ty : (y != (-1 : Int)) = true := by simp [hy1]
      have te : (y == (-1 : Int)) = false := by simp [hy1]
      have HY1 := Lib.hid hy1
      clear hy1
      go_enter Try.func19, Try.ntmps19
      go_upto_region 2 with (fail)
      generalize w.alloc (.cells #[.int .i64 3, .int .i64 j, .int .i64 v] 42) = w0 at DX RX FX ⊢
      have D := DX.out
      obtain ⟨p0, p1, p2⟩ := RX.out.2
      obtain ⟨zb, a0, a1, a2, af⟩ := D.at_
      have gl0 := D.ol.cell hj
      have gr0 := D.or_.cell (i := j) hjr
      rw [HX.out] at gl0
      rw [HY.out] at gr0
      have k0 := fun d os => cell_regrown a0 d os
      have k1 := fun d os => cell_regrown a1 d os
      have k2 := fun d os => cell_regrown a2 d os
      have k3 := fun d os => cell_regrown p0 d os
      have k4 := fun d os => cell_regrown p1 d os
      have k5 := fun d os => cell_regrown p2 d os
      have k6 := fun d os => cell_regrown gl0 d os
      have k7 := fun d os => cell_regrown gr0 d os
      clear D a0 a1 a2 af gl0 gr0 p0 p1 p2 zb
      refine wp_region_quiet_below (by kernel_rfl) (by kernel_rfl) ?_
      repeat (first | go_big_quiet_skip | quiet_step (fail))
      refine wpQuiet_nil ?_
      intro _ hw'
      obtain ⟨⟨dq, osq⟩, hw''⟩ := hw'
      subst hw''
      have bq := below_regrown w0 dq osq
      generalize grow (redrawn w0 dq) osq = w1 at bq ⊢
      clear k0 k1 k2 k3 k4 k5 k6 k7
      have DX := Lib.hid (DX.out.below bq)
      have RX := Lib.hid (RX.out.below bq)
      have FX := Lib.hid (FX.out.then_below bq)
      clear bq
      obtain ⟨zb, a0, a1, a2, af⟩ := DX.out.at_
      have hN := HF.out
      rw [if_pos ⟨HY1.out, HJO.out⟩] at hN
      have HN := Lib.hid hN
      clear hN
      go_wp2
      go_ret
      exact LearnP.yes HN.out (DX.out.setO (outs + 1)) (FX.out.setO _)
    · skip
      have tj : ((j : Int) != outs) = true := by simp [hjo]
      have HJO := Lib.hid hjo
      clear hjo
      have ty : (y != (-1 : Int)) = true := by simp [hy1]
      have te : (y == (-1 : Int)) = false := by simp [hy1]
      have HY1 := Lib.hid hy1
      clear hy1
      go_enter Try.func19, Try.ntmps19
      go_upto_region 2 with (fail)
      generalize w.alloc (.cells #[.int .i64 3, .int .i64 j, .int .i64 v] 42) = w0 at DX RX FX ⊢
      have D := DX.out
      obtain ⟨p0, p1, p2⟩ := RX.out.2
      obtain ⟨zb, a0, a1, a2, af⟩ := D.at_
      have gl0 := D.ol.cell hj
      have gr0 := D.or_.cell (i := j) hjr
      rw [HX.out] at gl0
      rw [HY.out] at gr0
      have k0 := fun d os => cell_regrown a0 d os
      have k1 := fun d os => cell_regrown a1 d os
      have k2 := fun d os => cell_regrown a2 d os
      have k3 := fun d os => cell_regrown p0 d os
      have k4 := fun d os => cell_regrown p1 d os
      have k5 := fun d os => cell_regrown p2 d os
      have k6 := fun d os => cell_regrown gl0 d os
      have k7 := fun d os => cell_regrown gr0 d os
      clear D a0 a1 a2 af gl0 gr0 p0 p1 p2 zb
      refine wp_region_quiet_below (by kernel_rfl) (by kernel_rfl) ?_
      repeat (first | go_big_quiet_skip | quiet_step (fail))
      refine wpQuiet_nil ?_
      intro _ hw'
      obtain ⟨⟨dq, osq⟩, hw''⟩ := hw'
      subst hw''
      have bq := below_regrown w0 dq osq
      generalize grow (redrawn w0 dq) osq = w1 at bq ⊢
      clear k0 k1 k2 k3 k4 k5 k6 k7
      have DX := Lib.hid (DX.out.below bq)
      have RX := Lib.hid (RX.out.below bq)
      have FX := Lib.hid (FX.out.then_below bq)
      clear bq
      have hN := HF.out
      rw [if_neg (fun h => HJO.out h.2)] at hN
      have HN := Lib.hid hN
      clear hN
      go_wp2
      go_ret
      exact LearnP.no HN.out DX.out FX.out
theorem l09Learn_any {base b o gl cl gr cr j : Nat} {lv rs : List Int} (k outs v : Int) (w : World) (hk : k = 1 ∨ k = 2 ∨ k = 3) (hD : DeskIs w base b o gl cl gr cr lv rs outs) (hj : j < lv.length) (hn : lv.length ≤ 1000000)
    (hx1 : ∀ x ∈ lv, -1000000000 ≤ x ∧ x ≤ 1000000000) (ho1 : 0 ≤ outs) (ho2 : outs ≤ 1000000000) :
    Calls Try.prog 19 #[.pointer (some ⟨b, o, none⟩), .agg #[.int .i64 k, .int .i64 j, .int .i64 v]] w (LearnP w base b o gl cl gr cr lv rs outs k j v) := by
  rcases hk with rfl | rfl | rfl
  · exact l09Learn_1 outs v w hD hj hn hx1 ho1 ho2
  · exact l09Learn_2 outs v w hD hj hn hx1 ho1 ho2
  · exact l09Learn_3 outs v w hD hj hn hx1 ho1 ho2
end Go.Proofs.Ytihjadffdjjogaa
namespace Go.Proofs.Ytihjadffdjjogaa
open Go.RowKit Go.Sort
def wordK : Nat → ByteArray
  | 1 => upB
  | 2 => gotB
  | 3 => outB
  | _ => ⟨#[]⟩
def MatchK (line : ByteArray) (k : Nat) : Prop := (behindG line (wordK k)).2 = true ∧ (behindG line (wordK k)).1.length = if k = 3 then 1 else 2
theorem behind_yes {line word : ByteArray} (h : (behindG line word).2 = true) : (cuts line 32).getD 0 ⟨#[]⟩ = word ∧ behindG line word = readsG ((cuts line 32).drop 1) [] := by
  unfold behindG at h ⊢
  split at h
  · rename_i h2; exact ⟨h2, if_pos h2⟩
  · simp at h
theorem match_rec {line : ByteArray} {k : Nat} (h : MatchK line k) (hk : k = 1 ∨ k = 2) : readRecR line = ((k : Int), (behindG line (wordK k)).1.getD 0 0, (behindG line (wordK k)).1.getD 1 0) := by
  obtain ⟨h1, h2⟩ := h
  obtain ⟨h3, h4⟩ := behind_yes h1
  rw [h4] at h1 h2 ⊢
  unfold readRecR recPick
  rw [h3, if_pos h1]
  rcases hk with rfl | rfl
  · rw [if_pos ⟨rfl, h2⟩]; rfl
  · rw [if_neg (by rintro ⟨e, _⟩; revert e; decide), if_pos ⟨rfl, h2⟩]; rfl
theorem match_out {line : ByteArray} (h : MatchK line 3) : readRecR line = (3, (behindG line (wordK 3)).1.getD 0 0, 0) := by
  obtain ⟨h1, h2⟩ := h
  obtain ⟨h3, h4⟩ := behind_yes h1
  rw [h4] at h1 h2 ⊢
  unfold readRecR recPick
  rw [h3, if_pos h1]
  rw [if_neg (by rintro ⟨e, _⟩; revert e; decide), if_neg (by rintro ⟨e, _⟩; revert e; decide), if_pos ⟨rfl, h2⟩]
theorem match_none {line : ByteArray} (h1 : ¬ MatchK line 1) (h2 : ¬ MatchK line 2) (h3 : ¬ MatchK line 3) : readRecR line = (0, 0, 0) := by
  have key : ∀ k, (cuts line 32).getD 0 ⟨#[]⟩ = wordK k → behindG line (wordK k) = readsG ((cuts line 32).drop 1) [] := by
    intro k e; unfold behindG; rw [if_pos e]
  unfold readRecR recPick
  split
  · rename_i hok
    split
    · rename_i h; exact absurd ⟨by rw [key 1 h.1]; exact hok, by rw [key 1 h.1]; exact h.2⟩ h1
    · split
      · rename_i h; exact absurd ⟨by rw [key 2 h.1]; exact hok, by rw [key 2 h.1]; exact h.2⟩ h2
      · split
        · rename_i h; exact absurd ⟨by rw [key 3 h.1]; exact hok, by rw [key 3 h.1]; exact h.2⟩ h3
        · rfl
  · rfl
def recV (r : Int × Int × Int) : Value := .agg #[.int .i64 r.1, .int .i64 r.2.1, .int .i64 r.2.2]
set_option maxHeartbeats 8000000 in
theorem readRecord_any (line : ByteArray) (w : World) (hs : line.size ≤ 1048576) :
    Calls Try.prog 24 #[.string line] w fun e w' => e = .returned (recV (readRecR line)) ∧ Below w.heap.size w w' := by
  have bx : Below w.heap.size w (w.alloc (.cells #[.int .i64 0, .int .i64 0, .int .i64 0] 42)) := (Below.refl _ _).alloc (Nat.le_refl _) _
  have QW := Lib.hid (fun W (h : Below (w.alloc (.cells #[.int .i64 0, .int .i64 0, .int .i64 0] 42)).heap.size (w.alloc (.cells #[.int .i64 0, .int .i64 0, .int .i64 0] 42)) W) =>
    show (W.cell? ⟨w.heap.size, 0, none⟩ = some (.int .i64 0) ∧ W.cell? ⟨w.heap.size, 1, none⟩ = some (.int .i64 0) ∧ W.cell? ⟨w.heap.size, 2, none⟩ = some (.int .i64 0)) ∧ W.frozen? ⟨w.heap.size, 0, none⟩ = false ∧ W.frozen? ⟨w.heap.size, 1, none⟩ = false ∧ W.frozen? ⟨w.heap.size, 2, none⟩ = false from by
      have a0 := h.cell (p := ⟨w.heap.size, 0, none⟩) (by simp)
      have a1 := h.cell (p := ⟨w.heap.size, 1, none⟩) (by simp)
      have a2 := h.cell (p := ⟨w.heap.size, 2, none⟩) (by simp)
      have f0 := h.frozen (p := ⟨w.heap.size, 0, none⟩) (by simp)
      have f1 := h.frozen (p := ⟨w.heap.size, 1, none⟩) (by simp)
      have f2 := h.frozen (p := ⟨w.heap.size, 2, none⟩) (by simp)
      simp [go_sem] at a0 a1 a2 f0 f1 f2
      exact ⟨⟨a0, a1, a2⟩, f0, f1, f2⟩)
  have j0 : ∀ W : World, (Instr.index 79 (.agg #[.string ⟨#[]⟩, .string ⟨#[117, 112]⟩, .string ⟨#[103, 111, 116]⟩, .string ⟨#[111, 117, 116]⟩]) (.int .i64 0)).run Try.prog W = .ok (.string ⟨#[]⟩) W := fun _ => by kernel_rfl
  have j1 : ∀ W : World, (Instr.index 79 (.agg #[.string ⟨#[]⟩, .string ⟨#[117, 112]⟩, .string ⟨#[103, 111, 116]⟩, .string ⟨#[111, 117, 116]⟩]) (.int .i64 1)).run Try.prog W = .ok (.string ⟨#[117, 112]⟩) W := fun _ => by kernel_rfl
  have j2 : ∀ W : World, (Instr.index 79 (.agg #[.string ⟨#[]⟩, .string ⟨#[117, 112]⟩, .string ⟨#[103, 111, 116]⟩, .string ⟨#[111, 117, 116]⟩]) (.int .i64 2)).run Try.prog W = .ok (.string ⟨#[103, 111, 116]⟩) W := fun _ => by kernel_rfl
  have j3 : ∀ W : World, (Instr.index 79 (.agg #[.string ⟨#[]⟩, .string ⟨#[117, 112]⟩, .string ⟨#[103, 111, 116]⟩, .string ⟨#[111, 117, 116]⟩]) (.int .i64 3)).run Try.prog W = .ok (.string ⟨#[111, 117, 116]⟩) W := fun _ => by kernel_rfl
  go_enter Try.func24, Try.ntmps24
  go_wp2
  go_loopw [3, 4, 5, 6, 8, 18, 25, 37] (fun _ _ _ _ i _ _ _ wr => ∃ k : Nat, k ≤ 4 ∧ i = .int .i64 k ∧ Hid (∀ j : Nat, 1 ≤ j → j < k → ¬ MatchK line j) ∧ Below (w.alloc (.cells #[.int .i64 0, .int .i64 0, .int .i64 0] 42)).heap.size (w.alloc (.cells #[.int .i64 0, .int .i64 0, .int .i64 0] 42)) wr) (fun _ _ _ _ i _ _ _ _ => 4 - (intOf i).toNat)
  case atStart => exact ⟨0, by omega, rfl, (fun j h1 h2 => absurd h2 (by omega)), Below.refl _ _⟩
  case round =>
    obtain ⟨k, hk, rfl, hno, hbr⟩ := hrel
    have hbz := hbr.size
    rcases (show k = 0 ∨ k = 1 ∨ k = 2 ∨ k = 3 ∨ k = 4 by omega) with rfl | rfl | rfl | rfl | rfl
    · skip
      have HBB := Lib.hid (rfl : behindG line (wordK 0) = behindG line (wordK 0))
      generalize hbb : behindG line (wordK 0) = R at HBB
      obtain ⟨n, ok⟩ := R
      have HB := Lib.hid hbb
      clear hbb HBB
      cases ok
      · skip
        go_wp2_with fail
        refine (numbersBehind_any line (wordK 0) _ hs).mono ?_
        rintro e w3 ⟨v3, rfl, o3, b3⟩
        rw [HB.out] at o3 ⊢
        unfold tupVB
        have hb3 := hbr.trans (b3.mono hbz)
        obtain ⟨na, nc, rfl, nl1, nl2, _⟩ := id o3.sl
        unfold maxLen at nl2
        go_wp2
        go_roundw
        case rel => exact ⟨1, by omega, by go_num, (fun j h1 h2 => absurd h2 (by omega)), hb3⟩
        case measure => simp [intOf]
      · skip
        go_wp2_with fail
        refine (numbersBehind_any line (wordK 0) _ hs).mono ?_
        rintro e w3 ⟨v3, rfl, o3, b3⟩
        rw [HB.out] at o3 ⊢
        unfold tupVB
        have hb3 := hbr.trans (b3.mono hbz)
        obtain ⟨na, nc, rfl, nl1, nl2, _⟩ := id o3.sl
        unfold maxLen at nl2
        go_wp2
        go_roundw
        case rel => exact ⟨1, by omega, by go_num, (fun j h1 h2 => absurd h2 (by omega)), hb3⟩
        case measure => simp [intOf]
    · skip
      have HBB := Lib.hid (rfl : behindG line (wordK 1) = behindG line (wordK 1))
      generalize hbb : behindG line (wordK 1) = R at HBB
      obtain ⟨n, ok⟩ := R
      have HB := Lib.hid hbb
      clear hbb HBB
      cases ok
      · skip
        go_wp2_with fail
        refine (numbersBehind_any line (wordK 1) _ hs).mono ?_
        rintro e w3 ⟨v3, rfl, o3, b3⟩
        rw [HB.out] at o3 ⊢
        unfold tupVB
        have hb3 := hbr.trans (b3.mono hbz)
        obtain ⟨na, nc, rfl, nl1, nl2, _⟩ := id o3.sl
        unfold maxLen at nl2
        go_wp2
        go_roundw
        case rel => exact ⟨2, by omega, by go_num, (fun j h1 h2 => by rcases Nat.lt_succ_iff_lt_or_eq.1 h2 with h | h; exact hno.out j h1 h; subst h; intro hm; have := hm.1; rw [HB.out] at this; simp at this), hb3⟩
        case measure => simp [intOf]
      · by_cases hl : n.length = 2
        · have HM : Hid (MatchK line 1) := ⟨by rw [HB.out], by rw [HB.out]; exact hl⟩
          have hr := match_rec HM.out (by omega)
          rw [HB.out] at hr
          obtain ⟨n0, n1, rfl⟩ : ∃ n0 n1, n = [n0, n1] := by
            match n, hl with
            | [a, b], _ => exact ⟨a, b, rfl⟩
          simp at hr
          have HR := Lib.hid hr
          clear hr hl
          go_wp2_with fail
          refine (numbersBehind_any line (wordK 1) _ hs).mono ?_
          rintro e w3 ⟨v3, rfl, o3, b3⟩
          rw [HB.out] at o3 ⊢
          unfold tupVB
          have hb3 := hbr.trans (b3.mono hbz)
          obtain ⟨na, nc, rfl, nl1, nl2, _⟩ := id o3.sl
          unfold maxLen at nl2
          obtain ⟨nb, noff, hadr, hnb, g0⟩ := o3.sl.at_ (k := 0) (by simp)
          obtain ⟨nb', noff', hadr', _, g1⟩ := o3.sl.at_ (k := 1) (by simp)
          rw [hadr] at hadr'
          simp at hadr'
          obtain ⟨rfl, rfl⟩ := hadr'
          subst hadr
          simp only [Nat.add_zero, List.getElem_cons_zero, List.getElem_cons_succ] at g0 g1
          have k0 := fun d os => cell_regrown g0 d os
          have k1 := fun d os => cell_regrown g1 d os
          clear g0 g1 o3
          go_wp2_with fail
          refine wp_region_below_tail 8 (by kernel_rfl) (by kernel_rfl) ?_
          simp only [List.take_succ_cons, List.take_zero, List.drop_succ_cons, List.drop_zero]
          repeat (first | go_big_quiet_skip | quiet_step (fail))
          refine wpQuiet_nil ?_
          intro _ hw'
          obtain ⟨⟨dq, osq⟩, hw''⟩ := hw'
          subst hw''
          have bq := hb3.trans ((below_regrown w3 dq osq).mono hb3.size)
          generalize grow (redrawn w3 dq) osq = wq at bq ⊢
          obtain ⟨⟨r0, r1, r2⟩, f0, f1, f2⟩ := QW.out _ bq
          clear k0 k1
          go_wp2
          refine bodyPost_ret (v := recV (readRecR line)) (by rw [HR.out]; simp [results, Try.results24, go_sem, recV, r0, r1, r2]) rfl ⟨rfl, ?_⟩
          have hbq := bx.trans (bq.mono bx.size)
          exact ((hbq.setCell (Nat.le_refl _) _).setCell (Nat.le_refl _) _).setCell (Nat.le_refl _) _
        · have hl2 : ((n.length : Int) == 2) = false := by simp; omega
          have HL2 := Lib.hid hl
          clear hl
          go_wp2_with fail
          refine (numbersBehind_any line (wordK 1) _ hs).mono ?_
          rintro e w3 ⟨v3, rfl, o3, b3⟩
          rw [HB.out] at o3 ⊢
          unfold tupVB
          have hb3 := hbr.trans (b3.mono hbz)
          obtain ⟨na, nc, rfl, nl1, nl2, _⟩ := id o3.sl
          unfold maxLen at nl2
          go_wp2
          go_roundw
          case rel => exact ⟨2, by omega, by go_num, (fun j h1 h2 => by rcases Nat.lt_succ_iff_lt_or_eq.1 h2 with h | h; exact hno.out j h1 h; subst h; intro hm; have := hm.2; rw [HB.out] at this; exact HL2.out this), hb3⟩
          case measure => simp [intOf]
    · skip
      have HBB := Lib.hid (rfl : behindG line (wordK 2) = behindG line (wordK 2))
      generalize hbb : behindG line (wordK 2) = R at HBB
      obtain ⟨n, ok⟩ := R
      have HB := Lib.hid hbb
      clear hbb HBB
      cases ok
      · skip
        go_wp2_with fail
        refine (numbersBehind_any line (wordK 2) _ hs).mono ?_
        rintro e w3 ⟨v3, rfl, o3, b3⟩
        rw [HB.out] at o3 ⊢
        unfold tupVB
        have hb3 := hbr.trans (b3.mono hbz)
        obtain ⟨na, nc, rfl, nl1, nl2, _⟩ := id o3.sl
        unfold maxLen at nl2
        go_wp2
        go_roundw
        case rel => exact ⟨3, by omega, by go_num, (fun j h1 h2 => by rcases Nat.lt_succ_iff_lt_or_eq.1 h2 with h | h; exact hno.out j h1 h; subst h; intro hm; have := hm.1; rw [HB.out] at this; simp at this), hb3⟩
        case measure => simp [intOf]
      · by_cases hl : n.length = 2
        · have HM : Hid (MatchK line 2) := ⟨by rw [HB.out], by rw [HB.out]; exact hl⟩
          have hr := match_rec HM.out (by omega)
          rw [HB.out] at hr
          obtain ⟨n0, n1, rfl⟩ : ∃ n0 n1, n = [n0, n1] := by
            match n, hl with
            | [a, b], _ => exact ⟨a, b, rfl⟩
          simp at hr
          have HR := Lib.hid hr
          clear hr hl
          go_wp2_with fail
          refine (numbersBehind_any line (wordK 2) _ hs).mono ?_
          rintro e w3 ⟨v3, rfl, o3, b3⟩
          rw [HB.out] at o3 ⊢
          unfold tupVB
          have hb3 := hbr.trans (b3.mono hbz)
          obtain ⟨na, nc, rfl, nl1, nl2, _⟩ := id o3.sl
          unfold maxLen at nl2
          obtain ⟨nb, noff, hadr, hnb, g0⟩ := o3.sl.at_ (k := 0) (by simp)
          obtain ⟨nb', noff', hadr', _, g1⟩ := o3.sl.at_ (k := 1) (by simp)
          rw [hadr] at hadr'
          simp at hadr'
          obtain ⟨rfl, rfl⟩ := hadr'
          subst hadr
          simp only [Nat.add_zero, List.getElem_cons_zero, List.getElem_cons_succ] at g0 g1
          have k0 := fun d os => cell_regrown g0 d os
          have k1 := fun d os => cell_regrown g1 d os
          clear g0 g1 o3
          go_wp2_with fail
          refine wp_region_below_tail 8 (by kernel_rfl) (by kernel_rfl) ?_
          simp only [List.take_succ_cons, List.take_zero, List.drop_succ_cons, List.drop_zero]
          repeat (first | go_big_quiet_skip | quiet_step (fail))
          refine wpQuiet_nil ?_
          intro _ hw'
          obtain ⟨⟨dq, osq⟩, hw''⟩ := hw'
          subst hw''
          have bq := hb3.trans ((below_regrown w3 dq osq).mono hb3.size)
          generalize grow (redrawn w3 dq) osq = wq at bq ⊢
          obtain ⟨⟨r0, r1, r2⟩, f0, f1, f2⟩ := QW.out _ bq
          clear k0 k1
          go_wp2
          refine bodyPost_ret (v := recV (readRecR line)) (by rw [HR.out]; simp [results, Try.results24, go_sem, recV, r0, r1, r2]) rfl ⟨rfl, ?_⟩
          have hbq := bx.trans (bq.mono bx.size)
          exact ((hbq.setCell (Nat.le_refl _) _).setCell (Nat.le_refl _) _).setCell (Nat.le_refl _) _
        · have hl2 : ((n.length : Int) == 2) = false := by simp; omega
          have HL2 := Lib.hid hl
          clear hl
          go_wp2_with fail
          refine (numbersBehind_any line (wordK 2) _ hs).mono ?_
          rintro e w3 ⟨v3, rfl, o3, b3⟩
          rw [HB.out] at o3 ⊢
          unfold tupVB
          have hb3 := hbr.trans (b3.mono hbz)
          obtain ⟨na, nc, rfl, nl1, nl2, _⟩ := id o3.sl
          unfold maxLen at nl2
          go_wp2
          go_roundw
          case rel => exact ⟨3, by omega, by go_num, (fun j h1 h2 => by rcases Nat.lt_succ_iff_lt_or_eq.1 h2 with h | h; exact hno.out j h1 h; subst h; intro hm; have := hm.2; rw [HB.out] at this; exact HL2.out this), hb3⟩
          case measure => simp [intOf]
    · skip
      have HBB := Lib.hid (rfl : behindG line (wordK 3) = behindG line (wordK 3))
      generalize hbb : behindG line (wordK 3) = R at HBB
      obtain ⟨n, ok⟩ := R
      have HB := Lib.hid hbb
      clear hbb HBB
      cases ok
      · skip
        go_wp2_with fail
        refine (numbersBehind_any line (wordK 3) _ hs).mono ?_
        rintro e w3 ⟨v3, rfl, o3, b3⟩
        rw [HB.out] at o3 ⊢
        unfold tupVB
        have hb3 := hbr.trans (b3.mono hbz)
        obtain ⟨na, nc, rfl, nl1, nl2, _⟩ := id o3.sl
        unfold maxLen at nl2
        go_wp2
        go_roundw
        case rel => exact ⟨4, by omega, by go_num, (fun j h1 h2 => by rcases Nat.lt_succ_iff_lt_or_eq.1 h2 with h | h; exact hno.out j h1 h; subst h; intro hm; have := hm.1; rw [HB.out] at this; simp at this), hb3⟩
        case measure => simp [intOf]
      · by_cases hl : n.length = 1
        · have HM : Hid (MatchK line 3) := ⟨by rw [HB.out], by rw [HB.out]; exact hl⟩
          have hr := match_out HM.out
          rw [HB.out] at hr
          obtain ⟨n0, rfl⟩ : ∃ n0, n = [n0] := by
            match n, hl with
            | [a], _ => exact ⟨a, rfl⟩
          simp at hr
          have HR := Lib.hid hr
          clear hr hl
          go_wp2_with fail
          refine (numbersBehind_any line (wordK 3) _ hs).mono ?_
          rintro e w3 ⟨v3, rfl, o3, b3⟩
          rw [HB.out] at o3 ⊢
          unfold tupVB
          have hb3 := hbr.trans (b3.mono hbz)
          obtain ⟨na, nc, rfl, nl1, nl2, _⟩ := id o3.sl
          unfold maxLen at nl2
          obtain ⟨nb, noff, rfl, hnb, g0⟩ := o3.sl.at_ (k := 0) (by simp)
          simp only [Nat.add_zero, List.getElem_cons_zero] at g0
          obtain ⟨⟨r0, r1, r2⟩, f0, f1, f2⟩ := QW.out _ hb3
          clear o3
          go_wp2
          refine bodyPost_ret (v := recV (readRecR line)) (by rw [HR.out]; simp [results, Try.results24, go_sem, recV, r0, r1, r2]) rfl ⟨rfl, ?_⟩
          have hbq := bx.trans (hb3.mono bx.size)
          exact ((hbq.setCell (Nat.le_refl _) _).setCell (Nat.le_refl _) _).setCell (Nat.le_refl _) _
        · have hl2 : ((n.length : Int) == 1) = false := by simp; omega
          have HL2 := Lib.hid hl
          clear hl
          go_wp2_with fail
          refine (numbersBehind_any line (wordK 3) _ hs).mono ?_
          rintro e w3 ⟨v3, rfl, o3, b3⟩
          rw [HB.out] at o3 ⊢
          unfold tupVB
          have hb3 := hbr.trans (b3.mono hbz)
          obtain ⟨na, nc, rfl, nl1, nl2, _⟩ := id o3.sl
          unfold maxLen at nl2
          go_wp2
          go_roundw
          case rel => exact ⟨4, by omega, by go_num, (fun j h1 h2 => by rcases Nat.lt_succ_iff_lt_or_eq.1 h2 with h | h; exact hno.out j h1 h; subst h; intro hm; have := hm.2; rw [HB.out] at this; exact HL2.out this), hb3⟩
          case measure => simp [intOf]
    · obtain ⟨⟨r0, r1, r2⟩, f0, f1, f2⟩ := QW.out _ hbr
      have HR := Lib.hid (match_none (hno.out 1 (by omega) (by omega)) (hno.out 2 (by omega) (by omega)) (hno.out 3 (by omega) (by omega)))
      go_wp2
      refine bodyPost_ret (v := recV (readRecR line)) (by rw [HR.out]; simp [results, Try.results24, go_sem, recV, r0, r1, r2]) rfl ⟨rfl, ?_⟩
      have hbq := bx.trans (hbr.mono bx.size)
      exact ((hbq.setCell (Nat.le_refl _) _).setCell (Nat.le_refl _) _).setCell (Nat.le_refl _) _
end Go.Proofs.Ytihjadffdjjogaa
namespace Go.Proofs.Ytihjadffdjjogaa
open Go.RowKit Go.Sort
def ParseP (st sm : Int) (line : ByteArray) (e : Ending) : Prop :=
  ∃ r : Int × Int × Int, e = .returned (.tuple #[recV r, .bool (parseOk st sm (kindW ((cuts line 32).getD 0 ⟨#[]⟩)) (numsG ((cuts line 32).drop 1) []).1 (numsG ((cuts line 32).drop 1) []).2)]) ∧
    (parseOk st sm (kindW ((cuts line 32).getD 0 ⟨#[]⟩)) (numsG ((cuts line 32).drop 1) []).1 (numsG ((cuts line 32).drop 1) []).2 = true → r = (kindW ((cuts line 32).getD 0 ⟨#[]⟩), (numsG ((cuts line 32).drop 1) []).1.getD 0 0, (numsG ((cuts line 32).drop 1) []).1.getD 1 0))
theorem parse_len {st sm k : Int} {n : List Int} (h : ¬ (n.length = 1 ∨ n.length = 2)) : parseOk st sm k n true = false := by
  unfold parseOk
  by_cases h1 : n.length = 0
  · simp [h1]
  · have : ¬ n.length ≤ 2 := by omega
    simp [this]
theorem parse_mix {st sm k : Int} {n : List Int} (h : (n.length = 1 ∧ ¬ k = 3) ∨ (n.length = 2 ∧ k = 3)) : parseOk st sm k n true = false := by
  unfold parseOk
  rcases h with ⟨h1, h2⟩ | ⟨h1, h2⟩ <;> simp [h1, h2]
theorem parse_go {st sm k : Int} {n : List Int} (h : (n.length = 1 ∧ k = 3) ∨ (n.length = 2 ∧ ¬ k = 3)) : parseOk st sm k n true = recOk st sm k (n.getD 0 0) (n.getD 1 0) := by
  unfold parseOk
  rcases h with ⟨h1, h2⟩ | ⟨h1, h2⟩ <;> simp [h1, h2]
end Go.Proofs.Ytihjadffdjjogaa
namespace Go.Proofs.Ytihjadffdjjogaa
open Go.RowKit Go.Sort
end Go.Proofs.Ytihjadffdjjogaa
namespace Go.Proofs.Ytihjadffdjjogaa
open Go.RowKit Go.Sort
end Go.Proofs.Ytihjadffdjjogaa
namespace Go.Proofs.Ytihjadffdjjogaa
open Go.RowKit Go.Sort
end Go.Proofs.Ytihjadffdjjogaa
namespace Go.Proofs.Ytihjadffdjjogaa
open Go.RowKit Go.Sort
end Go.Proofs.Ytihjadffdjjogaa
namespace Go.Proofs.Ytihjadffdjjogaa
open Go.RowKit Go.Sort
end Go.Proofs.Ytihjadffdjjogaa
