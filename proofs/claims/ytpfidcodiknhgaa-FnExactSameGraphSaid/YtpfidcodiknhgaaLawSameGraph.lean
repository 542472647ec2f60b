/-
  FnExactSameGraph: both say of two graphs the same, and leave them as they were.
-/
import Derived.Test.YtpfidcodiknhgaaSameGraph
import Derived.Deep.RegionWith
import Derived.Deep.DeepCutAuto
namespace Go.Proofs.Ytpfidcodiknhgaa
open Go.RowKit Go.Sort
set_option maxHeartbeats 2000000 in
theorem FnExactSameGraph_walk {u v : Value} {xss yss : List (List Int)} (n m : Int) (w : World) (ha : SlII w u xss) (hb : SlII w v yss) :
    Calls Try.prog 7 #[.agg #[.int .i64 n, u], .agg #[.int .i64 m, v]] w fun e w' => e = .returned (.bool true) ∧ Below w.heap.size w w' := by
  obtain ⟨a, ca, h1⟩ := id ha
  obtain ⟨b, cb, h2⟩ := id hb
  obtain ⟨us, rfl, _⟩ := h1
  obtain ⟨vs, rfl, _⟩ := h2
  have H1 := Lib.hid (fun W (h : Below w.heap.size w W) => ha.below h)
  have H2 := Lib.hid (fun W (h : Below w.heap.size w W) => hb.below h)
  clear ha hb
  have bb := ((Below.refl w.heap.size w).alloc (Nat.le_refl _) (.cells #[.int .i64 n, .slice a xss.length ca] 39)).alloc (by simp) (.cells #[.int .i64 m, .slice b yss.length cb] 39)
  have hr1 := szII_range 1048576 xss (by omega)
  go_enter Try.func7, Try.ntmps7
  go_wp2_with fail
  refine (szGraph_any n 1048576 _ (H1.out _ bb) (by omega) (by omega)).mono ?_
  rintro e w1 ⟨rfl, b1⟩
  have q0 := b1.cell (p := ⟨w.heap.size, 0, none⟩) (by simp <;> omega)
  have q1 := b1.cell (p := ⟨w.heap.size, 1, none⟩) (by simp <;> omega)
  have p0 := b1.cell (p := ⟨w.heap.size + 1, 0, none⟩) (by simp <;> omega)
  have p1 := b1.cell (p := ⟨w.heap.size + 1, 1, none⟩) (by simp <;> omega)
  simp [go_sem] at q0 q1 p0 p1
  have hb1 := bb.trans (b1.mono (by simp <;> omega))
  have z1 := b1.size
  simp at z1
  clear b1
  generalize hz1 : szII 1048576 xss = l1 at hr1
  have HZ1 := Lib.hid hz1
  clear hz1
  by_cases hl1 : l1 < 0
  · go_wp2
    go_ret
    exact ⟨rfl, hb1⟩
  · have hn1 := szII_nonneg (l := 1048576) (xss := xss) (by rw [HZ1.out]; omega)
    have hr2 := szII_range l1 yss (by omega)
    go_wp2_with fail
    refine (szGraph_any m l1 _ (H2.out _ hb1) (by omega) (by omega)).mono ?_
    rintro e w2 ⟨rfl, b2⟩
    have q0' := b2.cell (p := ⟨w.heap.size, 0, none⟩) (by simp <;> omega)
    have q1' := b2.cell (p := ⟨w.heap.size, 1, none⟩) (by simp <;> omega)
    have p0' := b2.cell (p := ⟨w.heap.size + 1, 0, none⟩) (by simp <;> omega)
    have p1' := b2.cell (p := ⟨w.heap.size + 1, 1, none⟩) (by simp <;> omega)
    rw [q0] at q0'
    rw [q1] at q1'
    rw [p0] at p0'
    rw [p1] at p1'
    have hb2 := hb1.trans (b2.mono (by omega))
    have z2 := b2.size
    clear b2 hb1 q0 q1 p0 p1
    generalize hz2 : szII l1 yss = l2 at hr2
    have HZ2 := Lib.hid hz2
    clear hz2
    by_cases hl2 : l2 < 0
    · go_wp2
      go_ret
      exact ⟨rfl, hb2⟩
    · have hn2 := szII_nonneg (l := l1) (xss := yss) (by rw [HZ2.out]; omega)
      have hxl : xss.length ≤ 1048576 := by omega
      have hyl : yss.length ≤ 1048576 := by omega
      have HXR := Lib.hid (fun (r : List Int) (h : r ∈ xss) => (by have := hn1.2.2 r h; omega : r.length ≤ 1048576))
      have HYR := Lib.hid (fun (r : List Int) (h : r ∈ yss) => (by have := hn2.2.2 r h; omega : r.length ≤ 1048576))
      clear hn1 hn2 hr1 hr2 HZ1 HZ2
      generalize hR : (decide (n = m) && decide (xss = yss)) = R
      have HRR := Lib.hid hR
      clear hR
      go_upto_region 8 with (fail)
      go_cut [6] (fun s6 wx => s6 = .bool R ∧ Below w2.heap.size w2 wx)
      case first =>
        have hbz := (Below.refl w2.heap.size w2).drew
        have hz0 : w.heap.size ≤ w2.heap.size := by omega
        have hy0 : w.heap.size < w2.heap.size := by omega
        have hy1 : w.heap.size + 1 < w2.heap.size := by omega
        have Q0 := Lib.hid q0'
        have Q1 := Lib.hid q1'
        have P0 := Lib.hid p0'
        have P1 := Lib.hid p1'
        go_region_with (first
          | (go_at_call 23; (with_reducible refine (toGraph_any n _ (H1.out _ (hb2.trans (hbz.mono hz0))) hxl HXR.out).mono ?_); rintro e w' ⟨vx, rfl, hv, b⟩; have sx := fun W h => hv.sl.below (w' := W) h; have hbz := hbz.trans (b.mono hbz.size); clear hv; have r0 := (hbz.cell (p := ⟨w.heap.size + 1, 0, none⟩) hy1).trans P0.out; have r1 := (hbz.cell (p := ⟨w.heap.size + 1, 1, none⟩) hy1).trans P1.out)
          | (go_at_call 23; (with_reducible refine (toGraph_any m _ (H2.out _ (hb2.trans (hbz.mono hz0))) hyl HYR.out).mono ?_); rintro e w' ⟨vy, rfl, hv, b⟩; have sy := fun W h => hv.sl.below (w' := W) h; have hbz := hbz.trans (b.mono hbz.size); clear hv; have r0 := (hbz.cell (p := ⟨w.heap.size, 0, none⟩) hy0).trans Q0.out; have r1 := (hbz.cell (p := ⟨w.heap.size, 1, none⟩) hy0).trans Q1.out)
          | (go_at_call 22; (with_reducible refine (SpecSameGraph_any n m _ (sx _ b) (sy _ (Below.refl _ _))).mono ?_); rintro e w' ⟨rfl, b⟩; rw [HRR.out]; have hbz := hbz.trans (b.mono hbz.size))
          | (go_at_call 22; (with_reducible refine (SpecSameGraph_any n m _ (sx _ (Below.refl _ _)) (sy _ b)).mono ?_); rintro e w' ⟨rfl, b⟩; rw [HRR.out]; have hbz := hbz.trans (b.mono hbz.size)))
        all_goals (go_wp2_with fail; go_meet; exact ⟨rfl, hbz⟩)
      case rest =>
        obtain ⟨rfl, hbc⟩ := hcut
        have hz0 : w.heap.size ≤ w2.heap.size := by omega
        have hy0 : w.heap.size < w2.heap.size := by omega
        have hy1 : w.heap.size + 1 < w2.heap.size := by omega
        have Q0 := Lib.hid q0'
        have Q1 := Lib.hid q1'
        have P0 := Lib.hid p0'
        have P1 := Lib.hid p1'
        clear q0' q1' p0' p1'
        have r0 := (hbc.cell (p := ⟨w.heap.size, 0, none⟩) hy0).trans Q0.out
        have r1 := (hbc.cell (p := ⟨w.heap.size, 1, none⟩) hy0).trans Q1.out
        go_wp2_with fail
        refine (toGraph_any n _ (H1.out _ (hb2.trans (hbc.mono hz0))) hxl HXR.out).mono ?_
        rintro e w3 ⟨v3, rfl, o3, b3⟩
        have s3 := fun W h => o3.sl.below (w' := W) h
        obtain ⟨a3, c3, _, rfl, _⟩ := id o3.sl
        clear o3 r0 r1
        have hb3 := hbc.trans (b3.mono hbc.size)
        have z3 := hb3.size
        clear hbc b3
        have hb3' := hb3.alloc z3 (.cells #[.int .i64 n, .slice a3 xss.length c3] 42)
        have r0 := (hb3'.cell (p := ⟨w.heap.size + 1, 0, none⟩) hy1).trans P0.out
        have r1 := (hb3'.cell (p := ⟨w.heap.size + 1, 1, none⟩) hy1).trans P1.out
        go_wp2_with fail
        refine (toGraph_any m _ (H2.out _ (hb2.trans (hb3'.mono hz0))) hyl HYR.out).mono ?_
        rintro e w4 ⟨v4, rfl, o4, b4⟩
        have s4 := fun W h => o4.sl.below (w' := W) h
        obtain ⟨a4, c4, _, rfl, _⟩ := id o4.sl
        have hb4 := hb3'.trans (b4.mono hb3'.size)
        have z4 : w3.heap.size + 1 ≤ w4.heap.size := by have := b4.size; simpa using this
        have x0 := b4.cell (p := ⟨w3.heap.size, 0, none⟩) (by simp <;> omega)
        have x1 := b4.cell (p := ⟨w3.heap.size, 1, none⟩) (by simp <;> omega)
        simp [go_sem] at x0 x1
        have hs4 := ((Below.refl w3.heap.size w3).alloc (Nat.le_refl _) (.cells #[.int .i64 n, .slice a3 xss.length c3] 42)).trans (b4.mono (by simp <;> omega))
        clear o4 r0 r1 hb3 hb3' b4
        have hb4' := hb4.alloc hb4.size (.cells #[.int .i64 m, .slice a4 yss.length c4] 42)
        have hs4' := hs4.alloc hs4.size (.cells #[.int .i64 m, .slice a4 yss.length c4] 42)
        have hs44 := (Below.refl w4.heap.size w4).alloc (Nat.le_refl _) (.cells #[.int .i64 m, .slice a4 yss.length c4] 42)
        have g0 : ((w4.alloc (.cells #[.int .i64 m, .slice a4 yss.length c4] 42)).cell? ⟨w3.heap.size, 0, none⟩) = some (.int .i64 n) := by rw [Below.cell hs44 (p := ⟨w3.heap.size, 0, none⟩) (by simp <;> omega)]; exact x0
        have g1 : ((w4.alloc (.cells #[.int .i64 m, .slice a4 yss.length c4] 42)).cell? ⟨w3.heap.size, 1, none⟩) = some (.slice a3 xss.length c3) := by rw [Below.cell hs44 (p := ⟨w3.heap.size, 1, none⟩) (by simp <;> omega)]; exact x1
        go_wp2_with fail
        refine (ImplSameGraph_any n m _ (s3 _ hs4') (s4 _ hs44)).mono ?_
        rintro e w5 ⟨rfl, b5⟩
        rw [HRR.out]
        have z5 : w4.heap.size + 1 ≤ w5.heap.size := by have := b5.size; simpa using this
        have y0 := b5.cell (p := ⟨w4.heap.size, 0, none⟩) (by simp <;> omega)
        have y1 := b5.cell (p := ⟨w4.heap.size, 1, none⟩) (by simp <;> omega)
        have xx0 := b5.cell (p := ⟨w3.heap.size, 0, none⟩) (by simp <;> omega)
        have xx1 := b5.cell (p := ⟨w3.heap.size, 1, none⟩) (by simp <;> omega)
        rw [g0] at xx0
        rw [g1] at xx1
        simp [go_sem] at y0 y1
        have hb5 := hb4'.trans (b5.mono hb4'.size)
        have hs5 := hs4'.trans (b5.mono hs4'.size)
        have hs45 := hs44.trans (b5.mono hs44.size)
        clear b5 hb4 hb4' hs4 hs4' hs44 x0 x1 g0 g1
        have r0 := (hb5.cell (p := ⟨w.heap.size, 0, none⟩) hy0).trans Q0.out
        have r1 := (hb5.cell (p := ⟨w.heap.size, 1, none⟩) hy0).trans Q1.out
        have u0 := (hb5.cell (p := ⟨w.heap.size + 1, 0, none⟩) hy1).trans P0.out
        have u1 := (hb5.cell (p := ⟨w.heap.size + 1, 1, none⟩) hy1).trans P1.out
        have hlt3 : w3.heap.size < w5.heap.size := by omega
        have hlt4 : w4.heap.size < w5.heap.size := by omega
        have hlt0 : w.heap.size < w5.heap.size := by omega
        have hlt1 : w.heap.size + 1 < w5.heap.size := by omega
        have hRR : (R != R) = false := by simp
        have X0 := Lib.hid xx0
        have X1 := Lib.hid xx1
        have Y0 := Lib.hid y0
        have Y1 := Lib.hid y1
        have R0 := Lib.hid r0
        have R1 := Lib.hid r1
        have U0 := Lib.hid u0
        have U1 := Lib.hid u1
        clear u0 u1 y0 y1
        have hb5w := hb2.trans (hb5.mono hz0)
        clear P0 P1 Q0 Q1
        go_upto_region 14 with (fail)
        go_cut [39] (fun s39 wx => s39 = .bool false ∧ Below w5.heap.size w5 wx)
        case first =>
          have hbz := (Below.refl w5.heap.size w5).drew
          go_region_with (first
            | (go_at_call 23; (with_reducible refine (toGraph_any n _ (H1.out _ (hb5w.trans (hbz.mono hb5w.size))) hxl HXR.out).mono ?_); rintro e w' ⟨vx, rfl, hv, b⟩; have sx := hv.sl; have hbz := hbz.trans (b.mono hbz.size); clear hv; have x0 := (hbz.cell (p := ⟨w3.heap.size, 0, none⟩) hlt3).trans X0.out; have x1 := (hbz.cell (p := ⟨w3.heap.size, 1, none⟩) hlt3).trans X1.out)
            | (go_at_call 25; (with_reducible refine (eqGraph_any n n _ (s3 _ (hs5.trans (hbz.mono hs5.size))) sx).mono ?_); rintro e w' ⟨rfl, b⟩; simp only [decide_true, Bool.and_self]; have hbz := hbz.trans (b.mono hbz.size)))
          all_goals (go_wp2_with fail; go_meet; exact ⟨rfl, hbz⟩)
        case rest =>
          obtain ⟨rfl, hbc⟩ := hcut
          have hlt3 : w3.heap.size < w5.heap.size := by omega
          have y0 := (hbc.cell (p := ⟨w4.heap.size, 0, none⟩) hlt4).trans Y0.out
          have y1 := (hbc.cell (p := ⟨w4.heap.size, 1, none⟩) hlt4).trans Y1.out
          have u0 := (hbc.cell (p := ⟨w.heap.size + 1, 0, none⟩) hlt1).trans U0.out
          have u1 := (hbc.cell (p := ⟨w.heap.size + 1, 1, none⟩) hlt1).trans U1.out
          go_upto_region 16 with (fail)
          go_cut [44] (fun s44 wx => s44 = .bool false ∧ Below w5.heap.size w5 wx)
          case first =>
            have hbz := hbc.drew
            go_region_with (first
              | (go_at_call 23; (with_reducible refine (toGraph_any m _ (H2.out _ (hb5w.trans (hbz.mono hb5w.size))) hyl HYR.out).mono ?_); rintro e w' ⟨vx, rfl, hv, b⟩; have sx := hv.sl; have hbz := hbz.trans (b.mono hbz.size); clear hv; have x0 := (hbz.cell (p := ⟨w4.heap.size, 0, none⟩) hlt4).trans Y0.out; have x1 := (hbz.cell (p := ⟨w4.heap.size, 1, none⟩) hlt4).trans Y1.out)
              | (go_at_call 25; (with_reducible refine (eqGraph_any m m _ (s4 _ (hs45.trans (hbz.mono hs45.size))) sx).mono ?_); rintro e w' ⟨rfl, b⟩; simp only [decide_true, Bool.and_self]; have hbz := hbz.trans (b.mono hbz.size)))
            all_goals (go_wp2_with fail; go_meet; exact ⟨rfl, hbz⟩)
          case rest =>
            obtain ⟨rfl, hbc2⟩ := hcut
            go_wp2
            go_ret
            exact ⟨rfl, hb5w.trans (hbc2.mono hb5w.size)⟩
end Go.Proofs.Ytpfidcodiknhgaa
