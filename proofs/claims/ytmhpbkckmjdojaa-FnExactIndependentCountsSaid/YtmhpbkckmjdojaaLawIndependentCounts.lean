/-
  FnExactIndependentCounts: both answer the same, and leave what they are given as it was.
-/
import Derived.Test.YtmhpbkckmjdojaaIndS
import Derived.Test.YtmhpbkckmjdojaaLawG
import Derived.Test.YtmhpbkckmjdojaaLawI
import Derived.Test.YtmhpbkckmjdojaaFrame
import Derived.Deep.RegionWith
import Derived.Deep.DeepCutAuto
namespace Go.Proofs.Ytmhpbkckmjdojaa
open Go.RowKit Go.Sort
set_option linter.unusedVariables false
set_option maxRecDepth 100000 in
set_option maxHeartbeats 4000000 in
theorem FnExactIndependentCounts_walk {u0 : Value} {xss0 : List (List Int)} (n0 : Int) (w : World) (ha0 : SlII w u0 xss0):
    Calls Try.prog 4 #[.agg #[.int .i64 n0, u0]] w fun e w' => e = .returned (.bool true) ∧ Below w.heap.size w w' := by
  obtain ⟨pa0, pc0, pu0, rfl, _⟩ := id ha0
  have hb0 : Below w.heap.size w (w.alloc (argGr n0 (.slice pa0 xss0.length pc0))) := ((Below.refl w.heap.size w).alloc (by simp) (argGr n0 (.slice pa0 xss0.length pc0)))
  have A0 := Lib.hid (argGrBox w n0 (.slice pa0 xss0.length pc0))
  have H0 := Lib.hid (fun W (h : Below w.heap.size w W) => ha0.below h)
  clear ha0
  have hr0 := szII_range 1048576 xss0 (by omega)
  generalize hz0 : szII 1048576 xss0 = l0 at hr0
  have HZ0 := Lib.hid hz0
  clear hz0
  go_enter Try.func4, Try.ntmps4
  obtain ⟨_, q00, q01⟩ := A0.out
  simp only [Nat.zero_add] at q00 q01
  go_wp2_with fail
  refine (szGraph_any n0 1048576 _ (H0.out _ hb0) (by omega) (by omega)).mono ?_
  rintro e w1 ⟨rfl, b1⟩
  rw [HZ0.out]
  have hb1 := hb0.trans (b1.mono hb0.size)
  have A0_1 := Lib.hid (A0.out.below b1)
  clear b1 A0 q00 q01
  by_cases hl0 : l0 < 0
  · go_wp2
    go_ret
    exact ⟨rfl, hb1⟩
  obtain ⟨hxl0, hxr0⟩ := szII_ok HZ0.out hl0
  have HXR0 := Lib.hid hxr0
  clear hxr0
  have HSUM0 := Lib.hid (szII_sum HZ0.out hl0 (by omega))
  generalize hR : cntR n0 xss0 = R
  have hlen := cntR_len n0 xss0
  rw [hR] at hlen
  have HR := Lib.hid hR
  clear hR
  obtain ⟨r0, r1⟩ := R
  have hlen : r0.length ≤ 6 := hlen
  have HLEN := Lib.hid hlen
  obtain ⟨_, q00, q01⟩ := A0_1.out
  simp only [Nat.zero_add] at q00 q01
  go_wp2_with fail
  refine (toGraph_any n0 _ (H0.out _ hb1) hxl0 HXR0.out).mono ?_
  rintro e w2 ⟨vs0, rfl, os0, b2⟩
  have Z2 := Lib.hid b2.size
  have hb2 := hb1.trans (b2.mono hb1.size)
  have A0_2 := Lib.hid (A0_1.out.below b2)
  clear b2 A0_1 q00 q01
  obtain ⟨ys0a, ys0c, ys0u, rfl, _⟩ := id os0.sl
  have Os0 := Lib.hid os0
  clear os0
  go_wp2_with fail
  refine (SpecIndependentCounts_any n0 _ Os0.out.sl).mono ?_
  rintro e w3 ⟨vw0, rfl, ow0, b3⟩
  have Z3 := Lib.hid b3.size
  rw [HR.out] at ow0 ⊢
  have hb3 := hb2.trans (b3.mono hb2.size)
  have A0_3 := Lib.hid (A0_2.out.below b3)
  have Os0_3 := Lib.hid (Os0.out.below b3)
  clear b3 A0_2 Os0 
  have ow0 : OwnI _ _ _ r0 := ow0
  obtain ⟨zw0a, zw0c, rfl, _⟩ := id ow0.sl
  unfold tupVC
  have W0 := Lib.hid ow0
  clear ow0
  clear Os0_3
  have hd0 := Below.refl w3.heap.size w3
  have HDB := Lib.hid hb3
  have HwD : Hid (w.heap.size ≤ w3.heap.size) := hb3.size
  have DA0 := Lib.hid (fun W (h : Below w3.heap.size w3 W) => A0_3.out.below h)
  have DW0 := Lib.hid (fun W (h : Below w3.heap.size w3 W) => W0.out.below h)
  obtain ⟨_, q00, q01⟩ := A0_3.out
  simp only [Nat.zero_add] at q00 q01
  go_wp2_with fail
  refine (toGraph_any n0 _ (H0.out _ hb3) hxl0 HXR0.out).mono ?_
  rintro e w4 ⟨vx0, rfl, ox0, b4⟩
  have Z4 := Lib.hid b4.size
  have hb4 := hb3.trans (b4.mono hb3.size)
  have hd4 := hd0.trans (b4.mono hd0.size)
  have A0_4 := Lib.hid (A0_3.out.below b4)
  have W0_4 := Lib.hid (W0.out.below b4)
  clear b4 A0_3 W0 q00 q01 hd0
  obtain ⟨yx0a, yx0c, yx0u, rfl, _⟩ := id ox0.sl
  have Ox0 := Lib.hid ox0.b
  clear ox0
  have bqx0 : Below w4.heap.size w4 (w4.alloc (grObj n0 (.slice yx0a xss0.length yx0c))) := (Below.refl _ _).alloc (Nat.le_refl _) _
  have ZAx0 := Lib.hid (show (w4.alloc (grObj n0 (.slice yx0a xss0.length yx0c))).heap.size = w4.heap.size + 1 from by simp)
  have A0_x0 := Lib.hid (A0_4.out.below bqx0)
  have W0_x0 := Lib.hid (W0_4.out.below bqx0)
  have Ox0_x0 := Lib.hid (Ox0.out.below bqx0)
  have hbqx0 := hb4.trans (bqx0.mono hb4.size)
  have hdqx0 := hd4.trans (bqx0.mono hd4.size)
  clear bqx0 A0_4 W0_4 Ox0 hd4
  have X0 := Lib.hid (grBox w4 n0 (.slice yx0a xss0.length yx0c))
  obtain ⟨_, x00, x01⟩ := X0.out
  simp only [Nat.zero_add] at x00 x01
  obtain ⟨NB, hNB⟩ : ∃ n, n = (w4.alloc (grObj n0 (.slice yx0a xss0.length yx0c))).heap.size := ⟨_, rfl⟩
  have HNB := Lib.hid hNB
  clear hNB
  go_wp2_with fail
  refine (ImplIndependentCounts_any n0 _ Ox0_x0.out.sl).mono ?_
  rintro e w5 ⟨vg0, rfl, og0, b5⟩
  have Z5 := Lib.hid b5.size
  rw [HR.out] at og0 ⊢
  have hb5 := hbqx0.trans (b5.mono hbqx0.size)
  have hd5 := hdqx0.trans (b5.mono hdqx0.size)
  have A0_5 := Lib.hid (A0_x0.out.below b5)
  have W0_5 := Lib.hid (W0_x0.out.below b5)
  have Ox0_5 := Lib.hid (Ox0_x0.out.below b5)
  have X0_5 := Lib.hid (X0.out.below b5)
  clear b5 A0_x0 W0_x0 Ox0_x0 X0 x00 x01 hdqx0
  have og0 : OwnI _ _ _ r0 := og0
  obtain ⟨zg0a, zg0c, rfl, _⟩ := id og0.sl
  unfold tupVC
  rw [← HNB.out] at og0
  have HGS : Hid (∀ k, (fun k => Value.ownBlock (.slice zg0a r0.length zg0c) = some k) k → NB ≤ k ∧ k < w5.heap.size) := fun k hk => og0.lt k hk
  have G0 := Lib.hid og0
  clear og0
  go_wp2_with fail
  refine (eqInt64S_refl _ G0.out.sl W0_5.out.sl).mono ?_
  rintro e w6 ⟨rfl, b6⟩
  have Z6 := Lib.hid b6.size
  have hb6 := hb5.trans (b6.mono hb5.size)
  have hd6 := hd5.trans (b6.mono hd5.size)
  have A0_6 := Lib.hid (A0_5.out.below b6)
  have W0_6 := Lib.hid (W0_5.out.below b6)
  have Ox0_6 := Lib.hid (Ox0_5.out.below b6)
  have X0_6 := Lib.hid (X0_5.out.below b6)
  have G0_6 := Lib.hid (G0.out.below b6)
  clear b6 A0_5 W0_5 Ox0_5 X0_5 G0  hd5
  have hr_1 : (r1 != r1) = false := by simp
  go_upto_region 10 with (fail)
  go_cut [45] (fun sz wx => sz = .bool false ∧ Below w6.heap.size w6 wx)
  case first =>
    have hbz := (Below.refl w6.heap.size w6).drew
    obtain ⟨_, x0, x1⟩ := X0_6.out
    obtain ⟨_, q0, q1⟩ := A0_6.out
    simp only [Nat.zero_add] at x0 x1 q0 q1
    go_region_with (first
      | (go_at_call 8; (with_reducible refine (toGraph_any n0 _ (H0.out _ (hb6.trans (hbz.mono hb6.size))) hxl0 HXR0.out).mono ?_); rintro e w' ⟨vx, rfl, hv, b⟩; have sx := hv.sl; have hbz := hbz.trans (b.mono hbz.size); clear hv; obtain ⟨_, r0, r1⟩ := X0_6.out.below hbz; simp only [Nat.zero_add] at r0 r1)
      | (go_at_call 12; (with_reducible refine (eqGraph_refl n0 _ (Ox0_6.out.below hbz).sl sx).mono ?_); rintro e w' ⟨rfl, b⟩; have hbz := hbz.trans (b.mono hbz.size)))
    all_goals (go_wp2_with fail; go_meet; exact ⟨rfl, hbz⟩)
  case rest =>
    obtain ⟨rfl, hbc⟩ := hcut
    rename_i w7
    have hb7 := hb6.trans (hbc.mono hb6.size)
    have hd7 := hd6.trans (hbc.mono hd6.size)
    have A0_7 := Lib.hid (A0_6.out.below hbc)
    have W0_7 := Lib.hid (W0_6.out.below hbc)
    have Ox0_7 := Lib.hid (Ox0_6.out.below hbc)
    have X0_7 := Lib.hid (X0_6.out.below hbc)
    have G0_7 := Lib.hid (G0_6.out.below hbc)
    clear hbc A0_6 W0_6 Ox0_6 X0_6 G0_6  hd6
    obtain ⟨_, x00, x01⟩ := X0_7.out
    simp only [Nat.zero_add] at x00 x01
    go_wp2_with fail
    refine (markGraph_any n0 1 w3.heap.size w4.heap.size _ (by omega) (by have := HSUM0.out; omega) Ox0_7.out).mono ?_
    rintro e w8 ⟨rfl, b8⟩
    have Z8 := Lib.hid b8.size
    have fx0 := Fs.of_mid b8
    have hd8 := hd7.trans ((fx0.below (B := w3.heap.size) (by have := Z2.out; have := Z3.out; have := Z4.out; have := ZAx0.out; have := HNB.out; have := Z5.out; have := Z6.out; have := Z8.out; omega) (fun k hk => by have := hk.1; have := Z2.out; have := Z3.out; have := Z4.out; have := ZAx0.out; have := HNB.out; have := Z5.out; have := Z6.out; have := Z8.out; omega)))
    have A0_8 := Lib.hid (DA0.out _ hd8)
    have W0_8 := Lib.hid (DW0.out _ hd8)
    have G0_8 := Lib.hid (show OwnI _ NB _ r0 from ownsRow_fs (G0_7.out) fx0 (fun k hk => by have := hk.2; have := Z2.out; have := Z3.out; have := Z4.out; have := ZAx0.out; have := HNB.out; have := Z5.out; have := Z6.out; have := Z8.out; omega))
    have hb8 := HDB.out.trans (hd8.mono HwD.out)
    clear b8 fx0 hb7 hd7 A0_7 W0_7 Ox0_7 X0_7 G0_7 x00 x01
    have hkn : ¬ (1 + sumL xss0) < 0 := by omega
    go_wp2_with fail
    refine (eqInt64S_refl _ G0_8.out.sl W0_8.out.sl).mono ?_
    rintro e w9 ⟨rfl, b9⟩
    have Z9 := Lib.hid b9.size
    have hb9 := hb8.trans (b9.mono hb8.size)
    have hd9 := hd8.trans (b9.mono hd8.size)
    have A0_9 := Lib.hid (A0_8.out.below b9)
    have W0_9 := Lib.hid (W0_8.out.below b9)
    have G0_9 := Lib.hid (G0_8.out.below b9)
    clear b9 A0_8 W0_8 G0_8  hd8
    go_wp2_with fail
    refine (markInt64S_any 1 _ _ (by omega) (by have := HLEN.out; omega) G0_9.out).mono ?_
    rintro e w10 ⟨rfl, og1, b10⟩
    have Z10 := Lib.hid b10.size
    have fg : Fs (fun k => Value.ownBlock (.slice zg0a r0.length zg0c) = some k) _ _ := Fs.of_grown b10 (fun g hg => hg)
    have hd10 := hd9.trans (fg.below (B := w3.heap.size) (by have := Z2.out; have := Z3.out; have := Z4.out; have := ZAx0.out; have := HNB.out; have := Z5.out; have := Z6.out; have := Z8.out; have := Z9.out; have := Z10.out; omega) (fun k hk => by have := (HGS.out k hk).1; have := Z2.out; have := Z3.out; have := Z4.out; have := ZAx0.out; have := HNB.out; have := Z5.out; have := Z6.out; have := Z8.out; have := Z9.out; have := Z10.out; omega))
    have A0_10 := Lib.hid (DA0.out _ hd10)
    have W0_10 := Lib.hid (DW0.out _ hd10)
    have hb10 := HDB.out.trans (hd10.mono HwD.out)
    clear b10 fg hb9 hd9 A0_9 W0_9 G0_9 
    have G1 := Lib.hid og1
    clear og1
    have hq0 : ¬ (1 + (r0.length : Int) : Int) < 0 := by omega
    have hq1 : ((1 + (r0.length : Int) : Int) != (1 + (r0.length : Int))) = false := by simp
    go_wp2_with fail
    refine (heldInt64S_any 1 _ _ (by omega) (by have := HLEN.out; omega) G1.out.sl).mono ?_
    rintro e w11 ⟨rfl, b11⟩
    have Z11 := Lib.hid b11.size
    have hb11 := hb10.trans (b11.mono hb10.size)
    have hd11 := hd10.trans (b11.mono hd10.size)
    have A0_11 := Lib.hid (A0_10.out.below b11)
    have W0_11 := Lib.hid (W0_10.out.below b11)
    have G1_11 := Lib.hid (G1.out.below b11)
    clear b11 A0_10 W0_10 G1  hd10
    obtain ⟨_, q00, q01⟩ := A0_11.out
    simp only [Nat.zero_add] at q00 q01
    go_wp2_with fail
    refine (toGraph_any n0 _ (H0.out _ hb11) hxl0 HXR0.out).mono ?_
    rintro e w12 ⟨vy0, rfl, oy0, b12⟩
    have Z12 := Lib.hid b12.size
    have hb12 := hb11.trans (b12.mono hb11.size)
    have hd12 := hd11.trans (b12.mono hd11.size)
    have A0_12 := Lib.hid (A0_11.out.below b12)
    have W0_12 := Lib.hid (W0_11.out.below b12)
    have G1_12 := Lib.hid (G1_11.out.below b12)
    clear b12 A0_11 W0_11 G1_11 q00 q01 hd11
    obtain ⟨yy0a, yy0c, yy0u, rfl, _⟩ := id oy0.sl
    have Oy0 := Lib.hid oy0
    clear oy0
    go_wp2_with fail
    refine (ImplIndependentCounts_any n0 _ Oy0.out.sl).mono ?_
    rintro e w13 ⟨vh0, rfl, oh0, b13⟩
    have Z13 := Lib.hid b13.size
    rw [HR.out] at oh0 ⊢
    have hb13 := hb12.trans (b13.mono hb12.size)
    have hd13 := hd12.trans (b13.mono hd12.size)
    have A0_13 := Lib.hid (A0_12.out.below b13)
    have W0_13 := Lib.hid (W0_12.out.below b13)
    have G1_13 := Lib.hid (G1_12.out.below b13)
    have Oy0_13 := Lib.hid (Oy0.out.below b13)
    clear b13 A0_12 W0_12 G1_12 Oy0  hd12
    have oh0 : OwnI _ _ _ r0 := oh0
    obtain ⟨zh0a, zh0c, rfl, _⟩ := id oh0.sl
    unfold tupVC
    have HH := Lib.hid oh0
    clear oh0
    go_wp2_with fail
    refine (eqInt64S_refl _ HH.out.sl W0_13.out.sl).mono ?_
    rintro e w14 ⟨rfl, b14⟩
    have Z14 := Lib.hid b14.size
    have hb14 := hb13.trans (b14.mono hb13.size)
    have hd14 := hd13.trans (b14.mono hd13.size)
    have A0_14 := Lib.hid (A0_13.out.below b14)
    have W0_14 := Lib.hid (W0_13.out.below b14)
    have G1_14 := Lib.hid (G1_13.out.below b14)
    have Oy0_14 := Lib.hid (Oy0_13.out.below b14)
    have HH_14 := Lib.hid (HH.out.below b14)
    clear b14 A0_13 W0_13 G1_13 Oy0_13 HH  hd13
    go_wp2_with fail
    refine (heldInt64S_any 1 _ _ (by omega) (by have := HLEN.out; omega) G1_14.out.sl).mono ?_
    rintro e w15 ⟨rfl, b15⟩
    have Z15 := Lib.hid b15.size
    have hb15 := hb14.trans (b15.mono hb14.size)
    have hd15 := hd14.trans (b15.mono hd14.size)
    have A0_15 := Lib.hid (A0_14.out.below b15)
    have W0_15 := Lib.hid (W0_14.out.below b15)
    have G1_15 := Lib.hid (G1_14.out.below b15)
    have Oy0_15 := Lib.hid (Oy0_14.out.below b15)
    have HH_15 := Lib.hid (HH_14.out.below b15)
    clear b15 A0_14 W0_14 G1_14 Oy0_14 HH_14  hd14
    go_wp2
    go_ret
    exact ⟨rfl, hb15⟩
end Go.Proofs.Ytmhpbkckmjdojaa
