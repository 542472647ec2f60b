/-
  FnExactColouringsOf: both answer the same, and leave what they are given as it was.
-/
import Derived.Test.YtmhpbkckmjdojaaColOf
import Derived.Test.YtmhpbkckmjdojaaLawG
import Derived.Test.YtmhpbkckmjdojaaLawI
import Derived.Test.YtmhpbkckmjdojaaFrame
import Derived.Test.YtmhpbkckmjdojaaMarkII
import Derived.Deep.RegionWith
import Derived.Deep.DeepCutAuto
namespace Go.Proofs.Ytmhpbkckmjdojaa
open Go.RowKit Go.Sort
set_option linter.unusedVariables false
set_option maxRecDepth 100000 in
set_option maxHeartbeats 4000000 in
theorem FnExactColouringsOf_walk {u0 : Value} {xss0 : List (List Int)} (n0 : Int) (a1 : Int) {u2 : Value} {xs2 : List Int} (w : World) (ha0 : SlII w u0 xss0)  (ha2 : SlI w u2 xs2):
    Calls Try.prog 3 #[.agg #[.int .i64 n0, u0], .int .i64 a1, u2] w fun e w' => e = .returned (.bool true) ∧ Below w.heap.size w w' := by
  obtain ⟨pa0, pc0, pu0, rfl, _⟩ := id ha0
  obtain ⟨pa2, pc2, rfl, pl2, pm2, _⟩ := id ha2; unfold maxLen at pm2
  have hb0 : Below w.heap.size w (w.alloc (argGr n0 (.slice pa0 xss0.length pc0))) := ((Below.refl w.heap.size w).alloc (by simp) (argGr n0 (.slice pa0 xss0.length pc0)))
  have A0 := Lib.hid (argGrBox w n0 (.slice pa0 xss0.length pc0))
  have H0 := Lib.hid (fun W (h : Below w.heap.size w W) => ha0.below h)
  clear ha0
  have H2 := Lib.hid (fun W (h : Below w.heap.size w W) => ha2.below h)
  clear ha2
  by_cases hlen2 : 1048576 < xs2.length
  · go_enter Try.func3, Try.ntmps3
    go_wp2
    go_ret
    exact ⟨rfl, hb0⟩
  have hr0 := szII_range 1048576 xss0 (by omega)
  generalize hz0 : szII 1048576 xss0 = l0 at hr0
  have HZ0 := Lib.hid hz0
  clear hz0
  go_enter Try.func3, Try.ntmps3
  obtain ⟨_, q00, q01⟩ := A0.out
  simp only [Nat.zero_add] at q00 q01
  go_wp2_with fail
  refine (szGraph_any n0 1048576 _ (H0.out _ hb0) (by omega) (by omega)).mono ?_
  rintro e w1 ⟨rfl, b1⟩
  rw [HZ0.out]
  have hb1 := hb0.trans (b1.mono hb0.size)
  have A0_1 := Lib.hid (A0.out.below b1)
  clear b1 A0 q00 q01
  by_cases hl0 : l0 < 0
  · go_wp2
    go_ret
    exact ⟨rfl, hb1⟩
  obtain ⟨hxl0, hxr0⟩ := szII_ok HZ0.out hl0
  have HXR0 := Lib.hid hxr0
  clear hxr0
  have HSUM0 := Lib.hid (szII_sum HZ0.out hl0 (by omega))
  generalize hR : colOfR n0 xss0 a1 xs2 = R
  have hlen := colOfR_len n0 xss0 a1 xs2
  rw [hR] at hlen
  have HR := Lib.hid hR
  clear hR
  obtain ⟨r0, r1⟩ := R
  have hlen : sumL r0 ≤ 2000 := hlen
  have HLEN := Lib.hid hlen
  obtain ⟨_, q00, q01⟩ := A0_1.out
  simp only [Nat.zero_add] at q00 q01
  go_wp2_with fail
  refine (toGraph_any n0 _ (H0.out _ hb1) hxl0 HXR0.out).mono ?_
  rintro e w2 ⟨vs0, rfl, os0, b2⟩
  have Z2 := Lib.hid b2.size
  have hb2 := hb1.trans (b2.mono hb1.size)
  have A0_2 := Lib.hid (A0_1.out.below b2)
  clear b2 A0_1 q00 q01
  obtain ⟨ys0a, ys0c, ys0u, rfl, _⟩ := id os0.sl
  have Os0 := Lib.hid os0
  clear os0
  go_wp2_with fail
  refine (toInt64S_any _ (H2.out _ hb2) (by omega)).mono ?_
  rintro e w3 ⟨vs2, rfl, os2, b3⟩
  have Z3 := Lib.hid b3.size
  have hb3 := hb2.trans (b3.mono hb2.size)
  have A0_3 := Lib.hid (A0_2.out.below b3)
  have Os0_3 := Lib.hid (Os0.out.below b3)
  clear b3 A0_2 Os0 
  obtain ⟨ys2a, ys2c, rfl, _⟩ := id os2.sl
  have Os2 := Lib.hid os2
  clear os2
  go_wp2_with fail
  refine (SpecColouringsOf_any n0 a1 _ Os0_3.out.sl Os2.out.sl).mono ?_
  rintro e w4 ⟨vw0, rfl, ow0, b4⟩
  have Z4 := Lib.hid b4.size
  rw [HR.out] at ow0 ⊢
  have hb4 := hb3.trans (b4.mono hb3.size)
  have A0_4 := Lib.hid (A0_3.out.below b4)
  have Os0_4 := Lib.hid (Os0_3.out.below b4)
  have Os2_4 := Lib.hid (Os2.out.below b4)
  clear b4 A0_3 Os0_3 Os2 
  have ow0 : OwnII _ _ _ r0 := ow0
  have ow0 := OwnII.b ow0
  obtain ⟨zw0a, zw0c, _, rfl, _⟩ := id ow0.sl
  unfold tupVC
  have W0 := Lib.hid ow0
  clear ow0
  clear Os0_4
  clear Os2_4
  have hd0 := Below.refl w4.heap.size w4
  have HDB := Lib.hid hb4
  have HwD : Hid (w.heap.size ≤ w4.heap.size) := hb4.size
  have DA0 := Lib.hid (fun W (h : Below w4.heap.size w4 W) => A0_4.out.below h)
  have DW0 := Lib.hid (fun W (h : Below w4.heap.size w4 W) => W0.out.below h)
  obtain ⟨_, q00, q01⟩ := A0_4.out
  simp only [Nat.zero_add] at q00 q01
  go_wp2_with fail
  refine (toGraph_any n0 _ (H0.out _ hb4) hxl0 HXR0.out).mono ?_
  rintro e w5 ⟨vx0, rfl, ox0, b5⟩
  have Z5 := Lib.hid b5.size
  have hb5 := hb4.trans (b5.mono hb4.size)
  have hd5 := hd0.trans (b5.mono hd0.size)
  have A0_5 := Lib.hid (A0_4.out.below b5)
  have W0_5 := Lib.hid (W0.out.below b5)
  clear b5 A0_4 W0 q00 q01 hd0
  obtain ⟨yx0a, yx0c, yx0u, rfl, _⟩ := id ox0.sl
  have Ox0 := Lib.hid ox0.b
  clear ox0
  have bqx0 : Below w5.heap.size w5 (w5.alloc (grObj n0 (.slice yx0a xss0.length yx0c))) := (Below.refl _ _).alloc (Nat.le_refl _) _
  have ZAx0 := Lib.hid (show (w5.alloc (grObj n0 (.slice yx0a xss0.length yx0c))).heap.size = w5.heap.size + 1 from by simp)
  have A0_x0 := Lib.hid (A0_5.out.below bqx0)
  have W0_x0 := Lib.hid (W0_5.out.below bqx0)
  have Ox0_x0 := Lib.hid (Ox0.out.below bqx0)
  have hbqx0 := hb5.trans (bqx0.mono hb5.size)
  have hdqx0 := hd5.trans (bqx0.mono hd5.size)
  clear bqx0 A0_5 W0_5 Ox0 hd5
  have X0 := Lib.hid (grBox w5 n0 (.slice yx0a xss0.length yx0c))
  go_wp2_with fail
  refine (toInt64S_any _ (H2.out _ hbqx0) (by omega)).mono ?_
  rintro e w6 ⟨vx2, rfl, ox2, b6⟩
  have Z6 := Lib.hid b6.size
  have hb6 := hbqx0.trans (b6.mono hbqx0.size)
  have hd6 := hdqx0.trans (b6.mono hdqx0.size)
  have A0_6 := Lib.hid (A0_x0.out.below b6)
  have W0_6 := Lib.hid (W0_x0.out.below b6)
  have Ox0_6 := Lib.hid (Ox0_x0.out.below b6)
  have X0_6 := Lib.hid (X0.out.below b6)
  clear b6 A0_x0 W0_x0 Ox0_x0 X0  hdqx0
  obtain ⟨yx2a, yx2c, rfl, _⟩ := id ox2.sl
  have HXL2 := Lib.hid ox2.lt
  have Ox2 := Lib.hid ox2
  clear ox2
  obtain ⟨_, x00, x01⟩ := X0_6.out
  simp only [Nat.zero_add] at x00 x01
  obtain ⟨NB, hNB⟩ : ∃ n, n = w6.heap.size := ⟨_, rfl⟩
  have HNB := Lib.hid hNB
  clear hNB
  go_wp2_with fail
  refine (ImplColouringsOf_any n0 a1 _ Ox0_6.out.sl Ox2.out.sl).mono ?_
  rintro e w7 ⟨vg0, rfl, og0, b7⟩
  have Z7 := Lib.hid b7.size
  rw [HR.out] at og0 ⊢
  have hb7 := hb6.trans (b7.mono hb6.size)
  have hd7 := hd6.trans (b7.mono hd6.size)
  have A0_7 := Lib.hid (A0_6.out.below b7)
  have W0_7 := Lib.hid (W0_6.out.below b7)
  have Ox0_7 := Lib.hid (Ox0_6.out.below b7)
  have X0_7 := Lib.hid (X0_6.out.below b7)
  have Ox2_7 := Lib.hid (Ox2.out.below b7)
  clear b7 A0_6 W0_6 Ox0_6 X0_6 Ox2 x00 x01 hd6
  have og0 : OwnII _ _ _ r0 := og0
  have og0 := OwnII.b og0
  obtain ⟨zg0a, zg0c, _, rfl, _⟩ := id og0.sl
  unfold tupVC
  rw [← HNB.out] at og0
  have HGS : Hid (∀ k, (fun k => NB ≤ k ∧ k < w7.heap.size) k → NB ≤ k ∧ k < w7.heap.size) := fun k hk => hk
  have G0 := Lib.hid og0
  clear og0
  go_wp2_with fail
  refine (eqInt64SS_refl _ G0.out.sl W0_7.out.sl).mono ?_
  rintro e w8 ⟨rfl, b8⟩
  have Z8 := Lib.hid b8.size
  have hb8 := hb7.trans (b8.mono hb7.size)
  have hd8 := hd7.trans (b8.mono hd7.size)
  have A0_8 := Lib.hid (A0_7.out.below b8)
  have W0_8 := Lib.hid (W0_7.out.below b8)
  have Ox0_8 := Lib.hid (Ox0_7.out.below b8)
  have X0_8 := Lib.hid (X0_7.out.below b8)
  have Ox2_8 := Lib.hid (Ox2_7.out.below b8)
  have G0_8 := Lib.hid (G0.out.below b8)
  clear b8 A0_7 W0_7 Ox0_7 X0_7 Ox2_7 G0  hd7
  have hr_1 : (r1 != r1) = false := by simp
  go_upto_region 13 with (fail)
  go_cut [60] (fun sz wx => sz = .bool false ∧ Below w8.heap.size w8 wx)
  case first =>
    have hbz := (Below.refl w8.heap.size w8).drew
    obtain ⟨_, x0, x1⟩ := X0_8.out
    obtain ⟨_, q0, q1⟩ := A0_8.out
    simp only [Nat.zero_add] at x0 x1 q0 q1
    go_region_with (first
      | (go_at_call 8; (with_reducible refine (toGraph_any n0 _ (H0.out _ (hb8.trans (hbz.mono hb8.size))) hxl0 HXR0.out).mono ?_); rintro e w' ⟨vx, rfl, hv, b⟩; have sx := hv.sl; have hbz := hbz.trans (b.mono hbz.size); clear hv; obtain ⟨_, r0, r1⟩ := X0_8.out.below hbz; simp only [Nat.zero_add] at r0 r1)
      | (go_at_call 12; (with_reducible refine (eqGraph_refl n0 _ (Ox0_8.out.below hbz).sl sx).mono ?_); rintro e w' ⟨rfl, b⟩; have hbz := hbz.trans (b.mono hbz.size)))
    all_goals (go_wp2_with fail; go_meet; exact ⟨rfl, hbz⟩)
  case rest =>
    obtain ⟨rfl, hbc⟩ := hcut
    rename_i w9
    have hb9 := hb8.trans (hbc.mono hb8.size)
    have hd9 := hd8.trans (hbc.mono hd8.size)
    have A0_9 := Lib.hid (A0_8.out.below hbc)
    have W0_9 := Lib.hid (W0_8.out.below hbc)
    have Ox0_9 := Lib.hid (Ox0_8.out.below hbc)
    have X0_9 := Lib.hid (X0_8.out.below hbc)
    have Ox2_9 := Lib.hid (Ox2_8.out.below hbc)
    have G0_9 := Lib.hid (G0_8.out.below hbc)
    clear hbc A0_8 W0_8 Ox0_8 X0_8 Ox2_8 G0_8  hd8
    go_wp2_with fail
    refine (toInt64S_any _ (H2.out _ hb9) (by omega)).mono ?_
    rintro e w10 ⟨vz2, rfl, oz2, b10⟩
    have hb10 := hb9.trans (b10.mono hb9.size)
    have hd10 := hd9.trans (b10.mono hd9.size)
    have A0_10 := Lib.hid (A0_9.out.below b10)
    have W0_10 := Lib.hid (W0_9.out.below b10)
    have Ox0_10 := Lib.hid (Ox0_9.out.below b10)
    have X0_10 := Lib.hid (X0_9.out.below b10)
    have Ox2_10 := Lib.hid (Ox2_9.out.below b10)
    have G0_10 := Lib.hid (G0_9.out.below b10)
    clear b10 A0_9 W0_9 Ox0_9 X0_9 Ox2_9 G0_9  hd9
    have Oz2 := Lib.hid oz2
    clear oz2
    obtain ⟨yz2a, yz2c, rfl, _⟩ := id Oz2.out.sl
    go_wp2_with fail
    refine (eqInt64S_refl _ Ox2_10.out.sl Oz2.out.sl).mono ?_
    rintro e w11 ⟨rfl, b11⟩
    have hb11 := hb10.trans (b11.mono hb10.size)
    have hd11 := hd10.trans (b11.mono hd10.size)
    have A0_11 := Lib.hid (A0_10.out.below b11)
    have W0_11 := Lib.hid (W0_10.out.below b11)
    have Ox0_11 := Lib.hid (Ox0_10.out.below b11)
    have X0_11 := Lib.hid (X0_10.out.below b11)
    have Ox2_11 := Lib.hid (Ox2_10.out.below b11)
    have G0_11 := Lib.hid (G0_10.out.below b11)
    have Oz2_11 := Lib.hid (Oz2.out.below b11)
    clear b11 A0_10 W0_10 Ox0_10 X0_10 Ox2_10 G0_10 Oz2  hd10
    clear Oz2_11
    obtain ⟨_, x00, x01⟩ := X0_11.out
    simp only [Nat.zero_add] at x00 x01
    go_wp2_with fail
    refine (markGraph_any n0 1 w4.heap.size w5.heap.size _ (by omega) (by have := HSUM0.out; omega) Ox0_11.out).mono ?_
    rintro e w12 ⟨rfl, b12⟩
    have Z12 := Lib.hid b12.size
    have fx0 := Fs.of_mid b12
    have hd12 := hd11.trans ((fx0.below (B := w4.heap.size) (by have := Z2.out; have := Z3.out; have := Z4.out; have := Z5.out; have := ZAx0.out; have := Z6.out; have := HNB.out; have := Z7.out; have := Z8.out; have := Z12.out; omega) (fun k hk => by have := hk.1; have := Z2.out; have := Z3.out; have := Z4.out; have := Z5.out; have := ZAx0.out; have := Z6.out; have := HNB.out; have := Z7.out; have := Z8.out; have := Z12.out; omega)))
    have A0_12 := Lib.hid (DA0.out _ hd12)
    have W0_12 := Lib.hid (DW0.out _ hd12)
    have Ox2_12 := Lib.hid (show OwnI _ (w5.alloc (grObj n0 (.slice yx0a xss0.length yx0c))).heap.size _ xs2 from ownsRow_fs (Ox2_11.out) fx0 (fun k hk => by have := hk.2; have := Z2.out; have := Z3.out; have := Z4.out; have := Z5.out; have := ZAx0.out; have := Z6.out; have := HNB.out; have := Z7.out; have := Z8.out; have := Z12.out; omega))
    have G0_12 := Lib.hid (OwnIIB.fs (G0_11.out) fx0 (fun k hk => by have := hk.2; have := Z2.out; have := Z3.out; have := Z4.out; have := Z5.out; have := ZAx0.out; have := Z6.out; have := HNB.out; have := Z7.out; have := Z8.out; have := Z12.out; omega))
    have hb12 := HDB.out.trans (hd12.mono HwD.out)
    clear b12 fx0 hb11 hd11 A0_11 W0_11 Ox0_11 X0_11 Ox2_11 G0_11 x00 x01
    go_wp2_with fail
    refine (markInt64S_any (1 + sumL xss0) _ _ (by omega) (by have := HSUM0.out; omega) Ox2_12.out).mono ?_
    rintro e w13 ⟨rfl, om2, b13⟩
    have Z13 := Lib.hid b13.size
    clear om2
    have fx2 : Fs (fun k => (w5.alloc (grObj n0 (.slice yx0a xss0.length yx0c))).heap.size ≤ k ∧ k < w6.heap.size) _ _ := Fs.of_grown b13 (fun g hg => HXL2.out g hg)
    have hd13 := hd12.trans ((fx2.below (B := w4.heap.size) (by have := Z2.out; have := Z3.out; have := Z4.out; have := Z5.out; have := ZAx0.out; have := Z6.out; have := HNB.out; have := Z7.out; have := Z8.out; have := Z12.out; have := Z13.out; omega) (fun k hk => by have := hk.1; have := Z2.out; have := Z3.out; have := Z4.out; have := Z5.out; have := ZAx0.out; have := Z6.out; have := HNB.out; have := Z7.out; have := Z8.out; have := Z12.out; have := Z13.out; omega)))
    have A0_13 := Lib.hid (DA0.out _ hd13)
    have W0_13 := Lib.hid (DW0.out _ hd13)
    have G0_13 := Lib.hid (OwnIIB.fs (G0_12.out) fx2 (fun k hk => by have := hk.2; have := Z2.out; have := Z3.out; have := Z4.out; have := Z5.out; have := ZAx0.out; have := Z6.out; have := HNB.out; have := Z7.out; have := Z8.out; have := Z12.out; have := Z13.out; omega))
    have hb13 := HDB.out.trans (hd13.mono HwD.out)
    clear b13 fx2 hb12 hd12 A0_12 W0_12 Ox2_12 G0_12 
    have hkn : ¬ ((1 + sumL xss0) + (xs2.length : Int)) < 0 := by omega
    go_wp2_with fail
    refine (eqInt64SS_refl _ G0_13.out.sl W0_13.out.sl).mono ?_
    rintro e w14 ⟨rfl, b14⟩
    have Z14 := Lib.hid b14.size
    have hb14 := hb13.trans (b14.mono hb13.size)
    have hd14 := hd13.trans (b14.mono hd13.size)
    have A0_14 := Lib.hid (A0_13.out.below b14)
    have W0_14 := Lib.hid (W0_13.out.below b14)
    have G0_14 := Lib.hid (G0_13.out.below b14)
    clear b14 A0_13 W0_13 G0_13  hd13
    go_wp2_with fail
    refine (markInt64SS_held 1 NB _ _ (by omega) (by have := HLEN.out; omega) G0_14.out).mono ?_
    rintro e w15 ⟨rfl, og1, b15⟩
    have Z15 := Lib.hid b15.size
    have fg : Fs (fun k => NB ≤ k ∧ k < w7.heap.size) _ _ := Fs.of_mid b15
    have hd15 := hd14.trans (fg.below (B := w4.heap.size) (by have := Z2.out; have := Z3.out; have := Z4.out; have := Z5.out; have := ZAx0.out; have := Z6.out; have := HNB.out; have := Z7.out; have := Z8.out; have := Z12.out; have := Z13.out; have := Z14.out; have := Z15.out; omega) (fun k hk => by have := (HGS.out k hk).1; have := Z2.out; have := Z3.out; have := Z4.out; have := Z5.out; have := ZAx0.out; have := Z6.out; have := HNB.out; have := Z7.out; have := Z8.out; have := Z12.out; have := Z13.out; have := Z14.out; have := Z15.out; omega))
    have A0_15 := Lib.hid (DA0.out _ hd15)
    have W0_15 := Lib.hid (DW0.out _ hd15)
    have hb15 := HDB.out.trans (hd15.mono HwD.out)
    clear b15 fg hb14 hd14 A0_14 W0_14 G0_14 
    have G1 := Lib.hid og1
    clear og1
    have hq0 : ¬ (1 + (sumL r0 : Int) : Int) < 0 := by omega
    have hq1 : ((1 + (sumL r0 : Int) : Int) != (1 + (sumL r0 : Int))) = false := by simp
    go_wp2_with fail
    refine (heldInt64SS_any 1 _ (by omega) (by have := HLEN.out; omega) G1.out.sl).mono ?_
    rintro e w16 ⟨rfl, b16⟩
    have Z16 := Lib.hid b16.size
    have hb16 := hb15.trans (b16.mono hb15.size)
    have hd16 := hd15.trans (b16.mono hd15.size)
    have A0_16 := Lib.hid (A0_15.out.below b16)
    have W0_16 := Lib.hid (W0_15.out.below b16)
    have G1_16 := Lib.hid (G1.out.below b16)
    clear b16 A0_15 W0_15 G1  hd15
    obtain ⟨_, q00, q01⟩ := A0_16.out
    simp only [Nat.zero_add] at q00 q01
    go_wp2_with fail
    refine (toGraph_any n0 _ (H0.out _ hb16) hxl0 HXR0.out).mono ?_
    rintro e w17 ⟨vy0, rfl, oy0, b17⟩
    have Z17 := Lib.hid b17.size
    have hb17 := hb16.trans (b17.mono hb16.size)
    have hd17 := hd16.trans (b17.mono hd16.size)
    have A0_17 := Lib.hid (A0_16.out.below b17)
    have W0_17 := Lib.hid (W0_16.out.below b17)
    have G1_17 := Lib.hid (G1_16.out.below b17)
    clear b17 A0_16 W0_16 G1_16 q00 q01 hd16
    obtain ⟨yy0a, yy0c, yy0u, rfl, _⟩ := id oy0.sl
    have Oy0 := Lib.hid oy0
    clear oy0
    go_wp2_with fail
    refine (toInt64S_any _ (H2.out _ hb17) (by omega)).mono ?_
    rintro e w18 ⟨vy2, rfl, oy2, b18⟩
    have Z18 := Lib.hid b18.size
    have hb18 := hb17.trans (b18.mono hb17.size)
    have hd18 := hd17.trans (b18.mono hd17.size)
    have A0_18 := Lib.hid (A0_17.out.below b18)
    have W0_18 := Lib.hid (W0_17.out.below b18)
    have G1_18 := Lib.hid (G1_17.out.below b18)
    have Oy0_18 := Lib.hid (Oy0.out.below b18)
    clear b18 A0_17 W0_17 G1_17 Oy0  hd17
    obtain ⟨yy2a, yy2c, rfl, _⟩ := id oy2.sl
    have Oy2 := Lib.hid oy2
    clear oy2
    go_wp2_with fail
    refine (ImplColouringsOf_any n0 a1 _ Oy0_18.out.sl Oy2.out.sl).mono ?_
    rintro e w19 ⟨vh0, rfl, oh0, b19⟩
    have Z19 := Lib.hid b19.size
    rw [HR.out] at oh0 ⊢
    have hb19 := hb18.trans (b19.mono hb18.size)
    have hd19 := hd18.trans (b19.mono hd18.size)
    have A0_19 := Lib.hid (A0_18.out.below b19)
    have W0_19 := Lib.hid (W0_18.out.below b19)
    have G1_19 := Lib.hid (G1_18.out.below b19)
    have Oy0_19 := Lib.hid (Oy0_18.out.below b19)
    have Oy2_19 := Lib.hid (Oy2.out.below b19)
    clear b19 A0_18 W0_18 G1_18 Oy0_18 Oy2  hd18
    have oh0 : OwnII _ _ _ r0 := oh0
    have oh0 := OwnII.b oh0
    obtain ⟨zh0a, zh0c, _, rfl, _⟩ := id oh0.sl
    unfold tupVC
    have HH := Lib.hid oh0
    clear oh0
    go_wp2_with fail
    refine (eqInt64SS_refl _ HH.out.sl W0_19.out.sl).mono ?_
    rintro e w20 ⟨rfl, b20⟩
    have Z20 := Lib.hid b20.size
    have hb20 := hb19.trans (b20.mono hb19.size)
    have hd20 := hd19.trans (b20.mono hd19.size)
    have A0_20 := Lib.hid (A0_19.out.below b20)
    have W0_20 := Lib.hid (W0_19.out.below b20)
    have G1_20 := Lib.hid (G1_19.out.below b20)
    have Oy0_20 := Lib.hid (Oy0_19.out.below b20)
    have Oy2_20 := Lib.hid (Oy2_19.out.below b20)
    have HH_20 := Lib.hid (HH.out.below b20)
    clear b20 A0_19 W0_19 G1_19 Oy0_19 Oy2_19 HH  hd19
    go_wp2_with fail
    refine (heldInt64SS_any 1 _ (by omega) (by have := HLEN.out; omega) G1_20.out.sl).mono ?_
    rintro e w21 ⟨rfl, b21⟩
    have Z21 := Lib.hid b21.size
    have hb21 := hb20.trans (b21.mono hb20.size)
    have hd21 := hd20.trans (b21.mono hd20.size)
    have A0_21 := Lib.hid (A0_20.out.below b21)
    have W0_21 := Lib.hid (W0_20.out.below b21)
    have G1_21 := Lib.hid (G1_20.out.below b21)
    have Oy0_21 := Lib.hid (Oy0_20.out.below b21)
    have Oy2_21 := Lib.hid (Oy2_20.out.below b21)
    have HH_21 := Lib.hid (HH_20.out.below b21)
    clear b21 A0_20 W0_20 G1_20 Oy0_20 Oy2_20 HH_20  hd20
    go_wp2
    go_ret
    exact ⟨rfl, hb21⟩
end Go.Proofs.Ytmhpbkckmjdojaa
