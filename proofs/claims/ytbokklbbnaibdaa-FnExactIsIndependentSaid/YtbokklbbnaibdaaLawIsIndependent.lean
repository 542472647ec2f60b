/-
  FnExactIsIndependent: both answer the same, and leave what they are given as it was.
-/
import Derived.Test.YtbokklbbnaibdaaIndep
import Derived.Test.YtbokklbbnaibdaaLawG
import Derived.Test.YtbokklbbnaibdaaLawI
import Derived.Deep.RegionWith
import Derived.Deep.DeepCutAuto
namespace Go.Proofs.Ytbokklbbnaibdaa
open Go.RowKit Go.Sort
set_option linter.unusedVariables false
set_option maxRecDepth 100000 in
set_option maxHeartbeats 4000000 in
theorem FnExactIsIndependent_walk {u0 : Value} {xss0 : List (List Int)} (n0 : Int) {u1 : Value} {xs1 : List Int} (w : World) (ha0 : SlII w u0 xss0) (ha1 : SlI w u1 xs1):
    Calls Try.prog 8 #[.agg #[.int .i64 n0, u0], u1] w fun e w' => e = .returned (.bool true) ∧ Below w.heap.size w w' := by
  obtain ⟨pa0, pc0, pu0, rfl, _⟩ := id ha0
  obtain ⟨pa1, pc1, rfl, pl1, pm1, _⟩ := id ha1; unfold maxLen at pm1
  have hb0 : Below w.heap.size w (w.alloc (argGr n0 (.slice pa0 xss0.length pc0))) := ((Below.refl w.heap.size w).alloc (by simp) (argGr n0 (.slice pa0 xss0.length pc0)))
  have A0 := Lib.hid (argGrBox w n0 (.slice pa0 xss0.length pc0))
  have H0 := Lib.hid (fun W (h : Below w.heap.size w W) => ha0.below h)
  clear ha0
  have H1 := Lib.hid (fun W (h : Below w.heap.size w W) => ha1.below h)
  clear ha1
  by_cases hlen1 : 1048576 < xs1.length
  · go_enter Try.func8, Try.ntmps8
    go_wp2
    go_ret
    exact ⟨rfl, hb0⟩
  have hr0 := szII_range 1048576 xss0 (by omega)
  generalize hz0 : szII 1048576 xss0 = l0 at hr0
  have HZ0 := Lib.hid hz0
  clear hz0
  go_enter Try.func8, Try.ntmps8
  obtain ⟨_, q00, q01⟩ := A0.out
  simp only [Nat.zero_add] at q00 q01
  go_wp2_with fail
  refine (szGraph_any n0 1048576 _ (H0.out _ hb0) (by omega) (by omega)).mono ?_
  rintro e w1 ⟨rfl, b1⟩
  rw [HZ0.out]
  have hb1 := hb0.trans (b1.mono hb0.size)
  have A0_1 := Lib.hid (A0.out.below b1)
  clear b1 A0 q00 q01
  by_cases hl0 : l0 < 0
  · go_wp2
    go_ret
    exact ⟨rfl, hb1⟩
  obtain ⟨hxl0, hxr0⟩ := szII_ok HZ0.out hl0
  have HXR0 := Lib.hid hxr0
  clear hxr0
  generalize hR : isIndR n0 xss0 xs1 = R
  have HR := Lib.hid hR
  clear hR
  obtain ⟨r0, r1⟩ := R
  obtain ⟨_, q00, q01⟩ := A0_1.out
  simp only [Nat.zero_add] at q00 q01
  go_wp2_with fail
  refine (toGraph_any n0 _ (H0.out _ hb1) hxl0 HXR0.out).mono ?_
  rintro e w2 ⟨vs0, rfl, os0, b2⟩
  have hb2 := hb1.trans (b2.mono hb1.size)
  have A0_2 := Lib.hid (A0_1.out.below b2)
  clear b2 A0_1 q00 q01
  obtain ⟨ys0a, ys0c, ys0u, rfl, _⟩ := id os0.sl
  have Os0 := Lib.hid os0
  clear os0
  go_wp2_with fail
  refine (toInt64S_any _ (H1.out _ hb2) (by omega)).mono ?_
  rintro e w3 ⟨vs1, rfl, os1, b3⟩
  have hb3 := hb2.trans (b3.mono hb2.size)
  have A0_3 := Lib.hid (A0_2.out.below b3)
  have Os0_3 := Lib.hid (Os0.out.below b3)
  clear b3 A0_2 Os0 
  obtain ⟨ys1a, ys1c, rfl, _⟩ := id os1.sl
  have Os1 := Lib.hid os1
  clear os1
  go_wp2_with fail
  refine (SpecIsIndependent_any n0 _ Os0_3.out.sl Os1.out.sl).mono ?_
  rintro e w4 ⟨rfl, b4⟩
  rw [HR.out]
  unfold tupBI
  have hb4 := hb3.trans (b4.mono hb3.size)
  have A0_4 := Lib.hid (A0_3.out.below b4)
  have Os0_4 := Lib.hid (Os0_3.out.below b4)
  have Os1_4 := Lib.hid (Os1.out.below b4)
  clear b4 A0_3 Os0_3 Os1 
  clear Os0_4
  clear Os1_4
  obtain ⟨_, q00, q01⟩ := A0_4.out
  simp only [Nat.zero_add] at q00 q01
  go_wp2_with fail
  refine (toGraph_any n0 _ (H0.out _ hb4) hxl0 HXR0.out).mono ?_
  rintro e w5 ⟨vx0, rfl, ox0, b5⟩
  have hb5 := hb4.trans (b5.mono hb4.size)
  have A0_5 := Lib.hid (A0_4.out.below b5)
  clear b5 A0_4 q00 q01
  obtain ⟨yx0a, yx0c, yx0u, rfl, _⟩ := id ox0.sl
  have Ox0 := Lib.hid ox0
  clear ox0
  have bx0 : Below w5.heap.size w5 (w5.alloc (grObj n0 (.slice yx0a xss0.length yx0c))) := (Below.refl _ _).alloc (Nat.le_refl _) _
  have A0_x0 := Lib.hid (A0_5.out.below bx0)
  have Ox0_x0 := Lib.hid (Ox0.out.below bx0)
  have X0 := Lib.hid (grBox w5 n0 (.slice yx0a xss0.length yx0c))
  have hbx0 := hb5.trans (bx0.mono hb5.size)
  have hsx0 : w.heap.size ≤ w5.heap.size := hb5.size
  clear bx0 A0_5 Ox0
  go_wp2_with fail
  refine (toInt64S_any _ (H1.out _ hbx0) (by omega)).mono ?_
  rintro e w6 ⟨vx1, rfl, ox1, b6⟩
  have hb6 := hbx0.trans (b6.mono hbx0.size)
  have A0_6 := Lib.hid (A0_x0.out.below b6)
  have Ox0_6 := Lib.hid (Ox0_x0.out.below b6)
  have X0_6 := Lib.hid (X0.out.below b6)
  clear b6 A0_x0 Ox0_x0 X0 
  obtain ⟨yx1a, yx1c, rfl, _⟩ := id ox1.sl
  have Ox1 := Lib.hid ox1
  clear ox1
  obtain ⟨_, x00, x01⟩ := X0_6.out
  simp only [Nat.zero_add] at x00 x01
  go_wp2_with fail
  refine (ImplIsIndependent_any n0 _ Ox0_6.out.sl Ox1.out.sl).mono ?_
  rintro e w7 ⟨rfl, b7⟩
  rw [HR.out]
  unfold tupBI
  have hb7 := hb6.trans (b7.mono hb6.size)
  have A0_7 := Lib.hid (A0_6.out.below b7)
  have Ox0_7 := Lib.hid (Ox0_6.out.below b7)
  have X0_7 := Lib.hid (X0_6.out.below b7)
  have Ox1_7 := Lib.hid (Ox1.out.below b7)
  clear b7 A0_6 Ox0_6 X0_6 Ox1 x00 x01
  have hr_0 : (r0 != r0) = false := by simp
  have hr_1 : (r1 != r1) = false := by simp
  go_upto_region 13 with (fail)
  go_cut [50] (fun sz wx => sz = .bool false ∧ Below w7.heap.size w7 wx)
  case first =>
    have hbz := (Below.refl w7.heap.size w7).drew
    obtain ⟨_, x0, x1⟩ := X0_7.out
    obtain ⟨_, q0, q1⟩ := A0_7.out
    simp only [Nat.zero_add] at x0 x1 q0 q1
    go_region_with (first
      | (go_at_call 25; (with_reducible refine (toGraph_any n0 _ (H0.out _ (hb7.trans (hbz.mono hb7.size))) hxl0 HXR0.out).mono ?_); rintro e w' ⟨vx, rfl, hv, b⟩; have sx := hv.sl; have hbz := hbz.trans (b.mono hbz.size); clear hv; obtain ⟨_, r0, r1⟩ := X0_7.out.below hbz; simp only [Nat.zero_add] at r0 r1)
      | (go_at_call 27; (with_reducible refine (eqGraph_refl n0 _ (Ox0_7.out.below hbz).sl sx).mono ?_); rintro e w' ⟨rfl, b⟩; have hbz := hbz.trans (b.mono hbz.size)))
    all_goals (go_wp2_with fail; go_meet; exact ⟨rfl, hbz⟩)
  case rest =>
    obtain ⟨rfl, hbc⟩ := hcut
    rename_i w8
    have hb8 := hb7.trans (hbc.mono hb7.size)
    have A0_8 := Lib.hid (A0_7.out.below hbc)
    have Ox0_8 := Lib.hid (Ox0_7.out.below hbc)
    have X0_8 := Lib.hid (X0_7.out.below hbc)
    have Ox1_8 := Lib.hid (Ox1_7.out.below hbc)
    clear hbc A0_7 Ox0_7 X0_7 Ox1_7 
    go_wp2_with fail
    refine (toInt64S_any _ (H1.out _ hb8) (by omega)).mono ?_
    rintro e w9 ⟨vz1, rfl, oz1, b9⟩
    have hb9 := hb8.trans (b9.mono hb8.size)
    have A0_9 := Lib.hid (A0_8.out.below b9)
    have Ox0_9 := Lib.hid (Ox0_8.out.below b9)
    have X0_9 := Lib.hid (X0_8.out.below b9)
    have Ox1_9 := Lib.hid (Ox1_8.out.below b9)
    clear b9 A0_8 Ox0_8 X0_8 Ox1_8 
    have Oz1 := Lib.hid oz1
    clear oz1
    obtain ⟨yz1a, yz1c, rfl, _⟩ := id Oz1.out.sl
    go_wp2_with fail
    refine (eqInt64S_refl _ Ox1_9.out.sl Oz1.out.sl).mono ?_
    rintro e w10 ⟨rfl, b10⟩
    have hb10 := hb9.trans (b10.mono hb9.size)
    have A0_10 := Lib.hid (A0_9.out.below b10)
    have Ox0_10 := Lib.hid (Ox0_9.out.below b10)
    have X0_10 := Lib.hid (X0_9.out.below b10)
    have Ox1_10 := Lib.hid (Ox1_9.out.below b10)
    have Oz1_10 := Lib.hid (Oz1.out.below b10)
    clear b10 A0_9 Ox0_9 X0_9 Ox1_9 Oz1 
    clear Oz1_10
    go_wp2
    go_ret
    exact ⟨rfl, hb10⟩
end Go.Proofs.Ytbokklbbnaibdaa
