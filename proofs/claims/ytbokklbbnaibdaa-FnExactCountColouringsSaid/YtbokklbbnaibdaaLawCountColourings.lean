/-
  FnExactCountColourings: both answer the same, and leave what they are given as it was.
-/
import Derived.Test.YtbokklbbnaibdaaCountS
import Derived.Test.YtbokklbbnaibdaaLawG
import Derived.Test.YtbokklbbnaibdaaLawI
import Derived.Deep.RegionWith
import Derived.Deep.DeepCutAuto
namespace Go.Proofs.Ytbokklbbnaibdaa
open Go.RowKit Go.Sort
set_option linter.unusedVariables false
set_option maxRecDepth 100000 in
set_option maxHeartbeats 4000000 in
theorem FnExactCountColourings_walk {u0 : Value} {xss0 : List (List Int)} (n0 : Int) (a1 : Int) (w : World) (ha0 : SlII w u0 xss0) :
    Calls Try.prog 11 #[.agg #[.int .i64 n0, u0], .int .i64 a1] w fun e w' => e = .returned (.bool true) ∧ Below w.heap.size w w' := by
  obtain ⟨pa0, pc0, pu0, rfl, _⟩ := id ha0
  have hb0 : Below w.heap.size w (w.alloc (argGr n0 (.slice pa0 xss0.length pc0))) := ((Below.refl w.heap.size w).alloc (by simp) (argGr n0 (.slice pa0 xss0.length pc0)))
  have A0 := Lib.hid (argGrBox w n0 (.slice pa0 xss0.length pc0))
  have H0 := Lib.hid (fun W (h : Below w.heap.size w W) => ha0.below h)
  clear ha0
  have hr0 := szII_range 1048576 xss0 (by omega)
  generalize hz0 : szII 1048576 xss0 = l0 at hr0
  have HZ0 := Lib.hid hz0
  clear hz0
  go_enter Try.func11, Try.ntmps11
  obtain ⟨_, q00, q01⟩ := A0.out
  simp only [Nat.zero_add] at q00 q01
  go_wp2_with fail
  refine (szGraph_any n0 1048576 _ (H0.out _ hb0) (by omega) (by omega)).mono ?_
  rintro e w1 ⟨rfl, b1⟩
  rw [HZ0.out]
  have hb1 := hb0.trans (b1.mono hb0.size)
  have A0_1 := Lib.hid (A0.out.below b1)
  clear b1 A0 q00 q01
  by_cases hl0 : l0 < 0
  · go_wp2
    go_ret
    exact ⟨rfl, hb1⟩
  obtain ⟨hxl0, hxr0⟩ := szII_ok HZ0.out hl0
  have HXR0 := Lib.hid hxr0
  clear hxr0
  generalize hR : countR n0 xss0 a1 = R
  have HR := Lib.hid hR
  clear hR
  obtain ⟨r0, r1⟩ := R
  obtain ⟨_, q00, q01⟩ := A0_1.out
  simp only [Nat.zero_add] at q00 q01
  go_wp2_with fail
  refine (toGraph_any n0 _ (H0.out _ hb1) hxl0 HXR0.out).mono ?_
  rintro e w2 ⟨vs0, rfl, os0, b2⟩
  have hb2 := hb1.trans (b2.mono hb1.size)
  have A0_2 := Lib.hid (A0_1.out.below b2)
  clear b2 A0_1 q00 q01
  obtain ⟨ys0a, ys0c, ys0u, rfl, _⟩ := id os0.sl
  have Os0 := Lib.hid os0
  clear os0
  go_wp2_with fail
  refine (SpecCountColourings_any n0 a1 _ Os0.out.sl).mono ?_
  rintro e w3 ⟨rfl, b3⟩
  rw [HR.out]
  unfold tupII
  have hb3 := hb2.trans (b3.mono hb2.size)
  have A0_3 := Lib.hid (A0_2.out.below b3)
  have Os0_3 := Lib.hid (Os0.out.below b3)
  clear b3 A0_2 Os0 
  clear Os0_3
  obtain ⟨_, q00, q01⟩ := A0_3.out
  simp only [Nat.zero_add] at q00 q01
  go_wp2_with fail
  refine (toGraph_any n0 _ (H0.out _ hb3) hxl0 HXR0.out).mono ?_
  rintro e w4 ⟨vx0, rfl, ox0, b4⟩
  have hb4 := hb3.trans (b4.mono hb3.size)
  have A0_4 := Lib.hid (A0_3.out.below b4)
  clear b4 A0_3 q00 q01
  obtain ⟨yx0a, yx0c, yx0u, rfl, _⟩ := id ox0.sl
  have Ox0 := Lib.hid ox0
  clear ox0
  have bx0 : Below w4.heap.size w4 (w4.alloc (grObj n0 (.slice yx0a xss0.length yx0c))) := (Below.refl _ _).alloc (Nat.le_refl _) _
  have A0_x0 := Lib.hid (A0_4.out.below bx0)
  have Ox0_x0 := Lib.hid (Ox0.out.below bx0)
  have X0 := Lib.hid (grBox w4 n0 (.slice yx0a xss0.length yx0c))
  have hbx0 := hb4.trans (bx0.mono hb4.size)
  have hsx0 : w.heap.size ≤ w4.heap.size := hb4.size
  clear bx0 A0_4 Ox0
  obtain ⟨_, x00, x01⟩ := X0.out
  simp only [Nat.zero_add] at x00 x01
  go_wp2_with fail
  refine (ImplCountColourings_any n0 a1 _ Ox0_x0.out.sl).mono ?_
  rintro e w5 ⟨rfl, b5⟩
  rw [HR.out]
  unfold tupII
  have hb5 := hbx0.trans (b5.mono hbx0.size)
  have A0_5 := Lib.hid (A0_x0.out.below b5)
  have Ox0_5 := Lib.hid (Ox0_x0.out.below b5)
  have X0_5 := Lib.hid (X0.out.below b5)
  clear b5 A0_x0 Ox0_x0 X0 x00 x01
  have hr_0 : (r0 != r0) = false := by simp
  have hr_1 : (r1 != r1) = false := by simp
  go_upto_region 10 with (fail)
  go_cut [43] (fun sz wx => sz = .bool false ∧ Below w5.heap.size w5 wx)
  case first =>
    have hbz := (Below.refl w5.heap.size w5).drew
    obtain ⟨_, x0, x1⟩ := X0_5.out
    obtain ⟨_, q0, q1⟩ := A0_5.out
    simp only [Nat.zero_add] at x0 x1 q0 q1
    go_region_with (first
      | (go_at_call 25; (with_reducible refine (toGraph_any n0 _ (H0.out _ (hb5.trans (hbz.mono hb5.size))) hxl0 HXR0.out).mono ?_); rintro e w' ⟨vx, rfl, hv, b⟩; have sx := hv.sl; have hbz := hbz.trans (b.mono hbz.size); clear hv; obtain ⟨_, r0, r1⟩ := X0_5.out.below hbz; simp only [Nat.zero_add] at r0 r1)
      | (go_at_call 27; (with_reducible refine (eqGraph_refl n0 _ (Ox0_5.out.below hbz).sl sx).mono ?_); rintro e w' ⟨rfl, b⟩; have hbz := hbz.trans (b.mono hbz.size)))
    all_goals (go_wp2_with fail; go_meet; exact ⟨rfl, hbz⟩)
  case rest =>
    obtain ⟨rfl, hbc⟩ := hcut
    rename_i w6
    have hb6 := hb5.trans (hbc.mono hb5.size)
    have A0_6 := Lib.hid (A0_5.out.below hbc)
    have Ox0_6 := Lib.hid (Ox0_5.out.below hbc)
    have X0_6 := Lib.hid (X0_5.out.below hbc)
    clear hbc A0_5 Ox0_5 X0_5 
    go_wp2
    go_ret
    exact ⟨rfl, hb6⟩
end Go.Proofs.Ytbokklbbnaibdaa
