/-
  FnExactDeckNumber: both answer the same, and leave what they are given as it was.
-/
import Derived.Test.YtbokklbbnaibdaaDeckAt
import Derived.Test.YtbokklbbnaibdaaLawI
import Derived.Deep.RegionWith
import Derived.Deep.DeepCutAuto
namespace Go.Proofs.Ytbokklbbnaibdaa
open Go.RowKit Go.Sort
set_option linter.unusedVariables false
set_option maxRecDepth 100000 in
set_option maxHeartbeats 4000000 in
theorem FnExactDeckNumber_walk {u0 : Value} {xs0 : List Int} (w : World) (ha0 : SlI w u0 xs0):
    Calls Try.prog 4 #[u0] w fun e w' => e = .returned (.bool true) ∧ Below w.heap.size w w' := by
  obtain ⟨pa0, pc0, rfl, pl0, pm0, _⟩ := id ha0; unfold maxLen at pm0
  have hb0 : Below w.heap.size w w := (Below.refl w.heap.size w)
  have H0 := Lib.hid (fun W (h : Below w.heap.size w W) => ha0.below h)
  clear ha0
  by_cases hlen0 : 1048576 < xs0.length
  · go_enter Try.func4, Try.ntmps4
    go_wp2
    go_ret
    exact ⟨rfl, hb0⟩
  go_enter Try.func4, Try.ntmps4
  generalize hR : deckNumR xs0 = R
  have HR := Lib.hid hR
  clear hR
  obtain ⟨r0, r1⟩ := R
  go_wp2_with fail
  refine (toInt64S_any _ (H0.out _ hb0) (by omega)).mono ?_
  rintro e w1 ⟨vs0, rfl, os0, b1⟩
  have hb1 := hb0.trans (b1.mono hb0.size)
  clear b1  
  obtain ⟨ys0a, ys0c, rfl, _⟩ := id os0.sl
  have Os0 := Lib.hid os0
  clear os0
  go_wp2_with fail
  refine (SpecDeckNumber_any _ Os0.out.sl).mono ?_
  rintro e w2 ⟨rfl, b2⟩
  rw [HR.out]
  unfold tupII
  have hb2 := hb1.trans (b2.mono hb1.size)
  have Os0_2 := Lib.hid (Os0.out.below b2)
  clear b2 Os0 
  clear Os0_2
  go_wp2_with fail
  refine (toInt64S_any _ (H0.out _ hb2) (by omega)).mono ?_
  rintro e w3 ⟨vx0, rfl, ox0, b3⟩
  have hb3 := hb2.trans (b3.mono hb2.size)
  clear b3  
  obtain ⟨yx0a, yx0c, rfl, _⟩ := id ox0.sl
  have Ox0 := Lib.hid ox0
  clear ox0
  go_wp2_with fail
  refine (ImplDeckNumber_any _ Ox0.out.sl).mono ?_
  rintro e w4 ⟨rfl, b4⟩
  rw [HR.out]
  unfold tupII
  have hb4 := hb3.trans (b4.mono hb3.size)
  have Ox0_4 := Lib.hid (Ox0.out.below b4)
  clear b4 Ox0 
  have hr_0 : (r0 != r0) = false := by simp
  have hr_1 : (r1 != r1) = false := by simp
  go_wp2_with fail
  refine (toInt64S_any _ (H0.out _ hb4) (by omega)).mono ?_
  rintro e w5 ⟨vz0, rfl, oz0, b5⟩
  have hb5 := hb4.trans (b5.mono hb4.size)
  have Ox0_5 := Lib.hid (Ox0_4.out.below b5)
  clear b5 Ox0_4 
  have Oz0 := Lib.hid oz0
  clear oz0
  obtain ⟨yz0a, yz0c, rfl, _⟩ := id Oz0.out.sl
  go_wp2_with fail
  refine (eqInt64S_refl _ Ox0_5.out.sl Oz0.out.sl).mono ?_
  rintro e w6 ⟨rfl, b6⟩
  have hb6 := hb5.trans (b6.mono hb5.size)
  have Ox0_6 := Lib.hid (Ox0_5.out.below b6)
  have Oz0_6 := Lib.hid (Oz0.out.below b6)
  clear b6 Ox0_5 Oz0 
  clear Oz0_6
  go_wp2
  go_ret
  exact ⟨rfl, hb6⟩
end Go.Proofs.Ytbokklbbnaibdaa
