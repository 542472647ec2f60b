/-
  FnExactDeckAt: both answer the same, and leave what they are given as it was.
-/
import Derived.Test.YtbokklbbnaibdaaDeckAt
import Derived.Test.YtbokklbbnaibdaaLawI
import Derived.Test.YtbokklbbnaibdaaFrame
import Derived.Deep.RegionWith
import Derived.Deep.DeepCutAuto
namespace Go.Proofs.Ytbokklbbnaibdaa
open Go.RowKit Go.Sort
set_option linter.unusedVariables false
set_option maxRecDepth 100000 in
set_option maxHeartbeats 4000000 in
theorem FnExactDeckAt_walk (a0 : Int) (a1 : Int) (w : World)  :
    Calls Try.prog 3 #[.int .i64 a0, .int .i64 a1] w fun e w' => e = .returned (.bool true) ∧ Below w.heap.size w w' := by
  have hb0 : Below w.heap.size w w := (Below.refl w.heap.size w)
  go_enter Try.func3, Try.ntmps3
  generalize hR : deckAtR a0 a1 = R
  have hlen := deckAtR_len a0 a1
  rw [hR] at hlen
  have HR := Lib.hid hR
  clear hR
  obtain ⟨r0, r1⟩ := R
  have hlen : r0.length ≤ 3 := hlen
  have HLEN := Lib.hid hlen
  go_wp2_with fail
  refine (SpecDeckAt_any a0 a1 _).mono ?_
  rintro e w1 ⟨vw0, rfl, ow0, b1⟩
  have Z1 := Lib.hid b1.size
  rw [HR.out] at ow0 ⊢
  have hb1 := hb0.trans (b1.mono hb0.size)
  clear b1  
  have ow0 : OwnI _ _ _ r0 := ow0
  obtain ⟨zw0a, zw0c, rfl, _⟩ := id ow0.sl
  unfold tupVC
  have W0 := Lib.hid ow0
  clear ow0
  have hd0 := Below.refl w1.heap.size w1
  have HDB := Lib.hid hb1
  have HwD : Hid (w.heap.size ≤ w1.heap.size) := hb1.size
  have DW0 := Lib.hid (fun W (h : Below w1.heap.size w1 W) => W0.out.below h)
  obtain ⟨NB, hNB⟩ : ∃ n, n = w1.heap.size := ⟨_, rfl⟩
  have HNB := Lib.hid hNB
  clear hNB
  go_wp2_with fail
  refine (ImplDeckAt_any a0 a1 _).mono ?_
  rintro e w2 ⟨vg0, rfl, og0, b2⟩
  have Z2 := Lib.hid b2.size
  rw [HR.out] at og0 ⊢
  have hb2 := hb1.trans (b2.mono hb1.size)
  have hd2 := hd0.trans (b2.mono hd0.size)
  have W0_2 := Lib.hid (W0.out.below b2)
  clear b2 W0  hd0
  have og0 : OwnI _ _ _ r0 := og0
  obtain ⟨zg0a, zg0c, rfl, _⟩ := id og0.sl
  unfold tupVC
  rw [← HNB.out] at og0
  have HGS : Hid (∀ k, (fun k => Value.ownBlock (.slice zg0a r0.length zg0c) = some k) k → NB ≤ k ∧ k < w2.heap.size) := fun k hk => og0.lt k hk
  have G0 := Lib.hid og0
  clear og0
  go_wp2_with fail
  refine (eqInt64S_refl _ G0.out.sl W0_2.out.sl).mono ?_
  rintro e w3 ⟨rfl, b3⟩
  have Z3 := Lib.hid b3.size
  have hb3 := hb2.trans (b3.mono hb2.size)
  have hd3 := hd2.trans (b3.mono hd2.size)
  have W0_3 := Lib.hid (W0_2.out.below b3)
  have G0_3 := Lib.hid (G0.out.below b3)
  clear b3 W0_2 G0  hd2
  have hr_1 : (r1 != r1) = false := by simp
  go_wp2_with fail
  refine (markInt64S_any 1 _ _ (by omega) (by have := HLEN.out; omega) G0_3.out).mono ?_
  rintro e w4 ⟨rfl, og1, b4⟩
  have Z4 := Lib.hid b4.size
  have fg : Fs (fun k => Value.ownBlock (.slice zg0a r0.length zg0c) = some k) _ _ := Fs.of_grown b4 (fun g hg => hg)
  have hd4 := hd3.trans (fg.below (B := w1.heap.size) (by have := Z1.out; have := HNB.out; have := Z2.out; have := Z3.out; have := Z4.out; omega) (fun k hk => by have := (HGS.out k hk).1; have := Z1.out; have := HNB.out; have := Z2.out; have := Z3.out; have := Z4.out; omega))
  have W0_4 := Lib.hid (DW0.out _ hd4)
  have hb4 := HDB.out.trans (hd4.mono HwD.out)
  clear b4 fg hb3 hd3 W0_3 G0_3 
  have G1 := Lib.hid og1
  clear og1
  have hq0 : ¬ (1 + (r0.length : Int) : Int) < 0 := by omega
  have hq1 : ((1 + (r0.length : Int) : Int) != (1 + (r0.length : Int))) = false := by simp
  go_wp2_with fail
  refine (heldInt64S_any 1 _ _ (by omega) (by have := HLEN.out; omega) G1.out.sl).mono ?_
  rintro e w5 ⟨rfl, b5⟩
  have Z5 := Lib.hid b5.size
  have hb5 := hb4.trans (b5.mono hb4.size)
  have hd5 := hd4.trans (b5.mono hd4.size)
  have W0_5 := Lib.hid (W0_4.out.below b5)
  have G1_5 := Lib.hid (G1.out.below b5)
  clear b5 W0_4 G1  hd4
  go_wp2_with fail
  refine (ImplDeckAt_any a0 a1 _).mono ?_
  rintro e w6 ⟨vh0, rfl, oh0, b6⟩
  have Z6 := Lib.hid b6.size
  rw [HR.out] at oh0 ⊢
  have hb6 := hb5.trans (b6.mono hb5.size)
  have hd6 := hd5.trans (b6.mono hd5.size)
  have W0_6 := Lib.hid (W0_5.out.below b6)
  have G1_6 := Lib.hid (G1_5.out.below b6)
  clear b6 W0_5 G1_5  hd5
  have oh0 : OwnI _ _ _ r0 := oh0
  obtain ⟨zh0a, zh0c, rfl, _⟩ := id oh0.sl
  unfold tupVC
  have HH := Lib.hid oh0
  clear oh0
  go_wp2_with fail
  refine (eqInt64S_refl _ HH.out.sl W0_6.out.sl).mono ?_
  rintro e w7 ⟨rfl, b7⟩
  have Z7 := Lib.hid b7.size
  have hb7 := hb6.trans (b7.mono hb6.size)
  have hd7 := hd6.trans (b7.mono hd6.size)
  have W0_7 := Lib.hid (W0_6.out.below b7)
  have G1_7 := Lib.hid (G1_6.out.below b7)
  have HH_7 := Lib.hid (HH.out.below b7)
  clear b7 W0_6 G1_6 HH  hd6
  go_wp2_with fail
  refine (heldInt64S_any 1 _ _ (by omega) (by have := HLEN.out; omega) G1_7.out.sl).mono ?_
  rintro e w8 ⟨rfl, b8⟩
  have Z8 := Lib.hid b8.size
  have hb8 := hb7.trans (b8.mono hb7.size)
  have hd8 := hd7.trans (b8.mono hd7.size)
  have W0_8 := Lib.hid (W0_7.out.below b8)
  have G1_8 := Lib.hid (G1_7.out.below b8)
  have HH_8 := Lib.hid (HH_7.out.below b8)
  clear b8 W0_7 G1_7 HH_7  hd7
  go_wp2
  go_ret
  exact ⟨rfl, hb8⟩
end Go.Proofs.Ytbokklbbnaibdaa
