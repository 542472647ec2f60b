/-
  FnExactStepPaths: both answer the same, and leave what they are given as it was.
-/
import Derived.Test.YtpmabnohdabbdaaZRowStepPaths25
import Derived.Test.YtpmabnohdabbdaaZRowStepPaths13
import Derived.Test.YtpmabnohdabbdaaZRowStepPaths5
import Derived.Test.YtpmabnohdabbdaaZRowStepPaths6
import Derived.Test.YtpmabnohdabbdaaZRowStepPaths1
import Derived.Deep.RegionWith
import Derived.Deep.DeepCutAuto
set_option linter.unusedVariables false
set_option linter.unusedSimpArgs false
namespace Go.Proofs.Ytpmabnohdabbdaa
open Go.RowKit Go.Sort
set_option linter.unusedVariables false
set_option maxRecDepth 100000 in
set_option maxHeartbeats 4000000 in
theorem FnExactStepPaths_walk {u0 : Value} {xss0 : List (List Int)} (s0 t0 : Int) {u1 : Value} {xss1 : List (List Int)} (s1 t1 : Int) (w : World) (ha0 : SlII w u0 xss0) (ha1 : SlII w u1 xss1):
    Calls Try.prog 5 #[.agg #[.int .i64 s0, .int .i64 t0, u0], .agg #[.int .i64 s1, .int .i64 t1, u1]] w fun e w' => e = .returned (.bool true) ∧ Below w.heap.size w w' := by
  obtain ⟨pa0, pc0, pu0, rfl, _⟩ := id ha0
  obtain ⟨pa1, pc1, pu1, rfl, _⟩ := id ha1
  have hb0 : Below w.heap.size w ((w.alloc (argCh s0 t0 (.slice pa0 xss0.length pc0))).alloc (argCh s1 t1 (.slice pa1 xss1.length pc1))) := (((Below.refl w.heap.size w).alloc (by simp) (argCh s0 t0 (.slice pa0 xss0.length pc0))).alloc (by simp) (argCh s1 t1 (.slice pa1 xss1.length pc1)))
  have A0 := Lib.hid (((argChBox w s0 t0 (.slice pa0 xss0.length pc0))).below ((Below.refl _ _).alloc (Nat.le_refl _) (argCh s1 t1 (.slice pa1 xss1.length pc1))))
  have hA1 := argChBox (w.alloc (argCh s0 t0 (.slice pa0 xss0.length pc0))) s1 t1 (.slice pa1 xss1.length pc1)
  rw [show (w.alloc (argCh s0 t0 (.slice pa0 xss0.length pc0))).heap.size = w.heap.size + 1 from by simp] at hA1
  have A1 := Lib.hid hA1
  clear hA1
  have H0 := Lib.hid (fun W (h : Below w.heap.size w W) => ha0.below h)
  clear ha0
  have H1 := Lib.hid (fun W (h : Below w.heap.size w W) => ha1.below h)
  clear ha1
  have hr0 := szII_range 1048576 xss0 (by omega)
  generalize hz0 : szII 1048576 xss0 = l0 at hr0
  have HZ0 := Lib.hid hz0
  clear hz0
  have hr1 := szII_range l0 xss1 (by omega)
  generalize hz1 : szII l0 xss1 = l1 at hr1
  have HZ1 := Lib.hid hz1
  clear hz1
  go_enter Try.func5, Try.ntmps5
  obtain ⟨_, q00, q01, q02⟩ := A0.out
  obtain ⟨_, q10, q11, q12⟩ := A1.out
  simp only [Nat.zero_add] at q00 q01 q02 q10 q11 q12
  go_wp2_with fail
  refine (szChain_any s0 t0 1048576 _ (H0.out _ hb0) (by omega) (by omega)).mono ?_
  rintro e w1 ⟨rfl, b1⟩
  rw [HZ0.out]
  have hb1 := hb0.trans (b1.mono hb0.size)
  have A0_1 := Lib.hid (A0.out.below b1)
  have A1_1 := Lib.hid (A1.out.below b1)
  clear b1 A0 A1 q00 q01 q02 q10 q11 q12
  by_cases hl0 : l0 < 0
  · go_wp2
    go_ret
    exact ⟨rfl, hb1⟩
  obtain ⟨hxl0, hxr0⟩ := szII_ok HZ0.out hl0
  have HXR0 := Lib.hid hxr0
  clear hxr0
  have HSUM0 := Lib.hid (szII_sum HZ0.out hl0 (by omega))
  obtain ⟨_, q00, q01, q02⟩ := A0_1.out
  obtain ⟨_, q10, q11, q12⟩ := A1_1.out
  simp only [Nat.zero_add] at q00 q01 q02 q10 q11 q12
  go_wp2_with fail
  refine (szChain_any s1 t1 l0 _ (H1.out _ hb1) (by omega) (by omega)).mono ?_
  rintro e w2 ⟨rfl, b2⟩
  rw [HZ1.out]
  have hb2 := hb1.trans (b2.mono hb1.size)
  have A0_2 := Lib.hid (A0_1.out.below b2)
  have A1_2 := Lib.hid (A1_1.out.below b2)
  clear b2 A0_1 A1_1 q00 q01 q02 q10 q11 q12
  by_cases hl1 : l1 < 0
  · go_wp2
    go_ret
    exact ⟨rfl, hb2⟩
  obtain ⟨hxl1, hxr1⟩ := szII_okl HZ1.out hl1 (by omega)
  have HXR1 := Lib.hid hxr1
  clear hxr1
  have HSUM1 := Lib.hid (szII_sum HZ1.out hl1 (by omega))
  generalize hR : stepsR s0 t0 xss0 s1 t1 xss1 = R
  have hlen := stepsR_len s0 t0 xss0 s1 t1 xss1
  rw [hR] at hlen
  have HR := Lib.hid hR
  clear hR
  obtain ⟨r0, r1⟩ := R
  have hlen : sumL r0 ≤ 2000 := hlen
  have HLEN := Lib.hid hlen
  obtain ⟨_, q00, q01, q02⟩ := A0_2.out
  simp only [Nat.zero_add] at q00 q01 q02
  have CW := Lib.hid (fun W (h : Below w2.heap.size w2 W) => show W.cell? ⟨w.heap.size, 0, none⟩ = some (.int .i64 s0) ∧ W.cell? ⟨w.heap.size, 1, none⟩ = some (.int .i64 t0) ∧ W.cell? ⟨w.heap.size, 2, none⟩ = some (.slice pa0 xss0.length pc0) ∧ W.cell? ⟨w.heap.size + 1, 0, none⟩ = some (.int .i64 s1) ∧ W.cell? ⟨w.heap.size + 1, 1, none⟩ = some (.int .i64 t1) ∧ W.cell? ⟨w.heap.size + 1, 2, none⟩ = some (.slice pa1 xss1.length pc1) from by
    obtain ⟨_, a0, a1, a2⟩ := A0_2.out.below h
    obtain ⟨_, b0, b1, b2⟩ := A1_2.out.below h
    simp only [Nat.zero_add] at a0 a1 a2 b0 b1 b2
    exact ⟨a0, a1, a2, b0, b1, b2⟩)
  have hbd : Below w.heap.size w w2.drew := hb2.trans ((Below.refl _ _).drew.mono hb2.size)
  go_wp2_with fail
  refine wpX_start (fun W => W.cell? ⟨w.heap.size, 0, none⟩ = some (.int .i64 s0) ∧ W.cell? ⟨w.heap.size, 1, none⟩ = some (.int .i64 t0) ∧ W.cell? ⟨w.heap.size, 2, none⟩ = some (.slice pa0 xss0.length pc0) ∧ W.cell? ⟨w.heap.size + 1, 0, none⟩ = some (.int .i64 s1) ∧ W.cell? ⟨w.heap.size + 1, 1, none⟩ = some (.int .i64 t1) ∧ W.cell? ⟨w.heap.size + 1, 2, none⟩ = some (.slice pa1 xss1.length pc1)) [] (by kernel_rfl) ?_
  have hC := CW.out w2.drew (Below.refl w2.heap.size w2).drew
  refine wpX_load (i := 0) (v := ?_) rfl (by kernel_rfl) (fun _ _ _ h => h) hC rfl (fun w' hw' => ?_) ?_
  rotate_left
  · obtain ⟨k1, k2, k3, k4, k5, k6⟩ := hw'; go_simp; try with_reducible rfl
  try simp only [Act.put, List.setIfInBounds_toArray, List.set_cons_zero, List.set_cons_succ]
  refine wpX_load (i := 2) (v := ?_) rfl (by kernel_rfl) (fun _ _ _ h => h) hC rfl (fun w' hw' => ?_) ?_
  rotate_left
  · obtain ⟨k1, k2, k3, k4, k5, k6⟩ := hw'; go_simp; try with_reducible rfl
  try simp only [Act.put, List.setIfInBounds_toArray, List.set_cons_zero, List.set_cons_succ]
  refine wpX_one (i := 1) rfl (by kernel_rfl) rfl ?_
  intro K hK
  go_simp
  go_at_call 16
  refine (toChain_any s0 t0 _ (H0.out _ hbd) hxl0 HXR0.out).mono ?_
  rintro e w3 ⟨vs0, rfl, os0, b3⟩
  have b3 : Below w2.heap.size w2 w3 := (Below.refl w2.heap.size w2).drew.trans b3
  have BB3 := Lib.hid b3
  refine hK _ _ (CW.out _ b3) ?_
  clear hK K
  try simp only [Act.put, List.setIfInBounds_toArray, List.set_cons_zero, List.set_cons_succ]
  have Z3 := Lib.hid b3.size
  have hb3 := hb2.trans (b3.mono hb2.size)
  have A0_3 := Lib.hid (A0_2.out.below b3)
  have A1_3 := Lib.hid (A1_2.out.below b3)
  clear b3 A0_2 A1_2 q00 q01 q02
  obtain ⟨ys0a, ys0c, ys0u, rfl, _⟩ := id os0.sl
  have Os0 := Lib.hid os0
  clear os0
  obtain ⟨_, q10, q11, q12⟩ := A1_3.out
  simp only [Nat.zero_add] at q10 q11 q12
  refine wpX_one (i := 3) rfl (by kernel_rfl) rfl ?_
  intro K hK
  go_simp
  go_at_call 16
  refine (toChain_any s1 t1 _ (H1.out _ hb3) hxl1 HXR1.out).mono ?_
  rintro e w4 ⟨vs1, rfl, os1, b4⟩
  have BB4 := Lib.hid (BB3.out.trans (b4.mono BB3.out.size))
  refine hK _ _ (CW.out _ BB4.out) ?_
  clear hK K
  try simp only [Act.put, List.setIfInBounds_toArray, List.set_cons_zero, List.set_cons_succ]
  have Z4 := Lib.hid b4.size
  have hb4 := hb3.trans (b4.mono hb3.size)
  have A0_4 := Lib.hid (A0_3.out.below b4)
  have A1_4 := Lib.hid (A1_3.out.below b4)
  have Os0_4 := Lib.hid (Os0.out.below b4)
  clear b4 A0_3 A1_3 Os0 q10 q11 q12
  obtain ⟨ys1a, ys1c, ys1u, rfl, _⟩ := id os1.sl
  have Os1 := Lib.hid os1
  clear os1
  refine wpX_one (i := 4) rfl (by kernel_rfl) rfl ?_
  intro K hK
  go_simp
  go_at_call 23
  refine (SpecStepPaths_f s0 t0 s1 t1 _ Os0_4.out.sl Os1.out.sl).mono ?_
  rintro e w5 ⟨vw0, rfl, ow0, b5⟩
  refine hK _ _ (CW.out _ (BB4.out.trans (b5.mono BB4.out.size))) ?_
  clear hK K
  try simp only [Act.put, List.setIfInBounds_toArray, List.set_cons_zero, List.set_cons_succ]
  have Z5 := Lib.hid b5.size
  rw [HR.out] at ow0 ⊢
  have hb5 := hb4.trans (b5.mono hb4.size)
  have A0_5 := Lib.hid (A0_4.out.below b5)
  have A1_5 := Lib.hid (A1_4.out.below b5)
  have Os0_5 := Lib.hid (Os0_4.out.below b5)
  have Os1_5 := Lib.hid (Os1.out.below b5)
  clear b5 A0_4 A1_4 Os0_4 Os1 
  have ow0 : OwnII _ _ _ r0 := ow0
  have ow0 := OwnII.b ow0
  obtain ⟨zw0a, zw0c, _, rfl, _⟩ := id ow0.sl
  unfold tupVC
  have W0 := Lib.hid ow0
  clear ow0
  refine wpX_free (i := 5) (v := ?_) rfl (by kernel_rfl) (fun _ _ _ h => h) rfl (fun w' => ?_) ?_
  rotate_left
  · go_simp; try with_reducible rfl
  try simp only [Act.put, List.setIfInBounds_toArray, List.set_cons_zero, List.set_cons_succ]
  refine wpX_free (i := 6) (v := ?_) rfl (by kernel_rfl) (fun _ _ _ h => h) rfl (fun w' => ?_) ?_
  rotate_left
  · go_simp; try with_reducible rfl
  try simp only [Act.put, List.setIfInBounds_toArray, List.set_cons_zero, List.set_cons_succ]
  refine wpX_free (i := 7) (v := ?_) rfl (by kernel_rfl) (fun _ _ _ h => h) rfl (fun w' => ?_) ?_
  rotate_left
  · go_simp; try with_reducible rfl
  try simp only [Act.put, List.setIfInBounds_toArray, List.set_cons_zero, List.set_cons_succ]
  refine wpX_free (i := 8) (v := ?_) rfl (by kernel_rfl) (fun _ _ _ h => h) rfl (fun w' => ?_) ?_
  rotate_left
  · go_simp; try with_reducible rfl
  try simp only [Act.put, List.setIfInBounds_toArray, List.set_cons_zero, List.set_cons_succ]
  refine wpX_free (i := 9) (v := ?_) rfl (by kernel_rfl) (fun _ _ _ h => h) rfl (fun w' => ?_) ?_
  rotate_left
  · go_simp; try with_reducible rfl
  try simp only [Act.put, List.setIfInBounds_toArray, List.set_cons_zero, List.set_cons_succ]
  refine wpX_rest (t := []) (l := []) rfl (by kernel_rfl) (by kernel_rfl) ?_
  clear hC CW hbd
  clear Os0_5
  clear Os1_5
  have hd0 := Below.refl w5.heap.size w5
  have HDB := Lib.hid hb5
  have HwD : Hid (w.heap.size ≤ w5.heap.size) := hb5.size
  have DA0 := Lib.hid (fun W (h : Below w5.heap.size w5 W) => A0_5.out.below h)
  have DA1 := Lib.hid (fun W (h : Below w5.heap.size w5 W) => A1_5.out.below h)
  have DW0 := Lib.hid (fun W (h : Below w5.heap.size w5 W) => W0.out.below h)
  obtain ⟨_, q00, q01, q02⟩ := A0_5.out
  simp only [Nat.zero_add] at q00 q01 q02
  go_wp2_with fail
  refine (toChain_any s0 t0 _ (H0.out _ hb5) hxl0 HXR0.out).mono ?_
  rintro e w6 ⟨vx0, rfl, ox0, b6⟩
  have Z6 := Lib.hid b6.size
  have hb6 := hb5.trans (b6.mono hb5.size)
  have hd6 := hd0.trans (b6.mono hd0.size)
  have A0_6 := Lib.hid (A0_5.out.below b6)
  have A1_6 := Lib.hid (A1_5.out.below b6)
  have A1U := A1_6
  have W0_6 := Lib.hid (W0.out.below b6)
  clear b6 A0_5 A1_5 W0 q00 q01 q02 hd0
  obtain ⟨yx0a, yx0c, yx0u, rfl, _⟩ := id ox0.sl
  have Ox0 := Lib.hid ox0.b
  clear ox0
  have bqx0 : Below w6.heap.size w6 (w6.alloc (chObj s0 t0 (.slice yx0a xss0.length yx0c))) := (Below.refl _ _).alloc (Nat.le_refl _) _
  have ZAx0 := Lib.hid (show (w6.alloc (chObj s0 t0 (.slice yx0a xss0.length yx0c))).heap.size = w6.heap.size + 1 from by simp)
  have A0_x0 := Lib.hid (A0_6.out.below bqx0)
  have A1_x0 := Lib.hid (A1_6.out.below bqx0)
  have W0_x0 := Lib.hid (W0_6.out.below bqx0)
  have Ox0_x0 := Lib.hid (Ox0.out.below bqx0)
  have hbqx0 := hb6.trans (bqx0.mono hb6.size)
  have hdqx0 := hd6.trans (bqx0.mono hd6.size)
  clear bqx0 A0_6 A1_6 W0_6 Ox0 hd6
  have X0 := Lib.hid (chBox w6 s0 t0 (.slice yx0a xss0.length yx0c))
  obtain ⟨hA1l, q10, q11, q12⟩ := A1U.out
  have nA1 : ¬ (w.heap.size + 1 = w6.heap.size) := by omega
  have nA2 : ¬ (w6.heap.size = w.heap.size + 1) := by omega
  simp only [Nat.zero_add] at q10 q11 q12
  go_wp2_with fail
  refine (toChain_any s1 t1 _ (H1.out _ hbqx0) hxl1 HXR1.out).mono ?_
  rintro e w7 ⟨vx1, rfl, ox1, b7⟩
  clear hA1l nA1 nA2 A1U
  have Z7 := Lib.hid b7.size
  have hb7 := hbqx0.trans (b7.mono hbqx0.size)
  have hd7 := hdqx0.trans (b7.mono hdqx0.size)
  have A0_7 := Lib.hid (A0_x0.out.below b7)
  have A1_7 := Lib.hid (A1_x0.out.below b7)
  have W0_7 := Lib.hid (W0_x0.out.below b7)
  have Ox0_7 := Lib.hid (Ox0_x0.out.below b7)
  have X0_7 := Lib.hid (X0.out.below b7)
  have X0U := X0_7
  clear b7 A0_x0 A1_x0 W0_x0 Ox0_x0 X0 q10 q11 q12 hdqx0
  obtain ⟨yx1a, yx1c, yx1u, rfl, _⟩ := id ox1.sl
  have Ox1 := Lib.hid ox1.b
  clear ox1
  have bqx1 : Below w7.heap.size w7 (w7.alloc (chObj s1 t1 (.slice yx1a xss1.length yx1c))) := (Below.refl _ _).alloc (Nat.le_refl _) _
  have ZAx1 := Lib.hid (show (w7.alloc (chObj s1 t1 (.slice yx1a xss1.length yx1c))).heap.size = w7.heap.size + 1 from by simp)
  have A0_x1 := Lib.hid (A0_7.out.below bqx1)
  have A1_x1 := Lib.hid (A1_7.out.below bqx1)
  have W0_x1 := Lib.hid (W0_7.out.below bqx1)
  have Ox0_x1 := Lib.hid (Ox0_7.out.below bqx1)
  have X0_x1 := Lib.hid (X0_7.out.below bqx1)
  have Ox1_x1 := Lib.hid (Ox1.out.below bqx1)
  have hbqx1 := hb7.trans (bqx1.mono hb7.size)
  have hdqx1 := hd7.trans (bqx1.mono hd7.size)
  clear bqx1 A0_7 A1_7 W0_7 Ox0_7 X0_7 Ox1 hd7
  have X1 := Lib.hid (chBox w7 s1 t1 (.slice yx1a xss1.length yx1c))
  obtain ⟨hX0l, x00, x01, x02⟩ := X0U.out
  have nX1 : ¬ (w6.heap.size = w7.heap.size) := by omega
  have nX2 : ¬ (w7.heap.size = w6.heap.size) := by omega
  obtain ⟨_, x10, x11, x12⟩ := X1.out
  simp only [Nat.zero_add] at x00 x01 x02 x10 x11 x12
  obtain ⟨NB, hNB⟩ : ∃ n, n = (w7.alloc (chObj s1 t1 (.slice yx1a xss1.length yx1c))).heap.size := ⟨_, rfl⟩
  have HNB := Lib.hid hNB
  clear hNB
  go_wp2_with fail
  refine (ImplStepPaths_f s0 t0 s1 t1 _ Ox0_x1.out.sl Ox1_x1.out.sl).mono ?_
  rintro e w8 ⟨vg0, rfl, og0, b8⟩
  clear hX0l nX1 nX2 X0U
  have Z8 := Lib.hid b8.size
  rw [HR.out] at og0 ⊢
  have hb8 := hbqx1.trans (b8.mono hbqx1.size)
  have hd8 := hdqx1.trans (b8.mono hdqx1.size)
  have A0_8 := Lib.hid (A0_x1.out.below b8)
  have A1_8 := Lib.hid (A1_x1.out.below b8)
  have W0_8 := Lib.hid (W0_x1.out.below b8)
  have Ox0_8 := Lib.hid (Ox0_x1.out.below b8)
  have X0_8 := Lib.hid (X0_x1.out.below b8)
  have Ox1_8 := Lib.hid (Ox1_x1.out.below b8)
  have X1_8 := Lib.hid (X1.out.below b8)
  clear b8 A0_x1 A1_x1 W0_x1 Ox0_x1 X0_x1 Ox1_x1 X1 x00 x01 x02 x10 x11 x12 hdqx1
  have og0 : OwnII _ _ _ r0 := og0
  have og0 := OwnII.b og0
  obtain ⟨zg0a, zg0c, _, rfl, _⟩ := id og0.sl
  unfold tupVC
  rw [← HNB.out] at og0
  have HGS : Hid (∀ k, (fun k => NB ≤ k ∧ k < w8.heap.size) k → NB ≤ k ∧ k < w8.heap.size) := fun k hk => hk
  have G0 := Lib.hid og0
  clear og0
  go_wp2_with fail
  refine (eqInt64SS_refl _ G0.out.sl W0_8.out.sl).mono ?_
  rintro e w9 ⟨rfl, b9⟩
  have Z9 := Lib.hid b9.size
  have hb9 := hb8.trans (b9.mono hb8.size)
  have hd9 := hd8.trans (b9.mono hd8.size)
  have A0_9 := Lib.hid (A0_8.out.below b9)
  have A1_9 := Lib.hid (A1_8.out.below b9)
  have W0_9 := Lib.hid (W0_8.out.below b9)
  have Ox0_9 := Lib.hid (Ox0_8.out.below b9)
  have X0_9 := Lib.hid (X0_8.out.below b9)
  have Ox1_9 := Lib.hid (Ox1_8.out.below b9)
  have X1_9 := Lib.hid (X1_8.out.below b9)
  have G0_9 := Lib.hid (G0.out.below b9)
  clear b9 A0_8 A1_8 W0_8 Ox0_8 X0_8 Ox1_8 X1_8 G0  hd8
  have hr_1 : (r1 != r1) = false := by simp
  go_upto_region 14 with (fail)
  go_cut [58] (fun sz wx => sz = .bool false ∧ Below w9.heap.size w9 wx)
  case first =>
    have hbz := (Below.refl w9.heap.size w9).drew
    obtain ⟨_, x0, x1, x2⟩ := X0_9.out
    obtain ⟨_, q0, q1, q2⟩ := A0_9.out
    simp only [Nat.zero_add] at x0 x1 x2 q0 q1 q2
    go_region_with (first
      | (go_at_call 16; (with_reducible refine (toChain_any s0 t0 _ (H0.out _ (hb9.trans (hbz.mono hb9.size))) hxl0 HXR0.out).mono ?_); rintro e w' ⟨vx, rfl, hv, b⟩; have sx := hv.sl; have hbz := hbz.trans (b.mono hbz.size); clear hv; obtain ⟨_, r0, r1, r2⟩ := X0_9.out.below hbz; simp only [Nat.zero_add] at r0 r1 r2)
      | (go_at_call 19; (with_reducible refine (eqChain_refl s0 t0 _ (Ox0_9.out.below hbz).sl sx).mono ?_); rintro e w' ⟨rfl, b⟩; have hbz := hbz.trans (b.mono hbz.size)))
    all_goals (go_wp2_with fail; go_meet; exact ⟨rfl, hbz⟩)
  case rest =>
    obtain ⟨rfl, hbc⟩ := hcut
    rename_i w10
    have hb10 := hb9.trans (hbc.mono hb9.size)
    have hd10 := hd9.trans (hbc.mono hd9.size)
    have A0_10 := Lib.hid (A0_9.out.below hbc)
    have A1_10 := Lib.hid (A1_9.out.below hbc)
    have W0_10 := Lib.hid (W0_9.out.below hbc)
    have Ox0_10 := Lib.hid (Ox0_9.out.below hbc)
    have X0_10 := Lib.hid (X0_9.out.below hbc)
    have Ox1_10 := Lib.hid (Ox1_9.out.below hbc)
    have X1_10 := Lib.hid (X1_9.out.below hbc)
    have G0_10 := Lib.hid (G0_9.out.below hbc)
    clear hbc A0_9 A1_9 W0_9 Ox0_9 X0_9 Ox1_9 X1_9 G0_9  hd9
    go_upto_region 16 with (fail)
    go_cut [63] (fun sz wx => sz = .bool false ∧ Below wc.heap.size wc wx)
    case first =>
      have hbz := (Below.refl wc.heap.size wc).drew
      obtain ⟨_, x0, x1, x2⟩ := X1_10.out
      obtain ⟨_, q0, q1, q2⟩ := A1_10.out
      simp only [Nat.zero_add] at x0 x1 x2 q0 q1 q2
      go_region_with (first
        | (go_at_call 16; (with_reducible refine (toChain_any s1 t1 _ (H1.out _ (hb10.trans (hbz.mono hb10.size))) hxl1 HXR1.out).mono ?_); rintro e w' ⟨vx, rfl, hv, b⟩; have sx := hv.sl; have hbz := hbz.trans (b.mono hbz.size); clear hv; obtain ⟨_, r0, r1, r2⟩ := X1_10.out.below hbz; simp only [Nat.zero_add] at r0 r1 r2)
        | (go_at_call 19; (with_reducible refine (eqChain_refl s1 t1 _ (Ox1_10.out.below hbz).sl sx).mono ?_); rintro e w' ⟨rfl, b⟩; have hbz := hbz.trans (b.mono hbz.size)))
      all_goals (go_wp2_with fail; go_meet; exact ⟨rfl, hbz⟩)
    case rest =>
      obtain ⟨rfl, hbc⟩ := hcut
      rename_i w11
      have hb11 := hb10.trans (hbc.mono hb10.size)
      have hd11 := hd10.trans (hbc.mono hd10.size)
      have A0_11 := Lib.hid (A0_10.out.below hbc)
      have A1_11 := Lib.hid (A1_10.out.below hbc)
      have W0_11 := Lib.hid (W0_10.out.below hbc)
      have Ox0_11 := Lib.hid (Ox0_10.out.below hbc)
      have X0_11 := Lib.hid (X0_10.out.below hbc)
      have Ox1_11 := Lib.hid (Ox1_10.out.below hbc)
      have X1_11 := Lib.hid (X1_10.out.below hbc)
      have G0_11 := Lib.hid (G0_10.out.below hbc)
      clear hbc A0_10 A1_10 W0_10 Ox0_10 X0_10 Ox1_10 X1_10 G0_10  hd10
      obtain ⟨_, x00, x01, x02⟩ := X0_11.out
      simp only [Nat.zero_add] at x00 x01 x02
      go_wp2_with fail
      refine (markChain_any s0 t0 1 w5.heap.size w6.heap.size _ (by omega) (by have := HSUM0.out; omega) Ox0_11.out).mono ?_
      rintro e w12 ⟨rfl, b12⟩
      have Z12 := Lib.hid b12.size
      have fx0 := Fs.of_mid b12
      have hd12 := hd11.trans ((fx0.below (B := w5.heap.size) (by have := Z3.out; have := Z4.out; have := Z5.out; have := Z6.out; have := ZAx0.out; have := Z7.out; have := ZAx1.out; have := HNB.out; have := Z8.out; have := Z9.out; have := Z12.out; omega) (fun k hk => by have := hk.1; have := Z3.out; have := Z4.out; have := Z5.out; have := Z6.out; have := ZAx0.out; have := Z7.out; have := ZAx1.out; have := HNB.out; have := Z8.out; have := Z9.out; have := Z12.out; omega)))
      have A0_12 := Lib.hid (DA0.out _ hd12)
      have A1_12 := Lib.hid (DA1.out _ hd12)
      have W0_12 := Lib.hid (DW0.out _ hd12)
      have Ox1_12 := Lib.hid (OwnIIB.fs (Ox1_11.out) fx0 (fun k hk => by have := hk.2; have := Z3.out; have := Z4.out; have := Z5.out; have := Z6.out; have := ZAx0.out; have := Z7.out; have := ZAx1.out; have := HNB.out; have := Z8.out; have := Z9.out; have := Z12.out; omega))
      have X1_12 := Lib.hid (ChainAt.fs (X1_11.out) fx0 (fun hk => by have := hk.2; have := Z3.out; have := Z4.out; have := Z5.out; have := Z6.out; have := ZAx0.out; have := Z7.out; have := ZAx1.out; have := HNB.out; have := Z8.out; have := Z9.out; have := Z12.out; omega))
      have G0_12 := Lib.hid (OwnIIB.fs (G0_11.out) fx0 (fun k hk => by have := hk.2; have := Z3.out; have := Z4.out; have := Z5.out; have := Z6.out; have := ZAx0.out; have := Z7.out; have := ZAx1.out; have := HNB.out; have := Z8.out; have := Z9.out; have := Z12.out; omega))
      have hb12 := HDB.out.trans (hd12.mono HwD.out)
      clear b12 fx0 hb11 hd11 A0_11 A1_11 W0_11 Ox0_11 X0_11 Ox1_11 X1_11 G0_11 x00 x01 x02
      obtain ⟨_, x10, x11, x12⟩ := X1_12.out
      simp only [Nat.zero_add] at x10 x11 x12
      go_wp2_with fail
      refine (markChain_any s1 t1 (1 + sumL xss0) (w6.alloc (chObj s0 t0 (.slice yx0a xss0.length yx0c))).heap.size w7.heap.size _ (by omega) (by have := HSUM0.out; have := HSUM1.out; omega) Ox1_12.out).mono ?_
      rintro e w13 ⟨rfl, b13⟩
      have Z13 := Lib.hid b13.size
      have fx1 := Fs.of_mid b13
      have hd13 := hd12.trans ((fx1.below (B := w5.heap.size) (by have := Z3.out; have := Z4.out; have := Z5.out; have := Z6.out; have := ZAx0.out; have := Z7.out; have := ZAx1.out; have := HNB.out; have := Z8.out; have := Z9.out; have := Z12.out; have := Z13.out; omega) (fun k hk => by have := hk.1; have := Z3.out; have := Z4.out; have := Z5.out; have := Z6.out; have := ZAx0.out; have := Z7.out; have := ZAx1.out; have := HNB.out; have := Z8.out; have := Z9.out; have := Z12.out; have := Z13.out; omega)))
      have A0_13 := Lib.hid (DA0.out _ hd13)
      have A1_13 := Lib.hid (DA1.out _ hd13)
      have W0_13 := Lib.hid (DW0.out _ hd13)
      have G0_13 := Lib.hid (OwnIIB.fs (G0_12.out) fx1 (fun k hk => by have := hk.2; have := Z3.out; have := Z4.out; have := Z5.out; have := Z6.out; have := ZAx0.out; have := Z7.out; have := ZAx1.out; have := HNB.out; have := Z8.out; have := Z9.out; have := Z12.out; have := Z13.out; omega))
      have hb13 := HDB.out.trans (hd13.mono HwD.out)
      clear b13 fx1 hb12 hd12 A0_12 A1_12 W0_12 Ox1_12 X1_12 G0_12 x10 x11 x12
      have hkn : ¬ ((1 + sumL xss0) + sumL xss1) < 0 := by omega
      go_wp2_with fail
      refine (eqInt64SS_refl _ G0_13.out.sl W0_13.out.sl).mono ?_
      rintro e w14 ⟨rfl, b14⟩
      have Z14 := Lib.hid b14.size
      have hb14 := hb13.trans (b14.mono hb13.size)
      have hd14 := hd13.trans (b14.mono hd13.size)
      have A0_14 := Lib.hid (A0_13.out.below b14)
      have A1_14 := Lib.hid (A1_13.out.below b14)
      have W0_14 := Lib.hid (W0_13.out.below b14)
      have G0_14 := Lib.hid (G0_13.out.below b14)
      clear b14 A0_13 A1_13 W0_13 G0_13  hd13
      go_wp2_with fail
      refine (markInt64SS_held 1 NB _ _ (by omega) (by have := HLEN.out; omega) G0_14.out).mono ?_
      rintro e w15 ⟨rfl, og1, b15⟩
      have Z15 := Lib.hid b15.size
      have fg : Fs (fun k => NB ≤ k ∧ k < w8.heap.size) _ _ := Fs.of_mid b15
      have hd15 := hd14.trans (fg.below (B := w5.heap.size) (by have := Z3.out; have := Z4.out; have := Z5.out; have := Z6.out; have := ZAx0.out; have := Z7.out; have := ZAx1.out; have := HNB.out; have := Z8.out; have := Z9.out; have := Z12.out; have := Z13.out; have := Z14.out; have := Z15.out; omega) (fun k hk => by have := (HGS.out k hk).1; have := Z3.out; have := Z4.out; have := Z5.out; have := Z6.out; have := ZAx0.out; have := Z7.out; have := ZAx1.out; have := HNB.out; have := Z8.out; have := Z9.out; have := Z12.out; have := Z13.out; have := Z14.out; have := Z15.out; omega))
      have A0_15 := Lib.hid (DA0.out _ hd15)
      have A1_15 := Lib.hid (DA1.out _ hd15)
      have W0_15 := Lib.hid (DW0.out _ hd15)
      have hb15 := HDB.out.trans (hd15.mono HwD.out)
      clear b15 fg hb14 hd14 A0_14 A1_14 W0_14 G0_14 
      have G1 := Lib.hid og1
      clear og1
      have hq0 : ¬ (1 + (sumL r0 : Int) : Int) < 0 := by omega
      have hq1 : ((1 + (sumL r0 : Int) : Int) != (1 + (sumL r0 : Int))) = false := by simp
      go_wp2_with fail
      refine (heldInt64SS_any 1 _ (by omega) (by have := HLEN.out; omega) G1.out.sl).mono ?_
      rintro e w16 ⟨rfl, b16⟩
      have Z16 := Lib.hid b16.size
      have hb16 := hb15.trans (b16.mono hb15.size)
      have hd16 := hd15.trans (b16.mono hd15.size)
      have A0_16 := Lib.hid (A0_15.out.below b16)
      have A1_16 := Lib.hid (A1_15.out.below b16)
      have W0_16 := Lib.hid (W0_15.out.below b16)
      have G1_16 := Lib.hid (G1.out.below b16)
      clear b16 A0_15 A1_15 W0_15 G1  hd15
      obtain ⟨_, q00, q01, q02⟩ := A0_16.out
      simp only [Nat.zero_add] at q00 q01 q02
      have CW := Lib.hid (fun W (h : Below w16.heap.size w16 W) => show W.cell? ⟨w.heap.size, 0, none⟩ = some (.int .i64 s0) ∧ W.cell? ⟨w.heap.size, 1, none⟩ = some (.int .i64 t0) ∧ W.cell? ⟨w.heap.size, 2, none⟩ = some (.slice pa0 xss0.length pc0) ∧ W.cell? ⟨w.heap.size + 1, 0, none⟩ = some (.int .i64 s1) ∧ W.cell? ⟨w.heap.size + 1, 1, none⟩ = some (.int .i64 t1) ∧ W.cell? ⟨w.heap.size + 1, 2, none⟩ = some (.slice pa1 xss1.length pc1) from by
        obtain ⟨_, a0, a1, a2⟩ := A0_16.out.below h
        obtain ⟨_, b0, b1, b2⟩ := A1_16.out.below h
        simp only [Nat.zero_add] at a0 a1 a2 b0 b1 b2
        exact ⟨a0, a1, a2, b0, b1, b2⟩)
      have hbd : Below w.heap.size w w16.drew := hb16.trans ((Below.refl _ _).drew.mono hb16.size)
      go_wp2_with fail
      refine wpX_start (fun W => W.cell? ⟨w.heap.size, 0, none⟩ = some (.int .i64 s0) ∧ W.cell? ⟨w.heap.size, 1, none⟩ = some (.int .i64 t0) ∧ W.cell? ⟨w.heap.size, 2, none⟩ = some (.slice pa0 xss0.length pc0) ∧ W.cell? ⟨w.heap.size + 1, 0, none⟩ = some (.int .i64 s1) ∧ W.cell? ⟨w.heap.size + 1, 1, none⟩ = some (.int .i64 t1) ∧ W.cell? ⟨w.heap.size + 1, 2, none⟩ = some (.slice pa1 xss1.length pc1)) [] (by kernel_rfl) ?_
      have hC := CW.out w16.drew (Below.refl w16.heap.size w16).drew
      refine wpX_load (i := 0) (v := ?_) rfl (by kernel_rfl) (fun _ _ _ h => h) hC rfl (fun w' hw' => ?_) ?_
      rotate_left
      · obtain ⟨k1, k2, k3, k4, k5, k6⟩ := hw'; go_simp; try with_reducible rfl
      try simp only [Act.put, List.setIfInBounds_toArray, List.set_cons_zero, List.set_cons_succ]
      refine wpX_load (i := 2) (v := ?_) rfl (by kernel_rfl) (fun _ _ _ h => h) hC rfl (fun w' hw' => ?_) ?_
      rotate_left
      · obtain ⟨k1, k2, k3, k4, k5, k6⟩ := hw'; go_simp; try with_reducible rfl
      try simp only [Act.put, List.setIfInBounds_toArray, List.set_cons_zero, List.set_cons_succ]
      refine wpX_one (i := 1) rfl (by kernel_rfl) rfl ?_
      intro K hK
      go_simp
      go_at_call 16
      refine (toChain_any s0 t0 _ (H0.out _ hbd) hxl0 HXR0.out).mono ?_
      rintro e w17 ⟨vy0, rfl, oy0, b17⟩
      have b17 : Below w16.heap.size w16 w17 := (Below.refl w16.heap.size w16).drew.trans b17
      have BB17 := Lib.hid b17
      refine hK _ _ (CW.out _ b17) ?_
      clear hK K
      try simp only [Act.put, List.setIfInBounds_toArray, List.set_cons_zero, List.set_cons_succ]
      have Z17 := Lib.hid b17.size
      have hb17 := hb16.trans (b17.mono hb16.size)
      have hd17 := hd16.trans (b17.mono hd16.size)
      have A0_17 := Lib.hid (A0_16.out.below b17)
      have A1_17 := Lib.hid (A1_16.out.below b17)
      have W0_17 := Lib.hid (W0_16.out.below b17)
      have G1_17 := Lib.hid (G1_16.out.below b17)
      clear b17 A0_16 A1_16 W0_16 G1_16 q00 q01 q02 hd16
      obtain ⟨yy0a, yy0c, yy0u, rfl, _⟩ := id oy0.sl
      have Oy0 := Lib.hid oy0
      clear oy0
      obtain ⟨_, q10, q11, q12⟩ := A1_17.out
      simp only [Nat.zero_add] at q10 q11 q12
      refine wpX_one (i := 3) rfl (by kernel_rfl) rfl ?_
      intro K hK
      go_simp
      go_at_call 16
      refine (toChain_any s1 t1 _ (H1.out _ hb17) hxl1 HXR1.out).mono ?_
      rintro e w18 ⟨vy1, rfl, oy1, b18⟩
      have BB18 := Lib.hid (BB17.out.trans (b18.mono BB17.out.size))
      refine hK _ _ (CW.out _ BB18.out) ?_
      clear hK K
      try simp only [Act.put, List.setIfInBounds_toArray, List.set_cons_zero, List.set_cons_succ]
      have Z18 := Lib.hid b18.size
      have hb18 := hb17.trans (b18.mono hb17.size)
      have hd18 := hd17.trans (b18.mono hd17.size)
      have A0_18 := Lib.hid (A0_17.out.below b18)
      have A1_18 := Lib.hid (A1_17.out.below b18)
      have W0_18 := Lib.hid (W0_17.out.below b18)
      have G1_18 := Lib.hid (G1_17.out.below b18)
      have Oy0_18 := Lib.hid (Oy0.out.below b18)
      clear b18 A0_17 A1_17 W0_17 G1_17 Oy0 q10 q11 q12 hd17
      obtain ⟨yy1a, yy1c, yy1u, rfl, _⟩ := id oy1.sl
      have Oy1 := Lib.hid oy1
      clear oy1
      refine wpX_one (i := 4) rfl (by kernel_rfl) rfl ?_
      intro K hK
      go_simp
      go_at_call 24
      refine (ImplStepPaths_f s0 t0 s1 t1 _ Oy0_18.out.sl Oy1.out.sl).mono ?_
      rintro e w19 ⟨vh0, rfl, oh0, b19⟩
      refine hK _ _ (CW.out _ (BB18.out.trans (b19.mono BB18.out.size))) ?_
      clear hK K
      try simp only [Act.put, List.setIfInBounds_toArray, List.set_cons_zero, List.set_cons_succ]
      have Z19 := Lib.hid b19.size
      rw [HR.out] at oh0 ⊢
      have hb19 := hb18.trans (b19.mono hb18.size)
      have hd19 := hd18.trans (b19.mono hd18.size)
      have A0_19 := Lib.hid (A0_18.out.below b19)
      have A1_19 := Lib.hid (A1_18.out.below b19)
      have W0_19 := Lib.hid (W0_18.out.below b19)
      have G1_19 := Lib.hid (G1_18.out.below b19)
      have Oy0_19 := Lib.hid (Oy0_18.out.below b19)
      have Oy1_19 := Lib.hid (Oy1.out.below b19)
      clear b19 A0_18 A1_18 W0_18 G1_18 Oy0_18 Oy1  hd18
      have oh0 : OwnII _ _ _ r0 := oh0
      have oh0 := OwnII.b oh0
      obtain ⟨zh0a, zh0c, _, rfl, _⟩ := id oh0.sl
      unfold tupVC
      have HH := Lib.hid oh0
      clear oh0
      refine wpX_free (i := 5) (v := ?_) rfl (by kernel_rfl) (fun _ _ _ h => h) rfl (fun w' => ?_) ?_
      rotate_left
      · go_simp; try with_reducible rfl
      try simp only [Act.put, List.setIfInBounds_toArray, List.set_cons_zero, List.set_cons_succ]
      refine wpX_free (i := 6) (v := ?_) rfl (by kernel_rfl) (fun _ _ _ h => h) rfl (fun w' => ?_) ?_
      rotate_left
      · go_simp; try with_reducible rfl
      try simp only [Act.put, List.setIfInBounds_toArray, List.set_cons_zero, List.set_cons_succ]
      refine wpX_free (i := 7) (v := ?_) rfl (by kernel_rfl) (fun _ _ _ h => h) rfl (fun w' => ?_) ?_
      rotate_left
      · go_simp; try with_reducible rfl
      try simp only [Act.put, List.setIfInBounds_toArray, List.set_cons_zero, List.set_cons_succ]
      refine wpX_free (i := 8) (v := ?_) rfl (by kernel_rfl) (fun _ _ _ h => h) rfl (fun w' => ?_) ?_
      rotate_left
      · go_simp; try with_reducible rfl
      try simp only [Act.put, List.setIfInBounds_toArray, List.set_cons_zero, List.set_cons_succ]
      refine wpX_free (i := 9) (v := ?_) rfl (by kernel_rfl) (fun _ _ _ h => h) rfl (fun w' => ?_) ?_
      rotate_left
      · go_simp; try with_reducible rfl
      try simp only [Act.put, List.setIfInBounds_toArray, List.set_cons_zero, List.set_cons_succ]
      refine wpX_rest (t := []) (l := []) rfl (by kernel_rfl) (by kernel_rfl) ?_
      clear hC CW hbd
      go_wp2_with fail
      refine (eqInt64SS_refl _ HH.out.sl W0_19.out.sl).mono ?_
      rintro e w20 ⟨rfl, b20⟩
      have Z20 := Lib.hid b20.size
      have hb20 := hb19.trans (b20.mono hb19.size)
      have hd20 := hd19.trans (b20.mono hd19.size)
      have A0_20 := Lib.hid (A0_19.out.below b20)
      have A1_20 := Lib.hid (A1_19.out.below b20)
      have W0_20 := Lib.hid (W0_19.out.below b20)
      have G1_20 := Lib.hid (G1_19.out.below b20)
      have Oy0_20 := Lib.hid (Oy0_19.out.below b20)
      have Oy1_20 := Lib.hid (Oy1_19.out.below b20)
      have HH_20 := Lib.hid (HH.out.below b20)
      clear b20 A0_19 A1_19 W0_19 G1_19 Oy0_19 Oy1_19 HH  hd19
      go_wp2_with fail
      refine (heldInt64SS_any 1 _ (by omega) (by have := HLEN.out; omega) G1_20.out.sl).mono ?_
      rintro e w21 ⟨rfl, b21⟩
      have Z21 := Lib.hid b21.size
      have hb21 := hb20.trans (b21.mono hb20.size)
      have hd21 := hd20.trans (b21.mono hd20.size)
      have A0_21 := Lib.hid (A0_20.out.below b21)
      have A1_21 := Lib.hid (A1_20.out.below b21)
      have W0_21 := Lib.hid (W0_20.out.below b21)
      have G1_21 := Lib.hid (G1_20.out.below b21)
      have Oy0_21 := Lib.hid (Oy0_20.out.below b21)
      have Oy1_21 := Lib.hid (Oy1_20.out.below b21)
      have HH_21 := Lib.hid (HH_20.out.below b21)
      clear b21 A0_20 A1_20 W0_20 G1_20 Oy0_20 Oy1_20 HH_20  hd20
      go_wp2
      go_ret
      exact ⟨rfl, hb21⟩
end Go.Proofs.Ytpmabnohdabbdaa
