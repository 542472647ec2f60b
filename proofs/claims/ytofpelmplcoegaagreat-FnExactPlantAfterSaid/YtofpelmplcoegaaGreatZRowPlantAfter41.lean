/-
  FnExactPlantAfter: both answer the same, and leave what they are given as it was.
-/
import Derived.Test.YtofpelmplcoegaaGreatZRowPlantAfter40
import Derived.Test.YtofpelmplcoegaaGreatZRowPlantAfter6
import Derived.Test.YtofpelmplcoegaaGreatZRowPlantAfter7
import Derived.Deep.RegionWith
import Derived.Deep.DeepCutAuto
set_option linter.unusedVariables false
set_option linter.unusedSimpArgs false
namespace Go.Proofs.YtofpelmplcoegaaGreat
open Go.RowKit Go.Sort
set_option linter.unusedVariables false
set_option maxRecDepth 100000 in
set_option maxHeartbeats 4000000 in
theorem FnExactPlantAfter_walk {u0 : Value} {xss0 : List (List Int)} (s0 t0 bs0 sm0 wk0 : Int) {u1 : Value} {xs1 : List (Int × Int)} (w : World) (ha0 : SlII w u0 xss0) (ha1 : FDeedL.Sl w u1 xs1):
    Calls Tryz.prog 3 #[.agg #[.int .i64 s0, .int .i64 t0, u0, .int .i64 bs0, .int .i64 sm0, .int .i64 wk0], u1] w fun e w' => e = .returned (.bool true) ∧ Below w.heap.size w w' := by
  obtain ⟨pa0, pc0, pu0, rfl, _⟩ := id ha0
  obtain ⟨pa1, pc1, rfl, pl1, pm1, _⟩ := id ha1; unfold maxLen at pm1
  have hb0 : Below w.heap.size w (w.alloc (argObj s0 t0 (.slice pa0 xss0.length pc0) bs0 sm0 wk0)) := ((Below.refl w.heap.size w).alloc (by simp) (argObj s0 t0 (.slice pa0 xss0.length pc0) bs0 sm0 wk0))
  have A0 := Lib.hid (argBox w s0 t0 (.slice pa0 xss0.length pc0) bs0 sm0 wk0)
  have H0 := Lib.hid (fun W (h : Below w.heap.size w W) => ha0.below h)
  clear ha0
  have H1 := Lib.hid (fun W (h : Below w.heap.size w W) => ha1.below h)
  clear ha1
  have hr0 := szII_range 1048576 xss0 (by omega)
  generalize hz0 : szII 1048576 xss0 = l0 at hr0
  have HZ0 := Lib.hid hz0
  clear hz0
  generalize hz1 : sz1 l0 xs1.length = l1
  have hr1 : l1 ≤ 1048576 := by rw [← hz1]; unfold sz1; split <;> omega
  have HZ1 := Lib.hid hz1
  clear hz1
  go_enter Tryz.func3, Tryz.ntmps3
  obtain ⟨⟨_, q00, q01, q02⟩, q03, q04, q05⟩ := A0.out
  simp only [Nat.zero_add] at q00 q01 q02 q03 q04 q05
  go_wp2_with fail
  refine (szService_any s0 t0 bs0 sm0 wk0 1048576 _ (H0.out _ hb0) (by omega) (by omega)).mono ?_
  rintro e w1 ⟨rfl, b1⟩
  rw [HZ0.out]
  have hb1 := hb0.trans (b1.mono hb0.size)
  have A0_1 := Lib.hid (A0.out.below b1)
  clear b1 A0 q00 q01 q02 q03 q04 q05
  by_cases hl0 : l0 < 0
  · go_wp2
    go_ret
    exact ⟨rfl, hb1⟩
  obtain ⟨hxl0, hxr0⟩ := szII_ok HZ0.out hl0
  have HXR0 := Lib.hid hxr0
  clear hxr0
  have HSUM0 := Lib.hid (szII_sum HZ0.out hl0 (by omega))
  obtain ⟨⟨_, q00, q01, q02⟩, q03, q04, q05⟩ := A0_1.out
  simp only [Nat.zero_add] at q00 q01 q02 q03 q04 q05
  go_wp2_with fail
  refine (szDeedS_any l0 _ (H1.out _ hb1) (by omega) (by omega)).mono ?_
  rintro e w2 ⟨rfl, b2⟩
  rw [HZ1.out]
  have hb2 := hb1.trans (b2.mono hb1.size)
  have A0_2 := Lib.hid (A0_1.out.below b2)
  clear b2 A0_1 q00 q01 q02 q03 q04 q05
  by_cases hl1 : l1 < 0
  · go_wp2
    go_ret
    exact ⟨rfl, hb2⟩
  have hrl1 : xs1.length ≤ 1048576 := sz1_ok HZ1.out hl1 (by omega)
  generalize hR : plR s0 t0 xss0 bs0 sm0 wk0 xs1 = R
  have hlen := plR_len s0 t0 xss0 bs0 sm0 wk0 xs1
  rw [hR] at hlen
  have HR := Lib.hid hR
  clear hR
  obtain ⟨r0, r1, r2⟩ := R
  have hlen : plN r0 ≤ 400 := hlen
  have hn0 : 0 ≤ plN r0 := by unfold plN; omega
  have HLEN := Lib.hid (And.intro hlen hn0)
  clear hlen
  obtain ⟨⟨_, q00, q01, q02⟩, q03, q04, q05⟩ := A0_2.out
  simp only [Nat.zero_add] at q00 q01 q02 q03 q04 q05
  go_wp2_with fail
  refine (toService_any s0 t0 bs0 sm0 wk0 _ (H0.out _ hb2) hxl0 HXR0.out).mono ?_
  rintro e w3 ⟨vs0, rfl, os0, b3⟩
  have Z3 := Lib.hid b3.size
  have hb3 := hb2.trans (b3.mono hb2.size)
  have A0_3 := Lib.hid (A0_2.out.below b3)
  clear b3 A0_2 q00 q01 q02 q03 q04 q05
  obtain ⟨ys0a, ys0c, ys0u, rfl, _⟩ := id os0.sl
  have Os0 := Lib.hid os0
  clear os0
  go_wp2_with fail
  refine (toDeedS_any _ (H1.out _ hb3) hrl1).mono ?_
  rintro e w4 ⟨vs1, rfl, os1, b4⟩
  have Z4 := Lib.hid b4.size
  have hb4 := hb3.trans (b4.mono hb3.size)
  have A0_4 := Lib.hid (A0_3.out.below b4)
  have Os0_4 := Lib.hid (Os0.out.below b4)
  clear b4 A0_3 Os0 
  obtain ⟨ys1a, ys1c, rfl, _⟩ := id os1.sl
  have Os1 := Lib.hid os1
  clear os1
  go_wp2_with fail
  refine (SpecPlantAfter_any s0 t0 bs0 sm0 wk0 _ Os0_4.out.sl Os1.out.sl).mono ?_
  rintro e w5 ⟨vlw0, vrw0, vew0, vhw0, vww0, vow0, rfl, ow0, b5⟩
  have Z5 := Lib.hid b5.size
  rw [HR.out] at ow0 ⊢
  have hb5 := hb4.trans (b5.mono hb4.size)
  have A0_5 := Lib.hid (A0_4.out.below b5)
  have Os0_5 := Lib.hid (Os0_4.out.below b5)
  have Os1_5 := Lib.hid (Os1.out.below b5)
  clear b5 A0_4 Os0_4 Os1 
  have ow0 : PlO _ _ r0 _ _ _ _ _ _ := ow0
  obtain ⟨zw0l0, zw0l1, zw0r0, zw0r1, zw0e0, zw0e1, zw0h0, zw0h1, zw0w0, zw0w1, zw0o0, zw0o1, rfl, rfl, rfl, rfl, rfl, rfl⟩ := ow0.rd.form
  unfold plV
  have W0 := Lib.hid ow0
  clear ow0
  have bqW0 : Below w5.heap.size w5 (w5.alloc (.cells #[.slice zw0l0 r0.l.length zw0l1, .slice zw0r0 r0.r.length zw0r1, .int .i64 r0.q, .slice zw0e0 r0.recs.length zw0e1, .int .i64 r0.sy, .slice zw0h0 r0.hands.length zw0h1, .slice zw0w0 r0.wire.length zw0w1, .slice zw0o0 r0.out.length zw0o1] 37)) := (Below.refl _ _).alloc (Nat.le_refl _) _
  have ZAW0 := Lib.hid (show (w5.alloc (.cells #[.slice zw0l0 r0.l.length zw0l1, .slice zw0r0 r0.r.length zw0r1, .int .i64 r0.q, .slice zw0e0 r0.recs.length zw0e1, .int .i64 r0.sy, .slice zw0h0 r0.hands.length zw0h1, .slice zw0w0 r0.wire.length zw0w1, .slice zw0o0 r0.out.length zw0o1] 37)).heap.size = w5.heap.size + 1 from by simp)
  have A0_W0 := Lib.hid (A0_5.out.below bqW0)
  have Os0_W0 := Lib.hid (Os0_5.out.below bqW0)
  have Os1_W0 := Lib.hid (Os1_5.out.below bqW0)
  have W0_W0 := Lib.hid (W0.out.below bqW0)
  have hbqW0 := hb5.trans (bqW0.mono hb5.size)
  clear bqW0 A0_5 Os0_5 Os1_5 W0
  have BW0 := Lib.hid (CellsAt.new w5 [.slice zw0l0 r0.l.length zw0l1, .slice zw0r0 r0.r.length zw0r1, .int .i64 r0.q, .slice zw0e0 r0.recs.length zw0e1, .int .i64 r0.sy, .slice zw0h0 r0.hands.length zw0h1, .slice zw0w0 r0.wire.length zw0w1, .slice zw0o0 r0.out.length zw0o1] 37)
  clear Os0_W0
  clear Os1_W0
  have hd0 := Below.refl (w5.alloc (.cells #[.slice zw0l0 r0.l.length zw0l1, .slice zw0r0 r0.r.length zw0r1, .int .i64 r0.q, .slice zw0e0 r0.recs.length zw0e1, .int .i64 r0.sy, .slice zw0h0 r0.hands.length zw0h1, .slice zw0w0 r0.wire.length zw0w1, .slice zw0o0 r0.out.length zw0o1] 37)).heap.size (w5.alloc (.cells #[.slice zw0l0 r0.l.length zw0l1, .slice zw0r0 r0.r.length zw0r1, .int .i64 r0.q, .slice zw0e0 r0.recs.length zw0e1, .int .i64 r0.sy, .slice zw0h0 r0.hands.length zw0h1, .slice zw0w0 r0.wire.length zw0w1, .slice zw0o0 r0.out.length zw0o1] 37))
  have HDB := Lib.hid hbqW0
  have HwD : Hid (w.heap.size ≤ (w5.alloc (.cells #[.slice zw0l0 r0.l.length zw0l1, .slice zw0r0 r0.r.length zw0r1, .int .i64 r0.q, .slice zw0e0 r0.recs.length zw0e1, .int .i64 r0.sy, .slice zw0h0 r0.hands.length zw0h1, .slice zw0w0 r0.wire.length zw0w1, .slice zw0o0 r0.out.length zw0o1] 37)).heap.size) := hbqW0.size
  have DA0 := Lib.hid (fun W (h : Below (w5.alloc (.cells #[.slice zw0l0 r0.l.length zw0l1, .slice zw0r0 r0.r.length zw0r1, .int .i64 r0.q, .slice zw0e0 r0.recs.length zw0e1, .int .i64 r0.sy, .slice zw0h0 r0.hands.length zw0h1, .slice zw0w0 r0.wire.length zw0w1, .slice zw0o0 r0.out.length zw0o1] 37)).heap.size (w5.alloc (.cells #[.slice zw0l0 r0.l.length zw0l1, .slice zw0r0 r0.r.length zw0r1, .int .i64 r0.q, .slice zw0e0 r0.recs.length zw0e1, .int .i64 r0.sy, .slice zw0h0 r0.hands.length zw0h1, .slice zw0w0 r0.wire.length zw0w1, .slice zw0o0 r0.out.length zw0o1] 37)) W) => A0_W0.out.below h)
  have DW0 := Lib.hid (fun W (h : Below (w5.alloc (.cells #[.slice zw0l0 r0.l.length zw0l1, .slice zw0r0 r0.r.length zw0r1, .int .i64 r0.q, .slice zw0e0 r0.recs.length zw0e1, .int .i64 r0.sy, .slice zw0h0 r0.hands.length zw0h1, .slice zw0w0 r0.wire.length zw0w1, .slice zw0o0 r0.out.length zw0o1] 37)).heap.size (w5.alloc (.cells #[.slice zw0l0 r0.l.length zw0l1, .slice zw0r0 r0.r.length zw0r1, .int .i64 r0.q, .slice zw0e0 r0.recs.length zw0e1, .int .i64 r0.sy, .slice zw0h0 r0.hands.length zw0h1, .slice zw0w0 r0.wire.length zw0w1, .slice zw0o0 r0.out.length zw0o1] 37)) W) => W0_W0.out.below h)
  have DBW0 := Lib.hid (fun W (h : Below (w5.alloc (.cells #[.slice zw0l0 r0.l.length zw0l1, .slice zw0r0 r0.r.length zw0r1, .int .i64 r0.q, .slice zw0e0 r0.recs.length zw0e1, .int .i64 r0.sy, .slice zw0h0 r0.hands.length zw0h1, .slice zw0w0 r0.wire.length zw0w1, .slice zw0o0 r0.out.length zw0o1] 37)).heap.size (w5.alloc (.cells #[.slice zw0l0 r0.l.length zw0l1, .slice zw0r0 r0.r.length zw0r1, .int .i64 r0.q, .slice zw0e0 r0.recs.length zw0e1, .int .i64 r0.sy, .slice zw0h0 r0.hands.length zw0h1, .slice zw0w0 r0.wire.length zw0w1, .slice zw0o0 r0.out.length zw0o1] 37)) W) => BW0.out.below h)
  obtain ⟨⟨_, q00, q01, q02⟩, q03, q04, q05⟩ := A0_W0.out
  simp only [Nat.zero_add] at q00 q01 q02 q03 q04 q05
  go_wp2_with fail
  refine (toService_any s0 t0 bs0 sm0 wk0 _ (H0.out _ hbqW0) hxl0 HXR0.out).mono ?_
  rintro e w6 ⟨vx0, rfl, ox0, b6⟩
  have Z6 := Lib.hid b6.size
  have hb6 := hbqW0.trans (b6.mono hbqW0.size)
  have hd6 := hd0.trans (b6.mono hd0.size)
  have A0_6 := Lib.hid (A0_W0.out.below b6)
  have W0_6 := Lib.hid (W0_W0.out.below b6)
  have BW0_6 := Lib.hid (BW0.out.below b6)
  clear b6 A0_W0 W0_W0 BW0 q00 q01 q02 q03 q04 q05 hd0
  obtain ⟨yx0a, yx0c, yx0u, rfl, _⟩ := id ox0.sl
  have Ox0 := Lib.hid ox0.b
  clear ox0
  have bqx0 : Below w6.heap.size w6 (w6.alloc (svObj s0 t0 (.slice yx0a xss0.length yx0c) bs0 sm0 wk0)) := (Below.refl _ _).alloc (Nat.le_refl _) _
  have ZAx0 := Lib.hid (show (w6.alloc (svObj s0 t0 (.slice yx0a xss0.length yx0c) bs0 sm0 wk0)).heap.size = w6.heap.size + 1 from by simp)
  have A0_x0 := Lib.hid (A0_6.out.below bqx0)
  have W0_x0 := Lib.hid (W0_6.out.below bqx0)
  have BW0_x0 := Lib.hid (BW0_6.out.below bqx0)
  have Ox0_x0 := Lib.hid (Ox0.out.below bqx0)
  have hbqx0 := hb6.trans (bqx0.mono hb6.size)
  have hdqx0 := hd6.trans (bqx0.mono hd6.size)
  clear bqx0 A0_6 W0_6 BW0_6 Ox0 hd6
  have X0 := Lib.hid (svBox w6 s0 t0 (.slice yx0a xss0.length yx0c) bs0 sm0 wk0)
  go_wp2_with fail
  refine (toDeedS_any _ (H1.out _ hbqx0) hrl1).mono ?_
  rintro e w7 ⟨vx1, rfl, ox1, b7⟩
  have Z7 := Lib.hid b7.size
  have hb7 := hbqx0.trans (b7.mono hbqx0.size)
  have hd7 := hdqx0.trans (b7.mono hdqx0.size)
  have A0_7 := Lib.hid (A0_x0.out.below b7)
  have W0_7 := Lib.hid (W0_x0.out.below b7)
  have BW0_7 := Lib.hid (BW0_x0.out.below b7)
  have Ox0_7 := Lib.hid (Ox0_x0.out.below b7)
  have X0_7 := Lib.hid (X0.out.below b7)
  clear b7 A0_x0 W0_x0 BW0_x0 Ox0_x0 X0  hdqx0
  obtain ⟨yx1a, yx1c, rfl, _⟩ := id ox1.sl
  have HXL1 := Lib.hid ox1.lt
  have Ox1 := Lib.hid ox1
  clear ox1
  obtain ⟨⟨_, x00, x01, x02⟩, x03, x04, x05⟩ := X0_7.out
  simp only [Nat.zero_add] at x00 x01 x02 x03 x04 x05
  obtain ⟨NB, hNB⟩ : ∃ n, n = w7.heap.size := ⟨_, rfl⟩
  have HNB := Lib.hid hNB
  clear hNB
  go_wp2_with fail
  refine (ImplPlantAfter_any s0 t0 bs0 sm0 wk0 _ Ox0_7.out.sl Ox1.out.sl).mono ?_
  rintro e w8 ⟨vlg0, vrg0, veg0, vhg0, vwg0, vog0, rfl, og0, b8⟩
  have Z8 := Lib.hid b8.size
  rw [HR.out] at og0 ⊢
  have hb8 := hb7.trans (b8.mono hb7.size)
  have hd8 := hd7.trans (b8.mono hd7.size)
  have A0_8 := Lib.hid (A0_7.out.below b8)
  have W0_8 := Lib.hid (W0_7.out.below b8)
  have BW0_8 := Lib.hid (BW0_7.out.below b8)
  have Ox0_8 := Lib.hid (Ox0_7.out.below b8)
  have X0_8 := Lib.hid (X0_7.out.below b8)
  have Ox1_8 := Lib.hid (Ox1.out.below b8)
  clear b8 A0_7 W0_7 BW0_7 Ox0_7 X0_7 Ox1 x00 x01 x02 x03 x04 x05 hd7
  have og0 : PlO _ _ r0 _ _ _ _ _ _ := og0
  obtain ⟨zg0l0, zg0l1, zg0r0, zg0r1, zg0e0, zg0e1, zg0h0, zg0h1, zg0w0, zg0w1, zg0o0, zg0o1, rfl, rfl, rfl, rfl, rfl, rfl⟩ := og0.rd.form
  unfold plV
  rw [← HNB.out] at og0
  have HGS : Hid (∀ k, (PlBl (.slice zg0l0 r0.l.length zg0l1) (.slice zg0r0 r0.r.length zg0r1) (.slice zg0e0 r0.recs.length zg0e1) (.slice zg0h0 r0.hands.length zg0h1) (.slice zg0w0 r0.wire.length zg0w1) (.slice zg0o0 r0.out.length zg0o1)) k → NB ≤ k ∧ k < w8.heap.size) := fun k hk => og0.lt k hk
  have G0 := Lib.hid og0
  clear og0
  have bqG0 : Below w8.heap.size w8 (w8.alloc (.cells #[.slice zg0l0 r0.l.length zg0l1, .slice zg0r0 r0.r.length zg0r1, .int .i64 r0.q, .slice zg0e0 r0.recs.length zg0e1, .int .i64 r0.sy, .slice zg0h0 r0.hands.length zg0h1, .slice zg0w0 r0.wire.length zg0w1, .slice zg0o0 r0.out.length zg0o1] 37)) := (Below.refl _ _).alloc (Nat.le_refl _) _
  have ZAG0 := Lib.hid (show (w8.alloc (.cells #[.slice zg0l0 r0.l.length zg0l1, .slice zg0r0 r0.r.length zg0r1, .int .i64 r0.q, .slice zg0e0 r0.recs.length zg0e1, .int .i64 r0.sy, .slice zg0h0 r0.hands.length zg0h1, .slice zg0w0 r0.wire.length zg0w1, .slice zg0o0 r0.out.length zg0o1] 37)).heap.size = w8.heap.size + 1 from by simp)
  have A0_G0 := Lib.hid (A0_8.out.below bqG0)
  have W0_G0 := Lib.hid (W0_8.out.below bqG0)
  have BW0_G0 := Lib.hid (BW0_8.out.below bqG0)
  have Ox0_G0 := Lib.hid (Ox0_8.out.below bqG0)
  have X0_G0 := Lib.hid (X0_8.out.below bqG0)
  have Ox1_G0 := Lib.hid (Ox1_8.out.below bqG0)
  have G0_G0 := Lib.hid (G0.out.below bqG0)
  have hbqG0 := hb8.trans (bqG0.mono hb8.size)
  have hdqG0 := hd8.trans (bqG0.mono hd8.size)
  clear bqG0 A0_8 W0_8 BW0_8 Ox0_8 X0_8 Ox1_8 G0 hd8
  have BG0 := Lib.hid (CellsAt.new w8 [.slice zg0l0 r0.l.length zg0l1, .slice zg0r0 r0.r.length zg0r1, .int .i64 r0.q, .slice zg0e0 r0.recs.length zg0e1, .int .i64 r0.sy, .slice zg0h0 r0.hands.length zg0h1, .slice zg0w0 r0.wire.length zg0w1, .slice zg0o0 r0.out.length zg0o1] 37)
  have cBG00 := BG0.out.get 0 _ rfl
  have cBG01 := BG0.out.get 1 _ rfl
  have cBG02 := BG0.out.get 2 _ rfl
  have cBG03 := BG0.out.get 3 _ rfl
  have cBG04 := BG0.out.get 4 _ rfl
  have cBG05 := BG0.out.get 5 _ rfl
  have cBG06 := BG0.out.get 6 _ rfl
  have cBG07 := BG0.out.get 7 _ rfl
  have cBW00 := BW0_G0.out.get 0 _ rfl
  have cBW01 := BW0_G0.out.get 1 _ rfl
  have cBW02 := BW0_G0.out.get 2 _ rfl
  have cBW03 := BW0_G0.out.get 3 _ rfl
  have cBW04 := BW0_G0.out.get 4 _ rfl
  have cBW05 := BW0_G0.out.get 5 _ rfl
  have cBW06 := BW0_G0.out.get 6 _ rfl
  have cBW07 := BW0_G0.out.get 7 _ rfl
  go_wp2_with fail
  refine (eqPlant_refl _ G0_G0.out.rd W0_G0.out.rd).mono ?_
  rintro e w9 ⟨rfl, b9⟩
  have Z9 := Lib.hid b9.size
  have hb9 := hbqG0.trans (b9.mono hbqG0.size)
  have hd9 := hdqG0.trans (b9.mono hdqG0.size)
  have A0_9 := Lib.hid (A0_G0.out.below b9)
  have W0_9 := Lib.hid (W0_G0.out.below b9)
  have BW0_9 := Lib.hid (BW0_G0.out.below b9)
  have Ox0_9 := Lib.hid (Ox0_G0.out.below b9)
  have X0_9 := Lib.hid (X0_G0.out.below b9)
  have Ox1_9 := Lib.hid (Ox1_G0.out.below b9)
  have G0_9 := Lib.hid (G0_G0.out.below b9)
  have BG0_9 := Lib.hid (BG0.out.below b9)
  clear b9 A0_G0 W0_G0 BW0_G0 Ox0_G0 X0_G0 Ox1_G0 G0_G0 BG0 cBG00 cBG01 cBG02 cBG03 cBG04 cBG05 cBG06 cBG07 cBW00 cBW01 cBW02 cBW03 cBW04 cBW05 cBW06 cBW07 hdqG0
  have hr_1 : (r1 != r1) = false := by simp
  have hr_2 : (r2 != r2) = false := by simp
  go_upto_region 14 with (fail)
  go_cut [68] (fun sz wx => sz = .bool false ∧ Below w9.heap.size w9 wx)
  case first =>
    have hbz := (Below.refl w9.heap.size w9).drew
    obtain ⟨⟨_, x0, x1, x2⟩, x3, x4, x5⟩ := X0_9.out
    obtain ⟨⟨_, q0, q1, q2⟩, q3, q4, q5⟩ := A0_9.out
    simp only [Nat.zero_add] at x0 x1 x2 x3 x4 x5 q0 q1 q2 q3 q4 q5
    go_region_with (first
      | (go_at_call 8; (with_reducible refine (toService_any s0 t0 bs0 sm0 wk0 _ (H0.out _ (hb9.trans (hbz.mono hb9.size))) hxl0 HXR0.out).mono ?_); rintro e w' ⟨vx, rfl, hv, b⟩; have sx := hv.sl; have hbz := hbz.trans (b.mono hbz.size); clear hv; obtain ⟨⟨_, r0, r1, r2⟩, r3, r4, r5⟩ := X0_9.out.below hbz; simp only [Nat.zero_add] at r0 r1 r2 r3 r4 r5)
      | (go_at_call 12; (with_reducible refine (eqService_same s0 t0 bs0 sm0 wk0 _ (Ox0_9.out.below hbz).sl sx).mono ?_); rintro e w' ⟨rfl, b⟩; have hbz := hbz.trans (b.mono hbz.size)))
    all_goals (go_wp2_with fail; go_meet; exact ⟨rfl, hbz⟩)
  case rest =>
    obtain ⟨rfl, hbc⟩ := hcut
    rename_i w10
    have hb10 := hb9.trans (hbc.mono hb9.size)
    have hd10 := hd9.trans (hbc.mono hd9.size)
    have A0_10 := Lib.hid (A0_9.out.below hbc)
    have W0_10 := Lib.hid (W0_9.out.below hbc)
    have BW0_10 := Lib.hid (BW0_9.out.below hbc)
    have Ox0_10 := Lib.hid (Ox0_9.out.below hbc)
    have X0_10 := Lib.hid (X0_9.out.below hbc)
    have Ox1_10 := Lib.hid (Ox1_9.out.below hbc)
    have G0_10 := Lib.hid (G0_9.out.below hbc)
    have BG0_10 := Lib.hid (BG0_9.out.below hbc)
    clear hbc A0_9 W0_9 BW0_9 Ox0_9 X0_9 Ox1_9 G0_9 BG0_9  hd9
    go_wp2_with fail
    refine (toDeedS_any _ (H1.out _ hb10) hrl1).mono ?_
    rintro e w11 ⟨vz1, rfl, oz1, b11⟩
    have hb11 := hb10.trans (b11.mono hb10.size)
    have hd11 := hd10.trans (b11.mono hd10.size)
    have A0_11 := Lib.hid (A0_10.out.below b11)
    have W0_11 := Lib.hid (W0_10.out.below b11)
    have BW0_11 := Lib.hid (BW0_10.out.below b11)
    have Ox0_11 := Lib.hid (Ox0_10.out.below b11)
    have X0_11 := Lib.hid (X0_10.out.below b11)
    have Ox1_11 := Lib.hid (Ox1_10.out.below b11)
    have G0_11 := Lib.hid (G0_10.out.below b11)
    have BG0_11 := Lib.hid (BG0_10.out.below b11)
    clear b11 A0_10 W0_10 BW0_10 Ox0_10 X0_10 Ox1_10 G0_10 BG0_10  hd10
    have Oz1 := Lib.hid oz1
    clear oz1
    obtain ⟨yz1a, yz1c, rfl, _⟩ := id Oz1.out.sl
    go_wp2_with fail
    refine (eqDeedS_refl _ Ox1_11.out.sl Oz1.out.sl).mono ?_
    rintro e w12 ⟨rfl, b12⟩
    have hb12 := hb11.trans (b12.mono hb11.size)
    have hd12 := hd11.trans (b12.mono hd11.size)
    have A0_12 := Lib.hid (A0_11.out.below b12)
    have W0_12 := Lib.hid (W0_11.out.below b12)
    have BW0_12 := Lib.hid (BW0_11.out.below b12)
    have Ox0_12 := Lib.hid (Ox0_11.out.below b12)
    have X0_12 := Lib.hid (X0_11.out.below b12)
    have Ox1_12 := Lib.hid (Ox1_11.out.below b12)
    have G0_12 := Lib.hid (G0_11.out.below b12)
    have BG0_12 := Lib.hid (BG0_11.out.below b12)
    have Oz1_12 := Lib.hid (Oz1.out.below b12)
    clear b12 A0_11 W0_11 BW0_11 Ox0_11 X0_11 Ox1_11 G0_11 BG0_11 Oz1  hd11
    clear Oz1_12
    obtain ⟨⟨_, x00, x01, x02⟩, x03, x04, x05⟩ := X0_12.out
    simp only [Nat.zero_add] at x00 x01 x02 x03 x04 x05
    go_wp2_with fail
    refine (markService_any s0 t0 bs0 sm0 wk0 1 (w5.alloc (.cells #[.slice zw0l0 r0.l.length zw0l1, .slice zw0r0 r0.r.length zw0r1, .int .i64 r0.q, .slice zw0e0 r0.recs.length zw0e1, .int .i64 r0.sy, .slice zw0h0 r0.hands.length zw0h1, .slice zw0w0 r0.wire.length zw0w1, .slice zw0o0 r0.out.length zw0o1] 37)).heap.size w6.heap.size _ (by omega) (by have := HSUM0.out; omega) Ox0_12.out).mono ?_
    rintro e w13 ⟨rfl, b13⟩
    have Z13 := Lib.hid b13.size
    have fx0 := Fs.of_mid b13
    have hd13 := hd12.trans ((fx0.below (B := (w5.alloc (.cells #[.slice zw0l0 r0.l.length zw0l1, .slice zw0r0 r0.r.length zw0r1, .int .i64 r0.q, .slice zw0e0 r0.recs.length zw0e1, .int .i64 r0.sy, .slice zw0h0 r0.hands.length zw0h1, .slice zw0w0 r0.wire.length zw0w1, .slice zw0o0 r0.out.length zw0o1] 37)).heap.size) (by have := Z3.out; have := Z4.out; have := Z5.out; have := ZAW0.out; have := Z6.out; have := ZAx0.out; have := Z7.out; have := HNB.out; have := Z8.out; have := ZAG0.out; have := Z9.out; have := Z13.out; omega) (fun k hk => by have := hk.1; have := Z3.out; have := Z4.out; have := Z5.out; have := ZAW0.out; have := Z6.out; have := ZAx0.out; have := Z7.out; have := HNB.out; have := Z8.out; have := ZAG0.out; have := Z9.out; have := Z13.out; omega)))
    have A0_13 := Lib.hid (DA0.out _ hd13)
    have W0_13 := Lib.hid (DW0.out _ hd13)
    have BW0_13 := Lib.hid (DBW0.out _ hd13)
    have Ox1_13 := Lib.hid (show FDeed.Own _ (w6.alloc (svObj s0 t0 (.slice yx0a xss0.length yx0c) bs0 sm0 wk0)).heap.size _ xs1 from ownsRow_fs (Ox1_12.out) fx0 (fun k hk => by have := hk.2; have := Z3.out; have := Z4.out; have := Z5.out; have := ZAW0.out; have := Z6.out; have := ZAx0.out; have := Z7.out; have := HNB.out; have := Z8.out; have := ZAG0.out; have := Z9.out; have := Z13.out; omega))
    have G0_13 := Lib.hid (PlO.fs (G0_12.out) fx0 (fun k hk => by have := hk.2; have := Z3.out; have := Z4.out; have := Z5.out; have := ZAW0.out; have := Z6.out; have := ZAx0.out; have := Z7.out; have := HNB.out; have := Z8.out; have := ZAG0.out; have := Z9.out; have := Z13.out; omega))
    have BG0_13 := Lib.hid (BG0_12.out.fs fx0 (fun hk => by have := hk.2; have := Z3.out; have := Z4.out; have := Z5.out; have := ZAW0.out; have := Z6.out; have := ZAx0.out; have := Z7.out; have := HNB.out; have := Z8.out; have := ZAG0.out; have := Z9.out; have := Z13.out; omega))
    have hb13 := HDB.out.trans (hd13.mono HwD.out)
    clear b13 fx0 hb12 hd12 A0_12 W0_12 BW0_12 Ox0_12 X0_12 Ox1_12 G0_12 BG0_12 x00 x01 x02 x03 x04 x05
    go_wp2_with fail
    refine (markDeedS_any (1 + sumL xss0) _ _ (by omega) (by have := HSUM0.out; omega) Ox1_13.out).mono ?_
    rintro e w14 ⟨rfl, om1, b14⟩
    have Z14 := Lib.hid b14.size
    clear om1
    have fx1 : Fs (fun k => (w6.alloc (svObj s0 t0 (.slice yx0a xss0.length yx0c) bs0 sm0 wk0)).heap.size ≤ k ∧ k < w7.heap.size) _ _ := Fs.of_grown b14 (fun g hg => HXL1.out g hg)
    have hd14 := hd13.trans ((fx1.below (B := (w5.alloc (.cells #[.slice zw0l0 r0.l.length zw0l1, .slice zw0r0 r0.r.length zw0r1, .int .i64 r0.q, .slice zw0e0 r0.recs.length zw0e1, .int .i64 r0.sy, .slice zw0h0 r0.hands.length zw0h1, .slice zw0w0 r0.wire.length zw0w1, .slice zw0o0 r0.out.length zw0o1] 37)).heap.size) (by have := Z3.out; have := Z4.out; have := Z5.out; have := ZAW0.out; have := Z6.out; have := ZAx0.out; have := Z7.out; have := HNB.out; have := Z8.out; have := ZAG0.out; have := Z9.out; have := Z13.out; have := Z14.out; omega) (fun k hk => by have := hk.1; have := Z3.out; have := Z4.out; have := Z5.out; have := ZAW0.out; have := Z6.out; have := ZAx0.out; have := Z7.out; have := HNB.out; have := Z8.out; have := ZAG0.out; have := Z9.out; have := Z13.out; have := Z14.out; omega)))
    have A0_14 := Lib.hid (DA0.out _ hd14)
    have W0_14 := Lib.hid (DW0.out _ hd14)
    have BW0_14 := Lib.hid (DBW0.out _ hd14)
    have G0_14 := Lib.hid (PlO.fs (G0_13.out) fx1 (fun k hk => by have := hk.2; have := Z3.out; have := Z4.out; have := Z5.out; have := ZAW0.out; have := Z6.out; have := ZAx0.out; have := Z7.out; have := HNB.out; have := Z8.out; have := ZAG0.out; have := Z9.out; have := Z13.out; have := Z14.out; omega))
    have BG0_14 := Lib.hid (BG0_13.out.fs fx1 (fun hk => by have := hk.2; have := Z3.out; have := Z4.out; have := Z5.out; have := ZAW0.out; have := Z6.out; have := ZAx0.out; have := Z7.out; have := HNB.out; have := Z8.out; have := ZAG0.out; have := Z9.out; have := Z13.out; have := Z14.out; omega))
    have hb14 := HDB.out.trans (hd14.mono HwD.out)
    clear b14 fx1 hb13 hd13 A0_13 W0_13 BW0_13 Ox1_13 G0_13 BG0_13 
    have hkn : ¬ ((1 + sumL xss0) + 2 * (xs1.length : Int)) < 0 := by omega
    have cBG00 := BG0_14.out.get 0 _ rfl
    have cBG01 := BG0_14.out.get 1 _ rfl
    have cBG02 := BG0_14.out.get 2 _ rfl
    have cBG03 := BG0_14.out.get 3 _ rfl
    have cBG04 := BG0_14.out.get 4 _ rfl
    have cBG05 := BG0_14.out.get 5 _ rfl
    have cBG06 := BG0_14.out.get 6 _ rfl
    have cBG07 := BG0_14.out.get 7 _ rfl
    have cBW00 := BW0_14.out.get 0 _ rfl
    have cBW01 := BW0_14.out.get 1 _ rfl
    have cBW02 := BW0_14.out.get 2 _ rfl
    have cBW03 := BW0_14.out.get 3 _ rfl
    have cBW04 := BW0_14.out.get 4 _ rfl
    have cBW05 := BW0_14.out.get 5 _ rfl
    have cBW06 := BW0_14.out.get 6 _ rfl
    have cBW07 := BW0_14.out.get 7 _ rfl
    go_wp2_with fail
    refine (eqPlant_refl _ G0_14.out.rd W0_14.out.rd).mono ?_
    rintro e w15 ⟨rfl, b15⟩
    have Z15 := Lib.hid b15.size
    have hb15 := hb14.trans (b15.mono hb14.size)
    have hd15 := hd14.trans (b15.mono hd14.size)
    have A0_15 := Lib.hid (A0_14.out.below b15)
    have W0_15 := Lib.hid (W0_14.out.below b15)
    have BW0_15 := Lib.hid (BW0_14.out.below b15)
    have G0_15 := Lib.hid (G0_14.out.below b15)
    have BG0_15 := Lib.hid (BG0_14.out.below b15)
    clear b15 A0_14 W0_14 BW0_14 G0_14 BG0_14 cBG00 cBG01 cBG02 cBG03 cBG04 cBG05 cBG06 cBG07 cBW00 cBW01 cBW02 cBW03 cBW04 cBW05 cBW06 cBW07 hd14
    have cBG00 := BG0_15.out.get 0 _ rfl
    have cBG01 := BG0_15.out.get 1 _ rfl
    have cBG02 := BG0_15.out.get 2 _ rfl
    have cBG03 := BG0_15.out.get 3 _ rfl
    have cBG04 := BG0_15.out.get 4 _ rfl
    have cBG05 := BG0_15.out.get 5 _ rfl
    have cBG06 := BG0_15.out.get 6 _ rfl
    have cBG07 := BG0_15.out.get 7 _ rfl
    go_wp2_with fail
    refine (markPlant_any 1 NB _ (by omega) (by have := HLEN.out; omega) G0_15.out).mono ?_
    rintro e w16 ⟨rfl, og1, b16⟩
    have Z16 := Lib.hid b16.size
    have fg : Fs (PlBl (.slice zg0l0 r0.l.length zg0l1) (.slice zg0r0 r0.r.length zg0r1) (.slice zg0e0 r0.recs.length zg0e1) (.slice zg0h0 r0.hands.length zg0h1) (.slice zg0w0 r0.wire.length zg0w1) (.slice zg0o0 r0.out.length zg0o1)) _ _ := b16
    have hd16 := hd15.trans (fg.below (B := (w5.alloc (.cells #[.slice zw0l0 r0.l.length zw0l1, .slice zw0r0 r0.r.length zw0r1, .int .i64 r0.q, .slice zw0e0 r0.recs.length zw0e1, .int .i64 r0.sy, .slice zw0h0 r0.hands.length zw0h1, .slice zw0w0 r0.wire.length zw0w1, .slice zw0o0 r0.out.length zw0o1] 37)).heap.size) (by have := Z3.out; have := Z4.out; have := Z5.out; have := ZAW0.out; have := Z6.out; have := ZAx0.out; have := Z7.out; have := HNB.out; have := Z8.out; have := ZAG0.out; have := Z9.out; have := Z13.out; have := Z14.out; have := Z15.out; have := Z16.out; omega) (fun k hk => by have := (HGS.out k hk).1; have := Z3.out; have := Z4.out; have := Z5.out; have := ZAW0.out; have := Z6.out; have := ZAx0.out; have := Z7.out; have := HNB.out; have := Z8.out; have := ZAG0.out; have := Z9.out; have := Z13.out; have := Z14.out; have := Z15.out; have := Z16.out; omega))
    have A0_16 := Lib.hid (DA0.out _ hd16)
    have W0_16 := Lib.hid (DW0.out _ hd16)
    have BW0_16 := Lib.hid (DBW0.out _ hd16)
    have BG0_16 := Lib.hid (BG0_15.out.fs fg (fun hk => by have := (HGS.out _ hk).2; omega))
    have hb16 := HDB.out.trans (hd16.mono HwD.out)
    clear b16 fg hb15 hd15 A0_15 W0_15 BW0_15 G0_15 BG0_15 cBG00 cBG01 cBG02 cBG03 cBG04 cBG05 cBG06 cBG07
    have G1 := Lib.hid og1
    clear og1
    have hq0 : ¬ (1 + plN r0 : Int) < 0 := by omega
    have hq1 : ((1 + plN r0 : Int) != (1 + plN r0)) = false := by simp
    have cBG00 := BG0_16.out.get 0 _ rfl
    have cBG01 := BG0_16.out.get 1 _ rfl
    have cBG02 := BG0_16.out.get 2 _ rfl
    have cBG03 := BG0_16.out.get 3 _ rfl
    have cBG04 := BG0_16.out.get 4 _ rfl
    have cBG05 := BG0_16.out.get 5 _ rfl
    have cBG06 := BG0_16.out.get 6 _ rfl
    have cBG07 := BG0_16.out.get 7 _ rfl
    go_wp2_with fail
    refine (heldPlant_any 1 _ (by omega) (by have := HLEN.out; omega) G1.out.rd).mono ?_
    rintro e w17 ⟨rfl, b17⟩
    have Z17 := Lib.hid b17.size
    have hb17 := hb16.trans (b17.mono hb16.size)
    have hd17 := hd16.trans (b17.mono hd16.size)
    have A0_17 := Lib.hid (A0_16.out.below b17)
    have W0_17 := Lib.hid (W0_16.out.below b17)
    have BW0_17 := Lib.hid (BW0_16.out.below b17)
    have BG0_17 := Lib.hid (BG0_16.out.below b17)
    have G1_17 := Lib.hid (G1.out.below b17)
    clear b17 A0_16 W0_16 BW0_16 BG0_16 G1 cBG00 cBG01 cBG02 cBG03 cBG04 cBG05 cBG06 cBG07 hd16
    obtain ⟨⟨_, q00, q01, q02⟩, q03, q04, q05⟩ := A0_17.out
    simp only [Nat.zero_add] at q00 q01 q02 q03 q04 q05
    go_wp2_with fail
    refine (toService_any s0 t0 bs0 sm0 wk0 _ (H0.out _ hb17) hxl0 HXR0.out).mono ?_
    rintro e w18 ⟨vy0, rfl, oy0, b18⟩
    have Z18 := Lib.hid b18.size
    have hb18 := hb17.trans (b18.mono hb17.size)
    have hd18 := hd17.trans (b18.mono hd17.size)
    have A0_18 := Lib.hid (A0_17.out.below b18)
    have W0_18 := Lib.hid (W0_17.out.below b18)
    have BW0_18 := Lib.hid (BW0_17.out.below b18)
    have BG0_18 := Lib.hid (BG0_17.out.below b18)
    have G1_18 := Lib.hid (G1_17.out.below b18)
    clear b18 A0_17 W0_17 BW0_17 BG0_17 G1_17 q00 q01 q02 q03 q04 q05 hd17
    obtain ⟨yy0a, yy0c, yy0u, rfl, _⟩ := id oy0.sl
    have Oy0 := Lib.hid oy0
    clear oy0
    go_wp2_with fail
    refine (toDeedS_any _ (H1.out _ hb18) hrl1).mono ?_
    rintro e w19 ⟨vy1, rfl, oy1, b19⟩
    have Z19 := Lib.hid b19.size
    have hb19 := hb18.trans (b19.mono hb18.size)
    have hd19 := hd18.trans (b19.mono hd18.size)
    have A0_19 := Lib.hid (A0_18.out.below b19)
    have W0_19 := Lib.hid (W0_18.out.below b19)
    have BW0_19 := Lib.hid (BW0_18.out.below b19)
    have BG0_19 := Lib.hid (BG0_18.out.below b19)
    have G1_19 := Lib.hid (G1_18.out.below b19)
    have Oy0_19 := Lib.hid (Oy0.out.below b19)
    clear b19 A0_18 W0_18 BW0_18 BG0_18 G1_18 Oy0  hd18
    obtain ⟨yy1a, yy1c, rfl, _⟩ := id oy1.sl
    have Oy1 := Lib.hid oy1
    clear oy1
    go_wp2_with fail
    refine (ImplPlantAfter_any s0 t0 bs0 sm0 wk0 _ Oy0_19.out.sl Oy1.out.sl).mono ?_
    rintro e w20 ⟨vlh0, vrh0, veh0, vhh0, vwh0, voh0, rfl, oh0, b20⟩
    have Z20 := Lib.hid b20.size
    rw [HR.out] at oh0 ⊢
    have hb20 := hb19.trans (b20.mono hb19.size)
    have hd20 := hd19.trans (b20.mono hd19.size)
    have A0_20 := Lib.hid (A0_19.out.below b20)
    have W0_20 := Lib.hid (W0_19.out.below b20)
    have BW0_20 := Lib.hid (BW0_19.out.below b20)
    have BG0_20 := Lib.hid (BG0_19.out.below b20)
    have G1_20 := Lib.hid (G1_19.out.below b20)
    have Oy0_20 := Lib.hid (Oy0_19.out.below b20)
    have Oy1_20 := Lib.hid (Oy1.out.below b20)
    clear b20 A0_19 W0_19 BW0_19 BG0_19 G1_19 Oy0_19 Oy1  hd19
    have oh0 : PlO _ _ r0 _ _ _ _ _ _ := oh0
    obtain ⟨zh0l0, zh0l1, zh0r0, zh0r1, zh0e0, zh0e1, zh0h0, zh0h1, zh0w0, zh0w1, zh0o0, zh0o1, rfl, rfl, rfl, rfl, rfl, rfl⟩ := oh0.rd.form
    unfold plV
    have HH := Lib.hid oh0
    clear oh0
    have bqHH : Below w20.heap.size w20 (w20.alloc (.cells #[.slice zh0l0 r0.l.length zh0l1, .slice zh0r0 r0.r.length zh0r1, .int .i64 r0.q, .slice zh0e0 r0.recs.length zh0e1, .int .i64 r0.sy, .slice zh0h0 r0.hands.length zh0h1, .slice zh0w0 r0.wire.length zh0w1, .slice zh0o0 r0.out.length zh0o1] 37)) := (Below.refl _ _).alloc (Nat.le_refl _) _
    have ZAHH := Lib.hid (show (w20.alloc (.cells #[.slice zh0l0 r0.l.length zh0l1, .slice zh0r0 r0.r.length zh0r1, .int .i64 r0.q, .slice zh0e0 r0.recs.length zh0e1, .int .i64 r0.sy, .slice zh0h0 r0.hands.length zh0h1, .slice zh0w0 r0.wire.length zh0w1, .slice zh0o0 r0.out.length zh0o1] 37)).heap.size = w20.heap.size + 1 from by simp)
    have A0_HH := Lib.hid (A0_20.out.below bqHH)
    have W0_HH := Lib.hid (W0_20.out.below bqHH)
    have BW0_HH := Lib.hid (BW0_20.out.below bqHH)
    have BG0_HH := Lib.hid (BG0_20.out.below bqHH)
    have G1_HH := Lib.hid (G1_20.out.below bqHH)
    have Oy0_HH := Lib.hid (Oy0_20.out.below bqHH)
    have Oy1_HH := Lib.hid (Oy1_20.out.below bqHH)
    have HH_HH := Lib.hid (HH.out.below bqHH)
    have hbqHH := hb20.trans (bqHH.mono hb20.size)
    have hdqHH := hd20.trans (bqHH.mono hd20.size)
    clear bqHH A0_20 W0_20 BW0_20 BG0_20 G1_20 Oy0_20 Oy1_20 HH hd20
    have BHH := Lib.hid (CellsAt.new w20 [.slice zh0l0 r0.l.length zh0l1, .slice zh0r0 r0.r.length zh0r1, .int .i64 r0.q, .slice zh0e0 r0.recs.length zh0e1, .int .i64 r0.sy, .slice zh0h0 r0.hands.length zh0h1, .slice zh0w0 r0.wire.length zh0w1, .slice zh0o0 r0.out.length zh0o1] 37)
    have cBHH0 := BHH.out.get 0 _ rfl
    have cBHH1 := BHH.out.get 1 _ rfl
    have cBHH2 := BHH.out.get 2 _ rfl
    have cBHH3 := BHH.out.get 3 _ rfl
    have cBHH4 := BHH.out.get 4 _ rfl
    have cBHH5 := BHH.out.get 5 _ rfl
    have cBHH6 := BHH.out.get 6 _ rfl
    have cBHH7 := BHH.out.get 7 _ rfl
    have cBW00 := BW0_HH.out.get 0 _ rfl
    have cBW01 := BW0_HH.out.get 1 _ rfl
    have cBW02 := BW0_HH.out.get 2 _ rfl
    have cBW03 := BW0_HH.out.get 3 _ rfl
    have cBW04 := BW0_HH.out.get 4 _ rfl
    have cBW05 := BW0_HH.out.get 5 _ rfl
    have cBW06 := BW0_HH.out.get 6 _ rfl
    have cBW07 := BW0_HH.out.get 7 _ rfl
    go_wp2_with fail
    refine (eqPlant_refl _ HH_HH.out.rd W0_HH.out.rd).mono ?_
    rintro e w21 ⟨rfl, b21⟩
    have Z21 := Lib.hid b21.size
    have hb21 := hbqHH.trans (b21.mono hbqHH.size)
    have hd21 := hdqHH.trans (b21.mono hdqHH.size)
    have A0_21 := Lib.hid (A0_HH.out.below b21)
    have W0_21 := Lib.hid (W0_HH.out.below b21)
    have BW0_21 := Lib.hid (BW0_HH.out.below b21)
    have BG0_21 := Lib.hid (BG0_HH.out.below b21)
    have G1_21 := Lib.hid (G1_HH.out.below b21)
    have Oy0_21 := Lib.hid (Oy0_HH.out.below b21)
    have Oy1_21 := Lib.hid (Oy1_HH.out.below b21)
    have HH_21 := Lib.hid (HH_HH.out.below b21)
    have BHH_21 := Lib.hid (BHH.out.below b21)
    clear b21 A0_HH W0_HH BW0_HH BG0_HH G1_HH Oy0_HH Oy1_HH HH_HH BHH cBHH0 cBHH1 cBHH2 cBHH3 cBHH4 cBHH5 cBHH6 cBHH7 cBW00 cBW01 cBW02 cBW03 cBW04 cBW05 cBW06 cBW07 hdqHH
    have cBG00 := BG0_21.out.get 0 _ rfl
    have cBG01 := BG0_21.out.get 1 _ rfl
    have cBG02 := BG0_21.out.get 2 _ rfl
    have cBG03 := BG0_21.out.get 3 _ rfl
    have cBG04 := BG0_21.out.get 4 _ rfl
    have cBG05 := BG0_21.out.get 5 _ rfl
    have cBG06 := BG0_21.out.get 6 _ rfl
    have cBG07 := BG0_21.out.get 7 _ rfl
    go_wp2_with fail
    refine (heldPlant_any 1 _ (by omega) (by have := HLEN.out; omega) G1_21.out.rd).mono ?_
    rintro e w22 ⟨rfl, b22⟩
    have Z22 := Lib.hid b22.size
    have hb22 := hb21.trans (b22.mono hb21.size)
    have hd22 := hd21.trans (b22.mono hd21.size)
    have A0_22 := Lib.hid (A0_21.out.below b22)
    have W0_22 := Lib.hid (W0_21.out.below b22)
    have BW0_22 := Lib.hid (BW0_21.out.below b22)
    have BG0_22 := Lib.hid (BG0_21.out.below b22)
    have G1_22 := Lib.hid (G1_21.out.below b22)
    have Oy0_22 := Lib.hid (Oy0_21.out.below b22)
    have Oy1_22 := Lib.hid (Oy1_21.out.below b22)
    have HH_22 := Lib.hid (HH_21.out.below b22)
    have BHH_22 := Lib.hid (BHH_21.out.below b22)
    clear b22 A0_21 W0_21 BW0_21 BG0_21 G1_21 Oy0_21 Oy1_21 HH_21 BHH_21 cBG00 cBG01 cBG02 cBG03 cBG04 cBG05 cBG06 cBG07 hd21
    go_wp2
    go_ret
    exact ⟨rfl, hb22⟩
end Go.Proofs.YtofpelmplcoegaaGreat
