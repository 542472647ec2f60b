/-
  FnExactJournalText: both answer the same, and leave what they are given as it was.
-/
import Derived.Test.YthheijekdpboaaaJournal
import Derived.Test.YthheijekdpboaaaLawR
import Derived.Deep.RegionWith
import Derived.Deep.DeepCutAuto
namespace Go.Proofs.Ythheijekdpboaaa
open Go.RowKit Go.Sort
set_option linter.unusedVariables false
set_option maxHeartbeats 4000000 in
theorem FnExactJournalText_walk {u0 : Value} {xss0 : List (List Int)} (s0 t0 bs0 sm0 wk0 : Int) {u1 : Value} {xs1 : List (Int × Int × Int)} (w : World) (ha0 : SlII w u0 xss0) (ha1 : FRecordL.Sl w u1 xs1):
    Calls Try.prog 10 #[.agg #[.int .i64 s0, .int .i64 t0, u0, .int .i64 bs0, .int .i64 sm0, .int .i64 wk0], u1] w fun e w' => e = .returned (.bool true) ∧ Below w.heap.size w w' := by
  obtain ⟨pa0, pc0, pu0, rfl, _⟩ := id ha0
  obtain ⟨pa1, pc1, rfl, pl1, pm1, _⟩ := id ha1; unfold maxLen at pm1
  have hb0 : Below w.heap.size w (w.alloc (argObj s0 t0 (.slice pa0 xss0.length pc0) bs0 sm0 wk0)) := ((Below.refl w.heap.size w).alloc (by simp) (argObj s0 t0 (.slice pa0 xss0.length pc0) bs0 sm0 wk0))
  have A0 := Lib.hid (argBox w s0 t0 (.slice pa0 xss0.length pc0) bs0 sm0 wk0)
  have H0 := Lib.hid (fun W (h : Below w.heap.size w W) => ha0.below h)
  clear ha0
  have H1 := Lib.hid (fun W (h : Below w.heap.size w W) => ha1.below h)
  clear ha1
  have hr0 := szII_range 1048576 xss0 (by omega)
  generalize hz0 : szII 1048576 xss0 = l0 at hr0
  have HZ0 := Lib.hid hz0
  clear hz0
  generalize hz1 : sz1 l0 xs1.length = l1
  have hr1 : l1 ≤ 1048576 := by rw [← hz1]; unfold sz1; split <;> omega
  have HZ1 := Lib.hid hz1
  clear hz1
  go_enter Try.func10, Try.ntmps10
  obtain ⟨⟨_, q00, q01, q02⟩, q03, q04, q05⟩ := A0.out
  simp only [Nat.zero_add] at q00 q01 q02 q03 q04 q05
  go_wp2_with fail
  refine (szService_any s0 t0 bs0 sm0 wk0 1048576 _ (H0.out _ hb0) (by omega) (by omega)).mono ?_
  rintro e w1 ⟨rfl, b1⟩
  rw [HZ0.out]
  have hb1 := hb0.trans (b1.mono hb0.size)
  have A0_1 := Lib.hid (A0.out.below b1)
  clear b1 A0 q00 q01 q02 q03 q04 q05
  by_cases hl0 : l0 < 0
  · go_wp2
    go_ret
    exact ⟨rfl, hb1⟩
  obtain ⟨hxl0, hxr0⟩ := szII_ok HZ0.out hl0
  have HXR0 := Lib.hid hxr0
  clear hxr0
  obtain ⟨⟨_, q00, q01, q02⟩, q03, q04, q05⟩ := A0_1.out
  simp only [Nat.zero_add] at q00 q01 q02 q03 q04 q05
  go_wp2_with fail
  refine (szRecordS_any l0 _ (H1.out _ hb1) (by omega) (by omega)).mono ?_
  rintro e w2 ⟨rfl, b2⟩
  rw [HZ1.out]
  have hb2 := hb1.trans (b2.mono hb1.size)
  have A0_2 := Lib.hid (A0_1.out.below b2)
  clear b2 A0_1 q00 q01 q02 q03 q04 q05
  by_cases hl1 : l1 < 0
  · go_wp2
    go_ret
    exact ⟨rfl, hb2⟩
  have hrl1 : xs1.length ≤ 1048576 := sz1_ok HZ1.out hl1 (by omega)
  generalize hR : jTextB s0 t0 xss0 bs0 sm0 wk0 xs1 = R
  have HR := Lib.hid hR
  clear hR
  skip
  obtain ⟨⟨_, q00, q01, q02⟩, q03, q04, q05⟩ := A0_2.out
  simp only [Nat.zero_add] at q00 q01 q02 q03 q04 q05
  go_wp2_with fail
  refine (toService_any s0 t0 bs0 sm0 wk0 _ (H0.out _ hb2) hxl0 HXR0.out).mono ?_
  rintro e w3 ⟨vs0, rfl, os0, b3⟩
  have hb3 := hb2.trans (b3.mono hb2.size)
  have A0_3 := Lib.hid (A0_2.out.below b3)
  clear b3 A0_2 q00 q01 q02 q03 q04 q05
  obtain ⟨ys0a, ys0c, ys0u, rfl, _⟩ := id os0.sl
  have Os0 := Lib.hid os0
  clear os0
  go_wp2_with fail
  refine (toRecordS_any _ (H1.out _ hb3) hrl1).mono ?_
  rintro e w4 ⟨vs1, rfl, os1, b4⟩
  have hb4 := hb3.trans (b4.mono hb3.size)
  have A0_4 := Lib.hid (A0_3.out.below b4)
  have Os0_4 := Lib.hid (Os0.out.below b4)
  clear b4 A0_3 Os0 
  obtain ⟨ys1a, ys1c, rfl, _⟩ := id os1.sl
  have Os1 := Lib.hid os1
  clear os1
  go_wp2_with fail
  refine (SpecJournalText_any s0 t0 bs0 sm0 wk0 _ Os0_4.out.sl Os1.out.sl hrl1).mono ?_
  rintro e w5 ⟨rfl, b5⟩
  rw [HR.out]
  have hb5 := hb4.trans (b5.mono hb4.size)
  have A0_5 := Lib.hid (A0_4.out.below b5)
  have Os0_5 := Lib.hid (Os0_4.out.below b5)
  have Os1_5 := Lib.hid (Os1.out.below b5)
  clear b5 A0_4 Os0_4 Os1 
  clear Os0_5
  clear Os1_5
  obtain ⟨⟨_, q00, q01, q02⟩, q03, q04, q05⟩ := A0_5.out
  simp only [Nat.zero_add] at q00 q01 q02 q03 q04 q05
  go_wp2_with fail
  refine (toService_any s0 t0 bs0 sm0 wk0 _ (H0.out _ hb5) hxl0 HXR0.out).mono ?_
  rintro e w6 ⟨vx0, rfl, ox0, b6⟩
  have hb6 := hb5.trans (b6.mono hb5.size)
  have A0_6 := Lib.hid (A0_5.out.below b6)
  clear b6 A0_5 q00 q01 q02 q03 q04 q05
  obtain ⟨yx0a, yx0c, yx0u, rfl, _⟩ := id ox0.sl
  have Ox0 := Lib.hid ox0
  clear ox0
  have bx0 : Below w6.heap.size w6 (w6.alloc (svObj s0 t0 (.slice yx0a xss0.length yx0c) bs0 sm0 wk0)) := (Below.refl _ _).alloc (Nat.le_refl _) _
  have A0_x0 := Lib.hid (A0_6.out.below bx0)
  have Ox0_x0 := Lib.hid (Ox0.out.below bx0)
  have X0 := Lib.hid (svBox w6 s0 t0 (.slice yx0a xss0.length yx0c) bs0 sm0 wk0)
  have hbx0 := hb6.trans (bx0.mono hb6.size)
  have hsx0 : w.heap.size ≤ w6.heap.size := hb6.size
  clear bx0 A0_6 Ox0
  go_wp2_with fail
  refine (toRecordS_any _ (H1.out _ hbx0) hrl1).mono ?_
  rintro e w7 ⟨vx1, rfl, ox1, b7⟩
  have hb7 := hbx0.trans (b7.mono hbx0.size)
  have A0_7 := Lib.hid (A0_x0.out.below b7)
  have Ox0_7 := Lib.hid (Ox0_x0.out.below b7)
  have X0_7 := Lib.hid (X0.out.below b7)
  clear b7 A0_x0 Ox0_x0 X0 
  obtain ⟨yx1a, yx1c, rfl, _⟩ := id ox1.sl
  have Ox1 := Lib.hid ox1
  clear ox1
  obtain ⟨⟨_, x00, x01, x02⟩, x03, x04, x05⟩ := X0_7.out
  simp only [Nat.zero_add] at x00 x01 x02 x03 x04 x05
  go_wp2_with fail
  refine (ImplJournalText_any s0 t0 bs0 sm0 wk0 _ Ox0_7.out.sl Ox1.out.sl hrl1).mono ?_
  rintro e w8 ⟨rfl, b8⟩
  rw [HR.out]
  have hb8 := hb7.trans (b8.mono hb7.size)
  have A0_8 := Lib.hid (A0_7.out.below b8)
  have Ox0_8 := Lib.hid (Ox0_7.out.below b8)
  have X0_8 := Lib.hid (X0_7.out.below b8)
  have Ox1_8 := Lib.hid (Ox1.out.below b8)
  clear b8 A0_7 Ox0_7 X0_7 Ox1 x00 x01 x02 x03 x04 x05
  have hr_0 : (R.toList == R.toList) = true := by simp
  go_upto_region 14 with (fail)
  go_cut [39] (fun sz wx => sz = .bool false ∧ Below w8.heap.size w8 wx)
  case first =>
    have hbz := (Below.refl w8.heap.size w8).drew
    obtain ⟨⟨_, x0, x1, x2⟩, x3, x4, x5⟩ := X0_8.out
    obtain ⟨⟨_, q0, q1, q2⟩, q3, q4, q5⟩ := A0_8.out
    simp only [Nat.zero_add] at x0 x1 x2 x3 x4 x5 q0 q1 q2 q3 q4 q5
    go_region_with (first
      | (go_at_call 17; (with_reducible refine (toService_any s0 t0 bs0 sm0 wk0 _ (H0.out _ (hb8.trans (hbz.mono hb8.size))) hxl0 HXR0.out).mono ?_); rintro e w' ⟨vx, rfl, hv, b⟩; have sx := hv.sl; have hbz := hbz.trans (b.mono hbz.size); clear hv; obtain ⟨⟨_, r0, r1, r2⟩, r3, r4, r5⟩ := X0_8.out.below hbz; simp only [Nat.zero_add] at r0 r1 r2 r3 r4 r5)
      | (go_at_call 19; (with_reducible refine (eqService_same s0 t0 bs0 sm0 wk0 _ (Ox0_8.out.below hbz).sl sx).mono ?_); rintro e w' ⟨rfl, b⟩; have hbz := hbz.trans (b.mono hbz.size)))
    all_goals (go_wp2_with fail; go_meet; exact ⟨rfl, hbz⟩)
  case rest =>
    obtain ⟨rfl, hbc⟩ := hcut
    rename_i w9
    have hb9 := hb8.trans (hbc.mono hb8.size)
    have A0_9 := Lib.hid (A0_8.out.below hbc)
    have Ox0_9 := Lib.hid (Ox0_8.out.below hbc)
    have X0_9 := Lib.hid (X0_8.out.below hbc)
    have Ox1_9 := Lib.hid (Ox1_8.out.below hbc)
    clear hbc A0_8 Ox0_8 X0_8 Ox1_8 
    go_wp2_with fail
    refine (toRecordS_any _ (H1.out _ hb9) hrl1).mono ?_
    rintro e w10 ⟨vz1, rfl, oz1, b10⟩
    have hb10 := hb9.trans (b10.mono hb9.size)
    have A0_10 := Lib.hid (A0_9.out.below b10)
    have Ox0_10 := Lib.hid (Ox0_9.out.below b10)
    have X0_10 := Lib.hid (X0_9.out.below b10)
    have Ox1_10 := Lib.hid (Ox1_9.out.below b10)
    clear b10 A0_9 Ox0_9 X0_9 Ox1_9 
    have Oz1 := Lib.hid oz1
    clear oz1
    obtain ⟨yz1a, yz1c, rfl, _⟩ := id Oz1.out.sl
    go_wp2_with fail
    refine (eqRecordS_refl _ Ox1_10.out.sl Oz1.out.sl).mono ?_
    rintro e w11 ⟨rfl, b11⟩
    have hb11 := hb10.trans (b11.mono hb10.size)
    have A0_11 := Lib.hid (A0_10.out.below b11)
    have Ox0_11 := Lib.hid (Ox0_10.out.below b11)
    have X0_11 := Lib.hid (X0_10.out.below b11)
    have Ox1_11 := Lib.hid (Ox1_10.out.below b11)
    have Oz1_11 := Lib.hid (Oz1.out.below b11)
    clear b11 A0_10 Ox0_10 X0_10 Ox1_10 Oz1 
    clear Oz1_11
    go_wp2
    go_ret
    exact ⟨rfl, hb11⟩
end Go.Proofs.Ythheijekdpboaaa
