/-
  FnExactValidRecord: both say of each record of a service the same, and leave both as they were.
-/
import Derived.Test.YthheijekdpboaaaLawLib
import Derived.Test.YthheijekdpboaaaRecord
import Derived.Deep.RegionWith
import Derived.Deep.DeepCutAuto
namespace Go.Proofs.Ythheijekdpboaaa
open Go.RowKit Go.Sort
/-- three cells of a record -/
def RecAt (w : World) (b : Nat) (k x v : Int) : Prop := b < w.heap.size ∧ w.cell? ⟨b, 0, none⟩ = some (.int .i64 k) ∧ w.cell? ⟨b, 1, none⟩ = some (.int .i64 x) ∧ w.cell? ⟨b, 2, none⟩ = some (.int .i64 v)
theorem RecAt.below {w w' : World} {b : Nat} {k x v : Int} (h : RecAt w b k x v) (hb : Below w.heap.size w w') : RecAt w' b k x v :=
  ⟨Nat.lt_of_lt_of_le h.1 hb.size, by rw [hb.cell (p := ⟨b, 0, none⟩) h.1]; exact h.2.1, by rw [hb.cell (p := ⟨b, 1, none⟩) h.1]; exact h.2.2.1, by rw [hb.cell (p := ⟨b, 2, none⟩) h.1]; exact h.2.2.2⟩
theorem recBox (w : World) (k x v : Int) (t : Nat) : RecAt (w.alloc (.cells #[.int .i64 k, .int .i64 x, .int .i64 v] t)) w.heap.size k x v := by
  refine ⟨by simp, ?_, ?_, ?_⟩ <;> simp
set_option maxHeartbeats 4000000 in
theorem FnExactValidRecord_walk {u : Value} {xss : List (List Int)} (s t bs sm wk k x v : Int) (w : World) (ha : SlII w u xss) :
    Calls Try.prog 5 #[.agg #[.int .i64 s, .int .i64 t, u, .int .i64 bs, .int .i64 sm, .int .i64 wk], .agg #[.int .i64 k, .int .i64 x, .int .i64 v]] w fun e w' => e = .returned (.bool true) ∧ Below w.heap.size w w' := by
  have bb1 : Below w.heap.size w (w.alloc (argObj s t u bs sm wk)) := (Below.refl _ _).alloc (Nat.le_refl _) _
  have bb2 : Below (w.alloc (argObj s t u bs sm wk)).heap.size (w.alloc (argObj s t u bs sm wk)) ((w.alloc (argObj s t u bs sm wk)).alloc (.cells #[.int .i64 k, .int .i64 x, .int .i64 v] 42)) := (Below.refl _ _).alloc (Nat.le_refl _) _
  have bb := bb1.trans (bb2.mono bb1.size)
  have hA := (argBox w s t u bs sm wk).below bb2
  have hB := recBox (w.alloc (argObj s t u bs sm wk)) k x v 42
  simp only [World.size_alloc] at hB
  obtain ⟨a, ca, us, rfl, _⟩ := id ha
  have H1 := Lib.hid (fun W (h : Below w.heap.size w W) => ha.below h)
  have HA := Lib.hid hA
  have HB := Lib.hid hB
  clear ha hA hB bb1 bb2
  have hr1 := szII_range 1048576 xss (by omega)
  generalize hz1 : szII 1048576 xss = l1 at hr1
  have HZ1 := Lib.hid hz1
  clear hz1
  go_enter Try.func5, Try.ntmps5
  go_wp2_with fail
  refine (szService_any s t bs sm wk 1048576 _ (H1.out _ bb) (by omega) (by omega)).mono ?_
  rintro e w1 ⟨rfl, b1⟩
  rw [HZ1.out]
  have hb1 := bb.trans (b1.mono bb.size)
  have A1 := Lib.hid ((HA.out).below b1)
  have B1 := Lib.hid ((HB.out).below b1)
  clear b1 bb
  by_cases hl1 : l1 < 0
  · go_wp2
    go_ret
    exact ⟨rfl, hb1⟩
  · obtain ⟨hxl, hxr⟩ := szII_ok HZ1.out hl1
    have HXR := Lib.hid hxr
    clear hxr
    generalize hR : recSvOk s t xss bs sm wk k x v = R
    have HR := Lib.hid hR
    clear hR
    go_upto_region 5 with (fail)
    go_cut [6] (fun s6 wx => s6 = .bool R ∧ Below w1.heap.size w1 wx)
    case first =>
      have hbz := (Below.refl w1.heap.size w1).drew
      obtain ⟨⟨_, q0, q1, q2⟩, q3, q4, q5⟩ := A1.out
      obtain ⟨_, r0, r1, r2⟩ := B1.out
      simp only [Nat.zero_add] at q0 q1 q2 q3 q4 q5
      go_region_with (first
        | (go_at_call 17; (with_reducible refine (toService_any s t bs sm wk _ (H1.out _ (hb1.trans (hbz.mono hb1.size))) hxl HXR.out).mono ?_); rintro e w' ⟨vx, rfl, hv, b⟩; have sx := fun W h => hv.sl.below (w' := W) h; have hbz := hbz.trans (b.mono hbz.size); clear hv; obtain ⟨_, r0, r1, r2⟩ := B1.out.below hbz)
        | (go_at_call 24; (with_reducible refine (toRecord_any k x v _).mono ?_); rintro e w' ⟨rfl, b⟩; have hbz := hbz.trans (b.mono hbz.size); obtain ⟨⟨_, q0, q1, q2⟩, q3, q4, q5⟩ := A1.out.below hbz; simp only [Nat.zero_add] at q0 q1 q2 q3 q4 q5)
        | (go_at_call 23; (with_reducible refine (SpecValidRecord_any s t bs sm wk k x v _ (sx _ b)).mono ?_); rintro e w' ⟨rfl, b⟩; rw [HR.out]; have hbz := hbz.trans (b.mono hbz.size))
        | (go_at_call 23; (with_reducible refine (SpecValidRecord_any s t bs sm wk k x v _ (sx _ (Below.refl _ _))).mono ?_); rintro e w' ⟨rfl, b⟩; rw [HR.out]; have hbz := hbz.trans (b.mono hbz.size)))
      all_goals (go_wp2_with fail; go_meet; exact ⟨rfl, hbz⟩)
    case rest =>
      obtain ⟨rfl, hbc⟩ := hcut
      have A3 := Lib.hid (A1.out.below hbc)
      have B3 := Lib.hid (B1.out.below hbc)
      have hb3 := hb1.trans (hbc.mono hb1.size)
      clear hbc hb1
      obtain ⟨⟨_, q0, q1, q2⟩, q3, q4, q5⟩ := A3.out
      simp only [Nat.zero_add] at q0 q1 q2 q3 q4 q5
      go_wp2_with fail
      refine (toService_any s t bs sm wk _ (H1.out _ hb3) hxl HXR.out).mono ?_
      rintro e w4 ⟨v4, rfl, o4, b4⟩
      have s4 := Lib.hid (fun W (h : Below w4.heap.size w4 W) => o4.sl.below h)
      obtain ⟨a4, c4, us4, rfl, _⟩ := id o4.sl
      have hb4 := hb3.trans (b4.mono hb3.size)
      have bx : Below w4.heap.size w4 (w4.alloc (svObj s t (.slice a4 xss.length c4) bs sm wk)) := (Below.refl _ _).alloc (Nat.le_refl _) _
      have X4 := Lib.hid (svBox w4 s t (.slice a4 xss.length c4) bs sm wk)
      have hb4x := hb4.trans (bx.mono hb4.size)
      have A4x := Lib.hid (((A3.out).below b4).below bx)
      have B4x := Lib.hid (((B3.out).below b4).below bx)
      clear o4 q0 q1 q2 q3 q4 q5 b4
      obtain ⟨_, r0, r1, r2⟩ := B4x.out
      obtain ⟨⟨_, x0, x1, x2⟩, x3, x4, x5⟩ := X4.out
      simp only [Nat.zero_add] at x0 x1 x2 x3 x4 x5
      have kx0 := fun d os => cell_regrown x0 d os
      have kx1 := fun d os => cell_regrown x1 d os
      have kx2 := fun d os => cell_regrown x2 d os
      have kx3 := fun d os => cell_regrown x3 d os
      have kx4 := fun d os => cell_regrown x4 d os
      have kx5 := fun d os => cell_regrown x5 d os
      have kr0 := fun d os => cell_regrown r0 d os
      have kr1 := fun d os => cell_regrown r1 d os
      have kr2 := fun d os => cell_regrown r2 d os
      have SX := Lib.hid (fun d os => (s4.out _ (bx.trans ((below_regrown _ d os).mono bx.size))))
      clear x0 x1 x2 x3 x4 x5 r0 r1 r2
      generalize hW4 : w4.alloc (svObj s t (.slice a4 xss.length c4) bs sm wk) = W4 at *
      have HW4 := Lib.hid hW4
      go_upto_region 7 with (fail)
      unfold svObj at hW4
      rw [hW4]
      clear hW4
      have bw := Below.refl W4.heap.size W4
      refine wp_region_quiet_below (by kernel_rfl) (by kernel_rfl) ?_
      repeat (first | go_big_quiet_skip | quiet_step (first | exact Calls.regrown_of (toRecord_any k x v _) | exact Calls.regrown_of (ImplValidRecord_any s t bs sm wk k x v _ (SX.out _ _))))
      refine wpQuiet_nil ?_
      intro _ hw'
      obtain ⟨⟨dq, osq⟩, hw''⟩ := hw'
      subst hw''
      have b5 := bw.trans ((below_regrown W4 dq osq).mono bw.size)
      generalize grow (redrawn W4 dq) osq = w5 at b5 ⊢
      have hRR : (R != R) = false := by simp
      have X5 := Lib.hid ((X4.out).below b5)
      have A5 := Lib.hid ((A4x.out).below b5)
      have hb5 := hb4x.trans (b5.mono hb4x.size)
      have hs5 := bx.trans (b5.mono bx.size)
      clear b5 bx hb4x
      rw [HR.out]
      go_upto_region 10 with (fail)
      go_cut [32] (fun s32 wx => s32 = .bool false ∧ Below w5.heap.size w5 wx)
      case first =>
        have hbz := (Below.refl w5.heap.size w5).drew
        obtain ⟨⟨_, x0, x1, x2⟩, x3, x4, x5⟩ := X5.out
        obtain ⟨⟨_, q0, q1, q2⟩, q3, q4, q5⟩ := A5.out
        simp only [Nat.zero_add] at q0 q1 q2 q3 q4 q5 x0 x1 x2 x3 x4 x5
        go_region_with (first
          | (go_at_call 17; (with_reducible refine (toService_any s t bs sm wk _ (H1.out _ (hb5.trans (hbz.mono hb5.size))) hxl HXR.out).mono ?_); rintro e w' ⟨vx, rfl, hv, b⟩; have sx := hv.sl; have hbz := hbz.trans (b.mono hbz.size); clear hv; obtain ⟨⟨_, r0, r1, r2⟩, r3, r4, r5⟩ := X5.out.below hbz; simp only [Nat.zero_add] at r0 r1 r2 r3 r4 r5)
          | (go_at_call 19; (with_reducible refine (eqService_same s t bs sm wk _ (s4.out _ (hs5.trans (hbz.mono hs5.size))) sx).mono ?_); rintro e w' ⟨rfl, b⟩; have hbz := hbz.trans (b.mono hbz.size)))
        all_goals (go_wp2_with fail; go_meet; exact ⟨rfl, hbz⟩)
      case rest =>
        obtain ⟨rfl, hbc⟩ := hcut
        go_wp2
        go_ret
        exact ⟨rfl, hb5.trans (hbc.mono hb5.size)⟩
end Go.Proofs.Ythheijekdpboaaa
