/-
  FnExactValidService: both say of each service the same, and leave it as it was.
-/
import Derived.Test.YthheijekdpboaaaServiceOk
import Derived.Deep.RegionWith
import Derived.Deep.DeepCutAuto
namespace Go.Proofs.Ythheijekdpboaaa
open Go.RowKit Go.Sort
/-- six cells of a service given as an argument -/
def argObj (s t : Int) (v : Value) (bs sm wk : Int) : Obj := .cells #[.int .i64 s, .int .i64 t, v, .int .i64 bs, .int .i64 sm, .int .i64 wk] 26
theorem argBox (w : World) (s t : Int) (v : Value) (bs sm wk : Int) : ServAt (w.alloc (argObj s t v bs sm wk)) w.heap.size 0 s t v bs sm wk := by
  unfold argObj ServAt ChainAt
  refine ⟨⟨by simp, ?_, ?_, ?_⟩, ?_, ?_, ?_⟩ <;> simp [go_sem]
theorem szII_ok {xss : List (List Int)} {l1 : Int} (h : szII 1048576 xss = l1) (hl : ¬ l1 < 0) : xss.length ≤ 1048576 ∧ ∀ r ∈ xss, r.length ≤ 1048576 := by
  have := szII_nonneg (l := 1048576) (xss := xss) (by rw [h]; omega)
  exact ⟨by omega, fun r hr => by have := this.2.2 r hr; omega⟩
set_option maxHeartbeats 2000000 in
theorem FnExactValidService_walk {u : Value} {xss : List (List Int)} (s t bs sm wk : Int) (w : World) (ha : SlII w u xss) :
    Calls Try.prog 3 #[.agg #[.int .i64 s, .int .i64 t, u, .int .i64 bs, .int .i64 sm, .int .i64 wk]] w fun e w' => e = .returned (.bool true) ∧ Below w.heap.size w w' := by
  have bb : Below w.heap.size w (w.alloc (argObj s t u bs sm wk)) := (Below.refl _ _).alloc (Nat.le_refl _) _
  have hA := argBox w s t u bs sm wk
  obtain ⟨a, ca, us, rfl, _⟩ := id ha
  have H1 := Lib.hid (fun W (h : Below w.heap.size w W) => ha.below h)
  have HA := Lib.hid hA
  clear ha hA
  have hr1 := szII_range 1048576 xss (by omega)
  generalize hz1 : szII 1048576 xss = l1 at hr1
  have HZ1 := Lib.hid hz1
  clear hz1
  go_enter Try.func3, Try.ntmps3
  go_wp2_with fail
  refine (szService_any s t bs sm wk 1048576 _ (H1.out _ bb) (by omega) (by omega)).mono ?_
  rintro e w1 ⟨rfl, b1⟩
  rw [HZ1.out]
  have hb1 := bb.trans (b1.mono (by simp <;> omega))
  have z1 : w.heap.size < w1.heap.size := by have := b1.size; simp at this; omega
  have A1 := Lib.hid ((HA.out).below b1)
  obtain ⟨⟨_, q0, q1, q2⟩, q3, q4, q5⟩ := A1.out
  simp only [Nat.zero_add] at q0 q1 q2 q3 q4 q5
  clear b1
  by_cases hl1 : l1 < 0
  · go_wp2
    go_ret
    exact ⟨rfl, hb1⟩
  · obtain ⟨hxl, hxr⟩ := szII_ok HZ1.out hl1
    have HXR := Lib.hid hxr
    clear hxr
    go_wp2_with fail
    refine (toService_any s t bs sm wk _ (H1.out _ hb1) hxl HXR.out).mono ?_
    rintro e w2 ⟨v2, rfl, o2, b2⟩
    have s2 := o2.sl
    obtain ⟨a2, c2, us2, rfl, _⟩ := id s2
    clear o2
    go_wp2_with fail
    refine (SpecValidService_any s t bs sm wk _ s2).mono ?_
    rintro e w3 ⟨rfl, b3⟩
    have b13 := b2.trans (b3.mono b2.size)
    have z3 : w.heap.size < w3.heap.size := by have := b13.size; omega
    have hb3 := hb1.trans (b13.mono hb1.size)
    generalize hR : serviceOk s t xss bs sm wk = R
    have HR := Lib.hid hR
    have A3 := Lib.hid ((A1.out).below b13)
    clear hR b2 b3 s2 q0 q1 q2 q3 q4 q5
    obtain ⟨⟨_, q0, q1, q2⟩, q3, q4, q5⟩ := A3.out
    simp only [Nat.zero_add] at q0 q1 q2 q3 q4 q5
    go_wp2_with fail
    refine (toService_any s t bs sm wk _ (H1.out _ hb3) hxl HXR.out).mono ?_
    rintro e w4 ⟨v4, rfl, o4, b4⟩
    have s4 := Lib.hid (fun W (h : Below w4.heap.size w4 W) => o4.sl.below h)
    obtain ⟨a4, c4, us4, rfl, _⟩ := id o4.sl
    have hb4 := hb3.trans (b4.mono hb3.size)
    have A4 := Lib.hid ((A3.out).below b4)
    have bx : Below w4.heap.size w4 (w4.alloc (svObj s t (.slice a4 xss.length c4) bs sm wk)) := (Below.refl _ _).alloc (Nat.le_refl _) _
    have X4 := Lib.hid (svBox w4 s t (.slice a4 xss.length c4) bs sm wk)
    have hb4x := hb4.trans (bx.mono hb4.size)
    have A4x := Lib.hid ((A4.out).below bx)
    clear o4 q0 q1 q2 q3 q4 q5 b4
    go_wp2_with fail
    refine (ImplValidService_any s t bs sm wk _ (s4.out _ bx)).mono ?_
    rintro e w5 ⟨rfl, b5⟩
    rw [HR.out]
    have hRR : (R != R) = false := by simp
    have X5 := Lib.hid ((X4.out).below b5)
    have A5 := Lib.hid ((A4x.out).below b5)
    have hb5 := hb4x.trans (b5.mono hb4x.size)
    have hs5 := bx.trans (b5.mono bx.size)
    have z5 : w.heap.size < w5.heap.size := A5.out.1.1
    have y5 : w4.heap.size < w5.heap.size := X5.out.1.1
    clear b5 bx hb4x
    go_upto_region 10 with (fail)
    go_cut [26] (fun s26 wx => s26 = .bool false ∧ Below w5.heap.size w5 wx)
    case first =>
      have hbz := (Below.refl w5.heap.size w5).drew
      obtain ⟨⟨_, x0, x1, x2⟩, x3, x4, x5⟩ := X5.out
      obtain ⟨⟨_, q0, q1, q2⟩, q3, q4, q5⟩ := A5.out
      simp only [Nat.zero_add] at q0 q1 q2 q3 q4 q5 x0 x1 x2 x3 x4 x5
      go_region_with (first
        | (go_at_call 17; (with_reducible refine (toService_any s t bs sm wk _ (H1.out _ (hb5.trans (hbz.mono hb5.size))) hxl HXR.out).mono ?_); rintro e w' ⟨vx, rfl, hv, b⟩; have sx := hv.sl; have hbz := hbz.trans (b.mono hbz.size); clear hv; obtain ⟨⟨_, r0, r1, r2⟩, r3, r4, r5⟩ := X5.out.below hbz; simp only [Nat.zero_add] at r0 r1 r2 r3 r4 r5)
        | (go_at_call 19; (with_reducible refine (eqService_same s t bs sm wk _ (s4.out _ (hs5.trans (hbz.mono hs5.size))) sx).mono ?_); rintro e w' ⟨rfl, b⟩; have hbz := hbz.trans (b.mono hbz.size)))
      all_goals (go_wp2_with fail; go_meet; exact ⟨rfl, hbz⟩)
    case rest =>
      obtain ⟨rfl, hbc⟩ := hcut
      go_wp2
      go_ret
      exact ⟨rfl, hb5.trans (hbc.mono hb5.size)⟩
end Go.Proofs.Ythheijekdpboaaa
