/-
  Marks in graphs, held.
-/
import Derived.Test.YtbokklbbnaibdaaMarkII
import Derived.Test.YtbokklbbnaibdaaLawG
namespace Go.Proofs.Ytbokklbbnaibdaa
open Go.RowKit Go.Sort
set_option maxHeartbeats 400000 in
theorem markGraph_held {v : Value} {xss : List (List Int)} (n m : Int) (base B : Nat) (w : World) (hm0 : 0 ≤ m) (hm : m + sumL xss ≤ 1000000000000) (ha : OwnIIB w base B v xss) :
    Calls Try.prog 36 #[.agg #[.int .i64 n, v], .int .i64 m] w fun e w' => e = .returned (.int .i64 (m + sumL xss)) ∧ OwnIIB w' base B v (rampII m xss) ∧ Mid base B w w' := by
  obtain ⟨a, ca, us, rfl, _⟩ := id ha.ii.sl
  have bx : Below w.heap.size w (w.alloc (grObj n (.slice a xss.length ca))) := (Below.refl _ _).alloc (Nat.le_refl _) _
  have hb := ha.below bx
  clear ha
  go_enter Try.func36, Try.ntmps36
  go_wp2_with fail
  refine (markInt64SS_held m base B _ hm0 hm hb).mono ?_
  rintro e w2 ⟨rfl, o2, m2⟩
  have O2 := Lib.hid o2
  clear o2
  go_wp2
  go_ret
  exact ⟨rfl, O2.out, (Mid.of_below bx).trans m2⟩
set_option maxHeartbeats 400000 in
theorem heldGraph_any {v : Value} {xss : List (List Int)} (n m : Int) (w : World) (hm0 : 0 ≤ m) (hm : m + sumL xss ≤ 1000000000000) (ha : SlII w v (rampII m xss)) :
    Calls Try.prog 39 #[.agg #[.int .i64 n, v], .int .i64 m] w fun e w' => e = .returned (.int .i64 (m + sumL xss)) ∧ Below w.heap.size w w' := by
  obtain ⟨a, ca, us, rfl, _⟩ := id ha
  rw [rampII_len] at ha ⊢
  have bx : Below w.heap.size w (w.alloc (grObj n (.slice a xss.length ca))) := (Below.refl _ _).alloc (Nat.le_refl _) _
  have HA := Lib.hid (ha.below bx)
  have hq0 : ¬ m + (sumL xss : Int) < 0 := by omega
  clear ha
  go_enter Try.func39, Try.ntmps39
  go_wp2_with fail
  refine (heldInt64SS_any m _ hm0 hm HA.out).mono ?_
  rintro e w2 ⟨rfl, b2⟩
  go_wp2
  go_ret
  exact ⟨rfl, bx.trans (b2.mono bx.size)⟩
end Go.Proofs.Ytbokklbbnaibdaa
