/-
  Marks in graphs, held.
-/
import Derived.Test.YtbhhihaaiiaagaaMarkII
import Derived.Test.YtbhhihaaiiaagaaLawG
namespace Go.Proofs.Ytbhhihaaiiaagaa
open Go.RowKit Go.Sort
set_option maxHeartbeats 400000 in
theorem markGraph_held {v : Value} {xss : List (List Int)} (n m : Int) (base B : Nat) (w : World) (hm0 : 0 ≤ m) (hm : m + sumL xss ≤ 1000000000000) (ha : OwnIIB w base B v xss) :
    Calls Try.prog 12 #[.agg #[.int .i64 n, v], .int .i64 m] w fun e w' => e = .returned (.int .i64 (m + sumL xss)) ∧ OwnIIB w' base B v (rampII m xss) ∧ Mid base B w w' := by
  obtain ⟨a, ca, us, rfl, _⟩ := id ha.ii.sl
  have bx : Below w.heap.size w (w.alloc (grObj n (.slice a xss.length ca))) := (Below.refl _ _).alloc (Nat.le_refl _) _
  have hb := ha.below bx
  clear ha
  go_enter Try.func12, Try.ntmps12
  go_wp2_with fail
  refine (markInt64SS_held m base B _ hm0 hm hb).mono ?_
  rintro e w2 ⟨rfl, o2, m2⟩
  have O2 := Lib.hid o2
  clear o2
  go_wp2
  go_ret
  exact ⟨rfl, O2.out, (Mid.of_below bx).trans m2⟩
end Go.Proofs.Ytbhhihaaiiaagaa
