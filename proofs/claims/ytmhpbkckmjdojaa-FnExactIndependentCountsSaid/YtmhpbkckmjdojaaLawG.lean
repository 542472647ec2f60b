/-
  Arguments of laws: boxed graphs.
-/
import Derived.Test.YtmhpbkckmjdojaaColourL
import Derived.Test.YtmhpbkckmjdojaaGraph
import Derived.Test.YtmhpbkckmjdojaaLawI
import Derived.Test.YtmhpbkckmjdojaaMark
import Derived.Deep.RegionWith
import Derived.Deep.DeepCutAuto
namespace Go.Proofs.Ytmhpbkckmjdojaa
open Go.RowKit Go.Sort
def argGr (n : Int) (v : Value) : Obj := .cells #[.int .i64 n, v] 24
theorem argGrBox (w : World) (n : Int) (v : Value) : GraphAt (w.alloc (argGr n v)) w.heap.size 0 n v := by
  unfold argGr
  refine ⟨by simp, ?_, ?_⟩ <;> simp [go_sem]
def grObj (n : Int) (v : Value) : Obj := .cells #[.int .i64 n, v] 29
theorem grBox (w : World) (n : Int) (v : Value) : GraphAt (w.alloc (grObj n v)) w.heap.size 0 n v := by
  unfold grObj
  refine ⟨by simp, ?_, ?_⟩ <;> simp [go_sem]
theorem eqGraph_refl {u v : Value} {xss : List (List Int)} (n : Int) (w : World) (ha : SlII w u xss) (hb : SlII w v xss) :
    Calls Try.prog 12 #[.agg #[.int .i64 n, u], .agg #[.int .i64 n, v]] w fun e w' => e = .returned (.bool true) ∧ Below w.heap.size w w' :=
  (eqGraph_any n n w ha hb).mono fun e w' ⟨h, hb⟩ => ⟨by rw [h]; simp, hb⟩

set_option maxHeartbeats 400000 in
theorem markGraph_any {v : Value} {xss : List (List Int)} (n m : Int) (base B : Nat) (w : World) (hm0 : 0 ≤ m) (hm : m + sumL xss ≤ 1000000000000) (ha : OwnIIB w base B v xss) :
    Calls Try.prog 14 #[.agg #[.int .i64 n, v], .int .i64 m] w fun e w' => e = .returned (.int .i64 (m + sumL xss)) ∧ Mid base B w w' := by
  obtain ⟨a, ca, us, rfl, _⟩ := id ha.ii.sl
  have bx : Below w.heap.size w (w.alloc (grObj n (.slice a xss.length ca))) := (Below.refl _ _).alloc (Nat.le_refl _) _
  have hb := ha.below bx
  clear ha
  go_enter Try.func14, Try.ntmps14
  go_wp2_with fail
  refine (markInt64SS_any m base B _ hm0 hm hb).mono ?_
  rintro e w2 ⟨rfl, m2⟩
  go_wp2
  go_ret
  exact ⟨rfl, (Mid.of_below bx).trans m2⟩
end Go.Proofs.Ytmhpbkckmjdojaa
