/-
  Arguments of laws: boxed graphs.
-/
import Derived.Test.YtjbjkfahfjoigaaZRowCanRecolour9
import Derived.Test.YtjbjkfahfjoigaaZRowCanRecolour4
import Derived.Deep.RegionWith
import Derived.Deep.DeepCutAuto
set_option linter.unusedVariables false
set_option linter.unusedSimpArgs false
namespace Go.Proofs.Ytjbjkfahfjoigaa
open Go.RowKit Go.Sort
def argGr (n : Int) (v : Value) : Obj := .cells #[.int .i64 n, v] 31
theorem argGrBox (w : World) (n : Int) (v : Value) : GraphAt (w.alloc (argGr n v)) w.heap.size 0 n v := by
  unfold argGr
  refine ⟨by simp, ?_, ?_⟩ <;> simp [go_sem]
def grObj (n : Int) (v : Value) : Obj := .cells #[.int .i64 n, v] 35
theorem grBox (w : World) (n : Int) (v : Value) : GraphAt (w.alloc (grObj n v)) w.heap.size 0 n v := by
  unfold grObj
  refine ⟨by simp, ?_, ?_⟩ <;> simp [go_sem]
theorem eqGraph_refl {u v : Value} {xss : List (List Int)} (n : Int) (w : World) (ha : SlII w u xss) (hb : SlII w v xss) :
    Calls Try.prog 14 #[.agg #[.int .i64 n, u], .agg #[.int .i64 n, v]] w fun e w' => e = .returned (.bool true) ∧ Below w.heap.size w w' :=
  (eqGraph_any n n w ha hb).mono fun e w' ⟨h, hb⟩ => ⟨by rw [h]; simp, hb⟩
end Go.Proofs.Ytjbjkfahfjoigaa
