/-
  Arguments of laws: boxed chains.
-/
import Derived.Test.YtpmabnohdabbdaaZRowStepPaths5
import Derived.Deep.RegionWith
import Derived.Deep.DeepCutAuto
set_option linter.unusedVariables false
set_option linter.unusedSimpArgs false
namespace Go.Proofs.Ytpmabnohdabbdaa
open Go.RowKit Go.Sort
def argCh (s t : Int) (v : Value) : Obj := .cells #[.int .i64 s, .int .i64 t, v] 33
theorem argChBox (w : World) (s t : Int) (v : Value) : ChainAt (w.alloc (argCh s t v)) w.heap.size 0 s t v := by
  unfold argCh ChainAt
  refine ⟨by simp, ?_, ?_, ?_⟩ <;> simp [go_sem]
theorem eqChain_refl {u v : Value} {xss : List (List Int)} (s t : Int) (w : World) (ha : SlII w u xss) (hb : SlII w v xss) :
    Calls Try.prog 19 #[.agg #[.int .i64 s, .int .i64 t, u], .agg #[.int .i64 s, .int .i64 t, v]] w fun e w' => e = .returned (.bool true) ∧ Below w.heap.size w w' :=
  (eqChain_any s t s t w ha hb).mono fun e w' ⟨h, hb⟩ => ⟨by rw [h]; simp [chSame], hb⟩
end Go.Proofs.Ytpmabnohdabbdaa
