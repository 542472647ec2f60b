/-
  Arguments of laws: boxed services.
-/
import Derived.Test.YthbbnjpadmcbmaaServiceOk
namespace Go.Proofs.Ythbbnjpadmcbmaa
open Go.RowKit Go.Sort
/-- six cells of a service given as an argument -/
def argObj (s t : Int) (v : Value) (bs sm wk : Int) : Obj := .cells #[.int .i64 s, .int .i64 t, v, .int .i64 bs, .int .i64 sm, .int .i64 wk] 26
theorem argBox (w : World) (s t : Int) (v : Value) (bs sm wk : Int) : ServAt (w.alloc (argObj s t v bs sm wk)) w.heap.size 0 s t v bs sm wk := by
  unfold argObj ServAt ChainAt
  refine ⟨⟨by simp, ?_, ?_, ?_⟩, ?_, ?_, ?_⟩ <;> simp [go_sem]
theorem szII_ok {xss : List (List Int)} {l1 : Int} (h : szII 1048576 xss = l1) (hl : ¬ l1 < 0) : xss.length ≤ 1048576 ∧ ∀ r ∈ xss, r.length ≤ 1048576 := by
  have := szII_nonneg (l := 1048576) (xss := xss) (by rw [h]; omega)
  exact ⟨by omega, fun r hr => by have := this.2.2 r hr; omega⟩
end Go.Proofs.Ythbbnjpadmcbmaa
