/-
  Arguments of laws: boxed services.
-/
import Derived.Test.YtipkdbicijibpaaServiceOk
namespace Go.Proofs.Ytipkdbicijibpaa
open Go.RowKit Go.Sort
theorem szII_ok {xss : List (List Int)} {l1 : Int} (h : szII 1048576 xss = l1) (hl : ¬ l1 < 0) : xss.length ≤ 1048576 ∧ ∀ r ∈ xss, r.length ≤ 1048576 := by
  have := szII_nonneg (l := 1048576) (xss := xss) (by rw [h]; omega)
  exact ⟨by omega, fun r hr => by have := this.2.2 r hr; omega⟩
end Go.Proofs.Ytipkdbicijibpaa
