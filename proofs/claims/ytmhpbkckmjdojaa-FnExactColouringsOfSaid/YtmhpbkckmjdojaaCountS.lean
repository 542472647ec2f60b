/-
  CountColourings, both sides.
-/
import Derived.Test.YtmhpbkckmjdojaaAllS
namespace Go.Proofs.Ytmhpbkckmjdojaa
open Go.RowKit Go.Sort
def countR (n : Int) (es : List (List Int)) (q : Int) : Int × Int := if askedC n es q true = 0 then (((countL q.toNat n.toNat es : Nat) : Int), (0 : Int)) else (0, askedC n es q true)
theorem codeC_nil (n q : Int) (es : List (List Int)) : codeC n es q [] = askedC n es q true := by
  unfold codeC askedC
  split
  · rfl
  · split
    · rfl
    · simp
end Go.Proofs.Ytmhpbkckmjdojaa
