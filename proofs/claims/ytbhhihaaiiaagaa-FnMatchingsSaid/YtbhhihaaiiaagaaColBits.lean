/-
  IsColouring, both sides, and the codes of graphs, colours and lists.
-/
import Derived.Test.YtbhhihaaiiaagaaColour
import Derived.Test.YtbhhihaaiiaagaaSrCol
import Derived.Test.YtbhhihaaiiaagaaSrAre
namespace Go.Proofs.Ytbhhihaaiiaagaa
open Go.RowKit Go.Sort
theorem all_false_at {p : Int → Bool} {l : List Int} {k : Nat} (h : k < l.length) (hp : p l[k] = false) : l.all p = false := by
  rw [List.all_eq_false]; exact ⟨l[k], List.getElem_mem h, by rw [hp]; simp⟩
theorem all_take_succ {p : Int → Bool} {l : List Int} {k : Nat} (h : (l.take k).all p = true) (hk : k < l.length) (hp : p l[k] = true) : (l.take (k + 1)).all p = true := by
  rw [List.take_succ_eq_append_getElem hk, List.all_append, h]; simp [hp]
def askedC (n : Int) (es : List (List Int)) (q : Int) (right : Bool) : Int := if graphOk n es = false then 1 else if inR q 1 4 = false then 2 else if right = false then 2 else 0
theorem all_any_not {l : List Int} {lo hi : Int} : (!(l.any fun c => !inR c lo hi)) = l.all fun c => inR c lo hi := by
  rw [Bool.eq_iff_iff]; simp
def codeC (n : Int) (es : List (List Int)) (q : Int) (lists : List (List Int)) : Int := if graphOk n es = false then 1 else if inR q 1 4 = false then 2 else if lists.all (fun l => colsOk n 0 (q - 1) l) = false then 2 else 0
/-- a new array with one slice in it, as a slice of slices -/
theorem slii_one {w : World} {u : Value} {xs : List Int} (hu : SlI w u xs) : SlII (w.alloc (.cells #[u] 26)) (.slice (some ⟨w.heap.size, 0, none⟩) 1 1) [xs] := by
  refine ⟨_, 1, [u], rfl, by simp, by simp [maxLen], rfl, rd_new w #[u] _, fun i hi x hx => ?_⟩
  cases i with
  | zero => simp at hx; subst hx; exact hu.below ((Below.refl _ _).alloc (Nat.le_refl _) _)
  | succ i => simp at hi
end Go.Proofs.Ytbhhihaaiiaagaa
