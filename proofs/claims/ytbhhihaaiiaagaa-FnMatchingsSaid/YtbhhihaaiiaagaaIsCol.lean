/-
  IsColouring, both sides.
-/
import Derived.Test.YtbhhihaaiiaagaaColBits
namespace Go.Proofs.Ytbhhihaaiiaagaa
open Go.RowKit Go.Sort
def sameE (cs : List Int) (e : List Int) : Bool := decide (cs.getD (e.getD 0 0).toNat 0 = cs.getD (e.getD 1 0).toNat 0)
theorem properB_eq (es : List (List Int)) (cs : List Int) : properB es cs = !(es.any (sameE cs)) := rfl
theorem sameE_two {cs : List Int} {a c : Nat} (h1 : a < cs.length) (h2 : c < cs.length) : sameE cs [(a : Int), (c : Int)] = decide (cs[a] = cs[c]) := by
  simp [sameE, List.getD_eq_getElem?_getD, List.getElem?_eq_getElem h1, List.getElem?_eq_getElem h2]
theorem any_take_succL {α : Type} {p : α → Bool} {l : List α} {k : Nat} (h : (l.take k).any p = false) (hk : k < l.length) (he : p l[k] = false) : (l.take (k + 1)).any p = false := by
  rw [List.take_succ_eq_append_getElem hk, List.any_append, h]; simp [he]
theorem any_atL {α : Type} {p : α → Bool} {l : List α} {k : Nat} (hk : k < l.length) (he : p l[k] = true) : l.any p = true := by
  rw [List.any_eq_true]; exact ⟨_, List.getElem_mem hk, he⟩
def tupBI (r : Bool × Int) : Value := .tuple #[.bool r.1, .int .i64 r.2]
def isColR (n : Int) (es : List (List Int)) (q : Int) (cs : List Int) : Bool × Int :=
  let code := askedC n es q (colsOk n 0 (IntKind.i64.wrap (q - 1)) cs)
  if code = 0 then (properB es cs, 0) else (false, code)
theorem askedC_ok {n q : Int} {es : List (List Int)} {r : Bool} (h : askedC n es q r = 0) : graphOk n es = true ∧ 1 ≤ q ∧ q ≤ 4 ∧ r = true := by
  unfold askedC at h
  split at h
  · simp at h
  · rename_i h1
    split at h
    · simp at h
    · rename_i h2
      split at h
      · simp at h
      · rename_i h3
        have h2' : inR q 1 4 = true := by simpa using h2
        have := inR_iff.1 h2'
        exact ⟨by simpa using h1, this.1, this.2, by simpa using h3⟩
theorem askedC_rng {n q : Int} {es : List (List Int)} {r : Bool} : askedC n es q r = 0 ∨ askedC n es q r = 1 ∨ askedC n es q r = 2 := by
  unfold askedC
  split
  · simp
  · split
    · simp
    · split <;> simp
theorem colsOk_len {n lo hi : Int} {cs : List Int} (h : colsOk n lo hi cs = true) : (cs.length : Int) = n ∧ ∀ c ∈ cs, lo ≤ c ∧ c ≤ hi := by
  unfold colsOk at h
  rw [Bool.and_eq_true, List.all_eq_true] at h
  exact ⟨of_decide_eq_true h.2, fun c hc => inR_iff.1 (h.1 c hc)⟩
theorem codeC_one {n q : Int} {es : List (List Int)} {cs : List Int} : codeC n es q [cs] = askedC n es q (colsOk n 0 (IntKind.i64.wrap (q - 1)) cs) := by
  unfold codeC askedC
  split
  · rfl
  · split
    · rfl
    · rename_i h
      have h2' : inR q 1 4 = true := by simpa using h
      have := inR_iff.1 h2'
      rw [IntWalk.i64_in _ (by omega)]
      simp
end Go.Proofs.Ytbhhihaaiiaagaa
