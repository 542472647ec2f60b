/-
  Searches: plain laws.
-/
import Derived.Test.YtipkdbicijibpaaBaseII
namespace Go.Proofs.Ytipkdbicijibpaa
open Go.RowKit Go.Sort
def ixP (p : Int → Bool) : List Int → Nat → Int
  | [], _ => -1
  | x :: r, k => if p x = true then (k : Int) else ixP p r (k + 1)
theorem ixP_any (p : Int → Bool) : ∀ (l : List Int) (k : Nat), decide (0 ≤ ixP p l k) = l.any p
  | [], k => by simp [ixP]
  | x :: r, k => by
    unfold ixP
    by_cases h : p x = true
    · rw [if_pos h]; simp [h]
    · rw [if_neg h, ixP_any p r (k + 1)]; simp [h]
theorem ixP_step {p : Int → Bool} {l : List Int} {k : Nat} (h : k < l.length) : ixP p (l.drop k) k = if p l[k] = true then (k : Int) else ixP p (l.drop (k + 1)) (k + 1) := by
  rw [List.drop_eq_getElem_cons h]; rfl
theorem ixP_bd (p : Int → Bool) : ∀ (l : List Int) (k : Nat), -1 ≤ ixP p l k ∧ ixP p l k < k + l.length
  | [], k => by simp [ixP]; omega
  | x :: r, k => by
    unfold ixP
    have := ixP_bd p r (k + 1)
    split
    · simp; omega
    · simp at this ⊢; omega

def ixRow (p : List Int → Bool) : List (List Int) → Nat → Int
  | [], _ => -1
  | x :: r, k => if p x = true then (k : Int) else ixRow p r (k + 1)
theorem ixRow_any (p : List Int → Bool) : ∀ (l : List (List Int)) (k : Nat), decide (0 ≤ ixRow p l k) = l.any p
  | [], k => by simp [ixRow]
  | x :: r, k => by
    unfold ixRow
    by_cases h : p x = true
    · rw [if_pos h]; simp [h]
    · rw [if_neg h, ixRow_any p r (k + 1)]; simp [h]
theorem ixRow_step {p : List Int → Bool} {l : List (List Int)} {k : Nat} (h : k < l.length) : ixRow p (l.drop k) k = if p l[k] = true then (k : Int) else ixRow p (l.drop (k + 1)) (k + 1) := by
  rw [List.drop_eq_getElem_cons h]; rfl
theorem ixRow_bd (p : List Int → Bool) : ∀ (l : List (List Int)) (k : Nat), -1 ≤ ixRow p l k ∧ ixRow p l k < k + l.length
  | [], k => by simp [ixRow]; omega
  | x :: r, k => by
    unfold ixRow
    have := ixRow_bd p r (k + 1)
    split
    · simp; omega
    · simp at this ⊢; omega
end Go.Proofs.Ytipkdbicijibpaa
