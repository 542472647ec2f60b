/-
  Words of deeds, and which deeds are valid.
-/
import Derived.Test.YtbokklbbnaibdaaBase
namespace Go.Proofs.Ytbokklbbnaibdaa
open Go.RowKit

def wordOf (k : Int) : ByteArray :=
  if k = 1 then ⟨#[103, 105, 118, 101]⟩ else
  if k = 2 then ⟨#[119, 111, 114, 107]⟩ else
  if k = 3 then ⟨#[100, 101, 108, 105, 118, 101, 114]⟩ else
  if k = 4 then ⟨#[99, 111, 112, 121]⟩ else
  if k = 5 then ⟨#[100, 114, 111, 112]⟩ else
  if k = 6 then ⟨#[115, 121, 110, 99]⟩ else
  if k = 7 then ⟨#[111, 117, 116]⟩ else
  if k = 8 then ⟨#[99, 114, 97, 115, 104]⟩ else
  if k = 9 then ⟨#[116, 101, 97, 114]⟩ else
  if k = 10 then ⟨#[113, 117, 105, 116]⟩ else
  ⟨#[]⟩
def toldOf (k : Int) : Bool := decide (k = 1) || decide (k = 2) || decide (k = 3) || decide (k = 4) || decide (k = 5) || decide (k = 10)
def deedOk (k a : Int) : Bool := inR k 1 10 && (inR a 0 999 && (toldOf k || decide (a = 0)))
theorem kind_cases {k : Int} (h : inR k 1 10 = true) : k = 1 ∨ k = 2 ∨ k = 3 ∨ k = 4 ∨ k = 5 ∨ k = 6 ∨ k = 7 ∨ k = 8 ∨ k = 9 ∨ k = 10 := by
  have := inR_iff.1 h; omega
theorem wordOf_out {k : Int} (h : inR k 1 10 = false) : wordOf k = ⟨#[]⟩ ∧ toldOf k = false := by
  have := inR_false.1 h
  constructor
  · unfold wordOf
    repeat (rw [if_neg (by omega)])
  · simp [toldOf]; omega

theorem wordOf_ne {k : Int} (h : inR k 1 10 = true) : (wordOf k).toList.isEmpty = false ∧ (!(wordOf k).toList.isEmpty) = true := by
  rcases kind_cases h with rfl | rfl | rfl | rfl | rfl | rfl | rfl | rfl | rfl | rfl <;> simp [wordOf, ByteArray.toList_eq]
/-- the tables that the reference makes anew at each call -/
def TabS (w : World) (b : Nat) : Prop := ∀ j : Nat, 1 ≤ j → j ≤ 10 → w.cell? ⟨b, j, none⟩ = some (.string (wordOf j))
def TabB (w : World) (b : Nat) : Prop := ∀ j : Nat, 1 ≤ j → j ≤ 10 → w.cell? ⟨b, j, none⟩ = some (.bool (toldOf j))
theorem nat_cases {j : Nat} (h1 : 1 ≤ j) (h2 : j ≤ 10) : j = 1 ∨ j = 2 ∨ j = 3 ∨ j = 4 ∨ j = 5 ∨ j = 6 ∨ j = 7 ∨ j = 8 ∨ j = 9 ∨ j = 10 := by omega
end Go.Proofs.Ytbokklbbnaibdaa
