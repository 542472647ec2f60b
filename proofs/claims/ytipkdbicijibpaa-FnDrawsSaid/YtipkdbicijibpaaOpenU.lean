/-
  An argument of bytes opened.
-/
import Derived.Test.YtipkdbicijibpaaOpen
namespace Go.Proofs.Ytipkdbicijibpaa
open Go.ChangeShapes Go.WideShapes Go.ChangeAt Go.RowKit Go.Joins Go.Deep
section
variable {H : Type} {enc : TypeId × Value → H} {w : World} {held : Bool}
theorem open_SlU {fuel : Nat} {ad : Option Addr} {n c : Nat} {x : DataW H × List MemPlace} (h : DataW.trod enc Try.prog w 0 (fun _ => true) held fuel 22 [.slice ad n c] = some x) : ∃ xs : List Int, xs.length = n ∧ n ≤ c ∧ c ≤ maxLen ∧ Rd w ad (xs.map (.int .u8)) ∧ ∀ x ∈ xs, 0 ≤ x ∧ x < 256 := by
  obtain ⟨ad', n', c', vs, h1, h2, h3, h4, h5, h6⟩ := open_one Try.underlying22 (by kernel_rfl) h
  simp only [Value.slice.injEq] at h1
  obtain ⟨rfl, rfl, rfl⟩ := h1
  obtain ⟨xs, rfl, hw⟩ := ints_of Try.underlying5 h6
  exact ⟨xs, by simpa using h4, h2, h3, h5, fun x hx => by have := wf_u8 (hw x hx); omega⟩
end
end Go.Proofs.Ytipkdbicijibpaa
