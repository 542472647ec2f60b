/-
  The reference's reading of a line of a journal.
-/
import Derived.Test.YthheijekdpboaaaReadRecI
namespace Go.Proofs.Ythheijekdpboaaa
open Go.RowKit Go.Sort
def ParseP (st sm : Int) (line : ByteArray) (e : Ending) : Prop :=
  ∃ r : Int × Int × Int, e = .returned (.tuple #[recV r, .bool (parseOk st sm (kindW ((cuts line 32).getD 0 ⟨#[]⟩)) (numsG ((cuts line 32).drop 1) []).1 (numsG ((cuts line 32).drop 1) []).2)]) ∧
    (parseOk st sm (kindW ((cuts line 32).getD 0 ⟨#[]⟩)) (numsG ((cuts line 32).drop 1) []).1 (numsG ((cuts line 32).drop 1) []).2 = true → r = (kindW ((cuts line 32).getD 0 ⟨#[]⟩), (numsG ((cuts line 32).drop 1) []).1.getD 0 0, (numsG ((cuts line 32).drop 1) []).1.getD 1 0))
theorem parse_len {st sm k : Int} {n : List Int} (h : ¬ (n.length = 1 ∨ n.length = 2)) : parseOk st sm k n true = false := by
  unfold parseOk
  by_cases h1 : n.length = 0
  · simp [h1]
  · have : ¬ n.length ≤ 2 := by omega
    simp [this]
theorem parse_mix {st sm k : Int} {n : List Int} (h : (n.length = 1 ∧ ¬ k = 3) ∨ (n.length = 2 ∧ k = 3)) : parseOk st sm k n true = false := by
  unfold parseOk
  rcases h with ⟨h1, h2⟩ | ⟨h1, h2⟩ <;> simp [h1, h2]
theorem parse_go {st sm k : Int} {n : List Int} (h : (n.length = 1 ∧ k = 3) ∨ (n.length = 2 ∧ ¬ k = 3)) : parseOk st sm k n true = recOk st sm k (n.getD 0 0) (n.getD 1 0) := by
  unfold parseOk
  rcases h with ⟨h1, h2⟩ | ⟨h1, h2⟩ <;> simp [h1, h2]
end Go.Proofs.Ythheijekdpboaaa
