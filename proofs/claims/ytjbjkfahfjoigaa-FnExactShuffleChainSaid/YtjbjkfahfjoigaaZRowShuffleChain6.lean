/-
  Bits of small numbers, as the walk writes them.
-/
import Derived.Test.YtjbjkfahfjoigaaZRowShuffleChain3
import Derived.Laws.BitsLemmas
set_option linter.unusedVariables false
set_option linter.unusedSimpArgs false
namespace Go.Proofs.Ytjbjkfahfjoigaa
open Go.RowKit
theorem wraps_i64 (n : Int) (h0 : 0 ≤ n) (h1 : n < 2 ^ 30) : IntKind.i64.wrap n = n := by rw [IntKind.wrap_i64]; omega
theorem and_one (x : Nat) (h : x < 2 ^ 30) : bits .and .i64 (x : Int) 1 = ((x % 2 : Nat) : Int) := by
  have := bits_mask .i64 30 (by decide) wraps_i64 1 (by decide) (x : Int) (by omega) (by omega)
  rw [show ((2 : Int) ^ 1 - 1) = 1 from rfl] at this
  rw [this]; simp
theorem and_clear (x : Nat) (h : x < 2 ^ 30) : bits .and .i64 (x : Int) ((x - 1 : Nat) : Int) = ((x &&& (x - 1) : Nat) : Int) :=
  (bits_nat .i64 30 (by decide) wraps_i64 x (x - 1) h (by omega)).1
theorem shr_nat (x i : Nat) (hi : i ≤ 64) : (x : Int) / 2 ^ min i 64 = ((x / 2 ^ i : Nat) : Int) := by
  rw [Nat.min_eq_left hi]; simp
end Go.Proofs.Ytjbjkfahfjoigaa
