/-
  Draws from a seed.
-/
import Derived.Test.YtipkdbicijibpaaBase
namespace Go.Proofs.Ytipkdbicijibpaa
open Go.RowKit

def nextSeed (x : Int) : Int := (1103515245 * x + 12345) % 2147483648
def seedAt (x : Int) : Nat → Int
  | 0 => x
  | n + 1 => nextSeed (seedAt x n)
def drawsL (x total : Int) (n : Nat) : List Int := (List.range n).map fun (i : Nat) => seedAt x (i + 1) / 65536 % total
theorem drawsL_succ (x total : Int) (n : Nat) : drawsL x total (n + 1) = drawsL x total n ++ [seedAt x (n + 1) / 65536 % total] := by
  simp [drawsL, List.range_succ]
theorem drawsL_length (x total : Int) (n : Nat) : (drawsL x total n).length = n := by simp [drawsL]
theorem nextSeed_bd {x : Int} : 0 ≤ nextSeed x ∧ nextSeed x < 2147483648 := by unfold nextSeed; omega
theorem seedAt_bd {x : Int} (h0 : 0 ≤ x) (h1 : x < 2147483648) (n : Nat) : 0 ≤ seedAt x n ∧ seedAt x n < 2147483648 := by
  cases n with
  | zero => exact ⟨h0, h1⟩
  | succ n => exact nextSeed_bd

def drawsOfB (s t c : Int) : Bool := inR s 0 1000000000 && (inR t 1 60 && inR c 0 64)
def drawsOfR (s t c : Int) : List Int × Int := if drawsOfB s t c = true then (drawsL s t c.toNat, 0) else ([], 2)

end Go.Proofs.Ytipkdbicijibpaa
