/-
  A window of one level: draws of the seed, then the window.
-/
import Derived.Test.YtipkdbicijibpaaWindow
import Derived.Test.YtipkdbicijibpaaAllSame
import Derived.Test.YtipkdbicijibpaaDraws
import Derived.Deep.RegionWith
import Derived.Deep.DeepCutAuto
namespace Go.Proofs.Ytipkdbicijibpaa
open Go.RowKit

theorem drawsL_B {x t : Int} {n : Nat} (ht : 1 ≤ t) : DrawsB t (drawsL x t n) := by
  intro d hd
  unfold drawsL at hd
  rw [List.mem_map] at hd
  obtain ⟨i, _, rfl⟩ := hd
  exact ⟨Int.emod_nonneg _ (by omega), Int.emod_lt_of_pos _ (by omega)⟩

/-- the states after the draws of one level -/
def lvlRun (t : Int) (xss : List (List Int)) (seed : Int) (k : Nat) : List Int := runAll xss (drawsL seed t (2 ^ k)) xss.length

/-- the count of draws of a level -/
def lvlN (k : Int) : Int := 2 ^ k.toNat
theorem lvl_cases {P : Int → Int → Nat → Prop} (h0 : P 0 1 0) (h1 : P 1 2 1) (h2 : P 2 4 2) (h3 : P 3 8 3) (h4 : P 4 16 4) (h5 : P 5 32 5) (h6 : P 6 64 6) {k : Nat} (hk : k ≤ 6) : P k (2 ^ k : Nat) k := by
  rcases (by omega : k = 0 ∨ k = 1 ∨ k = 2 ∨ k = 3 ∨ k = 4 ∨ k = 5 ∨ k = 6) with rfl | rfl | rfl | rfl | rfl | rfl | rfl <;> assumption

theorem at1 : (1 : Int) = ((1 : Nat) : Int) := rfl
theorem at2 : (2 : Int) = ((2 : Nat) : Int) := rfl
theorem at4 : (4 : Int) = ((4 : Nat) : Int) := rfl
theorem at8 : (8 : Int) = ((8 : Nat) : Int) := rfl
theorem at16 : (16 : Int) = ((16 : Nat) : Int) := rfl
theorem at32 : (32 : Int) = ((32 : Nat) : Int) := rfl
theorem at64 : (64 : Int) = ((64 : Nat) : Int) := rfl
theorem lvl1 (t : Int) (xss : List (List Int)) (seed : Int) : runAll xss (drawsL seed t 1) xss.length = lvlRun t xss seed 0 := rfl
theorem lvl2 (t : Int) (xss : List (List Int)) (seed : Int) : runAll xss (drawsL seed t 2) xss.length = lvlRun t xss seed 1 := rfl
theorem lvl4 (t : Int) (xss : List (List Int)) (seed : Int) : runAll xss (drawsL seed t 4) xss.length = lvlRun t xss seed 2 := rfl
theorem lvl8 (t : Int) (xss : List (List Int)) (seed : Int) : runAll xss (drawsL seed t 8) xss.length = lvlRun t xss seed 3 := rfl
theorem lvl16 (t : Int) (xss : List (List Int)) (seed : Int) : runAll xss (drawsL seed t 16) xss.length = lvlRun t xss seed 4 := rfl
theorem lvl32 (t : Int) (xss : List (List Int)) (seed : Int) : runAll xss (drawsL seed t 32) xss.length = lvlRun t xss seed 5 := rfl
theorem lvl64 (t : Int) (xss : List (List Int)) (seed : Int) : runAll xss (drawsL seed t 64) xss.length = lvlRun t xss seed 6 := rfl