/-
  WindowByDraws, both sides; a search by a closure. With it: A window of one level: draws of the seed, then the window. WindowOf: the window of one level.
-/
import Derived.Test.YtceobhmbnkheiaaZRowFnMaps8
import Derived.Test.YtceobhmbnkheiaaZRowFnMaps3
import Derived.Deep.RegionWith
import Derived.Deep.DeepCutAuto
import Derived.Test.YtceobhmbnkheiaaZRowFnMaps4
set_option linter.unusedVariables false
set_option linter.unusedSimpArgs false
namespace Go.Proofs.Ytceobhmbnkheiaa
open Go.RowKit

theorem drawsL_B {x t : Int} {n : Nat} (ht : 1 ≤ t) : DrawsB t (drawsL x t n) := by
  intro d hd
  unfold drawsL at hd
  rw [List.mem_map] at hd
  obtain ⟨i, _, rfl⟩ := hd
  exact ⟨Int.emod_nonneg _ (by omega), Int.emod_lt_of_pos _ (by omega)⟩

/-- the states after the draws of one level -/
def lvlRun (t : Int) (xss : List (List Int)) (seed : Int) (k : Nat) : List Int := runAll xss (drawsL seed t (2 ^ k)) xss.length

/-- the count of draws of a level -/
def lvlN (k : Int) : Int := 2 ^ k.toNat
theorem lvl_cases {P : Int → Int → Nat → Prop} (h0 : P 0 1 0) (h1 : P 1 2 1) (h2 : P 2 4 2) (h3 : P 3 8 3) (h4 : P 4 16 4) (h5 : P 5 32 5) (h6 : P 6 64 6) {k : Nat} (hk : k ≤ 6) : P k (2 ^ k : Nat) k := by
  rcases (by omega : k = 0 ∨ k = 1 ∨ k = 2 ∨ k = 3 ∨ k = 4 ∨ k = 5 ∨ k = 6) with rfl | rfl | rfl | rfl | rfl | rfl | rfl <;> assumption

theorem at1 : (1 : Int) = ((1 : Nat) : Int) := rfl
theorem at2 : (2 : Int) = ((2 : Nat) : Int) := rfl
theorem at4 : (4 : Int) = ((4 : Nat) : Int) := rfl
theorem at8 : (8 : Int) = ((8 : Nat) : Int) := rfl
theorem at16 : (16 : Int) = ((16 : Nat) : Int) := rfl
theorem at32 : (32 : Int) = ((32 : Nat) : Int) := rfl
theorem at64 : (64 : Int) = ((64 : Nat) : Int) := rfl
theorem lvl1 (t : Int) (xss : List (List Int)) (seed : Int) : runAll xss (drawsL seed t 1) xss.length = lvlRun t xss seed 0 := rfl
theorem lvl2 (t : Int) (xss : List (List Int)) (seed : Int) : runAll xss (drawsL seed t 2) xss.length = lvlRun t xss seed 1 := rfl
theorem lvl4 (t : Int) (xss : List (List Int)) (seed : Int) : runAll xss (drawsL seed t 4) xss.length = lvlRun t xss seed 2 := rfl
theorem lvl8 (t : Int) (xss : List (List Int)) (seed : Int) : runAll xss (drawsL seed t 8) xss.length = lvlRun t xss seed 3 := rfl
theorem lvl16 (t : Int) (xss : List (List Int)) (seed : Int) : runAll xss (drawsL seed t 16) xss.length = lvlRun t xss seed 4 := rfl
theorem lvl32 (t : Int) (xss : List (List Int)) (seed : Int) : runAll xss (drawsL seed t 32) xss.length = lvlRun t xss seed 5 := rfl
theorem lvl64 (t : Int) (xss : List (List Int)) (seed : Int) : runAll xss (drawsL seed t 64) xss.length = lvlRun t xss seed 6 := rfl
end Go.Proofs.Ytceobhmbnkheiaa
namespace Go.Proofs.Ytceobhmbnkheiaa
open Go.RowKit

def winOfR (s t : Int) (xss : List (List Int)) (seed lvl : Int) : Bool × Int × Int :=
  if chainOk s t xss = true then (if (inR seed 0 1000000000 && inR lvl 0 6) = true then (winMet (lvlRun t xss seed lvl.toNat), winState (lvlRun t xss seed lvl.toNat), 0) else (false, 0, 2)) else (false, 0, 1)
def tup3 (r : Bool × Int × Int) : Value := .tuple #[.bool r.1, .int .i64 r.2.1, .int .i64 r.2.2]
theorem winOfR_no {s t : Int} {xss : List (List Int)} {seed lvl : Int} (h : chainOk s t xss = false) : Ending.returned (.tuple #[.bool false, .int .i64 0, .int .i64 1]) = .returned (tup3 (winOfR s t xss seed lvl)) := by
  unfold winOfR; rw [h]; rfl
theorem winOfR_rng {s t : Int} {xss : List (List Int)} {seed lvl : Int} (h : chainOk s t xss = true) (h2 : (inR seed 0 1000000000 && inR lvl 0 6) = false) : Ending.returned (.tuple #[.bool false, .int .i64 0, .int .i64 2]) = .returned (tup3 (winOfR s t xss seed lvl)) := by
  unfold winOfR; rw [if_pos h, h2]; rfl
theorem winOfR_ok {s t : Int} {xss : List (List Int)} {seed : Int} {k : Nat} (h : chainOk s t xss = true) (h2 : (inR seed 0 1000000000 && inR (k : Int) 0 6) = true) :
    Ending.returned (.tuple #[.bool (winMet (lvlRun t xss seed k)), .int .i64 (winState (lvlRun t xss seed k)), .int .i64 0]) = .returned (tup3 (winOfR s t xss seed k)) := by
  unfold winOfR; rw [if_pos h, if_pos h2, Int.toNat_natCast]; rfl
end Go.Proofs.Ytceobhmbnkheiaa
namespace Go.Proofs.Ytceobhmbnkheiaa
open Go.RowKit Go.Sort

def drawsOk (t : Int) (draws : List Int) : Bool := decide (draws.length ≤ 64) && !(draws.any fun d => !inR d 0 (t - 1))
def winByR (s t : Int) (xss : List (List Int)) (draws : List Int) : Bool × Int × Int :=
  if chainOk s t xss = true then (if drawsOk t draws = true then (winMet (runAll xss draws xss.length), winState (runAll xss draws xss.length), 0) else (false, 0, 2)) else (false, 0, 1)
theorem winByR_no {s t : Int} {xss : List (List Int)} {d : List Int} (h : chainOk s t xss = false) : Ending.returned (.tuple #[.bool false, .int .i64 0, .int .i64 1]) = .returned (tup3 (winByR s t xss d)) := by
  unfold winByR; rw [h]; rfl
theorem winByR_rng {s t : Int} {xss : List (List Int)} {d : List Int} (h : chainOk s t xss = true) (h2 : drawsOk t d = false) : Ending.returned (.tuple #[.bool false, .int .i64 0, .int .i64 2]) = .returned (tup3 (winByR s t xss d)) := by
  unfold winByR; rw [if_pos h, h2]; rfl
theorem winByR_yes {s t : Int} {xss : List (List Int)} {d : List Int} (h : chainOk s t xss = true) (h2 : drawsOk t d = true) :
    Ending.returned (.tuple #[.bool (winMet (runAll xss d xss.length)), .int .i64 (winState (runAll xss d xss.length)), .int .i64 0]) = .returned (tup3 (winByR s t xss d)) := by
  unfold winByR; rw [if_pos h, if_pos h2]; rfl
theorem drawsOk_B {t : Int} {d : List Int} (h : drawsOk t d = true) : DrawsB t d := by
  unfold drawsOk at h
  rw [Bool.and_eq_true] at h
  have h2 := h.2
  intro x hx
  simp at h2
  have := inR_iff.1 (h2 x hx)
  omega

theorem any_take {p : Int → Bool} {l : List Int} {k : Nat} (h : (l.take k).any p = false) (hk : k < l.length) (he : p l[k] = false) : (l.take (k + 1)).any p = false := by
  rw [List.take_succ_eq_append_getElem hk, List.any_append, h]; simp [he]
theorem any_at {p : Int → Bool} {l : List Int} {k : Nat} (hk : k < l.length) (he : p l[k] = true) : l.any p = true := by
  rw [List.any_eq_true]; exact ⟨_, List.getElem_mem hk, he⟩
end Go.Proofs.Ytceobhmbnkheiaa
