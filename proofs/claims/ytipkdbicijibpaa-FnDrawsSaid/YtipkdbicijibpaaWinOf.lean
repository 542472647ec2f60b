/-
  WindowOf: the window of one level.
-/
import Derived.Test.YtipkdbicijibpaaLevel
import Derived.Test.YtipkdbicijibpaaServiceOk
namespace Go.Proofs.Ytipkdbicijibpaa
open Go.RowKit

def winOfR (s t : Int) (xss : List (List Int)) (seed lvl : Int) : Bool × Int × Int :=
  if chainOk s t xss = true then (if (inR seed 0 1000000000 && inR lvl 0 6) = true then (winMet (lvlRun t xss seed lvl.toNat), winState (lvlRun t xss seed lvl.toNat), 0) else (false, 0, 2)) else (false, 0, 1)
def tup3 (r : Bool × Int × Int) : Value := .tuple #[.bool r.1, .int .i64 r.2.1, .int .i64 r.2.2]
theorem winOfR_no {s t : Int} {xss : List (List Int)} {seed lvl : Int} (h : chainOk s t xss = false) : Ending.returned (.tuple #[.bool false, .int .i64 0, .int .i64 1]) = .returned (tup3 (winOfR s t xss seed lvl)) := by
  unfold winOfR; rw [h]; rfl
theorem winOfR_rng {s t : Int} {xss : List (List Int)} {seed lvl : Int} (h : chainOk s t xss = true) (h2 : (inR seed 0 1000000000 && inR lvl 0 6) = false) : Ending.returned (.tuple #[.bool false, .int .i64 0, .int .i64 2]) = .returned (tup3 (winOfR s t xss seed lvl)) := by
  unfold winOfR; rw [if_pos h, h2]; rfl
theorem winOfR_ok {s t : Int} {xss : List (List Int)} {seed : Int} {k : Nat} (h : chainOk s t xss = true) (h2 : (inR seed 0 1000000000 && inR (k : Int) 0 6) = true) :
    Ending.returned (.tuple #[.bool (winMet (lvlRun t xss seed k)), .int .i64 (winState (lvlRun t xss seed k)), .int .i64 0]) = .returned (tup3 (winOfR s t xss seed k)) := by
  unfold winOfR; rw [if_pos h, if_pos h2, Int.toNat_natCast]; rfl
