/-
  WindowByDraws, both sides; a search by a closure.
-/
import Derived.Test.YtipkdbicijibpaaWinOf
import Derived.Test.YtipkdbicijibpaaSearchL
namespace Go.Proofs.Ytipkdbicijibpaa
open Go.RowKit Go.Sort

set_option maxHeartbeats 400000 in
theorem isDraw_any {v : Value} {xss : List (List Int)} (s t d : Int) (w : World) (ha : SlII w v xss) (ht : 1 ≤ t) (ht2 : t ≤ 60) :
    Calls Try.prog 47 #[.agg #[.int .i64 s, .int .i64 t, v], .int .i64 d] w fun e w' => e = .returned (.bool (inR d 0 (t - 1))) ∧ Below w.heap.size w w' := by
  obtain ⟨a, ca, us, rfl, _⟩ := id ha
  clear ha
  go_enter Try.func47, Try.ntmps47
  go_wp2_with (go_at_call 70; refine (inRange_any _ _ _ _).mono ?_; rintro e w' ⟨rfl, rfl⟩)
  go_ret
  exact ⟨rfl, chBelow w s t _⟩
def drawsOk (t : Int) (draws : List Int) : Bool := decide (draws.length ≤ 64) && !(draws.any fun d => !inR d 0 (t - 1))
def winByR (s t : Int) (xss : List (List Int)) (draws : List Int) : Bool × Int × Int :=
  if chainOk s t xss = true then (if drawsOk t draws = true then (winMet (runAll xss draws xss.length), winState (runAll xss draws xss.length), 0) else (false, 0, 2)) else (false, 0, 1)
theorem winByR_no {s t : Int} {xss : List (List Int)} {d : List Int} (h : chainOk s t xss = false) : Ending.returned (.tuple #[.bool false, .int .i64 0, .int .i64 1]) = .returned (tup3 (winByR s t xss d)) := by
  unfold winByR; rw [h]; rfl
theorem winByR_rng {s t : Int} {xss : List (List Int)} {d : List Int} (h : chainOk s t xss = true) (h2 : drawsOk t d = false) : Ending.returned (.tuple #[.bool false, .int .i64 0, .int .i64 2]) = .returned (tup3 (winByR s t xss d)) := by
  unfold winByR; rw [if_pos h, h2]; rfl
theorem winByR_yes {s t : Int} {xss : List (List Int)} {d : List Int} (h : chainOk s t xss = true) (h2 : drawsOk t d = true) :
    Ending.returned (.tuple #[.bool (winMet (runAll xss d xss.length)), .int .i64 (winState (runAll xss d xss.length)), .int .i64 0]) = .returned (tup3 (winByR s t xss d)) := by
  unfold winByR; rw [if_pos h, if_pos h2]; rfl
theorem drawsOk_B {t : Int} {d : List Int} (h : drawsOk t d = true) : DrawsB t d := by
  unfold drawsOk at h
  rw [Bool.and_eq_true] at h
  have h2 := h.2
  intro x hx
  simp at h2
  have := inR_iff.1 (h2 x hx)
  omega

theorem any_take {p : Int → Bool} {l : List Int} {k : Nat} (h : (l.take k).any p = false) (hk : k < l.length) (he : p l[k] = false) : (l.take (k + 1)).any p = false := by
  rw [List.take_succ_eq_append_getElem hk, List.any_append, h]; simp [he]
theorem any_at {p : Int → Bool} {l : List Int} {k : Nat} (hk : k < l.length) (he : p l[k] = true) : l.any p = true := by
  rw [List.any_eq_true]; exact ⟨_, List.getElem_mem hk, he⟩
end Go.Proofs.Ytipkdbicijibpaa
