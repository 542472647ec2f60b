/-
  The law package's own helpers on []int64: equal, copied, marked, held.
-/
import Derived.Test.YtipkdbicijibpaaLib
namespace Go.Proofs.Ytipkdbicijibpaa
open Go.RowKit

set_option maxHeartbeats 400000 in
theorem inRange_any (x a b : Int) (w : World) :
    Calls Try.prog 70 #[.int .i64 x, .int .i64 a, .int .i64 b] w fun e w' => e = .returned (.bool (inR x a b)) ∧ w = w' := by
  go_enter Try.func70, Try.ntmps70
  go_wp2
  all_goals go_ret
  · exact ⟨rb (inR_of_le ‹_›).symm, rfl⟩
  · exact ⟨rb (inR_of_lt ‹_›).symm, rfl⟩
set_option maxHeartbeats 400000 in
theorem l00In_any (x a b : Int) (w : World) :
    Calls Try.prog 52 #[.int .i64 x, .int .i64 a, .int .i64 b] w fun e w' => e = .returned (.bool (inR x a b)) ∧ w = w' := by
  go_enter Try.func52, Try.ntmps52
  go_wp2
  all_goals go_ret
  · exact ⟨rb (inR_of_le ‹_›).symm, rfl⟩
  · exact ⟨rb (inR_of_lt ‹_›).symm, rfl⟩

theorem take_eq_succ {xs ys : List Int} {k : Nat} (ht : xs.take k = ys.take k) (hx : k < xs.length) (hy : k < ys.length) (h : xs[k] = ys[k]) : xs.take (k+1) = ys.take (k+1) := by
  rw [List.take_succ_eq_append_getElem hx, List.take_succ_eq_append_getElem hy, ht, h]
theorem ne_of_get {xs ys : List Int} {k : Nat} (hx : k < xs.length) (hy : k < ys.length) (h : ¬ xs[k] = ys[k]) : ¬ xs = ys := by
  intro e; subst e; exact h rfl

theorem fill_step {xs : List Int} {k : Nat} (h : k < xs.length) : (xs.take k ++ List.replicate (xs.length - k) 0).set k xs[k] = xs.take (k+1) ++ List.replicate (xs.length - (k+1)) 0 := by
  rw [List.set_append_right _ _ (by simp; omega), List.take_succ_eq_append_getElem h, List.append_assoc]
  congr 1
  have e : xs.length - k = (xs.length - (k+1)) + 1 := by omega
  have e2 : k - (xs.take k).length = 0 := by simp; omega
  rw [e, e2, List.replicate_succ, List.set_cons_zero]; rfl
theorem grownBy_setCell {w w' : World} {g : Nat} (h : w.grownBy w' (some g)) (i : Nat) (u : Value) : w.grownBy (w'.setCell ⟨g, i, none⟩ u) (some g) :=
  ⟨h.os, h.tape, h.output, by simpa using h.size, fun k hk hne => by
    rw [heap_setCell_other w' ⟨g, i, none⟩ k u (fun e => hne (by simp [e])), h.block k hk hne]⟩
/-- k, k+1 .. -/
def ramp (k : Int) (n : Nat) : List Int := (List.range n).map fun (i : Nat) => k + (i : Int)
theorem ramp_length (k : Int) (n : Nat) : (ramp k n).length = n := by simp [ramp]
theorem ramp_get (k : Int) (n : Nat) {i : Nat} (h : i < n) : (ramp k n)[i]'(by simp [ramp]; exact h) = k + i := by simp [ramp]
theorem mark_step {xs : List Int} {m : Int} {k : Nat} (h : k < xs.length) : (ramp m k ++ xs.drop k).set k (m + k) = ramp m (k+1) ++ xs.drop (k+1) := by
  rw [List.set_append_right _ _ (by simp [ramp])]
  have e2 : k - (ramp m k).length = 0 := by simp [ramp]
  rw [e2, List.drop_eq_getElem_cons h, List.set_cons_zero]
  simp [ramp, List.range_succ]
end Go.Proofs.Ytipkdbicijibpaa
