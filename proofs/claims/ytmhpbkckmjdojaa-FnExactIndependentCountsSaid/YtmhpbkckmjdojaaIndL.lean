/-
  The independent sets as bits of a number, and their counts by size: plain part.
-/
import Derived.Test.YtmhpbkckmjdojaaIndep
import Derived.Test.YtmhpbkckmjdojaaStep
namespace Go.Proofs.Ytmhpbkckmjdojaa
open Go.RowKit Go.Sort
theorem pow2_le {L : Nat} (h : L ≤ 25) : 2 ^ L ≤ 33554432 := Nat.le_trans (Nat.pow_le_pow_right (by decide) h) (by decide)
/-- the numbers below k that are bits of x -/
def setK (x k : Nat) : List Int := (upTo k).filter fun i => x / 2 ^ i.toNat % 2 == 1
theorem setK_yes {x k : Nat} (h : x / 2 ^ k % 2 = 1) : setK x (k + 1) = setK x k ++ [(k : Int)] := by
  unfold setK; rw [upTo_succ, List.filter_append]; simp [h]
theorem setK_no {x k : Nat} (h : x / 2 ^ k % 2 = 0) : setK x (k + 1) = setK x k := by
  unfold setK; rw [upTo_succ, List.filter_append]; simp [h]
theorem setK_len (x k : Nat) : (setK x k).length ≤ k := by
  unfold setK; refine Nat.le_trans (List.length_filter_le _ _) ?_; rw [upTo_length]; exact Nat.le_refl _
/-- the independent sets of the numbers below N -/
def indN (m : Nat) (es : List (List Int)) : Nat → List (List Int)
  | 0 => []
  | x + 1 => if indepB es (setK x m) = true then indN m es x ++ [setK x m] else indN m es x
theorem indN_yes {m : Nat} {es : List (List Int)} {x : Nat} (h : indepB es (setK x m) = true) : indN m es (x + 1) = indN m es x ++ [setK x m] := by
  conv => lhs; unfold indN
  rw [if_pos h]
theorem indN_no {m : Nat} {es : List (List Int)} {x : Nat} (h : indepB es (setK x m) = false) : indN m es (x + 1) = indN m es x := by
  conv => lhs; unfold indN
  rw [if_neg (by rw [h]; simp)]
theorem indN_len (m : Nat) (es : List (List Int)) : ∀ N, (indN m es N).length ≤ N
  | 0 => by simp [indN]
  | N + 1 => by
    have := indN_len m es N
    unfold indN
    split <;> simp <;> omega
theorem indN_mem {m : Nat} {es : List (List Int)} {s : List Int} : ∀ N, s ∈ indN m es N → ∃ x, x < N ∧ s = setK x m ∧ indepB es s = true
  | 0, h => by simp [indN] at h
  | N + 1, h => by
    unfold indN at h
    split at h
    · rename_i hi
      simp only [List.mem_append, List.mem_singleton] at h
      rcases h with h | h
      · obtain ⟨x, h1, h2⟩ := indN_mem N h
        exact ⟨x, by omega, h2⟩
      · subst h; exact ⟨N, by omega, rfl, hi⟩
    · obtain ⟨x, h1, h2⟩ := indN_mem N h
      exact ⟨x, by omega, h2⟩
def bump (out : List Int) (s : List Int) : List Int := out.set s.length (out.getD s.length 0 + 1)
def cntL (L : Nat) (ss : List (List Int)) : List Int := ss.foldl bump (List.replicate L 0)
theorem cntL_snoc (L : Nat) (ss : List (List Int)) (s : List Int) : cntL L (ss ++ [s]) = bump (cntL L ss) s := by simp [cntL]
theorem cntL_take {L : Nat} {ss : List (List Int)} {k : Nat} (h : k < ss.length) : cntL L (ss.take (k + 1)) = bump (cntL L (ss.take k)) ss[k] := by
  rw [List.take_succ_eq_append_getElem h, cntL_snoc]
theorem foldl_bump_len : ∀ (ss : List (List Int)) (o : List Int), (ss.foldl bump o).length = o.length
  | [], _ => rfl
  | s :: r, o => by rw [List.foldl_cons, foldl_bump_len r]; simp [bump]
theorem cntL_len (L : Nat) (ss : List (List Int)) : (cntL L ss).length = L := by unfold cntL; rw [foldl_bump_len]; simp
theorem foldl_bump_rng (g : Nat) : ∀ (ss : List (List Int)) (o : List Int), o.getD g 0 ≤ (ss.foldl bump o).getD g 0 ∧ (ss.foldl bump o).getD g 0 ≤ o.getD g 0 + ss.length
  | [], _ => by simp
  | s :: r, o => by
    rw [List.foldl_cons]
    have ih := foldl_bump_rng g r (bump o s)
    have : o.getD g 0 ≤ (bump o s).getD g 0 ∧ (bump o s).getD g 0 ≤ o.getD g 0 + 1 := by
      unfold bump
      simp only [List.getD_eq_getElem?_getD, List.getElem?_set]
      split
      · rename_i hs
        subst hs
        split
        · simp; omega
        · rename_i hl; rw [List.getElem?_eq_none (by omega)]; simp
      · omega
    simp only [List.length_cons]
    omega
theorem cntL_rng (L : Nat) (ss : List (List Int)) (g : Nat) : 0 ≤ (cntL L ss).getD g 0 ∧ (cntL L ss).getD g 0 ≤ ss.length := by
  have := foldl_bump_rng g ss (List.replicate L 0)
  have h0 : (List.replicate L (0 : Int)).getD g 0 = 0 := by
    rw [List.getD_eq_getElem?_getD, List.getElem?_replicate]
    split <;> rfl
  rw [h0] at this
  unfold cntL
  omega
end Go.Proofs.Ytmhpbkckmjdojaa
