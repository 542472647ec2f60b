/-
  ChangeSet: plain part.
-/
import Derived.Test.YtpmabnohdabbdaaZRowStepPaths11
import Derived.Test.YtpmabnohdabbdaaZRowStepPaths10
import Derived.Test.YtpmabnohdabbdaaZRowStepPaths12
set_option linter.unusedVariables false
set_option linter.unusedSimpArgs false
namespace Go.Proofs.Ytpmabnohdabbdaa
open Go.RowKit Go.Sort
/-- a number put into a list that rises -/
def putL (n : Int) : List Int → List Int
  | [] => [n]
  | x :: r => if x < n then x :: putL n r else if x = n then x :: r else n :: x :: r
theorem putL_low {n : Int} : ∀ {l : List Int}, (∀ y ∈ l, y < n) → putL n l = l ++ [n]
  | [], _ => rfl
  | x :: r, h => by
    unfold putL
    rw [if_pos (h x (by simp)), putL_low (fun y hy => h y (by simp [hy]))]; rfl
theorem putL_at {n : Int} : ∀ {a b : List Int}, (∀ y ∈ a, y < n) → (∀ y ∈ b, n < y) → putL n (a ++ b) = a ++ n :: b
  | [], [], _, _ => rfl
  | [], x :: r, _, h => by
    have := h x (by simp)
    simp only [List.nil_append]
    unfold putL
    rw [if_neg (by omega), if_neg (by omega)]
  | x :: r, b, h, hb => by
    rw [List.cons_append]
    unfold putL
    rw [if_pos (h x (by simp)), putL_at (fun y hy => h y (by simp [hy])) hb]; rfl
theorem putL_more {n x : Int} : ∀ {l : List Int}, (∃ y ∈ l, n ≤ y) → putL n (l ++ [x]) = putL n l ++ [x]
  | [], h => by obtain ⟨y, hy, _⟩ := h; simp at hy
  | z :: r, h => by
    rw [List.cons_append]
    unfold putL
    by_cases hz : z < n
    · rw [if_pos hz, if_pos hz, putL_more (by
        obtain ⟨y, hy, hn⟩ := h
        simp only [List.mem_cons] at hy
        rcases hy with rfl | hy
        · omega
        · exact ⟨y, hy, hn⟩)]; rfl
    · rw [if_neg hz, if_neg hz]
      split <;> rfl
theorem putL_gt {n x : Int} {l : List Int} (h : ∀ y ∈ l, y < n) (hx : n < x) : putL n (l ++ [x]) = l ++ [n, x] := by
  rw [putL_at h (by simpa using hx)]
theorem putL_eq {n : Int} : ∀ {l : List Int}, (∀ y ∈ l, y < n) → putL n (l ++ [n]) = l ++ [n]
  | [], _ => by simp [putL]
  | z :: r, h => by
    rw [List.cons_append]
    unfold putL
    rw [if_pos (h z (by simp)), putL_eq (fun y hy => h y (by simp [hy]))]
theorem putL_len (n : Int) : ∀ l : List Int, (putL n l).length ≤ l.length + 1
  | [] => by simp [putL]
  | x :: r => by
    have := putL_len n r
    unfold putL
    split
    · simp; omega
    · split <;> simp
theorem riseN_pair {lo hi : Int} {e : List Int} : ∀ {k : Nat}, k ≤ e.length → riseN lo hi e k = true → (e.take k).Pairwise (· < ·) ∧ (∀ y ∈ e.take k, lo ≤ y ∧ y ≤ hi) ∧ (∀ y ∈ e.take k, k ≠ 0 → y ≤ e.getD (k - 1) 0)
  | 0, _, _ => by simp
  | k + 1, hk, h => by
    unfold riseN at h
    rw [Bool.and_eq_true, Bool.and_eq_true] at h
    obtain ⟨h1, h2, h3⟩ := riseN_pair (by omega) h.1
    have hr := inR_iff.1 h.2.1
    have ht : e.take (k + 1) = e.take k ++ [e.getD k 0] := by rw [List.take_succ_eq_append_getElem (by omega), getD_at (by omega)]
    have hlt : ∀ y ∈ e.take k, y < e.getD k 0 := by
      intro y hy
      have hk0 : k ≠ 0 := by intro h; subst h; simp at hy
      have := h3 y hy hk0
      have h4 := h.2.2
      rw [decide_eq_false hk0, Bool.false_or, decide_eq_true_eq] at h4
      omega
    rw [ht]
    refine ⟨?_, ?_, ?_⟩
    · rw [List.pairwise_append]
      refine ⟨h1, by simp, fun y hy z hz => ?_⟩
      simp only [List.mem_singleton] at hz
      subst hz
      exact hlt y hy
    · intro y hy
      simp only [List.mem_append, List.mem_singleton] at hy
      rcases hy with hy | rfl
      · exact h2 y hy
      · exact hr
    · intro y hy _
      rw [Nat.add_sub_cancel]
      simp only [List.mem_append, List.mem_singleton] at hy
      rcases hy with hy | rfl
      · have := hlt y hy; omega
      · omega
theorem rise_all {lo hi : Int} {e : List Int} (h : riseN lo hi e e.length = true) : e.Pairwise (· < ·) ∧ ∀ y ∈ e, lo ≤ y ∧ y ≤ hi := by
  have := riseN_pair (Nat.le_refl _) h
  rw [List.take_length] at this
  exact ⟨this.1, this.2.1⟩
theorem rise_len {m : Nat} {e : List Int} (h : riseN 0 ((m : Int) - 1) e e.length = true) : e.length ≤ m := by
  have ⟨h1, h2⟩ := rise_all h
  have key : ∀ (l : List Int) (lo : Nat), l.Pairwise (· < ·) → (∀ y ∈ l, (lo : Int) ≤ y ∧ y < m) → lo + l.length ≤ max lo m := by
    intro l
    induction l with
    | nil => intro lo _ _; simp; omega
    | cons x r ih =>
      intro lo hp hb
      rw [List.pairwise_cons] at hp
      have hx := hb x (by simp)
      obtain ⟨a, rfl⟩ := Int.eq_ofNat_of_zero_le (show 0 ≤ x by omega)
      have := ih (a + 1) hp.2 (fun y hy => by
        have := hp.1 y hy
        have := hb y (by simp [hy])
        omega)
      simp only [List.length_cons]
      omega
  have := key e 0 h1 (fun y hy => by have := h2 y hy; omega)
  omega
/-- a rising list parted by a number that is not in it -/
theorem rise_cut {n : Int} {l : List Int} (h : l.Pairwise (· < ·)) {k : Nat} (hk : k < l.length) (hn : n < l[k]) : ∀ y ∈ l.drop k, n < y := by
  intro y hy
  rw [List.drop_eq_getElem_cons hk, List.mem_cons] at hy
  rcases hy with rfl | hy
  · exact hn
  · obtain ⟨i, hi, rfl⟩ := List.getElem_of_mem hy
    rw [List.getElem_drop]
    have := List.pairwise_iff_getElem.1 h k (k + 1 + i) hk (by simp at hi; omega) (by omega)
    omega
theorem rise_low {n : Int} {l : List Int} (h : l.Pairwise (· < ·)) {k : Nat} (hk : k < l.length) (hn : l[k] < n) : ∀ y ∈ l.take (k + 1), y < n := by
  intro y hy
  obtain ⟨i, hi, rfl⟩ := List.getElem_of_mem hy
  rw [List.getElem_take]
  simp only [List.length_take] at hi
  by_cases e : i = k
  · subst e; exact hn
  · have := List.pairwise_iff_getElem.1 h i k (by omega) hk (by omega)
    omega
def dropN (set : List Int) (node : Int) : List Int := set.filter fun x => !decide (x = node)
/-- a neighbour of the node is in the set -/
def blockB (es : List (List Int)) (set : List Int) (node : Int) : Bool := (neighL es node).any fun o => decide (o ∈ set)
def nearAny (es : List (List Int)) (l : List Int) (node : Int) : Bool := l.any fun o => nearB es node o
theorem block_law {m : Nat} {es : List (List Int)} {set : List Int} {node : Int} (hE : EdgesB m es) : blockB es set node = nearAny es (dropN set node) node := by
  have hmem : ∀ o, o ∈ neighL es node ↔ nearB es node o = true := by
    intro o
    unfold neighL nearB
    rw [List.mem_flatMap, List.any_eq_true]
    constructor
    · rintro ⟨e, he, ho⟩
      obtain ⟨p, q, rfl, hpq, _⟩ := hE e he
      exact ⟨_, he, (neighE_mem hpq).1 ho⟩
    · rintro ⟨e, he, ho⟩
      obtain ⟨p, q, rfl, hpq, _⟩ := hE e he
      exact ⟨_, he, (neighE_mem hpq).2 ho⟩
  have hself : nearB es node node = false := by
    unfold nearB
    rw [List.any_eq_false]
    intro e he h
    obtain ⟨p, q, rfl, hpq, _⟩ := hE e he
    rw [nearE_two] at h
    simp at h
    omega
  unfold blockB nearAny dropN
  rw [Bool.eq_iff_iff, List.any_eq_true, List.any_eq_true]
  constructor
  · rintro ⟨o, h1, h2⟩
    have h3 := (hmem o).1 h1
    refine ⟨o, ?_, h3⟩
    rw [List.mem_filter]
    refine ⟨of_decide_eq_true h2, ?_⟩
    rw [Bool.not_eq_true', decide_eq_false_iff_not]
    intro e; subst e; rw [hself] at h3; exact absurd h3 (by simp)
  · rintro ⟨o, h1, h2⟩
    rw [List.mem_filter] at h1
    exact ⟨o, (hmem o).2 h2, decide_eq_true h1.1⟩
def chgL (es : List (List Int)) (set : List Int) (node draw : Int) : List Int :=
  if draw = 0 then dropN set node else if nearAny es (dropN set node) node = true then dropN set node else putL node (dropN set node)
theorem dropN_pair {set : List Int} {node : Int} (h : set.Pairwise (· < ·)) : (dropN set node).Pairwise (· < ·) := h.filter _
theorem dropN_not (set : List Int) (node : Int) : node ∉ dropN set node := by unfold dropN; rw [List.mem_filter]; simp
end Go.Proofs.Ytpmabnohdabbdaa
