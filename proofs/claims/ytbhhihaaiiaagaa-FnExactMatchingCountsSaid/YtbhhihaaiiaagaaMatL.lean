/-
  MatchingCounts: sets of edges without a shared node are the independent sets of the line graph. Plain.
-/
import Derived.Test.YtbhhihaaiiaagaaLine
import Derived.Test.YtbhhihaaiiaagaaIndL
namespace Go.Proofs.Ytbhhihaaiiaagaa
open Go.RowKit Go.Sort
/-- the nodes of the edges below k whose bits are set -/
def usedM (es : List (List Int)) (x : Nat) : Nat → List Int
  | 0 => []
  | k + 1 => if x / 2 ^ k % 2 = 1 then usedM es x k ++ es.getD k [] else usedM es x k
def okM (es : List (List Int)) (x : Nat) : Nat → Bool
  | 0 => true
  | k + 1 => okM es x k && (if x / 2 ^ k % 2 = 1 then !decide ((es.getD k []).getD 0 0 ∈ usedM es x k) && !decide ((es.getD k []).getD 1 0 ∈ usedM es x k) else true)
def matN (es : List (List Int)) : Nat → List (List Int)
  | 0 => []
  | x + 1 => if okM es x es.length = true then matN es x ++ [setK x es.length] else matN es x
theorem mem_usedM {es : List (List Int)} {x : Nat} {y : Int} : ∀ {k : Nat}, y ∈ usedM es x k ↔ ∃ i, i < k ∧ x / 2 ^ i % 2 = 1 ∧ y ∈ es.getD i []
  | 0 => by simp [usedM]
  | k + 1 => by
    unfold usedM
    have ih := mem_usedM (es := es) (x := x) (y := y) (k := k)
    split
    · rename_i h
      rw [List.mem_append, ih]
      constructor
      · rintro (⟨i, h1, h2⟩ | h1)
        · exact ⟨i, by omega, h2⟩
        · exact ⟨k, by omega, h, h1⟩
      · rintro ⟨i, h1, h2, h3⟩
        by_cases e : i = k
        · subst e; exact .inr h3
        · exact .inl ⟨i, by omega, h2, h3⟩
    · rename_i h
      rw [ih]
      constructor
      · rintro ⟨i, h1, h2⟩; exact ⟨i, by omega, h2⟩
      · rintro ⟨i, h1, h2, h3⟩
        by_cases e : i = k
        · subst e; exact absurd h2 h
        · exact ⟨i, by omega, h2, h3⟩
theorem okM_iff {es : List (List Int)} {x : Nat} : ∀ {k : Nat}, okM es x k = true ↔ ∀ j, j < k → x / 2 ^ j % 2 = 1 → ∀ i, i < j → x / 2 ^ i % 2 = 1 → shareL (es.getD i []) (es.getD j []) = false
  | 0 => by simp [okM]
  | k + 1 => by
    have ih := okM_iff (es := es) (x := x) (k := k)
    unfold okM
    rw [Bool.and_eq_true, ih]
    have hsh : ∀ i, shareL (es.getD i []) (es.getD k []) = false ↔ ((es.getD k []).getD 0 0 ∉ es.getD i [] ∧ (es.getD k []).getD 1 0 ∉ es.getD i []) := by
      intro i; unfold shareL; rw [Bool.or_eq_false_iff, decide_eq_false_iff_not, decide_eq_false_iff_not]
    constructor
    · rintro ⟨h1, h2⟩ j hj hb i hi hbi
      by_cases e : j = k
      · subst e
        rw [if_pos hb, Bool.and_eq_true, Bool.not_eq_true', Bool.not_eq_true', decide_eq_false_iff_not, decide_eq_false_iff_not] at h2
        rw [hsh]
        exact ⟨fun h => h2.1 (mem_usedM.2 ⟨i, hi, hbi, h⟩), fun h => h2.2 (mem_usedM.2 ⟨i, hi, hbi, h⟩)⟩
      · exact h1 j (by omega) hb i hi hbi
    · intro h
      refine ⟨fun j hj => h j (by omega), ?_⟩
      split
      · rename_i hb
        rw [Bool.and_eq_true, Bool.not_eq_true', Bool.not_eq_true', decide_eq_false_iff_not, decide_eq_false_iff_not]
        constructor
        · intro hm
          obtain ⟨i, h1, h2, h3⟩ := mem_usedM.1 hm
          exact ((hsh i).1 (h k (by omega) hb i h1 h2)).1 h3
        · intro hm
          obtain ⟨i, h1, h2, h3⟩ := mem_usedM.1 hm
          exact ((hsh i).1 (h k (by omega) hb i h1 h2)).2 h3
      · rfl
theorem mem_setK {x k : Nat} {v : Int} : v ∈ setK x k ↔ ∃ i : Nat, i < k ∧ v = (i : Int) ∧ x / 2 ^ i % 2 = 1 := by
  unfold setK upTo
  rw [List.mem_filter, List.mem_map]
  constructor
  · rintro ⟨⟨i, h1, rfl⟩, h2⟩
    rw [List.mem_range] at h1
    exact ⟨i, h1, rfl, by simpa using h2⟩
  · rintro ⟨i, h1, rfl, h2⟩
    exact ⟨⟨i, List.mem_range.2 h1, rfl⟩, by simpa using h2⟩
theorem mem_allE {es : List (List Int)} {e : List Int} : e ∈ allE es es.length ↔ ∃ a b : Nat, a < b ∧ b < es.length ∧ e = [(a : Int), (b : Int)] ∧ shareL (es.getD a []) (es.getD b []) = true := by
  unfold allE rowE
  simp only [List.mem_flatMap, List.mem_map, List.mem_filter, List.mem_range, Bool.and_eq_true, decide_eq_true_eq]
  constructor
  · rintro ⟨a, h1, b, ⟨h2, h3, h4⟩, rfl⟩; exact ⟨a, b, h3, h2, rfl, h4⟩
  · rintro ⟨a, b, h1, h2, rfl, h4⟩; exact ⟨a, by omega, b, ⟨h2, h1, h4⟩, rfl⟩
theorem edgesB_line (es : List (List Int)) : EdgesB es.length (allE es es.length) := by
  intro e he
  obtain ⟨a, b, h1, h2, rfl, _⟩ := mem_allE.1 he
  exact ⟨a, b, rfl, h1, h2⟩
theorem indep_line (es : List (List Int)) (x : Nat) : indepB (allE es es.length) (setK x es.length) = okM es x es.length := by
  rw [Bool.eq_iff_iff, okM_iff]
  unfold indepB
  rw [Bool.not_eq_true', List.any_eq_false]
  constructor
  · intro h j hj hb i hi hbi
    cases hs : shareL (es.getD i []) (es.getD j []) with
    | false => rfl
    | true =>
      have := h _ (mem_allE.2 ⟨i, j, hi, hj, rfl, hs⟩)
      exfalso
      apply this
      unfold bothE
      rw [Bool.and_eq_true, decide_eq_true_eq, decide_eq_true_eq]
      exact ⟨mem_setK.2 ⟨i, by omega, rfl, hbi⟩, mem_setK.2 ⟨j, hj, rfl, hb⟩⟩
  · intro h e he hb
    obtain ⟨a, b, h1, h2, rfl, hs⟩ := mem_allE.1 he
    unfold bothE at hb
    rw [Bool.and_eq_true, decide_eq_true_eq, decide_eq_true_eq] at hb
    obtain ⟨i, hi, ea, hbi⟩ := mem_setK.1 hb.1
    obtain ⟨j, hj, eb, hbj⟩ := mem_setK.1 hb.2
    simp only [List.getD_cons_zero, List.getD_cons_succ] at ea eb
    obtain rfl : a = i := by omega
    obtain rfl : b = j := by omega
    rw [h b hj hbj a h1 hbi] at hs
    exact absurd hs (by simp)
theorem matN_eq (es : List (List Int)) : ∀ N, matN es N = indN es.length (allE es es.length) N
  | 0 => rfl
  | N + 1 => by
    unfold matN indN
    rw [indep_line, matN_eq es N]
theorem nodup_len : ∀ (m : Nat) (l : List Int), l.Nodup → (∀ y ∈ l, 0 ≤ y ∧ y < (m : Int)) → l.length ≤ m
  | 0, l, _, h => by
    cases l with
    | nil => simp
    | cons y r => have := h y (by simp); omega
  | m + 1, l, hn, h => by
    by_cases hm : (m : Int) ∈ l
    · have ih := nodup_len m (l.erase (m : Int)) (hn.erase _) (fun y hy => by
        rw [hn.mem_erase_iff] at hy
        have := h y hy.2
        have := hy.1
        omega)
      rw [List.length_erase_of_mem hm] at ih
      omega
    · have ih := nodup_len m l hn (fun y hy => by
        have := h y hy
        have : y ≠ (m : Int) := fun e => hm (e ▸ hy)
        omega)
      omega
theorem usedM_len {m : Nat} {es : List (List Int)} (hE : EdgesB m es) (x : Nat) : ∀ k, k ≤ es.length → (usedM es x k).length = 2 * (setK x k).length
  | 0, _ => rfl
  | k + 1, h => by
    have ih := usedM_len hE x k (by omega)
    obtain ⟨a, b, he, _⟩ := hE es[k] (List.getElem_mem (by omega))
    unfold usedM
    split
    · rename_i hb
      rw [setK_yes hb, List.length_append, List.length_append, ih, getD_at (by omega), he]
      simp; omega
    · rename_i hb
      rw [setK_no (by omega), ih]
theorem usedM_nodup {m : Nat} {es : List (List Int)} (hE : EdgesB m es) (x : Nat) : ∀ k, k ≤ es.length → okM es x k = true → (usedM es x k).Nodup
  | 0, _, _ => by simp [usedM]
  | k + 1, h, hok => by
    obtain ⟨a, b, he, hab, _⟩ := hE es[k] (List.getElem_mem (by omega))
    unfold okM at hok
    rw [Bool.and_eq_true] at hok
    have ih := usedM_nodup hE x k (by omega) hok.1
    have h2 := hok.2
    unfold usedM
    split
    · rename_i hb
      rw [if_pos hb, getD_at (show k < es.length by omega), he, Bool.and_eq_true, Bool.not_eq_true', Bool.not_eq_true', decide_eq_false_iff_not, decide_eq_false_iff_not] at h2
      simp only [List.getD_cons_zero, List.getD_cons_succ] at h2
      rw [getD_at (by omega), he, List.nodup_append]
      refine ⟨ih, ?_, ?_⟩
      · simp; omega
      · intro y hy z hz e
        subst e
        simp only [List.mem_cons, List.not_mem_nil, or_false] at hz
        rcases hz with rfl | rfl
        · exact h2.1 hy
        · exact h2.2 hy
    · exact ih
theorem okM_size {m : Nat} {es : List (List Int)} (hE : EdgesB m es) (x : Nat) (h : okM es x es.length = true) : 2 * (setK x es.length).length ≤ m := by
  rw [← usedM_len hE x _ (Nat.le_refl _)]
  refine nodup_len m _ (usedM_nodup hE x _ (Nat.le_refl _) h) (fun y hy => ?_)
  obtain ⟨i, hi, _, hm⟩ := mem_usedM.1 hy
  obtain ⟨a, b, he, hab, hb⟩ := hE es[i] (List.getElem_mem hi)
  rw [getD_at hi, he] at hm
  simp only [List.mem_cons, List.not_mem_nil, or_false] at hm
  rcases hm with rfl | rfl <;> omega
theorem graphOk_len20 {n : Int} {es : List (List Int)} (h : graphOk n es = true) : es.length ≤ 20 := by
  obtain ⟨m, rfl, h1, h5, _, hk⟩ := graphOk_n h
  by_cases h0 : es.length = 0
  · omega
  · have hr := graphOk_rank h1 h5 hk (es.length - 1) (by omega)
    obtain ⟨a, b, e1, h3, h4⟩ := stepW_edge (by omega) (by omega) (okN_true hk (show es.length - 1 < es.length by omega))
    rw [e1] at hr
    simp [rankE] at hr
    omega
def matR (n : Int) (es : List (List Int)) : List Int × Int := if graphOk n es = true then (cntL (n.toNat / 2 + 1) (matN es (2 ^ es.length)), 0) else ([], 1)
theorem matR_len (n : Int) (es : List (List Int)) : (matR n es).1.length ≤ 6 := by
  unfold matR
  split
  · rename_i h
    obtain ⟨m, rfl, _, hm, _⟩ := graphOk_all h
    rw [cntL_len]; omega
  · simp
end Go.Proofs.Ytbhhihaaiiaagaa
