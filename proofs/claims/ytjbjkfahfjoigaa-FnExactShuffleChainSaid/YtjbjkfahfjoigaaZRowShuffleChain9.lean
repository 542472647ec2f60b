/-
  slices.DeleteFunc over []int64: plain part, and what is owned under it.
-/
import Derived.Test.YtjbjkfahfjoigaaZRowShuffleChain5
import Derived.Laws.IdiomCopy
import Derived.Lib.SliceRun
set_option linter.unusedVariables false
set_option linter.unusedSimpArgs false
namespace Go.Proofs.Ytjbjkfahfjoigaa
open Go.RowKit Go.Sort
theorem zero_i64 (w : World) : (zeroValue 2).run Try.prog w = .ok (.int .i64 0) w := by kernel_rfl
/-- what stays of the first j -/
def keepN (p : Int → Bool) (xs : List Int) (j : Nat) : List Int := (xs.take j).filter fun x => !p x
theorem keepN_yes {p : Int → Bool} {xs : List Int} {j : Nat} (h : j < xs.length) (hp : p xs[j] = true) : keepN p xs (j + 1) = keepN p xs j := by
  unfold keepN; rw [List.take_succ_eq_append_getElem h, List.filter_append]; simp [hp]
theorem keepN_no {p : Int → Bool} {xs : List Int} {j : Nat} (h : j < xs.length) (hp : p xs[j] = false) : keepN p xs (j + 1) = keepN p xs j ++ [xs[j]] := by
  unfold keepN; rw [List.take_succ_eq_append_getElem h, List.filter_append]; simp [hp]
theorem keepN_all {p : Int → Bool} {xs : List Int} : keepN p xs xs.length = xs.filter fun x => !p x := by unfold keepN; rw [List.take_length]
theorem ixP_none {p : Int → Bool} : ∀ {l : List Int} {k : Nat}, ixP p l k = -1 → l.filter (fun x => !p x) = l
  | [], _, _ => rfl
  | x :: r, k, h => by
    unfold ixP at h
    split at h
    · omega
    · rename_i hx
      have hx : p x = false := by simpa using hx
      rw [List.filter_cons, if_pos (by simp [hx]), ixP_none h]
theorem ixP_at {p : Int → Bool} : ∀ {l : List Int} {k i : Nat}, ixP p l k = (i : Int) → k ≤ i ∧ ∃ h : i - k < l.length, p l[i - k] = true ∧ (l.take (i - k)).filter (fun x => !p x) = l.take (i - k)
  | [], _, _, h => by unfold ixP at h; omega
  | x :: r, k, i, h => by
    unfold ixP at h
    split at h
    · rename_i hx
      obtain rfl : k = i := by omega
      simp [hx]
    · rename_i hx
      have hx : p x = false := by simpa using hx
      obtain ⟨h1, h2, h3, h4⟩ := ixP_at h
      obtain ⟨q, rfl⟩ : ∃ q, i = k + 1 + q := ⟨i - (k + 1), by omega⟩
      have e1 : k + 1 + q - (k + 1) = q := by omega
      have e2 : k + 1 + q - k = q + 1 := by omega
      simp only [e1] at h2 h3 h4
      refine ⟨by omega, by simp [e2]; exact h2, ?_, ?_⟩
      · simp only [e2, List.getElem_cons_succ]; exact h3
      · simp only [e2, List.take_succ_cons, List.filter_cons, hx, Bool.not_false, if_true, h4]
/-- the row behind the first j, of which k stay -/
structure DelI (p : Int → Bool) (xs : List Int) (j k : Nat) (ys : List Int) : Prop where
  len : ys.length = xs.length
  k_eq : k = (keepN p xs j).length
  lt : k < j
  jle : j ≤ xs.length
  head : ys.take k = keepN p xs j
  tail : ys.drop j = xs.drop j
theorem DelI.start {p : Int → Bool} {xs : List Int} {i : Nat} (h : ixP p xs 0 = (i : Int)) : DelI p xs (i + 1) i xs := by
  obtain ⟨_, h2, h3, h4⟩ := ixP_at h
  simp only [Nat.sub_zero] at h2 h3 h4
  have hk : keepN p xs (i + 1) = xs.take i := by rw [keepN_yes h2 h3]; exact h4
  exact ⟨rfl, by rw [hk]; simp; omega, by omega, by omega, hk.symm, rfl⟩
theorem DelI.get {p : Int → Bool} {xs ys : List Int} {j k : Nat} (h : DelI p xs j k ys) (hj : j < xs.length) : ys[j]? = some xs[j] := by
  have := congrArg (fun l => l[0]?) h.tail
  simp only [List.getElem?_drop, Nat.add_zero] at this
  rw [this, List.getElem?_eq_getElem hj]
theorem DelI.skip {p : Int → Bool} {xs ys : List Int} {j k : Nat} (h : DelI p xs j k ys) (hj : j < xs.length) (hp : p xs[j] = true) : DelI p xs (j + 1) k ys := by
  refine ⟨h.len, by rw [keepN_yes hj hp]; exact h.k_eq, by have := h.lt; omega, by omega, by rw [keepN_yes hj hp]; exact h.head, ?_⟩
  have := congrArg (List.drop 1) h.tail
  simpa [List.drop_drop, Nat.add_comm] using this
theorem DelI.keep {p : Int → Bool} {xs ys : List Int} {j k : Nat} (h : DelI p xs j k ys) (hj : j < xs.length) (hp : p xs[j] = false) : DelI p xs (j + 1) (k + 1) (ys.set k xs[j]) := by
  have hk := h.lt
  have hl := h.len
  refine ⟨by simp [hl], by rw [keepN_no hj hp]; simp [h.k_eq], by omega, by omega, ?_, ?_⟩
  · rw [keepN_no hj hp, ← h.head, List.take_succ_eq_append_getElem (by simp; omega), List.take_set_of_le (by omega)]
    simp
  · rw [List.drop_set_of_lt (by omega)]
    have := congrArg (List.drop 1) h.tail
    simpa [List.drop_drop, Nat.add_comm] using this
theorem DelI.done {p : Int → Bool} {xs ys : List Int} {k : Nat} (h : DelI p xs xs.length k ys) : ys.take k = xs.filter (fun x => !p x) ∧ k < xs.length ∧ k = (xs.filter (fun x => !p x)).length := by
  have := h.head
  have h2 := h.k_eq
  rw [keepN_all] at this h2
  exact ⟨this, h.lt, h2⟩
theorem OwnI.cut {w : World} {base g n c : Nat} {ys : List Int} (h : OwnI w base (.slice (some ⟨g, 0, none⟩) n c) ys) {k : Nat} (hk : k ≤ ys.length) : OwnI w base (.slice (some ⟨g, 0, none⟩) k c) (ys.take k) := by
  have hl : (ys.take k).length = k := by simp; omega
  rcases h.2 with ⟨h1, _⟩ | ⟨g', cap, cur, h1, h2, h3, h4, h5, h6, h7⟩
  · simp at h1
  · simp only [Value.slice.injEq, Option.some.injEq, Addr.mk.injEq] at h1
    obtain ⟨⟨rfl, _, _⟩, hn, rfl⟩ := h1
    refine ⟨by simp [i64s], .inr ⟨g, c, cur, by rw [hl], h2, h3, by rw [hl]; omega, h5, h6, ?_⟩⟩
    have := congrArg (List.take k) h7
    rw [hl]
    rw [List.take_take] at this
    simp only [Nat.mul_one] at this ⊢
    rw [Nat.min_eq_left hk] at this
    rw [this]
    simp [i64s, List.map_take]
theorem OwnI.fill {base g n c : Nat} : ∀ (zs : List Int) (o : Nat) (w : World) (ys : List Int), OwnI w base (.slice (some ⟨g, 0, none⟩) n c) ys → ∃ ys', OwnI (w.setCells g o (i64s zs)) base (.slice (some ⟨g, 0, none⟩) n c) ys' ∧ ys'.length = ys.length ∧ ys'.take o = ys.take o
  | [], _, w, ys, h => ⟨ys, h, rfl, rfl⟩
  | z :: r, o, w, ys, h => by
    obtain ⟨ys', h1, h2, h3⟩ := OwnI.fill r (o + 1) _ _ (h.set o z)
    refine ⟨ys', h1, by simpa using h2, ?_⟩
    have := congrArg (List.take o) h3
    rw [List.take_take, List.take_take, Nat.min_eq_left (by omega)] at this
    rw [this, List.take_set_of_le (Nat.le_refl _)]
theorem below_setCells {B g : Nat} (hg : B ≤ g) : ∀ (vs : List Value) (o : Nat) (a w : World), Below B a w → Below B a (w.setCells g o vs)
  | [], _, _, _, h => h
  | v :: r, o, a, w, h => below_setCells hg r (o + 1) a _ (h.setCell hg _)
end Go.Proofs.Ytjbjkfahfjoigaa
