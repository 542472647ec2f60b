/-
  All colourings, the reference's, by numbers; both lists are one.
-/
import Derived.Test.YtmhpbkckmjdojaaCount
namespace Go.Proofs.Ytmhpbkckmjdojaa
open Go.RowKit Go.Sort
/-- the j last digits of n to the base q, the first one first -/
def digs (q : Nat) : Nat → Nat → List Int
  | 0, _ => []
  | j + 1, n => ((n / q ^ j % q : Nat) : Int) :: digs q j n
def okT (part : List Int) (q m j n : Nat) : Bool := (List.range j).all fun t => okP part (m - 1 - t) ((n / q ^ t % q : Nat) : Int)
theorem okT_succ (part : List Int) (q m j n : Nat) : okT part q m (j + 1) n = (okT part q m j n && okP part (m - 1 - j) ((n / q ^ j % q : Nat) : Int)) := by
  unfold okT; rw [List.range_succ, List.all_append]; simp
theorem digs_len (q n : Nat) : ∀ j, (digs q j n).length = j
  | 0 => rfl
  | j + 1 => by simp [digs, digs_len q n j]
def goodC (part : List Int) (es : List (List Int)) (q m n : Nat) : Bool := okT part q m m n && properB es (digs q m n)
def colS (q : Nat) (part : List Int) (es : List (List Int)) (m N : Nat) : List (List Int) := ((List.range N).filter (goodC part es q m)).map (digs q m)
theorem colS_yes {q m n : Nat} {part : List Int} {es : List (List Int)} (h : goodC part es q m n = true) : colS q part es m (n + 1) = colS q part es m n ++ [digs q m n] := by
  unfold colS; rw [List.range_succ, List.filter_append, List.map_append]; simp [h]
theorem colS_no {q m n : Nat} {part : List Int} {es : List (List Int)} (h : goodC part es q m n = false) : colS q part es m (n + 1) = colS q part es m n := by
  unfold colS; rw [List.range_succ, List.filter_append, List.map_append]; simp [h]
theorem colS_len (q : Nat) (part : List Int) (es : List (List Int)) (m N : Nat) : (colS q part es m N).length ≤ N := by
  unfold colS
  rw [List.length_map]
  exact Nat.le_trans (List.length_filter_le _ _) (by simp)
def extT (q : Nat) : Nat → List Int → List (List Int)
  | 0, l => [l]
  | f + 1, l => (upTo q).flatMap fun c => extT q f (l ++ [c])
def compF (part : List Int) (i : Nat) (l : List Int) : Bool := (List.range l.length).all fun j => decide (j < i) || okP part j (l.getD j 0)
theorem extT_pre (q : Nat) : ∀ (f : Nat) (l x : List Int), x ∈ extT q f l → ∃ y, x = l ++ y ∧ y.length = f
  | 0, l, x, h => by simp [extT] at h; exact ⟨[], by simp [h], rfl⟩
  | f + 1, l, x, h => by
    unfold extT at h
    rw [List.mem_flatMap] at h
    obtain ⟨c, _, hx⟩ := h
    obtain ⟨y, h1, h2⟩ := extT_pre q f (l ++ [c]) x hx
    exact ⟨c :: y, by rw [h1]; simp, by simp [h2]⟩
theorem filter_flatMap' {α β : Type} (p : β → Bool) (f : α → List β) : ∀ L : List α, (L.flatMap f).filter p = L.flatMap fun x => (f x).filter p
  | [] => rfl
  | x :: r => by rw [List.flatMap_cons, List.flatMap_cons, List.filter_append, filter_flatMap' p f r]
theorem flatMap_filter' {α β : Type} (p : α → Bool) (f : α → List β) : ∀ L : List α, (L.filter p).flatMap f = L.flatMap fun x => if p x = true then f x else []
  | [] => rfl
  | x :: r => by
    rw [List.filter_cons, List.flatMap_cons]
    split
    · rw [List.flatMap_cons, flatMap_filter' p f r]
    · rw [flatMap_filter' p f r]; rfl
theorem flatMap_congr' {α β : Type} {f g : α → List β} : ∀ {L : List α}, (∀ x ∈ L, f x = g x) → L.flatMap f = L.flatMap g
  | [], _ => rfl
  | x :: r, h => by rw [List.flatMap_cons, List.flatMap_cons, h x (by simp), flatMap_congr' (fun y hy => h y (by simp [hy]))]
theorem compF_step {part l y : List Int} {c : Int} (h : okP part l.length c = true) : compF part (l.length + 1) (l ++ [c] ++ y) = compF part l.length (l ++ [c] ++ y) := by
  rw [Bool.eq_iff_iff]
  unfold compF
  simp only [List.all_eq_true, List.mem_range, Bool.or_eq_true, decide_eq_true_eq]
  constructor
  · intro hh j hj
    rcases hh j hj with h1 | h1
    · by_cases hjl : j < l.length
      · exact .inl hjl
      · right
        obtain rfl : j = l.length := by omega
        have e : (l ++ [c] ++ y).getD l.length 0 = c := by
          rw [List.append_assoc, List.getD_eq_getElem?_getD, List.getElem?_append_right (Nat.le_refl _), Nat.sub_self]; rfl
        rw [e]; exact h
    · exact .inr h1
  · intro hh j hj
    rcases hh j hj with h1 | h1
    · exact .inl (by omega)
    · exact .inr h1
theorem compF_no {part l y : List Int} {c : Int} (h : okP part l.length c = false) : compF part l.length (l ++ [c] ++ y) = false := by
  unfold compF
  rw [List.all_eq_false]
  refine ⟨l.length, by simp, ?_⟩
  have e : (l ++ [c] ++ y).getD l.length 0 = c := by
    rw [List.append_assoc, List.getD_eq_getElem?_getD, List.getElem?_append_right (Nat.le_refl _), Nat.sub_self]; rfl
  rw [e, h]; simp
theorem colD_ext (q : Nat) (part : List Int) (es : List (List Int)) : ∀ (f : Nat) (l : List Int), colD q part es f l = (extT q f l).filter fun x => compF part l.length x && properB es x
  | 0, l => by
    unfold colD extT
    have : compF part l.length l = true := by
      unfold compF
      simp only [List.all_eq_true, List.mem_range, Bool.or_eq_true, decide_eq_true_eq]
      intro j hj; exact .inl hj
    rw [List.filter_cons, this]
    simp
  | f + 1, l => by
    unfold colD extT
    rw [flatMap_filter', filter_flatMap']
    refine flatMap_congr' fun c _ => ?_
    split
    · rename_i hok
      rw [colD_ext q part es f (l ++ [c])]
      refine List.filter_congr fun x hx => ?_
      obtain ⟨y, rfl, _⟩ := extT_pre q f _ x hx
      have : (l ++ [c]).length = l.length + 1 := by simp
      rw [this, compF_step hok]
    · rename_i hok
      symm
      rw [List.filter_eq_nil_iff]
      intro x hx
      obtain ⟨y, rfl, _⟩ := extT_pre q f _ x hx
      rw [compF_no (by simpa using hok)]; simp
theorem range_mul (b : Nat) : ∀ a, List.range (a * b) = (List.range a).flatMap fun c => (List.range b).map fun r => c * b + r
  | 0 => by simp
  | a + 1 => by
    rw [Nat.add_mul, Nat.one_mul, List.range_add, List.range_succ, List.flatMap_append, ← range_mul b a]
    simp
theorem digs_mod (q n r : Nat) (k : Nat) : ∀ j, j ≤ k → n % q ^ k = r → digs q j n = digs q j r
  | 0, _, _ => rfl
  | j + 1, hj, h => by
    unfold digs
    rw [digs_mod q n r k j (by omega) h]
    congr 2
    subst h
    have e : q ^ k = q ^ (j + 1) * q ^ (k - (j + 1)) := by rw [← Nat.pow_add]; congr 1; omega
    rw [e, Nat.pow_succ, Nat.mul_assoc, Nat.mod_mul_right_div_self, Nat.mod_mul_right_mod]
theorem extT_digs {q : Nat} (hq : 0 < q) : ∀ (f : Nat) (l : List Int), extT q f l = (List.range (q ^ f)).map fun n => l ++ digs q f n
  | 0, l => by simp [extT, digs]
  | f + 1, l => by
    unfold extT
    rw [Nat.pow_succ, Nat.mul_comm, range_mul]
    rw [List.map_flatMap]
    unfold upTo
    rw [List.flatMap_map]
    refine flatMap_congr' fun c hc => ?_
    rw [extT_digs hq f, List.map_map]
    refine List.map_congr_left fun r hr => ?_
    have hc' : c < q := by simpa using hc
    have hr' : r < q ^ f := by simpa using hr
    have hpos : 0 < q ^ f := Nat.pow_pos hq
    show l ++ [(c : Int)] ++ digs q f r = l ++ digs q (f + 1) (c * q ^ f + r)
    have e1 : (c * q ^ f + r) / q ^ f % q = c := by
      rw [Nat.mul_comm, Nat.mul_add_div hpos, Nat.div_eq_of_lt hr', Nat.add_zero, Nat.mod_eq_of_lt hc']
    have e2 : digs q f (c * q ^ f + r) = digs q f r := digs_mod q _ _ f f (Nat.le_refl _) (by rw [Nat.mul_comm, Nat.mul_add_mod, Nat.mod_eq_of_lt hr'])
    show _ = l ++ ((((c * q ^ f + r) / q ^ f % q : Nat) : Int) :: digs q f (c * q ^ f + r))
    rw [e1, e2]; simp
theorem digs_get (q n : Nat) : ∀ (m j : Nat), j < m → (digs q m n).getD j 0 = ((n / q ^ (m - 1 - j) % q : Nat) : Int)
  | 0, j, h => by omega
  | m + 1, 0, _ => by simp [digs]
  | m + 1, j + 1, h => by
    have e : m + 1 - 1 - (j + 1) = m - 1 - j := by omega
    unfold digs
    rw [List.getD_cons_succ, digs_get q n m j (by omega), e]
theorem compF_digs (part : List Int) (q m n : Nat) : compF part 0 (digs q m n) = okT part q m m n := by
  rw [Bool.eq_iff_iff]
  unfold compF okT
  simp only [List.all_eq_true, List.mem_range, Bool.or_eq_true, decide_eq_true_eq, digs_len]
  constructor
  · intro h t ht
    rcases h (m - 1 - t) (by omega) with h1 | h1
    · omega
    · rw [digs_get q n m _ (by omega), show m - 1 - (m - 1 - t) = t by omega] at h1; exact h1
  · intro h j hj
    right
    rw [digs_get q n m j hj]
    have := h (m - 1 - j) (by omega)
    rw [show m - 1 - (m - 1 - j) = j by omega] at this
    exact this
/-- both lists of colourings are one -/
theorem col_law {q m : Nat} (hq : 0 < q) (part : List Int) (es : List (List Int)) : colS q part es m (q ^ m) = colD q part es m [] := by
  rw [colD_ext, extT_digs hq, List.filter_map]
  unfold colS
  simp only [List.nil_append]
  congr 1
  refine List.filter_congr fun n _ => ?_
  show goodC part es q m n = _
  unfold goodC
  rw [← compF_digs]; rfl
end Go.Proofs.Ytmhpbkckmjdojaa
