/-
  Colourings: what a graph that is valid is; lists of colours; proper colourings, both sides.
-/
import Derived.Test.YtmhpbkckmjdojaaRises
import Derived.Test.YtmhpbkckmjdojaaSrCol
import Derived.Test.YtmhpbkckmjdojaaSrAre
namespace Go.Proofs.Ytmhpbkckmjdojaa
open Go.RowKit Go.Sort
/-- edges of a valid graph with m nodes -/
def EdgesB (m : Nat) (es : List (List Int)) : Prop := ∀ e ∈ es, ∃ a b : Nat, e = [(a : Int), (b : Int)] ∧ a < b ∧ b < m
def rankE (e : List Int) : Nat := (e.getD 0 0).toNat * 5 + (e.getD 1 0).toNat
theorem okN_true {hi : Int} {es : List (List Int)} : ∀ {m k : Nat}, okN hi es m = true → k < m → stepW hi es k = true
  | 0, k, _, h => by omega
  | m + 1, k, h, hk => by
    unfold okN at h
    rw [Bool.and_eq_true] at h
    by_cases e : k = m
    · subst e; exact h.2
    · exact okN_true h.1 (by omega)
theorem stepW_edge {hi : Int} {es : List (List Int)} {k : Nat} (h0 : 0 ≤ hi) (h4 : hi ≤ 4) (h : stepW hi es k = true) : ∃ a b : Nat, es.getD k [] = [(a : Int), (b : Int)] ∧ a < b ∧ (b : Int) ≤ hi := by
  unfold stepW at h
  rw [Bool.and_eq_true] at h
  have h1 := h.1
  unfold edgeW at h1
  rw [Bool.and_eq_true, Bool.and_eq_true] at h1
  obtain ⟨x, y, he⟩ := len2 (of_decide_eq_true h1.1)
  rw [he] at h1
  simp only [List.getD_cons_zero, List.getD_cons_succ] at h1
  have hx := inR_iff.1 h1.2.1
  have hy := inR_iff.1 h1.2.2
  rw [IntWalk.i64_in _ (by omega)] at hy
  obtain ⟨a, rfl⟩ := Int.eq_ofNat_of_zero_le hx.1
  obtain ⟨b, rfl⟩ := Int.eq_ofNat_of_zero_le (show 0 ≤ y by omega)
  exact ⟨a, b, he, by omega, by omega⟩
theorem graphOk_n {n : Int} {es : List (List Int)} (h : graphOk n es = true) : ∃ m : Nat, n = (m : Int) ∧ 1 ≤ m ∧ m ≤ 5 ∧ IntKind.i64.wrap (n - 1) = (m : Int) - 1 ∧ okN ((m : Int) - 1) es es.length = true := by
  unfold graphOk at h
  rw [Bool.and_eq_true] at h
  have hn := inR_iff.1 h.1
  obtain ⟨m, rfl⟩ := Int.eq_ofNat_of_zero_le (show 0 ≤ n by omega)
  have hw : IntKind.i64.wrap ((m : Int) - 1) = (m : Int) - 1 := IntWalk.i64_in _ (by omega)
  exact ⟨m, rfl, by omega, by omega, hw, by rw [← hw]; exact h.2⟩
theorem graphOk_edges {m : Nat} {es : List (List Int)} (h1 : 1 ≤ m) (h5 : m ≤ 5) (h : okN ((m : Int) - 1) es es.length = true) : EdgesB m es := by
  intro e he
  obtain ⟨k, hk, rfl⟩ := List.getElem_of_mem he
  obtain ⟨a, b, h2, h3, h4⟩ := stepW_edge (by omega) (by omega) (okN_true h hk)
  rw [getD_at hk] at h2
  exact ⟨a, b, h2, h3, by omega⟩
theorem graphOk_rank {m : Nat} {es : List (List Int)} (h1 : 1 ≤ m) (h5 : m ≤ 5) (h : okN ((m : Int) - 1) es es.length = true) : ∀ k, k < es.length → k ≤ rankE (es.getD k []) := by
  intro k
  induction k with
  | zero => intro _; omega
  | succ k ih =>
    intro hk
    have hi := ih (by omega)
    obtain ⟨a, b, e1, _, _⟩ := stepW_edge (by omega) (by omega) (okN_true h (show k < es.length by omega))
    obtain ⟨c, d, e2, _, _⟩ := stepW_edge (by omega) (by omega) (okN_true h hk)
    have hs := okN_true h hk
    unfold stepW at hs
    rw [Bool.and_eq_true] at hs
    have hl := hs.2
    rw [Nat.add_sub_cancel, e1, e2] at hl
    rw [e1] at hi
    rw [e2]
    have hlt : a < c ∨ (a = c ∧ b < d) := by
      simp [lessL] at hl
      split at hl <;> omega
    simp [rankE] at hi ⊢
    omega
theorem graphOk_len {m : Nat} {es : List (List Int)} (h1 : 1 ≤ m) (h5 : m ≤ 5) (h : okN ((m : Int) - 1) es es.length = true) : es.length ≤ 25 := by
  by_cases h0 : es.length = 0
  · omega
  · have hr := graphOk_rank h1 h5 h (es.length - 1) (by omega)
    obtain ⟨a, b, e1, h3, h4⟩ := stepW_edge (by omega) (by omega) (okN_true h (show es.length - 1 < es.length by omega))
    rw [e1] at hr
    simp [rankE] at hr
    omega
/-- all a graph that is valid is -/
theorem graphOk_all {n : Int} {es : List (List Int)} (h : graphOk n es = true) : ∃ m : Nat, n = (m : Int) ∧ 1 ≤ m ∧ m ≤ 5 ∧ EdgesB m es ∧ es.length ≤ 25 := by
  obtain ⟨m, h1, h2, h3, _, h5⟩ := graphOk_n h
  exact ⟨m, h1, h2, h3, graphOk_edges h2 h3 h5, graphOk_len h2 h3 h5⟩
theorem riseN_two {hi : Int} {e : List Int} (h0 : 0 ≤ hi) (h4 : hi ≤ 4) : (decide (e.length = 2) && riseN 0 hi e e.length) = edgeW hi e := by
  unfold edgeW
  by_cases h : e.length = 2
  · obtain ⟨a, b, rfl⟩ := len2 h
    simp [riseN, inR]
    by_cases h1 : 0 ≤ a ∧ a ≤ hi
    · rw [IntWalk.i64_in _ (by omega)]
      simp [h1]
      rw [Bool.eq_iff_iff]
      simp
      omega
    · rcases Classical.not_and_iff_not_or_not.1 h1 with h2 | h2 <;> simp [h2]
  · simp [h]
def colsOk (n lo hi : Int) (l : List Int) : Bool := l.all (fun c => inR c lo hi) && decide ((l.length : Int) = n)
def properB (es : List (List Int)) (cs : List Int) : Bool := !(es.any fun e => decide (cs.getD (e.getD 0 0).toNat 0 = cs.getD (e.getD 1 0).toNat 0))
/-- a graph at an address -/
def GraphAt (w : World) (b o : Nat) (n : Int) (v : Value) : Prop := b < w.heap.size ∧ w.cell? ⟨b, o, none⟩ = some (.int .i64 n) ∧ w.cell? ⟨b, o + 1, none⟩ = some v
theorem GraphAt.below {w w' : World} {b o : Nat} {n : Int} {v : Value} (h : GraphAt w b o n v) (hb : Below w.heap.size w w') : GraphAt w' b o n v :=
  ⟨Nat.lt_of_lt_of_le h.1 hb.size, by rw [hb.cell (p := ⟨b, o, none⟩) h.1]; exact h.2.1, by rw [hb.cell (p := ⟨b, o + 1, none⟩) h.1]; exact h.2.2⟩
theorem graphAt_new (w : World) (n : Int) (v : Value) : GraphAt (w.alloc (.cells #[.int .i64 n, v] 29)) w.heap.size 0 n v := by
  refine ⟨by simp, ?_, ?_⟩ <;> simp [go_sem]
end Go.Proofs.Ytmhpbkckmjdojaa
