/-
  Free colours of a node, both sides.
-/
import Derived.Test.YtbhhihaaiiaagaaIndep
import Derived.Test.YtbhhihaaiiaagaaSrFree
import Derived.Test.YtbhhihaaiiaagaaStep
import Derived.Test.YtbhhihaaiiaagaaDeckAt
namespace Go.Proofs.Ytbhhihaaiiaagaa
open Go.RowKit Go.Sort
def neighE (node : Int) (e : List Int) : List Int := if node = e.getD 0 0 then [e.getD 1 0] else if node = e.getD 1 0 then [e.getD 0 0] else []
def neighL (es : List (List Int)) (node : Int) : List Int := es.flatMap (neighE node)
def takenB (es : List (List Int)) (cs : List Int) (node c : Int) : Bool := (neighL es node).any fun o => decide (cs.getD o.toNat 0 = c)
def freeL (es : List (List Int)) (cs : List Int) (node : Int) (k : Nat) : List Int := (upTo k).filter fun c => !takenB es cs node c
theorem freeL_yes {es : List (List Int)} {cs : List Int} {node : Int} {k : Nat} (h : takenB es cs node k = false) : freeL es cs node (k + 1) = freeL es cs node k ++ [(k : Int)] := by
  unfold freeL; rw [upTo_succ, List.filter_append]; simp [h]
theorem freeL_no {es : List (List Int)} {cs : List Int} {node : Int} {k : Nat} (h : takenB es cs node k = true) : freeL es cs node (k + 1) = freeL es cs node k := by
  unfold freeL; rw [upTo_succ, List.filter_append]; simp [h]
theorem freeL_length (es : List (List Int)) (cs : List Int) (node : Int) (k : Nat) : (freeL es cs node k).length ≤ k := by
  unfold freeL; refine Nat.le_trans (List.length_filter_le _ _) ?_; rw [upTo_length]; exact Nat.le_refl _
theorem neighE_len (node : Int) (e : List Int) : (neighE node e).length ≤ 1 := by
  unfold neighE
  split
  · simp
  · split <;> simp
theorem flat_len {l : List (List Int)} {f : List Int → List Int} (h : ∀ x, (f x).length ≤ 1) : (l.flatMap f).length ≤ l.length := by
  induction l with
  | nil => simp
  | cons x r ih => rw [List.flatMap_cons, List.length_append, List.length_cons]; have := h x; omega
theorem flat_take_succ {l : List (List Int)} {f : List Int → List Int} {k : Nat} (h : k < l.length) : (l.take (k + 1)).flatMap f = (l.take k).flatMap f ++ f l[k] := by
  rw [List.take_succ_eq_append_getElem h, List.flatMap_append]; simp
theorem neighE_two (node : Int) (p q : Nat) : neighE node [(p : Int), (q : Int)] = if node = (p : Int) then [(q : Int)] else if node = (q : Int) then [(p : Int)] else [] := rfl
theorem neighE_mem {node o : Int} {p q : Nat} (hpq : p < q) : o ∈ neighE node [(p : Int), (q : Int)] ↔ nearE node o [(p : Int), (q : Int)] = true := by
  rw [neighE_two, nearE_two]
  split
  · rename_i h; subst h; simp; constructor
    · intro h; left; exact h.symm
    · rintro (h | ⟨h1, h2⟩)
      · exact h.symm
      · omega
  · rename_i h
    split
    · rename_i h2; subst h2; simp; constructor
      · intro h3; right; exact h3.symm
      · rintro (⟨h3, _⟩ | h3)
        · omega
        · exact h3.symm
    · rename_i h2
      simp
      omega
theorem neigh_in {m : Nat} {es : List (List Int)} (hE : EdgesB m es) {node o : Int} (h : o ∈ neighL es node) : ∃ a : Nat, o = (a : Int) ∧ a < m := by
  unfold neighL at h
  rw [List.mem_flatMap] at h
  obtain ⟨e, he, ho⟩ := h
  obtain ⟨p, q, rfl, hpq, hq⟩ := hE e he
  rw [neighE_two] at ho
  split at ho
  · simp at ho; exact ⟨q, ho, hq⟩
  · split at ho
    · simp at ho; exact ⟨p, ho, by omega⟩
    · simp at ho
/-- as the reference has it -/
def freeS (es : List (List Int)) (cs : List Int) (node c : Int) (k : Nat) : Bool := (List.range k).all fun i => (!decide (cs.getD i 0 = c)) || !nearB es node (i : Int)
theorem free_law {m : Nat} {es : List (List Int)} {cs : List Int} {node c : Int} (hE : EdgesB m es) : freeS es cs node c m = !takenB es cs node c := by
  rw [Bool.eq_iff_iff]
  unfold freeS takenB
  simp only [List.all_eq_true, List.mem_range, Bool.or_eq_true, Bool.not_eq_true', decide_eq_false_iff_not, List.any_eq_false, decide_eq_true_eq]
  constructor
  · intro h o ho hc
    obtain ⟨a, rfl, ha⟩ := neigh_in hE ho
    rw [Int.toNat_natCast] at hc
    rcases h a ha with h1 | h1
    · exact h1 hc
    · unfold nearB at h1
      rw [List.any_eq_false] at h1
      unfold neighL at ho
      rw [List.mem_flatMap] at ho
      obtain ⟨e, he, ho⟩ := ho
      obtain ⟨p, q, rfl, hpq, hq⟩ := hE e he
      exact h1 _ he ((neighE_mem hpq).1 ho)
  · intro h i hi
    by_cases hc : cs.getD i 0 = c
    · right
      unfold nearB
      rw [List.any_eq_false]
      intro e he hn
      obtain ⟨p, q, rfl, hpq, hq⟩ := hE e he
      have ho : (i : Int) ∈ neighL es node := by
        unfold neighL
        rw [List.mem_flatMap]
        exact ⟨_, he, (neighE_mem hpq).2 hn⟩
      exact h _ ho (by rw [Int.toNat_natCast]; exact hc)
    · left; exact hc
theorem CellsAt.belowB {w w' : World} {b B : Nat} {vs : List Value} (h : CellsAt w b vs) (hB : b < B) (hb : Below B w w') : CellsAt w' b vs :=
  ⟨Nat.lt_of_lt_of_le h.1 hb.size, fun i u hu => by rw [hb.cell (p := ⟨b, i, none⟩) hB]; exact h.2 i u hu⟩
end Go.Proofs.Ytbhhihaaiiaagaa
