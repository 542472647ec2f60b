/-
  Free colours of a node, both sides. With it: The program's decks; DeckAt and DeckNumber, both sides. DeckAt and DeckNumber, both sides.
-/
import Derived.Test.YtceobhmbnkheiaaZRowFnMaps7
import Derived.Laws.EntriesVeiled
import Derived.Test.YtceobhmbnkheiaaZRowFnMaps5
import Derived.Test.YtceobhmbnkheiaaZRowFnMaps4
set_option linter.unusedVariables false
set_option linter.unusedSimpArgs false
namespace Go.Proofs.Ytceobhmbnkheiaa
open Go.RowKit Go.Sort
theorem isE_old {E : Nat} {w : World} {o : Obj} {k : Nat} (h : k < w.heap.size) : isE E (w.alloc o) k ↔ isE E w k := by
  refine isE_same ?_
  show (w.heap.push o)[k]? = _
  rw [Array.getElem?_push, if_neg (by omega)]
theorem not_isE_at {E T : Nat} {w : World} {cs : Array Value} {k : Nat} (hk : k = w.heap.size) (h : T ≠ E) : ¬ isE E (w.alloc (.cells cs T)) k := by
  rintro ⟨c, f, he⟩
  subst hk
  have : (w.heap.push (.cells cs T))[w.heap.size]? = some (.cells c E f) := he
  rw [Array.getElem?_push, if_pos rfl] at this
  simp at this
  exact h this.2.1
end Go.Proofs.Ytceobhmbnkheiaa
namespace Go.Proofs.Ytceobhmbnkheiaa
open Go.RowKit Go.Sort
theorem hasIndex_any (x n : Int) (w : World) (h0 : 0 ≤ n) (h1 : n ≤ 1000000000) :
    Calls Try.prog 80 #[.int .i64 x, .int .i64 n] w fun e w' => e = .returned (.bool (inR x 0 (n - 1))) ∧ w = w' := by
  go_enter Try.func80, Try.ntmps80
  go_wp2_with (go_at_call 39; refine (inRange_any _ _ _ _).mono ?_; rintro e w' ⟨rfl, rfl⟩)
  go_ret
  exact ⟨rfl, rfl⟩
theorem OwnII.rowAt {w : World} {base : Nat} {ad : Option Addr} {n c : Nat} {xss : List (List Int)} (h : OwnII w base (.slice ad n c) xss) {i : Nat} (hi : i < xss.length) :
    ∃ b off u, ad = some ⟨b, off, none⟩ ∧ w.cell? ⟨b, off + i, none⟩ = some u ∧ OwnI w base u xss[i] := by
  obtain ⟨vs, h1, h2⟩ := h
  obtain ⟨ad', c', he, _, _, hr⟩ := ownsRow_rd h1
  simp at he
  obtain ⟨rfl, _, rfl⟩ := he
  have hv : i < vs.length := by rw [h2.1]; exact hi
  obtain ⟨b, off, e1, e2⟩ := hr.one (List.getElem?_eq_getElem hv)
  exact ⟨b, off, vs[i], e1, e2, h2.2.1 i _ _ (List.getElem?_eq_getElem hv) (List.getElem?_eq_getElem hi)⟩
def tupVC (v : Value) (c : Int) : Value := .tuple #[v, .int .i64 c]
def deckAtR (cards number : Int) : List Int × Int :=
  if inR cards 1 3 = true then (if inR number 0 ((decksL cards.toNat cards.toNat).length - 1) = true then ((decksL cards.toNat cards.toNat).getD number.toNat [], 0) else ([], 2)) else ([], 2)
/-- a fresh []int64 and a code -/
def FreshIC (w : World) (R : List Int × Int) (e : Ending) (w' : World) : Prop := ∃ v, e = .returned (tupVC v R.2) ∧ OwnI w' w.heap.size v R.1 ∧ Below w.heap.size w w'
theorem deckAtR_len (a b : Int) : (deckAtR a b).1.length ≤ 3 := by
  unfold deckAtR
  split
  · rename_i h
    split
    · have h1 := inR_iff.1 h
      obtain ⟨n, rfl⟩ := Int.eq_ofNat_of_zero_le (show 0 ≤ a by omega)
      have := (decks_small (c := n) (k := n) (by omega) (by omega) (Nat.le_refl _)).2
      rw [Int.toNat_natCast]
      dsimp only
      by_cases hb : b.toNat < (decksL n n).length
      · rw [List.getD_eq_getElem?_getD, List.getElem?_eq_getElem hb]
        have := this _ (List.getElem_mem hb)
        simp; omega
      · rw [List.getD_eq_getElem?_getD, List.getElem?_eq_none (by omega)]; simp
    · simp
  · simp
theorem findFrom_ix (D : List (List Int)) (x : List Int) : ∀ k, ixRow (fun y => decide (x = y)) D k = findFrom D x k := by
  induction D with
  | nil => intro k; rfl
  | cons y r ih =>
    intro k
    unfold ixRow findFrom
    rw [ih (k + 1)]
    by_cases h : x = y
    · subst h; simp
    · have h2 : ¬ y = x := fun e => h e.symm
      simp [h, h2]
def deckNumR (x : List Int) : Int × Int := if findD x < 0 then (0, 2) else (findD x, 0)
end Go.Proofs.Ytceobhmbnkheiaa
namespace Go.Proofs.Ytceobhmbnkheiaa
open Go.RowKit Go.Sort
def neighE (node : Int) (e : List Int) : List Int := if node = e.getD 0 0 then [e.getD 1 0] else if node = e.getD 1 0 then [e.getD 0 0] else []
def neighL (es : List (List Int)) (node : Int) : List Int := es.flatMap (neighE node)
def takenB (es : List (List Int)) (cs : List Int) (node c : Int) : Bool := (neighL es node).any fun o => decide (cs.getD o.toNat 0 = c)
def freeL (es : List (List Int)) (cs : List Int) (node : Int) (k : Nat) : List Int := (upTo k).filter fun c => !takenB es cs node c
theorem freeL_yes {es : List (List Int)} {cs : List Int} {node : Int} {k : Nat} (h : takenB es cs node k = false) : freeL es cs node (k + 1) = freeL es cs node k ++ [(k : Int)] := by
  unfold freeL; rw [upTo_succ, List.filter_append]; simp [h]
theorem freeL_no {es : List (List Int)} {cs : List Int} {node : Int} {k : Nat} (h : takenB es cs node k = true) : freeL es cs node (k + 1) = freeL es cs node k := by
  unfold freeL; rw [upTo_succ, List.filter_append]; simp [h]
theorem freeL_length (es : List (List Int)) (cs : List Int) (node : Int) (k : Nat) : (freeL es cs node k).length ≤ k := by
  unfold freeL; refine Nat.le_trans (List.length_filter_le _ _) ?_; rw [upTo_length]; exact Nat.le_refl _
theorem neighE_len (node : Int) (e : List Int) : (neighE node e).length ≤ 1 := by
  unfold neighE
  split
  · simp
  · split <;> simp
theorem flat_len {l : List (List Int)} {f : List Int → List Int} (h : ∀ x, (f x).length ≤ 1) : (l.flatMap f).length ≤ l.length := by
  induction l with
  | nil => simp
  | cons x r ih => rw [List.flatMap_cons, List.length_append, List.length_cons]; have := h x; omega
theorem flat_take_succ {l : List (List Int)} {f : List Int → List Int} {k : Nat} (h : k < l.length) : (l.take (k + 1)).flatMap f = (l.take k).flatMap f ++ f l[k] := by
  rw [List.take_succ_eq_append_getElem h, List.flatMap_append]; simp
theorem neighE_two (node : Int) (p q : Nat) : neighE node [(p : Int), (q : Int)] = if node = (p : Int) then [(q : Int)] else if node = (q : Int) then [(p : Int)] else [] := rfl
theorem neighE_mem {node o : Int} {p q : Nat} (hpq : p < q) : o ∈ neighE node [(p : Int), (q : Int)] ↔ nearE node o [(p : Int), (q : Int)] = true := by
  rw [neighE_two, nearE_two]
  split
  · rename_i h; subst h; simp; constructor
    · intro h; left; exact h.symm
    · rintro (h | ⟨h1, h2⟩)
      · exact h.symm
      · omega
  · rename_i h
    split
    · rename_i h2; subst h2; simp; constructor
      · intro h3; right; exact h3.symm
      · rintro (⟨h3, _⟩ | h3)
        · omega
        · exact h3.symm
    · rename_i h2
      simp
      omega
theorem neigh_in {m : Nat} {es : List (List Int)} (hE : EdgesB m es) {node o : Int} (h : o ∈ neighL es node) : ∃ a : Nat, o = (a : Int) ∧ a < m := by
  unfold neighL at h
  rw [List.mem_flatMap] at h
  obtain ⟨e, he, ho⟩ := h
  obtain ⟨p, q, rfl, hpq, hq⟩ := hE e he
  rw [neighE_two] at ho
  split at ho
  · simp at ho; exact ⟨q, ho, hq⟩
  · split at ho
    · simp at ho; exact ⟨p, ho, by omega⟩
    · simp at ho
/-- as the reference has it -/
def freeS (es : List (List Int)) (cs : List Int) (node c : Int) (k : Nat) : Bool := (List.range k).all fun i => (!decide (cs.getD i 0 = c)) || !nearB es node (i : Int)
theorem free_law {m : Nat} {es : List (List Int)} {cs : List Int} {node c : Int} (hE : EdgesB m es) : freeS es cs node c m = !takenB es cs node c := by
  rw [Bool.eq_iff_iff]
  unfold freeS takenB
  simp only [List.all_eq_true, List.mem_range, Bool.or_eq_true, Bool.not_eq_true', decide_eq_false_iff_not, List.any_eq_false, decide_eq_true_eq]
  constructor
  · intro h o ho hc
    obtain ⟨a, rfl, ha⟩ := neigh_in hE ho
    rw [Int.toNat_natCast] at hc
    rcases h a ha with h1 | h1
    · exact h1 hc
    · unfold nearB at h1
      rw [List.any_eq_false] at h1
      unfold neighL at ho
      rw [List.mem_flatMap] at ho
      obtain ⟨e, he, ho⟩ := ho
      obtain ⟨p, q, rfl, hpq, hq⟩ := hE e he
      exact h1 _ he ((neighE_mem hpq).1 ho)
  · intro h i hi
    by_cases hc : cs.getD i 0 = c
    · right
      unfold nearB
      rw [List.any_eq_false]
      intro e he hn
      obtain ⟨p, q, rfl, hpq, hq⟩ := hE e he
      have ho : (i : Int) ∈ neighL es node := by
        unfold neighL
        rw [List.mem_flatMap]
        exact ⟨_, he, (neighE_mem hpq).2 hn⟩
      exact h _ ho (by rw [Int.toNat_natCast]; exact hc)
    · left; exact hc
theorem CellsAt.belowB {w w' : World} {b B : Nat} {vs : List Value} (h : CellsAt w b vs) (hB : b < B) (hb : Below B w w') : CellsAt w' b vs :=
  ⟨Nat.lt_of_lt_of_le h.1 hb.size, fun i u hu => by rw [hb.cell (p := ⟨b, i, none⟩) hB]; exact h.2 i u hu⟩
end Go.Proofs.Ytceobhmbnkheiaa
