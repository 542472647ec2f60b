/-
  DeckAt and DeckNumber, both sides.
-/
import Derived.Test.YtmhpbkckmjdojaaDecks
import Derived.Test.YtmhpbkckmjdojaaSrDeck
import Derived.Test.YtmhpbkckmjdojaaSameGraph
namespace Go.Proofs.Ytmhpbkckmjdojaa
open Go.RowKit Go.Sort
theorem OwnII.rowAt {w : World} {base : Nat} {ad : Option Addr} {n c : Nat} {xss : List (List Int)} (h : OwnII w base (.slice ad n c) xss) {i : Nat} (hi : i < xss.length) :
    ∃ b off u, ad = some ⟨b, off, none⟩ ∧ w.cell? ⟨b, off + i, none⟩ = some u ∧ OwnI w base u xss[i] := by
  obtain ⟨vs, h1, h2⟩ := h
  obtain ⟨ad', c', he, _, _, hr⟩ := ownsRow_rd h1
  simp at he
  obtain ⟨rfl, _, rfl⟩ := he
  have hv : i < vs.length := by rw [h2.1]; exact hi
  obtain ⟨b, off, e1, e2⟩ := hr.one (List.getElem?_eq_getElem hv)
  exact ⟨b, off, vs[i], e1, e2, h2.2.1 i _ _ (List.getElem?_eq_getElem hv) (List.getElem?_eq_getElem hi)⟩
def tupVC (v : Value) (c : Int) : Value := .tuple #[v, .int .i64 c]
def deckAtR (cards number : Int) : List Int × Int :=
  if inR cards 1 3 = true then (if inR number 0 ((decksL cards.toNat cards.toNat).length - 1) = true then ((decksL cards.toNat cards.toNat).getD number.toNat [], 0) else ([], 2)) else ([], 2)
/-- a fresh []int64 and a code -/
def FreshIC (w : World) (R : List Int × Int) (e : Ending) (w' : World) : Prop := ∃ v, e = .returned (tupVC v R.2) ∧ OwnI w' w.heap.size v R.1 ∧ Below w.heap.size w w'
theorem deckAtR_len (a b : Int) : (deckAtR a b).1.length ≤ 3 := by
  unfold deckAtR
  split
  · rename_i h
    split
    · have h1 := inR_iff.1 h
      obtain ⟨n, rfl⟩ := Int.eq_ofNat_of_zero_le (show 0 ≤ a by omega)
      have := (decks_small (c := n) (k := n) (by omega) (by omega) (Nat.le_refl _)).2
      rw [Int.toNat_natCast]
      dsimp only
      by_cases hb : b.toNat < (decksL n n).length
      · rw [List.getD_eq_getElem?_getD, List.getElem?_eq_getElem hb]
        have := this _ (List.getElem_mem hb)
        simp; omega
      · rw [List.getD_eq_getElem?_getD, List.getElem?_eq_none (by omega)]; simp
    · simp
  · simp
theorem findFrom_ix (D : List (List Int)) (x : List Int) : ∀ k, ixRow (fun y => decide (x = y)) D k = findFrom D x k := by
  induction D with
  | nil => intro k; rfl
  | cons y r ih =>
    intro k
    unfold ixRow findFrom
    rw [ih (k + 1)]
    by_cases h : x = y
    · subst h; simp
    · have h2 : ¬ y = x := fun e => h e.symm
      simp [h, h2]
def deckNumR (x : List Int) : Int × Int := if findD x < 0 then (0, 2) else (findD x, 0)
end Go.Proofs.Ytmhpbkckmjdojaa
