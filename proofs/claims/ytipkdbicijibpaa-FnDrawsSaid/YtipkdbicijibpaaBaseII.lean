/-
  The law package's own helpers on [][]int64: counted, copied, equal.
-/
import Derived.Test.YtipkdbicijibpaaBase
import Derived.Test.YtipkdbicijibpaaLibII
import Derived.Lib.QuietBelow
namespace Go.Proofs.Ytipkdbicijibpaa
open Go.RowKit Go.Sort

def sz1 (l : Int) (n : Nat) : Int := if l - n < 0 then -1 else l - n
def szRows : Int → List (List Int) → Int
  | l, [] => l
  | l, r :: rs => if sz1 l r.length < 0 then -1 else szRows (sz1 l r.length) rs
def szII (l : Int) (xss : List (List Int)) : Int := if l - xss.length < 0 then -1 else szRows (l - xss.length) xss
theorem sz1_le {l : Int} {n : Nat} : sz1 l n ≤ l ∨ sz1 l n = -1 := by unfold sz1; split <;> omega
theorem szRows_nonneg : ∀ {xss : List (List Int)} {l : Int}, 0 ≤ szRows l xss → 0 ≤ l ∧ szRows l xss ≤ l ∧ ∀ r ∈ xss, (r.length : Int) ≤ l
  | [], l, h => ⟨h, Int.le_refl _, by simp⟩
  | r :: rs, l, h => by
    unfold szRows at h ⊢
    by_cases h1 : sz1 l r.length < 0
    · rw [if_pos h1] at h; omega
    · rw [if_neg h1] at h ⊢
      obtain ⟨h2, h3, h4⟩ := szRows_nonneg h
      have h5 : sz1 l r.length = l - r.length := by unfold sz1 at h1 ⊢; split <;> simp_all
      refine ⟨by omega, by omega, fun x hx => ?_⟩
      simp at hx
      rcases hx with rfl | hx
      · omega
      · have := h4 x hx; omega
theorem szII_nonneg {xss : List (List Int)} {l : Int} (h : 0 ≤ szII l xss) : (xss.length : Int) ≤ l ∧ szII l xss ≤ l ∧ ∀ r ∈ xss, (r.length : Int) ≤ l := by
  unfold szII at h ⊢
  split at h
  · omega
  · rename_i h1
    rw [if_neg h1]
    obtain ⟨h2, h3, h4⟩ := szRows_nonneg h
    exact ⟨by omega, by omega, fun r hr => by have := h4 r hr; omega⟩
theorem szII_range (l : Int) (xss : List (List Int)) (h : l ≤ 1048576) : -1 ≤ szII l xss ∧ szII l xss ≤ 1048576 := by
  have key : ∀ (xss : List (List Int)) (l : Int), 0 ≤ l → l ≤ 1048576 → -1 ≤ szRows l xss ∧ szRows l xss ≤ 1048576 := by
    intro xss
    induction xss with
    | nil => intro l h0 h1; unfold szRows; omega
    | cons r rs ih =>
      intro l h0 h1
      unfold szRows
      split
      · omega
      · rename_i h2
        have h5 : sz1 l r.length = l - r.length := by unfold sz1 at h2 ⊢; split <;> simp_all
        exact ih _ (by omega) (by omega)
  unfold szII
  split
  · omega
  · exact key _ _ (by omega) (by omega)
theorem SlII.row {w : World} {ad : Option Addr} {vs : List Value} {xss : List (List Int)} (hl : vs.length = xss.length) (h : Rd w ad vs) (hr : ∀ (i : Nat) (hi : i < xss.length) u, vs[i]? = some u → SlI w u xss[i]) {k : Nat} (hk : k < xss.length) :
    ∃ u b off, ad = some ⟨b, off, none⟩ ∧ w.cell? ⟨b, off + k, none⟩ = some u ∧ SlI w u xss[k] := by
  obtain ⟨b, off, h1, h2⟩ := h.one (List.getElem?_eq_getElem (by omega : k < vs.length))
  exact ⟨_, b, off, h1, h2, hr k hk _ (List.getElem?_eq_getElem (by omega))⟩

theorem fillg {α : Type} {xs : List α} {z : α} {k : Nat} (h : k < xs.length) : (xs.take k ++ List.replicate (xs.length - k) z).set k xs[k] = xs.take (k+1) ++ List.replicate (xs.length - (k+1)) z := by
  rw [List.set_append_right _ _ (by simp; omega), List.take_succ_eq_append_getElem h, List.append_assoc]
  congr 1
  have e : xs.length - k = (xs.length - (k+1)) + 1 := by omega
  have e2 : k - (xs.take k).length = 0 := by simp; omega
  rw [e, e2, List.replicate_succ, List.set_cons_zero]; rfl
theorem Rows2.nils (w : World) (base n : Nat) : Rows2 w base (List.replicate n (.slice none 0 0)) (List.replicate n []) := by
  refine ⟨by simp, fun i u xs hu hx => ?_, fun i j u v g _ hu hv hg => ?_⟩
  · rw [List.getElem?_replicate] at hu hx
    split at hu
    · rename_i h
      rw [if_pos h] at hx
      simp at hu hx; subst hu hx; exact OwnI.nil _ _
    · simp at hu
  · rw [List.getElem?_replicate] at hu
    split at hu
    · simp at hu; subst hu; simp [Value.ownBlock] at hg
    · simp at hu
/-- storing a new row -/
theorem rows_store {w w1 : World} {base g n c : Nat} {vs : List Value} {xss : List (List Int)} {u : Value} {xs : List Int} (k : Nat)
    (h1 : w.ownsRow base 29 1 (.slice (some ⟨g, 0, none⟩) n c) n vs) (h2 : Rows2 w base vs xss) (hbase : base ≤ w.heap.size) (hu : OwnI w1 w.heap.size u xs) (hb : Below w.heap.size w w1) :
    (w1.setCell ⟨g, k, none⟩ u).ownsRow base 29 1 (.slice (some ⟨g, 0, none⟩) n c) n (vs.set k u) ∧ Rows2 (w1.setCell ⟨g, k, none⟩ u) base (vs.set k u) (xss.set k xs) := by
  have h3 := ownsRow_below h1 hb
  have h4 := World.ownsRow.stored h3 k u
  refine ⟨h4.1, ?_⟩
  have h5 : Rows2 w1 base (vs.set k u) (xss.set k xs) := Rows2.set (B := w.heap.size) (h2.below hb) (hu.lower hbase) (fun i v g hv hg => (h2.lt i v g hv hg).2) (fun g hg => (hu.lt g hg).1)
  exact h5.kept h3 h4.2

end Go.Proofs.Ytipkdbicijibpaa
