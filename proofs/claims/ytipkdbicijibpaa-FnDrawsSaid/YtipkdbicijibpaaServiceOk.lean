/-
  Which services are valid.
-/
import Derived.Test.YtipkdbicijibpaaService
namespace Go.Proofs.Ytipkdbicijibpaa
open Go.RowKit Go.Sort
/-- six cells: a service -/
def ServAt (w : World) (b o : Nat) (s t : Int) (v : Value) (bs sm wk : Int) : Prop :=
  ChainAt w b o s t v ∧ w.cell? ⟨b, o + 3, none⟩ = some (.int .i64 bs) ∧ w.cell? ⟨b, o + 4, none⟩ = some (.int .i64 sm) ∧ w.cell? ⟨b, o + 5, none⟩ = some (.int .i64 wk)
theorem ServAt.below {w w' : World} {b o : Nat} {s t : Int} {v : Value} {bs sm wk : Int} (h : ServAt w b o s t v bs sm wk) (hb : Below w.heap.size w w') : ServAt w' b o s t v bs sm wk :=
  ⟨h.1.below hb, by rw [hb.cell (p := ⟨b, o + 3, none⟩) h.1.1]; exact h.2.1, by rw [hb.cell (p := ⟨b, o + 4, none⟩) h.1.1]; exact h.2.2.1, by rw [hb.cell (p := ⟨b, o + 5, none⟩) h.1.1]; exact h.2.2.2⟩
end Go.Proofs.Ytipkdbicijibpaa
