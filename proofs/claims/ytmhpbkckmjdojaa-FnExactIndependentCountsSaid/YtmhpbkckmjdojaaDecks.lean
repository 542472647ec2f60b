/-
  The program's decks; DeckAt and DeckNumber, both sides.
-/
import Derived.Test.YtmhpbkckmjdojaaDfs
import Derived.Laws.EntriesVeiled
namespace Go.Proofs.Ytmhpbkckmjdojaa
open Go.RowKit Go.Sort
theorem isE_old {E : Nat} {w : World} {o : Obj} {k : Nat} (h : k < w.heap.size) : isE E (w.alloc o) k ↔ isE E w k := by
  refine isE_same ?_
  show (w.heap.push o)[k]? = _
  rw [Array.getElem?_push, if_neg (by omega)]
theorem not_isE_at {E T : Nat} {w : World} {cs : Array Value} {k : Nat} (hk : k = w.heap.size) (h : T ≠ E) : ¬ isE E (w.alloc (.cells cs T)) k := by
  rintro ⟨c, f, he⟩
  subst hk
  have : (w.heap.push (.cells cs T))[w.heap.size]? = some (.cells c E f) := he
  rw [Array.getElem?_push, if_pos rfl] at this
  simp at this
  exact h this.2.1
end Go.Proofs.Ytmhpbkckmjdojaa
