/-
  The program's decks; DeckAt and DeckNumber, both sides.
-/
import Derived.Test.YtdhkbajkghngeaaDfs
import Derived.Laws.EntriesVeiled
namespace Go.Proofs.Ytdhkbajkghngeaa
open Go.RowKit Go.Sort
theorem isE_old {E : Nat} {w : World} {o : Obj} {k : Nat} (h : k < w.heap.size) : isE E (w.alloc o) k ↔ isE E w k := by
  refine isE_same ?_
  show (w.heap.push o)[k]? = _
  rw [Array.getElem?_push, if_neg (by omega)]
theorem not_isE_at {E T : Nat} {w : World} {cs : Array Value} {k : Nat} (hk : k = w.heap.size) (h : T ≠ E) : ¬ isE E (w.alloc (.cells cs T)) k := by
  rintro ⟨c, f, he⟩
  subst hk
  have : (w.heap.push (.cells cs T))[w.heap.size]? = some (.cells c E f) := he
  rw [Array.getElem?_push, if_pos rfl] at this
  simp at this
  exact h this.2.1
set_option maxRecDepth 100000 in
set_option maxHeartbeats 1000000 in
theorem decks_any (c : Nat) (w : World) (h1 : 1 ≤ c) (h3 : c ≤ 3) :
    Calls Try.prog 125 #[.int .i64 c] w fun e w' => ∃ v, e = .returned v ∧ OwnII w' w.heap.size v (decksL c c) ∧ Below w.heap.size w w' := by
  have hmf : ∀ (fn : Fn) (first cap : Array Value) (w : World), (Instr.makeFunc fn first cap).run Try.prog w = .ok (.func fn first cap) w := fun _ _ _ _ => rfl
  have HS := Lib.hid (decks_small h1 h3 (Nat.le_refl c)).1
  have hbx : DfsBox ((((w.alloc (.cells #[.int .i64 c] 2)).alloc (.cells #[] 25)).alloc (.cells #[.slice (some ⟨w.heap.size + 1, 0, none⟩) 0 0] 22)).alloc (.cells #[.func (.func 205) #[] #[.pointer (some ⟨w.heap.size, 0, none⟩), .pointer (some ⟨w.heap.size + 1 + 1, 0, none⟩), .pointer (some ⟨w.heap.size + 1 + 1 + 1, 0, none⟩)]] 178)) w.heap.size (w.heap.size + 1 + 1) (w.heap.size + 1 + 1 + 1) c (.slice (some ⟨w.heap.size + 1, 0, none⟩) 0 0) := by
    refine ⟨?_, ?_, ?_, ?_, ?_, ?_, ?_, ?_⟩
    · simp [go_sem]
    · simp [go_sem]
    · simp [go_sem]
    · simp [go_sem]
    all_goals (repeat (first | exact not_isE_at (by first | (simp; done) | fail) (by decide) | rw [isE_old (by first | (simp; done) | (simp; omega) | fail)]))
  have hown : OwnII ((((w.alloc (.cells #[.int .i64 c] 2)).alloc (.cells #[] 25)).alloc (.cells #[.slice (some ⟨w.heap.size + 1, 0, none⟩) 0 0] 22)).alloc (.cells #[.func (.func 205) #[] #[.pointer (some ⟨w.heap.size, 0, none⟩), .pointer (some ⟨w.heap.size + 1 + 1, 0, none⟩), .pointer (some ⟨w.heap.size + 1 + 1 + 1, 0, none⟩)]] 178)) (w.heap.size + 1) (.slice (some ⟨w.heap.size + 1, 0, none⟩) 0 0) [] := by
    have h0 := OwnII.empty (w.alloc (.cells #[.int .i64 c] 2)) (base := w.heap.size + 1) (by simp)
    rw [show (w.alloc (.cells #[.int .i64 c] 2)).heap.size = w.heap.size + 1 by simp] at h0
    exact (h0.below ((Below.refl _ _).alloc (Nat.le_refl _) _)).below ((Below.refl _ _).alloc (Nat.le_refl _) _)
  have bw : Below w.heap.size w ((((w.alloc (.cells #[.int .i64 c] 2)).alloc (.cells #[] 25)).alloc (.cells #[.slice (some ⟨w.heap.size + 1, 0, none⟩) 0 0] 22)).alloc (.cells #[.func (.func 205) #[] #[.pointer (some ⟨w.heap.size, 0, none⟩), .pointer (some ⟨w.heap.size + 1 + 1, 0, none⟩), .pointer (some ⟨w.heap.size + 1 + 1 + 1, 0, none⟩)]] 178)) := ((((Below.refl _ _).alloc (Nat.le_refl _) _).alloc (by simp) _).alloc (by simp; omega) _).alloc (by simp; omega) _
  have HBX := Lib.hid hbx
  have HOW := Lib.hid hown.b
  have HBW := Lib.hid bw
  clear hbx hown bw
  go_enter Try.func125, Try.ntmps125
  go_wp2_with fail
  refine (dfs_any (w.heap.size + 1) _ _ _ c (by omega) (by omega) (by omega) c [] _ _ [] _ _ (Lib.hid (by simp)) HBX.out HOW.out (OwnI.nil _ _) (Lib.hid (fun g hg => by simp [Value.ownBlock] at hg)) (by rw [dfsL_decks c h1 h3]; have := HS.out; simp; omega) (by simp)).mono ?_
  rintro e w1 ⟨v1, rfl, x1, o1, f1⟩
  rw [List.nil_append, dfsL_decks c h1 h3] at o1
  obtain ⟨r0, q0, _, _, _, _, _, _⟩ := id x1
  obtain ⟨va, n, vc, rfl, _⟩ := o1.form
  have HF := Lib.hid f1
  clear x1 f1
  go_wp2
  go_ret
  exact ⟨_, rfl, o1.lower (by omega), HBW.out.trans (HF.out.below (by omega) (by omega) (by simp; omega))⟩
end Go.Proofs.Ytdhkbajkghngeaa
