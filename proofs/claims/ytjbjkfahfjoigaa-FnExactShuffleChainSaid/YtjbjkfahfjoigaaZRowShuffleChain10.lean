/-
  DeckAt and DeckNumber, both sides. With it: The program's decks; DeckAt and DeckNumber, both sides.
-/
import Derived.Test.YtjbjkfahfjoigaaZRowShuffleChain7
import Derived.Laws.EntriesVeiled
import Derived.Test.YtjbjkfahfjoigaaZRowShuffleChain5
import Derived.Test.YtjbjkfahfjoigaaZRowShuffleChain4
set_option linter.unusedVariables false
set_option linter.unusedSimpArgs false
namespace Go.Proofs.Ytjbjkfahfjoigaa
open Go.RowKit Go.Sort
theorem isE_old {E : Nat} {w : World} {o : Obj} {k : Nat} (h : k < w.heap.size) : isE E (w.alloc o) k ↔ isE E w k := by
  refine isE_same ?_
  show (w.heap.push o)[k]? = _
  rw [Array.getElem?_push, if_neg (by omega)]
theorem not_isE_at {E T : Nat} {w : World} {cs : Array Value} {k : Nat} (hk : k = w.heap.size) (h : T ≠ E) : ¬ isE E (w.alloc (.cells cs T)) k := by
  rintro ⟨c, f, he⟩
  subst hk
  have : (w.heap.push (.cells cs T))[w.heap.size]? = some (.cells c E f) := he
  rw [Array.getElem?_push, if_pos rfl] at this
  simp at this
  exact h this.2.1
set_option maxRecDepth 100000 in
set_option maxHeartbeats 1000000 in
theorem decks_any (c : Nat) (w : World) (h1 : 1 ≤ c) (h3 : c ≤ 3) :
    Calls Try.prog 20 #[.int .i64 c] w fun e w' => ∃ v, e = .returned v ∧ OwnII w' w.heap.size v (decksL c c) ∧ Below w.heap.size w w' := by
  have hmf : ∀ (fn : Fn) (first cap : Array Value) (w : World), (Instr.makeFunc fn first cap).run Try.prog w = .ok (.func fn first cap) w := fun _ _ _ _ => rfl
  have HS := Lib.hid (decks_small h1 h3 (Nat.le_refl c)).1
  have hbx : DfsBox ((((w.alloc (.cells #[.int .i64 c] 2)).alloc (.cells #[] 42)).alloc (.cells #[.slice (some ⟨w.heap.size + 1, 0, none⟩) 0 0] 22)).alloc (.cells #[.func (.func 43) #[] #[.pointer (some ⟨w.heap.size, 0, none⟩), .pointer (some ⟨w.heap.size + 1 + 1, 0, none⟩), .pointer (some ⟨w.heap.size + 1 + 1 + 1, 0, none⟩)]] 71)) w.heap.size (w.heap.size + 1 + 1) (w.heap.size + 1 + 1 + 1) c (.slice (some ⟨w.heap.size + 1, 0, none⟩) 0 0) := by
    refine ⟨?_, ?_, ?_, ?_, ?_, ?_, ?_, ?_⟩
    · simp [go_sem]
    · simp [go_sem]
    · simp [go_sem]
    · simp [go_sem]
    all_goals (repeat (first | exact not_isE_at (by first | (simp; done) | fail) (by decide) | rw [isE_old (by first | (simp; done) | (simp; omega) | fail)]))
  have hown : OwnII ((((w.alloc (.cells #[.int .i64 c] 2)).alloc (.cells #[] 42)).alloc (.cells #[.slice (some ⟨w.heap.size + 1, 0, none⟩) 0 0] 22)).alloc (.cells #[.func (.func 43) #[] #[.pointer (some ⟨w.heap.size, 0, none⟩), .pointer (some ⟨w.heap.size + 1 + 1, 0, none⟩), .pointer (some ⟨w.heap.size + 1 + 1 + 1, 0, none⟩)]] 71)) (w.heap.size + 1) (.slice (some ⟨w.heap.size + 1, 0, none⟩) 0 0) [] := by
    have h0 := OwnII.empty (w.alloc (.cells #[.int .i64 c] 2)) (base := w.heap.size + 1) (by simp)
    rw [show (w.alloc (.cells #[.int .i64 c] 2)).heap.size = w.heap.size + 1 by simp] at h0
    exact (h0.below ((Below.refl _ _).alloc (Nat.le_refl _) _)).below ((Below.refl _ _).alloc (Nat.le_refl _) _)
  have bw : Below w.heap.size w ((((w.alloc (.cells #[.int .i64 c] 2)).alloc (.cells #[] 42)).alloc (.cells #[.slice (some ⟨w.heap.size + 1, 0, none⟩) 0 0] 22)).alloc (.cells #[.func (.func 43) #[] #[.pointer (some ⟨w.heap.size, 0, none⟩), .pointer (some ⟨w.heap.size + 1 + 1, 0, none⟩), .pointer (some ⟨w.heap.size + 1 + 1 + 1, 0, none⟩)]] 71)) := ((((Below.refl _ _).alloc (Nat.le_refl _) _).alloc (by simp) _).alloc (by simp; omega) _).alloc (by simp; omega) _
  have HBX := Lib.hid hbx
  have HOW := Lib.hid hown.b
  have HBW := Lib.hid bw
  clear hbx hown bw
  go_enter Try.func20, Try.ntmps20
  go_wp2_with fail
  refine (dfs_any (w.heap.size + 1) _ _ _ c (by omega) (by omega) (by omega) c [] _ _ [] _ _ (Lib.hid (by simp)) HBX.out HOW.out (OwnI.nil _ _) (Lib.hid (fun g hg => by simp [Value.ownBlock] at hg)) (by rw [dfsL_decks c h1 h3]; have := HS.out; simp; omega) (by simp)).mono ?_
  rintro e w1 ⟨v1, rfl, x1, o1, f1⟩
  rw [List.nil_append, dfsL_decks c h1 h3] at o1
  obtain ⟨r0, q0, _, _, _, _, _, _⟩ := id x1
  obtain ⟨va, n, vc, rfl, _⟩ := o1.form
  have HF := Lib.hid f1
  clear x1 f1
  go_wp2
  go_ret
  exact ⟨_, rfl, o1.lower (by omega), HBW.out.trans (HF.out.below (by omega) (by omega) (by simp; omega))⟩
end Go.Proofs.Ytjbjkfahfjoigaa
namespace Go.Proofs.Ytjbjkfahfjoigaa
open Go.RowKit Go.Sort
theorem OwnII.rowAt {w : World} {base : Nat} {ad : Option Addr} {n c : Nat} {xss : List (List Int)} (h : OwnII w base (.slice ad n c) xss) {i : Nat} (hi : i < xss.length) :
    ∃ b off u, ad = some ⟨b, off, none⟩ ∧ w.cell? ⟨b, off + i, none⟩ = some u ∧ OwnI w base u xss[i] := by
  obtain ⟨vs, h1, h2⟩ := h
  obtain ⟨ad', c', he, _, _, hr⟩ := ownsRow_rd h1
  simp at he
  obtain ⟨rfl, _, rfl⟩ := he
  have hv : i < vs.length := by rw [h2.1]; exact hi
  obtain ⟨b, off, e1, e2⟩ := hr.one (List.getElem?_eq_getElem hv)
  exact ⟨b, off, vs[i], e1, e2, h2.2.1 i _ _ (List.getElem?_eq_getElem hv) (List.getElem?_eq_getElem hi)⟩
def tupVC (v : Value) (c : Int) : Value := .tuple #[v, .int .i64 c]
def deckAtR (cards number : Int) : List Int × Int :=
  if inR cards 1 3 = true then (if inR number 0 ((decksL cards.toNat cards.toNat).length - 1) = true then ((decksL cards.toNat cards.toNat).getD number.toNat [], 0) else ([], 2)) else ([], 2)
/-- a fresh []int64 and a code -/
def FreshIC (w : World) (R : List Int × Int) (e : Ending) (w' : World) : Prop := ∃ v, e = .returned (tupVC v R.2) ∧ OwnI w' w.heap.size v R.1 ∧ Below w.heap.size w w'
theorem deckAtR_len (a b : Int) : (deckAtR a b).1.length ≤ 3 := by
  unfold deckAtR
  split
  · rename_i h
    split
    · have h1 := inR_iff.1 h
      obtain ⟨n, rfl⟩ := Int.eq_ofNat_of_zero_le (show 0 ≤ a by omega)
      have := (decks_small (c := n) (k := n) (by omega) (by omega) (Nat.le_refl _)).2
      rw [Int.toNat_natCast]
      dsimp only
      by_cases hb : b.toNat < (decksL n n).length
      · rw [List.getD_eq_getElem?_getD, List.getElem?_eq_getElem hb]
        have := this _ (List.getElem_mem hb)
        simp; omega
      · rw [List.getD_eq_getElem?_getD, List.getElem?_eq_none (by omega)]; simp
    · simp
  · simp
theorem findFrom_ix (D : List (List Int)) (x : List Int) : ∀ k, ixRow (fun y => decide (x = y)) D k = findFrom D x k := by
  induction D with
  | nil => intro k; rfl
  | cons y r ih =>
    intro k
    unfold ixRow findFrom
    rw [ih (k + 1)]
    by_cases h : x = y
    · subst h; simp
    · have h2 : ¬ y = x := fun e => h e.symm
      simp [h, h2]
set_option maxHeartbeats 1000000 in
theorem deckIndex_any {u : Value} {xs : List Int} (w : World) (ha : SlI w u xs) (h1 : 1 ≤ xs.length) (h3 : xs.length ≤ 3) :
    Calls Try.prog 22 #[u] w fun e w' => e = .returned (.int .i64 (findFrom (decksL xs.length xs.length) xs 0)) ∧ Below w.heap.size w w' := by
  have hmf : ∀ (fn : Fn) (first cap : Array Value) (w : World), (Instr.makeFunc fn first cap).run Try.prog w = .ok (.func fn first cap) w := fun _ _ _ _ => rfl
  have HA := Lib.hid (fun W (h : Below w.heap.size w W) => ha.below h)
  have HX := Lib.hid (findFrom_ix (decksL xs.length xs.length) xs 0)
  obtain ⟨a, c, rfl, _⟩ := id ha
  have bx : Below w.heap.size w (w.alloc (.cells #[.slice a xs.length c] 42)) := (Below.refl _ _).alloc (Nat.le_refl _) _
  have hbd := ixRow_bd (fun y => decide (xs = y)) (decksL xs.length xs.length) 0
  have hsm := (decks_small h1 h3 (Nat.le_refl _)).1
  have X := Lib.hid (CellsAt.new w [.slice a xs.length c] 42)
  clear ha
  go_enter Try.func22, Try.ntmps22
  go_wp2_with fail
  refine (decks_any xs.length _ h1 h3).mono ?_
  rintro e w1 ⟨v, rfl, o1, b1⟩
  have hb1 := bx.trans (b1.mono bx.size)
  have X1 := Lib.hid (X.out.below b1)
  go_wp2_with fail
  refine (IndexFuncDeck_any _ (fun y => decide (xs = y)) _ o1.sl (fun W y u hW _ hu => ?_)).mono ?_
  · have c0 := (X1.out.below hW).get 0 _ rfl
    have hd := HA.out W (hb1.trans (hW.mono hb1.size))
    go_enter Try.func51, Try.ntmps51
    go_wp2_with fail
    refine (Equal_any _ hd hu).mono ?_
    rintro e w2 ⟨rfl, b2⟩
    go_wp2
    go_ret
    exact ⟨rfl, b2⟩
  · rintro e w2 ⟨rfl, b2⟩
    go_wp2
    go_ret
    exact ⟨ri HX.out, hb1.trans (b2.mono hb1.size)⟩
def deckNumR (x : List Int) : Int × Int := if findD x < 0 then (0, 2) else (findD x, 0)
end Go.Proofs.Ytjbjkfahfjoigaa
