/-
  Decks: all orders of few cards, as the reference lists them; the place of a deck among them. With it: Marks written into what a law has handed in: what is made later, and what was there before, stays. Frames: what stays where some blocks alone are written; cells of a new block. Searches: plain laws. A search by impl.RunByDraws$1. A cell of a row of owned rows: what it holds, and what a store into it leaves. Graphs: copied, counted, compared. SameGraph, both.
-/
import Derived.Test.YtofpelmplcoegaaGreatZRowFnPlantScript5
import Derived.Test.YtofpelmplcoegaaGreatZRowFnPlantScript3
set_option linter.unusedVariables false
set_option linter.unusedSimpArgs false
namespace Go.Proofs.YtofpelmplcoegaaGreat
open Go.RowKit Go.Sort
/-- all but blocks from lo to hi stays -/
structure Mid (lo hi : Nat) (w w' : World) : Prop where
  os : w'.os = w.os
  tape : w'.tape = w.tape
  output : w'.output = w.output
  size : w.heap.size ≤ w'.heap.size
  block : ∀ k, k < w.heap.size → (k < lo ∨ hi ≤ k) → w'.heap[k]? = w.heap[k]?
theorem Mid.refl (lo hi : Nat) (w : World) : Mid lo hi w w := ⟨rfl, rfl, rfl, Nat.le_refl _, fun _ _ _ => rfl⟩
theorem Mid.trans {lo hi : Nat} {a b c : World} (h : Mid lo hi a b) (k : Mid lo hi b c) : Mid lo hi a c :=
  ⟨k.os.trans h.os, k.tape.trans h.tape, k.output.trans h.output, Nat.le_trans h.size k.size, fun i hi' hx => (k.block i (Nat.lt_of_lt_of_le hi' h.size) hx).trans (h.block i hi' hx)⟩
theorem Mid.below {lo hi : Nat} {w w' : World} (h : Mid lo hi w w') (hlo : lo ≤ w.heap.size) : Below lo w w' := ⟨h.os, h.tape, h.output, h.size, fun k hk => h.block k (Nat.lt_of_lt_of_le hk hlo) (.inl hk)⟩
theorem Mid.of_below {lo hi : Nat} {w w' : World} (h : Below w.heap.size w w') : Mid lo hi w w' := ⟨h.os, h.tape, h.output, h.size, fun k hk _ => h.block k hk⟩
theorem Mid.of_grown {lo hi : Nat} {w w' : World} {row : Option Nat} (h : w.grownBy w' row) (hr : ∀ g, row = some g → lo ≤ g ∧ g < hi) : Mid lo hi w w' :=
  ⟨h.os, h.tape, h.output, h.size, fun k hk hx => h.block k hk (by
    intro e
    have := hr k e.symm
    omega)⟩
def sumL (xss : List (List Int)) : Nat := (xss.map List.length).sum
/-- rows whose blocks lie below B -/
def OwnIIB (w : World) (base B : Nat) (v : Value) (xss : List (List Int)) : Prop :=
  ∃ vs, w.ownsRow base 30 1 v xss.length vs ∧ Rows2 w base vs xss ∧ ∀ (i : Nat) (u : Value) (g : Nat), vs[i]? = some u → u.ownBlock = some g → g < B
theorem OwnII.b {w : World} {base : Nat} {v : Value} {xss : List (List Int)} (h : OwnII w base v xss) : OwnIIB w base w.heap.size v xss := by
  obtain ⟨vs, h1, h2⟩ := h
  exact ⟨vs, h1, h2, fun i u g hu hg => (h2.lt i u g hu hg).2⟩
theorem OwnIIB.below {w w' : World} {base B : Nat} {v : Value} {xss : List (List Int)} (h : OwnIIB w base B v xss) (hb : Below w.heap.size w w') : OwnIIB w' base B v xss := by
  obtain ⟨vs, h1, h2, h3⟩ := h
  exact ⟨vs, ownsRow_below h1 hb, h2.below hb, h3⟩
theorem OwnIIB.ii {w : World} {base B : Nat} {v : Value} {xss : List (List Int)} (h : OwnIIB w base B v xss) : OwnII w base v xss := by
  obtain ⟨vs, h1, h2, _⟩ := h
  exact ⟨vs, h1, h2⟩
theorem OwnIIB.sl {w : World} {base B : Nat} {v : Value} {xss : List (List Int)} (h : OwnIIB w base B v xss) : SlII w v xss := h.ii.sl
end Go.Proofs.YtofpelmplcoegaaGreat
namespace Go.Proofs.YtofpelmplcoegaaGreat
open Go.RowKit Go.Sort
/-- the first cells of a block -/
def CellsAt (w : World) (b : Nat) (vs : List Value) : Prop := b < w.heap.size ∧ ∀ i u, vs[i]? = some u → w.cell? ⟨b, i, none⟩ = some u
theorem CellsAt.new (w : World) (vs : List Value) (T : Nat) : CellsAt (w.alloc (.cells vs.toArray T)) w.heap.size vs := by
  refine ⟨by simp, fun i u h => ?_⟩
  simp [go_sem, h]
theorem CellsAt.new' (w : World) (vs : List Value) (T : Nat) {b : Nat} (hb : b = w.heap.size) : CellsAt (w.alloc (.cells vs.toArray T)) b vs := by
  subst hb; exact CellsAt.new w vs T
theorem CellsAt.below {w w' : World} {b : Nat} {vs : List Value} (h : CellsAt w b vs) (hb : Below w.heap.size w w') : CellsAt w' b vs :=
  ⟨Nat.lt_of_lt_of_le h.1 hb.size, fun i u hu => by rw [hb.cell (p := ⟨b, i, none⟩) h.1]; exact h.2 i u hu⟩
theorem CellsAt.get {w : World} {b : Nat} {vs : List Value} (h : CellsAt w b vs) (i : Nat) (u : Value) (hu : vs[i]? = some u) : w.cell? ⟨b, i, none⟩ = some u := h.2 i u hu
/-- all blocks but those of S stay -/
structure Fs (S : Nat → Prop) (w w' : World) : Prop where
  os : w'.os = w.os
  tape : w'.tape = w.tape
  output : w'.output = w.output
  size : w.heap.size ≤ w'.heap.size
  block : ∀ k, k < w.heap.size → ¬ S k → w'.heap[k]? = w.heap[k]?
theorem Fs.trans {S : Nat → Prop} {a b c : World} (h : Fs S a b) (k : Fs S b c) : Fs S a c :=
  ⟨k.os.trans h.os, k.tape.trans h.tape, k.output.trans h.output, Nat.le_trans h.size k.size, fun i hi hx => (k.block i (Nat.lt_of_lt_of_le hi h.size) hx).trans (h.block i hi hx)⟩
theorem Fs.of_below {S : Nat → Prop} {w w' : World} (h : Below w.heap.size w w') : Fs S w w' := ⟨h.os, h.tape, h.output, h.size, fun k hk _ => h.block k hk⟩
theorem Fs.below {S : Nat → Prop} {w w' : World} (h : Fs S w w') {B : Nat} (hB : B ≤ w.heap.size) (hS : ∀ k, S k → B ≤ k) : Below B w w' :=
  ⟨h.os, h.tape, h.output, h.size, fun k hk => h.block k (Nat.lt_of_lt_of_le hk hB) (fun hs => by have := hS k hs; omega)⟩
theorem Fs.of_grown {S : Nat → Prop} {w w' : World} {row : Option Nat} (h : w.grownBy w' row) (hr : ∀ g, row = some g → S g) : Fs S w w' :=
  ⟨h.os, h.tape, h.output, h.size, fun k hk hx => h.block k hk (fun e => hx (hr k e.symm))⟩
theorem Fs.cell {S : Nat → Prop} {w w' : World} (h : Fs S w w') {p : Addr} (hp : p.block < w.heap.size) (hn : ¬ S p.block) : w'.cell? p = w.cell? p :=
  World.cell?_of_block (h.block p.block hp hn)
theorem Fs.mono {S T : Nat → Prop} {w w' : World} (h : Fs S w w') (hST : ∀ k, S k → T k) : Fs T w w' :=
  ⟨h.os, h.tape, h.output, h.size, fun k hk hx => h.block k hk (fun hs => hx (hST k hs))⟩
theorem CellsAt.fs {S : Nat → Prop} {w w' : World} {b : Nat} {vs : List Value} (h : CellsAt w b vs) (hf : Fs S w w') (hS : ¬ S b) : CellsAt w' b vs :=
  ⟨Nat.lt_of_lt_of_le h.1 hf.size, fun i u hu => by rw [hf.cell (p := ⟨b, i, none⟩) h.1 hS]; exact h.2 i u hu⟩
theorem ownsRow_fs {S : Nat → Prop} {w w' : World} {base e size n : Nat} {v : Value} {xs : List Value} (h : w.ownsRow base e size v n xs) (hf : Fs S w w') (hS : ∀ k, S k → k < base) : w'.ownsRow base e size v n xs := by
  refine ⟨h.1, ?_⟩
  rcases h.2 with h2 | ⟨g, cap, cur, h1, h2, h3, h4⟩
  · exact .inl h2
  · refine .inr ⟨g, cap, cur, h1, h2, ?_, h4⟩
    rw [hf.block g (Array.getElem?_eq_some_iff.1 h3).1 (fun hs => by have := hS g hs; omega)]; exact h3
theorem OwnI.fs {S : Nat → Prop} {w w' : World} {base : Nat} {v : Value} {xs : List Int} (h : OwnI w base v xs) (hf : Fs S w w') (hS : ∀ k, S k → k < base) : OwnI w' base v xs := ownsRow_fs h hf hS
theorem OwnII.fs {S : Nat → Prop} {w w' : World} {base : Nat} {v : Value} {xss : List (List Int)} (h : OwnII w base v xss) (hf : Fs S w w') (hS : ∀ k, S k → k < base) : OwnII w' base v xss := by
  obtain ⟨vs, h1, h2⟩ := h
  exact ⟨vs, ownsRow_fs h1 hf hS, h2.1, fun i u xs hu hx => ownsRow_fs (h2.2.1 i u xs hu hx) hf hS, h2.2.2⟩
end Go.Proofs.YtofpelmplcoegaaGreat
namespace Go.Proofs.YtofpelmplcoegaaGreat
open Go.RowKit Go.Sort
def ixP (p : Int → Bool) : List Int → Nat → Int
  | [], _ => -1
  | x :: r, k => if p x = true then (k : Int) else ixP p r (k + 1)
def ixRow (p : List Int → Bool) : List (List Int) → Nat → Int
  | [], _ => -1
  | x :: r, k => if p x = true then (k : Int) else ixRow p r (k + 1)
end Go.Proofs.YtofpelmplcoegaaGreat
namespace Go.Proofs.YtofpelmplcoegaaGreat
open Go.RowKit Go.Sort
end Go.Proofs.YtofpelmplcoegaaGreat
namespace Go.Proofs.YtofpelmplcoegaaGreat
open Go.RowKit Go.Sort
theorem ownsRow_set_other {w : World} {base e size n : Nat} {v : Value} {xs : List Value} (h : w.ownsRow base e size v n xs) {a : Addr} (ha : v.ownBlock ≠ some a.block) (u : Value) : (w.setCell a u).ownsRow base e size v n xs := by
  refine ⟨h.1, ?_⟩
  rcases h.2 with h2 | ⟨g, cap, cur, rfl, h2, h3, h4⟩
  · exact .inl h2
  · refine .inr ⟨g, cap, cur, rfl, h2, ?_, h4⟩
    rw [heap_setCell_other w a g u (fun e => ha (by simp [Value.ownBlock, e]))]; exact h3
theorem ownsRow_fs1 {w w' : World} {base e size n : Nat} {v : Value} {xs : List Value} (h : w.ownsRow base e size v n xs) {r : Nat} (hf : Fs (fun k => k = r) w w') (ha : v.ownBlock ≠ some r) : w'.ownsRow base e size v n xs := by
  refine ⟨h.1, ?_⟩
  rcases h.2 with h2 | ⟨g, cap, cur, rfl, h2, h3, h4⟩
  · exact .inl h2
  · refine .inr ⟨g, cap, cur, rfl, h2, ?_, h4⟩
    rw [hf.block g (Array.getElem?_eq_some_iff.1 h3).1 (fun e => ha (by simp [Value.ownBlock, e]))]; exact h3
theorem Fs.cut {S T : Nat → Prop} {w w' : World} (h : Fs S w w') (hS : ∀ k, k < w.heap.size → S k → T k) : Fs T w w' := ⟨h.os, h.tape, h.output, h.size, fun k hk hx => h.block k hk (fun hs => hx (hS k hk hs))⟩
theorem Fs.then {S T R : Nat → Prop} {w w1 w2 : World} (h : Fs S w w1) (h2 : Fs T w1 w2) (hS : ∀ k, k < w.heap.size → S k → R k) (hT : ∀ k, k < w.heap.size → T k → R k) : Fs R w w2 :=
  ⟨h2.os.trans h.os, h2.tape.trans h.tape, h2.output.trans h.output, Nat.le_trans h.size h2.size, fun k hk hx => (h2.block k (Nat.lt_of_lt_of_le hk h.size) (fun ht => hx (hT k hk ht))).trans (h.block k hk (fun hs => hx (hS k hk hs)))⟩
theorem OwnIIB.cellAt {w : World} {base B : Nat} {v : Value} {xss : List (List Int)} (h : OwnIIB w base B v xss) {i j : Nat} (hi : i < xss.length) (hj : j < xss[i].length) :
    ∃ gv c g rc, v = .slice (some ⟨gv, 0, none⟩) xss.length c ∧ w.cell? ⟨gv, i, none⟩ = some (.slice (some ⟨g, 0, none⟩) xss[i].length rc) ∧ w.cell? ⟨g, j, none⟩ = some (.int .i64 xss[i][j]) ∧ w.frozen? ⟨g, j, none⟩ = false ∧
      base ≤ g ∧ g < w.heap.size ∧ base ≤ gv ∧ gv < w.heap.size ∧ ∀ x, OwnIIB (w.setCell ⟨g, j, none⟩ (.int .i64 x)) base B v (xss.set i (xss[i].set j x)) := by
  obtain ⟨vs, h1, h2, h3⟩ := h
  have hvl : i < vs.length := by rw [h2.1]; exact hi
  have hvi : vs[i]? = some vs[i] := List.getElem?_eq_getElem hvl
  have hu := h2.2.1 i vs[i] xss[i] hvi (List.getElem?_eq_getElem hi)
  rcases hu.forms with ⟨_, e⟩ | ⟨g, rc, e, hg1, hg2, _⟩
  · simp [e] at hj
  rcases id h1.2 with ⟨_, h0⟩ | ⟨gv, c, cur, hv, hgv, hcur, _⟩
  · omega
  subst hv
  obtain ⟨ad', c', he, _, _, hrd⟩ := ownsRow_rd h1
  simp at he
  obtain ⟨rfl, rfl⟩ := he
  obtain ⟨b, off, he, hcell⟩ := hrd.one hvi
  simp at he
  obtain ⟨rfl, rfl⟩ := he
  rw [e] at hcell hu hvi
  have hne : (Value.slice (some ⟨gv, 0, none⟩) xss.length c).ownBlock ≠ some g := hu.apart h1 rfl
  refine ⟨gv, c, g, rc, rfl, by simpa using hcell, hu.cell hj, hu.free j, hg1, hg2, hgv, (Array.getElem?_eq_some_iff.1 hcur).1, fun x => ⟨vs, ?_, ⟨by simp [h2.1], fun k u xs hk hx => ?_, h2.2.2⟩, h3⟩⟩
  · rw [List.length_set]; exact ownsRow_set_other h1 hne _
  · by_cases hki : k = i
    · subst hki
      rw [hvi] at hk
      cases hk
      rw [List.getElem?_set_self hi] at hx
      cases hx
      exact hu.set j x
    · rw [List.getElem?_set_ne (Ne.symm hki)] at hx
      exact ownsRow_set_other (h2.2.1 k u xs hk hx) (h2.2.2 i k _ u g (Ne.symm hki) hvi hk rfl) _
theorem OwnII.cellAt {w : World} {base : Nat} {v : Value} {xss : List (List Int)} (h : OwnII w base v xss) {i j : Nat} (hi : i < xss.length) (hj : j < xss[i].length) :
    ∃ gv c g rc, v = .slice (some ⟨gv, 0, none⟩) xss.length c ∧ w.cell? ⟨gv, i, none⟩ = some (.slice (some ⟨g, 0, none⟩) xss[i].length rc) ∧ w.cell? ⟨g, j, none⟩ = some (.int .i64 xss[i][j]) ∧ w.frozen? ⟨g, j, none⟩ = false ∧
      base ≤ g ∧ g < w.heap.size ∧ base ≤ gv ∧ gv < w.heap.size ∧ ∀ x, OwnII (w.setCell ⟨g, j, none⟩ (.int .i64 x)) base v (xss.set i (xss[i].set j x)) := by
  obtain ⟨gv, c, g, rc, h1, h2, h3, h4, h5, h6, h7, h8, h9⟩ := h.b.cellAt hi hj
  exact ⟨gv, c, g, rc, h1, h2, h3, h4, h5, h6, h7, h8, fun x => (h9 x).ii⟩
/-- a row of owned rows: itself owned; what it becomes, the rows become -/
theorem OwnIIB.rowAt {w : World} {base B : Nat} {v : Value} {xss : List (List Int)} (h : OwnIIB w base B v xss) {i : Nat} (hi : i < xss.length) (hj : 0 < xss[i].length) :
    ∃ gv c g rc, v = .slice (some ⟨gv, 0, none⟩) xss.length c ∧ w.cell? ⟨gv, i, none⟩ = some (.slice (some ⟨g, 0, none⟩) xss[i].length rc) ∧ OwnI w base (.slice (some ⟨g, 0, none⟩) xss[i].length rc) xss[i] ∧
      base ≤ g ∧ g < w.heap.size ∧ g < B ∧ base ≤ gv ∧ gv < w.heap.size ∧ gv ≠ g ∧ ∀ w' r', Fs (fun k => k = g) w w' → OwnI w' base (.slice (some ⟨g, 0, none⟩) xss[i].length rc) r' → OwnIIB w' base B v (xss.set i r') := by
  obtain ⟨vs, h1, h2, h3⟩ := h
  have hvl : i < vs.length := by rw [h2.1]; exact hi
  have hvi : vs[i]? = some vs[i] := List.getElem?_eq_getElem hvl
  have hu := h2.2.1 i vs[i] xss[i] hvi (List.getElem?_eq_getElem hi)
  rcases hu.forms with ⟨_, e⟩ | ⟨g, rc, e, hg1, hg2, _⟩
  · simp [e] at hj
  rcases id h1.2 with ⟨_, h0⟩ | ⟨gv, c, cur, hv, hgv, hcur, _⟩
  · omega
  subst hv
  obtain ⟨ad', c', he, _, _, hrd⟩ := ownsRow_rd h1
  simp at he
  obtain ⟨rfl, rfl⟩ := he
  obtain ⟨b, off, he, hcell⟩ := hrd.one hvi
  simp at he
  obtain ⟨rfl, rfl⟩ := he
  rw [e] at hcell hu hvi
  have hne : (Value.slice (some ⟨gv, 0, none⟩) xss.length c).ownBlock ≠ some g := hu.apart h1 rfl
  refine ⟨gv, c, g, rc, rfl, by simpa using hcell, hu, hg1, hg2, h3 i _ g hvi rfl, hgv, (Array.getElem?_eq_some_iff.1 hcur).1, fun e => hne (by simp [Value.ownBlock, e]), fun w' r' hf ho => ⟨vs, ?_, ⟨by simp [h2.1], fun k u xs hk hx => ?_, h2.2.2⟩, h3⟩⟩
  · rw [List.length_set]; exact ownsRow_fs1 h1 hf hne
  · by_cases hki : k = i
    · subst hki
      rw [hvi] at hk
      cases hk
      rw [List.getElem?_set_self hi] at hx
      cases hx
      exact ho
    · rw [List.getElem?_set_ne (Ne.symm hki)] at hx
      exact ownsRow_fs1 (h2.2.1 k u xs hk hx) hf (h2.2.2 i k _ u g (Ne.symm hki) hvi hk rfl)
theorem OwnIIB.rowOf {w : World} {base B gv n c : Nat} {xss : List (List Int)} (h : OwnIIB w base B (.slice (some ⟨gv, 0, none⟩) n c) xss) {i : Nat} {r : List Int} (hr : xss[i]? = some r) (hrl : r.length = n) (hn : 0 < n) :
    ∃ g rc, w.cell? ⟨gv, i, none⟩ = some (.slice (some ⟨g, 0, none⟩) n rc) ∧ OwnI w base (.slice (some ⟨g, 0, none⟩) n rc) r ∧
      base ≤ g ∧ g < B ∧ gv ≠ g ∧ ∀ w' r', Fs (fun k => k = g) w w' → OwnI w' base (.slice (some ⟨g, 0, none⟩) n rc) r' → OwnIIB w' base B (.slice (some ⟨gv, 0, none⟩) n c) (xss.set i r') := by
  obtain ⟨hi, rfl⟩ := List.getElem?_eq_some_iff.1 hr
  obtain ⟨gv', c', g, rc, he, h2, h3, h4, _, h5, _, _, h8, h9⟩ := h.rowAt hi (by omega)
  simp only [Value.slice.injEq, Option.some.injEq, Addr.mk.injEq] at he
  obtain ⟨⟨rfl, _⟩, _, rfl⟩ := he
  rw [hrl] at h2 h3
  refine ⟨g, rc, h2, h3, h4, h5, h8, fun w' r' hf ho => h9 w' r' hf (by rw [hrl]; exact ho)⟩
end Go.Proofs.YtofpelmplcoegaaGreat
namespace Go.Proofs.YtofpelmplcoegaaGreat
open Go.RowKit Go.Sort
def graphV (n : Int) (v : Value) : Value := .agg #[.int .i64 n, v]
end Go.Proofs.YtofpelmplcoegaaGreat
namespace Go.Proofs.YtofpelmplcoegaaGreat
open Go.RowKit Go.Sort
end Go.Proofs.YtofpelmplcoegaaGreat
namespace Go.Proofs.YtofpelmplcoegaaGreat
open Go.RowKit

/-- the next longer decks of one -/
def extD (c : Nat) (d : List Int) : List (List Int) := ((upTo' c).filter (fun x => !decide (x ∈ d))).map (fun x => d ++ [x])
where upTo' (n : Nat) : List Int := (List.range n).map fun (i : Nat) => (i : Int)
def extN (c : Nat) (d : List Int) (x : Nat) : List (List Int) := ((extD.upTo' x).filter (fun x => !decide (x ∈ d))).map (fun x => d ++ [x])
def decksL (c : Nat) : Nat → List (List Int)
  | 0 => [[]]
  | k + 1 => (decksL c k).flatMap (extD c)
theorem OwnII.one (w : World) {base : Nat} {u : Value} {xs : List Int} (hu : OwnI w base u xs) (hb : base ≤ w.heap.size) :
    OwnII (w.alloc (.cells #[u] 30)) base (.slice (some ⟨w.heap.size, 0, none⟩) 1 1) [xs] := by
  have hu1 : u.oneCell' = true := by rcases hu.2 with ⟨rfl, _⟩ | ⟨g, c, cur, rfl, _⟩ <;> rfl
  refine ⟨[u], World.ownsRow_lit (base := base) (e := 30) (size := 1) w #[u] 1 hb (by simp [maxLen]) (by simp), rfl, ?_, ?_⟩
  · intro i u' xs' h1 h2
    cases i with
    | zero => simp at h1 h2; subst h1 h2; exact hu.below ((Below.refl _ _).alloc (Nat.le_refl _) _)
    | succ i => simp at h1
  · intro i j u' v' g hij h1 h2
    cases i with
    | zero => cases j with
      | zero => exact absurd rfl hij
      | succ j => simp at h2
    | succ i => simp at h1

end Go.Proofs.YtofpelmplcoegaaGreat
