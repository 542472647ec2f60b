/-
  A desk learns a record: the program's and the reference's.
-/
import Derived.Test.YthbbnjpadmcbmaaJournal
import Derived.Test.YthbbnjpadmcbmaaQuietTail
namespace Go.Proofs.Ythbbnjpadmcbmaa
open Go.RowKit Go.Sort
/-- all blocks but those of S stay -/
structure Fr (S : Nat → Prop) (w w' : World) : Prop where
  os : w'.os = w.os
  tape : w'.tape = w.tape
  output : w'.output = w.output
  size : w.heap.size ≤ w'.heap.size
  block : ∀ k, k < w.heap.size → ¬ S k → w'.heap[k]? = w.heap[k]?
theorem Fr.refl (S : Nat → Prop) (w : World) : Fr S w w := ⟨rfl, rfl, rfl, Nat.le_refl _, fun _ _ _ => rfl⟩
theorem Fr.trans {S : Nat → Prop} {a b c : World} (h : Fr S a b) (k : Fr S b c) : Fr S a c :=
  ⟨k.os.trans h.os, k.tape.trans h.tape, k.output.trans h.output, Nat.le_trans h.size k.size, fun i hi hx => (k.block i (Nat.lt_of_lt_of_le hi h.size) hx).trans (h.block i hi hx)⟩
theorem Fr.of_below {S : Nat → Prop} {w w' : World} (h : Below w.heap.size w w') : Fr S w w' := ⟨h.os, h.tape, h.output, h.size, fun k hk _ => h.block k hk⟩
theorem Fr.set {S : Nat → Prop} {w w' : World} (h : Fr S w w') {a : Addr} (ha : S a.block) (u : Value) : Fr S w (w'.setCell a u) :=
  ⟨h.os, h.tape, h.output, by simpa using h.size, fun k hk hx => by
    rw [heap_setCell_other w' a k u (fun e => hx (by rw [e]; exact ha))]; exact h.block k hk hx⟩
theorem Fr.below {S : Nat → Prop} {w w' : World} (h : Fr S w w') {B : Nat} (hB : B ≤ w.heap.size) (hS : ∀ k, S k → B ≤ k) : Below B w w' :=
  ⟨h.os, h.tape, h.output, h.size, fun k hk => h.block k (Nat.lt_of_lt_of_le hk hB) (fun hs => by have := hS k hs; omega)⟩
theorem Fr.mono {S T : Nat → Prop} {w w' : World} (h : Fr S w w') (hST : ∀ k, S k → T k) : Fr T w w' :=
  ⟨h.os, h.tape, h.output, h.size, fun k hk hx => h.block k hk (fun hs => hx (hST k hs))⟩
def In3 (a b c : Nat) (k : Nat) : Prop := k = a ∨ k = b ∨ k = c
/-- a desk's cells -/
def DeskAt (w : World) (b o : Nat) (vl vr : Value) (outs : Int) : Prop :=
  b < w.heap.size ∧ w.cell? ⟨b, o, none⟩ = some vl ∧ w.cell? ⟨b, o + 1, none⟩ = some vr ∧ w.cell? ⟨b, o + 2, none⟩ = some (.int .i64 outs) ∧ w.frozen? ⟨b, o + 2, none⟩ = false
theorem DeskAt.below {w w' : World} {b o : Nat} {vl vr : Value} {outs : Int} (h : DeskAt w b o vl vr outs) (hb : Below w.heap.size w w') : DeskAt w' b o vl vr outs :=
  ⟨Nat.lt_of_lt_of_le h.1 hb.size, by rw [hb.cell (p := ⟨b, o, none⟩) h.1]; exact h.2.1, by rw [hb.cell (p := ⟨b, o + 1, none⟩) h.1]; exact h.2.2.1, by rw [hb.cell (p := ⟨b, o + 2, none⟩) h.1]; exact h.2.2.2.1, by rw [hb.frozen (p := ⟨b, o + 2, none⟩) h.1]; exact h.2.2.2.2⟩
theorem DeskAt.far {w : World} {b o : Nat} {vl vr : Value} {outs : Int} (h : DeskAt w b o vl vr outs) {a : Addr} (ha : b ≠ a.block) (u : Value) : DeskAt (w.setCell a u) b o vl vr outs :=
  ⟨by simpa using h.1, by rw [World.cell?_of_block (heap_setCell_other w a b u ha)]; exact h.2.1, by rw [World.cell?_of_block (heap_setCell_other w a b u ha)]; exact h.2.2.1, by rw [World.cell?_of_block (heap_setCell_other w a b u ha)]; exact h.2.2.2.1, by
    have := h.2.2.2.2
    simpa [World.frozen?, heap_setCell_other w a b u ha] using this⟩
theorem OwnI.far {w : World} {base g n c : Nat} {xs : List Int} (h : OwnI w base (.slice (some ⟨g, 0, none⟩) n c) xs) {a : Addr} (ha : g ≠ a.block) (u : Value) : OwnI (w.setCell a u) base (.slice (some ⟨g, 0, none⟩) n c) xs := by
  have hg : w.grownBy (w.setCell a u) (some a.block) := ⟨rfl, rfl, rfl, by simp, fun k hk hne => heap_setCell_other w a k u (fun e => hne (by rw [e]))⟩
  exact World.ownsRow.kept h hg (.inr (fun e => ha (by simpa [Value.ownBlock] using e)))
/-- the state of a desk in memory: pointer, slices, contents -/
structure DeskIs (w : World) (base b o gl cl gr cr : Nat) (lv rs : List Int) (outs : Int) : Prop where
  at_ : DeskAt w b o (.slice (some ⟨gl, 0, none⟩) lv.length cl) (.slice (some ⟨gr, 0, none⟩) lv.length cr) outs
  ol : OwnI w base (.slice (some ⟨gl, 0, none⟩) lv.length cl) lv
  or_ : OwnI w base (.slice (some ⟨gr, 0, none⟩) lv.length cr) rs
  len : rs.length = lv.length
  lr : gl ≠ gr
  bl : b ≠ gl
  br : b ≠ gr
theorem DeskIs.below {w w' : World} {base b o gl cl gr cr : Nat} {lv rs : List Int} {outs : Int} (h : DeskIs w base b o gl cl gr cr lv rs outs) (hb : Below w.heap.size w w') : DeskIs w' base b o gl cl gr cr lv rs outs :=
  ⟨h.at_.below hb, h.ol.below hb, h.or_.below hb, h.len, h.lr, h.bl, h.br⟩
theorem DeskIs.setL {w : World} {base b o gl cl gr cr : Nat} {lv rs : List Int} {outs : Int} (h : DeskIs w base b o gl cl gr cr lv rs outs) (j : Nat) (x : Int) : DeskIs (w.setCell ⟨gl, j, none⟩ (.int .i64 x)) base b o gl cl gr cr (lv.set j x) rs outs := by
  have h1 := h.ol.set j x
  refine ⟨?_, ?_, ?_, by rw [List.length_set]; exact h.len, h.lr, h.bl, h.br⟩
  · rw [List.length_set]; exact h.at_.far h.bl _
  · rw [List.length_set]; exact h1
  · rw [List.length_set]; exact h.or_.far (Ne.symm h.lr) _
theorem DeskIs.setR {w : World} {base b o gl cl gr cr : Nat} {lv rs : List Int} {outs : Int} (h : DeskIs w base b o gl cl gr cr lv rs outs) (j : Nat) (x : Int) : DeskIs (w.setCell ⟨gr, j, none⟩ (.int .i64 x)) base b o gl cl gr cr lv (rs.set j x) outs :=
  ⟨h.at_.far h.br _, h.ol.far h.lr _, h.or_.set j x, by rw [List.length_set]; exact h.len, h.lr, h.bl, h.br⟩
theorem DeskIs.setO {w : World} {base b o gl cl gr cr : Nat} {lv rs : List Int} {outs : Int} (h : DeskIs w base b o gl cl gr cr lv rs outs) (x : Int) : DeskIs (w.setCell ⟨b, o + 2, none⟩ (.int .i64 x)) base b o gl cl gr cr lv rs x := by
  obtain ⟨h0, h1, h2, h3, h4⟩ := h.at_
  refine ⟨⟨by simpa using h0, ?_, ?_, ?_, by simpa using h4⟩, h.ol.far (Ne.symm h.bl) _, h.or_.far (Ne.symm h.br) _, h.len, h.lr, h.bl, h.br⟩
  · simp [go_sem, h1]
  · simp [go_sem, h2]
  · simp [go_sem, h3]
def Rec3At (w : World) (b : Nat) (k s v : Int) : Prop := b < w.heap.size ∧ w.cell? ⟨b, 0, none⟩ = some (.int .i64 k) ∧ w.cell? ⟨b, 1, none⟩ = some (.int .i64 s) ∧ w.cell? ⟨b, 2, none⟩ = some (.int .i64 v)
theorem Rec3At.below {w w' : World} {b : Nat} {k s v : Int} (h : Rec3At w b k s v) (hb : Below w.heap.size w w') : Rec3At w' b k s v :=
  ⟨Nat.lt_of_lt_of_le h.1 hb.size, by rw [hb.cell (p := ⟨b, 0, none⟩) h.1]; exact h.2.1, by rw [hb.cell (p := ⟨b, 1, none⟩) h.1]; exact h.2.2.1, by rw [hb.cell (p := ⟨b, 2, none⟩) h.1]; exact h.2.2.2⟩
theorem Rec3At.far {w : World} {b : Nat} {k s v : Int} (h : Rec3At w b k s v) {a : Addr} (ha : b ≠ a.block) (u : Value) : Rec3At (w.setCell a u) b k s v :=
  ⟨by simpa using h.1, by rw [World.cell?_of_block (heap_setCell_other w a b u ha)]; exact h.2.1, by rw [World.cell?_of_block (heap_setCell_other w a b u ha)]; exact h.2.2.1, by rw [World.cell?_of_block (heap_setCell_other w a b u ha)]; exact h.2.2.2⟩
theorem rec3At_new (w : World) (k s v : Int) : Rec3At (w.alloc (.cells #[.int .i64 k, .int .i64 s, .int .i64 v] 56)) w.heap.size k s v := by
  unfold Rec3At
  refine ⟨by simp, ?_, ?_, ?_⟩ <;> simp [go_sem]
def learnF (lv rs : List Int) (outs k s v : Int) : Option (List Int × List Int × Int) :=
  if k = 1 then (if rs.getD s.toNat 0 = -1 ∧ v = lv.getD s.toNat 0 + 1 then some (lv.set s.toNat v, if v = 7 then rs.set s.toNat (-2) else rs, outs) else none)
  else if k = 2 then (if rs.getD s.toNat 0 = -1 then some (lv, rs.set s.toNat v, outs) else none)
  else (if ¬ rs.getD s.toNat 0 = -1 ∧ s = outs then some (lv, rs, outs + 1) else none)
/-- what a call that learns leaves -/
def LearnP (w : World) (base b o gl cl gr cr : Nat) (lv rs : List Int) (outs k s v : Int) (e : Ending) (w' : World) : Prop :=
  e = .returned (.bool (learnF lv rs outs k s v).isSome) ∧ Fr (In3 b gl gr) w w' ∧
    ∀ l r q, (learnF lv rs outs k s v).getD (lv, rs, outs) = (l, r, q) → DeskIs w' base b o gl cl gr cr l r q
theorem LearnP.no {w w' : World} {base b o gl cl gr cr : Nat} {lv rs : List Int} {outs k s v : Int} (hf : learnF lv rs outs k s v = none) (hd : DeskIs w' base b o gl cl gr cr lv rs outs) (hfr : Fr (In3 b gl gr) w w') :
    LearnP w base b o gl cl gr cr lv rs outs k s v (.returned (.bool false)) w' := by
  refine ⟨by rw [hf]; rfl, hfr, fun l r q h => ?_⟩
  rw [hf] at h
  simp at h
  obtain ⟨rfl, rfl, rfl⟩ := h
  exact hd
theorem LearnP.yes {w w' : World} {base b o gl cl gr cr : Nat} {lv rs l r : List Int} {outs q k s v : Int} (hf : learnF lv rs outs k s v = some (l, r, q)) (hd : DeskIs w' base b o gl cl gr cr l r q) (hfr : Fr (In3 b gl gr) w w') :
    LearnP w base b o gl cl gr cr lv rs outs k s v (.returned (.bool true)) w' := by
  refine ⟨by rw [hf]; rfl, hfr, fun l' r' q' h => ?_⟩
  rw [hf] at h
  simp at h
  obtain ⟨rfl, rfl, rfl⟩ := h
  exact hd
end Go.Proofs.Ythbbnjpadmcbmaa
