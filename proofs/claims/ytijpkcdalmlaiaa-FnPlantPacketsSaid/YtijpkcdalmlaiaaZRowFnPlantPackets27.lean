/-
  The program's plant: a packet comes in. With it: A plant in memory: one part changes, a number changes, the desk learns. The program's plant: its methods, one behind the other.
-/
import Derived.Test.YtijpkcdalmlaiaaZRowFnPlantPackets26
import Derived.Test.YtijpkcdalmlaiaaZRowFnPlantPackets1
set_option linter.unusedVariables false
set_option linter.unusedSimpArgs false
namespace Go.Proofs.Ytijpkcdalmlaiaa
open Go.RowKit Go.Sort
theorem grown_at {w w2 : World} {b : Nat} {row : Option Nat} (g : w.grownBy w2 row) (hb : b < w.heap.size) (hr : row ≠ some b) (i : Nat) : w2.cell? ⟨b, i, none⟩ = w.cell? ⟨b, i, none⟩ ∧ w2.frozen? ⟨b, i, none⟩ = w.frozen? ⟨b, i, none⟩ := by
  have h := g.block b hb (fun e => hr e.symm)
  exact ⟨World.cell?_of_block h, by simp [World.frozen?, h]⟩
theorem blk_set {L : List Ch} {i b m : Nat} {c c' : Ch} {B : Nat → Prop} (hc : L[i]? = some c) (hB : ∀ (j g : Nat), (some b :: blk L)[j]? = some (some g) → B g) (hat : ∀ g, c'.v.ownBlock = some g → c.v.ownBlock = some g ∨ m ≤ g) :
    ∀ (j g : Nat), (some b :: blk (L.set i c'))[j]? = some (some g) → B g ∨ m ≤ g := by
  have hil : i < L.length := (List.getElem?_eq_some_iff.1 hc).1
  intro j g hj
  have e : some b :: blk (L.set i c') = (some b :: blk L).set (i + 1) c'.v.ownBlock := by simp [blk, List.map_set]
  rw [e] at hj
  by_cases h : i + 1 = j
  · subst h
    rw [List.getElem?_set_self (by simp [blk]; omega)] at hj
    simp at hj
    rcases hat g hj with h1 | h1
    · exact .inl (hB (i + 1) g (by simp [blk, hc, h1]))
    · exact .inr h1
  · rw [List.getElem?_set_ne h] at hj
    exact .inl (hB j g hj)
abbrev Bm (B : Nat → Prop) (m : Nat) : Nat → Prop := fun k => B k ∨ m ≤ k
theorem at_of {x y : Option Nat} {m : Nat} (h : x = y ∨ x = some m) : ∀ g, x = some g → y = some g ∨ m ≤ g := by
  intro g hg
  rcases h with h | h
  · exact .inl (h ▸ hg)
  · rw [h] at hg; simp at hg; exact .inr (by omega)
/-- a part's contents change in place -/
theorem PlIs.part0 {w w2 : World} {b o : Nat} {B : Nat → Prop} {S S' : PS} {vl vr ve vh vw vo : Value} (P : PlIs w b o B S vl vr ve vh vw vo) (ci : Nat) {c c' : Ch} (hc : (parts S vl vr ve vh vw vo)[ci]? = some c) (hp : parts S' vl vr ve vh vw vo = (parts S vl vr ve vh vw vo).set ci c') (hs : slots S' vl vr ve vh vw vo = slots S vl vr ve vh vw vo)
    (g : w.grownBy w2 c.v.ownBlock) (ho : c'.own w2) (hv : c'.v = c.v) (hl : S'.r.length = S'.l.length) (hpos : 0 < S'.l.length) : PlIs w2 b o B S' vl vr ve vh vw vo := by
  have hne : c.v.ownBlock ≠ some b := P.hold.ne_box hc
  refine ⟨fun i u hu => ?_, fun i => ?_, ?_, ?_, hl, hpos⟩
  · rw [(grown_at g P.hold.lt hne (o + i)).1]
    rw [hs] at hu
    exact P.box i u hu
  · rw [(grown_at g P.hold.lt hne i).2]; exact P.fz i
  · rw [hp]
    exact P.hold.grow hc g ho (fun x hx => .inl (by rw [← hv]; exact hx))
  · intro j x hj
    rw [hp] at hj
    have e : some b :: blk ((parts S vl vr ve vh vw vo).set ci c') = some b :: blk (parts S vl vr ve vh vw vo) := by
      have hil : ci < (parts S vl vr ve vh vw vo).length := (List.getElem?_eq_some_iff.1 hc).1
      have : blk ((parts S vl vr ve vh vw vo).set ci c') = (blk (parts S vl vr ve vh vw vo)).set ci c'.v.ownBlock := by simp [blk, List.map_set]
      rw [this, hv]
      congr 1
      refine List.ext_getElem? fun k => ?_
      by_cases h : ci = k
      · subst h
        rw [List.getElem?_set_self (by simp [blk]; omega)]
        simp [blk, hc]
      · rw [List.getElem?_set_ne h]
    rw [e] at hj
    exact P.inB j x hj
/-- a store into the box -/
theorem PlIs.store {w w2 : World} {b o : Nat} {B B' : Nat → Prop} {S S' : PS} {vl vr ve vh vw vo vl' vr' ve' vh' vw' vo' : Value} {row : Option Nat} (P : PlIs w b o B S vl vr ve vh vw vo) (g : w.grownBy w2 row) (hr : row ≠ some b) (si : Nat) (u : Value)
    (hs : slots S' vl' vr' ve' vh' vw' vo' = (slots S vl vr ve vh vw vo).set si u) (hsi : si < 8) (hh : Hold w2 b (parts S' vl' vr' ve' vh' vw' vo'))
    (hin : ∀ (j g : Nat), (some b :: blk (parts S' vl' vr' ve' vh' vw' vo'))[j]? = some (some g) → B' g) (hl : S'.r.length = S'.l.length) (hp : 0 < S'.l.length) :
    PlIs (w2.setCell ⟨b, o + si, none⟩ u) b o B' S' vl' vr' ve' vh' vw' vo' := by
  refine ⟨fun i v hv => ?_, fun i => ?_, hh.setb _ _, hin, hl, hp⟩
  · rw [hs] at hv
    by_cases e : si = i
    · subst e
      rw [List.getElem?_set_self (by simpa [slots] using hsi)] at hv
      simp at hv
      subst hv
      obtain ⟨x, hx⟩ : ∃ x, (slots S vl vr ve vh vw vo)[si]? = some x := ⟨_, List.getElem?_eq_getElem (by simpa [slots] using hsi)⟩
      have hc := P.box si x hx
      rw [← (grown_at g P.hold.lt hr (o + si)).1] at hc
      simp [go_sem, hc]
    · rw [List.getElem?_set_ne e] at hv
      have hc := P.box i v hv
      rw [← (grown_at g P.hold.lt hr (o + i)).1] at hc
      have e2 : ¬ o + si = o + i := by omega
      have e3 : ¬ o + i = o + si := by omega
      simp [go_sem, hc, e2, e3, e, Ne.symm e]
  · have := P.fz i
    rw [← (grown_at g P.hold.lt hr i).2] at this
    simpa [go_sem] using this
/-- a part is laid anew, and its slot told so -/
theorem PlIs.part {w w2 : World} {b o : Nat} {B : Nat → Prop} {S S' : PS} {vl vr ve vh vw vo vl' vr' ve' vh' vw' vo' : Value} (P : PlIs w b o B S vl vr ve vh vw vo) (ci si : Nat) {c c' : Ch} (hc : (parts S vl vr ve vh vw vo)[ci]? = some c) (hp : parts S' vl' vr' ve' vh' vw' vo' = (parts S vl vr ve vh vw vo).set ci c') (hs : slots S' vl' vr' ve' vh' vw' vo' = (slots S vl vr ve vh vw vo).set si c'.v) (hsi : si < 8)
    (g : w.grownBy w2 c.v.ownBlock) (ho : c'.own w2) {m : Nat} (hm : m ≤ w.heap.size) (hat : ∀ x, c'.v.ownBlock = some x → c.v.ownBlock = some x ∨ w.heap.size ≤ x) (hl : S'.r.length = S'.l.length) (hpos : 0 < S'.l.length) :
    PlIs (w2.setCell ⟨b, o + si, none⟩ c'.v) b o (Bm B m) S' vl' vr' ve' vh' vw' vo' := by
  refine P.store g (P.hold.ne_box hc) si c'.v hs hsi ?_ ?_ hl hpos
  · rw [hp]; exact P.hold.grow hc g ho hat
  · rw [hp]
    intro j x hj
    rcases blk_set hc P.inB hat j x hj with h | h
    · exact .inl h
    · exact .inr (by omega)
theorem learnF_len {l r : List Int} {q k s v : Int} {l' r' : List Int} {q' : Int} (h : (learnF l r q k s v).getD (l, r, q) = (l', r', q')) : l'.length = l.length ∧ r'.length = r.length := by
  unfold learnF at h
  repeat' split at h
  all_goals
    simp at h
    obtain ⟨rfl, rfl, rfl⟩ := h
    simp
theorem learnS_eq (S : PS) (x : Int × Int × Int) {l r : List Int} {q : Int} (h : (learnF S.l S.r S.q x.1 x.2.1 x.2.2).getD (S.l, S.r, S.q) = (l, r, q)) : learnS S x = { S with l := l, r := r, q := q } := by
  unfold learnS
  cases hf : learnF S.l S.r S.q x.1 x.2.1 x.2.2 with
  | none =>
    rw [hf] at h
    simp at h
    obtain ⟨rfl, rfl, rfl⟩ := h
    rfl
  | some d =>
    rw [hf] at h
    simp at h
    subst h
    rfl
/-- the desk learns -/
theorem PlIs.learn {w w' : World} {b o : Nat} {B : Nat → Prop} {S : PS} {gl cl gr cr : Nat} {ve vh vw vo : Value} {k s v : Int} {e : Ending} (P : PlIs w b o B S (.slice (some ⟨gl, 0, none⟩) S.l.length cl) (.slice (some ⟨gr, 0, none⟩) S.l.length cr) ve vh vw vo)
    (h : LearnP w 0 b o gl cl gr cr S.l S.r S.q k s v e w') : (∃ t, e = .returned (.bool t)) ∧ PlIs w' b o B (learnS S (k, s, v)) (.slice (some ⟨gl, 0, none⟩) S.l.length cl) (.slice (some ⟨gr, 0, none⟩) S.l.length cr) ve vh vw vo ∧ Fs B w w' := by
  obtain ⟨he, hf, hd⟩ := h
  obtain ⟨⟨l, r, q⟩, hD⟩ : ∃ d, (learnF S.l S.r S.q k s v).getD (S.l, S.r, S.q) = d := ⟨_, rfl⟩
  refine ⟨⟨_, he⟩, ?_, ?_⟩
  · rw [learnS_eq S (k, s, v) hD]
    exact P.learned hf (learnF_len hD).1 (hd l r q hD)
  · refine ⟨hf.os, hf.tape, hf.output, hf.size, fun i hi hx => hf.block i hi ?_⟩
    rintro (h | h | h)
    · exact hx (P.inB 0 i (by rw [h]; rfl))
    · exact hx (P.inB 1 i (by rw [h]; rfl))
    · exact hx (P.inB 2 i (by rw [h]; rfl))
theorem Fs.bm {B : Nat → Prop} {w w' w'' : World} {m : Nat} (h : Fs B w w') (k : Fs (Bm B m) w' w'') (hm : w.heap.size ≤ m) : Fs B w w'' :=
  ⟨k.os.trans h.os, k.tape.trans h.tape, k.output.trans h.output, Nat.le_trans h.size k.size, fun i hi hx => (k.block i (Nat.lt_of_lt_of_le hi h.size) (fun hb => hb.elim hx (fun hb => by omega))).trans (h.block i hi hx)⟩
theorem Fs.grown {B : Nat → Prop} {w w' : World} {row : Option Nat} (g : w.grownBy w' row) (hr : ∀ k, row = some k → B k) : Fs B w w' := Fs.of_grown g hr
theorem Bm.mono {B : Nat → Prop} {m m' : Nat} (h : m' ≤ m) : ∀ k, Bm B m k → Bm B m' k := fun _ hk => hk.imp id (fun h2 => by omega)
theorem Bm.bm {B : Nat → Prop} {m m' n : Nat} (h : n ≤ m) (h' : n ≤ m') : ∀ k, Bm (Bm B m) m' k → Bm B n k := fun _ hk => hk.elim (fun h2 => h2.imp id (fun h3 => by omega)) (fun h2 => .inr (by omega))
end Go.Proofs.Ytijpkcdalmlaiaa
namespace Go.Proofs.Ytijpkcdalmlaiaa
open Go.RowKit Go.Sort
theorem PlIs.desk' {w : World} {b o : Nat} {B : Nat → Prop} {S : PS} {gl cl gr cr : Nat} {ve vh vw vo : Value} (h : PlIs w b o B S (.slice (some ⟨gl, 0, none⟩) S.l.length cl) (.slice (some ⟨gr, 0, none⟩) S.l.length cr) ve vh vw vo) : DeskIs w 0 b o gl cl gr cr S.l S.r S.q := by
  obtain ⟨a, b, c, d, h1, h2, h3⟩ := h.desk
  simp only [Value.slice.injEq, Option.some.injEq, Addr.mk.injEq] at h1 h2
  obtain ⟨⟨rfl, _⟩, _, rfl⟩ := h1
  obtain ⟨⟨rfl, _⟩, _, rfl⟩ := h2
  exact h3
def PlOk (sm : Nat) (S : PS) : Prop := DeskOk sm (S.l, S.r, S.q) ∧ 1 ≤ sm ∧ sm ≤ 8 ∧ S.recs.length ≤ 1000 ∧ S.out.length ≤ 1000 ∧ S.wire.length ≤ 12
theorem Flat.Own.shape {α : Type} {F : Flat α} {w : World} {base : Nat} {v : Value} {xs : List α} (h : F.Own w base v xs) : ∃ a c, v = .slice a xs.length c ∧ xs.length ≤ c ∧ c ≤ maxLen := by
  obtain ⟨a, c, h1, h2, h3, _⟩ := h.sl
  exact ⟨a, c, h1, h2, h3⟩
theorem PlIs.get {w : World} {b : Nat} {B : Nat → Prop} {S : PS} {vl vr ve vh vw vo : Value} (h : PlIs w b 0 B S vl vr ve vh vw vo) : (w.cell? ⟨b, 0, none⟩ = some vl ∧ w.cell? ⟨b, 1, none⟩ = some vr ∧ w.cell? ⟨b, 2, none⟩ = some (.int .i64 S.q) ∧ w.cell? ⟨b, 3, none⟩ = some ve) ∧ w.cell? ⟨b, 4, none⟩ = some (.int .i64 S.sy) ∧ w.cell? ⟨b, 5, none⟩ = some vh ∧ w.cell? ⟨b, 6, none⟩ = some vw ∧ w.cell? ⟨b, 7, none⟩ = some vo := by
  have h0 := h.box 0 _ rfl
  have h1 := h.box 1 _ rfl
  have h2 := h.box 2 _ rfl
  have h3 := h.box 3 _ rfl
  have h4 := h.box 4 _ rfl
  have h5 := h.box 5 _ rfl
  have h6 := h.box 6 _ rfl
  have h7 := h.box 7 _ rfl
  simp only [Nat.zero_add] at h0 h1 h2 h3 h4 h5 h6 h7
  exact ⟨⟨h0, h1, h2, h3⟩, h4, h5, h6, h7⟩
/-- three cells of a box of its own -/
def Box3v (w : World) (g : Nat) (x y z : Value) : Prop := g < w.heap.size ∧ w.cell? ⟨g, 0, none⟩ = some x ∧ w.cell? ⟨g, 1, none⟩ = some y ∧ w.cell? ⟨g, 2, none⟩ = some z
theorem Box3v.new (w : World) (x y z : Value) (T : Nat) : Box3v (w.alloc (.cells #[x, y, z] T)) w.heap.size x y z := by
  unfold Box3v
  refine ⟨by simp, ?_, ?_, ?_⟩ <;> simp [go_sem]
theorem Box3v.fs {B : Nat → Prop} {w w' : World} {g : Nat} {x y z : Value} (h : Box3v w g x y z) (hf : Fs B w w') (hg : ¬ B g) : Box3v w' g x y z :=
  ⟨Nat.lt_of_lt_of_le h.1 hf.size, by rw [hf.cell (p := ⟨g, 0, none⟩) h.1 hg]; exact h.2.1, by rw [hf.cell (p := ⟨g, 1, none⟩) h.1 hg]; exact h.2.2.1, by rw [hf.cell (p := ⟨g, 2, none⟩) h.1 hg]; exact h.2.2.2⟩
theorem Box3v.below {w w' : World} {g : Nat} {x y z : Value} (h : Box3v w g x y z) (hb : Below w.heap.size w w') : Box3v w' g x y z :=
  h.fs (B := fun _ => False) (Fs.of_below hb) (fun h => h)
theorem PlIs.lt {w : World} {b o : Nat} {B : Nat → Prop} {S : PS} {vl vr ve vh vw vo : Value} (h : PlIs w b o B S vl vr ve vh vw vo) : ∀ k, (∃ j : Nat, (some b :: blk (parts S vl vr ve vh vw vo))[j]? = some (some k)) → k < w.heap.size := fun k ⟨j, hj⟩ => h.hold.ltAll j k hj
/-- the plant's own blocks -/
def OwnB (b : Nat) (S : PS) (vl vr ve vh vw vo : Value) : Nat → Prop := fun k => ∃ j : Nat, (some b :: blk (parts S vl vr ve vh vw vo))[j]? = some (some k)
theorem PlIs.own {w : World} {b o : Nat} {B : Nat → Prop} {S : PS} {vl vr ve vh vw vo : Value} (h : PlIs w b o B S vl vr ve vh vw vo) : PlIs w b o (OwnB b S vl vr ve vh vw vo) S vl vr ve vh vw vo := ⟨h.box, h.fz, h.hold, fun j g hj => ⟨j, hj⟩, h.len, h.pos⟩
theorem PlIs.ownB {w : World} {b o : Nat} {B : Nat → Prop} {S : PS} {vl vr ve vh vw vo : Value} (h : PlIs w b o B S vl vr ve vh vw vo) : ∀ k, OwnB b S vl vr ve vh vw vo k → B k := fun k ⟨j, hj⟩ => h.inB j k hj
theorem PlIs.ownLt {w : World} {b o : Nat} {B : Nat → Prop} {S : PS} {vl vr ve vh vw vo : Value} (h : PlIs w b o B S vl vr ve vh vw vo) : ∀ k, OwnB b S vl vr ve vh vw vo k → k < w.heap.size := fun k ⟨j, hj⟩ => h.hold.ltAll j k hj
/-- a part's block is the plant's -/
theorem PlIs.row {w : World} {b o : Nat} {B : Nat → Prop} {S : PS} {vl vr ve vh vw vo : Value} (h : PlIs w b o B S vl vr ve vh vw vo) {i : Nat} {c : Ch} (hc : (parts S vl vr ve vh vw vo)[i]? = some c) : ∀ k, c.v.ownBlock = some k → OwnB b S vl vr ve vh vw vo k := fun k hk => ⟨i + 1, by simp [blk, hc, hk]⟩

set_option maxRecDepth 100000 in
set_option maxHeartbeats 4000000 in
theorem PlWrite_any {b sm j : Nat} {B : Nat → Prop} {S : PS} {vl vr ve vh vw vo : Value} (k v : Int) (w : World) (P : PlIs w b 0 B S vl vr ve vh vw vo) (hD : PlOk sm S) (hk : k = 1 ∨ k = 2 ∨ k = 3) (hj : j < sm) :
    Calls Try.prog 113 #[.pointer (some ⟨b, 0, none⟩), .agg #[.int .i64 k, .int .i64 j, .int .i64 v]] w fun e w' => e = .returned (.tuple #[]) ∧ ∃ ve', PlIs w' b 0 (Bm B w.heap.size) (writeS S (k, j, v)) vl vr ve' vh vw vo ∧ Fs B w w' := by
  obtain ⟨hd, hs1, hs8, hrl, _, _⟩ := hD
  obtain ⟨d1, d2, d3, d4, d5⟩ := hd
  obtain ⟨gl, cl, gr, cr, rfl, rfl, _⟩ := P.desk
  obtain ⟨ea, ec, rfl, _, _⟩ := P.oe.shape
  have b1 : Below w.heap.size w (w.alloc (.cells #[.int .i64 k, .int .i64 j, .int .i64 v] 121)) := (Below.refl _ _).alloc (Nat.le_refl _) _
  have R1 := Lib.hid (Box3v.new w (.int .i64 k) (.int .i64 j) (.int .i64 v) 121)
  obtain ⟨W1, hW1⟩ : ∃ W1, W1 = w.alloc (.cells #[.int .i64 k, .int .i64 j, .int .i64 v] 121) := ⟨_, rfl⟩
  rw [← hW1] at b1 R1
  have HZ1 := Lib.hid (show W1.heap.size = w.heap.size + 1 by rw [hW1]; simp)
  have P1 := Lib.hid (P.below b1)
  have HB := Lib.hid P.ownB
  have HL := Lib.hid P.ownLt
  have HE := Lib.hid (P.row (i := 2) rfl)
  have F1 := Lib.hid (Fs.of_below (S := B) b1)
  have hbl := P.blt
  obtain ⟨W2, hW2⟩ : ∃ W2, W2 = (W1.alloc (.cells #[.int .i64 k, .int .i64 j, .int .i64 v] 121)).drew := ⟨_, rfl⟩
  have b2 : Below W1.heap.size W1 W2 := by rw [hW2]; exact ((Below.refl _ _).alloc (Nat.le_refl _) _).drew
  have P2 := Lib.hid (P1.out.below b2)
  have R2 := Lib.hid (R1.out.below b2)
  have F2 := Lib.hid (F1.out.trans (Fs.of_below b2))
  have RD := Lib.hid (show Rd W2 (some ⟨W1.heap.size, 0, none⟩) (FRecord.encs [(k, (j : Int), v)]) by
    rw [hW2]
    exact (rd_new W1 #[.int .i64 k, .int .i64 j, .int .i64 v] 121).below (Below.refl _ _).drew)
  have CW := Lib.hid (show ∀ W, Below W1.heap.size W1 W → (W.cell? ⟨b, 3, none⟩ = some (.slice ea S.recs.length ec) ∧ W.cell? ⟨w.heap.size, 0, none⟩ = some (.int .i64 k) ∧ W.cell? ⟨w.heap.size, 1, none⟩ = some (.int .i64 j) ∧ W.cell? ⟨w.heap.size, 2, none⟩ = some (.int .i64 v)) from fun W h => by
    obtain ⟨⟨_, _, _, q3⟩, _⟩ := (P1.out.below h).get
    obtain ⟨_, r0, r1, r2⟩ := R1.out.below h
    exact ⟨q3, r0, r1, r2⟩)
  have hz2 : W1.heap.size < W2.heap.size := by rw [hW2]; simp
  have HW1 := Lib.hid hW1.symm
  have HW2 := Lib.hid hW2.symm
  have hln : S.recs.length + [(k, (j : Int), v)].length ≤ 16777216 := by simp; omega
  clear P b1 b2 hW1 hW2
  go_enter Try.func113, Try.ntmps113
  go_wp2_with fail
  rw [HW1.out]
  refine wpX_start (fun W => W.cell? ⟨b, 3, none⟩ = some (.slice ea S.recs.length ec) ∧ W.cell? ⟨w.heap.size, 0, none⟩ = some (.int .i64 k) ∧ W.cell? ⟨w.heap.size, 1, none⟩ = some (.int .i64 j) ∧ W.cell? ⟨w.heap.size, 2, none⟩ = some (.int .i64 v)) [7, 8, 9, 10] (by kernel_rfl) ?_
  have hC := CW.out W1.drew (Below.refl W1.heap.size W1).drew
  refine wpX_free (i := 0) (v := ?_) rfl (by kernel_rfl) (fun _ _ _ h => h) rfl (fun w' => ?_) ?_
  rotate_left
  · go_simp; try with_reducible rfl
  try simp only [Act.put, List.setIfInBounds_toArray, List.set_cons_zero, List.set_cons_succ]
  refine wpX_free (i := 1) (v := ?_) rfl (by kernel_rfl) (fun _ _ _ h => h) rfl (fun w' => ?_) ?_
  rotate_left
  · go_simp; try with_reducible rfl
  try simp only [Act.put, List.setIfInBounds_toArray, List.set_cons_zero, List.set_cons_succ]
  refine wpX_free (i := 2) (v := ?_) rfl (by kernel_rfl) (fun _ _ _ h => h) rfl (fun w' => ?_) ?_
  rotate_left
  · go_simp; try with_reducible rfl
  try simp only [Act.put, List.setIfInBounds_toArray, List.set_cons_zero, List.set_cons_succ]
  refine wpX_free (i := 3) (v := ?_) rfl (by kernel_rfl) (fun _ _ _ h => h) rfl (fun w' => ?_) ?_
  rotate_left
  · go_simp; try with_reducible rfl
  try simp only [Act.put, List.setIfInBounds_toArray, List.set_cons_zero, List.set_cons_succ]
  refine wpX_load (i := 4) (v := ?_) rfl (by kernel_rfl) (fun _ _ _ h => h) hC rfl (fun w' hw' => ?_) ?_
  rotate_left
  · obtain ⟨k1, k2, k3, k4⟩ := hw'; go_simp; try with_reducible rfl
  try simp only [Act.put, List.setIfInBounds_toArray, List.set_cons_zero, List.set_cons_succ]
  refine wpX_load (i := 5) (v := ?_) rfl (by kernel_rfl) (fun _ _ _ h => h) hC rfl (fun w' hw' => ?_) ?_
  rotate_left
  · obtain ⟨k1, k2, k3, k4⟩ := hw'; go_simp; try with_reducible rfl
  try simp only [Act.put, List.setIfInBounds_toArray, List.set_cons_zero, List.set_cons_succ]
  refine wpX_one (i := 6) rfl (by kernel_rfl) rfl ?_
  intro K hK
  go_simp
  rw [HW2.out]
  have hC := CW.out W2 (by rw [← HW2.out]; exact ((Below.refl _ _).alloc (Nat.le_refl _) _).drew)
  refine hK _ _ hC ?_
  clear hK K
  try simp only [Act.put, List.setIfInBounds_toArray, List.set_cons_zero, List.set_cons_succ]
  refine wpX_rest (t := [7, 8, 9, 10]) (l := [_, _, _, _]) rfl (by kernel_rfl) (by kernel_rfl) ?_
  clear hC
  refine Flat.append_at FRecord W2 (.tmp 8) (.tmp 10) rfl rfl (base := 0) (v := .slice ea S.recs.length ec) (xs := S.recs) (ys := [(k, (j : Int), v)]) rfl P2.out.oe rfl RD.out hln (Nat.zero_le _) ?_
  intro v' w3 o3 g3 at3
  obtain ⟨na, nc, hv', _, _⟩ := o3.shape
  simp only [List.length_append, List.length_cons, List.length_nil, Nat.zero_add] at hv'
  have e3 := (grown_at g3 P2.out.hold.lt (P2.out.hold.ne_box (i := 2) rfl) 3)
  have c3 := e3.1.trans P2.out.get.1.2.2.2
  have f3 := e3.2.trans (P2.out.fz 3)
  have P3 := P2.out.part (S' := { S with recs := S.recs ++ [(k, (j : Int), v)] }) 2 3 (c' := FRecord.ch v' (S.recs ++ [(k, (j : Int), v)])) rfl rfl rfl (by decide) g3 o3 (m := w.heap.size) (by have := HZ1.out; omega) (at_of at3) P2.out.len P2.out.pos
  have FG := Fs.of_grown (S := OwnB b S (.slice (some ⟨gl, 0, none⟩) S.l.length cl) (.slice (some ⟨gr, 0, none⟩) S.l.length cr) (.slice ea S.recs.length ec) vh vw vo) g3 HE.out
  have F4 := FG.set (a := ⟨b, 0 + 3, none⟩) ⟨0, rfl⟩ v'
  subst hv'
  have R4 := R2.out.fs F4 (fun h => Nat.lt_irrefl _ (HL.out _ h))
  have F4 := F2.out.trans (F4.mono HB.out)
  obtain ⟨W4, hW4⟩ : ∃ W4, W4 = w3.setCell ⟨b, 3, none⟩ (.slice na (S.recs.length + 1) nc) := ⟨_, rfl⟩
  have P4 := Lib.hid (show PlIs W4 b 0 (Bm B w.heap.size) { S with recs := S.recs ++ [(k, (j : Int), v)] } (.slice (some ⟨gl, 0, none⟩) S.l.length cl) (.slice (some ⟨gr, 0, none⟩) S.l.length cr) (.slice na (S.recs.length + 1) nc) vh vw vo by rw [hW4]; exact P3)
  have R4 := Lib.hid (show Box3v W4 w.heap.size (.int .i64 k) (.int .i64 j) (.int .i64 v) by rw [hW4]; exact R4)
  have F4 := Lib.hid (show Fs B w W4 by rw [hW4]; exact F4)
  have HW4 := Lib.hid hW4.symm
  clear P3 FG g3 at3 o3 e3 hW4
  go_wp2_with fail
  rw [HW4.out]
  refine wpX_start (fun W => W.cell? ⟨w.heap.size, 0, none⟩ = some (.int .i64 k) ∧ W.cell? ⟨w.heap.size, 1, none⟩ = some (.int .i64 j) ∧ W.cell? ⟨w.heap.size, 2, none⟩ = some (.int .i64 v)) [4] (by kernel_rfl) ?_
  have hC := (R4.out.below (Below.refl W4.heap.size W4).drew).2
  refine wpX_free (i := 0) (v := ?_) rfl (by kernel_rfl) (fun _ _ _ h => h) rfl (fun w' => ?_) ?_
  rotate_left
  · go_simp; try with_reducible rfl
  try simp only [Act.put, List.setIfInBounds_toArray, List.set_cons_zero, List.set_cons_succ]
  refine wpX_free (i := 1) (v := ?_) rfl (by kernel_rfl) (fun _ _ _ h => h) rfl (fun w' => ?_) ?_
  rotate_left
  · go_simp; try with_reducible rfl
  try simp only [Act.put, List.setIfInBounds_toArray, List.set_cons_zero, List.set_cons_succ]
  refine wpX_free (i := 2) (v := ?_) rfl (by kernel_rfl) (fun _ _ _ h => h) rfl (fun w' => ?_) ?_
  rotate_left
  · go_simp; try with_reducible rfl
  try simp only [Act.put, List.setIfInBounds_toArray, List.set_cons_zero, List.set_cons_succ]
  refine wpX_load (i := 3) (v := ?_) rfl (by kernel_rfl) (fun _ _ _ h => h) hC rfl (fun w' hw' => ?_) ?_
  rotate_left
  · obtain ⟨k1, k2, k3⟩ := hw'; go_simp; try with_reducible rfl
  try simp only [Act.put, List.setIfInBounds_toArray, List.set_cons_zero, List.set_cons_succ]
  refine wpX_rest (t := [4]) (l := [_]) rfl (by kernel_rfl) (by kernel_rfl) ?_
  clear hC
  have P5 := Lib.hid (P4.out.below (Below.refl W4.heap.size W4).drew)
  go_wp2_with fail
  refine (learn_any k S.q v _ hk P5.out.desk' (show j < S.l.length by rw [show S.l.length = sm from d1]; exact hj) (show S.l.length ≤ 1000000 by rw [show S.l.length = sm from d1]; omega) (fun y hy => by have := d3 y hy; omega) d4 (Int.le_trans d5 (by omega))).mono ?_
  intro e w6 hL
  obtain ⟨⟨t, rfl⟩, P6, F6⟩ := P5.out.learn hL
  have P6 := Lib.hid P6
  have F6 := Lib.hid ((F4.out.trans (Fs.of_below (Below.refl W4.heap.size W4).drew)).bm F6 (Nat.le_refl _))
  clear hL
  go_wp2
  exact bodyPost_end (v := .tuple #[]) (by simp [results, Try.results113, go_sem]) rfl ⟨rfl, _, P6.out, F6.out⟩
end Go.Proofs.Ytijpkcdalmlaiaa
namespace Go.Proofs.Ytijpkcdalmlaiaa
open Go.RowKit Go.Sort
theorem grown_set3 (w : World) (g i j k : Nat) (x y z : Value) : w.grownBy (((w.setCell ⟨g, i, none⟩ x).setCell ⟨g, j, none⟩ y).setCell ⟨g, k, none⟩ z) (some g) := by
  refine ⟨rfl, rfl, rfl, by simp, fun q hq hne => ?_⟩
  have h : q ≠ g := fun e => hne (by rw [e])
  rw [heap_setCell_other _ _ q _ h, heap_setCell_other _ _ q _ h, heap_setCell_other _ _ q _ h]

set_option maxRecDepth 100000 in
set_option maxHeartbeats 4000000 in
theorem PlCome_front {b sm wk n a j : Nat} {B : Nat → Prop} {S : PS} {vl vr ve vh vw vo : Value} (mt : Bool) (lev st : Int) (w : World) (P : PlIs w b 0 B S vl vr ve vh vw vo) (hD : PlOk sm S) (hp : PkOk n sm wk (false, a, j, lev, mt, st)) (hh : S.hands.length = wk) :
    Calls Try.prog 88 #[.pointer (some ⟨b, 0, none⟩), .agg #[.bool false, .int .i64 a, .int .i64 j, .int .i64 lev, .bool mt, .int .i64 st]] w fun e w' => e = .returned (.tuple #[]) ∧ ∃ ve', PlIs w' b 0 (Bm B w.heap.size) (comeS (false, a, j, lev, mt, st) S) vl vr ve' vh vw vo ∧ Fs B w w' := by
  obtain ⟨p1, p2, p3, p4, p5, p6, p7, p8⟩ := hp
  replace p2 : (a : Int) < (wk : Int) := p2
  replace p4 : (j : Int) < (sm : Int) := p4
  replace p5 : 0 ≤ lev := p5
  replace p6 : lev ≤ 6 := p6
  have hD0 := Lib.hid hD
  obtain ⟨hd, hs1, hs8, hrl, _, _⟩ := hD
  obtain ⟨d1, d2, d3, d4, d5⟩ := hd
  replace d1 : S.l.length = sm := d1
  have b1 : Below w.heap.size w (w.alloc (.cells #[.bool false, .int .i64 a, .int .i64 j, .int .i64 lev, .bool mt, .int .i64 st] 125)) := (Below.refl _ _).alloc (Nat.le_refl _) _
  have K1 := Lib.hid (CellsAt.new w [.bool false, .int .i64 a, .int .i64 j, .int .i64 lev, .bool mt, .int .i64 st] 125)
  obtain ⟨W1, hW1⟩ : ∃ W1, W1 = w.alloc (.cells #[.bool false, .int .i64 a, .int .i64 j, .int .i64 lev, .bool mt, .int .i64 st] 125) := ⟨_, rfl⟩
  rw [show (w.alloc (.cells ([.bool false, .int .i64 a, .int .i64 j, .int .i64 lev, .bool mt, .int .i64 st] : List Value).toArray 125)) = W1 from hW1.symm] at K1
  rw [← hW1] at b1
  have P1 := Lib.hid (P.below b1)
  have HB := Lib.hid P.ownB
  have F1 := Lib.hid (Fs.of_below (S := B) b1)
  have HZ1 := Lib.hid (show W1.heap.size = w.heap.size + 1 by rw [hW1]; simp)
  have HW1 := Lib.hid hW1.symm
  have HH := Lib.hid hh
  have D1 := Lib.hid d1
  have ha : a < S.hands.length := by omega
  obtain ⟨g, hc, rfl, _⟩ := P.oh.form (by omega)
  have g5 := P1.out.get.2.2.1
  obtain ⟨h0, _, _⟩ := FHand_cell P1.out.oh ha
  have HX := Lib.hid (show (S.hands.getD (a : Int).toNat noHand) = S.hands[a] by rw [Int.toNat_natCast]; simp [ha])
  generalize S.hands[a] = x at h0 HX
  obtain ⟨x0, x1, x2⟩ := x
  dsimp only at h0
  have HH0 := Lib.hid h0
  have c0 := K1.out.get 0 _ rfl
  have c1 := K1.out.get 1 _ rfl
  have i0 : (0 : Int) ≤ (a : Int) := by omega
  have i1 : (a : Int) < (S.hands.length : Int) := by omega
  have kg5 := fun d os => cell_regrown g5 d os
  have kc1 := fun d os => cell_regrown c1 d os
  clear P b1 hW1 p1 p2 p3 p4 p7 p8 hh d1 d2 d3 d4 d5
  go_enter Try.func88, Try.ntmps88
  go_wp2_with fail
  rw [HW1.out]
  refine wp_region_quiet_below (by kernel_rfl) (by kernel_rfl) ?_
  repeat (first | go_big_quiet_skip | quiet_step (fail))
  refine wpQuiet_nil ?_
  intro _ hw'
  obtain ⟨⟨dq, osq⟩, hw''⟩ := hw'
  subst hw''
  have bq := below_regrown W1 dq osq
  generalize grow (redrawn W1 dq) osq = wq at bq ⊢
  have P2 := Lib.hid (P1.out.below bq)
  have F2 := Lib.hid (F1.out.trans (Fs.of_below bq))
  have K2 := K1.out.below bq
  have c2 := K2.get 2 _ rfl
  have c3 := K2.get 3 _ rfl
  obtain ⟨h0, h1, h2⟩ := FHand_cell P2.out.oh ha
  have f0 := P2.out.oh.free (a * 3)
  have f1 := P2.out.oh.free (a * 3 + 1)
  have f2 := P2.out.oh.free (a * 3 + 2)
  have e0 := (bq.cell (p := ⟨g, a * 3, none⟩) (cell_lt HH0.out)).trans HH0.out
  clear kg5 kc1 bq K2 g5 c0 c1 h0
  cases x0
  · have PN := P2.out.part0 (S' := { S with hands := S.hands.set a (true, (j : Int), lev) }) 3 (c' := FHand.ch (.slice (some ⟨g, 0, none⟩) S.hands.length hc) (S.hands.set a (true, (j : Int), lev))) rfl rfl rfl (w2 := ((wq.setCell ⟨g, a * 3, none⟩ (.bool true)).setCell ⟨g, a * 3 + 1, none⟩ (.int .i64 j)).setCell ⟨g, a * 3 + 2, none⟩ (.int .i64 lev)) (grown_set3 wq g _ _ _ _ _ _) (FHand.set_cells P2.out.oh a (true, (j : Int), lev) ha) rfl P2.out.len P2.out.pos
    have FN := Fs.of_grown (S := B) (grown_set3 wq g (a * 3) (a * 3 + 1) (a * 3 + 2) (.bool true) (.int .i64 j) (.int .i64 lev)) (fun k hk => HB.out k (P2.out.row (i := 3) rfl k hk))
    have HS := Lib.hid (show comeS (false, (a : Int), (j : Int), lev, mt, st) S = { S with hands := S.hands.set a (true, (j : Int), lev) } by
      unfold comeS
      dsimp only
      rw [if_pos rfl, HX.out, if_pos rfl, Int.toNat_natCast])
    have PN := Lib.hid PN
    have FN := Lib.hid (F2.out.trans FN)
    go_wp2
    exact bodyPost_ret (v := .tuple #[]) (by simp [results, Try.results88, go_sem]) rfl ⟨rfl, _, by rw [HS.out]; exact PN.out.mono (fun k hk => .inl hk), FN.out⟩
  · have HS := Lib.hid (show comeS (false, (a : Int), (j : Int), lev, mt, st) S = S by
      unfold comeS
      dsimp only
      rw [if_pos rfl, HX.out, if_neg (by simp)])
    go_wp2
    exact bodyPost_ret (v := .tuple #[]) (by simp [results, Try.results88, go_sem]) rfl ⟨rfl, _, by rw [HS.out]; exact P2.out.mono (fun k hk => .inl hk), F2.out⟩
set_option maxRecDepth 100000 in
set_option maxHeartbeats 4000000 in
theorem PlCome_back_true {b sm wk n a j : Nat} {B : Nat → Prop} {S : PS} {vl vr ve vh vw vo : Value} (lev st : Int) (w : World) (P : PlIs w b 0 B S vl vr ve vh vw vo) (hD : PlOk sm S) (hp : PkOk n sm wk (true, a, j, lev, true, st)) (hh : S.hands.length = wk) :
    Calls Try.prog 88 #[.pointer (some ⟨b, 0, none⟩), .agg #[.bool true, .int .i64 a, .int .i64 j, .int .i64 lev, .bool true, .int .i64 st]] w fun e w' => e = .returned (.tuple #[]) ∧ ∃ ve', PlIs w' b 0 (Bm B w.heap.size) (comeS (true, a, j, lev, true, st) S) vl vr ve' vh vw vo ∧ Fs B w w' := by
  obtain ⟨p1, p2, p3, p4, p5, p6, p7, p8⟩ := hp
  replace p2 : (a : Int) < (wk : Int) := p2
  replace p4 : (j : Int) < (sm : Int) := p4
  replace p5 : 0 ≤ lev := p5
  replace p6 : lev ≤ 6 := p6
  have hD0 := Lib.hid hD
  obtain ⟨hd, hs1, hs8, hrl, _, _⟩ := hD
  obtain ⟨d1, d2, d3, d4, d5⟩ := hd
  replace d1 : S.l.length = sm := d1
  have b1 : Below w.heap.size w (w.alloc (.cells #[.bool true, .int .i64 a, .int .i64 j, .int .i64 lev, .bool true, .int .i64 st] 125)) := (Below.refl _ _).alloc (Nat.le_refl _) _
  have K1 := Lib.hid (CellsAt.new w [.bool true, .int .i64 a, .int .i64 j, .int .i64 lev, .bool true, .int .i64 st] 125)
  obtain ⟨W1, hW1⟩ : ∃ W1, W1 = w.alloc (.cells #[.bool true, .int .i64 a, .int .i64 j, .int .i64 lev, .bool true, .int .i64 st] 125) := ⟨_, rfl⟩
  rw [show (w.alloc (.cells ([.bool true, .int .i64 a, .int .i64 j, .int .i64 lev, .bool true, .int .i64 st] : List Value).toArray 125)) = W1 from hW1.symm] at K1
  rw [← hW1] at b1
  have P1 := Lib.hid (P.below b1)
  have HB := Lib.hid P.ownB
  have F1 := Lib.hid (Fs.of_below (S := B) b1)
  have HZ1 := Lib.hid (show W1.heap.size = w.heap.size + 1 by rw [hW1]; simp)
  have HW1 := Lib.hid hW1.symm
  have HH := Lib.hid hh
  have D1 := Lib.hid d1
  have hj : j < sm := by omega
  obtain ⟨gl, cl, gr, cr, rfl, rfl, dk⟩ := P1.out.desk
  have hjl : j < S.l.length := by rw [d1]; exact hj
  have hjr : j < S.r.length := by rw [show S.r.length = S.l.length from P.len]; exact hjl
  have DK := Lib.hid dk
  obtain ⟨⟨q0, q1, _, _⟩, _⟩ := P1.out.get
  have y0 := dk.ol.cell hjl
  have y1 := dk.or_.cell (i := j) hjr
  have GL := Lib.hid (show S.l.getD j 0 = S.l[j] by simp [hjl])
  have GR := Lib.hid (show S.r.getD j 0 = S.r[j] by simp [hjr])
  generalize S.l[j] = u at y0 GL
  generalize S.r[j] = v at y1 GR
  have c0 := K1.out.get 0 _ rfl
  have c2 := K1.out.get 2 _ rfl
  have c3 := K1.out.get 3 _ rfl
  have i0 : (0 : Int) ≤ (j : Int) := by omega
  have i1 : (j : Int) < (S.l.length : Int) := by omega
  have kq0 := fun d os => cell_regrown q0 d os
  have kq1 := fun d os => cell_regrown q1 d os
  have ky0 := fun d os => cell_regrown y0 d os
  have ky1 := fun d os => cell_regrown y1 d os
  have kc2 := fun d os => cell_regrown c2 d os
  have kc3 := fun d os => cell_regrown c3 d os
  have hwr : IntKind.i64.wrap (lev + 1) = lev + 1 := IntWalk.i64_in _ (by omega)
  clear P b1 hW1 p1 p2 p3 p4 p7 p8 hh d1 d2 d3 d4 d5 q0 q1 y0 y1 dk c2 c3
  by_cases hv : v = -1
  · by_cases hu : u = lev
    · have tv : (v != (-1 : Int)) = false := by simp [hv]
      have tu : (u != lev) = false := by simp [hu]
      have HS := Lib.hid (show comeS (true, (a : Int), (j : Int), lev, true, st) S = writeS S (2, (j : Int), st) by
        unfold comeS
        dsimp only
        rw [if_neg (by decide), Int.toNat_natCast, GL.out, GR.out, if_neg (fun h => h.elim (fun h => h hv) (fun h => h hu)), if_pos rfl])
      clear hv hu
      go_enter Try.func88, Try.ntmps88
      go_wp2_with fail
      rw [HW1.out]
      refine wp_region_quiet_below (by kernel_rfl) (by kernel_rfl) ?_
      repeat (first | go_big_quiet_skip | quiet_step (fail))
      refine wpQuiet_nil ?_
      intro _ hw'
      obtain ⟨⟨dq, osq⟩, hw''⟩ := hw'
      subst hw''
      have bq := below_regrown W1 dq osq
      generalize grow (redrawn W1 dq) osq = wq at bq ⊢
      have P2 := Lib.hid (P1.out.below bq)
      have F2 := Lib.hid (F1.out.trans (Fs.of_below bq))
      have K2 := K1.out.below bq
      have c2 := K2.get 2 _ rfl
      have c3 := K2.get 3 _ rfl
      have c4 := K2.get 4 _ rfl
      have c5 := K2.get 5 _ rfl
      have HZ2 := Lib.hid (show w.heap.size ≤ wq.heap.size by have := bq.size; have := HZ1.out; omega)
      clear kq0 kq1 ky0 ky1 kc2 kc3 bq K2 c0
      go_wp2_with fail
      refine (PlWrite_any (2 : Int) st _ P2.out hD0.out (by omega) hj).mono ?_
      rintro e w3 ⟨rfl, ve', P3, F3⟩
      have P3 := Lib.hid (P3.mono (Bm.mono HZ2.out))
      have F3 := Lib.hid (F2.out.trans F3)
      go_wp2
      exact bodyPost_end (v := .tuple #[]) (by simp [results, Try.results88, go_sem]) rfl ⟨rfl, _, by rw [HS.out]; exact P3.out, F3.out⟩
    · have tv : (v != (-1 : Int)) = false := by simp [hv]
      have tu : (u != lev) = true := by simp [hu]
      have HS := Lib.hid (show comeS (true, (a : Int), (j : Int), lev, true, st) S = S by
        unfold comeS
        dsimp only
        rw [if_neg (by decide), Int.toNat_natCast, GL.out, GR.out, if_pos (.inr hu)])
      clear hv hu
      go_enter Try.func88, Try.ntmps88
      go_wp2_with fail
      rw [HW1.out]
      refine wp_region_quiet_below (by kernel_rfl) (by kernel_rfl) ?_
      repeat (first | go_big_quiet_skip | quiet_step (fail))
      refine wpQuiet_nil ?_
      intro _ hw'
      obtain ⟨⟨dq, osq⟩, hw''⟩ := hw'
      subst hw''
      have bq := below_regrown W1 dq osq
      generalize grow (redrawn W1 dq) osq = wq at bq ⊢
      have P2 := Lib.hid (P1.out.below bq)
      have F2 := Lib.hid (F1.out.trans (Fs.of_below bq))
      clear kq0 kq1 ky0 ky1 kc2 kc3 bq c0
      go_wp2
      exact bodyPost_ret (v := .tuple #[]) (by simp [results, Try.results88, go_sem]) rfl ⟨rfl, _, by rw [HS.out]; exact P2.out.mono (fun k hk => .inl hk), F2.out⟩
  · have tv : (v != (-1 : Int)) = true := by simp [hv]
    have HS := Lib.hid (show comeS (true, (a : Int), (j : Int), lev, true, st) S = S by
      unfold comeS
      dsimp only
      rw [if_neg (by decide), Int.toNat_natCast, GL.out, GR.out, if_pos (.inl hv)])
    clear hv
    go_enter Try.func88, Try.ntmps88
    go_wp2_with fail
    rw [HW1.out]
    refine wp_region_quiet_below (by kernel_rfl) (by kernel_rfl) ?_
    repeat (first | go_big_quiet_skip | quiet_step (fail))
    refine wpQuiet_nil ?_
    intro _ hw'
    obtain ⟨⟨dq, osq⟩, hw''⟩ := hw'
    subst hw''
    have bq := below_regrown W1 dq osq
    generalize grow (redrawn W1 dq) osq = wq at bq ⊢
    have P2 := Lib.hid (P1.out.below bq)
    have F2 := Lib.hid (F1.out.trans (Fs.of_below bq))
    clear kq0 kq1 ky0 ky1 kc2 kc3 bq c0
    go_wp2
    exact bodyPost_ret (v := .tuple #[]) (by simp [results, Try.results88, go_sem]) rfl ⟨rfl, _, by rw [HS.out]; exact P2.out.mono (fun k hk => .inl hk), F2.out⟩
set_option maxRecDepth 100000 in
set_option maxHeartbeats 4000000 in
theorem PlCome_back_false {b sm wk n a j : Nat} {B : Nat → Prop} {S : PS} {vl vr ve vh vw vo : Value} (lev st : Int) (w : World) (P : PlIs w b 0 B S vl vr ve vh vw vo) (hD : PlOk sm S) (hp : PkOk n sm wk (true, a, j, lev, false, st)) (hh : S.hands.length = wk) :
    Calls Try.prog 88 #[.pointer (some ⟨b, 0, none⟩), .agg #[.bool true, .int .i64 a, .int .i64 j, .int .i64 lev, .bool false, .int .i64 st]] w fun e w' => e = .returned (.tuple #[]) ∧ ∃ ve', PlIs w' b 0 (Bm B w.heap.size) (comeS (true, a, j, lev, false, st) S) vl vr ve' vh vw vo ∧ Fs B w w' := by
  obtain ⟨p1, p2, p3, p4, p5, p6, p7, p8⟩ := hp
  replace p2 : (a : Int) < (wk : Int) := p2
  replace p4 : (j : Int) < (sm : Int) := p4
  replace p5 : 0 ≤ lev := p5
  replace p6 : lev ≤ 6 := p6
  have hD0 := Lib.hid hD
  obtain ⟨hd, hs1, hs8, hrl, _, _⟩ := hD
  obtain ⟨d1, d2, d3, d4, d5⟩ := hd
  replace d1 : S.l.length = sm := d1
  have b1 : Below w.heap.size w (w.alloc (.cells #[.bool true, .int .i64 a, .int .i64 j, .int .i64 lev, .bool false, .int .i64 st] 125)) := (Below.refl _ _).alloc (Nat.le_refl _) _
  have K1 := Lib.hid (CellsAt.new w [.bool true, .int .i64 a, .int .i64 j, .int .i64 lev, .bool false, .int .i64 st] 125)
  obtain ⟨W1, hW1⟩ : ∃ W1, W1 = w.alloc (.cells #[.bool true, .int .i64 a, .int .i64 j, .int .i64 lev, .bool false, .int .i64 st] 125) := ⟨_, rfl⟩
  rw [show (w.alloc (.cells ([.bool true, .int .i64 a, .int .i64 j, .int .i64 lev, .bool false, .int .i64 st] : List Value).toArray 125)) = W1 from hW1.symm] at K1
  rw [← hW1] at b1
  have P1 := Lib.hid (P.below b1)
  have HB := Lib.hid P.ownB
  have F1 := Lib.hid (Fs.of_below (S := B) b1)
  have HZ1 := Lib.hid (show W1.heap.size = w.heap.size + 1 by rw [hW1]; simp)
  have HW1 := Lib.hid hW1.symm
  have HH := Lib.hid hh
  have D1 := Lib.hid d1
  have hj : j < sm := by omega
  obtain ⟨gl, cl, gr, cr, rfl, rfl, dk⟩ := P1.out.desk
  have hjl : j < S.l.length := by rw [d1]; exact hj
  have hjr : j < S.r.length := by rw [show S.r.length = S.l.length from P.len]; exact hjl
  have DK := Lib.hid dk
  obtain ⟨⟨q0, q1, _, _⟩, _⟩ := P1.out.get
  have y0 := dk.ol.cell hjl
  have y1 := dk.or_.cell (i := j) hjr
  have GL := Lib.hid (show S.l.getD j 0 = S.l[j] by simp [hjl])
  have GR := Lib.hid (show S.r.getD j 0 = S.r[j] by simp [hjr])
  generalize S.l[j] = u at y0 GL
  generalize S.r[j] = v at y1 GR
  have c0 := K1.out.get 0 _ rfl
  have c2 := K1.out.get 2 _ rfl
  have c3 := K1.out.get 3 _ rfl
  have i0 : (0 : Int) ≤ (j : Int) := by omega
  have i1 : (j : Int) < (S.l.length : Int) := by omega
  have kq0 := fun d os => cell_regrown q0 d os
  have kq1 := fun d os => cell_regrown q1 d os
  have ky0 := fun d os => cell_regrown y0 d os
  have ky1 := fun d os => cell_regrown y1 d os
  have kc2 := fun d os => cell_regrown c2 d os
  have kc3 := fun d os => cell_regrown c3 d os
  have hwr : IntKind.i64.wrap (lev + 1) = lev + 1 := IntWalk.i64_in _ (by omega)
  clear P b1 hW1 p1 p2 p3 p4 p7 p8 hh d1 d2 d3 d4 d5 q0 q1 y0 y1 dk c2 c3
  by_cases hv : v = -1
  · by_cases hu : u = lev
    · have tv : (v != (-1 : Int)) = false := by simp [hv]
      have tu : (u != lev) = false := by simp [hu]
      have HS := Lib.hid (show comeS (true, (a : Int), (j : Int), lev, false, st) S = writeS S (1, (j : Int), lev + 1) by
        unfold comeS
        dsimp only
        rw [if_neg (by decide), Int.toNat_natCast, GL.out, GR.out, if_neg (fun h => h.elim (fun h => h hv) (fun h => h hu)), if_neg (by decide)])
      clear hv hu
      go_enter Try.func88, Try.ntmps88
      go_wp2_with fail
      rw [HW1.out]
      refine wp_region_quiet_below (by kernel_rfl) (by kernel_rfl) ?_
      repeat (first | go_big_quiet_skip | quiet_step (fail))
      refine wpQuiet_nil ?_
      intro _ hw'
      obtain ⟨⟨dq, osq⟩, hw''⟩ := hw'
      subst hw''
      have bq := below_regrown W1 dq osq
      generalize grow (redrawn W1 dq) osq = wq at bq ⊢
      have P2 := Lib.hid (P1.out.below bq)
      have F2 := Lib.hid (F1.out.trans (Fs.of_below bq))
      have K2 := K1.out.below bq
      have c2 := K2.get 2 _ rfl
      have c3 := K2.get 3 _ rfl
      have c4 := K2.get 4 _ rfl
      have c5 := K2.get 5 _ rfl
      have HZ2 := Lib.hid (show w.heap.size ≤ wq.heap.size by have := bq.size; have := HZ1.out; omega)
      clear kq0 kq1 ky0 ky1 kc2 kc3 bq K2 c0
      go_wp2_with fail
      refine (PlWrite_any (1 : Int) (lev + 1) _ P2.out hD0.out (by omega) hj).mono ?_
      rintro e w3 ⟨rfl, ve', P3, F3⟩
      have P3 := Lib.hid (P3.mono (Bm.mono HZ2.out))
      have F3 := Lib.hid (F2.out.trans F3)
      go_wp2
      exact bodyPost_end (v := .tuple #[]) (by simp [results, Try.results88, go_sem]) rfl ⟨rfl, _, by rw [HS.out]; exact P3.out, F3.out⟩
    · have tv : (v != (-1 : Int)) = false := by simp [hv]
      have tu : (u != lev) = true := by simp [hu]
      have HS := Lib.hid (show comeS (true, (a : Int), (j : Int), lev, false, st) S = S by
        unfold comeS
        dsimp only
        rw [if_neg (by decide), Int.toNat_natCast, GL.out, GR.out, if_pos (.inr hu)])
      clear hv hu
      go_enter Try.func88, Try.ntmps88
      go_wp2_with fail
      rw [HW1.out]
      refine wp_region_quiet_below (by kernel_rfl) (by kernel_rfl) ?_
      repeat (first | go_big_quiet_skip | quiet_step (fail))
      refine wpQuiet_nil ?_
      intro _ hw'
      obtain ⟨⟨dq, osq⟩, hw''⟩ := hw'
      subst hw''
      have bq := below_regrown W1 dq osq
      generalize grow (redrawn W1 dq) osq = wq at bq ⊢
      have P2 := Lib.hid (P1.out.below bq)
      have F2 := Lib.hid (F1.out.trans (Fs.of_below bq))
      clear kq0 kq1 ky0 ky1 kc2 kc3 bq c0
      go_wp2
      exact bodyPost_ret (v := .tuple #[]) (by simp [results, Try.results88, go_sem]) rfl ⟨rfl, _, by rw [HS.out]; exact P2.out.mono (fun k hk => .inl hk), F2.out⟩
  · have tv : (v != (-1 : Int)) = true := by simp [hv]
    have HS := Lib.hid (show comeS (true, (a : Int), (j : Int), lev, false, st) S = S by
      unfold comeS
      dsimp only
      rw [if_neg (by decide), Int.toNat_natCast, GL.out, GR.out, if_pos (.inl hv)])
    clear hv
    go_enter Try.func88, Try.ntmps88
    go_wp2_with fail
    rw [HW1.out]
    refine wp_region_quiet_below (by kernel_rfl) (by kernel_rfl) ?_
    repeat (first | go_big_quiet_skip | quiet_step (fail))
    refine wpQuiet_nil ?_
    intro _ hw'
    obtain ⟨⟨dq, osq⟩, hw''⟩ := hw'
    subst hw''
    have bq := below_regrown W1 dq osq
    generalize grow (redrawn W1 dq) osq = wq at bq ⊢
    have P2 := Lib.hid (P1.out.below bq)
    have F2 := Lib.hid (F1.out.trans (Fs.of_below bq))
    clear kq0 kq1 ky0 ky1 kc2 kc3 bq c0
    go_wp2
    exact bodyPost_ret (v := .tuple #[]) (by simp [results, Try.results88, go_sem]) rfl ⟨rfl, _, by rw [HS.out]; exact P2.out.mono (fun k hk => .inl hk), F2.out⟩
theorem PlCome_any {b sm wk n : Nat} {B : Nat → Prop} {S : PS} {vl vr ve vh vw vo : Value} (pk : Pk) (w : World) (P : PlIs w b 0 B S vl vr ve vh vw vo) (hD : PlOk sm S) (hp : PkOk n sm wk pk) (hh : S.hands.length = wk) :
    Calls Try.prog 88 #[.pointer (some ⟨b, 0, none⟩), .agg #[.bool pk.1, .int .i64 pk.2.1, .int .i64 pk.2.2.1, .int .i64 pk.2.2.2.1, .bool pk.2.2.2.2.1, .int .i64 pk.2.2.2.2.2]] w fun e w' => e = .returned (.tuple #[]) ∧ ∃ ve', PlIs w' b 0 (Bm B w.heap.size) (comeS pk S) vl vr ve' vh vw vo ∧ Fs B w w' := by
  obtain ⟨bk, a0, j0, lev, met, st⟩ := pk
  have hp0 := hp
  obtain ⟨p1, p2, p3, p4, _⟩ := hp
  obtain ⟨a, rfl⟩ := Int.eq_ofNat_of_zero_le p1
  obtain ⟨j, rfl⟩ := Int.eq_ofNat_of_zero_le p3
  cases bk
  · exact PlCome_front met lev st w P hD hp0 hh
  · cases met
    · exact PlCome_back_false lev st w P hD hp0 hh
    · exact PlCome_back_true lev st w P hD hp0 hh
end Go.Proofs.Ytijpkcdalmlaiaa
