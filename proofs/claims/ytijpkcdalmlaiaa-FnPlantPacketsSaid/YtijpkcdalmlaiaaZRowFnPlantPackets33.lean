/-
  The reference's plant: packets are sent, the next sample, a sample is handed out. With it: The reference's plant in memory: a run, what it is kept by. The reference's plant: a record is written.
-/
import Derived.Test.YtijpkcdalmlaiaaZRowFnPlantPackets29
import Derived.Test.YtijpkcdalmlaiaaZRowFnPlantPackets23
import Derived.Test.YtijpkcdalmlaiaaZRowFnPlantPackets19
set_option linter.unusedVariables false
set_option linter.unusedSimpArgs false
namespace Go.Proofs.Ytijpkcdalmlaiaa
open Go.RowKit Go.Sort
/-- a run: a pointer to its service, and a plant behind it -/
structure RunIs (w : World) (b sb : Nat) (B : Nat → Prop) (S : PS) (vl vr ve vh vw vo : Value) : Prop extends PlIs w b 1 B S vl vr ve vh vw vo where
  c0 : w.cell? ⟨b, 0, none⟩ = some (.pointer (some ⟨sb, 0, none⟩))
theorem RunIs.below {w w' : World} {b sb : Nat} {B : Nat → Prop} {S : PS} {vl vr ve vh vw vo : Value} (h : RunIs w b sb B S vl vr ve vh vw vo) (hb : Below w.heap.size w w') : RunIs w' b sb B S vl vr ve vh vw vo :=
  ⟨h.toPlIs.below hb, by rw [hb.cell (p := ⟨b, 0, none⟩) h.hold.lt]; exact h.c0⟩
theorem RunIs.mono {w : World} {b sb : Nat} {B B' : Nat → Prop} {S : PS} {vl vr ve vh vw vo : Value} (h : RunIs w b sb B S vl vr ve vh vw vo) (hB : ∀ k, B k → B' k) : RunIs w b sb B' S vl vr ve vh vw vo := ⟨h.toPlIs.mono hB, h.c0⟩
theorem RunIs.fs {T : Nat → Prop} {w w' : World} {b sb : Nat} {B : Nat → Prop} {S : PS} {vl vr ve vh vw vo : Value} (h : RunIs w b sb B S vl vr ve vh vw vo) (hf : Fs T w w') (hT : ∀ k, B k → ¬ T k) : RunIs w' b sb B S vl vr ve vh vw vo :=
  ⟨h.toPlIs.fs hf hT, by rw [hf.cell (p := ⟨b, 0, none⟩) h.hold.lt (hT b (h.inB 0 b rfl))]; exact h.c0⟩
theorem RunIs.get {w : World} {b sb : Nat} {B : Nat → Prop} {S : PS} {vl vr ve vh vw vo : Value} (h : RunIs w b sb B S vl vr ve vh vw vo) : (w.cell? ⟨b, 0, none⟩ = some (.pointer (some ⟨sb, 0, none⟩)) ∧ w.cell? ⟨b, 1, none⟩ = some vl ∧ w.cell? ⟨b, 2, none⟩ = some vr ∧ w.cell? ⟨b, 3, none⟩ = some (.int .i64 S.q) ∧ w.cell? ⟨b, 4, none⟩ = some ve) ∧ w.cell? ⟨b, 5, none⟩ = some (.int .i64 S.sy) ∧ w.cell? ⟨b, 6, none⟩ = some vh ∧ w.cell? ⟨b, 7, none⟩ = some vw ∧ w.cell? ⟨b, 8, none⟩ = some vo :=
  ⟨⟨h.c0, h.box 0 _ rfl, h.box 1 _ rfl, h.box 2 _ rfl, h.box 3 _ rfl⟩, h.box 4 _ rfl, h.box 5 _ rfl, h.box 6 _ rfl, h.box 7 _ rfl⟩
theorem RunIs.part0 {w w2 : World} {b sb : Nat} {B : Nat → Prop} {S S' : PS} {vl vr ve vh vw vo : Value} (P : RunIs w b sb B S vl vr ve vh vw vo) (ci : Nat) {c c' : Ch} (hc : (parts S vl vr ve vh vw vo)[ci]? = some c) (hp : parts S' vl vr ve vh vw vo = (parts S vl vr ve vh vw vo).set ci c') (hs : slots S' vl vr ve vh vw vo = slots S vl vr ve vh vw vo)
    (g : w.grownBy w2 c.v.ownBlock) (ho : c'.own w2) (hv : c'.v = c.v) (hl : S'.r.length = S'.l.length) (hpos : 0 < S'.l.length) : RunIs w2 b sb B S' vl vr ve vh vw vo :=
  ⟨P.toPlIs.part0 ci hc hp hs g ho hv hl hpos, by rw [(grown_at g P.hold.lt (P.hold.ne_box hc) 0).1]; exact P.c0⟩
theorem RunIs.part {w w2 : World} {b sb : Nat} {B : Nat → Prop} {S S' : PS} {vl vr ve vh vw vo vl' vr' ve' vh' vw' vo' : Value} (P : RunIs w b sb B S vl vr ve vh vw vo) (ci si : Nat) {c c' : Ch} (hc : (parts S vl vr ve vh vw vo)[ci]? = some c) (hp : parts S' vl' vr' ve' vh' vw' vo' = (parts S vl vr ve vh vw vo).set ci c') (hs : slots S' vl' vr' ve' vh' vw' vo' = (slots S vl vr ve vh vw vo).set si c'.v) (hsi : si < 8)
    (g : w.grownBy w2 c.v.ownBlock) (ho : c'.own w2) {m : Nat} (hm : m ≤ w.heap.size) (hat : ∀ x, c'.v.ownBlock = some x → c.v.ownBlock = some x ∨ w.heap.size ≤ x) (hl : S'.r.length = S'.l.length) (hpos : 0 < S'.l.length) :
    RunIs (w2.setCell ⟨b, 1 + si, none⟩ c'.v) b sb (Bm B m) S' vl' vr' ve' vh' vw' vo' :=
  ⟨P.toPlIs.part ci si hc hp hs hsi g ho hm hat hl hpos, by
    have h := P.c0
    rw [← (grown_at g P.hold.lt (P.hold.ne_box hc) 0).1] at h
    have e : ¬ 1 + si = 0 := by omega
    have e2 : ¬ 0 = 1 + si := by omega
    simp [go_sem, h, e, e2]⟩
theorem RunIs.number {w : World} {b sb : Nat} {B : Nat → Prop} {S : PS} {vl vr ve vh vw vo : Value} (P : RunIs w b sb B S vl vr ve vh vw vo) (k : Nat) : RunIs (w.setCell ⟨b, 1 + 4, none⟩ (.int .i64 k)) b sb B { S with sy := k } vl vr ve vh vw vo :=
  ⟨P.toPlIs.number k, by have h := P.c0; simp [go_sem, h]⟩
theorem RunIs.newDesk {w w3 : World} {b sb : Nat} {B : Nat → Prop} {S : PS} {vl vr ve vh vw vo vl' vr' : Value} {l r : List Int} (q : Int) (P : RunIs w b sb B S vl vr ve vh vw vo) (hb : Below w.heap.size w w3) (hd : DeskO w3 w.heap.size vl' vr' l r) (hp : 0 < l.length) :
    RunIs (((w3.setCell ⟨b, 1 + 0, none⟩ vl').setCell ⟨b, 1 + 1, none⟩ vr').setCell ⟨b, 1 + 2, none⟩ (.int .i64 q)) b sb (Bm B w.heap.size) { S with l := l, r := r, q := q } vl' vr' ve vh vw vo :=
  ⟨P.toPlIs.newDesk q hb hd hp, by have h := (P.below hb).c0; simp [go_sem, h]⟩
theorem PlIs.deskO {w : World} {b o : Nat} {B : Nat → Prop} {S : PS} {gl cl gr cr : Nat} {ve vh vw vo : Value} (h : PlIs w b o B S (.slice (some ⟨gl, 0, none⟩) S.l.length cl) (.slice (some ⟨gr, 0, none⟩) S.l.length cr) ve vh vw vo) : DeskIs w 0 b o gl cl gr cr S.l S.r S.q := by
  obtain ⟨a, b, c, d, h1, h2, h3⟩ := h.desk
  simp only [Value.slice.injEq, Option.some.injEq, Addr.mk.injEq] at h1 h2
  obtain ⟨⟨rfl, _⟩, _, rfl⟩ := h1
  obtain ⟨⟨rfl, _⟩, _, rfl⟩ := h2
  exact h3
theorem RunIs.learn {w w' : World} {b sb : Nat} {B : Nat → Prop} {S : PS} {gl cl gr cr : Nat} {ve vh vw vo : Value} {k s v : Int} {e : Ending} (P : RunIs w b sb B S (.slice (some ⟨gl, 0, none⟩) S.l.length cl) (.slice (some ⟨gr, 0, none⟩) S.l.length cr) ve vh vw vo)
    (h : LearnP w 0 b 1 gl cl gr cr S.l S.r S.q k s v e w') : (∃ t, e = .returned (.bool t)) ∧ RunIs w' b sb B (learnS S (k, s, v)) (.slice (some ⟨gl, 0, none⟩) S.l.length cl) (.slice (some ⟨gr, 0, none⟩) S.l.length cr) ve vh vw vo ∧ Fs B w w' := by
  obtain ⟨h1, h2, h3⟩ := P.toPlIs.learn h
  refine ⟨h1, ⟨h2, ?_⟩, h3⟩
  obtain ⟨_, hf, _⟩ := h
  rw [hf.box 0 (by omega)]
  exact P.c0
theorem RunIs.row {w : World} {b sb : Nat} {B : Nat → Prop} {S : PS} {vl vr ve vh vw vo : Value} (h : RunIs w b sb B S vl vr ve vh vw vo) {i : Nat} {c : Ch} (hc : (parts S vl vr ve vh vw vo)[i]? = some c) : ∀ k, c.v.ownBlock = some k → OwnB b S vl vr ve vh vw vo k := h.toPlIs.row hc
/-- a service that what happens from M on leaves as it is -/
structure SvF (M : Nat) (w : World) (sb n : Nat) (t : Int) (sv : Value) (xss : List (List Int)) (bs : Int) (sm wk : Nat) : Prop where
  le : M ≤ w.heap.size
  get : ∀ W, Below M w W → ServAt W sb 0 n t sv bs sm wk ∧ SlII W sv xss
theorem SvF.step {M : Nat} {w w' : World} {sb n : Nat} {t : Int} {sv : Value} {xss : List (List Int)} {bs : Int} {sm wk : Nat} (h : SvF M w sb n t sv xss bs sm wk) (hb : Below M w w') : SvF M w' sb n t sv xss bs sm wk :=
  ⟨Nat.le_trans h.le hb.size, fun W hW => h.get W (hb.trans hW)⟩
theorem SvF.fs {M : Nat} {B : Nat → Prop} {w w' : World} {sb n : Nat} {t : Int} {sv : Value} {xss : List (List Int)} {bs : Int} {sm wk : Nat} (h : SvF M w sb n t sv xss bs sm wk) (hf : Fs B w w') (hB : ∀ k, B k → M ≤ k) : SvF M w' sb n t sv xss bs sm wk :=
  h.step (hf.below h.le hB)
theorem SvF.now {M : Nat} {w : World} {sb n : Nat} {t : Int} {sv : Value} {xss : List (List Int)} {bs : Int} {sm wk : Nat} (h : SvF M w sb n t sv xss bs sm wk) : ServAt w sb 0 n t sv bs sm wk ∧ SlII w sv xss := h.get w (Below.refl _ _)
theorem Bm.le {B : Nat → Prop} {M m : Nat} (hB : ∀ k, B k → M ≤ k) (hm : M ≤ m) : ∀ k, Bm B m k → M ≤ k := fun k hk => hk.elim (hB k) (fun h => Nat.le_trans hm h)
theorem servCells {w : World} {sb n : Nat} {t : Int} {sv : Value} {bs : Int} {sm wk : Nat} (h : ServAt w sb 0 n t sv bs sm wk) : w.cell? ⟨sb, 0, none⟩ = some (.int .i64 n) ∧ w.cell? ⟨sb, 1, none⟩ = some (.int .i64 t) ∧ w.cell? ⟨sb, 2, none⟩ = some sv ∧ w.cell? ⟨sb, 3, none⟩ = some (.int .i64 bs) ∧ w.cell? ⟨sb, 4, none⟩ = some (.int .i64 sm) ∧ w.cell? ⟨sb, 5, none⟩ = some (.int .i64 wk) := by
  obtain ⟨⟨_, p0, p1, p2⟩, p3, p4, p5⟩ := h
  simp only [Nat.zero_add] at p0 p1 p2 p3 p4 p5
  exact ⟨p0, p1, p2, p3, p4, p5⟩
def DoR (b sb : Nat) (B : Nat → Prop) (R : Int × PS) (w : World) (e : Ending) (w' : World) : Prop :=
  e = .returned (.int .i64 R.1) ∧ (∃ vl vr ve vh vw vo, RunIs w' b sb (Bm B w.heap.size) R.2 vl vr ve vh vw vo) ∧ Fs B w w'
theorem DoR.mk {b sb : Nat} {B : Nat → Prop} {R : Int × PS} {k : Int} {S : PS} {w w' : World} {vl vr ve vh vw vo : Value} (hR : R = (k, S)) (P : RunIs w' b sb (Bm B w.heap.size) S vl vr ve vh vw vo) (F : Fs B w w') : DoR b sb B R w (.returned (.int .i64 k)) w' := by
  subst hR
  exact ⟨rfl, ⟨_, _, _, _, _, _, P⟩, F⟩
theorem DoR.up {b sb : Nat} {B : Nat → Prop} {R : Int × PS} {w W w' : World} {e : Ending} (h : DoR b sb B R W e w') (F : Fs B w W) : DoR b sb B R w e w' := by
  obtain ⟨h1, ⟨vl, vr, ve, vh, vw, vo, h2⟩, h3⟩ := h
  exact ⟨h1, ⟨vl, vr, ve, vh, vw, vo, h2.mono (Bm.mono F.size)⟩, F.trans h3⟩
end Go.Proofs.Ytijpkcdalmlaiaa
namespace Go.Proofs.Ytijpkcdalmlaiaa
open Go.RowKit Go.Sort

set_option maxRecDepth 100000 in
set_option maxHeartbeats 4000000 in
theorem RnWrite_any {b sb : Nat} {B : Nat → Prop} {S : PS} {vl vr ve vh vw vo : Value} {sm j : Nat} (k v : Int) (w : World) (P : RunIs w b sb B S vl vr ve vh vw vo) (hD : PlOk sm S) (hk : k = 1 ∨ k = 2 ∨ k = 3) (hj : j < sm) :
    Calls Try.prog 119 #[.pointer (some ⟨b, 0, none⟩), .agg #[.int .i64 k, .int .i64 j, .int .i64 v]] w fun e w' => e = .returned (.tuple #[]) ∧ ∃ ve', RunIs w' b sb (Bm B w.heap.size) (writeS S (k, j, v)) vl vr ve' vh vw vo ∧ Fs B w w' := by
  obtain ⟨hd, hs1, hs8, hrl, _, _⟩ := hD
  obtain ⟨d1, d2, d3, d4, d5⟩ := hd
  obtain ⟨gl, cl, gr, cr, rfl, rfl, _⟩ := P.desk
  obtain ⟨ea, ec, rfl, _, _⟩ := P.oe.shape
  have b1 : Below w.heap.size w (w.alloc (.cells #[.int .i64 k, .int .i64 j, .int .i64 v] 121)) := (Below.refl _ _).alloc (Nat.le_refl _) _
  have R1 := Lib.hid (Box3v.new w (.int .i64 k) (.int .i64 j) (.int .i64 v) 121)
  obtain ⟨W1, hW1⟩ : ∃ W1, W1 = w.alloc (.cells #[.int .i64 k, .int .i64 j, .int .i64 v] 121) := ⟨_, rfl⟩
  rw [← hW1] at b1 R1
  have HZ1 := Lib.hid (show W1.heap.size = w.heap.size + 1 by rw [hW1]; simp)
  have P1 := Lib.hid (P.below b1)
  have HB := Lib.hid P.ownB
  have HL := Lib.hid P.ownLt
  have HE := Lib.hid (P.row (i := 2) rfl)
  have F1 := Lib.hid (Fs.of_below (S := B) b1)
  have hbl := P.blt
  obtain ⟨W2, hW2⟩ : ∃ W2, W2 = (W1.alloc (.cells #[.int .i64 k, .int .i64 j, .int .i64 v] 121)).drew := ⟨_, rfl⟩
  have b2 : Below W1.heap.size W1 W2 := by rw [hW2]; exact ((Below.refl _ _).alloc (Nat.le_refl _) _).drew
  have P2 := Lib.hid (P1.out.below b2)
  have R2 := Lib.hid (R1.out.below b2)
  have F2 := Lib.hid (F1.out.trans (Fs.of_below b2))
  have RD := Lib.hid (show Rd W2 (some ⟨W1.heap.size, 0, none⟩) (FRecord.encs [(k, (j : Int), v)]) by
    rw [hW2]
    exact (rd_new W1 #[.int .i64 k, .int .i64 j, .int .i64 v] 121).below (Below.refl _ _).drew)
  have CW := Lib.hid (show ∀ W, Below W1.heap.size W1 W → (W.cell? ⟨b, 4, none⟩ = some (.slice ea S.recs.length ec) ∧ W.cell? ⟨w.heap.size, 0, none⟩ = some (.int .i64 k) ∧ W.cell? ⟨w.heap.size, 1, none⟩ = some (.int .i64 j) ∧ W.cell? ⟨w.heap.size, 2, none⟩ = some (.int .i64 v)) from fun W h => by
    obtain ⟨⟨_, _, _, _, q3⟩, _⟩ := (P1.out.below h).get
    obtain ⟨_, r0, r1, r2⟩ := R1.out.below h
    exact ⟨q3, r0, r1, r2⟩)
  have hz2 : W1.heap.size < W2.heap.size := by rw [hW2]; simp
  have HZ2 := Lib.hid (show w.heap.size ≤ W2.heap.size by have := HZ1.out; omega)
  have HW1 := Lib.hid hW1.symm
  have HW2 := Lib.hid hW2.symm
  have hln : S.recs.length + [(k, (j : Int), v)].length ≤ 16777216 := by simp; omega
  clear P b1 b2 hW1 hW2
  go_enter Try.func119, Try.ntmps119
  go_wp2_with fail
  rw [HW1.out]
  refine wpX_start (fun W => W.cell? ⟨b, 4, none⟩ = some (.slice ea S.recs.length ec) ∧ W.cell? ⟨w.heap.size, 0, none⟩ = some (.int .i64 k) ∧ W.cell? ⟨w.heap.size, 1, none⟩ = some (.int .i64 j) ∧ W.cell? ⟨w.heap.size, 2, none⟩ = some (.int .i64 v)) [8, 9, 10, 11, 12] (by kernel_rfl) ?_
  have hC := CW.out W1.drew (Below.refl W1.heap.size W1).drew
  refine wpX_free (i := 0) (v := ?_) rfl (by kernel_rfl) (fun _ _ _ h => h) rfl (fun w' => ?_) ?_
  rotate_left
  · go_simp; try with_reducible rfl
  try simp only [Act.put, List.setIfInBounds_toArray, List.set_cons_zero, List.set_cons_succ]
  refine wpX_free (i := 1) (v := ?_) rfl (by kernel_rfl) (fun _ _ _ h => h) rfl (fun w' => ?_) ?_
  rotate_left
  · go_simp; try with_reducible rfl
  try simp only [Act.put, List.setIfInBounds_toArray, List.set_cons_zero, List.set_cons_succ]
  refine wpX_free (i := 2) (v := ?_) rfl (by kernel_rfl) (fun _ _ _ h => h) rfl (fun w' => ?_) ?_
  rotate_left
  · go_simp; try with_reducible rfl
  try simp only [Act.put, List.setIfInBounds_toArray, List.set_cons_zero, List.set_cons_succ]
  refine wpX_free (i := 3) (v := ?_) rfl (by kernel_rfl) (fun _ _ _ h => h) rfl (fun w' => ?_) ?_
  rotate_left
  · go_simp; try with_reducible rfl
  try simp only [Act.put, List.setIfInBounds_toArray, List.set_cons_zero, List.set_cons_succ]
  refine wpX_free (i := 4) (v := ?_) rfl (by kernel_rfl) (fun _ _ _ h => h) rfl (fun w' => ?_) ?_
  rotate_left
  · go_simp; try with_reducible rfl
  try simp only [Act.put, List.setIfInBounds_toArray, List.set_cons_zero, List.set_cons_succ]
  refine wpX_load (i := 5) (v := ?_) rfl (by kernel_rfl) (fun _ _ _ h => h) hC rfl (fun w' hw' => ?_) ?_
  rotate_left
  · obtain ⟨k1, k2, k3, k4⟩ := hw'; go_simp; try with_reducible rfl
  try simp only [Act.put, List.setIfInBounds_toArray, List.set_cons_zero, List.set_cons_succ]
  refine wpX_load (i := 6) (v := ?_) rfl (by kernel_rfl) (fun _ _ _ h => h) hC rfl (fun w' hw' => ?_) ?_
  rotate_left
  · obtain ⟨k1, k2, k3, k4⟩ := hw'; go_simp; try with_reducible rfl
  try simp only [Act.put, List.setIfInBounds_toArray, List.set_cons_zero, List.set_cons_succ]
  refine wpX_one (i := 7) rfl (by kernel_rfl) rfl ?_
  intro K hK
  go_simp
  rw [HW2.out]
  have hC := CW.out W2 (by rw [← HW2.out]; exact ((Below.refl _ _).alloc (Nat.le_refl _) _).drew)
  refine hK _ _ hC ?_
  clear hK K
  try simp only [Act.put, List.setIfInBounds_toArray, List.set_cons_zero, List.set_cons_succ]
  refine wpX_rest (t := [8, 9, 10, 11, 12]) (l := [_, _, _, _, _]) rfl (by kernel_rfl) (by kernel_rfl) ?_
  clear hC
  refine Flat.append_at FRecord W2 (.tmp 9) (.tmp 11) rfl rfl (base := 0) (v := .slice ea S.recs.length ec) (xs := S.recs) (ys := [(k, (j : Int), v)]) rfl P2.out.oe rfl RD.out hln (Nat.zero_le _) ?_
  intro v' w4 o4 g4 at4
  obtain ⟨na, nc, hv', _, _⟩ := o4.shape
  simp only [List.length_append, List.length_cons, List.length_nil, Nat.zero_add] at hv'
  have e4 := grown_at g4 P2.out.hold.lt (P2.out.hold.ne_box (i := 2) rfl) 4
  have c4 := e4.1.trans P2.out.get.1.2.2.2.2
  have f4 := e4.2.trans (P2.out.fz 4)
  have P4 := P2.out.part (S' := { S with recs := S.recs ++ [(k, (j : Int), v)] }) 2 3 (c' := FRecord.ch v' (S.recs ++ [(k, (j : Int), v)])) rfl rfl rfl (by decide) g4 o4 (m := w.heap.size) HZ2.out (at_of at4) P2.out.len P2.out.pos
  have F4 := F2.out.trans ((Fs.of_grown (S := B) g4 (fun k hk => HB.out k (P2.out.row (i := 2) rfl k hk))).set (a := ⟨b, 1 + 3, none⟩) (HB.out b ⟨0, rfl⟩) v')
  have R4 := R2.out.fs ((Fs.of_grown (S := OwnB b S (.slice (some ⟨gl, 0, none⟩) S.l.length cl) (.slice (some ⟨gr, 0, none⟩) S.l.length cr) (.slice ea S.recs.length ec) vh vw vo) g4 HE.out).set (a := ⟨b, 1 + 3, none⟩) ⟨0, rfl⟩ v') (fun h => Nat.lt_irrefl _ (HL.out _ h))
  subst hv'
  have P4 := Lib.hid P4
  have F4 := Lib.hid F4
  clear o4 g4 at4 e4
  obtain ⟨W4, hW4⟩ : ∃ W4, W4 = w4.setCell ⟨b, 4, none⟩ (.slice na (S.recs.length + 1) nc) := ⟨_, rfl⟩
  have P5 := Lib.hid (show RunIs W4 b sb (Bm B w.heap.size) { S with recs := S.recs ++ [(k, (j : Int), v)] } (.slice (some ⟨gl, 0, none⟩) S.l.length cl) (.slice (some ⟨gr, 0, none⟩) S.l.length cr) (.slice na (S.recs.length + 1) nc) vh vw vo by rw [hW4]; exact P4.out)
  have R5 := Lib.hid (show Box3v W4 w.heap.size (.int .i64 k) (.int .i64 j) (.int .i64 v) by rw [hW4]; exact R4)
  have F5 := Lib.hid (show Fs B w W4 by rw [hW4]; exact F4.out)
  have HW4 := Lib.hid hW4.symm
  clear hW4 P4 F4 R4
  go_wp2_with fail
  rw [HW4.out]
  refine wpX_start (fun W => W.cell? ⟨w.heap.size, 0, none⟩ = some (.int .i64 k) ∧ W.cell? ⟨w.heap.size, 1, none⟩ = some (.int .i64 j) ∧ W.cell? ⟨w.heap.size, 2, none⟩ = some (.int .i64 v)) [5] (by kernel_rfl) ?_
  have hC := (R5.out.below (Below.refl W4.heap.size W4).drew).2
  refine wpX_free (i := 0) (v := ?_) rfl (by kernel_rfl) (fun _ _ _ h => h) rfl (fun w' => ?_) ?_
  rotate_left
  · go_simp; try with_reducible rfl
  try simp only [Act.put, List.setIfInBounds_toArray, List.set_cons_zero, List.set_cons_succ]
  refine wpX_free (i := 1) (v := ?_) rfl (by kernel_rfl) (fun _ _ _ h => h) rfl (fun w' => ?_) ?_
  rotate_left
  · go_simp; try with_reducible rfl
  try simp only [Act.put, List.setIfInBounds_toArray, List.set_cons_zero, List.set_cons_succ]
  refine wpX_free (i := 2) (v := ?_) rfl (by kernel_rfl) (fun _ _ _ h => h) rfl (fun w' => ?_) ?_
  rotate_left
  · go_simp; try with_reducible rfl
  try simp only [Act.put, List.setIfInBounds_toArray, List.set_cons_zero, List.set_cons_succ]
  refine wpX_free (i := 3) (v := ?_) rfl (by kernel_rfl) (fun _ _ _ h => h) rfl (fun w' => ?_) ?_
  rotate_left
  · go_simp; try with_reducible rfl
  try simp only [Act.put, List.setIfInBounds_toArray, List.set_cons_zero, List.set_cons_succ]
  refine wpX_load (i := 4) (v := ?_) rfl (by kernel_rfl) (fun _ _ _ h => h) hC rfl (fun w' hw' => ?_) ?_
  rotate_left
  · obtain ⟨k1, k2, k3⟩ := hw'; go_simp; try with_reducible rfl
  try simp only [Act.put, List.setIfInBounds_toArray, List.set_cons_zero, List.set_cons_succ]
  refine wpX_rest (t := [5]) (l := [_]) rfl (by kernel_rfl) (by kernel_rfl) ?_
  clear hC
  have P6 := Lib.hid (P5.out.below (Below.refl W4.heap.size W4).drew)
  go_wp2_with fail
  refine (l09Learn_any k S.q v _ hk P6.out.toPlIs.deskO (show j < S.l.length by rw [show S.l.length = sm from d1]; exact hj) (show S.l.length ≤ 1000000 by rw [show S.l.length = sm from d1]; omega) (fun y hy => by have := d3 y hy; omega) d4 (Int.le_trans d5 (by omega))).mono ?_
  intro e w6 hL
  obtain ⟨⟨t, rfl⟩, P7, F7⟩ := P6.out.learn hL
  have P7 := Lib.hid P7
  have F7 := Lib.hid ((F5.out.trans (Fs.of_below (Below.refl W4.heap.size W4).drew)).bm F7 (Nat.le_refl _))
  clear hL
  go_wp2
  exact bodyPost_end (v := .tuple #[]) (by simp [results, Try.results119, go_sem]) rfl ⟨rfl, _, P7.out, F7.out⟩
end Go.Proofs.Ytijpkcdalmlaiaa
namespace Go.Proofs.Ytijpkcdalmlaiaa
open Go.RowKit Go.Sort

set_option maxRecDepth 100000 in
set_option maxHeartbeats 4000000 in
theorem RnSend_any {b sb : Nat} {B : Nat → Prop} {S : PS} {vl vr ve vh vw vo : Value} (x0 : Bool) (x1 x2 x3 : Int) (x4 : Bool) (x5 : Int) (w : World) (P : RunIs w b sb B S vl vr ve vh vw vo) (hwl : S.wire.length ≤ 12) :
    Calls Try.prog 124 #[.pointer (some ⟨b, 0, none⟩), .agg #[.bool x0, .int .i64 x1, .int .i64 x2, .int .i64 x3, .bool x4, .int .i64 x5]] w (DoR b sb B (sendS S (x0, x1, x2, x3, x4, x5)) w) := by
  have b1 : Below w.heap.size w (w.alloc (.cells #[.bool x0, .int .i64 x1, .int .i64 x2, .int .i64 x3, .bool x4, .int .i64 x5] 125)) := (Below.refl _ _).alloc (Nat.le_refl _) _
  have K1 := Lib.hid (CellsAt.new w [.bool x0, .int .i64 x1, .int .i64 x2, .int .i64 x3, .bool x4, .int .i64 x5] 125)
  obtain ⟨W1, hW1⟩ : ∃ W1, W1 = w.alloc (.cells #[.bool x0, .int .i64 x1, .int .i64 x2, .int .i64 x3, .bool x4, .int .i64 x5] 125) := ⟨_, rfl⟩
  rw [show (w.alloc (.cells ([.bool x0, .int .i64 x1, .int .i64 x2, .int .i64 x3, .bool x4, .int .i64 x5] : List Value).toArray 125)) = W1 from hW1.symm] at K1
  rw [← hW1] at b1
  have P1 := Lib.hid (P.below b1)
  have B1 := Lib.hid b1
  have HB := Lib.hid P.ownB
  have HL := Lib.hid P.ownLt
  have F1 := Lib.hid (Fs.of_below (S := B) b1)
  have HZ1 := Lib.hid (show W1.heap.size = w.heap.size + 1 by rw [hW1]; simp)
  have HW1 := Lib.hid hW1.symm
  obtain ⟨wa, wc, rfl, _, _⟩ := P.ow.shape
  have hbl := P1.out.blt
  have q7 := P1.out.get.2.2.2.1
  clear P b1 hW1
  by_cases h12 : S.wire.length = 12
  · have t12 : ((S.wire.length : Int) == 12) = true := by rw [beq_iff_eq]; omega
    have HR := Lib.hid (show sendS S (x0, x1, x2, x3, x4, x5) = (3, S) by unfold sendS; rw [if_pos h12])
    have lb : b < w.heap.size := HL.out b ⟨0, rfl⟩
    have nb : ¬ b = w.heap.size := Nat.ne_of_lt lb
    have bn : ¬ w.heap.size = b := fun h => nb h.symm
    rw [← HW1.out] at q7
    simp [go_sem, nb, bn, lb] at q7
    clear h12
    go_enter Try.func124, Try.ntmps124
    go_wp2
    rw [HW1.out]
    go_ret
    exact DoR.mk HR.out (P1.out.mono (fun k hk => .inl hk)) F1.out
  · have t12 : ((S.wire.length : Int) == 12) = false := by rw [beq_eq_false_iff_ne]; omega
    have HR := Lib.hid (show sendS S (x0, x1, x2, x3, x4, x5) = (0, { S with wire := S.wire ++ [(x0, x1, x2, x3, x4, x5)] }) by unfold sendS; rw [if_neg h12])
    have lb : b < w.heap.size := HL.out b ⟨0, rfl⟩
    have nb : ¬ b = w.heap.size := Nat.ne_of_lt lb
    have bn : ¬ w.heap.size = b := fun h => nb h.symm
    rw [← HW1.out] at q7
    simp [go_sem, nb, bn, lb] at q7
    have hln : S.wire.length + [(x0, x1, x2, x3, x4, x5)].length ≤ 16777216 := by simp; omega
    clear h12
    go_enter Try.func124, Try.ntmps124
    go_wp2_with fail
    rw [HW1.out]
    clear q7
    obtain ⟨W2, hW2⟩ : ∃ W2, W2 = (W1.alloc (.cells #[.bool x0, .int .i64 x1, .int .i64 x2, .int .i64 x3, .bool x4, .int .i64 x5] 125)).drew := ⟨_, rfl⟩
    have b2 : Below W1.heap.size W1 W2 := by rw [hW2]; exact ((Below.refl _ _).alloc (Nat.le_refl _) _).drew
    have P2 := Lib.hid (P1.out.below b2)
    have F2 := Lib.hid (F1.out.trans (Fs.of_below b2))
    have HZ2 := Lib.hid (show w.heap.size ≤ W2.heap.size by have := b2.size; have := HZ1.out; omega)
    have RD := Lib.hid (show Rd W2 (some ⟨W1.heap.size, 0, none⟩) (FPacket.encs [(x0, x1, x2, x3, x4, x5)]) by
      rw [hW2]
      exact (rd_new W1 #[.bool x0, .int .i64 x1, .int .i64 x2, .int .i64 x3, .bool x4, .int .i64 x5] 125).below (Below.refl _ _).drew)
    have CW := Lib.hid (show ∀ W, Below W1.heap.size W1 W → (W.cell? ⟨b, 7, none⟩ = some (.slice wa S.wire.length wc) ∧ W.cell? ⟨w.heap.size, 0, none⟩ = some (.bool x0) ∧ W.cell? ⟨w.heap.size, 1, none⟩ = some (.int .i64 x1) ∧ W.cell? ⟨w.heap.size, 2, none⟩ = some (.int .i64 x2) ∧ W.cell? ⟨w.heap.size, 3, none⟩ = some (.int .i64 x3) ∧ W.cell? ⟨w.heap.size, 4, none⟩ = some (.bool x4) ∧ W.cell? ⟨w.heap.size, 5, none⟩ = some (.int .i64 x5)) from fun W h => ⟨(P1.out.below h).get.2.2.2.1, (K1.out.below h).get 0 _ rfl, (K1.out.below h).get 1 _ rfl, (K1.out.below h).get 2 _ rfl, (K1.out.below h).get 3 _ rfl, (K1.out.below h).get 4 _ rfl, (K1.out.below h).get 5 _ rfl⟩)
    have HW2 := Lib.hid hW2.symm
    have B2 := Lib.hid b2
    clear b2 hW2
    refine wpX_start (fun W => W.cell? ⟨b, 7, none⟩ = some (.slice wa S.wire.length wc) ∧ W.cell? ⟨w.heap.size, 0, none⟩ = some (.bool x0) ∧ W.cell? ⟨w.heap.size, 1, none⟩ = some (.int .i64 x1) ∧ W.cell? ⟨w.heap.size, 2, none⟩ = some (.int .i64 x2) ∧ W.cell? ⟨w.heap.size, 3, none⟩ = some (.int .i64 x3) ∧ W.cell? ⟨w.heap.size, 4, none⟩ = some (.bool x4) ∧ W.cell? ⟨w.heap.size, 5, none⟩ = some (.int .i64 x5)) [8, 9, 10, 11, 12] (by kernel_rfl) ?_
    have hC := CW.out W1.drew (Below.refl W1.heap.size W1).drew
    refine wpX_free (i := 0) (v := ?_) rfl (by kernel_rfl) (fun _ _ _ h => h) rfl (fun w' => ?_) ?_
    rotate_left
    · go_simp; try with_reducible rfl
    try simp only [Act.put, List.setIfInBounds_toArray, List.set_cons_zero, List.set_cons_succ]
    refine wpX_free (i := 1) (v := ?_) rfl (by kernel_rfl) (fun _ _ _ h => h) rfl (fun w' => ?_) ?_
    rotate_left
    · go_simp; try with_reducible rfl
    try simp only [Act.put, List.setIfInBounds_toArray, List.set_cons_zero, List.set_cons_succ]
    refine wpX_free (i := 2) (v := ?_) rfl (by kernel_rfl) (fun _ _ _ h => h) rfl (fun w' => ?_) ?_
    rotate_left
    · go_simp; try with_reducible rfl
    try simp only [Act.put, List.setIfInBounds_toArray, List.set_cons_zero, List.set_cons_succ]
    refine wpX_free (i := 3) (v := ?_) rfl (by kernel_rfl) (fun _ _ _ h => h) rfl (fun w' => ?_) ?_
    rotate_left
    · go_simp; try with_reducible rfl
    try simp only [Act.put, List.setIfInBounds_toArray, List.set_cons_zero, List.set_cons_succ]
    refine wpX_free (i := 4) (v := ?_) rfl (by kernel_rfl) (fun _ _ _ h => h) rfl (fun w' => ?_) ?_
    rotate_left
    · go_simp; try with_reducible rfl
    try simp only [Act.put, List.setIfInBounds_toArray, List.set_cons_zero, List.set_cons_succ]
    refine wpX_load (i := 5) (v := ?_) rfl (by kernel_rfl) (fun _ _ _ h => h) hC rfl (fun w' hw' => ?_) ?_
    rotate_left
    · obtain ⟨k1, k2, k3, k4, k5, k6, k7⟩ := hw'; go_simp; try with_reducible rfl
    try simp only [Act.put, List.setIfInBounds_toArray, List.set_cons_zero, List.set_cons_succ]
    refine wpX_load (i := 6) (v := ?_) rfl (by kernel_rfl) (fun _ _ _ h => h) hC rfl (fun w' hw' => ?_) ?_
    rotate_left
    · obtain ⟨k1, k2, k3, k4, k5, k6, k7⟩ := hw'; go_simp; try with_reducible rfl
    try simp only [Act.put, List.setIfInBounds_toArray, List.set_cons_zero, List.set_cons_succ]
    refine wpX_one (i := 7) rfl (by kernel_rfl) rfl ?_
    intro K hK
    go_simp
    rw [HW2.out]
    have hC := CW.out W2 B2.out
    refine hK _ _ hC ?_
    clear hK K
    try simp only [Act.put, List.setIfInBounds_toArray, List.set_cons_zero, List.set_cons_succ]
    refine wpX_rest (t := [8, 9, 10, 11, 12]) (l := [_, _, _, _, _]) rfl (by kernel_rfl) (by kernel_rfl) ?_
    clear hC
    refine Flat.append_at FPacket W2 (.tmp 17) (.tmp 19) rfl rfl (base := 0) (v := .slice wa S.wire.length wc) (xs := S.wire) (ys := [(x0, x1, x2, x3, x4, x5)]) rfl P2.out.ow rfl RD.out hln (Nat.zero_le _) ?_
    intro v' w4 o4 g4 at4
    obtain ⟨na, nc, hv', _, _⟩ := o4.shape
    simp only [List.length_append, List.length_cons, List.length_nil, Nat.zero_add] at hv'
    have e4 := grown_at g4 P2.out.hold.lt (P2.out.hold.ne_box (i := 4) rfl) 7
    have c4 := e4.1.trans P2.out.get.2.2.2.1
    have f4 := e4.2.trans (P2.out.fz 7)
    have P4 := P2.out.part (S' := { S with wire := S.wire ++ [(x0, x1, x2, x3, x4, x5)] }) 4 6 (c' := FPacket.ch v' (S.wire ++ [(x0, x1, x2, x3, x4, x5)])) rfl rfl rfl (by decide) g4 o4 (m := w.heap.size) HZ2.out (at_of at4) P2.out.len P2.out.pos
    have F4 := F2.out.trans ((Fs.of_grown (S := B) g4 (fun k hk => HB.out k (P2.out.row (i := 4) rfl k hk))).set (a := ⟨b, 1 + 6, none⟩) (HB.out b ⟨0, rfl⟩) v')
    subst hv'
    have P4 := Lib.hid P4
    have F4 := Lib.hid F4
    clear o4 g4 at4 e4
    go_wp2
    go_ret
    exact DoR.mk HR.out P4.out F4.out
set_option maxRecDepth 100000 in
set_option maxHeartbeats 4000000 in
theorem RnNext_any {b sb n sm wk : Nat} {t bs : Int} {sv : Value} {xss : List (List Int)} {M : Nat} {B : Nat → Prop} {S : PS} {vl vr ve vh vw vo : Value} (w : World) (P : RunIs w b sb B S vl vr ve vh vw vo) (V : SvF M w sb n t sv xss bs sm wk) (hsm : S.l.length = sm) (hs8 : sm ≤ 8) :
    Calls Try.prog 51 #[.pointer (some ⟨b, 0, none⟩)] w fun e w' => e = .returned (.int .i64 (nextS S.l S.r sm)) ∧ Below w.heap.size w w' := by
  subst hsm
  have HP := Lib.hid (fun W (h : Below w.heap.size w W) => P.below h)
  have HV := Lib.hid (fun W (h : Below w.heap.size w W) => servCells (V.get W (h.mono V.le)).1)
  have HLR := Lib.hid (show S.r.length = S.l.length from P.len)
  obtain ⟨gl, cl, gr, cr, rfl, rfl, _⟩ := P.desk
  clear P V
  go_enter Try.func51, Try.ntmps51
  go_wp2
  go_loopw [3, 4] (fun best i wr => ∃ k : Nat, k ≤ S.l.length ∧ i = .int .i64 k ∧ best = .int .i64 (nextS S.l S.r k) ∧ Below w.heap.size w wr) (fun _ i _ => S.l.length - (intOf i).toNat)
  case atStart => exact ⟨0, Nat.zero_le _, rfl, rfl, Below.refl _ _⟩
  case round =>
    obtain ⟨k, hk, rfl, rfl, hbw⟩ := hrel
    obtain ⟨⟨q0, c0, c1, _, _⟩, _⟩ := (HP.out _ hbw).get
    obtain ⟨_, _, _, _, s4, _⟩ := HV.out _ hbw
    by_cases hlt : k < S.l.length
    · have hrk : k < S.r.length := by rw [HLR.out]; exact hlt
      have cr := (HP.out _ hbw).or_.cell hrk
      have cl := (HP.out _ hbw).ol.cell hlt
      have i0 : (0 : Int) ≤ (k : Int) := by omega
      have i1 : (k : Int) < (S.l.length : Int) := by omega
      have gr : S.r.getD k 0 = S.r[k] := by simp [hrk]
      have gl : S.l.getD k 0 = S.l[k] := by simp [hlt]
      obtain ⟨x, hx⟩ : ∃ x, S.r[k] = x := ⟨_, rfl⟩
      obtain ⟨y, hy⟩ : ∃ y, S.l[k] = y := ⟨_, rfl⟩
      rw [hx] at cr gr
      rw [hy] at cl gl
      have HYE := Lib.hid (nextS_yes (l := S.l) (r := S.r) (k := k))
      have HNO := Lib.hid (nextS_no (l := S.l) (r := S.r) (k := k))
      rw [gr, gl] at HYE HNO
      have hin := nextS_in S.l S.r k
      have HBW := Lib.hid hbw
      generalize nextS S.l S.r k = bst at hin HYE HNO ⊢
      have kc0 := fun d os => cell_regrown c0 d os
      have kc1 := fun d os => cell_regrown c1 d os
      have kcr := fun d os => cell_regrown cr d os
      have kcl := fun d os => cell_regrown cl d os
      clear hx hy gr gl
      by_cases h1 : x = -1
      · have t1 : (x == (-1 : Int)) = true := by simp [h1]
        by_cases h2 : bst < 0
        · have HQ := Lib.hid (HYE.out ⟨h1, .inl h2⟩)
          clear HYE HNO h1
          go_wp2_with fail
          refine wp_region_quiet_below (by kernel_rfl) (by kernel_rfl) ?_
          repeat (first | go_big_quiet_skip | quiet_step (fail))
          refine wpQuiet_nil ?_
          intro _ hw'
          obtain ⟨⟨dq, osq⟩, hw''⟩ := hw'
          subst hw''
          have bq := hbw.trans ((below_regrown wr dq osq).mono hbw.size)
          generalize grow (redrawn wr dq) osq = wq at bq ⊢
          clear kc0 kc1 kcr kcl
          go_wp2
          go_roundw
          case rel => exact ⟨k + 1, by omega, by go_num, by rw [HQ.out], bq⟩
          case measure => simp [intOf]; omega
        · obtain ⟨m, rfl⟩ : ∃ m : Nat, bst = (m : Int) := ⟨bst.toNat, by omega⟩
          have hm : m < S.l.length := by omega
          have cm := (HP.out _ hbw).ol.cell hm
          have gm : S.l.getD m 0 = S.l[m] := by simp [hm]
          obtain ⟨z, hz⟩ : ∃ z, S.l[m] = z := ⟨_, rfl⟩
          rw [hz] at cm gm
          rw [Int.toNat_natCast, gm] at HYE HNO
          have j0 : (0 : Int) ≤ (m : Int) := by omega
          have j1 : (m : Int) < (S.l.length : Int) := by omega
          have kcm := fun d os => cell_regrown cm d os
          clear hz gm hin
          by_cases h3 : y < z
          · have HQ := Lib.hid (HYE.out ⟨h1, .inr h3⟩)
            clear HYE HNO h1
            go_wp2_with fail
            refine wp_region_quiet_below (by kernel_rfl) (by kernel_rfl) ?_
            repeat (first | go_big_quiet_skip | quiet_step (fail))
            refine wpQuiet_nil ?_
            intro _ hw'
            obtain ⟨⟨dq, osq⟩, hw''⟩ := hw'
            subst hw''
            have bq := hbw.trans ((below_regrown wr dq osq).mono hbw.size)
            generalize grow (redrawn wr dq) osq = wq at bq ⊢
            clear kc0 kc1 kcr kcl
            go_wp2
            go_roundw
            case rel => exact ⟨k + 1, by omega, by go_num, by rw [HQ.out], bq⟩
            case measure => simp [intOf]; omega
          · have HQ := Lib.hid (HNO.out (fun h => h.2.elim h2 h3))
            clear HYE HNO h1
            go_wp2_with fail
            refine wp_region_quiet_below (by kernel_rfl) (by kernel_rfl) ?_
            repeat (first | go_big_quiet_skip | quiet_step (fail))
            refine wpQuiet_nil ?_
            intro _ hw'
            obtain ⟨⟨dq, osq⟩, hw''⟩ := hw'
            subst hw''
            have bq := hbw.trans ((below_regrown wr dq osq).mono hbw.size)
            generalize grow (redrawn wr dq) osq = wq at bq ⊢
            clear kc0 kc1 kcr kcl
            go_wp2
            go_roundw
            case rel => exact ⟨k + 1, by omega, by go_num, by rw [HQ.out], bq⟩
            case measure => simp [intOf]; omega
      · have t1 : (x == (-1 : Int)) = false := by simp [h1]
        have HQ := Lib.hid (HNO.out (fun h => h1 h.1))
        clear HYE HNO h1
        go_wp2_with fail
        refine wp_region_quiet_below (by kernel_rfl) (by kernel_rfl) ?_
        repeat (first | go_big_quiet_skip | quiet_step (fail))
        refine wpQuiet_nil ?_
        intro _ hw'
        obtain ⟨⟨dq, osq⟩, hw''⟩ := hw'
        subst hw''
        have bq := hbw.trans ((below_regrown wr dq osq).mono hbw.size)
        generalize grow (redrawn wr dq) osq = wq at bq ⊢
        clear kc0 kc1 kcr kcl
        go_wp2
        go_roundw
        case rel => exact ⟨k + 1, by omega, by go_num, by rw [HQ.out], bq⟩
        case measure => simp [intOf]; omega
    · obtain rfl : k = S.l.length := by omega
      go_wp2
      go_ret
      exact ⟨rfl, hbw⟩
set_option maxRecDepth 100000 in
set_option maxHeartbeats 4000000 in
theorem RnOut_any {b sb sm wk n : Nat} {t bs : Int} {sv : Value} {xss : List (List Int)} {M : Nat} {B : Nat → Prop} {S : PS} {vl vr ve vh vw vo : Value} (w : World) (P : RunIs w b sb B S vl vr ve vh vw vo) (V : SvF M w sb n t sv xss bs sm wk) (hI : PInv n sm wk S) (hs : 1 ≤ sm ∧ sm ≤ 8) :
    Calls Try.prog 99 #[.pointer (some ⟨b, 0, none⟩)] w (DoR b sb B (outS sm S) w) := by
  obtain ⟨hs1, hs8⟩ := hs
  have HD := Lib.hid (hI.plOk hs1 hs8)
  obtain ⟨d1, d2, d3, d4, d5⟩ := hI.desk.ok
  replace d1 : S.l.length = sm := d1
  replace d4 : 0 ≤ S.q := d4
  replace d5 : S.q ≤ (sm : Int) := d5
  have hol : (S.out.length : Int) = S.q := hI.outs
  have hrl := hI.len
  have HPO := Lib.hid (hI.plOk' hs1 hs8)
  have HB := Lib.hid P.ownB
  have HL := Lib.hid P.ownLt
  obtain ⟨j, hj⟩ : ∃ j : Nat, S.q = (j : Int) := ⟨S.q.toNat, by omega⟩
  obtain ⟨gl, cl, gr, cr, rfl, rfl, _⟩ := P.desk
  obtain ⟨oa, oc, rfl, _, _⟩ := P.toPlIs.oo'.shape
  obtain ⟨⟨q0, _, q1, q2, _⟩, _, _, _, q7⟩ := P.get
  obtain ⟨_, _, _, _, s4, _⟩ := servCells V.now.1
  rw [hj] at q2
  have P0 := Lib.hid P
  have D1 := Lib.hid d1
  have hbl := P.blt
  have RL := Lib.hid (show S.r.length = S.l.length from P.len)
  clear P hI V
  by_cases he : S.q = (sm : Int)
  · have t1 : ((j : Int) == (sm : Int)) = true := by rw [beq_iff_eq]; omega
    have HR := Lib.hid (show outS sm S = (4, S) by unfold outS; rw [if_pos (.inl he)])
    clear he d1 d2 d3 d4 d5 hol hj
    go_enter Try.func99, Try.ntmps99
    go_wp2
    go_ret
    exact DoR.mk HR.out (P0.out.mono (fun k hk => .inl hk)) (Fs.refl _ _)
  · have hjl : j < S.l.length := by omega
    have hjr : j < S.r.length := by rw [RL.out]; exact hjl
    have t1 : ((j : Int) == (sm : Int)) = false := by rw [beq_eq_false_iff_ne]; omega
    have y0 := P0.out.or_.cell hjr
    have GY := Lib.hid (show S.r.getD S.q.toNat 0 = S.r[j] by rw [hj, Int.toNat_natCast]; simp [hjr])
    generalize S.r[j] = y at y0 GY
    have i0 : (0 : Int) ≤ (j : Int) := by omega
    have i1 : (j : Int) < (S.l.length : Int) := by omega
    have Y0 := Lib.hid y0
    have HJ := Lib.hid hj
    by_cases hy : y = -1
    · have t2 : (y == (-1 : Int)) = true := by simp [hy]
      have HR := Lib.hid (show outS sm S = (4, S) by unfold outS; rw [if_pos (.inr (GY.out.trans hy))])
      clear he d1 d2 d3 d4 d5 hol hj hy
      go_enter Try.func99, Try.ntmps99
      go_wp2
      go_ret
      exact DoR.mk HR.out (P0.out.mono (fun k hk => .inl hk)) (Fs.refl _ _)
    · have t2 : (y == (-1 : Int)) = false := by simp [hy]
      have HR := Lib.hid (show outS sm S = (0, (fun T : PS => { T with sy := T.recs.length }) (writeS { S with out := S.out ++ [y] } (3, (j : Int), 0))) by
        unfold outS; rw [if_neg (fun h => h.elim he (fun h => hy (GY.out.symm.trans h))), GY.out, HJ.out])
      have hln : S.out.length + [y].length ≤ 16777216 := by simp; omega
      have hjs : j < sm := by omega
      have HPO := Lib.hid (HPO.out (S.out ++ [y]) (by simp; omega))
      clear he d1 d2 d3 d4 d5 hol hj hy
      go_enter Try.func99, Try.ntmps99
      go_wp2_with fail
      clear q0 s4 q1 q2 q7 y0
      have b1 : Below w.heap.size w (w.alloc (.cells #[.int .i64 y] 2)).drew := ((Below.refl _ _).alloc (Nat.le_refl _) _).drew
      obtain ⟨W1, hW1⟩ : ∃ W1, W1 = (w.alloc (.cells #[.int .i64 y] 2)).drew := ⟨_, rfl⟩
      rw [← hW1] at b1
      have P1 := Lib.hid (P0.out.below b1)
      have F1 := Lib.hid (Fs.of_below (S := B) b1)
      have HZ1 := Lib.hid b1.size
      have RD := Lib.hid (show Rd W1 (some ⟨w.heap.size, 0, none⟩) (FI.encs [y]) by
        rw [hW1]
        exact (rd_new w #[.int .i64 y] 2).below (Below.refl _ _).drew)
      have CW := Lib.hid (show ∀ W, Below w.heap.size w W → (W.cell? ⟨b, 8, none⟩ = some (.slice oa S.out.length oc) ∧ W.cell? ⟨b, 2, none⟩ = some (.slice (some ⟨gr, 0, none⟩) S.l.length cr) ∧ W.cell? ⟨gr, j, none⟩ = some (.int .i64 y)) from fun W h => by
        obtain ⟨⟨_, _, q1, _, _⟩, _, _, _, q7⟩ := (P0.out.below h).get
        exact ⟨q7, q1, (h.cell (p := ⟨gr, j, none⟩) (cell_lt Y0.out)).trans Y0.out⟩)
      have HW1 := Lib.hid hW1.symm
      have B1 := Lib.hid b1
      clear b1 hW1
      refine wpX_start (fun W => W.cell? ⟨b, 8, none⟩ = some (.slice oa S.out.length oc) ∧ W.cell? ⟨b, 2, none⟩ = some (.slice (some ⟨gr, 0, none⟩) S.l.length cr) ∧ W.cell? ⟨gr, j, none⟩ = some (.int .i64 y)) [16, 17, 18, 19, 20] (by kernel_rfl) ?_
      have hC := CW.out w.drew (Below.refl w.heap.size w).drew
      refine wpX_free (i := 0) (v := ?_) rfl (by kernel_rfl) (fun _ _ _ h => h) rfl (fun w' => ?_) ?_
      rotate_left
      · go_simp; try with_reducible rfl
      try simp only [Act.put, List.setIfInBounds_toArray, List.set_cons_zero, List.set_cons_succ]
      refine wpX_free (i := 1) (v := ?_) rfl (by kernel_rfl) (fun _ _ _ h => h) rfl (fun w' => ?_) ?_
      rotate_left
      · go_simp; try with_reducible rfl
      try simp only [Act.put, List.setIfInBounds_toArray, List.set_cons_zero, List.set_cons_succ]
      refine wpX_free (i := 2) (v := ?_) rfl (by kernel_rfl) (fun _ _ _ h => h) rfl (fun w' => ?_) ?_
      rotate_left
      · go_simp; try with_reducible rfl
      try simp only [Act.put, List.setIfInBounds_toArray, List.set_cons_zero, List.set_cons_succ]
      refine wpX_free (i := 3) (v := ?_) rfl (by kernel_rfl) (fun _ _ _ h => h) rfl (fun w' => ?_) ?_
      rotate_left
      · go_simp; try with_reducible rfl
      try simp only [Act.put, List.setIfInBounds_toArray, List.set_cons_zero, List.set_cons_succ]
      refine wpX_free (i := 4) (v := ?_) rfl (by kernel_rfl) (fun _ _ _ h => h) rfl (fun w' => ?_) ?_
      rotate_left
      · go_simp; try with_reducible rfl
      try simp only [Act.put, List.setIfInBounds_toArray, List.set_cons_zero, List.set_cons_succ]
      refine wpX_load (i := 5) (v := ?_) rfl (by kernel_rfl) (fun _ _ _ h => h) hC rfl (fun w' hw' => ?_) ?_
      rotate_left
      · obtain ⟨k1, k2, k3⟩ := hw'; go_simp; try with_reducible rfl
      try simp only [Act.put, List.setIfInBounds_toArray, List.set_cons_zero, List.set_cons_succ]
      refine wpX_free (i := 6) (v := ?_) rfl (by kernel_rfl) (fun _ _ _ h => h) rfl (fun w' => ?_) ?_
      rotate_left
      · go_simp; try with_reducible rfl
      try simp only [Act.put, List.setIfInBounds_toArray, List.set_cons_zero, List.set_cons_succ]
      refine wpX_free (i := 7) (v := ?_) rfl (by kernel_rfl) (fun _ _ _ h => h) rfl (fun w' => ?_) ?_
      rotate_left
      · go_simp; try with_reducible rfl
      try simp only [Act.put, List.setIfInBounds_toArray, List.set_cons_zero, List.set_cons_succ]
      refine wpX_free (i := 8) (v := ?_) rfl (by kernel_rfl) (fun _ _ _ h => h) rfl (fun w' => ?_) ?_
      rotate_left
      · go_simp; try with_reducible rfl
      try simp only [Act.put, List.setIfInBounds_toArray, List.set_cons_zero, List.set_cons_succ]
      refine wpX_free (i := 9) (v := ?_) rfl (by kernel_rfl) (fun _ _ _ h => h) rfl (fun w' => ?_) ?_
      rotate_left
      · go_simp; try with_reducible rfl
      try simp only [Act.put, List.setIfInBounds_toArray, List.set_cons_zero, List.set_cons_succ]
      refine wpX_free (i := 10) (v := ?_) rfl (by kernel_rfl) (fun _ _ _ h => h) rfl (fun w' => ?_) ?_
      rotate_left
      · go_simp; try with_reducible rfl
      try simp only [Act.put, List.setIfInBounds_toArray, List.set_cons_zero, List.set_cons_succ]
      refine wpX_load (i := 11) (v := ?_) rfl (by kernel_rfl) (fun _ _ _ h => h) hC rfl (fun w' hw' => ?_) ?_
      rotate_left
      · obtain ⟨k1, k2, k3⟩ := hw'; go_simp; try with_reducible rfl
      try simp only [Act.put, List.setIfInBounds_toArray, List.set_cons_zero, List.set_cons_succ]
      refine wpX_free (i := 12) (v := ?_) rfl (by kernel_rfl) (fun _ _ _ h => h) rfl (fun w' => ?_) ?_
      rotate_left
      · go_simp; try with_reducible rfl
      try simp only [Act.put, List.setIfInBounds_toArray, List.set_cons_zero, List.set_cons_succ]
      refine wpX_free (i := 13) (v := ?_) rfl (by kernel_rfl) (fun _ _ _ h => h) rfl (fun w' => ?_) ?_
      rotate_left
      · go_simp; try with_reducible rfl
      try simp only [Act.put, List.setIfInBounds_toArray, List.set_cons_zero, List.set_cons_succ]
      refine wpX_load (i := 14) (v := ?_) rfl (by kernel_rfl) (fun _ _ _ h => h) hC rfl (fun w' hw' => ?_) ?_
      rotate_left
      · obtain ⟨k1, k2, k3⟩ := hw'; go_simp; try with_reducible rfl
      try simp only [Act.put, List.setIfInBounds_toArray, List.set_cons_zero, List.set_cons_succ]
      refine wpX_one (i := 15) rfl (by kernel_rfl) rfl ?_
      intro K hK
      go_simp
      rw [HW1.out]
      have hC := CW.out W1 B1.out
      refine hK _ _ hC ?_
      clear hK K
      try simp only [Act.put, List.setIfInBounds_toArray, List.set_cons_zero, List.set_cons_succ]
      refine wpX_rest (t := [16, 17, 18, 19, 20]) (l := [_, _, _, _, _]) rfl (by kernel_rfl) (by kernel_rfl) ?_
      clear hC
      refine Flat.append_at FI W1 (.tmp 36) (.tmp 46) rfl rfl (base := 0) (v := .slice oa S.out.length oc) (xs := S.out) (ys := [y]) rfl P1.out.toPlIs.oo' rfl RD.out hln (Nat.zero_le _) ?_
      intro v' w4 o4 g4 at4
      obtain ⟨na, nc, hv', _, _⟩ := o4.shape
      simp only [List.length_append, List.length_cons, List.length_nil, Nat.zero_add] at hv'
      have e4 := grown_at g4 P1.out.hold.lt (P1.out.hold.ne_box (i := 5) rfl) 8
      have c4 := e4.1.trans P1.out.get.2.2.2.2
      have f4 := e4.2.trans (P1.out.fz 8)
      have P4 := P1.out.part (S' := { S with out := S.out ++ [y] }) 5 7 (c' := FI.ch v' (S.out ++ [y])) rfl rfl rfl (by decide) g4 o4 (m := w.heap.size) HZ1.out (at_of at4) P1.out.len P1.out.pos
      have F4 := F1.out.trans ((Fs.of_grown (S := B) g4 (fun k hk => HB.out k (P1.out.row (i := 5) rfl k hk))).set (a := ⟨b, 1 + 7, none⟩) (HB.out b ⟨0, rfl⟩) v')
      subst hv'
      have P4 := Lib.hid P4
      have F4 := Lib.hid F4
      clear o4 g4 at4 e4
      obtain ⟨W5, hW5⟩ : ∃ W5, W5 = w4.setCell ⟨b, 8, none⟩ (.slice na (S.out.length + 1) nc) := ⟨_, rfl⟩
      have P5 := Lib.hid (show RunIs W5 b sb (Bm B w.heap.size) { S with out := S.out ++ [y] } (.slice (some ⟨gl, 0, none⟩) S.l.length cl) (.slice (some ⟨gr, 0, none⟩) S.l.length cr) ve vh vw (.slice na (S.out.length + 1) nc) by rw [hW5]; exact P4.out)
      have F5 := Lib.hid (show Fs B w W5 by rw [hW5]; exact F4.out)
      have HW5 := Lib.hid hW5.symm
      clear hW5 P4 F4
      go_wp2_with fail
      rw [HW5.out]
      refine (RnWrite_any 3 0 _ P5.out HPO.out (by omega) hjs).mono ?_
      rintro e w6 ⟨rfl, ve6, P6, F6⟩
      have P6 := Lib.hid (P6.mono (Bm.bm (n := w.heap.size) (Nat.le_refl _) (by have := F5.out.size; omega)))
      have F6 := Lib.hid (F5.out.bm F6 (Nat.le_refl _))
      generalize writeS { S with out := S.out ++ [y] } (3, (j : Int), 0) = T at HR P6
      obtain ⟨ea, ec, rfl, _, _⟩ := P6.out.oe.shape
      have q3 := P6.out.get.1.2.2.2.2
      have f4 := P6.out.fz 5
      have q4 := P6.out.get.2.1
      have P7 := Lib.hid (P6.out.number T.recs.length)
      have F7 := Lib.hid (F6.out.set (a := ⟨b, 1 + 4, none⟩) (HB.out b ⟨0, rfl⟩) (.int .i64 T.recs.length))
      go_wp2
      go_ret
      exact DoR.mk HR.out P7.out F7.out
end Go.Proofs.Ytijpkcdalmlaiaa
