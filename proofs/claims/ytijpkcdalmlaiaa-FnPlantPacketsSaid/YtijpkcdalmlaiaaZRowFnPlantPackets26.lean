/-
  A plant in memory: what is read, what is owned, what is kept when a part changes.
-/
import Derived.Test.YtijpkcdalmlaiaaZRowFnPlantPackets23
import Derived.Test.YtijpkcdalmlaiaaZRowFnPlantPackets10
import Derived.Test.YtijpkcdalmlaiaaZRowFnPlantPackets8
import Derived.Maps.AppendAt
set_option linter.unusedVariables false
set_option linter.unusedSimpArgs false
namespace Go.Proofs.Ytijpkcdalmlaiaa
open Go.RowKit Go.Sort
def encHd (h : Hd) : List Value := [.bool h.1, .int .i64 h.2.1, .int .i64 h.2.2]
theorem encHd_one (x : Hd) (u : Value) (h : u ∈ encHd x) : u.oneCell' = true := by simp [encHd] at h; rcases h with rfl | rfl | rfl <;> rfl
def encPk (p : Pk) : List Value := [.bool p.1, .int .i64 p.2.1, .int .i64 p.2.2.1, .int .i64 p.2.2.2.1, .bool p.2.2.2.2.1, .int .i64 p.2.2.2.2.2]
theorem encPk_one (x : Pk) (u : Value) (h : u ∈ encPk x) : u.oneCell' = true := by simp [encPk] at h; rcases h with rfl | rfl | rfl | rfl | rfl | rfl <;> rfl
def FHand : Flat Hd := ⟨58, 123, .agg #[.bool false, .int .i64 0, .int .i64 0], 3, 24, encHd, Try.underlying58, by kernel_rfl, rfl, by decide, by decide, fun _ => rfl, encHd_one⟩
def FPacket : Flat Pk := ⟨59, 125, .agg #[.bool false, .int .i64 0, .int .i64 0, .int .i64 0, .bool false, .int .i64 0], 6, 48, encPk, Try.underlying59, by kernel_rfl, rfl, by decide, by decide, fun _ => rfl, encPk_one⟩
theorem FHand_at {w : World} {ad : Option Addr} {n c : Nat} {xs : List Hd} (h : FHand.Sl w (.slice ad n c) xs) {i : Nat} (hi : i < xs.length) :
    ∃ b off, ad = some ⟨b, off, none⟩ ∧ b < w.heap.size ∧ w.cell? ⟨b, off + i * 3, none⟩ = some (.bool xs[i].1) ∧ w.cell? ⟨b, off + i * 3 + 1, none⟩ = some (.int .i64 xs[i].2.1) ∧ w.cell? ⟨b, off + i * 3 + 2, none⟩ = some (.int .i64 xs[i].2.2) := by
  obtain ⟨b, off, h1, h2, h3⟩ := h.at_ hi
  refine ⟨b, off, h1, h2, ?_, ?_, ?_⟩
  · have := h3 0 (.bool xs[i].1) rfl
    have e : off + (i * FHand.size + 0) = off + i * 3 := by show off + (i * 3 + 0) = _; omega
    rw [e] at this; exact this
  · have := h3 1 (.int .i64 xs[i].2.1) rfl
    have e : off + (i * FHand.size + 1) = off + i * 3 + 1 := by show off + (i * 3 + 1) = _; omega
    rw [e] at this; exact this
  · have := h3 2 (.int .i64 xs[i].2.2) rfl
    have e : off + (i * FHand.size + 2) = off + i * 3 + 2 := by show off + (i * 3 + 2) = _; omega
    rw [e] at this; exact this
theorem FPacket_at {w : World} {ad : Option Addr} {n c : Nat} {xs : List Pk} (h : FPacket.Sl w (.slice ad n c) xs) {i : Nat} (hi : i < xs.length) :
    ∃ b off, ad = some ⟨b, off, none⟩ ∧ b < w.heap.size ∧ w.cell? ⟨b, off + i * 6, none⟩ = some (.bool xs[i].1) ∧ w.cell? ⟨b, off + i * 6 + 1, none⟩ = some (.int .i64 xs[i].2.1) ∧ w.cell? ⟨b, off + i * 6 + 2, none⟩ = some (.int .i64 xs[i].2.2.1) ∧
      w.cell? ⟨b, off + i * 6 + 3, none⟩ = some (.int .i64 xs[i].2.2.2.1) ∧ w.cell? ⟨b, off + i * 6 + 4, none⟩ = some (.bool xs[i].2.2.2.2.1) ∧ w.cell? ⟨b, off + i * 6 + 5, none⟩ = some (.int .i64 xs[i].2.2.2.2.2) := by
  obtain ⟨b, off, h1, h2, h3⟩ := h.at_ hi
  have key : ∀ j u, (encPk xs[i])[j]? = some u → w.cell? ⟨b, off + i * 6 + j, none⟩ = some u := by
    intro j u hu
    have := h3 j u hu
    have e : off + (i * FPacket.size + j) = off + i * 6 + j := by show off + (i * 6 + j) = _; omega
    rw [e] at this; exact this
  exact ⟨b, off, h1, h2, key 0 _ rfl, key 1 _ rfl, key 2 _ rfl, key 3 _ rfl, key 4 _ rfl, key 5 _ rfl⟩
theorem FHand_cell {w : World} {base g n c : Nat} {xs : List Hd} (h : FHand.Own w base (.slice (some ⟨g, 0, none⟩) n c) xs) {i : Nat} (hi : i < xs.length) :
    w.cell? ⟨g, i * 3, none⟩ = some (.bool xs[i].1) ∧ w.cell? ⟨g, i * 3 + 1, none⟩ = some (.int .i64 xs[i].2.1) ∧ w.cell? ⟨g, i * 3 + 2, none⟩ = some (.int .i64 xs[i].2.2) :=
  ⟨h.cell (j := 0) hi (by decide), h.cell (j := 1) hi (by decide), h.cell (j := 2) hi (by decide)⟩
theorem FHand_encs_set (xs : List Hd) (i : Nat) (x : Hd) (hi : i < xs.length) : FHand.encs (xs.set i x) = (((FHand.encs xs).set (i * 3) (.bool x.1)).set (i * 3 + 1) (.int .i64 x.2.1)).set (i * 3 + 2) (.int .i64 x.2.2) := by
  induction xs generalizing i with
  | nil => simp at hi
  | cons y ys ih =>
    cases i with
    | zero => simp [Flat.encs, FHand, encHd]
    | succ i =>
      rw [List.set_cons_succ, Flat.encs_cons, Flat.encs_cons, ih i (by simpa using hi)]
      have e : (i + 1) * 3 = i * 3 + 3 := by omega
      rw [e]
      simp [FHand, encHd, List.set_append_right]
      try omega
theorem FHand.set_cells {w : World} {base g n c : Nat} {xs : List Hd} (h : FHand.Own w base (.slice (some ⟨g, 0, none⟩) n c) xs) (i : Nat) (x : Hd) (hi : i < xs.length) :
    FHand.Own (((w.setCell ⟨g, i * 3, none⟩ (.bool x.1)).setCell ⟨g, i * 3 + 1, none⟩ (.int .i64 x.2.1)).setCell ⟨g, i * 3 + 2, none⟩ (.int .i64 x.2.2)) base (.slice (some ⟨g, 0, none⟩) n c) (xs.set i x) := by
  obtain rfl := h.len_of
  have h0 : w.ownsRow base FHand.E FHand.size (.slice (some ⟨g, 0, none⟩) xs.length c) xs.length (FHand.encs xs) := h
  have h1 := (World.ownsRow.stored (base := base) h0 (i * 3) (.bool x.1)).1
  have h2 := (World.ownsRow.stored (base := base) h1 (i * 3 + 1) (.int .i64 x.2.1)).1
  have h3 := (World.ownsRow.stored (base := base) h2 (i * 3 + 2) (.int .i64 x.2.2)).1
  unfold Flat.Own
  rw [List.length_set, FHand_encs_set xs i x hi]
  exact h3
theorem FHand_made (n : Nat) : (madeCells FHand.z.cells (n * FHand.size)).toList = FHand.encs (List.replicate n noHand) := by
  apply List.ext_getElem?
  intro i
  by_cases hi : i < n * 3
  · have hq : i / 3 < n := by omega
    have hr : i % 3 < 3 := Nat.mod_lt _ (by decide)
    have h1 := FHand.encs_get (xs := List.replicate n noHand) (i := i / 3) (j := i % 3) (by simpa using hq) hr
    have e : i / 3 * FHand.size + i % 3 = i := by show i / 3 * 3 + i % 3 = i; omega
    rw [e] at h1
    rw [h1, List.getElem_replicate]
    rcases (show i % 3 = 0 ∨ i % 3 = 1 ∨ i % 3 = 2 by omega) with e | e | e <;> simp [madeCells, FHand, Value.cells, encHd, noHand, hi, e]
  · have h2 : (FHand.encs (List.replicate n noHand)).length = n * 3 := by rw [Flat.encs_length, List.length_replicate]; rfl
    rw [List.getElem?_eq_none (by simp [madeCells, FHand]; omega), List.getElem?_eq_none (by omega)]
namespace Flat
variable {α : Type}
/-- append of any slice on an owned one, and where it lies -/
theorem append_at {ops : Array Oper} {rest : List Oper} {o : Oper} {a : Act} {Q : Exit → Act → World → Prop} (F : Flat α) (w : World) (s x : Operand) (hg : o.guard = none)
    (ho : o.op = .call { callee := .builtin .append, args := #[s, x], argTypes := #[F.T, F.T] })
    {base : Nat} {v : Value} {xs ys : List α} (hs : a.eval s = v) (hown : F.Own w base v xs) {ad : Option Addr} {c : Nat} (hx : a.eval x = .slice ad ys.length c) (hr : Rd w ad (F.encs ys))
    (hlen : xs.length + ys.length ≤ 16777216) (hbase : base ≤ w.heap.size)
    (h : ∀ v' w', F.Own w' base v' (xs ++ ys) → w.grownBy w' v.ownBlock → (v'.ownBlock = v.ownBlock ∨ v'.ownBlock = some w.heap.size) → wpList Try.prog ops Q rest (a.put o.dst v') w') : wpList Try.prog ops Q (o :: rest) a w := by
  obtain ⟨i0, hi, hz0, hz1, hz2⟩ := info_parts F.inf
  cases ad with
  | none =>
    have h0 : ys = [] := by
      cases ys with
      | nil => rfl
      | cons y ys =>
        have hl : 0 < (F.encs (y :: ys)).length := by rw [F.encs_length]; exact Nat.mul_pos (by simp) F.pos
        obtain ⟨b, off, h1, _⟩ := hr.all hl
        simp at h1
    subst h0
    refine wpList_plain hg fun K hK => ?_
    have hrun := run_append_of_nil (P := Try.prog) w base F.T o.type F.E i0 F.size F.und hi v xs.length (F.encs xs) hown c
    unfold Oper.wp execOp
    simp only [List.length_nil] at hx
    simp only [ho, resolve, invoke, builtin, Sem.run_bind, Sem.run_pure, Result.andThen_ok, List.map_toArray, List.map_cons, List.map_nil, hs, hx, hrun]
    exact hK _ _ (h v w (by simpa using hown) (World.grownBy.refl w _) (.inl rfl))
  | some ad =>
    refine wpList_append_own_at _ hg s x _ ho base F.E i0 F.z F.size F.bytes F.und hi hz0 hz1 hz2 F.zsz F.pos v xs.length (F.encs xs) hs hown ad ys.length c (F.encs ys) hx (F.encs_length ys) ?_ (fun u hu => F.encs_one hu) (by simp [maxLen]; omega) ?_ hbase (fun v' w' h1 h2 _ h3 => ?_)
    · intro j u hu
      obtain ⟨b, off, he, _, hc⟩ := hr j u hu
      simp at he
      subst he
      unfold Addr.add
      by_cases hj : j = 0
      · subst hj; simpa using hc
      · simpa [hj] using hc
    · have := F.few
      calc (xs.length + ys.length) * F.bytes ≤ 16777216 * 4096 := Nat.mul_le_mul hlen this
        _ ≤ 140737488355328 := by decide
    · refine h v' w' ?_ h2 h3
      unfold Own
      rw [encs_append, List.length_append]
      exact h1
end Flat
/-- one part of a plant: a slice and what it holds -/
structure Ch where
  v : Value
  E : Nat
  size : Nat
  n : Nat
  xs : List Value
def Flat.ch {α : Type} (F : Flat α) (v : Value) (xs : List α) : Ch := ⟨v, F.E, F.size, xs.length, F.encs xs⟩
def Ch.own (c : Ch) (w : World) : Prop := w.ownsRow 0 c.E c.size c.v c.n c.xs
def Sep (L : List (Option Nat)) : Prop := ∀ (i j g : Nat), L[i]? = some (some g) → L[j]? = some (some g) → i = j
theorem Sep.set {L : List (Option Nat)} (h : Sep L) {i : Nat} {x y : Option Nat} {m : Nat} (hi : L[i]? = some y) (hx : ∀ g, x = some g → y = some g ∨ m ≤ g) (hL : ∀ (j g : Nat), L[j]? = some (some g) → g < m) : Sep (L.set i x) := by
  have hil : i < L.length := (List.getElem?_eq_some_iff.1 hi).1
  intro a b g ha hb
  by_cases e1 : i = a
  · by_cases e2 : i = b
    · omega
    · subst e1
      rw [List.getElem?_set_self hil] at ha
      rw [List.getElem?_set_ne e2] at hb
      simp at ha
      rcases hx g ha with h1 | h1
      · subst h1; exact h i b g hi hb
      · have := hL b g hb; omega
  · rw [List.getElem?_set_ne e1] at ha
    by_cases e2 : i = b
    · subst e2
      rw [List.getElem?_set_self hil] at hb
      simp at hb
      rcases hx g hb with h1 | h1
      · subst h1; exact h a i g ha hi
      · have := hL a g ha; omega
    · rw [List.getElem?_set_ne e2] at hb
      exact h a b g ha hb
def blk (L : List Ch) : List (Option Nat) := L.map (·.v.ownBlock)
/-- parts beside a box: each owned, none in another's block -/
structure Hold (w : World) (b : Nat) (L : List Ch) : Prop where
  lt : b < w.heap.size
  own : ∀ (i : Nat) (c : Ch), L[i]? = some c → c.own w
  sep : Sep (some b :: blk L)
theorem Hold.ltAll {w : World} {b : Nat} {L : List Ch} (h : Hold w b L) (j g : Nat) (hj : (some b :: blk L)[j]? = some (some g)) : g < w.heap.size := by
  cases j with
  | zero => simp at hj; subst hj; exact h.lt
  | succ j =>
    rw [List.getElem?_cons_succ, blk, List.getElem?_map] at hj
    cases hc : L[j]? with
    | none => rw [hc] at hj; simp at hj
    | some c =>
      rw [hc] at hj
      simp at hj
      exact (World.ownsRow.lt (h.own j c hc) g hj).2
theorem Hold.below {w w' : World} {b : Nat} {L : List Ch} (h : Hold w b L) (hb : Below w.heap.size w w') : Hold w' b L :=
  ⟨Nat.lt_of_lt_of_le h.lt hb.size, fun i c hc => ownsRow_below (h.own i c hc) hb, h.sep⟩
theorem Hold.ne_box {w : World} {b : Nat} {L : List Ch} (h : Hold w b L) {i : Nat} {c : Ch} (hc : L[i]? = some c) : c.v.ownBlock ≠ some b := by
  intro e
  have := h.sep 0 (i + 1) b (by simp) (by simp [blk, hc, e])
  omega
theorem Hold.ne_of {w : World} {b : Nat} {L : List Ch} (h : Hold w b L) {i j : Nat} (hij : i ≠ j) {c d : Ch} (hc : L[i]? = some c) (hd : L[j]? = some d) {g : Nat} (hg : c.v.ownBlock = some g) : d.v.ownBlock ≠ some g := by
  intro e
  have := h.sep (i + 1) (j + 1) g (by simp [blk, hc, hg]) (by simp [blk, hd, e])
  omega
/-- a store into the box -/
theorem Hold.setb {w : World} {b : Nat} {L : List Ch} (h : Hold w b L) (j : Nat) (u : Value) : Hold (w.setCell ⟨b, j, none⟩ u) b L := by
  refine ⟨by simpa using h.lt, fun i c hc => ?_, h.sep⟩
  have hg : w.grownBy (w.setCell ⟨b, j, none⟩ u) (some b) := ⟨rfl, rfl, rfl, by simp, fun k hk hne => heap_setCell_other w ⟨b, j, none⟩ k u (fun e => hne (by rw [e]))⟩
  exact World.ownsRow.kept (h.own i c hc) hg (.inr (fun e => h.ne_box hc e))
/-- a part grows, or is laid anew, or is stored into -/
theorem Hold.grow {w w' : World} {b : Nat} {L : List Ch} (h : Hold w b L) {i : Nat} {c c' : Ch} (hc : L[i]? = some c) (hg : w.grownBy w' c.v.ownBlock) (ho : c'.own w') (hat : ∀ g, c'.v.ownBlock = some g → c.v.ownBlock = some g ∨ w.heap.size ≤ g) : Hold w' b (L.set i c') := by
  have hil : i < L.length := (List.getElem?_eq_some_iff.1 hc).1
  refine ⟨Nat.lt_of_lt_of_le h.lt hg.size, fun j d hd => ?_, ?_⟩
  · by_cases e : i = j
    · subst e
      rw [List.getElem?_set_self hil] at hd
      simp at hd; subst hd; exact ho
    · rw [List.getElem?_set_ne e] at hd
      refine World.ownsRow.kept (h.own j d hd) hg ?_
      cases hb : d.v.ownBlock with
      | none => exact .inl rfl
      | some g => exact .inr (fun e2 => h.ne_of (Ne.symm e) hd hc hb e2.symm)
  · have e : some b :: blk (L.set i c') = (some b :: blk L).set (i + 1) c'.v.ownBlock := by
      simp [blk, List.map_set]
    rw [e]
    exact h.sep.set (i := i + 1) (y := c.v.ownBlock) (m := w.heap.size) (by simp [blk, hc]) hat h.ltAll
/-- a part is taken by another one that was laid beside all -/
theorem Hold.swap {w : World} {b : Nat} {L : List Ch} (h : Hold w b L) {i : Nat} {c c' : Ch} {m : Nat} (hc : L[i]? = some c) (ho : c'.own w) (hat : ∀ g, c'.v.ownBlock = some g → m ≤ g) (hm : ∀ (j g : Nat), (some b :: blk L)[j]? = some (some g) → g < m) : Hold w b (L.set i c') := by
  have hil : i < L.length := (List.getElem?_eq_some_iff.1 hc).1
  refine ⟨h.lt, fun j d hd => ?_, ?_⟩
  · by_cases e : i = j
    · subst e
      rw [List.getElem?_set_self hil] at hd
      simp at hd; subst hd; exact ho
    · rw [List.getElem?_set_ne e] at hd
      exact h.own j d hd
  · have e : some b :: blk (L.set i c') = (some b :: blk L).set (i + 1) c'.v.ownBlock := by
      simp [blk, List.map_set]
    rw [e]
    exact h.sep.set (i := i + 1) (y := c.v.ownBlock) (m := m) (by simp [blk, hc]) (fun g hg => .inr (hat g hg)) hm
/-- a frame that touches none of the parts -/
theorem Hold.fs {S : Nat → Prop} {w w' : World} {b : Nat} {L : List Ch} (h : Hold w b L) (hf : Fs S w w') (hS : ∀ (j g : Nat), (some b :: blk L)[j]? = some (some g) → ¬ S g) : Hold w' b L := by
  refine ⟨Nat.lt_of_lt_of_le h.lt hf.size, fun i c hc => ?_, h.sep⟩
  refine ⟨(h.own i c hc).1, ?_⟩
  rcases (h.own i c hc).2 with h2 | ⟨g, cap, cur, h1, h2, h3, h4⟩
  · exact .inl h2
  · refine .inr ⟨g, cap, cur, h1, h2, ?_, h4⟩
    have hn : ¬ S g := hS (i + 1) g (by simp [blk, hc, h1, Value.ownBlock])
    rw [hf.block g (Array.getElem?_eq_some_iff.1 h3).1 hn]; exact h3
def parts (S : PS) (vl vr ve vh vw vo : Value) : List Ch := [FI.ch vl S.l, FI.ch vr S.r, FRecord.ch ve S.recs, FHand.ch vh S.hands, FPacket.ch vw S.wire, FI.ch vo S.out]
def slots (S : PS) (vl vr ve vh vw vo : Value) : List Value := [vl, vr, .int .i64 S.q, ve, .int .i64 S.sy, vh, vw, vo]
/-- a plant at a box -/
structure PlIs (w : World) (b o : Nat) (B : Nat → Prop) (S : PS) (vl vr ve vh vw vo : Value) : Prop where
  box : ∀ (i : Nat) (u : Value), (slots S vl vr ve vh vw vo)[i]? = some u → w.cell? ⟨b, o + i, none⟩ = some u
  fz : ∀ i, w.frozen? ⟨b, i, none⟩ = false
  hold : Hold w b (parts S vl vr ve vh vw vo)
  inB : ∀ (j g : Nat), (some b :: blk (parts S vl vr ve vh vw vo))[j]? = some (some g) → B g
  len : S.r.length = S.l.length
  pos : 0 < S.l.length
theorem PlIs.below {w w' : World} {b o : Nat} {B : Nat → Prop} {S : PS} {vl vr ve vh vw vo : Value} (h : PlIs w b o B S vl vr ve vh vw vo) (hb : Below w.heap.size w w') : PlIs w' b o B S vl vr ve vh vw vo :=
  ⟨fun i u hu => by rw [hb.cell (p := ⟨b, o + i, none⟩) h.hold.lt]; exact h.box i u hu, fun i => by rw [hb.frozen (p := ⟨b, i, none⟩) h.hold.lt]; exact h.fz i, h.hold.below hb, h.inB, h.len, h.pos⟩
theorem PlIs.fs {T : Nat → Prop} {w w' : World} {b o : Nat} {B : Nat → Prop} {S : PS} {vl vr ve vh vw vo : Value} (h : PlIs w b o B S vl vr ve vh vw vo) (hf : Fs T w w') (hT : ∀ k, B k → ¬ T k) : PlIs w' b o B S vl vr ve vh vw vo :=
  have hb : ¬ T b := hT b (h.inB 0 b rfl)
  ⟨fun i u hu => by rw [hf.cell (p := ⟨b, o + i, none⟩) h.hold.lt hb]; exact h.box i u hu, fun i => by rw [hf.frozen (p := ⟨b, i, none⟩) h.hold.lt hb]; exact h.fz i, h.hold.fs hf (fun j g hj => hT g (h.inB j g hj)), h.inB, h.len, h.pos⟩
theorem PlIs.mono {w : World} {b o : Nat} {B B' : Nat → Prop} {S : PS} {vl vr ve vh vw vo : Value} (h : PlIs w b o B S vl vr ve vh vw vo) (hB : ∀ k, B k → B' k) : PlIs w b o B' S vl vr ve vh vw vo :=
  ⟨h.box, h.fz, h.hold, fun j g hj => hB g (h.inB j g hj), h.len, h.pos⟩
theorem PlIs.blt {w : World} {b o : Nat} {B : Nat → Prop} {S : PS} {vl vr ve vh vw vo : Value} (h : PlIs w b o B S vl vr ve vh vw vo) : b < w.heap.size := h.hold.lt
theorem PlIs.ol {w : World} {b o : Nat} {B : Nat → Prop} {S : PS} {vl vr ve vh vw vo : Value} (h : PlIs w b o B S vl vr ve vh vw vo) : OwnI w 0 vl S.l := by rw [← FI_own]; exact h.hold.own 0 _ rfl
theorem PlIs.or_ {w : World} {b o : Nat} {B : Nat → Prop} {S : PS} {vl vr ve vh vw vo : Value} (h : PlIs w b o B S vl vr ve vh vw vo) : OwnI w 0 vr S.r := by rw [← FI_own]; exact h.hold.own 1 _ rfl
theorem PlIs.oe {w : World} {b o : Nat} {B : Nat → Prop} {S : PS} {vl vr ve vh vw vo : Value} (h : PlIs w b o B S vl vr ve vh vw vo) : FRecord.Own w 0 ve S.recs := h.hold.own 2 _ rfl
theorem PlIs.oh {w : World} {b o : Nat} {B : Nat → Prop} {S : PS} {vl vr ve vh vw vo : Value} (h : PlIs w b o B S vl vr ve vh vw vo) : FHand.Own w 0 vh S.hands := h.hold.own 3 _ rfl
theorem PlIs.ow {w : World} {b o : Nat} {B : Nat → Prop} {S : PS} {vl vr ve vh vw vo : Value} (h : PlIs w b o B S vl vr ve vh vw vo) : FPacket.Own w 0 vw S.wire := h.hold.own 4 _ rfl
theorem PlIs.oo {w : World} {b o : Nat} {B : Nat → Prop} {S : PS} {vl vr ve vh vw vo : Value} (h : PlIs w b o B S vl vr ve vh vw vo) : OwnI w 0 vo S.out := by rw [← FI_own]; exact h.hold.own 5 _ rfl
/-- an owned slice that is not empty -/
theorem Flat.Own.form {α : Type} {F : Flat α} {w : World} {base : Nat} {v : Value} {xs : List α} (h : F.Own w base v xs) (hp : 0 < xs.length) : ∃ g c, v = .slice (some ⟨g, 0, none⟩) xs.length c ∧ g < w.heap.size := by
  rcases h.forms with ⟨_, e⟩ | ⟨g, c, h1, _, h3, _⟩
  · subst e; simp at hp
  · exact ⟨g, c, h1, h3⟩
theorem PlIs.desk {w : World} {b o : Nat} {B : Nat → Prop} {S : PS} {vl vr ve vh vw vo : Value} (h : PlIs w b o B S vl vr ve vh vw vo) :
    ∃ gl cl gr cr, vl = .slice (some ⟨gl, 0, none⟩) S.l.length cl ∧ vr = .slice (some ⟨gr, 0, none⟩) S.l.length cr ∧ DeskIs w 0 b o gl cl gr cr S.l S.r S.q := by
  have h1 := h.ol
  have h2 := h.or_
  rcases h1.forms with ⟨_, e⟩ | ⟨gl, cl, rfl, _, hgl, _, _⟩
  · have := h.pos; rw [e] at this; simp at this
  · rcases h2.forms with ⟨_, e⟩ | ⟨gr, cr, hv, _, hgr, _, _⟩
    · have := h.pos; have := h.len; rw [e] at this; simp at this; omega
    · rw [h.len] at hv
      subst hv
      refine ⟨gl, cl, gr, cr, rfl, rfl, ⟨⟨h.hold.lt, h.box 0 _ rfl, h.box 1 _ rfl, h.box 2 _ rfl, h.fz (o + 2)⟩, h1, h2, h.len, ?_, ?_, ?_⟩⟩
      · intro e
        exact h.hold.ne_of (i := 0) (j := 1) (by decide) rfl rfl (g := gl) rfl (by rw [e]; rfl)
      · intro e
        exact h.hold.ne_box (i := 0) rfl (by rw [e]; rfl)
      · intro e
        exact h.hold.ne_box (i := 1) rfl (by rw [e]; rfl)
/-- the desk has learned -/
theorem PlIs.learned {w w' : World} {b o : Nat} {B : Nat → Prop} {S : PS} {gl cl gr cr : Nat} {ve vh vw vo : Value} {l r : List Int} {q : Int}
    (h : PlIs w b o B S (.slice (some ⟨gl, 0, none⟩) S.l.length cl) (.slice (some ⟨gr, 0, none⟩) S.l.length cr) ve vh vw vo) (hf : FrD b o gl gr w w') (hl : l.length = S.l.length) (hd : DeskIs w' 0 b o gl cl gr cr l r q) :
    PlIs w' b o B { S with l := l, r := r, q := q } (.slice (some ⟨gl, 0, none⟩) S.l.length cl) (.slice (some ⟨gr, 0, none⟩) S.l.length cr) ve vh vw vo := by
  have hsz := hf.size
  obtain ⟨d1, d2, d3, d4, d5, d6, d7⟩ := hd
  rw [hl] at d1 d2 d3
  have keep : ∀ i c, 2 ≤ i → (parts S (.slice (some ⟨gl, 0, none⟩) S.l.length cl) (.slice (some ⟨gr, 0, none⟩) S.l.length cr) ve vh vw vo)[i]? = some c → c.own w' := by
    intro i c hi hc
    have h0 := h.hold.own i c hc
    refine ⟨h0.1, ?_⟩
    rcases h0.2 with h2 | ⟨g, cap, cur, h1, h2, h3, h4⟩
    · exact .inl h2
    · refine .inr ⟨g, cap, cur, h1, h2, ?_, h4⟩
      have hg : c.v.ownBlock = some g := by rw [h1]; rfl
      have hn : ¬ In3 b gl gr g := by
        rintro (e | e | e)
        · exact h.hold.ne_box hc (by rw [hg, e])
        · exact h.hold.ne_of (i := i) (j := 0) (by omega) hc rfl hg (by rw [e]; rfl)
        · exact h.hold.ne_of (i := i) (j := 1) (by omega) hc rfl hg (by rw [e]; rfl)
      rw [hf.block g (Array.getElem?_eq_some_iff.1 h3).1 hn]; exact h3
  refine ⟨?_, fun i => by rw [hf.fz i]; exact h.fz i, ⟨Nat.lt_of_lt_of_le h.hold.lt hsz, ?_, h.hold.sep⟩, h.inB, by rw [show ({ S with l := l, r := r, q := q } : PS).r = r from rfl, d4], by show 0 < l.length; rw [hl]; exact h.pos⟩
  · intro i u hu
    match i, hu with
    | 0, hu => simp [slots] at hu; subst hu; exact d1.2.1
    | 1, hu => simp [slots] at hu; subst hu; exact d1.2.2.1
    | 2, hu => simp [slots] at hu; subst hu; exact d1.2.2.2.1
    | i + 3, hu =>
      rw [hf.box (o + (i + 3)) (by omega)]
      exact h.box (i + 3) u hu
  · intro i c hc
    match i, hc with
    | 0, hc => simp [parts] at hc; subst hc; have := d2; rw [← FI_own] at this; unfold Flat.Own at this; unfold Ch.own Flat.ch; dsimp only; exact this
    | 1, hc => simp [parts] at hc; subst hc; have := d3; rw [← FI_own] at this; unfold Flat.Own at this; unfold Ch.own Flat.ch; dsimp only; exact this
    | i + 2, hc => exact keep (i + 2) c (by omega) hc
end Go.Proofs.Ytijpkcdalmlaiaa
