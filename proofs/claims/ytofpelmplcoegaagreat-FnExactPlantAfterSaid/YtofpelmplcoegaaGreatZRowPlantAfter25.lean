/-
  Slices of Packet: compared, marked, held. With it: A plant in memory: what is read, what is owned, what is kept when a part changes. Slices of Hand: compared, marked, held.
-/
import Derived.Test.YtofpelmplcoegaaGreatZRowPlantAfter22
import Derived.Test.YtofpelmplcoegaaGreatZRowPlantAfter9
import Derived.Test.YtofpelmplcoegaaGreatZRowPlantAfter7
import Derived.Maps.AppendAt
import Derived.Lib.QuietBelow
import Derived.Deep.RegionWith
set_option linter.unusedVariables false
set_option linter.unusedSimpArgs false
namespace Go.Proofs.YtofpelmplcoegaaGreat
open Go.RowKit Go.Sort
def encHd (h : Hd) : List Value := [.bool h.1, .int .i64 h.2.1, .int .i64 h.2.2]
theorem encHd_one (x : Hd) (u : Value) (h : u ∈ encHd x) : u.oneCell' = true := by simp [encHd] at h; rcases h with rfl | rfl | rfl <;> rfl
def encPk (p : Pk) : List Value := [.bool p.1, .int .i64 p.2.1, .int .i64 p.2.2.1, .int .i64 p.2.2.2.1, .bool p.2.2.2.2.1, .int .i64 p.2.2.2.2.2]
theorem encPk_one (x : Pk) (u : Value) (h : u ∈ encPk x) : u.oneCell' = true := by simp [encPk] at h; rcases h with rfl | rfl | rfl | rfl | rfl | rfl <;> rfl
def FHand : Flat Hd := ⟨34, 121, .agg #[.bool false, .int .i64 0, .int .i64 0], 3, 24, encHd, Tryz.underlying34, by kernel_rfl, rfl, by decide, by decide, fun _ => rfl, encHd_one⟩
def FPacket : Flat Pk := ⟨35, 124, .agg #[.bool false, .int .i64 0, .int .i64 0, .int .i64 0, .bool false, .int .i64 0], 6, 48, encPk, Tryz.underlying35, by kernel_rfl, rfl, by decide, by decide, fun _ => rfl, encPk_one⟩
theorem FHand_at {w : World} {ad : Option Addr} {n c : Nat} {xs : List Hd} (h : FHand.Sl w (.slice ad n c) xs) {i : Nat} (hi : i < xs.length) :
    ∃ b off, ad = some ⟨b, off, none⟩ ∧ b < w.heap.size ∧ w.cell? ⟨b, off + i * 3, none⟩ = some (.bool xs[i].1) ∧ w.cell? ⟨b, off + i * 3 + 1, none⟩ = some (.int .i64 xs[i].2.1) ∧ w.cell? ⟨b, off + i * 3 + 2, none⟩ = some (.int .i64 xs[i].2.2) := by
  obtain ⟨b, off, h1, h2, h3⟩ := h.at_ hi
  refine ⟨b, off, h1, h2, ?_, ?_, ?_⟩
  · have := h3 0 (.bool xs[i].1) rfl
    have e : off + (i * FHand.size + 0) = off + i * 3 := by show off + (i * 3 + 0) = _; omega
    rw [e] at this; exact this
  · have := h3 1 (.int .i64 xs[i].2.1) rfl
    have e : off + (i * FHand.size + 1) = off + i * 3 + 1 := by show off + (i * 3 + 1) = _; omega
    rw [e] at this; exact this
  · have := h3 2 (.int .i64 xs[i].2.2) rfl
    have e : off + (i * FHand.size + 2) = off + i * 3 + 2 := by show off + (i * 3 + 2) = _; omega
    rw [e] at this; exact this
theorem FPacket_at {w : World} {ad : Option Addr} {n c : Nat} {xs : List Pk} (h : FPacket.Sl w (.slice ad n c) xs) {i : Nat} (hi : i < xs.length) :
    ∃ b off, ad = some ⟨b, off, none⟩ ∧ b < w.heap.size ∧ w.cell? ⟨b, off + i * 6, none⟩ = some (.bool xs[i].1) ∧ w.cell? ⟨b, off + i * 6 + 1, none⟩ = some (.int .i64 xs[i].2.1) ∧ w.cell? ⟨b, off + i * 6 + 2, none⟩ = some (.int .i64 xs[i].2.2.1) ∧
      w.cell? ⟨b, off + i * 6 + 3, none⟩ = some (.int .i64 xs[i].2.2.2.1) ∧ w.cell? ⟨b, off + i * 6 + 4, none⟩ = some (.bool xs[i].2.2.2.2.1) ∧ w.cell? ⟨b, off + i * 6 + 5, none⟩ = some (.int .i64 xs[i].2.2.2.2.2) := by
  obtain ⟨b, off, h1, h2, h3⟩ := h.at_ hi
  have key : ∀ j u, (encPk xs[i])[j]? = some u → w.cell? ⟨b, off + i * 6 + j, none⟩ = some u := by
    intro j u hu
    have := h3 j u hu
    have e : off + (i * FPacket.size + j) = off + i * 6 + j := by show off + (i * 6 + j) = _; omega
    rw [e] at this; exact this
  exact ⟨b, off, h1, h2, key 0 _ rfl, key 1 _ rfl, key 2 _ rfl, key 3 _ rfl, key 4 _ rfl, key 5 _ rfl⟩
theorem FHand_cell {w : World} {base g n c : Nat} {xs : List Hd} (h : FHand.Own w base (.slice (some ⟨g, 0, none⟩) n c) xs) {i : Nat} (hi : i < xs.length) :
    w.cell? ⟨g, i * 3, none⟩ = some (.bool xs[i].1) ∧ w.cell? ⟨g, i * 3 + 1, none⟩ = some (.int .i64 xs[i].2.1) ∧ w.cell? ⟨g, i * 3 + 2, none⟩ = some (.int .i64 xs[i].2.2) :=
  ⟨h.cell (j := 0) hi (by decide), h.cell (j := 1) hi (by decide), h.cell (j := 2) hi (by decide)⟩
theorem FHand_encs_set (xs : List Hd) (i : Nat) (x : Hd) (hi : i < xs.length) : FHand.encs (xs.set i x) = (((FHand.encs xs).set (i * 3) (.bool x.1)).set (i * 3 + 1) (.int .i64 x.2.1)).set (i * 3 + 2) (.int .i64 x.2.2) := by
  induction xs generalizing i with
  | nil => simp at hi
  | cons y ys ih =>
    cases i with
    | zero => simp [Flat.encs, FHand, encHd]
    | succ i =>
      rw [List.set_cons_succ, Flat.encs_cons, Flat.encs_cons, ih i (by simpa using hi)]
      have e : (i + 1) * 3 = i * 3 + 3 := by omega
      rw [e]
      simp [FHand, encHd, List.set_append_right]
      try omega
theorem FHand.set_cells {w : World} {base g n c : Nat} {xs : List Hd} (h : FHand.Own w base (.slice (some ⟨g, 0, none⟩) n c) xs) (i : Nat) (x : Hd) (hi : i < xs.length) :
    FHand.Own (((w.setCell ⟨g, i * 3, none⟩ (.bool x.1)).setCell ⟨g, i * 3 + 1, none⟩ (.int .i64 x.2.1)).setCell ⟨g, i * 3 + 2, none⟩ (.int .i64 x.2.2)) base (.slice (some ⟨g, 0, none⟩) n c) (xs.set i x) := by
  obtain rfl := h.len_of
  have h0 : w.ownsRow base FHand.E FHand.size (.slice (some ⟨g, 0, none⟩) xs.length c) xs.length (FHand.encs xs) := h
  have h1 := (World.ownsRow.stored (base := base) h0 (i * 3) (.bool x.1)).1
  have h2 := (World.ownsRow.stored (base := base) h1 (i * 3 + 1) (.int .i64 x.2.1)).1
  have h3 := (World.ownsRow.stored (base := base) h2 (i * 3 + 2) (.int .i64 x.2.2)).1
  unfold Flat.Own
  rw [List.length_set, FHand_encs_set xs i x hi]
  exact h3
theorem FHand_made (n : Nat) : (madeCells FHand.z.cells (n * FHand.size)).toList = FHand.encs (List.replicate n noHand) := by
  apply List.ext_getElem?
  intro i
  by_cases hi : i < n * 3
  · have hq : i / 3 < n := by omega
    have hr : i % 3 < 3 := Nat.mod_lt _ (by decide)
    have h1 := FHand.encs_get (xs := List.replicate n noHand) (i := i / 3) (j := i % 3) (by simpa using hq) hr
    have e : i / 3 * FHand.size + i % 3 = i := by show i / 3 * 3 + i % 3 = i; omega
    rw [e] at h1
    rw [h1, List.getElem_replicate]
    rcases (show i % 3 = 0 ∨ i % 3 = 1 ∨ i % 3 = 2 by omega) with e | e | e <;> simp [madeCells, FHand, Value.cells, encHd, noHand, hi, e]
  · have h2 : (FHand.encs (List.replicate n noHand)).length = n * 3 := by rw [Flat.encs_length, List.length_replicate]; rfl
    rw [List.getElem?_eq_none (by simp [madeCells, FHand]; omega), List.getElem?_eq_none (by omega)]
namespace Flat
variable {α : Type}
/-- append of any slice on an owned one, and where it lies -/
theorem append_at {ops : Array Oper} {rest : List Oper} {o : Oper} {a : Act} {Q : Exit → Act → World → Prop} (F : Flat α) (w : World) (s x : Operand) (hg : o.guard = none)
    (ho : o.op = .call { callee := .builtin .append, args := #[s, x], argTypes := #[F.T, F.T] })
    {base : Nat} {v : Value} {xs ys : List α} (hs : a.eval s = v) (hown : F.Own w base v xs) {ad : Option Addr} {c : Nat} (hx : a.eval x = .slice ad ys.length c) (hr : Rd w ad (F.encs ys))
    (hlen : xs.length + ys.length ≤ 16777216) (hbase : base ≤ w.heap.size)
    (h : ∀ v' w', F.Own w' base v' (xs ++ ys) → w.grownBy w' v.ownBlock → (v'.ownBlock = v.ownBlock ∨ v'.ownBlock = some w.heap.size) → wpList Tryz.prog ops Q rest (a.put o.dst v') w') : wpList Tryz.prog ops Q (o :: rest) a w := by
  obtain ⟨i0, hi, hz0, hz1, hz2⟩ := info_parts F.inf
  cases ad with
  | none =>
    have h0 : ys = [] := by
      cases ys with
      | nil => rfl
      | cons y ys =>
        have hl : 0 < (F.encs (y :: ys)).length := by rw [F.encs_length]; exact Nat.mul_pos (by simp) F.pos
        obtain ⟨b, off, h1, _⟩ := hr.all hl
        simp at h1
    subst h0
    refine wpList_plain hg fun K hK => ?_
    have hrun := run_append_of_nil (P := Tryz.prog) w base F.T o.type F.E i0 F.size F.und hi v xs.length (F.encs xs) hown c
    unfold Oper.wp execOp
    simp only [List.length_nil] at hx
    simp only [ho, resolve, invoke, builtin, Sem.run_bind, Sem.run_pure, Result.andThen_ok, List.map_toArray, List.map_cons, List.map_nil, hs, hx, hrun]
    exact hK _ _ (h v w (by simpa using hown) (World.grownBy.refl w _) (.inl rfl))
  | some ad =>
    refine wpList_append_own_at _ hg s x _ ho base F.E i0 F.z F.size F.bytes F.und hi hz0 hz1 hz2 F.zsz F.pos v xs.length (F.encs xs) hs hown ad ys.length c (F.encs ys) hx (F.encs_length ys) ?_ (fun u hu => F.encs_one hu) (by simp [maxLen]; omega) ?_ hbase (fun v' w' h1 h2 _ h3 => ?_)
    · intro j u hu
      obtain ⟨b, off, he, _, hc⟩ := hr j u hu
      simp at he
      subst he
      unfold Addr.add
      by_cases hj : j = 0
      · subst hj; simpa using hc
      · simpa [hj] using hc
    · have := F.few
      calc (xs.length + ys.length) * F.bytes ≤ 16777216 * 4096 := Nat.mul_le_mul hlen this
        _ ≤ 140737488355328 := by decide
    · refine h v' w' ?_ h2 h3
      unfold Own
      rw [encs_append, List.length_append]
      exact h1
end Flat
/-- one part of a plant: a slice and what it holds -/
structure Ch where
  v : Value
  E : Nat
  size : Nat
  n : Nat
  xs : List Value
def Flat.ch {α : Type} (F : Flat α) (v : Value) (xs : List α) : Ch := ⟨v, F.E, F.size, xs.length, F.encs xs⟩
def Ch.own (c : Ch) (w : World) : Prop := w.ownsRow 0 c.E c.size c.v c.n c.xs
def Sep (L : List (Option Nat)) : Prop := ∀ (i j g : Nat), L[i]? = some (some g) → L[j]? = some (some g) → i = j
theorem Sep.set {L : List (Option Nat)} (h : Sep L) {i : Nat} {x y : Option Nat} {m : Nat} (hi : L[i]? = some y) (hx : ∀ g, x = some g → y = some g ∨ m ≤ g) (hL : ∀ (j g : Nat), L[j]? = some (some g) → g < m) : Sep (L.set i x) := by
  have hil : i < L.length := (List.getElem?_eq_some_iff.1 hi).1
  intro a b g ha hb
  by_cases e1 : i = a
  · by_cases e2 : i = b
    · omega
    · subst e1
      rw [List.getElem?_set_self hil] at ha
      rw [List.getElem?_set_ne e2] at hb
      simp at ha
      rcases hx g ha with h1 | h1
      · subst h1; exact h i b g hi hb
      · have := hL b g hb; omega
  · rw [List.getElem?_set_ne e1] at ha
    by_cases e2 : i = b
    · subst e2
      rw [List.getElem?_set_self hil] at hb
      simp at hb
      rcases hx g hb with h1 | h1
      · subst h1; exact h a i g ha hi
      · have := hL a g ha; omega
    · rw [List.getElem?_set_ne e2] at hb
      exact h a b g ha hb
def blk (L : List Ch) : List (Option Nat) := L.map (·.v.ownBlock)
/-- parts beside a box: each owned, none in another's block -/
structure Hold (w : World) (b : Nat) (L : List Ch) : Prop where
  lt : b < w.heap.size
  own : ∀ (i : Nat) (c : Ch), L[i]? = some c → c.own w
  sep : Sep (some b :: blk L)
theorem Hold.ltAll {w : World} {b : Nat} {L : List Ch} (h : Hold w b L) (j g : Nat) (hj : (some b :: blk L)[j]? = some (some g)) : g < w.heap.size := by
  cases j with
  | zero => simp at hj; subst hj; exact h.lt
  | succ j =>
    rw [List.getElem?_cons_succ, blk, List.getElem?_map] at hj
    cases hc : L[j]? with
    | none => rw [hc] at hj; simp at hj
    | some c =>
      rw [hc] at hj
      simp at hj
      exact (World.ownsRow.lt (h.own j c hc) g hj).2
theorem Hold.below {w w' : World} {b : Nat} {L : List Ch} (h : Hold w b L) (hb : Below w.heap.size w w') : Hold w' b L :=
  ⟨Nat.lt_of_lt_of_le h.lt hb.size, fun i c hc => ownsRow_below (h.own i c hc) hb, h.sep⟩
theorem Hold.ne_box {w : World} {b : Nat} {L : List Ch} (h : Hold w b L) {i : Nat} {c : Ch} (hc : L[i]? = some c) : c.v.ownBlock ≠ some b := by
  intro e
  have := h.sep 0 (i + 1) b (by simp) (by simp [blk, hc, e])
  omega
theorem Hold.ne_of {w : World} {b : Nat} {L : List Ch} (h : Hold w b L) {i j : Nat} (hij : i ≠ j) {c d : Ch} (hc : L[i]? = some c) (hd : L[j]? = some d) {g : Nat} (hg : c.v.ownBlock = some g) : d.v.ownBlock ≠ some g := by
  intro e
  have := h.sep (i + 1) (j + 1) g (by simp [blk, hc, hg]) (by simp [blk, hd, e])
  omega
/-- a store into the box -/
theorem Hold.setb {w : World} {b : Nat} {L : List Ch} (h : Hold w b L) (j : Nat) (u : Value) : Hold (w.setCell ⟨b, j, none⟩ u) b L := by
  refine ⟨by simpa using h.lt, fun i c hc => ?_, h.sep⟩
  have hg : w.grownBy (w.setCell ⟨b, j, none⟩ u) (some b) := ⟨rfl, rfl, rfl, by simp, fun k hk hne => heap_setCell_other w ⟨b, j, none⟩ k u (fun e => hne (by rw [e]))⟩
  exact World.ownsRow.kept (h.own i c hc) hg (.inr (fun e => h.ne_box hc e))
/-- a part grows, or is laid anew, or is stored into -/
theorem Hold.grow {w w' : World} {b : Nat} {L : List Ch} (h : Hold w b L) {i : Nat} {c c' : Ch} (hc : L[i]? = some c) (hg : w.grownBy w' c.v.ownBlock) (ho : c'.own w') (hat : ∀ g, c'.v.ownBlock = some g → c.v.ownBlock = some g ∨ w.heap.size ≤ g) : Hold w' b (L.set i c') := by
  have hil : i < L.length := (List.getElem?_eq_some_iff.1 hc).1
  refine ⟨Nat.lt_of_lt_of_le h.lt hg.size, fun j d hd => ?_, ?_⟩
  · by_cases e : i = j
    · subst e
      rw [List.getElem?_set_self hil] at hd
      simp at hd; subst hd; exact ho
    · rw [List.getElem?_set_ne e] at hd
      refine World.ownsRow.kept (h.own j d hd) hg ?_
      cases hb : d.v.ownBlock with
      | none => exact .inl rfl
      | some g => exact .inr (fun e2 => h.ne_of (Ne.symm e) hd hc hb e2.symm)
  · have e : some b :: blk (L.set i c') = (some b :: blk L).set (i + 1) c'.v.ownBlock := by
      simp [blk, List.map_set]
    rw [e]
    exact h.sep.set (i := i + 1) (y := c.v.ownBlock) (m := w.heap.size) (by simp [blk, hc]) hat h.ltAll
/-- a part is taken by another one that was laid beside all -/
theorem Hold.swap {w : World} {b : Nat} {L : List Ch} (h : Hold w b L) {i : Nat} {c c' : Ch} {m : Nat} (hc : L[i]? = some c) (ho : c'.own w) (hat : ∀ g, c'.v.ownBlock = some g → m ≤ g) (hm : ∀ (j g : Nat), (some b :: blk L)[j]? = some (some g) → g < m) : Hold w b (L.set i c') := by
  have hil : i < L.length := (List.getElem?_eq_some_iff.1 hc).1
  refine ⟨h.lt, fun j d hd => ?_, ?_⟩
  · by_cases e : i = j
    · subst e
      rw [List.getElem?_set_self hil] at hd
      simp at hd; subst hd; exact ho
    · rw [List.getElem?_set_ne e] at hd
      exact h.own j d hd
  · have e : some b :: blk (L.set i c') = (some b :: blk L).set (i + 1) c'.v.ownBlock := by
      simp [blk, List.map_set]
    rw [e]
    exact h.sep.set (i := i + 1) (y := c.v.ownBlock) (m := m) (by simp [blk, hc]) (fun g hg => .inr (hat g hg)) hm
/-- a frame that touches none of the parts -/
theorem Hold.fs {S : Nat → Prop} {w w' : World} {b : Nat} {L : List Ch} (h : Hold w b L) (hf : Fs S w w') (hS : ∀ (j g : Nat), (some b :: blk L)[j]? = some (some g) → ¬ S g) : Hold w' b L := by
  refine ⟨Nat.lt_of_lt_of_le h.lt hf.size, fun i c hc => ?_, h.sep⟩
  refine ⟨(h.own i c hc).1, ?_⟩
  rcases (h.own i c hc).2 with h2 | ⟨g, cap, cur, h1, h2, h3, h4⟩
  · exact .inl h2
  · refine .inr ⟨g, cap, cur, h1, h2, ?_, h4⟩
    have hn : ¬ S g := hS (i + 1) g (by simp [blk, hc, h1, Value.ownBlock])
    rw [hf.block g (Array.getElem?_eq_some_iff.1 h3).1 hn]; exact h3
def parts (S : PS) (vl vr ve vh vw vo : Value) : List Ch := [FI.ch vl S.l, FI.ch vr S.r, FRecord.ch ve S.recs, FHand.ch vh S.hands, FPacket.ch vw S.wire, FI.ch vo S.out]
def slots (S : PS) (vl vr ve vh vw vo : Value) : List Value := [vl, vr, .int .i64 S.q, ve, .int .i64 S.sy, vh, vw, vo]
/-- a plant at a box -/
structure PlIs (w : World) (b o : Nat) (B : Nat → Prop) (S : PS) (vl vr ve vh vw vo : Value) : Prop where
  box : ∀ (i : Nat) (u : Value), (slots S vl vr ve vh vw vo)[i]? = some u → w.cell? ⟨b, o + i, none⟩ = some u
  fz : ∀ i, w.frozen? ⟨b, i, none⟩ = false
  hold : Hold w b (parts S vl vr ve vh vw vo)
  inB : ∀ (j g : Nat), (some b :: blk (parts S vl vr ve vh vw vo))[j]? = some (some g) → B g
  len : S.r.length = S.l.length
  pos : 0 < S.l.length
theorem PlIs.below {w w' : World} {b o : Nat} {B : Nat → Prop} {S : PS} {vl vr ve vh vw vo : Value} (h : PlIs w b o B S vl vr ve vh vw vo) (hb : Below w.heap.size w w') : PlIs w' b o B S vl vr ve vh vw vo :=
  ⟨fun i u hu => by rw [hb.cell (p := ⟨b, o + i, none⟩) h.hold.lt]; exact h.box i u hu, fun i => by rw [hb.frozen (p := ⟨b, i, none⟩) h.hold.lt]; exact h.fz i, h.hold.below hb, h.inB, h.len, h.pos⟩
theorem PlIs.fs {T : Nat → Prop} {w w' : World} {b o : Nat} {B : Nat → Prop} {S : PS} {vl vr ve vh vw vo : Value} (h : PlIs w b o B S vl vr ve vh vw vo) (hf : Fs T w w') (hT : ∀ k, B k → ¬ T k) : PlIs w' b o B S vl vr ve vh vw vo :=
  have hb : ¬ T b := hT b (h.inB 0 b rfl)
  ⟨fun i u hu => by rw [hf.cell (p := ⟨b, o + i, none⟩) h.hold.lt hb]; exact h.box i u hu, fun i => by rw [hf.frozen (p := ⟨b, i, none⟩) h.hold.lt hb]; exact h.fz i, h.hold.fs hf (fun j g hj => hT g (h.inB j g hj)), h.inB, h.len, h.pos⟩
theorem PlIs.mono {w : World} {b o : Nat} {B B' : Nat → Prop} {S : PS} {vl vr ve vh vw vo : Value} (h : PlIs w b o B S vl vr ve vh vw vo) (hB : ∀ k, B k → B' k) : PlIs w b o B' S vl vr ve vh vw vo :=
  ⟨h.box, h.fz, h.hold, fun j g hj => hB g (h.inB j g hj), h.len, h.pos⟩
theorem PlIs.blt {w : World} {b o : Nat} {B : Nat → Prop} {S : PS} {vl vr ve vh vw vo : Value} (h : PlIs w b o B S vl vr ve vh vw vo) : b < w.heap.size := h.hold.lt
theorem PlIs.ol {w : World} {b o : Nat} {B : Nat → Prop} {S : PS} {vl vr ve vh vw vo : Value} (h : PlIs w b o B S vl vr ve vh vw vo) : OwnI w 0 vl S.l := by rw [← FI_own]; exact h.hold.own 0 _ rfl
theorem PlIs.or_ {w : World} {b o : Nat} {B : Nat → Prop} {S : PS} {vl vr ve vh vw vo : Value} (h : PlIs w b o B S vl vr ve vh vw vo) : OwnI w 0 vr S.r := by rw [← FI_own]; exact h.hold.own 1 _ rfl
theorem PlIs.oe {w : World} {b o : Nat} {B : Nat → Prop} {S : PS} {vl vr ve vh vw vo : Value} (h : PlIs w b o B S vl vr ve vh vw vo) : FRecord.Own w 0 ve S.recs := h.hold.own 2 _ rfl
theorem PlIs.oh {w : World} {b o : Nat} {B : Nat → Prop} {S : PS} {vl vr ve vh vw vo : Value} (h : PlIs w b o B S vl vr ve vh vw vo) : FHand.Own w 0 vh S.hands := h.hold.own 3 _ rfl
theorem PlIs.ow {w : World} {b o : Nat} {B : Nat → Prop} {S : PS} {vl vr ve vh vw vo : Value} (h : PlIs w b o B S vl vr ve vh vw vo) : FPacket.Own w 0 vw S.wire := h.hold.own 4 _ rfl
theorem PlIs.oo {w : World} {b o : Nat} {B : Nat → Prop} {S : PS} {vl vr ve vh vw vo : Value} (h : PlIs w b o B S vl vr ve vh vw vo) : OwnI w 0 vo S.out := by rw [← FI_own]; exact h.hold.own 5 _ rfl
/-- an owned slice that is not empty -/
theorem Flat.Own.form {α : Type} {F : Flat α} {w : World} {base : Nat} {v : Value} {xs : List α} (h : F.Own w base v xs) (hp : 0 < xs.length) : ∃ g c, v = .slice (some ⟨g, 0, none⟩) xs.length c ∧ g < w.heap.size := by
  rcases h.forms with ⟨_, e⟩ | ⟨g, c, h1, _, h3, _⟩
  · subst e; simp at hp
  · exact ⟨g, c, h1, h3⟩
theorem PlIs.desk {w : World} {b o : Nat} {B : Nat → Prop} {S : PS} {vl vr ve vh vw vo : Value} (h : PlIs w b o B S vl vr ve vh vw vo) :
    ∃ gl cl gr cr, vl = .slice (some ⟨gl, 0, none⟩) S.l.length cl ∧ vr = .slice (some ⟨gr, 0, none⟩) S.l.length cr ∧ DeskIs w 0 b o gl cl gr cr S.l S.r S.q := by
  have h1 := h.ol
  have h2 := h.or_
  rcases h1.forms with ⟨_, e⟩ | ⟨gl, cl, rfl, _, hgl, _, _⟩
  · have := h.pos; rw [e] at this; simp at this
  · rcases h2.forms with ⟨_, e⟩ | ⟨gr, cr, hv, _, hgr, _, _⟩
    · have := h.pos; have := h.len; rw [e] at this; simp at this; omega
    · rw [h.len] at hv
      subst hv
      refine ⟨gl, cl, gr, cr, rfl, rfl, ⟨⟨h.hold.lt, h.box 0 _ rfl, h.box 1 _ rfl, h.box 2 _ rfl, h.fz (o + 2)⟩, h1, h2, h.len, ?_, ?_, ?_⟩⟩
      · intro e
        exact h.hold.ne_of (i := 0) (j := 1) (by decide) rfl rfl (g := gl) rfl (by rw [e]; rfl)
      · intro e
        exact h.hold.ne_box (i := 0) rfl (by rw [e]; rfl)
      · intro e
        exact h.hold.ne_box (i := 1) rfl (by rw [e]; rfl)
/-- the desk has learned -/
theorem PlIs.learned {w w' : World} {b o : Nat} {B : Nat → Prop} {S : PS} {gl cl gr cr : Nat} {ve vh vw vo : Value} {l r : List Int} {q : Int}
    (h : PlIs w b o B S (.slice (some ⟨gl, 0, none⟩) S.l.length cl) (.slice (some ⟨gr, 0, none⟩) S.l.length cr) ve vh vw vo) (hf : FrD b o gl gr w w') (hl : l.length = S.l.length) (hd : DeskIs w' 0 b o gl cl gr cr l r q) :
    PlIs w' b o B { S with l := l, r := r, q := q } (.slice (some ⟨gl, 0, none⟩) S.l.length cl) (.slice (some ⟨gr, 0, none⟩) S.l.length cr) ve vh vw vo := by
  have hsz := hf.size
  obtain ⟨d1, d2, d3, d4, d5, d6, d7⟩ := hd
  rw [hl] at d1 d2 d3
  have keep : ∀ i c, 2 ≤ i → (parts S (.slice (some ⟨gl, 0, none⟩) S.l.length cl) (.slice (some ⟨gr, 0, none⟩) S.l.length cr) ve vh vw vo)[i]? = some c → c.own w' := by
    intro i c hi hc
    have h0 := h.hold.own i c hc
    refine ⟨h0.1, ?_⟩
    rcases h0.2 with h2 | ⟨g, cap, cur, h1, h2, h3, h4⟩
    · exact .inl h2
    · refine .inr ⟨g, cap, cur, h1, h2, ?_, h4⟩
      have hg : c.v.ownBlock = some g := by rw [h1]; rfl
      have hn : ¬ In3 b gl gr g := by
        rintro (e | e | e)
        · exact h.hold.ne_box hc (by rw [hg, e])
        · exact h.hold.ne_of (i := i) (j := 0) (by omega) hc rfl hg (by rw [e]; rfl)
        · exact h.hold.ne_of (i := i) (j := 1) (by omega) hc rfl hg (by rw [e]; rfl)
      rw [hf.block g (Array.getElem?_eq_some_iff.1 h3).1 hn]; exact h3
  refine ⟨?_, fun i => by rw [hf.fz i]; exact h.fz i, ⟨Nat.lt_of_lt_of_le h.hold.lt hsz, ?_, h.hold.sep⟩, h.inB, by rw [show ({ S with l := l, r := r, q := q } : PS).r = r from rfl, d4], by show 0 < l.length; rw [hl]; exact h.pos⟩
  · intro i u hu
    match i, hu with
    | 0, hu => simp [slots] at hu; subst hu; exact d1.2.1
    | 1, hu => simp [slots] at hu; subst hu; exact d1.2.2.1
    | 2, hu => simp [slots] at hu; subst hu; exact d1.2.2.2.1
    | i + 3, hu =>
      rw [hf.box (o + (i + 3)) (by omega)]
      exact h.box (i + 3) u hu
  · intro i c hc
    match i, hc with
    | 0, hc => simp [parts] at hc; subst hc; have := d2; rw [← FI_own] at this; unfold Flat.Own at this; unfold Ch.own Flat.ch; dsimp only; exact this
    | 1, hc => simp [parts] at hc; subst hc; have := d3; rw [← FI_own] at this; unfold Flat.Own at this; unfold Ch.own Flat.ch; dsimp only; exact this
    | i + 2, hc => exact keep (i + 2) c (by omega) hc
end Go.Proofs.YtofpelmplcoegaaGreat
namespace Go.Proofs.YtofpelmplcoegaaGreat
open Go.RowKit Go.Sort

set_option maxHeartbeats 1000000 in
theorem eqHand_refl (a0 : Bool) (a1 : Int) (a2 : Int) (w : World) :
    Calls Tryz.prog 77 #[.agg #[.bool a0, .int .i64 a1, .int .i64 a2], .agg #[.bool a0, .int .i64 a1, .int .i64 a2]] w fun e w' => e = .returned (.bool true) ∧ Below w.heap.size w w' := by
  have h0 : (a0 != a0) = false := by simp
  have h1 : (a1 != a1) = false := by simp
  have h2 : (a2 != a2) = false := by simp
  go_enter Tryz.func77, Tryz.ntmps77
  go_wp2
  go_ret
  exact ⟨rfl, ((Below.refl _ _).alloc (Nat.le_refl _) _).alloc (by simp) _⟩
set_option maxHeartbeats 1000000 in
theorem eqHandS_refl {u v : Value} {xs : List (Bool × Int × Int)} (w : World) (ha : FHand.Sl w u xs) (hb : FHand.Sl w v xs) :
    Calls Tryz.prog 35 #[u, v] w fun e w' => e = .returned (.bool true) ∧ Below w.heap.size w w' := by
  have HA := Lib.hid (fun W (h : Below w.heap.size w W) => ha.below h)
  have HB := Lib.hid (fun W (h : Below w.heap.size w W) => hb.below h)
  obtain ⟨a, ca, rfl, hca, hca', _⟩ := ha
  obtain ⟨b, cb, rfl, hcb, hcb', _⟩ := hb
  unfold maxLen at hca' hcb'
  have hm : xs.length ≤ 9223372036854775807 := by omega
  have h1 : ((xs.length : Int) != (xs.length : Int)) = false := by simp
  clear hca hca' hcb hcb'
  go_enter Tryz.func35, Tryz.ntmps35
  go_wp2
  go_loopw [5] (fun i wr => ∃ k : Nat, k ≤ xs.length ∧ i = .int .i64 k ∧ Below w.heap.size w wr) (fun i _ => xs.length - (intOf i).toNat)
  case atStart => exact ⟨0, Nat.zero_le _, rfl, Below.refl _ _⟩
  case round =>
    obtain ⟨k, hk, rfl, hbw⟩ := hrel
    by_cases hlt : k < xs.length
    · obtain ⟨ba, oa, rfl, _, c0, c1, c2⟩ := FHand_at (HA.out _ hbw) hlt
      obtain ⟨bb, ob, rfl, _, d0, d1, d2⟩ := FHand_at (HB.out _ hbw) hlt
      generalize xs[k] = x at c0 c1 c2 d0 d1 d2
      obtain ⟨x0, x1, x2⟩ := x
      dsimp only at c0 c1 c2 d0 d1 d2
      have kc0 := fun d os => cell_regrown c0 d os
      have kc1 := fun d os => cell_regrown c1 d os
      have kc2 := fun d os => cell_regrown c2 d os
      have kd0 := fun d os => cell_regrown d0 d os
      have kd1 := fun d os => cell_regrown d1 d os
      have kd2 := fun d os => cell_regrown d2 d os
      have i0 : (0 : Int) ≤ (k : Int) := by omega
      have i1 : (k : Int) < (xs.length : Int) := by omega
      clear c0 c1 c2 d0 d1 d2
      go_wp2_with fail
      refine wp_region_quiet_below (by kernel_rfl) (by kernel_rfl) ?_
      repeat (first | go_big_quiet_skip | quiet_step (exact Calls.regrown_of (eqHand_refl x0 x1 x2 _)))
      refine wpQuiet_nil ?_
      intro _ hw'
      obtain ⟨⟨dq, osq⟩, hw''⟩ := hw'
      subst hw''
      have bq := hbw.trans ((below_regrown wr dq osq).mono hbw.size)
      generalize grow (redrawn wr dq) osq = wq at bq ⊢
      clear kc0 kd0 kc1 kd1 kc2 kd2
      go_wp2
      go_roundw
      case rel => exact ⟨k + 1, by omega, by go_num, bq⟩
      case measure => simp [intOf]; omega
    · go_wp2
      go_ret
      exact ⟨rfl, hbw⟩

def mkHand (q : Int) : Bool × Int × Int := (((q) % 3 == 0), q + 1, q + 1 + 1)
def mksHand (m : Int) (n : Nat) : List (Bool × Int × Int) := (List.range n).map fun (i : Nat) => mkHand (m + 3 * (i : Int))
theorem mksHand_length (m : Int) (n : Nat) : (mksHand m n).length = n := by simp [mksHand]
theorem mksHand_get (m : Int) (n : Nat) {i : Nat} (h : i < n) : (mksHand m n)[i]'(by rw [mksHand_length]; exact h) = mkHand (m + 3 * (i : Int)) := by simp [mksHand]
theorem mksHand_step {xs : List (Bool × Int × Int)} {m : Int} {k : Nat} (h : k < xs.length) : (mksHand m k ++ xs.drop k).set k (mkHand (m + 3 * (k : Int))) = mksHand m (k+1) ++ xs.drop (k+1) := by
  rw [List.set_append_right _ _ (by simp [mksHand])]
  have e2 : k - (mksHand m k).length = 0 := by simp [mksHand]
  rw [e2, List.drop_eq_getElem_cons h, List.set_cons_zero]
  simp [mksHand, List.range_succ]
set_option maxHeartbeats 2000000 in
theorem markHandS_any {v : Value} {xs : List (Bool × Int × Int)} (m : Int) (base : Nat) (w : World) (hm0 : 0 ≤ m) (hm : m + 3 * xs.length ≤ 1000000000000) (ha : FHand.Own w base v xs) :
    Calls Tryz.prog 43 #[v, .int .i64 m] w fun e w' => e = .returned (.int .i64 (m + 3 * xs.length)) ∧ FHand.Own w' base v (mksHand m xs.length) ∧ w.grownBy w' v.ownBlock := by
  rcases ha.forms with ⟨rfl, rfl⟩ | ⟨g, c, rfl, hbase, hgs, hc1, hc2⟩
  · go_enter Tryz.func43, Tryz.ntmps43
    go_wp2
    refine wp_loop_rounds 1 ?_
    rw [rounds_succ]
    go_wp2
    go_ret
    exact ⟨ri (by simp), Flat.Own.nil _ _, World.grownBy.refl _ _⟩
  · clear hc1 hc2
    go_enter Tryz.func43, Tryz.ntmps43
    go_wp2
    go_loopw [1, 5] (fun q i wr => ∃ (k : Nat) (Q : Int), k ≤ xs.length ∧ i = .int .i64 k ∧ q = .int .i64 Q ∧ Hid (Q = m + 3 * (k : Int)) ∧ 0 ≤ Q ∧ Q ≤ 1000000000000 ∧ FHand.Own wr base (.slice (some ⟨g, 0, none⟩) xs.length c) (mksHand m k ++ xs.drop k) ∧ w.grownBy wr (some g)) (fun _ i _ => xs.length - (intOf i).toNat)
    case atStart => exact ⟨0, m, Nat.zero_le _, rfl, rfl, by simp [Hid], by omega, by omega, by simpa [mksHand] using ha, World.grownBy.refl _ _⟩
    case round =>
      clear ha
      obtain ⟨k, Q, hk, rfl, rfl, hQ, hQ0, hQ1, hown, hgr⟩ := hrel
      by_cases hlt : k < xs.length
      · have hll : k < (mksHand m k ++ xs.drop k).length := by simp [mksHand]; omega
        have own' := FHand.set_cells hown k (mkHand Q) hll
        rw [hQ.out, mksHand_step hlt] at own'
        simp only [mkHand] at own'
        rw [← hQ.out] at own'
        obtain ⟨d0, d1, d2⟩ := FHand_cell hown hll
        generalize (mksHand m k ++ xs.drop k)[k]'hll = y at d0 d1 d2
        have f0 := hown.free (k * 3)
        have f1 := hown.free (k * 3 + 1)
        have f2 := hown.free (k * 3 + 2)
        have HO := Lib.hid own'
        have i1 : (k : Int) < (xs.length : Int) := by omega
        have hq1 : Q + 3 ≤ 1000000000000 := by have := hQ.out; omega
        clear own' hown hll
        go_wp2
        go_roundw
        case rel => exact ⟨k + 1, Q + 1 + 1 + 1, by omega, by go_num, rfl, by have := hQ.out; unfold Hid; rw [this]; push_cast; omega, by omega, by omega, HO.out, grownBy_setCell (grownBy_setCell (grownBy_setCell hgr _ _) _ _) _ _⟩
        case measure => simp [intOf]; omega
      · obtain rfl : k = xs.length := by omega
        go_wp2
        go_ret
        exact ⟨ri hQ.out, by simpa using hown, hgr⟩
set_option maxHeartbeats 2000000 in
theorem heldHandS_any {v : Value} (m : Int) (n : Nat) (w : World) (hm0 : 0 ≤ m) (hm : m + 3 * n ≤ 1000000000000) (ha : FHand.Sl w v (mksHand m n)) :
    Calls Tryz.prog 48 #[v, .int .i64 m] w fun e w' => e = .returned (.int .i64 (m + 3 * n)) ∧ Below w.heap.size w w' := by
  have HA := Lib.hid (fun W (h : Below w.heap.size w W) => ha.below h)
  obtain ⟨a, ca, rfl, hca, hca', _⟩ := ha
  have hl := mksHand_length m n
  rw [hl] at hca HA ⊢
  have HL := Lib.hid hl
  unfold maxLen at hca'
  clear hl
  go_enter Tryz.func48, Tryz.ntmps48
  go_wp2
  go_loopw [1, 5] (fun q i wr => ∃ (k : Nat) (Q : Int), k ≤ n ∧ i = .int .i64 k ∧ q = .int .i64 Q ∧ Hid (Q = m + 3 * (k : Int)) ∧ 0 ≤ Q ∧ Q ≤ 1000000000000 ∧ Below w.heap.size w wr) (fun _ i _ => n - (intOf i).toNat)
  case atStart => exact ⟨0, m, Nat.zero_le _, rfl, rfl, by simp [Hid], by omega, by omega, Below.refl _ _⟩
  case round =>
    obtain ⟨k, Q, hk, rfl, rfl, hQ, hQ0, hQ1, hbw⟩ := hrel
    by_cases hlt : k < n
    · obtain ⟨ba, oa, rfl, _, c0, c1, c2⟩ := FHand_at (HA.out _ hbw) (i := k) (by rw [HL.out]; exact hlt)
      have e := mksHand_get m n hlt
      rw [← hQ.out] at e
      rw [e] at c0 c1 c2
      simp only [mkHand] at c0 c1 c2
      have t0 : (((Q) % 3 == 0) != ((Q) % 3 == 0)) = false := by simp
      have t1 : (Q + 1 != Q + 1) = false := by simp
      have t2 : (Q + 1 + 1 != Q + 1 + 1) = false := by simp
      have i1 : (k : Int) < (n : Int) := by omega
      have hq1 : Q + 3 ≤ 1000000000000 := by have := hQ.out; omega
      clear e
      go_wp2
      go_roundw
      case rel => exact ⟨k + 1, Q + 1 + 1 + 1, by omega, by go_num, rfl, by have := hQ.out; unfold Hid; rw [this]; push_cast; omega, by omega, by omega, hbw⟩
      case measure => simp [intOf]; omega
    · obtain rfl : k = n := by omega
      go_wp2
      go_ret
      exact ⟨ri hQ.out, hbw⟩
end Go.Proofs.YtofpelmplcoegaaGreat
namespace Go.Proofs.YtofpelmplcoegaaGreat
open Go.RowKit Go.Sort
theorem FPacket_cell {w : World} {base g n c : Nat} {xs : List (Bool × Int × Int × Int × Bool × Int)} (h : FPacket.Own w base (.slice (some ⟨g, 0, none⟩) n c) xs) {i : Nat} (hi : i < xs.length) :
    w.cell? ⟨g, i * 6, none⟩ = some (.bool xs[i].1) ∧ w.cell? ⟨g, i * 6 + 1, none⟩ = some (.int .i64 xs[i].2.1) ∧ w.cell? ⟨g, i * 6 + 2, none⟩ = some (.int .i64 xs[i].2.2.1) ∧ w.cell? ⟨g, i * 6 + 3, none⟩ = some (.int .i64 xs[i].2.2.2.1) ∧ w.cell? ⟨g, i * 6 + 4, none⟩ = some (.bool xs[i].2.2.2.2.1) ∧ w.cell? ⟨g, i * 6 + 5, none⟩ = some (.int .i64 xs[i].2.2.2.2.2) :=
  ⟨h.cell (j := 0) hi (by decide), h.cell (j := 1) hi (by decide), h.cell (j := 2) hi (by decide), h.cell (j := 3) hi (by decide), h.cell (j := 4) hi (by decide), h.cell (j := 5) hi (by decide)⟩
theorem FPacket_encs_set (xs : List (Bool × Int × Int × Int × Bool × Int)) (i : Nat) (x : Bool × Int × Int × Int × Bool × Int) (hi : i < xs.length) : FPacket.encs (xs.set i x) = ((((((FPacket.encs xs).set (i * 6) (.bool x.1)).set (i * 6 + 1) (.int .i64 x.2.1)).set (i * 6 + 2) (.int .i64 x.2.2.1)).set (i * 6 + 3) (.int .i64 x.2.2.2.1)).set (i * 6 + 4) (.bool x.2.2.2.2.1)).set (i * 6 + 5) (.int .i64 x.2.2.2.2.2) := by
  induction xs generalizing i with
  | nil => simp at hi
  | cons y ys ih =>
    cases i with
    | zero => simp [Flat.encs, FPacket, encPk]
    | succ i =>
      rw [List.set_cons_succ, Flat.encs_cons, Flat.encs_cons, ih i (by simpa using hi)]
      have e : (i + 1) * 6 = i * 6 + 6 := by omega
      rw [e]
      simp [FPacket, encPk, List.set_append_right]
      try omega
theorem FPacket.set_cells {w : World} {base g n c : Nat} {xs : List (Bool × Int × Int × Int × Bool × Int)} (h : FPacket.Own w base (.slice (some ⟨g, 0, none⟩) n c) xs) (i : Nat) (x : Bool × Int × Int × Int × Bool × Int) (hi : i < xs.length) :
    FPacket.Own ((((((w.setCell ⟨g, i * 6, none⟩ (.bool x.1)).setCell ⟨g, i * 6 + 1, none⟩ (.int .i64 x.2.1)).setCell ⟨g, i * 6 + 2, none⟩ (.int .i64 x.2.2.1)).setCell ⟨g, i * 6 + 3, none⟩ (.int .i64 x.2.2.2.1)).setCell ⟨g, i * 6 + 4, none⟩ (.bool x.2.2.2.2.1)).setCell ⟨g, i * 6 + 5, none⟩ (.int .i64 x.2.2.2.2.2)) base (.slice (some ⟨g, 0, none⟩) n c) (xs.set i x) := by
  obtain rfl := h.len_of
  have h0 : w.ownsRow base FPacket.E FPacket.size (.slice (some ⟨g, 0, none⟩) xs.length c) xs.length (FPacket.encs xs) := h
  have h1 := (World.ownsRow.stored (base := base) h0 (i * 6) (.bool x.1)).1
  have h2 := (World.ownsRow.stored (base := base) h1 (i * 6 + 1) (.int .i64 x.2.1)).1
  have h3 := (World.ownsRow.stored (base := base) h2 (i * 6 + 2) (.int .i64 x.2.2.1)).1
  have h4 := (World.ownsRow.stored (base := base) h3 (i * 6 + 3) (.int .i64 x.2.2.2.1)).1
  have h5 := (World.ownsRow.stored (base := base) h4 (i * 6 + 4) (.bool x.2.2.2.2.1)).1
  have h6 := (World.ownsRow.stored (base := base) h5 (i * 6 + 5) (.int .i64 x.2.2.2.2.2)).1
  unfold Flat.Own
  rw [List.length_set, FPacket_encs_set xs i x hi]
  exact h6

set_option maxHeartbeats 1000000 in
theorem eqPacket_refl (a0 : Bool) (a1 : Int) (a2 : Int) (a3 : Int) (a4 : Bool) (a5 : Int) (w : World) :
    Calls Tryz.prog 78 #[.agg #[.bool a0, .int .i64 a1, .int .i64 a2, .int .i64 a3, .bool a4, .int .i64 a5], .agg #[.bool a0, .int .i64 a1, .int .i64 a2, .int .i64 a3, .bool a4, .int .i64 a5]] w fun e w' => e = .returned (.bool true) ∧ Below w.heap.size w w' := by
  have h0 : (a0 != a0) = false := by simp
  have h1 : (a1 != a1) = false := by simp
  have h2 : (a2 != a2) = false := by simp
  have h3 : (a3 != a3) = false := by simp
  have h4 : (a4 != a4) = false := by simp
  have h5 : (a5 != a5) = false := by simp
  go_enter Tryz.func78, Tryz.ntmps78
  go_wp2
  go_ret
  exact ⟨rfl, ((Below.refl _ _).alloc (Nat.le_refl _) _).alloc (by simp) _⟩
set_option maxHeartbeats 1000000 in
theorem eqPacketS_refl {u v : Value} {xs : List (Bool × Int × Int × Int × Bool × Int)} (w : World) (ha : FPacket.Sl w u xs) (hb : FPacket.Sl w v xs) :
    Calls Tryz.prog 36 #[u, v] w fun e w' => e = .returned (.bool true) ∧ Below w.heap.size w w' := by
  have HA := Lib.hid (fun W (h : Below w.heap.size w W) => ha.below h)
  have HB := Lib.hid (fun W (h : Below w.heap.size w W) => hb.below h)
  obtain ⟨a, ca, rfl, hca, hca', _⟩ := ha
  obtain ⟨b, cb, rfl, hcb, hcb', _⟩ := hb
  unfold maxLen at hca' hcb'
  have hm : xs.length ≤ 9223372036854775807 := by omega
  have h1 : ((xs.length : Int) != (xs.length : Int)) = false := by simp
  clear hca hca' hcb hcb'
  go_enter Tryz.func36, Tryz.ntmps36
  go_wp2
  go_loopw [5] (fun i wr => ∃ k : Nat, k ≤ xs.length ∧ i = .int .i64 k ∧ Below w.heap.size w wr) (fun i _ => xs.length - (intOf i).toNat)
  case atStart => exact ⟨0, Nat.zero_le _, rfl, Below.refl _ _⟩
  case round =>
    obtain ⟨k, hk, rfl, hbw⟩ := hrel
    by_cases hlt : k < xs.length
    · obtain ⟨ba, oa, rfl, _, c0, c1, c2, c3, c4, c5⟩ := FPacket_at (HA.out _ hbw) hlt
      obtain ⟨bb, ob, rfl, _, d0, d1, d2, d3, d4, d5⟩ := FPacket_at (HB.out _ hbw) hlt
      generalize xs[k] = x at c0 c1 c2 c3 c4 c5 d0 d1 d2 d3 d4 d5
      obtain ⟨x0, x1, x2, x3, x4, x5⟩ := x
      dsimp only at c0 c1 c2 c3 c4 c5 d0 d1 d2 d3 d4 d5
      have kc0 := fun d os => cell_regrown c0 d os
      have kc1 := fun d os => cell_regrown c1 d os
      have kc2 := fun d os => cell_regrown c2 d os
      have kc3 := fun d os => cell_regrown c3 d os
      have kc4 := fun d os => cell_regrown c4 d os
      have kc5 := fun d os => cell_regrown c5 d os
      have kd0 := fun d os => cell_regrown d0 d os
      have kd1 := fun d os => cell_regrown d1 d os
      have kd2 := fun d os => cell_regrown d2 d os
      have kd3 := fun d os => cell_regrown d3 d os
      have kd4 := fun d os => cell_regrown d4 d os
      have kd5 := fun d os => cell_regrown d5 d os
      have i0 : (0 : Int) ≤ (k : Int) := by omega
      have i1 : (k : Int) < (xs.length : Int) := by omega
      clear c0 c1 c2 c3 c4 c5 d0 d1 d2 d3 d4 d5
      go_wp2_with fail
      refine wp_region_quiet_below (by kernel_rfl) (by kernel_rfl) ?_
      repeat (first | go_big_quiet_skip | quiet_step (exact Calls.regrown_of (eqPacket_refl x0 x1 x2 x3 x4 x5 _)))
      refine wpQuiet_nil ?_
      intro _ hw'
      obtain ⟨⟨dq, osq⟩, hw''⟩ := hw'
      subst hw''
      have bq := hbw.trans ((below_regrown wr dq osq).mono hbw.size)
      generalize grow (redrawn wr dq) osq = wq at bq ⊢
      clear kc0 kd0 kc1 kd1 kc2 kd2 kc3 kd3 kc4 kd4 kc5 kd5
      go_wp2
      go_roundw
      case rel => exact ⟨k + 1, by omega, by go_num, bq⟩
      case measure => simp [intOf]; omega
    · go_wp2
      go_ret
      exact ⟨rfl, hbw⟩

def mkPacket (q : Int) : Bool × Int × Int × Int × Bool × Int := (((q) % 3 == 0), q + 1, q + 1 + 1, q + 1 + 1 + 1, ((q + 1 + 1 + 1 + 1) % 3 == 0), q + 1 + 1 + 1 + 1 + 1)
def mksPacket (m : Int) (n : Nat) : List (Bool × Int × Int × Int × Bool × Int) := (List.range n).map fun (i : Nat) => mkPacket (m + 6 * (i : Int))
theorem mksPacket_length (m : Int) (n : Nat) : (mksPacket m n).length = n := by simp [mksPacket]
theorem mksPacket_get (m : Int) (n : Nat) {i : Nat} (h : i < n) : (mksPacket m n)[i]'(by rw [mksPacket_length]; exact h) = mkPacket (m + 6 * (i : Int)) := by simp [mksPacket]
theorem mksPacket_step {xs : List (Bool × Int × Int × Int × Bool × Int)} {m : Int} {k : Nat} (h : k < xs.length) : (mksPacket m k ++ xs.drop k).set k (mkPacket (m + 6 * (k : Int))) = mksPacket m (k+1) ++ xs.drop (k+1) := by
  rw [List.set_append_right _ _ (by simp [mksPacket])]
  have e2 : k - (mksPacket m k).length = 0 := by simp [mksPacket]
  rw [e2, List.drop_eq_getElem_cons h, List.set_cons_zero]
  simp [mksPacket, List.range_succ]
set_option maxHeartbeats 2000000 in
theorem markPacketS_any {v : Value} {xs : List (Bool × Int × Int × Int × Bool × Int)} (m : Int) (base : Nat) (w : World) (hm0 : 0 ≤ m) (hm : m + 6 * xs.length ≤ 1000000000000) (ha : FPacket.Own w base v xs) :
    Calls Tryz.prog 44 #[v, .int .i64 m] w fun e w' => e = .returned (.int .i64 (m + 6 * xs.length)) ∧ FPacket.Own w' base v (mksPacket m xs.length) ∧ w.grownBy w' v.ownBlock := by
  rcases ha.forms with ⟨rfl, rfl⟩ | ⟨g, c, rfl, hbase, hgs, hc1, hc2⟩
  · go_enter Tryz.func44, Tryz.ntmps44
    go_wp2
    refine wp_loop_rounds 1 ?_
    rw [rounds_succ]
    go_wp2
    go_ret
    exact ⟨ri (by simp), Flat.Own.nil _ _, World.grownBy.refl _ _⟩
  · clear hc1 hc2
    go_enter Tryz.func44, Tryz.ntmps44
    go_wp2
    go_loopw [1, 5] (fun q i wr => ∃ (k : Nat) (Q : Int), k ≤ xs.length ∧ i = .int .i64 k ∧ q = .int .i64 Q ∧ Hid (Q = m + 6 * (k : Int)) ∧ 0 ≤ Q ∧ Q ≤ 1000000000000 ∧ FPacket.Own wr base (.slice (some ⟨g, 0, none⟩) xs.length c) (mksPacket m k ++ xs.drop k) ∧ w.grownBy wr (some g)) (fun _ i _ => xs.length - (intOf i).toNat)
    case atStart => exact ⟨0, m, Nat.zero_le _, rfl, rfl, by simp [Hid], by omega, by omega, by simpa [mksPacket] using ha, World.grownBy.refl _ _⟩
    case round =>
      clear ha
      obtain ⟨k, Q, hk, rfl, rfl, hQ, hQ0, hQ1, hown, hgr⟩ := hrel
      by_cases hlt : k < xs.length
      · have hll : k < (mksPacket m k ++ xs.drop k).length := by simp [mksPacket]; omega
        have own' := FPacket.set_cells hown k (mkPacket Q) hll
        rw [hQ.out, mksPacket_step hlt] at own'
        simp only [mkPacket] at own'
        rw [← hQ.out] at own'
        obtain ⟨d0, d1, d2, d3, d4, d5⟩ := FPacket_cell hown hll
        generalize (mksPacket m k ++ xs.drop k)[k]'hll = y at d0 d1 d2 d3 d4 d5
        have f0 := hown.free (k * 6)
        have f1 := hown.free (k * 6 + 1)
        have f2 := hown.free (k * 6 + 2)
        have f3 := hown.free (k * 6 + 3)
        have f4 := hown.free (k * 6 + 4)
        have f5 := hown.free (k * 6 + 5)
        have HO := Lib.hid own'
        have i1 : (k : Int) < (xs.length : Int) := by omega
        have hq1 : Q + 6 ≤ 1000000000000 := by have := hQ.out; omega
        clear own' hown hll
        go_wp2
        go_roundw
        case rel => exact ⟨k + 1, Q + 1 + 1 + 1 + 1 + 1 + 1, by omega, by go_num, rfl, by have := hQ.out; unfold Hid; rw [this]; push_cast; omega, by omega, by omega, HO.out, grownBy_setCell (grownBy_setCell (grownBy_setCell (grownBy_setCell (grownBy_setCell (grownBy_setCell hgr _ _) _ _) _ _) _ _) _ _) _ _⟩
        case measure => simp [intOf]; omega
      · obtain rfl : k = xs.length := by omega
        go_wp2
        go_ret
        exact ⟨ri hQ.out, by simpa using hown, hgr⟩
set_option maxHeartbeats 2000000 in
theorem heldPacketS_any {v : Value} (m : Int) (n : Nat) (w : World) (hm0 : 0 ≤ m) (hm : m + 6 * n ≤ 1000000000000) (ha : FPacket.Sl w v (mksPacket m n)) :
    Calls Tryz.prog 49 #[v, .int .i64 m] w fun e w' => e = .returned (.int .i64 (m + 6 * n)) ∧ Below w.heap.size w w' := by
  have HA := Lib.hid (fun W (h : Below w.heap.size w W) => ha.below h)
  obtain ⟨a, ca, rfl, hca, hca', _⟩ := ha
  have hl := mksPacket_length m n
  rw [hl] at hca HA ⊢
  have HL := Lib.hid hl
  unfold maxLen at hca'
  clear hl
  go_enter Tryz.func49, Tryz.ntmps49
  go_wp2
  go_loopw [1, 5] (fun q i wr => ∃ (k : Nat) (Q : Int), k ≤ n ∧ i = .int .i64 k ∧ q = .int .i64 Q ∧ Hid (Q = m + 6 * (k : Int)) ∧ 0 ≤ Q ∧ Q ≤ 1000000000000 ∧ Below w.heap.size w wr) (fun _ i _ => n - (intOf i).toNat)
  case atStart => exact ⟨0, m, Nat.zero_le _, rfl, rfl, by simp [Hid], by omega, by omega, Below.refl _ _⟩
  case round =>
    obtain ⟨k, Q, hk, rfl, rfl, hQ, hQ0, hQ1, hbw⟩ := hrel
    by_cases hlt : k < n
    · obtain ⟨ba, oa, rfl, _, c0, c1, c2, c3, c4, c5⟩ := FPacket_at (HA.out _ hbw) (i := k) (by rw [HL.out]; exact hlt)
      have e := mksPacket_get m n hlt
      rw [← hQ.out] at e
      rw [e] at c0 c1 c2 c3 c4 c5
      simp only [mkPacket] at c0 c1 c2 c3 c4 c5
      have t0 : (((Q) % 3 == 0) != ((Q) % 3 == 0)) = false := by simp
      have t1 : (Q + 1 != Q + 1) = false := by simp
      have t2 : (Q + 1 + 1 != Q + 1 + 1) = false := by simp
      have t3 : (Q + 1 + 1 + 1 != Q + 1 + 1 + 1) = false := by simp
      have t4 : (((Q + 1 + 1 + 1 + 1) % 3 == 0) != ((Q + 1 + 1 + 1 + 1) % 3 == 0)) = false := by simp
      have t5 : (Q + 1 + 1 + 1 + 1 + 1 != Q + 1 + 1 + 1 + 1 + 1) = false := by simp
      have i1 : (k : Int) < (n : Int) := by omega
      have hq1 : Q + 6 ≤ 1000000000000 := by have := hQ.out; omega
      clear e
      go_wp2
      go_roundw
      case rel => exact ⟨k + 1, Q + 1 + 1 + 1 + 1 + 1 + 1, by omega, by go_num, rfl, by have := hQ.out; unfold Hid; rw [this]; push_cast; omega, by omega, by omega, hbw⟩
      case measure => simp [intOf]; omega
    · obtain rfl : k = n := by omega
      go_wp2
      go_ret
      exact ⟨ri hQ.out, hbw⟩
end Go.Proofs.YtofpelmplcoegaaGreat
