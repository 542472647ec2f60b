/-
  The reference's plant: a record is written. With it: Plants in a law: compared, marked, held. The reference's plant in memory: a run, what it is kept by.
-/
import Derived.Test.YtofpelmplcoegaaGreatZRowPlantAfter31
import Derived.Test.YtofpelmplcoegaaGreatZRowPlantAfter22
import Derived.Test.YtofpelmplcoegaaGreatZRowPlantAfter25
import Derived.Test.YtofpelmplcoegaaGreatZRowPlantAfter7
import Derived.Test.YtofpelmplcoegaaGreatZRowPlantAfter28
import Derived.Test.YtofpelmplcoegaaGreatZRowPlantAfter18
set_option linter.unusedVariables false
set_option linter.unusedSimpArgs false
namespace Go.Proofs.YtofpelmplcoegaaGreat
open Go.RowKit Go.Sort
/-- a plant's value, owned from a base on -/
structure PlO (w : World) (base : Nat) (S : PS) (vl vr ve vh vw vo : Value) : Prop where
  own : ∀ (i : Nat) (c : Ch), (parts S vl vr ve vh vw vo)[i]? = some c → w.ownsRow base c.E c.size c.v c.n c.xs
  sep : Sep (blk (parts S vl vr ve vh vw vo))
  len : S.r.length = S.l.length
/-- the plant's blocks -/
def PlBl (vl vr ve vh vw vo : Value) (k : Nat) : Prop := ∃ j : Nat, [vl.ownBlock, vr.ownBlock, ve.ownBlock, vh.ownBlock, vw.ownBlock, vo.ownBlock][j]? = some (some k)
theorem PlO.lt {w : World} {base : Nat} {S : PS} {vl vr ve vh vw vo : Value} (h : PlO w base S vl vr ve vh vw vo) : ∀ k, PlBl vl vr ve vh vw vo k → base ≤ k ∧ k < w.heap.size := by
  rintro k ⟨j, hj⟩
  have e : [vl.ownBlock, vr.ownBlock, ve.ownBlock, vh.ownBlock, vw.ownBlock, vo.ownBlock] = blk (parts S vl vr ve vh vw vo) := rfl
  rw [e, blk, List.getElem?_map] at hj
  cases hc : (parts S vl vr ve vh vw vo)[j]? with
  | none => rw [hc] at hj; simp at hj
  | some c => rw [hc] at hj; simp at hj; exact World.ownsRow.lt (h.own j c hc) k hj
theorem PlO.below {w w' : World} {base : Nat} {S : PS} {vl vr ve vh vw vo : Value} (h : PlO w base S vl vr ve vh vw vo) (hb : Below w.heap.size w w') : PlO w' base S vl vr ve vh vw vo :=
  ⟨fun i c hc => ownsRow_below (h.own i c hc) hb, h.sep, h.len⟩
theorem PlO.fs {T : Nat → Prop} {w w' : World} {base : Nat} {S : PS} {vl vr ve vh vw vo : Value} (h : PlO w base S vl vr ve vh vw vo) (hf : Fs T w w') (hT : ∀ k, T k → k < base) : PlO w' base S vl vr ve vh vw vo :=
  ⟨fun i c hc => ownsRow_fs (h.own i c hc) hf hT, h.sep, h.len⟩
theorem ownsRow_raise {w : World} {base m e size n : Nat} {v : Value} {xs : List Value} (h : w.ownsRow base e size v n xs) (hm : ∀ g, v.ownBlock = some g → m ≤ g) : w.ownsRow m e size v n xs := by
  refine ⟨h.1, ?_⟩
  rcases h.2 with h2 | ⟨g, cap, cur, h1, h2, h3, h4⟩
  · exact .inl h2
  · exact .inr ⟨g, cap, cur, h1, hm g (by rw [h1]; rfl), h3, h4⟩
theorem PlV.o {w : World} {base : Nat} {S : PS} {vl vr ve vh vw vo : Value} (h : PlV w (fun k => base ≤ k) S vl vr ve vh vw vo) : PlO w base S vl vr ve vh vw vo :=
  ⟨fun i c hc => ownsRow_raise (h.own i c hc) (fun g hg => h.inB i g (by rw [blk, List.getElem?_map, hc]; simp [hg])), h.sep, h.len⟩
def noS : PS := ⟨[], [], 0, [], 0, [], [], []⟩
theorem PlO.none (w : World) (base : Nat) : PlO w base noS (.slice none 0 0) (.slice none 0 0) (.slice none 0 0) (.slice none 0 0) (.slice none 0 0) (.slice none 0 0) := by
  refine ⟨fun i c hc => ?_, fun i j g hi hj => ?_, rfl⟩
  · match i, hc with
    | 0, hc => simp [parts, noS] at hc; subst hc; exact World.ownsRow_nil _ _ _ _
    | 1, hc => simp [parts, noS] at hc; subst hc; exact World.ownsRow_nil _ _ _ _
    | 2, hc => simp [parts, noS] at hc; subst hc; exact World.ownsRow_nil _ _ _ _
    | 3, hc => simp [parts, noS] at hc; subst hc; exact World.ownsRow_nil _ _ _ _
    | 4, hc => simp [parts, noS] at hc; subst hc; exact World.ownsRow_nil _ _ _ _
    | 5, hc => simp [parts, noS] at hc; subst hc; exact World.ownsRow_nil _ _ _ _
  · match i, hi with
    | 0, hi => simp [parts, blk, noS, Flat.ch, Value.ownBlock] at hi
    | 1, hi => simp [parts, blk, noS, Flat.ch, Value.ownBlock] at hi
    | 2, hi => simp [parts, blk, noS, Flat.ch, Value.ownBlock] at hi
    | 3, hi => simp [parts, blk, noS, Flat.ch, Value.ownBlock] at hi
    | 4, hi => simp [parts, blk, noS, Flat.ch, Value.ownBlock] at hi
    | 5, hi => simp [parts, blk, noS, Flat.ch, Value.ownBlock] at hi
theorem PlO.rd {w : World} {base : Nat} {S : PS} {vl vr ve vh vw vo : Value} (h : PlO w base S vl vr ve vh vw vo) : PlRd w S vl vr ve vh vw vo := by
  have h0 : FI.Own w base vl S.l := h.own 0 _ rfl
  have h1 : FI.Own w base vr S.r := h.own 1 _ rfl
  have h2 : FRecord.Own w base ve S.recs := h.own 2 _ rfl
  have h3 : FHand.Own w base vh S.hands := h.own 3 _ rfl
  have h4 : FPacket.Own w base vw S.wire := h.own 4 _ rfl
  have h5 : FI.Own w base vo S.out := h.own 5 _ rfl
  rw [FI_own] at h0 h1 h5
  exact ⟨h0.sl, h1.sl, h2.sl, h3.sl, h4.sl, h5.sl⟩
theorem PlO.ne {w : World} {base : Nat} {S : PS} {vl vr ve vh vw vo : Value} (h : PlO w base S vl vr ve vh vw vo) {i j : Nat} (hij : i ≠ j) {c d : Ch} (hc : (parts S vl vr ve vh vw vo)[i]? = some c) (hd : (parts S vl vr ve vh vw vo)[j]? = some d) {g : Nat} (hg : c.v.ownBlock = some g) : d.v.ownBlock ≠ some g := by
  intro e
  exact hij (h.sep i j g (by rw [blk, List.getElem?_map, hc]; simp [hg]) (by rw [blk, List.getElem?_map, hd]; simp [e]))
/-- one part is written: the others stay -/
theorem PlO.part {w w2 : World} {base : Nat} {S S' : PS} {vl vr ve vh vw vo : Value} (h : PlO w base S vl vr ve vh vw vo) (i : Nat) {c c' : Ch} (hc : (parts S vl vr ve vh vw vo)[i]? = some c) (hp : parts S' vl vr ve vh vw vo = (parts S vl vr ve vh vw vo).set i c') (hv : c'.v = c.v) (g : w.grownBy w2 c.v.ownBlock) (ho : w2.ownsRow base c'.E c'.size c'.v c'.n c'.xs) (hl : S'.r.length = S'.l.length) : PlO w2 base S' vl vr ve vh vw vo := by
  have hil : i < (parts S vl vr ve vh vw vo).length := (List.getElem?_eq_some_iff.1 hc).1
  refine ⟨fun j d hd => ?_, ?_, hl⟩
  · rw [hp] at hd
    by_cases e : i = j
    · subst e
      rw [List.getElem?_set_self hil] at hd
      simp at hd; subst hd; exact ho
    · rw [List.getElem?_set_ne e] at hd
      refine World.ownsRow.kept (h.own j d hd) g ?_
      cases hb : d.v.ownBlock with
      | none => exact .inl rfl
      | some x => exact .inr (fun e2 => h.ne (Ne.symm e) hd hc hb e2.symm)
  · have e : blk (parts S' vl vr ve vh vw vo) = blk (parts S vl vr ve vh vw vo) := rfl
    rw [e]; exact h.sep
theorem PlO.desk {w : World} {base : Nat} {S : PS} {vl vr ve vh vw vo : Value} (h : PlO w base S vl vr ve vh vw vo) : DeskO w base vl vr S.l S.r := by
  have h0 : FI.Own w base vl S.l := h.own 0 _ rfl
  have h1 : FI.Own w base vr S.r := h.own 1 _ rfl
  rw [FI_own] at h0 h1
  exact ⟨h0, h1, h.len, fun g hg => h.ne (i := 0) (j := 1) (by decide) rfl rfl hg⟩
theorem ownsRow_off {T : Nat → Prop} {w w' : World} {base e size n : Nat} {v : Value} {xs : List Value} (h : w.ownsRow base e size v n xs) (hf : Fs T w w') (hT : ∀ g, v.ownBlock = some g → ¬ T g) : w'.ownsRow base e size v n xs := by
  refine ⟨h.1, ?_⟩
  rcases h.2 with h2 | ⟨g, cap, cur, h1, h2, h3, h4⟩
  · exact .inl h2
  · refine .inr ⟨g, cap, cur, h1, h2, ?_, h4⟩
    rw [hf.block g (Array.getElem?_eq_some_iff.1 h3).1 (hT g (by rw [h1]; rfl))]; exact h3
theorem PlO.desk2 {w w2 : World} {base : Nat} {S : PS} {l r : List Int} {vl vr ve vh vw vo : Value} (h : PlO w base S vl vr ve vh vw vo) (hd : DeskO w2 base vl vr l r) (f : Fs (In2 vl vr) w w2) : PlO w2 base { S with l := l, r := r } vl vr ve vh vw vo := by
  have off : ∀ (i : Nat) (c : Ch), 2 ≤ i → (parts S vl vr ve vh vw vo)[i]? = some c → w2.ownsRow base c.E c.size c.v c.n c.xs := fun i c hi hc =>
    ownsRow_off (h.own i c hc) f (fun g hg hx => by
      rcases hx with hx | hx
      · exact h.ne (i := i) (j := 0) (by omega) hc rfl hg hx
      · exact h.ne (i := i) (j := 1) (by omega) hc rfl hg hx)
  refine ⟨fun i c hc => ?_, h.sep, hd.2.2.1⟩
  match i, hc with
  | 0, hc => simp [parts] at hc; subst hc; have h0 := hd.1; rw [← FI_own] at h0; exact h0
  | 1, hc => simp [parts] at hc; subst hc; have h0 := hd.2.1; rw [← FI_own] at h0; exact h0
  | 2, hc => exact off 2 c (by decide) hc
  | 3, hc => exact off 3 c (by decide) hc
  | 4, hc => exact off 4 c (by decide) hc
  | 5, hc => exact off 5 c (by decide) hc
  | i + 6, hc => simp [parts] at hc
/-- how many marks a plant takes -/
def plN (S : PS) : Int := S.l.length + S.r.length + 3 * S.recs.length + 3 * S.hands.length + 6 * S.wire.length + S.out.length
def plM (m : Int) (S : PS) : PS :=
  { S with
    l := ramp m S.l.length, r := ramp (m + S.l.length) S.r.length, recs := mksRecord (m + S.l.length + S.r.length) S.recs.length,
    hands := mksHand (m + S.l.length + S.r.length + 3 * S.recs.length) S.hands.length,
    wire := mksPacket (m + S.l.length + S.r.length + 3 * S.recs.length + 3 * S.hands.length) S.wire.length,
    out := ramp (m + S.l.length + S.r.length + 3 * S.recs.length + 3 * S.hands.length + 6 * S.wire.length) S.out.length }

set_option maxRecDepth 100000 in
set_option maxHeartbeats 4000000 in
theorem eqPlant_refl {S : PS} {vl vr ve vh vw vo ul ur ue uh uw uo : Value} (w : World) (A : PlRd w S vl vr ve vh vw vo) (B : PlRd w S ul ur ue uh uw uo) :
    Calls Tryz.prog 11 #[plV S vl vr ve vh vw vo, plV S ul ur ue uh uw uo] w fun e w' => e = .returned (.bool true) ∧ Below w.heap.size w w' := by
  have HA := Lib.hid (fun W (h : Below w.heap.size w W) => A.below h)
  have HB := Lib.hid (fun W (h : Below w.heap.size w W) => B.below h)
  obtain ⟨al, al', ar, ar', ae, ae', ah, ah', aw, aw', ao, ao', rfl, rfl, rfl, rfl, rfl, rfl⟩ := A.form
  obtain ⟨bl, bl', br, br', be, be', bh, bh', bw, bw', bo, bo', rfl, rfl, rfl, rfl, rfl, rfl⟩ := B.form
  generalize S.l.length = LL at HA HB ⊢
  generalize S.r.length = LR at HA HB ⊢
  generalize S.recs.length = LE at HA HB ⊢
  generalize S.hands.length = LH at HA HB ⊢
  generalize S.wire.length = LW at HA HB ⊢
  generalize S.out.length = LO at HA HB ⊢
  unfold plV
  obtain ⟨q, hq⟩ : ∃ q, q = S.q := ⟨_, rfl⟩
  obtain ⟨y, hy⟩ : ∃ y, y = S.sy := ⟨_, rfl⟩
  rw [← hq, ← hy]
  obtain ⟨W2, hW2⟩ : ∃ W2, W2 = (w.alloc (.cells #[.slice al LL al', .slice ar LR ar', .int .i64 q, .slice ae LE ae', .int .i64 y, .slice ah LH ah', .slice aw LW aw', .slice ao LO ao'] 37)).alloc (.cells #[.slice bl LL bl', .slice br LR br', .int .i64 q, .slice be LE be', .int .i64 y, .slice bh LH bh', .slice bw LW bw', .slice bo LO bo'] 37) := ⟨_, rfl⟩
  have b2 : Below w.heap.size w W2 := by rw [hW2]; exact ((Below.refl _ _).alloc (Nat.le_refl _) _).alloc (by simp) _
  have K1 := Lib.hid (show CellsAt W2 w.heap.size [.slice al LL al', .slice ar LR ar', .int .i64 q, .slice ae LE ae', .int .i64 y, .slice ah LH ah', .slice aw LW aw', .slice ao LO ao'] by
    rw [hW2]
    exact (CellsAt.new w [.slice al LL al', .slice ar LR ar', .int .i64 q, .slice ae LE ae', .int .i64 y, .slice ah LH ah', .slice aw LW aw', .slice ao LO ao'] 37).below ((Below.refl _ _).alloc (Nat.le_refl _) _))
  have K2 := Lib.hid (show CellsAt W2 (w.heap.size + 1) [.slice bl LL bl', .slice br LR br', .int .i64 q, .slice be LE be', .int .i64 y, .slice bh LH bh', .slice bw LW bw', .slice bo LO bo'] by
    rw [hW2]
    exact CellsAt.new' _ [.slice bl LL bl', .slice br LR br', .int .i64 q, .slice be LE be', .int .i64 y, .slice bh LH bh', .slice bw LW bw', .slice bo LO bo'] 37 (by simp))
  have B2 := Lib.hid b2
  have HW2 := Lib.hid hW2.symm
  have n2 : ((y : Int) != (y : Int)) = false := by simp
  clear A B b2 hW2 hq hy
  go_enter Tryz.func11, Tryz.ntmps11
  go_upto_region 1 with (fail)
  rw [HW2.out]
  have c0 := K1.out.get 0 _ rfl
  have c1 := K1.out.get 1 _ rfl
  have c2 := K1.out.get 2 _ rfl
  have d0 := K2.out.get 0 _ rfl
  have d1 := K2.out.get 1 _ rfl
  have d2 := K2.out.get 2 _ rfl
  go_wp2_with fail
  refine (eqDesk_refl q W2 (HA.out _ B2.out).fl (HA.out _ B2.out).fr (HB.out _ B2.out).fl (HB.out _ B2.out).fr).mono ?_
  rintro e w3 ⟨rfl, b3⟩
  have C3 := Lib.hid b3
  have B3 := Lib.hid (B2.out.trans (b3.mono B2.out.size))
  clear b3 c0 c1 c2 d0 d1 d2
  have c3 := (K1.out.below C3.out).get 3 _ rfl
  have d3 := (K2.out.below C3.out).get 3 _ rfl
  go_wp2_with fail
  refine (eqRecordS_refl w3 (HA.out _ B3.out).fe (HB.out _ B3.out).fe).mono ?_
  rintro e w4 ⟨rfl, b4⟩
  have C4 := Lib.hid (C3.out.trans (b4.mono C3.out.size))
  have B4 := Lib.hid (B3.out.trans (b4.mono B3.out.size))
  clear b4 c3 d3
  have c4 := (K1.out.below C4.out).get 4 _ rfl
  have d4 := (K2.out.below C4.out).get 4 _ rfl
  have c5 := (K1.out.below C4.out).get 5 _ rfl
  have d5 := (K2.out.below C4.out).get 5 _ rfl
  go_wp2_with fail
  refine (eqHandS_refl w4 (HA.out _ B4.out).fh (HB.out _ B4.out).fh).mono ?_
  rintro e w5 ⟨rfl, b5⟩
  have C5 := Lib.hid (C4.out.trans (b5.mono C4.out.size))
  have B5 := Lib.hid (B4.out.trans (b5.mono B4.out.size))
  clear b5 c4 d4 c5 d5
  have c6 := (K1.out.below C5.out).get 6 _ rfl
  have d6 := (K2.out.below C5.out).get 6 _ rfl
  go_wp2_with fail
  refine (eqPacketS_refl w5 (HA.out _ B5.out).fw (HB.out _ B5.out).fw).mono ?_
  rintro e w6 ⟨rfl, b6⟩
  have C6 := Lib.hid (C5.out.trans (b6.mono C5.out.size))
  have B6 := Lib.hid (B5.out.trans (b6.mono B5.out.size))
  clear b6 c6 d6
  have c7 := (K1.out.below C6.out).get 7 _ rfl
  have d7 := (K2.out.below C6.out).get 7 _ rfl
  go_wp2_with fail
  refine (eqInt64S_refl w6 (HA.out _ B6.out).fo (HB.out _ B6.out).fo).mono ?_
  rintro e w7 ⟨rfl, b7⟩
  go_wp2
  go_ret
  exact ⟨rfl, B6.out.trans (b7.mono B6.out.size)⟩

set_option maxRecDepth 100000 in
set_option maxHeartbeats 4000000 in
theorem markPlant_any {S : PS} {vl vr ve vh vw vo : Value} (m : Int) (base : Nat) (w : World) (hm0 : 0 ≤ m) (hm : m + plN S ≤ 1000000000) (P : PlO w base S vl vr ve vh vw vo) :
    Calls Tryz.prog 16 #[plV S vl vr ve vh vw vo, .int .i64 m] w fun e w' => e = .returned (.int .i64 (m + plN S)) ∧ PlO w' base (plM m S) vl vr ve vh vw vo ∧ Fs (PlBl vl vr ve vh vw vo) w w' := by
  have hlt := P.lt
  obtain ⟨al, al', ar, ar', ae, ae', ah, ah', aw, aw', ao, ao', rfl, rfl, rfl, rfl, rfl, rfl⟩ := P.rd.form
  unfold plN at hm ⊢
  unfold plV
  obtain ⟨W1, hW1⟩ : ∃ W1, W1 = w.alloc (.cells #[.slice al S.l.length al', .slice ar S.r.length ar', .int .i64 S.q, .slice ae S.recs.length ae', .int .i64 S.sy, .slice ah S.hands.length ah', .slice aw S.wire.length aw', .slice ao S.out.length ao'] 37) := ⟨_, rfl⟩
  have b1 : Below w.heap.size w W1 := by rw [hW1]; exact (Below.refl _ _).alloc (Nat.le_refl _) _
  have K := Lib.hid (show CellsAt W1 w.heap.size [.slice al S.l.length al', .slice ar S.r.length ar', .int .i64 S.q, .slice ae S.recs.length ae', .int .i64 S.sy, .slice ah S.hands.length ah', .slice aw S.wire.length aw', .slice ao S.out.length ao'] by rw [hW1]; exact CellsAt.new w [.slice al S.l.length al', .slice ar S.r.length ar', .int .i64 S.q, .slice ae S.recs.length ae', .int .i64 S.sy, .slice ah S.hands.length ah', .slice aw S.wire.length aw', .slice ao S.out.length ao'] 37)
  have P1 := Lib.hid (P.below b1)
  have F1 := Lib.hid (Fs.of_below (S := PlBl (.slice al S.l.length al') (.slice ar S.r.length ar') (.slice ae S.recs.length ae') (.slice ah S.hands.length ah') (.slice aw S.wire.length aw') (.slice ao S.out.length ao')) b1)
  have hnb : ¬ PlBl (.slice al S.l.length al') (.slice ar S.r.length ar') (.slice ae S.recs.length ae') (.slice ah S.hands.length ah') (.slice aw S.wire.length aw') (.slice ao S.out.length ao') w.heap.size := fun h => Nat.lt_irrefl _ (hlt _ h).2
  have HW1 := Lib.hid hW1.symm
  have HNB := Lib.hid hnb
  have HLEN := Lib.hid P.len
  clear P b1 hW1 hlt hnb
  go_enter Tryz.func16, Tryz.ntmps16
  go_upto_region 1 with (fail)
  rw [HW1.out]
  have c0 := K.out.get 0 _ rfl
  have c1 := K.out.get 1 _ rfl
  have c2 := K.out.get 2 _ rfl
  go_wp2_with fail
  refine (markDesk_any S.q m base W1 hm0 (by omega) P1.out.desk).mono ?_
  rintro e w2 ⟨rfl, o2, f2⟩
  have g2 := Fs.of_fr f2
  have P2 := Lib.hid (P1.out.desk2 o2 g2)
  have G2 : Fs (PlBl (.slice al S.l.length al') (.slice ar S.r.length ar') (.slice ae S.recs.length ae') (.slice ah S.hands.length ah') (.slice aw S.wire.length aw') (.slice ao S.out.length ao')) W1 w2 := g2.mono (fun k hk => hk.elim (fun h => ⟨0, by simp [h]⟩) (fun h => ⟨1, by simp [h]⟩))
  have K2 := Lib.hid (K.out.fs G2 HNB.out)
  have F2 := Lib.hid (F1.out.trans G2)
  clear o2 f2 g2 G2 c0 c1 c2
  have c3 := K2.out.get 3 _ rfl
  go_wp2_with fail
  refine (markRecordS_any (xs := S.recs) (m + S.l.length + S.r.length) base w2 (by omega) (by omega) (P2.out.own 2 _ rfl)).mono ?_
  rintro e w3 ⟨rfl, o3, g3⟩
  have P3 := Lib.hid (P2.out.part (S' := { S with l := ramp m S.l.length, r := ramp (m + S.l.length) S.r.length, recs := mksRecord (m + S.l.length + S.r.length) S.recs.length }) 2 (c' := FRecord.ch (.slice ae S.recs.length ae') (mksRecord (m + S.l.length + S.r.length) S.recs.length)) rfl rfl rfl g3 (by have := o3; unfold Flat.Own at this; simpa [Flat.ch, mksRecord_length] using this) P2.out.len)
  have G3 := Fs.of_grown (S := PlBl (.slice al S.l.length al') (.slice ar S.r.length ar') (.slice ae S.recs.length ae') (.slice ah S.hands.length ah') (.slice aw S.wire.length aw') (.slice ao S.out.length ao')) g3 (fun g hg => ⟨2, congrArg some hg⟩)
  have K3 := Lib.hid (K2.out.fs G3 HNB.out)
  have F3 := Lib.hid (F2.out.trans G3)
  clear o3 g3 G3 c3
  have c5 := K3.out.get 5 _ rfl
  go_wp2_with fail
  refine (markHandS_any (xs := S.hands) (m + S.l.length + S.r.length + 3 * S.recs.length) base w3 (by omega) (by omega) (P3.out.own 3 _ rfl)).mono ?_
  rintro e w4 ⟨rfl, o4, g4⟩
  have P4 := Lib.hid (P3.out.part (S' := { S with l := ramp m S.l.length, r := ramp (m + S.l.length) S.r.length, recs := mksRecord (m + S.l.length + S.r.length) S.recs.length, hands := mksHand (m + S.l.length + S.r.length + 3 * S.recs.length) S.hands.length }) 3 (c' := FHand.ch (.slice ah S.hands.length ah') (mksHand (m + S.l.length + S.r.length + 3 * S.recs.length) S.hands.length)) rfl rfl rfl g4 (by have := o4; unfold Flat.Own at this; simpa [Flat.ch, mksHand_length] using this) P3.out.len)
  have G4 := Fs.of_grown (S := PlBl (.slice al S.l.length al') (.slice ar S.r.length ar') (.slice ae S.recs.length ae') (.slice ah S.hands.length ah') (.slice aw S.wire.length aw') (.slice ao S.out.length ao')) g4 (fun g hg => ⟨3, congrArg some hg⟩)
  have K4 := Lib.hid (K3.out.fs G4 HNB.out)
  have F4 := Lib.hid (F3.out.trans G4)
  clear o4 g4 G4 c5
  have c6 := K4.out.get 6 _ rfl
  go_wp2_with fail
  refine (markPacketS_any (xs := S.wire) (m + S.l.length + S.r.length + 3 * S.recs.length + 3 * S.hands.length) base w4 (by omega) (by omega) (P4.out.own 4 _ rfl)).mono ?_
  rintro e w5 ⟨rfl, o5, g5⟩
  have P5 := Lib.hid (P4.out.part (S' := { S with l := ramp m S.l.length, r := ramp (m + S.l.length) S.r.length, recs := mksRecord (m + S.l.length + S.r.length) S.recs.length, hands := mksHand (m + S.l.length + S.r.length + 3 * S.recs.length) S.hands.length, wire := mksPacket (m + S.l.length + S.r.length + 3 * S.recs.length + 3 * S.hands.length) S.wire.length }) 4 (c' := FPacket.ch (.slice aw S.wire.length aw') (mksPacket (m + S.l.length + S.r.length + 3 * S.recs.length + 3 * S.hands.length) S.wire.length)) rfl rfl rfl g5 (by have := o5; unfold Flat.Own at this; simpa [Flat.ch, mksPacket_length] using this) P4.out.len)
  have G5 := Fs.of_grown (S := PlBl (.slice al S.l.length al') (.slice ar S.r.length ar') (.slice ae S.recs.length ae') (.slice ah S.hands.length ah') (.slice aw S.wire.length aw') (.slice ao S.out.length ao')) g5 (fun g hg => ⟨4, congrArg some hg⟩)
  have K5 := Lib.hid (K4.out.fs G5 HNB.out)
  have F5 := Lib.hid (F4.out.trans G5)
  clear o5 g5 G5 c6
  have c7 := K5.out.get 7 _ rfl
  have h7 : FI.Own w5 base (.slice ao S.out.length ao') S.out := P5.out.own 5 _ rfl
  rw [FI_own] at h7
  have H7 := Lib.hid h7
  clear h7
  go_wp2_with fail
  refine (markInt64S_any (xs := S.out) (m + S.l.length + S.r.length + 3 * S.recs.length + 3 * S.hands.length + 6 * S.wire.length) base w5 (by omega) (by omega) H7.out).mono ?_
  rintro e w6 ⟨rfl, o6, g6⟩
  rw [← FI_own] at o6
  have P6 := Lib.hid (P5.out.part (S' := plM m S) 5 (c' := FI.ch (.slice ao S.out.length ao') (ramp (m + S.l.length + S.r.length + 3 * S.recs.length + 3 * S.hands.length + 6 * S.wire.length) S.out.length)) rfl rfl rfl g6 (by have := o6; unfold Flat.Own at this; simpa [Flat.ch, ramp_length] using this) P5.out.len)
  have G6 := Fs.of_grown (S := PlBl (.slice al S.l.length al') (.slice ar S.r.length ar') (.slice ae S.recs.length ae') (.slice ah S.hands.length ah') (.slice aw S.wire.length aw') (.slice ao S.out.length ao')) g6 (fun g hg => ⟨5, congrArg some hg⟩)
  have F6 := Lib.hid (F5.out.trans G6)
  clear o6 g6 G6 c7
  go_wp2
  go_ret
  exact ⟨ri (by omega), P6.out, F6.out⟩

set_option maxRecDepth 100000 in
set_option maxHeartbeats 4000000 in
theorem heldPlant_any {S : PS} {vl vr ve vh vw vo : Value} (m : Int) (w : World) (hm0 : 0 ≤ m) (hm : m + plN S ≤ 1000000000) (A : PlRd w (plM m S) vl vr ve vh vw vo) :
    Calls Tryz.prog 17 #[plV S vl vr ve vh vw vo, .int .i64 m] w fun e w' => e = .returned (.int .i64 (m + plN S)) ∧ Below w.heap.size w w' := by
  have HA := Lib.hid (fun W (h : Below w.heap.size w W) => A.below h)
  obtain ⟨al, al', ar, ar', ae, ae', ah, ah', aw, aw', ao, ao', rfl, rfl, rfl, rfl, rfl, rfl⟩ := A.form
  have hl0 : (plM m S).l.length = S.l.length := by simp [plM, ramp_length]
  have hl1 : (plM m S).r.length = S.r.length := by simp [plM, ramp_length]
  have hl2 : (plM m S).recs.length = S.recs.length := by simp [plM, mksRecord_length]
  have hl3 : (plM m S).hands.length = S.hands.length := by simp [plM, mksHand_length]
  have hl4 : (plM m S).wire.length = S.wire.length := by simp [plM, mksPacket_length]
  have hl5 : (plM m S).out.length = S.out.length := by simp [plM, ramp_length]
  rw [hl0, hl1, hl2, hl3, hl4, hl5] at HA ⊢
  unfold plN at hm ⊢
  unfold plV
  obtain ⟨W1, hW1⟩ : ∃ W1, W1 = w.alloc (.cells #[.slice al S.l.length al', .slice ar S.r.length ar', .int .i64 S.q, .slice ae S.recs.length ae', .int .i64 S.sy, .slice ah S.hands.length ah', .slice aw S.wire.length aw', .slice ao S.out.length ao'] 37) := ⟨_, rfl⟩
  have b1 : Below w.heap.size w W1 := by rw [hW1]; exact (Below.refl _ _).alloc (Nat.le_refl _) _
  have K := Lib.hid (show CellsAt W1 w.heap.size [.slice al S.l.length al', .slice ar S.r.length ar', .int .i64 S.q, .slice ae S.recs.length ae', .int .i64 S.sy, .slice ah S.hands.length ah', .slice aw S.wire.length aw', .slice ao S.out.length ao'] by rw [hW1]; exact CellsAt.new w [.slice al S.l.length al', .slice ar S.r.length ar', .int .i64 S.q, .slice ae S.recs.length ae', .int .i64 S.sy, .slice ah S.hands.length ah', .slice aw S.wire.length aw', .slice ao S.out.length ao'] 37)
  have HB1 := Lib.hid b1
  have HW1 := Lib.hid hW1.symm
  clear A b1 hW1 hl0 hl1 hl2 hl3 hl4 hl5
  go_enter Tryz.func17, Tryz.ntmps17
  go_upto_region 1 with (fail)
  rw [HW1.out]
  have c0 := K.out.get 0 _ rfl
  have c1 := K.out.get 1 _ rfl
  have c2 := K.out.get 2 _ rfl
  go_wp2_with fail
  refine (heldDesk_any (n := S.l.length) (k := S.r.length) S.q m W1 hm0 (by omega) (HA.out _ HB1.out).fl (HA.out _ HB1.out).fr).mono ?_
  rintro e w2 ⟨rfl, b2⟩
  have C2 := Lib.hid b2
  have HB2 := Lib.hid (HB1.out.trans (b2.mono HB1.out.size))
  have x2 : ¬ m + (S.l.length : Int) + (S.r.length : Int) < 0 := by omega
  clear b2 c0 c1 c2
  have c3 := (K.out.below C2.out).get 3 _ rfl
  go_wp2_with fail
  refine (heldRecordS_any (m + S.l.length + S.r.length) S.recs.length w2 (by omega) (by omega) (HA.out _ HB2.out).fe).mono ?_
  rintro e w3 ⟨rfl, b3⟩
  have C3 := Lib.hid (C2.out.trans (b3.mono C2.out.size))
  have HB3 := Lib.hid (HB2.out.trans (b3.mono HB2.out.size))
  have x3 : ¬ m + (S.l.length : Int) + (S.r.length : Int) + 3 * (S.recs.length : Int) < 0 := by omega
  clear b3 c3
  have c5 := (K.out.below C3.out).get 5 _ rfl
  go_wp2_with fail
  refine (heldHandS_any (m + S.l.length + S.r.length + 3 * S.recs.length) S.hands.length w3 (by omega) (by omega) (HA.out _ HB3.out).fh).mono ?_
  rintro e w4 ⟨rfl, b4⟩
  have C4 := Lib.hid (C3.out.trans (b4.mono C3.out.size))
  have HB4 := Lib.hid (HB3.out.trans (b4.mono HB3.out.size))
  have x4 : ¬ m + (S.l.length : Int) + (S.r.length : Int) + 3 * (S.recs.length : Int) + 3 * (S.hands.length : Int) < 0 := by omega
  clear b4 c5
  have c6 := (K.out.below C4.out).get 6 _ rfl
  go_wp2_with fail
  refine (heldPacketS_any (m + S.l.length + S.r.length + 3 * S.recs.length + 3 * S.hands.length) S.wire.length w4 (by omega) (by omega) (HA.out _ HB4.out).fw).mono ?_
  rintro e w5 ⟨rfl, b5⟩
  have C5 := Lib.hid (C4.out.trans (b5.mono C4.out.size))
  have HB5 := Lib.hid (HB4.out.trans (b5.mono HB4.out.size))
  have x5 : ¬ m + (S.l.length : Int) + (S.r.length : Int) + 3 * (S.recs.length : Int) + 3 * (S.hands.length : Int) + 6 * (S.wire.length : Int) < 0 := by omega
  clear b5 c6
  have c7 := (K.out.below C5.out).get 7 _ rfl
  go_wp2_with fail
  refine (heldInt64S_any (m + S.l.length + S.r.length + 3 * S.recs.length + 3 * S.hands.length + 6 * S.wire.length) S.out.length w5 (by omega) (by omega) (HA.out _ HB5.out).fo).mono ?_
  rintro e w6 ⟨rfl, b6⟩
  have C6 := Lib.hid (C5.out.trans (b6.mono C5.out.size))
  have HB6 := Lib.hid (HB5.out.trans (b6.mono HB5.out.size))
  have x6 : ¬ m + (S.l.length : Int) + (S.r.length : Int) + 3 * (S.recs.length : Int) + 3 * (S.hands.length : Int) + 6 * (S.wire.length : Int) + (S.out.length : Int) < 0 := by omega
  clear b6 c7
  go_wp2
  go_ret
  exact ⟨ri (by omega), HB6.out⟩
end Go.Proofs.YtofpelmplcoegaaGreat
namespace Go.Proofs.YtofpelmplcoegaaGreat
open Go.RowKit Go.Sort
/-- a run: a pointer to its service, and a plant behind it -/
structure RunIs (w : World) (b sb : Nat) (B : Nat → Prop) (S : PS) (vl vr ve vh vw vo : Value) : Prop extends PlIs w b 1 B S vl vr ve vh vw vo where
  c0 : w.cell? ⟨b, 0, none⟩ = some (.pointer (some ⟨sb, 0, none⟩))
theorem RunIs.below {w w' : World} {b sb : Nat} {B : Nat → Prop} {S : PS} {vl vr ve vh vw vo : Value} (h : RunIs w b sb B S vl vr ve vh vw vo) (hb : Below w.heap.size w w') : RunIs w' b sb B S vl vr ve vh vw vo :=
  ⟨h.toPlIs.below hb, by rw [hb.cell (p := ⟨b, 0, none⟩) h.hold.lt]; exact h.c0⟩
theorem RunIs.mono {w : World} {b sb : Nat} {B B' : Nat → Prop} {S : PS} {vl vr ve vh vw vo : Value} (h : RunIs w b sb B S vl vr ve vh vw vo) (hB : ∀ k, B k → B' k) : RunIs w b sb B' S vl vr ve vh vw vo := ⟨h.toPlIs.mono hB, h.c0⟩
theorem RunIs.fs {T : Nat → Prop} {w w' : World} {b sb : Nat} {B : Nat → Prop} {S : PS} {vl vr ve vh vw vo : Value} (h : RunIs w b sb B S vl vr ve vh vw vo) (hf : Fs T w w') (hT : ∀ k, B k → ¬ T k) : RunIs w' b sb B S vl vr ve vh vw vo :=
  ⟨h.toPlIs.fs hf hT, by rw [hf.cell (p := ⟨b, 0, none⟩) h.hold.lt (hT b (h.inB 0 b rfl))]; exact h.c0⟩
theorem RunIs.get {w : World} {b sb : Nat} {B : Nat → Prop} {S : PS} {vl vr ve vh vw vo : Value} (h : RunIs w b sb B S vl vr ve vh vw vo) : (w.cell? ⟨b, 0, none⟩ = some (.pointer (some ⟨sb, 0, none⟩)) ∧ w.cell? ⟨b, 1, none⟩ = some vl ∧ w.cell? ⟨b, 2, none⟩ = some vr ∧ w.cell? ⟨b, 3, none⟩ = some (.int .i64 S.q) ∧ w.cell? ⟨b, 4, none⟩ = some ve) ∧ w.cell? ⟨b, 5, none⟩ = some (.int .i64 S.sy) ∧ w.cell? ⟨b, 6, none⟩ = some vh ∧ w.cell? ⟨b, 7, none⟩ = some vw ∧ w.cell? ⟨b, 8, none⟩ = some vo :=
  ⟨⟨h.c0, h.box 0 _ rfl, h.box 1 _ rfl, h.box 2 _ rfl, h.box 3 _ rfl⟩, h.box 4 _ rfl, h.box 5 _ rfl, h.box 6 _ rfl, h.box 7 _ rfl⟩
theorem RunIs.part0 {w w2 : World} {b sb : Nat} {B : Nat → Prop} {S S' : PS} {vl vr ve vh vw vo : Value} (P : RunIs w b sb B S vl vr ve vh vw vo) (ci : Nat) {c c' : Ch} (hc : (parts S vl vr ve vh vw vo)[ci]? = some c) (hp : parts S' vl vr ve vh vw vo = (parts S vl vr ve vh vw vo).set ci c') (hs : slots S' vl vr ve vh vw vo = slots S vl vr ve vh vw vo)
    (g : w.grownBy w2 c.v.ownBlock) (ho : c'.own w2) (hv : c'.v = c.v) (hl : S'.r.length = S'.l.length) (hpos : 0 < S'.l.length) : RunIs w2 b sb B S' vl vr ve vh vw vo :=
  ⟨P.toPlIs.part0 ci hc hp hs g ho hv hl hpos, by rw [(grown_at g P.hold.lt (P.hold.ne_box hc) 0).1]; exact P.c0⟩
theorem RunIs.part {w w2 : World} {b sb : Nat} {B : Nat → Prop} {S S' : PS} {vl vr ve vh vw vo vl' vr' ve' vh' vw' vo' : Value} (P : RunIs w b sb B S vl vr ve vh vw vo) (ci si : Nat) {c c' : Ch} (hc : (parts S vl vr ve vh vw vo)[ci]? = some c) (hp : parts S' vl' vr' ve' vh' vw' vo' = (parts S vl vr ve vh vw vo).set ci c') (hs : slots S' vl' vr' ve' vh' vw' vo' = (slots S vl vr ve vh vw vo).set si c'.v) (hsi : si < 8)
    (g : w.grownBy w2 c.v.ownBlock) (ho : c'.own w2) {m : Nat} (hm : m ≤ w.heap.size) (hat : ∀ x, c'.v.ownBlock = some x → c.v.ownBlock = some x ∨ w.heap.size ≤ x) (hl : S'.r.length = S'.l.length) (hpos : 0 < S'.l.length) :
    RunIs (w2.setCell ⟨b, 1 + si, none⟩ c'.v) b sb (Bm B m) S' vl' vr' ve' vh' vw' vo' :=
  ⟨P.toPlIs.part ci si hc hp hs hsi g ho hm hat hl hpos, by
    have h := P.c0
    rw [← (grown_at g P.hold.lt (P.hold.ne_box hc) 0).1] at h
    have e : ¬ 1 + si = 0 := by omega
    have e2 : ¬ 0 = 1 + si := by omega
    simp [go_sem, h, e, e2]⟩
theorem RunIs.number {w : World} {b sb : Nat} {B : Nat → Prop} {S : PS} {vl vr ve vh vw vo : Value} (P : RunIs w b sb B S vl vr ve vh vw vo) (k : Nat) : RunIs (w.setCell ⟨b, 1 + 4, none⟩ (.int .i64 k)) b sb B { S with sy := k } vl vr ve vh vw vo :=
  ⟨P.toPlIs.number k, by have h := P.c0; simp [go_sem, h]⟩
theorem RunIs.newDesk {w w3 : World} {b sb : Nat} {B : Nat → Prop} {S : PS} {vl vr ve vh vw vo vl' vr' : Value} {l r : List Int} (q : Int) (P : RunIs w b sb B S vl vr ve vh vw vo) (hb : Below w.heap.size w w3) (hd : DeskO w3 w.heap.size vl' vr' l r) (hp : 0 < l.length) :
    RunIs (((w3.setCell ⟨b, 1 + 0, none⟩ vl').setCell ⟨b, 1 + 1, none⟩ vr').setCell ⟨b, 1 + 2, none⟩ (.int .i64 q)) b sb (Bm B w.heap.size) { S with l := l, r := r, q := q } vl' vr' ve vh vw vo :=
  ⟨P.toPlIs.newDesk q hb hd hp, by have h := (P.below hb).c0; simp [go_sem, h]⟩
theorem PlIs.deskO {w : World} {b o : Nat} {B : Nat → Prop} {S : PS} {gl cl gr cr : Nat} {ve vh vw vo : Value} (h : PlIs w b o B S (.slice (some ⟨gl, 0, none⟩) S.l.length cl) (.slice (some ⟨gr, 0, none⟩) S.l.length cr) ve vh vw vo) : DeskIs w 0 b o gl cl gr cr S.l S.r S.q := by
  obtain ⟨a, b, c, d, h1, h2, h3⟩ := h.desk
  simp only [Value.slice.injEq, Option.some.injEq, Addr.mk.injEq] at h1 h2
  obtain ⟨⟨rfl, _⟩, _, rfl⟩ := h1
  obtain ⟨⟨rfl, _⟩, _, rfl⟩ := h2
  exact h3
theorem RunIs.learn {w w' : World} {b sb : Nat} {B : Nat → Prop} {S : PS} {gl cl gr cr : Nat} {ve vh vw vo : Value} {k s v : Int} {e : Ending} (P : RunIs w b sb B S (.slice (some ⟨gl, 0, none⟩) S.l.length cl) (.slice (some ⟨gr, 0, none⟩) S.l.length cr) ve vh vw vo)
    (h : LearnP w 0 b 1 gl cl gr cr S.l S.r S.q k s v e w') : (∃ t, e = .returned (.bool t)) ∧ RunIs w' b sb B (learnS S (k, s, v)) (.slice (some ⟨gl, 0, none⟩) S.l.length cl) (.slice (some ⟨gr, 0, none⟩) S.l.length cr) ve vh vw vo ∧ Fs B w w' := by
  obtain ⟨h1, h2, h3⟩ := P.toPlIs.learn h
  refine ⟨h1, ⟨h2, ?_⟩, h3⟩
  obtain ⟨_, hf, _⟩ := h
  rw [hf.box 0 (by omega)]
  exact P.c0
theorem RunIs.row {w : World} {b sb : Nat} {B : Nat → Prop} {S : PS} {vl vr ve vh vw vo : Value} (h : RunIs w b sb B S vl vr ve vh vw vo) {i : Nat} {c : Ch} (hc : (parts S vl vr ve vh vw vo)[i]? = some c) : ∀ k, c.v.ownBlock = some k → OwnB b S vl vr ve vh vw vo k := h.toPlIs.row hc
/-- a service that what happens from M on leaves as it is -/
structure SvF (M : Nat) (w : World) (sb n : Nat) (t : Int) (sv : Value) (xss : List (List Int)) (bs : Int) (sm wk : Nat) : Prop where
  le : M ≤ w.heap.size
  get : ∀ W, Below M w W → ServAt W sb 0 n t sv bs sm wk ∧ SlII W sv xss
theorem SvF.step {M : Nat} {w w' : World} {sb n : Nat} {t : Int} {sv : Value} {xss : List (List Int)} {bs : Int} {sm wk : Nat} (h : SvF M w sb n t sv xss bs sm wk) (hb : Below M w w') : SvF M w' sb n t sv xss bs sm wk :=
  ⟨Nat.le_trans h.le hb.size, fun W hW => h.get W (hb.trans hW)⟩
theorem SvF.fs {M : Nat} {B : Nat → Prop} {w w' : World} {sb n : Nat} {t : Int} {sv : Value} {xss : List (List Int)} {bs : Int} {sm wk : Nat} (h : SvF M w sb n t sv xss bs sm wk) (hf : Fs B w w') (hB : ∀ k, B k → M ≤ k) : SvF M w' sb n t sv xss bs sm wk :=
  h.step (hf.below h.le hB)
theorem SvF.now {M : Nat} {w : World} {sb n : Nat} {t : Int} {sv : Value} {xss : List (List Int)} {bs : Int} {sm wk : Nat} (h : SvF M w sb n t sv xss bs sm wk) : ServAt w sb 0 n t sv bs sm wk ∧ SlII w sv xss := h.get w (Below.refl _ _)
theorem Bm.le {B : Nat → Prop} {M m : Nat} (hB : ∀ k, B k → M ≤ k) (hm : M ≤ m) : ∀ k, Bm B m k → M ≤ k := fun k hk => hk.elim (hB k) (fun h => Nat.le_trans hm h)
theorem servCells {w : World} {sb n : Nat} {t : Int} {sv : Value} {bs : Int} {sm wk : Nat} (h : ServAt w sb 0 n t sv bs sm wk) : w.cell? ⟨sb, 0, none⟩ = some (.int .i64 n) ∧ w.cell? ⟨sb, 1, none⟩ = some (.int .i64 t) ∧ w.cell? ⟨sb, 2, none⟩ = some sv ∧ w.cell? ⟨sb, 3, none⟩ = some (.int .i64 bs) ∧ w.cell? ⟨sb, 4, none⟩ = some (.int .i64 sm) ∧ w.cell? ⟨sb, 5, none⟩ = some (.int .i64 wk) := by
  obtain ⟨⟨_, p0, p1, p2⟩, p3, p4, p5⟩ := h
  simp only [Nat.zero_add] at p0 p1 p2 p3 p4 p5
  exact ⟨p0, p1, p2, p3, p4, p5⟩
def DoR (b sb : Nat) (B : Nat → Prop) (R : Int × PS) (w : World) (e : Ending) (w' : World) : Prop :=
  e = .returned (.int .i64 R.1) ∧ (∃ vl vr ve vh vw vo, RunIs w' b sb (Bm B w.heap.size) R.2 vl vr ve vh vw vo) ∧ Fs B w w'
theorem DoR.mk {b sb : Nat} {B : Nat → Prop} {R : Int × PS} {k : Int} {S : PS} {w w' : World} {vl vr ve vh vw vo : Value} (hR : R = (k, S)) (P : RunIs w' b sb (Bm B w.heap.size) S vl vr ve vh vw vo) (F : Fs B w w') : DoR b sb B R w (.returned (.int .i64 k)) w' := by
  subst hR
  exact ⟨rfl, ⟨_, _, _, _, _, _, P⟩, F⟩
theorem DoR.up {b sb : Nat} {B : Nat → Prop} {R : Int × PS} {w W w' : World} {e : Ending} (h : DoR b sb B R W e w') (F : Fs B w W) : DoR b sb B R w e w' := by
  obtain ⟨h1, ⟨vl, vr, ve, vh, vw, vo, h2⟩, h3⟩ := h
  exact ⟨h1, ⟨vl, vr, ve, vh, vw, vo, h2.mono (Bm.mono F.size)⟩, F.trans h3⟩
end Go.Proofs.YtofpelmplcoegaaGreat
namespace Go.Proofs.YtofpelmplcoegaaGreat
open Go.RowKit Go.Sort

set_option maxRecDepth 100000 in
set_option maxHeartbeats 4000000 in
theorem RnWrite_any {b sb : Nat} {B : Nat → Prop} {S : PS} {vl vr ve vh vw vo : Value} {sm j : Nat} (k v : Int) (w : World) (P : RunIs w b sb B S vl vr ve vh vw vo) (hD : PlOk sm S) (hk : k = 1 ∨ k = 2 ∨ k = 3) (hj : j < sm) :
    Calls Tryz.prog 124 #[.pointer (some ⟨b, 0, none⟩), .agg #[.int .i64 k, .int .i64 j, .int .i64 v]] w fun e w' => e = .returned (.tuple #[]) ∧ ∃ ve', RunIs w' b sb (Bm B w.heap.size) (writeS S (k, j, v)) vl vr ve' vh vw vo ∧ Fs B w w' := by
  obtain ⟨hd, hs1, hs8, hrl, _, _⟩ := hD
  obtain ⟨d1, d2, d3, d4, d5⟩ := hd
  obtain ⟨gl, cl, gr, cr, rfl, rfl, _⟩ := P.desk
  obtain ⟨ea, ec, rfl, _, _⟩ := P.oe.shape
  have b1 : Below w.heap.size w (w.alloc (.cells #[.int .i64 k, .int .i64 j, .int .i64 v] 118)) := (Below.refl _ _).alloc (Nat.le_refl _) _
  have R1 := Lib.hid (Box3v.new w (.int .i64 k) (.int .i64 j) (.int .i64 v) 118)
  obtain ⟨W1, hW1⟩ : ∃ W1, W1 = w.alloc (.cells #[.int .i64 k, .int .i64 j, .int .i64 v] 118) := ⟨_, rfl⟩
  rw [← hW1] at b1 R1
  have HZ1 := Lib.hid (show W1.heap.size = w.heap.size + 1 by rw [hW1]; simp)
  have P1 := Lib.hid (P.below b1)
  have HB := Lib.hid P.ownB
  have HL := Lib.hid P.ownLt
  have HE := Lib.hid (P.row (i := 2) rfl)
  have F1 := Lib.hid (Fs.of_below (S := B) b1)
  have hbl := P.blt
  obtain ⟨W2, hW2⟩ : ∃ W2, W2 = (W1.alloc (.cells #[.int .i64 k, .int .i64 j, .int .i64 v] 118)).drew := ⟨_, rfl⟩
  have b2 : Below W1.heap.size W1 W2 := by rw [hW2]; exact ((Below.refl _ _).alloc (Nat.le_refl _) _).drew
  have P2 := Lib.hid (P1.out.below b2)
  have R2 := Lib.hid (R1.out.below b2)
  have F2 := Lib.hid (F1.out.trans (Fs.of_below b2))
  have RD := Lib.hid (show Rd W2 (some ⟨W1.heap.size, 0, none⟩) (FRecord.encs [(k, (j : Int), v)]) by
    rw [hW2]
    exact (rd_new W1 #[.int .i64 k, .int .i64 j, .int .i64 v] 118).below (Below.refl _ _).drew)
  have CW := Lib.hid (show ∀ W, Below W1.heap.size W1 W → (W.cell? ⟨b, 4, none⟩ = some (.slice ea S.recs.length ec) ∧ W.cell? ⟨w.heap.size, 0, none⟩ = some (.int .i64 k) ∧ W.cell? ⟨w.heap.size, 1, none⟩ = some (.int .i64 j) ∧ W.cell? ⟨w.heap.size, 2, none⟩ = some (.int .i64 v)) from fun W h => by
    obtain ⟨⟨_, _, _, _, q3⟩, _⟩ := (P1.out.below h).get
    obtain ⟨_, r0, r1, r2⟩ := R1.out.below h
    exact ⟨q3, r0, r1, r2⟩)
  have hz2 : W1.heap.size < W2.heap.size := by rw [hW2]; simp
  have HZ2 := Lib.hid (show w.heap.size ≤ W2.heap.size by have := HZ1.out; omega)
  have HW1 := Lib.hid hW1.symm
  have HW2 := Lib.hid hW2.symm
  have hln : S.recs.length + [(k, (j : Int), v)].length ≤ 16777216 := by simp; omega
  clear P b1 b2 hW1 hW2
  go_enter Tryz.func124, Tryz.ntmps124
  go_wp2_with fail
  rw [HW1.out]
  refine wpX_start (fun W => W.cell? ⟨b, 4, none⟩ = some (.slice ea S.recs.length ec) ∧ W.cell? ⟨w.heap.size, 0, none⟩ = some (.int .i64 k) ∧ W.cell? ⟨w.heap.size, 1, none⟩ = some (.int .i64 j) ∧ W.cell? ⟨w.heap.size, 2, none⟩ = some (.int .i64 v)) [8, 9, 10, 11, 12] (by kernel_rfl) ?_
  have hC := CW.out W1.drew (Below.refl W1.heap.size W1).drew
  refine wpX_free (i := 0) (v := ?_) rfl (by kernel_rfl) (fun _ _ _ h => h) rfl (fun w' => ?_) ?_
  rotate_left
  · go_simp; try with_reducible rfl
  try simp only [Act.put, List.setIfInBounds_toArray, List.set_cons_zero, List.set_cons_succ]
  refine wpX_free (i := 1) (v := ?_) rfl (by kernel_rfl) (fun _ _ _ h => h) rfl (fun w' => ?_) ?_
  rotate_left
  · go_simp; try with_reducible rfl
  try simp only [Act.put, List.setIfInBounds_toArray, List.set_cons_zero, List.set_cons_succ]
  refine wpX_free (i := 2) (v := ?_) rfl (by kernel_rfl) (fun _ _ _ h => h) rfl (fun w' => ?_) ?_
  rotate_left
  · go_simp; try with_reducible rfl
  try simp only [Act.put, List.setIfInBounds_toArray, List.set_cons_zero, List.set_cons_succ]
  refine wpX_free (i := 3) (v := ?_) rfl (by kernel_rfl) (fun _ _ _ h => h) rfl (fun w' => ?_) ?_
  rotate_left
  · go_simp; try with_reducible rfl
  try simp only [Act.put, List.setIfInBounds_toArray, List.set_cons_zero, List.set_cons_succ]
  refine wpX_free (i := 4) (v := ?_) rfl (by kernel_rfl) (fun _ _ _ h => h) rfl (fun w' => ?_) ?_
  rotate_left
  · go_simp; try with_reducible rfl
  try simp only [Act.put, List.setIfInBounds_toArray, List.set_cons_zero, List.set_cons_succ]
  refine wpX_load (i := 5) (v := ?_) rfl (by kernel_rfl) (fun _ _ _ h => h) hC rfl (fun w' hw' => ?_) ?_
  rotate_left
  · obtain ⟨k1, k2, k3, k4⟩ := hw'; go_simp; try with_reducible rfl
  try simp only [Act.put, List.setIfInBounds_toArray, List.set_cons_zero, List.set_cons_succ]
  refine wpX_load (i := 6) (v := ?_) rfl (by kernel_rfl) (fun _ _ _ h => h) hC rfl (fun w' hw' => ?_) ?_
  rotate_left
  · obtain ⟨k1, k2, k3, k4⟩ := hw'; go_simp; try with_reducible rfl
  try simp only [Act.put, List.setIfInBounds_toArray, List.set_cons_zero, List.set_cons_succ]
  refine wpX_one (i := 7) rfl (by kernel_rfl) rfl ?_
  intro K hK
  go_simp
  rw [HW2.out]
  have hC := CW.out W2 (by rw [← HW2.out]; exact ((Below.refl _ _).alloc (Nat.le_refl _) _).drew)
  refine hK _ _ hC ?_
  clear hK K
  try simp only [Act.put, List.setIfInBounds_toArray, List.set_cons_zero, List.set_cons_succ]
  refine wpX_rest (t := [8, 9, 10, 11, 12]) (l := [_, _, _, _, _]) rfl (by kernel_rfl) (by kernel_rfl) ?_
  clear hC
  refine Flat.append_at FRecord W2 (.tmp 9) (.tmp 11) rfl rfl (base := 0) (v := .slice ea S.recs.length ec) (xs := S.recs) (ys := [(k, (j : Int), v)]) rfl P2.out.oe rfl RD.out hln (Nat.zero_le _) ?_
  intro v' w4 o4 g4 at4
  obtain ⟨na, nc, hv', _, _⟩ := o4.shape
  simp only [List.length_append, List.length_cons, List.length_nil, Nat.zero_add] at hv'
  have e4 := grown_at g4 P2.out.hold.lt (P2.out.hold.ne_box (i := 2) rfl) 4
  have c4 := e4.1.trans P2.out.get.1.2.2.2.2
  have f4 := e4.2.trans (P2.out.fz 4)
  have P4 := P2.out.part (S' := { S with recs := S.recs ++ [(k, (j : Int), v)] }) 2 3 (c' := FRecord.ch v' (S.recs ++ [(k, (j : Int), v)])) rfl rfl rfl (by decide) g4 o4 (m := w.heap.size) HZ2.out (at_of at4) P2.out.len P2.out.pos
  have F4 := F2.out.trans ((Fs.of_grown (S := B) g4 (fun k hk => HB.out k (P2.out.row (i := 2) rfl k hk))).set (a := ⟨b, 1 + 3, none⟩) (HB.out b ⟨0, rfl⟩) v')
  have R4 := R2.out.fs ((Fs.of_grown (S := OwnB b S (.slice (some ⟨gl, 0, none⟩) S.l.length cl) (.slice (some ⟨gr, 0, none⟩) S.l.length cr) (.slice ea S.recs.length ec) vh vw vo) g4 HE.out).set (a := ⟨b, 1 + 3, none⟩) ⟨0, rfl⟩ v') (fun h => Nat.lt_irrefl _ (HL.out _ h))
  subst hv'
  have P4 := Lib.hid P4
  have F4 := Lib.hid F4
  clear o4 g4 at4 e4
  obtain ⟨W4, hW4⟩ : ∃ W4, W4 = w4.setCell ⟨b, 4, none⟩ (.slice na (S.recs.length + 1) nc) := ⟨_, rfl⟩
  have P5 := Lib.hid (show RunIs W4 b sb (Bm B w.heap.size) { S with recs := S.recs ++ [(k, (j : Int), v)] } (.slice (some ⟨gl, 0, none⟩) S.l.length cl) (.slice (some ⟨gr, 0, none⟩) S.l.length cr) (.slice na (S.recs.length + 1) nc) vh vw vo by rw [hW4]; exact P4.out)
  have R5 := Lib.hid (show Box3v W4 w.heap.size (.int .i64 k) (.int .i64 j) (.int .i64 v) by rw [hW4]; exact R4)
  have F5 := Lib.hid (show Fs B w W4 by rw [hW4]; exact F4.out)
  have HW4 := Lib.hid hW4.symm
  clear hW4 P4 F4 R4
  go_wp2_with fail
  rw [HW4.out]
  refine wpX_start (fun W => W.cell? ⟨w.heap.size, 0, none⟩ = some (.int .i64 k) ∧ W.cell? ⟨w.heap.size, 1, none⟩ = some (.int .i64 j) ∧ W.cell? ⟨w.heap.size, 2, none⟩ = some (.int .i64 v)) [5] (by kernel_rfl) ?_
  have hC := (R5.out.below (Below.refl W4.heap.size W4).drew).2
  refine wpX_free (i := 0) (v := ?_) rfl (by kernel_rfl) (fun _ _ _ h => h) rfl (fun w' => ?_) ?_
  rotate_left
  · go_simp; try with_reducible rfl
  try simp only [Act.put, List.setIfInBounds_toArray, List.set_cons_zero, List.set_cons_succ]
  refine wpX_free (i := 1) (v := ?_) rfl (by kernel_rfl) (fun _ _ _ h => h) rfl (fun w' => ?_) ?_
  rotate_left
  · go_simp; try with_reducible rfl
  try simp only [Act.put, List.setIfInBounds_toArray, List.set_cons_zero, List.set_cons_succ]
  refine wpX_free (i := 2) (v := ?_) rfl (by kernel_rfl) (fun _ _ _ h => h) rfl (fun w' => ?_) ?_
  rotate_left
  · go_simp; try with_reducible rfl
  try simp only [Act.put, List.setIfInBounds_toArray, List.set_cons_zero, List.set_cons_succ]
  refine wpX_free (i := 3) (v := ?_) rfl (by kernel_rfl) (fun _ _ _ h => h) rfl (fun w' => ?_) ?_
  rotate_left
  · go_simp; try with_reducible rfl
  try simp only [Act.put, List.setIfInBounds_toArray, List.set_cons_zero, List.set_cons_succ]
  refine wpX_load (i := 4) (v := ?_) rfl (by kernel_rfl) (fun _ _ _ h => h) hC rfl (fun w' hw' => ?_) ?_
  rotate_left
  · obtain ⟨k1, k2, k3⟩ := hw'; go_simp; try with_reducible rfl
  try simp only [Act.put, List.setIfInBounds_toArray, List.set_cons_zero, List.set_cons_succ]
  refine wpX_rest (t := [5]) (l := [_]) rfl (by kernel_rfl) (by kernel_rfl) ?_
  clear hC
  have P6 := Lib.hid (P5.out.below (Below.refl W4.heap.size W4).drew)
  go_wp2_with fail
  refine (l09Learn_any k S.q v _ hk P6.out.toPlIs.deskO (show j < S.l.length by rw [show S.l.length = sm from d1]; exact hj) (show S.l.length ≤ 1000000 by rw [show S.l.length = sm from d1]; omega) (fun y hy => by have := d3 y hy; omega) d4 (Int.le_trans d5 (by omega))).mono ?_
  intro e w6 hL
  obtain ⟨⟨t, rfl⟩, P7, F7⟩ := P6.out.learn hL
  have P7 := Lib.hid P7
  have F7 := Lib.hid ((F5.out.trans (Fs.of_below (Below.refl W4.heap.size W4).drew)).bm F7 (Nat.le_refl _))
  clear hL
  go_wp2
  exact bodyPost_end (v := .tuple #[]) (by simp [results, Tryz.results124, go_sem]) rfl ⟨rfl, _, P7.out, F7.out⟩
end Go.Proofs.YtofpelmplcoegaaGreat
