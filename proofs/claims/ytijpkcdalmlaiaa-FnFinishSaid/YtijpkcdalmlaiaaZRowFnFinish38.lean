/-
  The program's FinishDeeds: the walk. With it: The program's FinishDeeds.
-/
import Derived.Test.YtijpkcdalmlaiaaZRowFnFinish32
import Derived.Test.YtijpkcdalmlaiaaZRowFnFinish23
import Derived.Deep.LoopGhost
set_option linter.unusedVariables false
set_option linter.unusedSimpArgs false
namespace Go.Proofs.Ytijpkcdalmlaiaa
open Go.RowKit Go.Sort
theorem PlIs.tight {w : World} {b o : Nat} {B B' : Nat → Prop} {S : PS} {vl vr ve vh vw vo : Value} (h : PlIs w b o B S vl vr ve vh vw vo) (hB : ∀ k, B k → k < w.heap.size → B' k) : PlIs w b o B' S vl vr ve vh vw vo :=
  ⟨h.box, h.fz, h.hold, fun j g hj => hB g (h.inB j g hj) (h.hold.ltAll j g hj), h.len, h.pos⟩
theorem Flat.Own.off {α : Type} {F : Flat α} {B : Nat → Prop} {w w' : World} {base : Nat} {v : Value} {xs : List α} (h : F.Own w base v xs) (hf : Fs B w w') (hB : ∀ g, v.ownBlock = some g → ¬ B g) : F.Own w' base v xs := by
  refine ⟨h.1, ?_⟩
  rcases h.2 with h2 | ⟨g, cap, cur, rfl, h2, h3, h4⟩
  · exact .inl h2
  · refine .inr ⟨g, cap, cur, rfl, h2, ?_, h4⟩
    rw [hf.block g (Array.getElem?_eq_some_iff.1 h3).1 (hB g rfl)]
    exact h3
theorem Flat.Own.blockLt {α : Type} {F : Flat α} {w : World} {base : Nat} {v : Value} {xs : List α} (h : F.Own w base v xs) (g : Nat) (hg : v.ownBlock = some g) : base ≤ g ∧ g < w.heap.size := World.ownsRow.lt (show World.ownsRow _ _ _ _ _ _ _ from h) g hg
/-- a plant in a box, and a list of deeds in another one -/
structure FinW (w : World) (b lb M : Nat) (S : PS) (L : List (Int × Int)) : Prop where
  ex : ∃ (B : Nat → Prop) (vl vr ve vh vw vo va : Value), PlIs w b 0 B S vl vr ve vh vw vo ∧ FDeed.Own w M va L ∧ w.cell? ⟨lb, 0, none⟩ = some va ∧ va.ownBlock ≠ some lb ∧ (∀ g, B g → (M ≤ g ∧ g ≠ lb) ∧ va.ownBlock ≠ some g ∧ g < w.heap.size)
  fz : w.frozen? ⟨lb, 0, none⟩ = false
  lt : lb < w.heap.size
  le : M ≤ lb
theorem FinW.below {w w' : World} {b lb M : Nat} {S : PS} {L : List (Int × Int)} (h : FinW w b lb M S L) (hb : Below w.heap.size w w') : FinW w' b lb M S L := by
  obtain ⟨⟨B, vl, vr, ve, vh, vw, vo, va, P, O, cl, nl, hB⟩, fz, lt, le⟩ := h
  have := hb.size
  exact ⟨⟨B, vl, vr, ve, vh, vw, vo, va, P.below hb, O.below hb, (hb.cell (p := ⟨lb, 0, none⟩) lt).trans cl, nl, fun g hg => ⟨(hB g hg).1, (hB g hg).2.1, by have := (hB g hg).2.2; omega⟩⟩, (hb.frozen (p := ⟨lb, 0, none⟩) lt).trans fz, by omega, le⟩
/-- a plain law: what finishes is short -/
theorem roundsF_len (t : Int) (xss : List (List Int)) (bs : Int) (sm wk : Nat) : ∀ (f : Nat) (S : PS), (roundsF t xss bs sm wk f S).length ≤ 4 * f
  | 0, _ => by simp [roundsF]
  | f + 1, S => by
    unfold roundsF
    split
    · simp
    · have := roundsF_len t xss bs sm wk f (afterS t xss bs sm wk round4 S)
      rw [List.length_append]
      simp only [round4, List.length_cons, List.length_nil]
      simp only [round4] at this
      omega
theorem outsF_len (t : Int) (xss : List (List Int)) (bs : Int) (sm wk : Nat) : ∀ (f : Nat) (S : PS), (outsF t xss bs sm wk f S).length ≤ f
  | 0, _ => by simp [outsF]
  | f + 1, S => by
    unfold outsF
    split
    · have := outsF_len t xss bs sm wk f (doS t xss bs sm wk (7, 0) S).2
      simp only [List.length_cons]; omega
    · simp
theorem finL_len {t : Int} {xss : List (List Int)} {bs : Int} {sm wk : Nat} {S : PS} (h8 : sm ≤ 8) (hw : S.wire.length ≤ 12) : (finL t xss bs sm wk S).length ≤ 400 := by
  unfold finL tailQ tailR tailO
  simp only [List.length_append, List.length_cons, dropsF, List.length_replicate]
  generalize afterS t xss bs sm wk (List.replicate S.wire.length (5, 0)) S = S1
  generalize (doS t xss bs sm wk (10, 0) S1).2 = S2
  have h1 := roundsF_len t xss bs sm wk (9 * sm + 1 - S2.recs.length) S2
  generalize afterS t xss bs sm wk (roundsF t xss bs sm wk (9 * sm + 1 - S2.recs.length) S2) S2 = S3
  have h2 := outsF_len t xss bs sm wk (9 * sm + 1 - S3.recs.length) S3
  omega
theorem finL_drop {t : Int} {xss : List (List Int)} {bs : Int} {sm wk k : Nat} {S : PS} (h : S.wire.length = k + 1) : finL t xss bs sm wk S = (5, 0) :: finL t xss bs sm wk (doS t xss bs sm wk (5, 0) S).2 ∧ (doS t xss bs sm wk (5, 0) S).2.wire.length = k := by
  have hd := drop_do (t := t) (xss := xss) (bs := bs) (sm := sm) (wk := wk) (S := S) (by omega)
  have hl : (doS t xss bs sm wk (5, 0) S).2.wire.length = k := by
    rw [hd]; simp; omega
  refine ⟨?_, hl⟩
  unfold finL
  rw [hl, h]
  rfl
theorem finL_end {t : Int} {xss : List (List Int)} {bs : Int} {sm wk : Nat} {S : PS} (h : S.wire.length = 0) : finL t xss bs sm wk S = (10, 0) :: tailR t xss bs sm wk (doS t xss bs sm wk (10, 0) S).2 := by
  unfold finL
  rw [h]
  rfl
theorem quit_end {t : Int} {xss : List (List Int)} {bs : Int} {n sm wk : Nat} {S : PS} (I : PInv n sm wk S) (hw : 1 ≤ wk) (h : S.wire.length = 0) : (doS t xss bs sm wk (10, 0) S).2.wire = [] ∧ (doS t xss bs sm wk (10, 0) S).2.hands.getD 0 noHand = noHand := by
  rw [quit_do hw]
  have h0 : 0 < S.hands.length := by have := I.hl; omega
  refine ⟨List.length_eq_zero_iff.1 h, ?_⟩
  simp [handOff, List.getD_eq_getElem?_getD, h0]
theorem PInv.do0 {t : Int} {xss : List (List Int)} {n sm wk : Nat} {bs : Int} {S : PS} (hs : PInv n sm wk S) (hc : chainOk n t xss = true) (h1 : 1 ≤ sm) (k : Int) : PInv n sm wk (doS t xss bs sm wk (k, 0) S).2 := hs.do_ hc h1 (Int.le_refl 0)

set_option maxRecDepth 100000 in
set_option maxHeartbeats 4000000 in
theorem FinDo_any {ad : Option Addr} {xss : List (List Int)} {m c b lb sb M sm wk n : Nat} {S : PS} {L : List (Int × Int)} (t bs : Int) (w : World) (F : FinW w b lb M S L) (hI : PInv n sm wk S) (hs : 1 ≤ sm ∧ sm ≤ 8) (hwk : 1 ≤ wk ∧ wk ≤ 4)
    (hv : ∀ W, Below M w W → CellsAt W sb [.int .i64 n, .int .i64 t, .slice ad m c, .int .i64 bs, .int .i64 sm, .int .i64 wk] ∧ SlII W (.slice ad m c) xss) (hch : chainOk n t xss = true) (hbs : 0 ≤ bs ∧ bs ≤ 999999992) (k : Int) (hd : deedOk k 0 = true) (hl : L.length ≤ 1000) :
    Calls Try.prog 52 #[.int .i64 k, .pointer (some ⟨b, 0, none⟩), .pointer (some ⟨sb, 0, none⟩), .pointer (some ⟨lb, 0, none⟩)] w fun e w' => e = .returned (.tuple #[]) ∧ FinW w' b lb M (doS t xss bs sm wk (k, 0) S).2 (L ++ [(k, 0)]) ∧ Below M w w' := by
  obtain ⟨⟨B, vl, vr, ve, vh, vw, vo, va, P, O, cl, nl, hB⟩, fz, lt, le⟩ := F
  have hM : M ≤ w.heap.size := Nat.le_trans le (Nat.le_of_lt lt)
  have b1 : Below w.heap.size w (w.alloc (.cells #[.int .i64 k, .int .i64 0] 68)) := (Below.refl _ _).alloc (Nat.le_refl _) _
  have KD := CellsAt.new w [.int .i64 k, .int .i64 0] 68
  obtain ⟨W1, hW1⟩ : ∃ W1, W1 = w.alloc (.cells #[.int .i64 k, .int .i64 0] 68) := ⟨_, rfl⟩
  have KD := Lib.hid (show CellsAt W1 w.heap.size [.int .i64 k, .int .i64 0] by rw [hW1]; exact KD)
  rw [← hW1] at b1
  have HZ1 := Lib.hid (show W1.heap.size = w.heap.size + 1 by rw [hW1]; simp)
  obtain ⟨K1, A1⟩ := hv W1 (b1.mono hM)
  have HD := Lib.hid (PlDo_any t bs W1 (P.below b1) hI hs hwk A1 hch hbs k 0 hd)
  generalize hR : doS t xss bs sm wk (k, 0) S = R at HD
  obtain ⟨rc, Sn⟩ := R
  have k0 := K1.get 0 _ rfl
  have k1 := K1.get 1 _ rfl
  have k2 := K1.get 2 _ rfl
  have k3 := K1.get 3 _ rfl
  have k4 := K1.get 4 _ rfl
  have k5 := K1.get 5 _ rfl
  have d0 := KD.out.get 0 _ rfl
  have d1 := KD.out.get 1 _ rfl
  have BM1 := Lib.hid (b1.mono hM)
  have O1 := Lib.hid (O.below b1)
  have HB := Lib.hid hB
  have HM := Lib.hid hM
  have HLT := Lib.hid lt
  have HLE := Lib.hid le
  have HNL := Lib.hid nl
  have HL := Lib.hid hl
  have C1 := Lib.hid ((b1.cell (p := ⟨lb, 0, none⟩) lt).trans cl)
  have F1 := Lib.hid ((b1.frozen (p := ⟨lb, 0, none⟩) lt).trans fz)
  have HW1 := Lib.hid hW1.symm
  clear P O cl nl hB fz lt le hv hR b1 K1 A1 hW1 hM hI hl
  go_enter Try.func52, Try.ntmps52
  go_upto_region 1 with (fail)
  rw [HW1.out]
  go_wp2_with fail
  refine HD.out.mono ?_
  intro e w4 h
  obtain ⟨rfl, ⟨vl', vr', ve', vh', vw', vo', P4⟩, F4⟩ := h
  have b4 := BM1.out.trans (F4.below (Nat.le_trans HM.out BM1.out.size) (fun g hg => (HB.out g hg).1.1))
  have hne : ¬ B lb := fun h => (HB.out lb h).1.2 rfl
  have hnw : ¬ B w.heap.size := fun h => Nat.lt_irrefl _ (HB.out _ h).2.2
  have lt1 : lb < W1.heap.size := Nat.lt_of_lt_of_le HLT.out (by have := HZ1.out; omega)
  have O4 := O1.out.off F4 (fun g hg h => (HB.out g h).2.1 hg)
  have c4 := (F4.cell (p := ⟨lb, 0, none⟩) lt1 hne).trans C1.out
  have f4 : w4.frozen? ⟨lb, 0, none⟩ = false := by have h := F1.out; unfold World.frozen? at h ⊢; rw [F4.block lb lt1 hne]; exact h
  have KD4 := KD.out.fs F4 hnw
  have P4 := P4.tight (B' := fun g => (M ≤ g ∧ g ≠ lb) ∧ va.ownBlock ≠ some g ∧ g < w4.heap.size) (fun g h1 h2 => h1.elim (fun h => ⟨(HB.out g h).1, (HB.out g h).2.1, h2⟩) (fun h => ⟨⟨by have := HZ1.out; have := HM.out; omega, by omega⟩, fun h3 => by have := (O1.out.blockLt g h3).2; omega, h2⟩))
  have lt4 : lb < w4.heap.size := Nat.lt_of_lt_of_le lt1 F4.size
  have bd : Below w4.heap.size w4 (w4.alloc (.cells #[.int .i64 k, .int .i64 0] 68)) := (Below.refl _ _).alloc (Nat.le_refl _) _
  have PD := Lib.hid (P4.below bd)
  have OD := Lib.hid (O4.below bd)
  have HRD := Lib.hid (show Rd (w4.alloc (.cells #[.int .i64 k, .int .i64 0] 68)) (some ⟨w4.heap.size, 0, none⟩) (FDeed.encs [(k, 0)]) from rd_new w4 #[.int .i64 k, .int .i64 0] 68)
  have B4 := Lib.hid (b4.trans (bd.mono (Nat.le_trans HM.out b4.size)))
  have CD := Lib.hid ((bd.cell (p := ⟨lb, 0, none⟩) lt4).trans c4)
  have FD := Lib.hid ((bd.frozen (p := ⟨lb, 0, none⟩) lt4).trans f4)
  have LT4 := Lib.hid lt4
  have hln : L.length + [(k, (0 : Int))].length ≤ 16777216 := by have := HL.out; simp; omega
  have e0 := KD4.get 0 _ rfl
  have e1 := KD4.get 1 _ rfl
  obtain ⟨xa, xc, hva, _, _⟩ := O4.shape
  subst hva
  clear k0 k1 k2 k3 k4 k5 d0 d1 P4 O4 bd b4 F4 hne hnw lt1 KD4 f4 lt4
  go_wp2_with (at_builtin; refine Flat.append_at FDeed _ (.tmp 11) (.tmp 13) rfl rfl (base := M) (v := .slice xa L.length xc) (xs := L) (ys := [(k, 0)]) rfl OD.out rfl HRD.out hln (Nat.le_trans HM.out B4.out.size) ?_)
  intro v' w5 o5 q5 at5
  have F5 := Fs.of_grown (S := fun g => (Value.slice xa L.length xc).ownBlock = some g) q5 (fun g hg => hg)
  have P5 := PD.out.fs F5 (fun g hg h => hg.2.1 h)
  have ltD : lb < (w4.alloc (.cells #[.int .i64 k, .int .i64 0] 68)).heap.size := by have := LT4.out; simp; omega
  have c5 := (F5.cell (p := ⟨lb, 0, none⟩) ltD HNL.out).trans CD.out
  have f5 : w5.frozen? ⟨lb, 0, none⟩ = false := by have h := FD.out; unfold World.frozen? at h ⊢; rw [F5.block lb ltD HNL.out]; exact h
  have B5 := B4.out.trans (F5.below (Nat.le_trans HM.out B4.out.size) (fun g hg => (OD.out.blockLt g hg).1))
  have at5 : v'.ownBlock = (Value.slice xa L.length xc).ownBlock ∨ v'.ownBlock = some (w4.heap.size + 1) := by simpa using at5
  have HN := HNL.out
  have hlb := LT4.out
  have hvl : v'.ownBlock ≠ some lb := fun h => at5.elim (fun h2 => HN (h2 ▸ h)) (fun h2 => by rw [h2] at h; simp at h; omega)
  have z5 : lb < w5.heap.size := Nat.lt_of_lt_of_le ltD F5.size
  have FN := Lib.hid (show FinW (w5.setCell ⟨lb, 0, none⟩ v') b lb M Sn (L ++ [(k, 0)]) from by
    have FX : Fs (fun g => g = lb) w5 (w5.setCell ⟨lb, 0, none⟩ v') := Fs.set (S := fun g => g = lb) (Fs.refl _ _) rfl _
    refine ⟨⟨_, _, _, _, _, _, _, _, P5.fs FX (fun g hg h => hg.1.2 h), o5.off FX (fun g hg h => hvl (h ▸ hg)), by simp [go_sem, c5], hvl, fun g hg => ⟨hg.1, fun h => at5.elim (fun h2 => hg.2.1 (h2 ▸ h)) (fun h2 => by rw [h2] at h; simp at h; omega), ?_⟩⟩, by simpa using f5, by simpa using z5, HLE.out⟩
    have h1 := hg.2.2
    have h2 := F5.size
    simp at h2 ⊢
    omega)
  have BN := Lib.hid (show Below M w (w5.setCell ⟨lb, 0, none⟩ v') from B5.setCell HLE.out v')
  obtain ⟨na, nc, hv', _, _⟩ := o5.shape
  simp only [List.length_append, List.length_cons, List.length_nil, Nat.zero_add] at hv'
  subst hv'
  have C5 := c5
  have F5 := f5
  clear P5 B5 o5 q5 at5 hvl c5 f5 c4
  go_wp2
  exact bodyPost_end (v := .tuple #[]) (by simp [results, Try.results52, go_sem]) rfl ⟨rfl, FN.out, BN.out⟩
end Go.Proofs.Ytijpkcdalmlaiaa
namespace Go.Proofs.Ytijpkcdalmlaiaa
open Go.RowKit Go.Sort

set_option maxRecDepth 100000 in
set_option maxHeartbeats 8000000 in
theorem ImplFinishDeeds_any {u : Value} {xss : List (List Int)} {ds : List (Int × Int)} {rv : Value} (n t bs sm wk : Int) (w : World) (ha : SlII w u xss) (hr : FDeed.Sl w rv ds) :
    Calls Try.prog 23 #[.agg #[.int .i64 n, .int .i64 t, u, .int .i64 bs, .int .i64 sm, .int .i64 wk], rv] w fun e w' => ∃ v, e = .returned (.tuple #[v, .int .i64 (finR n t xss bs sm wk ds).2]) ∧ FDeed.Own w' w.heap.size v (finR n t xss bs sm wk ds).1 ∧ Below w.heap.size w w' := by
  have HA := Lib.hid (fun W (h : Below w.heap.size w W) => ha.below h)
  have HR := Lib.hid (fun W (h : Below w.heap.size w W) => hr.below h)
  obtain ⟨ra, rc, rfl, hrc, hrc2, _⟩ := id hr
  obtain ⟨a, ca, us, rfl, _⟩ := id ha
  unfold maxLen at hrc2
  have bx : Below w.heap.size w (w.alloc (.cells #[.int .i64 n, .int .i64 t, .slice a xss.length ca, .int .i64 bs, .int .i64 sm, .int .i64 wk] 35)) := (Below.refl _ _).alloc (Nat.le_refl _) _
  have KX := Lib.hid (CellsAt.new w [.int .i64 n, .int .i64 t, .slice a xss.length ca, .int .i64 bs, .int .i64 sm, .int .i64 wk] 35)
  have K := Lib.hid (deedsCode_any n t bs sm wk _ (ha.below bx) (hr.below bx))
  generalize hq : dcode n t xss bs sm wk ds = q at K
  have HQ := Lib.hid hq
  by_cases h0 : q = 0
  · subst h0
    obtain ⟨hok, hall, hlen⟩ := dcode_zero hq
    obtain ⟨n', sm', wk', rfl, rfl, rfl, hs, hwk, hn6⟩ := servOk_nat hok
    obtain ⟨hch, _, _, hbs⟩ := serviceOk_parts hok
    have hI := afterS_inv (n := n') (bs := bs) (wk := wk') hch hs.1 ds (newS sm' wk') hall (PInv.new hs.1)
    have HF := Lib.hid (show finR n' t xss bs sm' wk' ds = (if 400 < ds.length + (finL t xss bs sm' wk' (afterS t xss bs sm' wk' ds (newS sm' wk'))).length then ([], 3) else (finL t xss bs sm' wk' (afterS t xss bs sm' wk' ds (newS sm' wk')), 0)) by unfold finR; rw [if_pos HQ.out, Int.toNat_natCast, Int.toNat_natCast])
    have HALL := Lib.hid hall
    have t0 : ((0 : Int) != 0) = false := rfl
    clear hq ha hr hall HQ
    go_enter Try.func23, Try.ntmps23
    go_wp2_with fail
    refine K.out.mono ?_
    rintro e w1 ⟨rfl, b1⟩
    have B1 := Lib.hid (bx.trans (b1.mono bx.size))
    have K1 := Lib.hid (KX.out.below b1)
    have HV := Lib.hid (show ∀ W, Below w1.heap.size w1 W → CellsAt W w.heap.size [.int .i64 n', .int .i64 t, .slice a xss.length ca, .int .i64 bs, .int .i64 sm', .int .i64 wk'] ∧ SlII W (.slice a xss.length ca) xss from fun W h => ⟨K1.out.below h, HA.out W (B1.out.trans (h.mono B1.out.size))⟩)
    have k0 := K1.out.get 0 _ rfl
    have k1 := K1.out.get 1 _ rfl
    have k2 := K1.out.get 2 _ rfl
    have k3 := K1.out.get 3 _ rfl
    have k4 := K1.out.get 4 _ rfl
    have k5 := K1.out.get 5 _ rfl
    have KA := after_any n' t bs sm' wk' w1 (HA.out _ B1.out) (HR.out _ B1.out) hok HALL.out
    rw [Int.toNat_natCast, Int.toNat_natCast] at KA
    have HCH := Lib.hid hch
    clear bx b1 K KX hch hok
    go_wp2_with fail
    refine KA.mono ?_
    rintro e w2 ⟨vl, vr, ve, vh, vw, vo, rfl, pv, b2⟩
    generalize afterS t xss bs sm' wk' ds (newS sm' wk') = Sk at pv HF hI
    generalize codesS t xss bs sm' wk' ds (newS sm' wk') = Ck
    generalize doneS Ck = D
    obtain ⟨x0, y0, z0, rfl⟩ : ∃ x y z, vl = .slice x y z := by
      obtain ⟨x, z, h1, _⟩ := ownsRow_rd (pv.own 0 _ rfl)
      exact ⟨x, _, z, h1⟩
    obtain ⟨x1, y1, z1, rfl⟩ : ∃ x y z, vr = .slice x y z := by
      obtain ⟨x, z, h1, _⟩ := ownsRow_rd (pv.own 1 _ rfl)
      exact ⟨x, _, z, h1⟩
    obtain ⟨x3, y3, z3, rfl⟩ : ∃ x y z, ve = .slice x y z := by
      obtain ⟨x, z, h1, _⟩ := ownsRow_rd (pv.own 2 _ rfl)
      exact ⟨x, _, z, h1⟩
    obtain ⟨x5, y5, z5, rfl⟩ : ∃ x y z, vh = .slice x y z := by
      obtain ⟨x, z, h1, _⟩ := ownsRow_rd (pv.own 3 _ rfl)
      exact ⟨x, _, z, h1⟩
    obtain ⟨x6, y6, z6, rfl⟩ : ∃ x y z, vw = .slice x y z := by
      obtain ⟨x, z, h1, _⟩ := ownsRow_rd (pv.own 4 _ rfl)
      exact ⟨x, _, z, h1⟩
    obtain ⟨x7, y7, z7, rfl⟩ : ∃ x y z, vo = .slice x y z := by
      obtain ⟨x, z, h1, _⟩ := ownsRow_rd (pv.own 5 _ rfl)
      exact ⟨x, _, z, h1⟩
    have P3 := pv.box
    have b3 : Below w2.heap.size w2 (w2.alloc (.cells #[.slice x0 y0 z0, .slice x1 y1 z1, .int .i64 Sk.q, .slice x3 y3 z3, .int .i64 Sk.sy, .slice x5 y5 z5, .slice x6 y6 z6, .slice x7 y7 z7] 61)) := (Below.refl _ _).alloc (Nat.le_refl _) _
    obtain ⟨W3, hW3⟩ : ∃ W3, W3 = w2.alloc (.cells #[.slice x0 y0 z0, .slice x1 y1 z1, .int .i64 Sk.q, .slice x3 y3 z3, .int .i64 Sk.sy, .slice x5 y5 z5, .slice x6 y6 z6, .slice x7 y7 z7] 61) := ⟨_, rfl⟩
    have z3' : W3.heap.size = w2.heap.size + 1 := by rw [hW3]; simp
    rw [← hW3] at P3 b3
    have b4 : Below W3.heap.size W3 (W3.alloc (.cells #[] 68)) := (Below.refl _ _).alloc (Nat.le_refl _) _
    have o4 := Flat.Own.empty (F := FDeed) W3 (base := w1.heap.size) (by rw [z3']; have := b2.size; omega)
    obtain ⟨W4, hW4⟩ : ∃ W4, W4 = W3.alloc (.cells #[] 68) := ⟨_, rfl⟩
    have o4 : FDeed.Own W4 w1.heap.size (.slice (some ⟨W3.heap.size, 0, none⟩) 0 0) [] := by rw [hW4]; exact o4
    have z4 : W4.heap.size = w2.heap.size + 2 := by rw [hW4]; simp [z3']
    rw [← hW4] at b4
    rw [z3'] at o4
    have b5 : Below W4.heap.size W4 (W4.alloc (.cells #[.slice (some ⟨w2.heap.size + 1, 0, none⟩) 0 0] 37)) := (Below.refl _ _).alloc (Nat.le_refl _) _
    obtain ⟨W5, hW5⟩ : ∃ W5, W5 = W4.alloc (.cells #[.slice (some ⟨w2.heap.size + 1, 0, none⟩) 0 0] 37) := ⟨_, rfl⟩
    have z5' : W5.heap.size = w2.heap.size + 3 := by rw [hW5]; simp [z4]
    have c5 : W5.cell? ⟨w2.heap.size + 1 + 1, 0, none⟩ = some (.slice (some ⟨w2.heap.size + 1, 0, none⟩) 0 0) := by rw [hW5]; simp [go_sem, z4]
    have f5 : W5.frozen? ⟨w2.heap.size + 1 + 1, 0, none⟩ = false := by rw [hW5]; simp [go_sem, z4]
    rw [← hW5] at b5
    have b35 : Below W3.heap.size W3 W5 := b4.trans (b5.mono b4.size)
    have zb := b2.size
    have FW := Lib.hid (show FinW W5 w2.heap.size (w2.heap.size + 1 + 1) w1.heap.size Sk [] from
      ⟨⟨fun g => w1.heap.size ≤ g ∧ g < w2.heap.size + 1, _, _, _, _, _, _, _, (P3.tight (fun g h1 h2 => ⟨h1.elim (fun h => h) (fun h => by omega), by omega⟩)).below b35, o4.below b5, c5, by simp [Value.ownBlock], fun g hg => ⟨⟨hg.1, by omega⟩, by simp [Value.ownBlock]; omega, by omega⟩⟩, f5, by omega, by omega⟩)
    have BW := Lib.hid (show Below w1.heap.size w1 W5 from b2.trans ((b3.trans (b35.mono b3.size)).mono b2.size))
    have HW5 := Lib.hid (show ((w2.alloc (.cells #[.slice x0 y0 z0, .slice x1 y1 z1, .int .i64 Sk.q, .slice x3 y3 z3, .int .i64 Sk.sy, .slice x5 y5 z5, .slice x6 y6 z6, .slice x7 y7 z7] 61)).alloc (.cells #[] 68)).alloc (.cells #[.slice (some ⟨w2.heap.size + 1, 0, none⟩) 0 0] 37) = W5 by rw [hW5, hW4, hW3])
    have hlen5 := finL_len (t := t) (xss := xss) (bs := bs) (wk := wk') hs.2 hI.wl
    obtain ⟨FL, hFL⟩ : ∃ FL, FL = finL t xss bs sm' wk' Sk := ⟨_, rfl⟩
    rw [← hFL] at HF hlen5
    have HI := Lib.hid hI
    have HFL := Lib.hid hFL
    unfold plV
    clear k0 k1 k2 k3 k4 k5 pv b2 P3 b3 hW3 z3' b4 o4 hW4 z4 b5 hW5 z5' c5 f5 b35 zb hI hFL KA
    go_wp2
    rw [HW5.out]
    go_loopg [] Sk.wire.length (fun k wr => ∃ (S : PS) (L : List (Int × Int)), FinW wr w2.heap.size (w2.heap.size + 1 + 1) w1.heap.size S L ∧ Hid (PInv n' sm' wk' S) ∧ Hid (S.wire.length = k) ∧ Hid (L ++ finL t xss bs sm' wk' S = FL) ∧ Below w1.heap.size w1 wr)
    case atStart => exact ⟨Sk, [], FW.out, HI.out, rfl, HFL.out.symm, BW.out⟩
    case round =>
      obtain ⟨S, L, F, hI, hk, hL, hb⟩ := hrel
      obtain ⟨B, vl, vr, ve, vh, vw, vo, va, P, O, cl, nl, hB⟩ := id F.ex
      obtain ⟨wa, wc, rfl, _, _⟩ := P.ow.shape
      have q6 := P.get.2.2.2.1
      have hll : L.length ≤ 400 := by have h1 := congrArg List.length hL.out; rw [List.length_append] at h1; omega
      have hvW := Lib.hid (fun W (h : Below w1.heap.size wr W) => HV.out W (hb.trans h))
      by_cases hz : S.wire.length = 0
      · rw [hz] at q6
        have KF := Lib.hid (FinDo_any t bs wr F hI.out hs hwk hvW.out HCH.out hbs 10 rfl (by omega))
        have HI2 := Lib.hid (hI.out.do0 (t := t) (xss := xss) (bs := bs) HCH.out hs.1 10)
        obtain ⟨e1, e2⟩ := quit_end (t := t) (xss := xss) (bs := bs) hI.out hwk.1 hz
        have e3 := hL.out
        rw [finL_end hz] at e3
        generalize (doS t xss bs sm' wk' (10, 0) S).2 = S2 at KF HI2 e1 e2 e3
        have E1 := Lib.hid e1
        have E2 := Lib.hid e2
        have E3 := Lib.hid (show (L ++ [(10, 0)]) ++ tailR t xss bs sm' wk' S2 = FL by rw [List.append_assoc]; exact e3)
        have HB := Lib.hid hb
        clear F P O cl nl hB hI hk hL hz hb e1 e2 e3 hvW
        go_wp2_with fail
        refine KF.out.mono ?_
        rintro e w3 ⟨rfl, F3, b3⟩
        have F3 := Lib.hid F3
        have B3 := Lib.hid (HB.out.trans b3)
        clear b3 KF q6
        go_wp2
        go_loopg [] (9 * sm' + 1) (fun k wr => ∃ (S : PS) (L : List (Int × Int)), FinW wr w2.heap.size (w2.heap.size + 1 + 1) w1.heap.size S L ∧ Hid (PInv n' sm' wk' S) ∧ Hid (S.wire = []) ∧ Hid (S.hands.getD 0 noHand = noHand) ∧ Hid (9 * sm' + 1 - S.recs.length ≤ k) ∧ Hid (L ++ tailR t xss bs sm' wk' S = FL) ∧ Below w1.heap.size w1 wr)
        case atStart => exact ⟨S2, _, F3.out, HI2, E1, E2, by unfold Hid; omega, E3, B3.out⟩
        case round =>
          clear hll
          obtain ⟨S, L, F, hI, hwr, hhd, hk, hL, hb⟩ := hrel
          obtain ⟨B, vl, vr, ve, vh, vw, vo, va, P, O, cl, nl, hB⟩ := id F.ex
          obtain ⟨gl, lc, gr, rc', rfl, rfl, _⟩ := P.desk
          obtain ⟨⟨q0, q1, q2, _⟩, _⟩ := P.get
          have hls : S.l.length = sm' := hI.out.desk.ok.1
          have hll : L.length ≤ 400 := by have h1 := congrArg List.length hL.out; rw [List.length_append] at h1; omega
          have hvW := Lib.hid (fun W (h : Below w1.heap.size wr W) => HV.out W (hb.trans h))
          have KN := Lib.hid ((deskNext_any S.q wr P.ol.sl P.or_.sl P.len (by omega)).mono (R' := fun e w' => e = .returned (.int .i64 (nextS S.l S.r sm')) ∧ Below wr.heap.size wr w') (fun e w' h => ⟨by rw [h.1, hls], h.2⟩))
          have HLS := Lib.hid hls
          by_cases hn : nextS S.l S.r sm' < 0
          · have hnx : ∀ i, i < sm' → S.r.getD i 0 ≠ -1 := fun i hi => nextS_lt hn i hi
            have e3 := hL.out
            rw [tailR_end (t := t) (xss := xss) (bs := bs) (wk := wk') hI.out hn] at e3
            generalize nextS S.l S.r sm' = nx at KN hn
            have hng : ¬ (0 : Int) ≤ nx := by omega
            have HNX := Lib.hid hnx
            have E3 := Lib.hid e3
            have HB := Lib.hid hb
            have HF3 := Lib.hid F
            clear P O cl nl hB hL hb e3 hnx hn F hls
            go_wp2_with fail
            refine KN.out.mono ?_
            rintro e w4 ⟨rfl, b4⟩
            have B4 := Lib.hid (HB.out.trans (b4.mono HB.out.size))
            have F4 := Lib.hid (HF3.out.below b4)
            have z4 := b4.size
            clear b4 KN q0 q1 q2
            go_wp2
            go_loopg [] (9 * sm' + 1) (fun k wr => ∃ (S : PS) (L : List (Int × Int)), FinW wr w2.heap.size (w2.heap.size + 1 + 1) w1.heap.size S L ∧ Hid (PInv n' sm' wk' S) ∧ Hid (∀ i, i < sm' → S.r.getD i 0 ≠ -1) ∧ Hid (9 * sm' + 1 - S.recs.length ≤ k) ∧ Hid (L ++ tailO t xss bs sm' wk' S = FL) ∧ Below w1.heap.size w1 wr)
            case atStart => exact ⟨S, L, F4.out, hI, HNX, by unfold Hid; omega, E3, B4.out⟩
            case round =>
              clear hll
              obtain ⟨S, L, F, hI, hnx, hk, hL, hb⟩ := hrel
              obtain ⟨B, vl, vr, ve, vh, vw, vo, va, P, O, cl, nl, hB⟩ := id F.ex
              obtain ⟨xa, xc, rfl, _, _⟩ := O.shape
              obtain ⟨⟨_, _, q2, _⟩, _⟩ := P.get
              have hll : L.length ≤ 400 := by have h1 := congrArg List.length hL.out; rw [List.length_append] at h1; omega
              have hvW := Lib.hid (fun W (h : Below w1.heap.size wr W) => HV.out W (hb.trans h))
              have k4 := (HV.out wr hb).1.get 4 _ rfl
              by_cases hq : S.q < (sm' : Int)
              · have KF := Lib.hid (FinDo_any t bs wr F hI.out hs hwk hvW.out HCH.out hbs 7 rfl (by omega))
                have HI2 := Lib.hid (hI.out.do0 (t := t) (xss := xss) (bs := bs) HCH.out hs.1 7)
                obtain ⟨e1, e2⟩ := out_do (t := t) (xss := xss) (bs := bs) hI.out hnx.out hq
                have e3 := hL.out
                rw [tailO_step hI.out hnx.out hq] at e3
                have hil := hI.out.len
                generalize (doS t xss bs sm' wk' (7, 0) S).2 = S2 at KF HI2 e1 e2 e3
                have HNX := Lib.hid (show ∀ i, i < sm' → S2.r.getD i 0 ≠ -1 by rw [e2]; exact hnx.out)
                have E3 := Lib.hid (show (L ++ [(7, 0)]) ++ tailO t xss bs sm' wk' S2 = FL by rw [List.append_assoc]; exact e3)
                have HK2 := Lib.hid (show 9 * sm' + 1 - S2.recs.length < gk by have := hk.out; omega)
                have HB := Lib.hid hb
                clear F P O cl nl hB hI hk hL hb e1 e2 e3 hvW hnx hil
                go_wp2_with fail
                refine KF.out.mono ?_
                rintro e w5 ⟨rfl, F5, b5⟩
                have F5 := Lib.hid F5
                have B5 := Lib.hid (HB.out.trans b5)
                clear b5 KF q2 k4
                go_wp2
                go_roundg (9 * sm' + 1 - S2.recs.length)
                case measure => exact HK2.out
                case rel => exact ⟨S2, _, F5.out, HI2, HNX, Nat.le_refl _, E3, B5.out⟩
              · have e3 := hL.out
                rw [tailO_end hI.out hq, List.append_nil] at e3
                subst e3
                have HB := Lib.hid (B1.out.trans (hb.mono B1.out.size))
                have HO := Lib.hid (O.lower B1.out.size)
                have hge : (sm' : Int) ≤ S.q := by omega
                clear F P O nl hB hI hk hL hb hvW hnx
                by_cases h4 : 400 < ds.length + L.length
                · have i4 : (400 : Int) < (ds.length : Int) + (L.length : Int) := by omega
                  have HF := Lib.hid (HF.out.trans (if_pos h4))
                  go_wp2
                  refine bodyPost_ret (v := .tuple #[.slice none 0 0, .int .i64 3]) (by simp [results, Try.results23, go_sem]) rfl ⟨_, by rw [HF.out], ?_, HB.out⟩
                  rw [HF.out]
                  exact Flat.Own.nil _ _
                · have i4 : (ds.length : Int) + (L.length : Int) ≤ 400 := by omega
                  have HF := Lib.hid (HF.out.trans (if_neg h4))
                  go_wp2
                  refine bodyPost_ret (v := .tuple #[.slice xa L.length xc, .int .i64 0]) (by simp [results, Try.results23, go_sem]) rfl ⟨_, by rw [HF.out], ?_, HB.out⟩
                  rw [HF.out]
                  exact HO.out
          · have K1' := Lib.hid (fun w4 F4 b4 => FinDo_any (ad := a) (m := xss.length) (c := ca) (xss := xss) (b := w2.heap.size) (lb := w2.heap.size + 1 + 1) (sb := w.heap.size) (M := w1.heap.size) (S := S) (L := L) t bs w4 F4 hI.out hs hwk b4 HCH.out hbs 1 rfl (by omega))
            have HI1 := Lib.hid (hI.out.do0 (t := t) (xss := xss) (bs := bs) HCH.out hs.1 1)
            obtain ⟨e1, e2, e2'⟩ := round_do (t := t) (xss := xss) (bs := bs) hI.out hwk.1 hwr.out hhd.out hn
            have e3 := hL.out
            rw [tailR_step hI.out hwk.1 hwr.out hhd.out hn] at e3
            have hil := hI.out.len
            have ha : afterS t xss bs sm' wk' round4 S = (doS t xss bs sm' wk' (3, 0) (doS t xss bs sm' wk' (2, 0) (doS t xss bs sm' wk' (3, 0) (doS t xss bs sm' wk' (1, 0) S).2).2).2).2 := rfl
            rw [ha] at e1 e2 e2' e3
            generalize (doS t xss bs sm' wk' (1, 0) S).2 = S1 at K1' HI1 e1 e2 e2' e3
            have K2' := Lib.hid (fun w4 F4 b4 => FinDo_any (ad := a) (m := xss.length) (c := ca) (xss := xss) (b := w2.heap.size) (lb := w2.heap.size + 1 + 1) (sb := w.heap.size) (M := w1.heap.size) (S := S1) (L := L ++ [(1, 0)]) t bs w4 F4 HI1.out hs hwk b4 HCH.out hbs 3 rfl (by simp; omega))
            have HI2 := Lib.hid (HI1.out.do0 (t := t) (xss := xss) (bs := bs) HCH.out hs.1 3)
            generalize (doS t xss bs sm' wk' (3, 0) S1).2 = S2 at K2' HI2 e1 e2 e2' e3
            have K3' := Lib.hid (fun w4 F4 b4 => FinDo_any (ad := a) (m := xss.length) (c := ca) (xss := xss) (b := w2.heap.size) (lb := w2.heap.size + 1 + 1) (sb := w.heap.size) (M := w1.heap.size) (S := S2) (L := L ++ [(1, 0)] ++ [(3, 0)]) t bs w4 F4 HI2.out hs hwk b4 HCH.out hbs 2 rfl (by simp; omega))
            have HI3 := Lib.hid (HI2.out.do0 (t := t) (xss := xss) (bs := bs) HCH.out hs.1 2)
            generalize (doS t xss bs sm' wk' (2, 0) S2).2 = S3 at K3' HI3 e1 e2 e2' e3
            have K4' := Lib.hid (fun w4 F4 b4 => FinDo_any (ad := a) (m := xss.length) (c := ca) (xss := xss) (b := w2.heap.size) (lb := w2.heap.size + 1 + 1) (sb := w.heap.size) (M := w1.heap.size) (S := S3) (L := L ++ [(1, 0)] ++ [(3, 0)] ++ [(2, 0)]) t bs w4 F4 HI3.out hs hwk b4 HCH.out hbs 3 rfl (by simp; omega))
            have HI4 := Lib.hid (HI3.out.do0 (t := t) (xss := xss) (bs := bs) HCH.out hs.1 3)
            generalize (doS t xss bs sm' wk' (3, 0) S3).2 = S4 at K4' HI4 e1 e2 e2' e3
            have E1 := Lib.hid e1
            have E2 := Lib.hid e2
            have E3 := Lib.hid (show (L ++ [(1, 0)] ++ [(3, 0)] ++ [(2, 0)] ++ [(3, 0)]) ++ tailR t xss bs sm' wk' S4 = FL by simpa [round4] using e3)
            have HK2 := Lib.hid (show 9 * sm' + 1 - S4.recs.length < gk by have := hk.out; omega)
            generalize nextS S.l S.r sm' = nx at KN hn
            have hng : (0 : Int) ≤ nx := by omega
            have HB := Lib.hid hb
            have HF3 := Lib.hid F
            clear P O cl nl hB hL hb e3 hn F hls ha e1 e2 e2' hil hk hI hwr hhd hvW
            go_wp2_with fail
            refine KN.out.mono ?_
            rintro e w4 ⟨rfl, b4⟩
            have B4 := Lib.hid (HB.out.trans (b4.mono (HB.out.size)))
            have F4 := Lib.hid (HF3.out.below b4)
            have K1' := Lib.hid (K1'.out w4 F4.out (fun W h => HV.out W (B4.out.trans h)))
            clear b4 KN q0 q1 q2
            go_wp2_with fail
            refine K1'.out.mono ?_
            rintro e w5 ⟨rfl, F5, b5⟩
            have B5 := Lib.hid (B4.out.trans b5)
            have K2' := Lib.hid (K2'.out w5 F5 (fun W h => HV.out W (B5.out.trans h)))
            clear F5 b5 K1'
            go_wp2_with fail
            refine K2'.out.mono ?_
            rintro e w6 ⟨rfl, F6, b6⟩
            have B6 := Lib.hid (B5.out.trans b6)
            have K3' := Lib.hid (K3'.out w6 F6 (fun W h => HV.out W (B6.out.trans h)))
            clear F6 b6 K2'
            go_wp2_with fail
            refine K3'.out.mono ?_
            rintro e w7 ⟨rfl, F7, b7⟩
            have B7 := Lib.hid (B6.out.trans b7)
            have K4' := Lib.hid (K4'.out w7 F7 (fun W h => HV.out W (B7.out.trans h)))
            clear F7 b7 K3'
            go_wp2_with fail
            refine K4'.out.mono ?_
            rintro e w8 ⟨rfl, F8, b8⟩
            have F8 := Lib.hid F8
            have B8 := Lib.hid (B7.out.trans b8)
            clear b8 K4'
            go_wp2
            go_roundg (9 * sm' + 1 - S4.recs.length)
            case measure => exact HK2.out
            case rel => exact ⟨S4, _, F8.out, HI4, E1, E2, Nat.le_refl _, E3, B8.out⟩
      · have i1 : (0 : Int) < (S.wire.length : Int) := by omega
        obtain ⟨k', hk'⟩ : ∃ k', S.wire.length = k' + 1 := ⟨S.wire.length - 1, by omega⟩
        have KF := Lib.hid (FinDo_any t bs wr F hI.out hs hwk hvW.out HCH.out hbs 5 rfl (by omega))
        have HI2 := Lib.hid (hI.out.do0 (t := t) (xss := xss) (bs := bs) HCH.out hs.1 5)
        obtain ⟨e1, e2⟩ := finL_drop (t := t) (xss := xss) (bs := bs) (sm := sm') (wk := wk') hk'
        have e3 := hL.out
        rw [e1] at e3
        generalize (doS t xss bs sm' wk' (5, 0) S).2 = S2 at KF HI2 e2 e3
        have E2 := Lib.hid e2
        have E3 := Lib.hid (show (L ++ [(5, 0)]) ++ finL t xss bs sm' wk' S2 = FL by rw [List.append_assoc]; exact e3)
        have HB := Lib.hid hb
        have HK2 := Lib.hid (show k' < gk by have := hk.out; omega)
        clear F P O cl nl hB hI hk hL hb e1 e2 e3 hvW
        go_wp2_with fail
        refine KF.out.mono ?_
        rintro e w3 ⟨rfl, F3, b3⟩
        have F3 := Lib.hid F3
        have B3 := Lib.hid (HB.out.trans b3)
        clear b3 KF q6
        go_wp2
        go_roundg k'
        case measure => exact HK2.out
        case rel => exact ⟨S2, _, F3.out, HI2, E2, E3, B3.out⟩
  · have HF := Lib.hid (show finR n t xss bs sm wk ds = ([], q) by unfold finR; rw [HQ.out, if_neg h0])
    have t0 : (q != 0) = true := by simp [h0]
    clear hq h0
    go_enter Try.func23, Try.ntmps23
    go_wp2_with fail
    refine K.out.mono ?_
    rintro e w1 ⟨rfl, b1⟩
    go_wp2
    refine bodyPost_ret (v := .tuple #[.slice none 0 0, .int .i64 q]) (by simp [results, Try.results23, go_sem]) rfl ⟨_, by rw [HF.out], ?_, bx.trans (b1.mono bx.size)⟩
    rw [HF.out]
    exact Flat.Own.nil _ _
end Go.Proofs.Ytijpkcdalmlaiaa
