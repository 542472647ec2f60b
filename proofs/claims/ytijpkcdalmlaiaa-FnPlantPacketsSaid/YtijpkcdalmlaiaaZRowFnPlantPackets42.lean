/-
  Deeds that are drawn for a service. With it: Deeds that are drawn: most of which can be done.
-/
import Derived.Test.YtijpkcdalmlaiaaZRowFnPlantPackets37
import Derived.Test.YtijpkcdalmlaiaaZRowFnPlantPackets40
import Derived.Deep.LoopGhost
import Derived.Deep.DeepCutAuto
set_option linter.unusedVariables false
set_option linter.unusedSimpArgs false
namespace Go.Proofs.Ytijpkcdalmlaiaa
open Go.RowKit Go.Sort
/-- a source, a run, a list of deeds: all but the source above the first world -/
structure DdSt (w0 wc : World) (b bv rb K T n sm wk : Nat) (v : Value) (S : PS) (L : List (Int × Int)) : Prop where
  src : SrcB wc b K
  inv : PInv n sm wk S
  ex : ∃ (B : Nat → Prop) (vl vr ve vh vw vo : Value), RunIs wc rb bv B S vl vr ve vh vw vo ∧ (∀ g, B g → (w0.heap.size ≤ g ∧ v.ownBlock ≠ some g) ∧ g < T)
  own : FDeed.Own wc w0.heap.size v L
  ownT : ∀ g, v.ownBlock = some g → g < T
  top : T ≤ wc.heap.size
  fr : Fs (fun k => k = b) w0 wc
theorem Flat.Own.apart2 {α : Type} {F : Flat α} {B : Nat → Prop} {w w' : World} {base : Nat} {v : Value} {xs : List α} (h : F.Own w base v xs) (hf : Fs B w w') (hB : ∀ g, v.ownBlock = some g → base ≤ g → ¬ B g) : F.Own w' base v xs :=
  Flat.Own.apart h hf (fun g hg => hB g hg (World.ownsRow.lt (show World.ownsRow _ _ _ _ _ _ _ from h) g hg).1)
theorem DdSt.pick {w0 wc w' : World} {b bv rb K K' T n sm wk : Nat} {v : Value} {S : PS} {L : List (Int × Int)} (h : DdSt w0 wc b bv rb K T n sm wk v S L) (hb : b < w0.heap.size) (s : SrcB w' b K') (f : Fs (fun k => k = b) wc w') : DdSt w0 w' b bv rb K' T n sm wk v S L := by
  obtain ⟨h1, h2, ⟨B, vl, vr, ve, vh, vw, vo, P, hB⟩, h4, h5, h6, h7⟩ := h
  exact ⟨s, h2, ⟨B, vl, vr, ve, vh, vw, vo, P.fs f (fun g hg e => by have := (hB g hg).1.1; omega), hB⟩, h4.apart2 f (fun g _ hg e => by omega), h5, Nat.le_trans h6 f.size, h7.trans f⟩
theorem DdSt.new {w0 wc w' : World} {b bv rb K T n sm wk : Nat} {v : Value} {S : PS} {L : List (Int × Int)} (h : DdSt w0 wc b bv rb K T n sm wk v S L) (f : Below wc.heap.size wc w') : DdSt w0 w' b bv rb K T n sm wk v S L := by
  obtain ⟨h1, h2, ⟨B, vl, vr, ve, vh, vw, vo, P, hB⟩, h4, h5, h6, h7⟩ := h
  exact ⟨h1.below f, h2, ⟨B, vl, vr, ve, vh, vw, vo, P.below f, hB⟩, h4.below f, h5, Nat.le_trans h6 f.size, h7.trans (Fs.of_below f)⟩
theorem DdSt.box {w0 wc w' : World} {b bv rb db K T n sm wk : Nat} {v : Value} {S : PS} {L : List (Int × Int)} (h : DdSt w0 wc b bv rb K T n sm wk v S L) (hb : b < w0.heap.size) (hT : T ≤ db) (h0 : w0.heap.size ≤ db) (f : Fs (fun k => k = db) wc w') : DdSt w0 w' b bv rb K T n sm wk v S L := by
  obtain ⟨h1, h2, ⟨B, vl, vr, ve, vh, vw, vo, P, hB⟩, h4, h5, h6, h7⟩ := h
  exact ⟨h1.fs f (fun k hk => by omega), h2, ⟨B, vl, vr, ve, vh, vw, vo, P.fs f (fun g hg e => by have := (hB g hg).2; omega), hB⟩, Flat.Own.apart h4 f (fun g hg e => by have := h5 g hg; omega), h5, Nat.le_trans h6 f.size, h7.then f (fun k _ h => h) (fun k hk h => by omega)⟩
theorem DdSt.more {w0 wc : World} {b bv rb K K' T T' n sm wk : Nat} {v : Value} {S : PS} {L : List (Int × Int)} (h : DdSt w0 wc b bv rb K T n sm wk v S L) (hK : K ≤ K') (hT : T ≤ T') (ht : T' ≤ wc.heap.size) : DdSt w0 wc b bv rb K' T' n sm wk v S L := by
  obtain ⟨h1, h2, ⟨B, vl, vr, ve, vh, vw, vo, P, hB⟩, h4, h5, h6, h7⟩ := h
  exact ⟨h1.more hK, h2, ⟨B, vl, vr, ve, vh, vw, vo, P, fun g hg => ⟨(hB g hg).1, by have := (hB g hg).2; omega⟩⟩, h4, fun g hg => by have := h5 g hg; omega, ht, h7⟩
theorem deedOk_of {x a : Int} (h1 : 1 ≤ x) (h2 : x ≤ 10) (h3 : 0 ≤ a) (h4 : a ≤ 999) (h5 : a = 0 ∨ x = 1 ∨ x = 2 ∨ x = 3 ∨ x = 4 ∨ x = 5 ∨ x = 10) : deedOk x a = true := by
  unfold deedOk
  rw [inR_iff.2 ⟨h1, h2⟩, inR_iff.2 ⟨h3, h4⟩]
  rcases h5 with rfl | rfl | rfl | rfl | rfl | rfl | rfl
  · simp
  all_goals rfl
theorem BoxN.set1 {w : World} {b : Nat} {x a : Int} (h : BoxN w b [.int .i64 x, .int .i64 a]) (y : Int) : BoxN (w.setCell ⟨b, 1, none⟩ (.int .i64 y)) b [.int .i64 x, .int .i64 y] := by
  have c0 := h.c.get 0 _ rfl
  have c1 := h.c.get 1 _ rfl
  refine ⟨⟨by simpa using h.c.1, fun i u hu => ?_⟩, fun i => by simpa using h.f i⟩
  match i, hu with
  | 0, hu => simp at hu; subst hu; simp [go_sem, c0]
  | 1, hu => simp at hu; subst hu; simp [go_sem, c1]
  | i + 2, hu => simp at hu
theorem BoxN.new2 (w : World) (x a : Int) : BoxN (w.alloc (.cells #[.int .i64 x, .int .i64 a] 68)) w.heap.size [.int .i64 x, .int .i64 a] :=
  ⟨CellsAt.new w [.int .i64 x, .int .i64 a] 68, fun i => by simp [go_sem]⟩
theorem Fs.thenB {S : Nat → Prop} {w w1 w2 : World} (h : Fs S w w1) (hb : Below w.heap.size w1 w2) : Fs S w w2 :=
  h.then (T := fun k => w.heap.size ≤ k) ⟨hb.os, hb.tape, hb.output, hb.size, fun k _ hn => hb.block k (by omega)⟩ (fun _ _ h => h) (fun k hk h => by omega)
theorem Flat.Own.blkLt {α : Type} {F : Flat α} {w : World} {base : Nat} {v : Value} {xs : List α} (h : F.Own w base v xs) (g : Nat) (hg : v.ownBlock = some g) : base ≤ g ∧ g < w.heap.size := World.ownsRow.lt (show World.ownsRow _ _ _ _ _ _ _ from h) g hg
theorem hid_le {a b : Nat} (h : a ≤ b) : Hid (a ≤ b) := h

set_option maxRecDepth 100000 in
set_option maxHeartbeats 16000000 in
theorem l09Deeds_any {sv : Value} {xss : List (List Int)} (b bv K n sm wk : Nat) (t bs : Int) (w : World) (hs : SrcB w b K) (hK : K ≤ 10000) (hv : ∀ W, Fs (fun k => k = b) w W → ServAt W bv 0 n t sv bs sm wk ∧ SlII W sv xss) (hok : serviceOk n t xss bs sm wk = true) :
    Calls Try.prog 69 #[.pointer (some ⟨b, 0, none⟩), .pointer (some ⟨bv, 0, none⟩), .int .i64 40] w fun e w' => ∃ (v : Value) (ds : List (Int × Int)), e = .returned v ∧ FDeed.Own w' w.heap.size v ds ∧ (∀ d ∈ ds, deedOk d.1 d.2 = true) ∧ ds.length ≤ 40 ∧ Fs (fun k => k = b) w w' := by
  have hbw := hs.lt
  obtain ⟨hss, hwk⟩ : (1 ≤ sm ∧ sm ≤ 8) ∧ (1 ≤ wk ∧ wk ≤ 4) := by
    obtain ⟨h1, h2, h3, h4⟩ := serviceOk_parts hok
    omega
  have HOK := Lib.hid hok
  have HCH := Lib.hid (serviceOk_parts hok).1
  have HV := Lib.hid hv
  have hb1 : Below w.heap.size w (w.alloc (.cells #[] 68)) := (Below.refl _ _).alloc (Nat.le_refl _) _
  obtain ⟨W1, hW1⟩ : ∃ W1, W1 = w.alloc (.cells #[] 68) := ⟨_, rfl⟩
  have o1 := Flat.Own.empty (F := FDeed) w (base := w.heap.size) (Nat.le_refl _)
  have O1 := Lib.hid (show FDeed.Own W1 w.heap.size (.slice (some ⟨w.heap.size, 0, none⟩) 0 0) [] by rw [hW1]; exact o1)
  rw [← hW1] at hb1
  have z1 : W1.heap.size = w.heap.size + 1 := by rw [hW1]; simp
  have S1 := Lib.hid (hs.below hb1)
  have KB := Lib.hid (l09Begin_any W1 (hv W1 (Fs.of_below hb1)).1 hss hwk)
  have BW1 := Lib.hid hb1
  have Z1 := Lib.hid z1
  have HW1 := Lib.hid hW1.symm
  clear hs hok hv hb1 o1 hW1 z1
  go_enter Try.func69, Try.ntmps69
  go_wp2_with fail
  rw [HW1.out]
  refine KB.out.mono ?_
  rintro e w2 ⟨rfl, ⟨vl, vr, ve, vh, vw, vo, P2⟩, b2⟩
  have hz1 := Z1.out
  have hz2 := b2.size
  have D2 := Lib.hid (show DdSt w w2 b bv W1.heap.size K w2.heap.size n sm wk (.slice (some ⟨w.heap.size, 0, none⟩) 0 0) (newS sm wk) [] from
    ⟨S1.out.below b2, PInv.new hss.1, ⟨_, _, _, _, _, _, _, P2.tight (B' := fun g => W1.heap.size ≤ g ∧ g < w2.heap.size) (fun g h1 h2 => ⟨h1, h2⟩), fun g hg => ⟨⟨by omega, by simp [Value.ownBlock]; omega⟩, hg.2⟩⟩, O1.out.below b2, fun g hg => by simp [Value.ownBlock] at hg; omega, Nat.le_refl _, Fs.of_below (BW1.out.trans (b2.mono (by omega)))⟩)
  obtain ⟨rb, hrb⟩ : ∃ rb, rb = W1.heap.size := ⟨_, rfl⟩
  rw [← hrb] at D2
  have HRB := Lib.hid hrb.symm
  clear P2 b2 KB hrb
  rw [HRB.out]
  go_wp2_with fail
  refine (pick_any b K 41 _ D2.out.src (by omega)).mono ?_
  rintro e w3 ⟨y, rfl, hy0, hy1, s3, g3⟩
  obtain ⟨Y, rfl⟩ := Int.eq_ofNat_of_zero_le hy0
  have hY : Y ≤ 40 := by omega
  have D3 := Lib.hid ((D2.out.pick hbw s3 g3).more (Nat.le_refl _) (Nat.le_trans D2.out.top g3.size) (Nat.le_refl _))
  clear s3 g3 hy0 hy1 D2 S1 O1 BW1 hz1 hz2
  go_wp2
  go_loopg [7, 9, 10, 11] Y (fun j v i _ _ wr => ∃ (S : PS) (L : List (Int × Int)) (va : Option Addr) (vn vc : Nat), j ≤ Y ∧ i = .int .i64 j ∧ v = .slice va vn vc ∧ DdSt w wr b bv rb (K + 2 + 20 * (40 - j)) wr.heap.size n sm wk v S L ∧ Hid (∀ d ∈ L, deedOk d.1 d.2 = true) ∧ L.length + j ≤ Y)
  case atStart => exact ⟨_, [], _, _, _, Nat.le_refl _, rfl, rfl, D3.out.more (by omega) (Nat.le_refl _) (Nat.le_refl _), (fun d hd => by simp at hd), by simp⟩
  case round =>
    clear D3
    obtain ⟨S, L, va, vn, vc, hj, rfl, rfl, hD, hL, hLn⟩ := hrel
    have HD := Lib.hid hD
    by_cases hj0 : 0 < gk
    · have i0 : (0 : Int) < (gk : Int) := by omega
      obtain ⟨j, rfl⟩ : ∃ j, gk = j + 1 := ⟨gk - 1, by omega⟩
      obtain ⟨W4, hW4⟩ : ∃ W4, W4 = wr.alloc (.cells #[.int .i64 1, .int .i64 1, .int .i64 1, .int .i64 1, .int .i64 2, .int .i64 2, .int .i64 2, .int .i64 2, .int .i64 3, .int .i64 3, .int .i64 3, .int .i64 3, .int .i64 3, .int .i64 3, .int .i64 4, .int .i64 5, .int .i64 6, .int .i64 6, .int .i64 7, .int .i64 7, .int .i64 8, .int .i64 9, .int .i64 10, .int .i64 3] 2) := ⟨_, rfl⟩
      have b4 : Below wr.heap.size wr W4 := by rw [hW4]; exact (Below.refl _ _).alloc (Nat.le_refl _) _
      have OL := Lib.hid (show OwnI W4 wr.heap.size (.slice (some ⟨wr.heap.size, 0, none⟩) 24 24) [1, 1, 1, 1, 2, 2, 2, 2, 3, 3, 3, 3, 3, 3, 4, 5, 6, 6, 7, 7, 8, 9, 10, 3] by
        rw [hW4]
        exact World.ownsRow_lit (base := wr.heap.size) (e := 2) (size := 1) wr #[.int .i64 1, .int .i64 1, .int .i64 1, .int .i64 1, .int .i64 2, .int .i64 2, .int .i64 2, .int .i64 2, .int .i64 3, .int .i64 3, .int .i64 3, .int .i64 3, .int .i64 3, .int .i64 3, .int .i64 4, .int .i64 5, .int .i64 6, .int .i64 6, .int .i64 7, .int .i64 7, .int .i64 8, .int .i64 9, .int .i64 10, .int .i64 3] 24 (Nat.le_refl _) (by simp [maxLen]) (by simp))
      have D4 := Lib.hid (HD.out.new b4)
      have HSL := Lib.hid hD.src.lt
      have HW4 := Lib.hid hW4.symm
      have Z4 := Lib.hid b4.size
      clear hD b4 hW4 hj0
      go_wp2_with fail
      rw [HW4.out]
      refine (among_any b _ (xs := [1, 1, 1, 1, 2, 2, 2, 2, 3, 3, 3, 3, 3, 3, 4, 5, 6, 6, 7, 7, 8, 9, 10, 3]) _ D4.out.src (by omega) (fun W hf => (OL.out.fs hf (fun k hk => by have := HSL.out; omega)).sl) (by simp) (by simp)).mono ?_
      rintro e w5 ⟨x, hx, rfl, s5, g5⟩
      have hx1 : 1 ≤ x ∧ x ≤ 10 := by simp at hx; omega
      have hx1' := hx1.1
      have hx2' := hx1.2
      have D5 := Lib.hid (D4.out.pick hbw s5 g5)
      have bx : Below w5.heap.size w5 (w5.alloc (.cells #[.int .i64 x, .int .i64 0] 68)) := (Below.refl _ _).alloc (Nat.le_refl _) _
      obtain ⟨W6, hW6⟩ : ∃ W6, W6 = w5.alloc (.cells #[.int .i64 x, .int .i64 0] 68) := ⟨_, rfl⟩
      have BX6 := Lib.hid (show BoxN W6 w5.heap.size [.int .i64 x, .int .i64 0] by rw [hW6]; exact BoxN.new2 w5 x 0)
      rw [← hW6] at bx
      have D6 := Lib.hid (D5.out.new bx)
      have z5 : wr.heap.size ≤ w5.heap.size := Nat.le_trans Z4.out g5.size
      obtain ⟨db, hdb⟩ : ∃ db, db = w5.heap.size := ⟨_, rfl⟩
      rw [← hdb] at BX6 z5
      have HDB := Lib.hid hdb.symm
      have HW6 := Lib.hid hW6.symm
      have hwd : w.heap.size ≤ db := Nat.le_trans HD.out.fr.size z5
      have hdbb : ¬ db = b := by omega
      clear bx hW6 hdb hx s5 g5 D4 OL HSL hx1
      go_upto_block 2 with (fail)
      rw [HW6.out, HDB.out]
      go_cut [] (fun wd => ∃ a : Int, DdSt w wd b bv rb (K + 2 + 20 * (40 - (j + 1)) + 16) wr.heap.size n sm wk (.slice va vn vc) S L ∧ BoxN wd db [.int .i64 x, .int .i64 a] ∧ deedOk x a = true)
      case first =>
        obtain ⟨V6, _⟩ := HV.out W6 D6.out.fr
        obtain ⟨p0, p1, p2, p3, p4, p5⟩ := servCells V6
        have c0 := BX6.out.c.get 0 _ rfl
        clear p0 p1 p2 p3 p4
        by_cases h1 : x = 1 ∨ x = 10
        · rcases h1 with rfl | rfl
          all_goals
            go_wp2_with fail
            refine (pick_any b _ wk _ D6.out.src (by omega)).mono ?_
            rintro e w7 ⟨y, rfl, hy0, hy1, s7, g7⟩
            have D7 := D6.out.pick hbw s7 g7
            have bx7 := BX6.out.fs g7 hdbb
            have d1 := bx7.c.get 1 _ rfl
            have f1 := bx7.f 1
            have HN := Lib.hid (D7.box hbw z5 hwd (Fs.set1 w7 db 1 (.int .i64 y)))
            have HX := Lib.hid (bx7.set1 y)
            have HDK := Lib.hid (show deedOk _ y = true from deedOk_of hx1' hx2' hy0 (by omega) (by omega))
            clear D7 bx7 s7 g7 hy0 hy1 c0 p5
            go_wp2_with fail
            go_meet
            case rel => exact ⟨y, HN.out.more (by omega) (Nat.le_refl _) HN.out.top, HX.out, HDK.out⟩
        · by_cases h2 : x = 2
          · subst h2
            clear h1
            go_wp2_with fail
            refine (pick_any b _ wk _ D6.out.src (by omega)).mono ?_
            rintro e w7 ⟨y, rfl, hy0, hy1, s7, g7⟩
            have D7 := D6.out.pick hbw s7 g7
            have bx7 := BX6.out.fs g7 hdbb
            have d1 := bx7.c.get 1 _ rfl
            have f1 := bx7.f 1
            have HN := D7.box hbw z5 hwd (Fs.set1 w7 db 1 (.int .i64 y))
            have HX := bx7.set1 y
            have hy9 : y ≤ 999 := by omega
            obtain ⟨W8, hW8⟩ : ∃ W8, W8 = w7.setCell ⟨db, 1, none⟩ (.int .i64 y) := ⟨_, rfl⟩
            rw [← hW8] at HN HX
            have HN := Lib.hid HN
            have HX := Lib.hid HX
            have HW8 := Lib.hid hW8.symm
            clear D7 bx7 s7 g7 hy1 c0 p5 hW8
            go_wp2
            rw [HW8.out]
            go_loopg [11] wk (fun f i wi => ∃ (jj : Nat) (a : Int), i = .int .i64 jj ∧ jj ≤ wk ∧ f = wk - jj ∧ DdSt w wi b bv rb (K + 2 + 20 * (40 - (j + 1)) + 4 + 2 * jj) wr.heap.size n sm wk (.slice va vn vc) S L ∧ BoxN wi db [.int .i64 2, .int .i64 a] ∧ 0 ≤ a ∧ a ≤ 999)
            case atStart => exact ⟨0, y, rfl, Nat.zero_le _, rfl, HN.out.more (by omega) (Nat.le_refl _) HN.out.top, HX.out, hy0, hy9⟩
            case round =>
              obtain ⟨jj, a, rfl, hjj, rfl, hI, hX, ha0, ha9⟩ := hrel
              have HI := Lib.hid hI
              have HXX := Lib.hid hX
              obtain ⟨B, vl, vr, ve, vh, vw, vo, P, hB⟩ := hI.ex
              have hhl := hI.inv.hl
              obtain ⟨ha, hc, rfl, _, _⟩ := P.oh.shape
              have q6 := P.get.2.2.1
              rw [hhl] at q6
              clear hI hX
              by_cases hjl : jj < wk
              · obtain ⟨hb, ho, hhe, _, e0, _, _⟩ := FHand_at P.oh.sl (i := jj) (by omega)
                subst hhe
                have i1 : (jj : Int) < (wk : Int) := by omega
                generalize hbz : (S.hands[jj]'(by omega)).1 = bz at e0
                clear hbz P hB
                cases bz
                · go_wp2
                  go_roundg (wk - (jj + 1))
                  case measure => omega
                  case rel => exact ⟨jj + 1, a, by go_num, by omega, rfl, HI.out.more (by omega) (Nat.le_refl _) HI.out.top, HXX.out, ha0, ha9⟩
                · go_wp2_with fail
                  refine (one_any b _ 4 _ HI.out.src (by omega)).mono ?_
                  rintro e w9 ⟨d, rfl, s9, g9⟩
                  have D9 := Lib.hid (HI.out.pick hbw s9 g9)
                  have bx9 := HXX.out.fs g9 hdbb
                  have d1' := bx9.c.get 1 _ rfl
                  have f1' := bx9.f 1
                  have BX9 := Lib.hid bx9
                  have HN9 := Lib.hid (D9.out.box hbw z5 hwd (Fs.set1 w9 db 1 (.int .i64 jj)))
                  have HX9 := Lib.hid (bx9.set1 jj)
                  clear bx9 s9 g9 e0 q6
                  cases d
                  · go_wp2
                    go_roundg (wk - (jj + 1))
                    case measure => omega
                    case rel => exact ⟨jj + 1, jj, by go_num, by omega, rfl, HN9.out.more (by omega) (Nat.le_refl _) HN9.out.top, HX9.out, by omega, by omega⟩
                  · go_wp2
                    go_roundg (wk - (jj + 1))
                    case measure => omega
                    case rel => exact ⟨jj + 1, a, by go_num, by omega, rfl, D9.out.more (by omega) (Nat.le_refl _) D9.out.top, BX9.out, ha0, ha9⟩
              · obtain rfl : jj = wk := by omega
                clear P hB
                go_wp2_with fail
                go_meet
                case rel => exact ⟨a, HI.out.more (by omega) (Nat.le_refl _) HI.out.top, HXX.out, deedOk_of hx1' hx2' ha0 ha9 (by omega)⟩
          · by_cases h3 : x = 3 ∨ x = 4 ∨ x = 5
            · obtain ⟨B, vl, vr, ve, vh, vw, vo, P, hB⟩ := D6.out.ex
              have hwl := D6.out.inv.wl
              obtain ⟨wa, wcap, rfl, _, _⟩ := P.ow.shape
              have q7 := P.get.2.2.2.1
              have hrl := P.hold.lt
              have hrbB := hB rb (P.toPlIs.inB 0 rb rfl)
              have hrbb : ¬ rb = b := by have := hrbB.1.1; omega
              have HQ := Lib.hid (show ∀ W, Fs (fun k => k = b) W6 W → W.cell? ⟨rb, 7, none⟩ = some (.slice wa S.wire.length wcap) from fun W h => (h.cell (p := ⟨rb, 7, none⟩) hrl hrbb).trans q7)
              clear P hB h1 h2 q7 hrl hrbB p5
              rcases h3 with rfl | rfl | rfl
              all_goals
                go_wp2_with fail
                refine wpX_start (fun W => W.cell? ⟨rb, 7, none⟩ = some (.slice wa S.wire.length wcap)) [13] (by kernel_rfl) ?_
                have bD : Below W6.heap.size W6 W6.drew := (Below.refl _ _).drew
                have hC := HQ.out W6.drew (Fs.of_below bD)
                refine wpX_free (i := 0) (v := ?_) rfl (by kernel_rfl) (fun _ _ _ h => h) rfl (fun w' => ?_) ?_
                rotate_left
                · go_simp; try with_reducible rfl
                try simp only [Act.put, List.setIfInBounds_toArray, List.set_cons_zero, List.set_cons_succ]
                refine wpX_free (i := 1) (v := ?_) rfl (by kernel_rfl) (fun _ _ _ h => h) rfl (fun w' => ?_) ?_
                rotate_left
                · go_simp; try with_reducible rfl
                try simp only [Act.put, List.setIfInBounds_toArray, List.set_cons_zero, List.set_cons_succ]
                refine wpX_free (i := 2) (v := ?_) rfl (by kernel_rfl) (fun _ _ _ h => h) rfl (fun w' => ?_) ?_
                rotate_left
                · go_simp; try with_reducible rfl
                try simp only [Act.put, List.setIfInBounds_toArray, List.set_cons_zero, List.set_cons_succ]
                refine wpX_free (i := 3) (v := ?_) rfl (by kernel_rfl) (fun _ _ _ h => h) rfl (fun w' => ?_) ?_
                rotate_left
                · go_simp; try with_reducible rfl
                try simp only [Act.put, List.setIfInBounds_toArray, List.set_cons_zero, List.set_cons_succ]
                refine wpX_free (i := 4) (v := ?_) rfl (by kernel_rfl) (fun _ _ _ h => h) rfl (fun w' => ?_) ?_
                rotate_left
                · go_simp; try with_reducible rfl
                try simp only [Act.put, List.setIfInBounds_toArray, List.set_cons_zero, List.set_cons_succ]
                refine wpX_load (i := 5) (v := ?_) rfl (by kernel_rfl) (fun _ _ _ h => h) hC rfl (fun w' hw' => ?_) ?_
                rotate_left
                · have k1 := hw'; go_simp; try with_reducible rfl
                try simp only [Act.put, List.setIfInBounds_toArray, List.set_cons_zero, List.set_cons_succ]
                refine wpX_free (i := 6) (v := ?_) rfl (by kernel_rfl) (fun _ _ _ h => h) rfl (fun w' => ?_) ?_
                rotate_left
                · go_simp; try with_reducible rfl
                try simp only [Act.put, List.setIfInBounds_toArray, List.set_cons_zero, List.set_cons_succ]
                refine wpX_free (i := 7) (v := ?_) rfl (by kernel_rfl) (fun _ _ _ h => h) rfl (fun w' => ?_) ?_
                rotate_left
                · go_simp; try with_reducible rfl
                try simp only [Act.put, List.setIfInBounds_toArray, List.set_cons_zero, List.set_cons_succ]
                refine wpX_one (i := 8) rfl (by kernel_rfl) rfl ?_
                intro K' hK'
                go_simp
                go_at_call 106
                refine (pick_any b _ 12 _ (D6.out.new bD).src (by omega)).mono ?_
                rintro e w7 ⟨y, rfl, hy0, hy1, s7, g7⟩
                have D7 := Lib.hid ((D6.out.new bD).pick hbw s7 g7)
                have BX7 := Lib.hid ((BX6.out.fs (S := fun k => k = b) (Fs.of_below bD) hdbb).fs g7 hdbb)
                have g67 := (Fs.of_below (S := fun k => k = b) bD).trans g7
                have hC := HQ.out w7 g67
                refine hK' _ _ hC ?_
                clear hK' K'
                obtain ⟨y, rfl⟩ := Int.eq_ofNat_of_zero_le hy0
                obtain ⟨q, e9a, e9b, e9c, hq1⟩ : ∃ q : Nat, (y : Int).tdiv 11 = (q : Int) ∧ (y : Int) / 11 = (q : Int) ∧ IntKind.i64.wrap ((q : Int)) = (q : Int) ∧ q ≤ 1 := ⟨y / 11, by rw [Int.tdiv_eq_ediv_of_nonneg (by omega)]; omega, by omega, IntWalk.i64_in _ (by omega), by omega⟩
                have e10 : IntKind.i64.wrap ((S.wire.length : Int) + (q : Int)) = (S.wire.length : Int) + (q : Int) := IntWalk.i64_in _ (by omega)
                clear s7 g7 hy1 hy0
                try simp only [Act.put, List.setIfInBounds_toArray, List.set_cons_zero, List.set_cons_succ]
                refine wpX_free (i := 9) (v := ?_) rfl (by kernel_rfl) (fun _ _ _ h => h) rfl (fun w' => ?_) ?_
                rotate_left
                · go_simp; try with_reducible rfl
                try simp only [Act.put, List.setIfInBounds_toArray, List.set_cons_zero, List.set_cons_succ]
                refine wpX_free (i := 10) (v := ?_) rfl (by kernel_rfl) (fun _ _ _ h => h) rfl (fun w' => ?_) ?_
                rotate_left
                · go_simp; try with_reducible rfl
                try simp only [Act.put, List.setIfInBounds_toArray, List.set_cons_zero, List.set_cons_succ]
                refine wpX_one (i := 11) rfl (by kernel_rfl) rfl ?_
                intro K' hK'
                go_simp
                go_at_call 106
                refine (pick_any b _ ((S.wire.length : Int) + (q : Int)) _ D7.out.src (by omega)).mono ?_
                rintro e w8 ⟨z, rfl, hz0, hz1, s8, g8⟩
                have D8 := D7.out.pick hbw s8 g8
                have bx8 := BX7.out.fs g8 hdbb
                have hC := HQ.out w8 (g67.trans g8)
                refine hK' _ _ hC ?_
                clear hK' K'
                have d1 := bx8.c.get 1 _ rfl
                have f1 := bx8.f 1
                have HN := Lib.hid (D8.box hbw z5 hwd (Fs.set1 w8 db 1 (.int .i64 z)))
                have HX := Lib.hid (bx8.set1 z)
                have HDK := Lib.hid (show deedOk _ z = true from deedOk_of hx1' hx2' hz0 (by omega) (by omega))
                clear D8 bx8 s8 g8 hz0 hz1 c0 e9a e9b e9c e10 g67
                try simp only [Act.put, List.setIfInBounds_toArray, List.set_cons_zero, List.set_cons_succ]
                refine wpX_free (i := 12) (v := ?_) rfl (by kernel_rfl) (fun _ _ _ h => h) rfl (fun w' => ?_) ?_
                rotate_left
                · go_simp; try with_reducible rfl
                try simp only [Act.put, List.setIfInBounds_toArray, List.set_cons_zero, List.set_cons_succ]
                refine wpX_rest (t := [13]) (l := [_]) rfl (by kernel_rfl) (by kernel_rfl) ?_
                clear hC
                go_wp2_with fail
                go_meet
                case rel => exact ⟨z, HN.out.more (by omega) (Nat.le_refl _) HN.out.top, HX.out, HDK.out⟩
            · have t1 : (x == 1) = false := by rw [beq_eq_false_iff_ne]; omega
              have t2 : (x == 2) = false := by rw [beq_eq_false_iff_ne]; omega
              have t3 : (x == 3) = false := by rw [beq_eq_false_iff_ne]; omega
              have t4 : (x == 4) = false := by rw [beq_eq_false_iff_ne]; omega
              have t5 : (x == 5) = false := by rw [beq_eq_false_iff_ne]; omega
              have t10 : (x == 10) = false := by rw [beq_eq_false_iff_ne]; omega
              clear h1 h2 h3 p5
              go_wp2_with fail
              go_meet
              case rel => exact ⟨0, D6.out.more (by omega) (Nat.le_refl _) D6.out.top, BX6.out, deedOk_of hx1' hx2' (Int.le_refl 0) (by omega) (by omega)⟩
      case rest =>
        obtain ⟨a, hDd, hBX, hdk⟩ := hcut
        have DD := Lib.hid hDd
        obtain ⟨B, vl, vr, ve, vh, vw, vo, P, hB⟩ := hDd.ex
        have O0 := hDd.own
        obtain ⟨_, hvn⟩ : ∃ u : Unit, vn = L.length := ⟨(), by obtain ⟨x1, x2, x3, _⟩ := O0.shape; simp at x3; exact x3.2.1⟩
        subst hvn
        have c0 := hBX.c.get 0 _ rfl
        have c1 := hBX.c.get 1 _ rfl
        have bd : Below wc.heap.size wc (wc.alloc (.cells #[.int .i64 x, .int .i64 a] 68)) := (Below.refl _ _).alloc (Nat.le_refl _) _
        have PD := Lib.hid (P.below bd)
        have OD := Lib.hid (O0.below bd)
        have HRD := Lib.hid (show Rd (wc.alloc (.cells #[.int .i64 x, .int .i64 a] 68)) (some ⟨wc.heap.size, 0, none⟩) (FDeed.encs [(x, a)]) from rd_new wc #[.int .i64 x, .int .i64 a] 68)
        have HBX := Lib.hid (hBX.fs (S := fun _ => False) (Fs.of_below bd) (fun h => h))
        have FRD := Lib.hid (hDd.fr.trans (Fs.of_below bd))
        have HB := Lib.hid hB
        have hT := Lib.hid hDd.top
        have HSR := Lib.hid (hDd.src.below bd)
        have HOT := Lib.hid hDd.ownT
        have hz0 := Lib.hid hDd.fr.size
        have hln : L.length + [(x, a)].length ≤ 16777216 := by simp; omega
        have HINV := Lib.hid hDd.inv
        clear hDd hBX P hB O0 bd BX6 D6 D5 HD
        go_wp2_with (at_builtin; refine Flat.append_at FDeed _ (.tmp 91) (.tmp 93) rfl rfl (base := w.heap.size) (v := .slice va L.length vc) (xs := L) (ys := [(x, a)]) rfl OD.out rfl HRD.out hln FRD.out.size ?_)
        intro v' w8 o8 q8 at8
        have F8 := Fs.of_grown (S := fun g => (Value.slice va L.length vc).ownBlock = some g) q8 (fun g hg => hg)
        have P8 := PD.out.fs F8 (fun g hg h => (HB.out g hg).1.2 h)
        have hdv : ¬ (Value.slice va L.length vc).ownBlock = some db := fun h => by have := HOT.out _ h; omega
        have bx8 := HBX.out.fs F8 hdv
        have e0 := bx8.c.get 0 _ rfl
        have e1 := bx8.c.get 1 _ rfl
        have FR8 := FRD.out.then (R := fun k => k = b) F8 (fun _ _ h => h) (fun k hk h => by have := (OD.out.blkLt k h).1; omega)
        have S8 := HSR.out.fs F8 (fun k h => by have := (OD.out.blkLt k h).1; omega)
        have at8 : v'.ownBlock = (Value.slice va L.length vc).ownBlock ∨ v'.ownBlock = some (wc.heap.size + 1) := by simpa using at8
        have HV8 : SvF w.heap.size w8 bv n t sv xss bs sm wk := ⟨FR8.size, fun W h => HV.out W (FR8.thenB h)⟩
        have KD := Lib.hid (RnDo_any w8 P8 HV8 (fun g hg => (HB.out g hg).1.1) HINV.out HOK.out x a hdk)
        have ha0 : 0 ≤ a := by
          unfold deedOk at hdk
          rw [Bool.and_eq_true, Bool.and_eq_true] at hdk
          exact (inR_iff.1 hdk.2.1).1
        have HIN := Lib.hid (HINV.out.do_ (t := t) (xss := xss) (bs := bs) HCH.out hss.1 (d := (x, a)) ha0)
        generalize (doS t xss bs sm wk (x, a) S) = R at KD HIN
        obtain ⟨rc, Sn⟩ := R
        have O8 := Lib.hid o8
        have FR8 := Lib.hid FR8
        have S8 := Lib.hid S8
        have HVG := Lib.hid (show ∀ g, B g → v'.ownBlock ≠ some g from fun g hg h => at8.elim (fun h2 => (HB.out g hg).1.2 (h2 ▸ h)) (fun h2 => by rw [h2] at h; simp at h; have := (HB.out g hg).2; have := hT.out; omega))
        obtain ⟨na, nc, hv', _, _⟩ := o8.shape
        simp only [List.length_append, List.length_cons, List.length_nil, Nat.zero_add] at hv'
        subst hv'
        clear P8 F8 bx8 o8 q8 at8 c0 c1 HV8
        go_wp2_with fail
        refine KD.out.mono ?_
        intro e w9 h
        obtain ⟨rfl, ⟨vl', vr', ve', vh', vw', vo', P9⟩, F9⟩ := h
        have hz8 : w.heap.size ≤ w8.heap.size := FR8.out.size
        have P9 := P9.tight (B' := fun g => (w.heap.size ≤ g ∧ (Value.slice na (L.length + 1) nc).ownBlock ≠ some g) ∧ g < w9.heap.size) (fun g h1 h2 => ⟨h1.elim (fun h => ⟨(HB.out g h).1.1, HVG.out g h⟩) (fun h => ⟨Nat.le_trans hz8 h, fun h3 => by have := (O8.out.blkLt g h3).2; omega⟩), h2⟩)
        have DN := Lib.hid (show DdSt w w9 b bv rb (K + 2 + 20 * (40 - (j + 1)) + 16) w9.heap.size n sm wk (.slice na (L.length + 1) nc) Sn (L ++ [(x, a)]) from
          ⟨S8.out.fs F9 (fun k h => by have := (HB.out k h).1.1; omega), HIN.out, ⟨_, _, _, _, _, _, _, P9, fun g hg => hg⟩, Flat.Own.apart O8.out F9 (fun g hg h => HVG.out g h hg), fun g hg => Nat.lt_of_lt_of_le (O8.out.blkLt g hg).2 F9.size, Nat.le_refl _, FR8.out.then F9 (fun _ _ h => h) (fun k hk h => by have := (HB.out k h).1.1; omega)⟩)
        have HDK := Lib.hid hdk
        clear P9 F9 e0 e1 hdk
        go_wp2
        go_roundg j
        case measure => omega
        case rel =>
          refine ⟨Sn, L ++ [(x, a)], na, _, nc, by omega, by go_num, rfl, DN.out.more (by omega) (Nat.le_refl _) (Nat.le_refl _), (fun d hd => ?_), by simp; omega⟩
          rcases List.mem_append.1 hd with hd | hd
          · exact hL.out d hd
          · rw [List.mem_singleton.1 hd]; exact HDK.out
    · obtain rfl : gk = 0 := by omega
      have HO := Lib.hid hD.own
      have HFR := Lib.hid hD.fr
      clear hD
      go_wp2
      go_ret
      exact ⟨_, L, rfl, HO.out, hL.out, by omega, HFR.out⟩
end Go.Proofs.Ytijpkcdalmlaiaa
namespace Go.Proofs.Ytijpkcdalmlaiaa
open Go.RowKit Go.Sort

set_option maxRecDepth 100000 in
set_option maxHeartbeats 4000000 in
theorem A2Deeds_any {sv : Value} {xss : List (List Int)} {xs : List Int} (ad : Option Addr) (an ac n sm wk : Nat) (t bs : Int) (w : World) (hn : an ≤ 4096) (hx : xs.length = an) (hr : Rd w ad (xs.map (.int .u8))) (hb : ∀ x ∈ xs, 0 ≤ x ∧ x < 256) (ha : SlII w sv xss) (hok : serviceOk n t xss bs sm wk = true) :
    Calls Try.prog 29 #[.slice ad an ac, .agg #[.int .i64 n, .int .i64 t, sv, .int .i64 bs, .int .i64 sm, .int .i64 wk]] w fun e w' => ∃ (v : Value) (ds : List (Int × Int)), e = .returned v ∧ FDeed.Own w' w.heap.size v ds ∧ (∀ d ∈ ds, deedOk d.1 d.2 = true) ∧ ds.length ≤ 40 ∧ Below w.heap.size w w' := by
  obtain ⟨W1, hW1⟩ : ∃ W1, W1 = w.alloc (.cells #[.int .i64 n, .int .i64 t, sv, .int .i64 bs, .int .i64 sm, .int .i64 wk] 35) := ⟨_, rfl⟩
  have bx : Below w.heap.size w W1 := by rw [hW1]; exact (Below.refl _ _).alloc (Nat.le_refl _) _
  have KV : ServAt W1 w.heap.size 0 n t sv bs sm wk := by rw [hW1]; exact svBox w n t sv bs sm wk
  have zx : W1.heap.size = w.heap.size + 1 := by rw [hW1]; simp
  have AW := Lib.hid (ha.below bx)
  have HR := Lib.hid (hr.below bx)
  have HB := Lib.hid hb
  have HXX := Lib.hid hx
  have HOK := Lib.hid hok
  have HKV := Lib.hid KV
  have HBX := Lib.hid bx
  have HZX := Lib.hid zx
  have HW1 := Lib.hid hW1.symm
  clear hb hx hok KV bx zx ha hr hW1
  go_enter Try.func29, Try.ntmps29
  go_wp2_with fail
  rw [HW1.out]
  refine (l00From_any ad an ac _ hn HXX.out HR.out HB.out).mono ?_
  rintro e w1 ⟨rfl, s1, b1⟩
  have HB1 := Lib.hid b1
  have HS1 := Lib.hid s1
  obtain ⟨b, hb⟩ : ∃ b, b = W1.heap.size := ⟨_, rfl⟩
  have hbz : b = w.heap.size + 1 := hb.trans HZX.out
  have K := Lib.hid (l09Deeds_any (sv := sv) (xss := xss) b w.heap.size 0 n sm wk t bs w1 (hb ▸ HS1.out) (by omega) (fun W h => by
    have hW : Below W1.heap.size W1 W := HB1.out.trans (h.below HB1.out.size (fun k hk => by omega))
    exact ⟨HKV.out.below hW, AW.out.below hW⟩) HOK.out)
  have HBB := Lib.hid hb.symm
  have HBZ := Lib.hid hbz
  clear b1 s1 hb hbz
  rw [HBB.out]
  go_wp2_with fail
  refine K.out.mono ?_
  rintro e w2 ⟨v, ds, rfl, o2, h2, h3, f2⟩
  have zb := HB1.out.size
  have hbz := HBZ.out
  have hbw : W1.heap.size = b := HBB.out
  have B2 := Lib.hid (HBX.out.trans ((HB1.out.trans (f2.below HB1.out.size (fun k hk => by omega))).mono HBX.out.size))
  have zw := HBX.out.size
  have O2 := Lib.hid (o2.lower (base' := w.heap.size) (by omega))
  clear f2 o2 zb hbw zw hbz
  go_wp2
  go_ret
  exact ⟨_, ds, rfl, O2.out, h2, h3, B2.out⟩
end Go.Proofs.Ytijpkcdalmlaiaa
