/-
  The reference's l09Play, RefusedDeed, HandedOut. With it: The reference's l09Begin.
-/
import Derived.Test.YtofpelmplcoegaaGreatZRowFnPlantScript39
import Derived.Test.YtofpelmplcoegaaGreatZRowFnPlantScript31
import Derived.Test.YtofpelmplcoegaaGreatZRowFnPlantScript6
import Derived.Test.YtofpelmplcoegaaGreatZRowFnPlantScript5
set_option linter.unusedVariables false
set_option linter.unusedSimpArgs false
namespace Go.Proofs.YtofpelmplcoegaaGreat
open Go.RowKit Go.Sort
theorem PlV.atBox {w : World} {b o : Nat} {B : Nat → Prop} {S : PS} {vl vr ve vh vw vo : Value} (h : PlV w B S vl vr ve vh vw vo) (hb : b < w.heap.size) (hB : ¬ B b) (hx : ∀ (i : Nat) (u : Value), (slots S vl vr ve vh vw vo)[i]? = some u → w.cell? ⟨b, o + i, none⟩ = some u) (hz : ∀ i, w.frozen? ⟨b, i, none⟩ = false) : PlIs w b o (fun k => k = b ∨ B k) S vl vr ve vh vw vo := by
  refine ⟨hx, hz, ⟨hb, h.own, ?_⟩, ?_, h.len, h.pos⟩
  · intro i j g hi hj
    cases i with
    | zero =>
      cases j with
      | zero => rfl
      | succ j =>
        simp at hi
        subst hi
        exact absurd (h.inB j b (by simpa using hj)) hB
    | succ i =>
      cases j with
      | zero =>
        simp at hj
        subst hj
        exact absurd (h.inB i b (by simpa using hi)) hB
      | succ j => have := h.sep i j g (by simpa using hi) (by simpa using hj); omega
  · intro j g hj
    cases j with
    | zero => simp at hj; exact .inl hj.symm
    | succ j => exact .inr (h.inB j g (by simpa using hj))

set_option maxRecDepth 100000 in
set_option maxHeartbeats 4000000 in
theorem l09Begin_any {sb n sm wk : Nat} {t bs : Int} {sv : Value} (w : World) (V : ServAt w sb 0 n t sv bs sm wk) (hs : 1 ≤ sm ∧ sm ≤ 8) (hwk : 1 ≤ wk ∧ wk ≤ 4) :
    Calls Tryz.prog 66 #[.pointer (some ⟨sb, 0, none⟩)] w fun e w' => e = .returned (.pointer (some ⟨w.heap.size, 0, none⟩)) ∧ (∃ vl vr ve vh vw vo, RunIs w' w.heap.size sb (fun k => w.heap.size ≤ k) (newS sm wk) vl vr ve vh vw vo) ∧ Below w.heap.size w w' := by
  have HV := Lib.hid (fun W (h : Below w.heap.size w W) => servCells (V.below h))
  have bx : Below w.heap.size w (w.alloc (.cells #[.pointer (some ⟨sb, 0, none⟩), .slice none 0 0, .slice none 0 0, .int .i64 0, .slice none 0 0, .int .i64 0, .slice none 0 0, .slice none 0 0, .slice none 0 0] 72)) := (Below.refl _ _).alloc (Nat.le_refl _) _
  have K0 := Lib.hid (CellsAt.new w [.pointer (some ⟨sb, 0, none⟩), .slice none 0 0, .slice none 0 0, .int .i64 0, .slice none 0 0, .int .i64 0, .slice none 0 0, .slice none 0 0, .slice none 0 0] 72)
  have QF := Lib.hid (show ∀ W, Below (w.heap.size + 1) (w.alloc (.cells #[.pointer (some ⟨sb, 0, none⟩), .slice none 0 0, .slice none 0 0, .int .i64 0, .slice none 0 0, .int .i64 0, .slice none 0 0, .slice none 0 0, .slice none 0 0] 72)) W → ∀ i : Nat, W.frozen? ⟨w.heap.size, i, none⟩ = false from fun W h i => by
    rw [h.frozen (p := ⟨w.heap.size, i, none⟩) (by simp)]
    simp [go_sem])
  have KF := Lib.hid (l09Fresh_any sb 0 sm n t bs wk (w.alloc (.cells #[.pointer (some ⟨sb, 0, none⟩), .slice none 0 0, .slice none 0 0, .int .i64 0, .slice none 0 0, .int .i64 0, .slice none 0 0, .slice none 0 0, .slice none 0 0] 72)) (V.below bx) (by omega))
  have BX := Lib.hid bx
  clear V bx
  go_enter Tryz.func66, Tryz.ntmps66
  go_wp2_with fail
  refine KF.out.mono ?_
  rintro e w1 ⟨vl, vr, rfl, p, b1⟩
  obtain ⟨gl, cl, gr, cr, rfl, rfl, hgne, _⟩ := DeskIs.of_pair p hs.1
  have K1 := K0.out.below b1
  have k0 := K1.get 0 _ rfl
  have k1 := K1.get 1 _ rfl
  have k2 := K1.get 2 _ rfl
  have k3 := K1.get 3 _ rfl
  have k4 := K1.get 4 _ rfl
  have k5 := K1.get 5 _ rfl
  have k6 := K1.get 6 _ rfl
  have k7 := K1.get 7 _ rfl
  have k8 := K1.get 8 _ rfl
  have hlt : w.heap.size < w1.heap.size := K1.1
  have hf := QF.out w1 (b1.mono (by simp))
  have hz1 : (w.alloc (.cells #[.pointer (some ⟨sb, 0, none⟩), .slice none 0 0, .slice none 0 0, .int .i64 0, .slice none 0 0, .int .i64 0, .slice none 0 0, .slice none 0 0, .slice none 0 0] 72)).heap.size = w.heap.size + 1 := by simp
  have f1 := hf 1
  have f2 := hf 2
  have f3 := hf 3
  have hv := newS_val (wk := 0) p (vh := .slice none 0 0) (Flat.Own.nil _ _) (fun g hg => by simp [Value.ownBlock] at hg) hs.1
  obtain ⟨W2, hW2⟩ : ∃ W2, W2 = ((w1.setCell ⟨w.heap.size, 1, none⟩ (.slice (some ⟨gl, 0, none⟩) sm cl)).setCell ⟨w.heap.size, 2, none⟩ (.slice (some ⟨gr, 0, none⟩) sm cr)).setCell ⟨w.heap.size, 3, none⟩ (.int .i64 0) := ⟨_, rfl⟩
  have fs2 : Fs (fun k => k = w.heap.size) w1 W2 := by
    rw [hW2]
    repeat (refine Fs.set (S := fun k => k = w.heap.size) ?_ rfl _)
    exact Fs.refl _ _
  have b2 : Below w.heap.size w W2 := (BX.out.trans (b1.mono (by simp))).trans (fs2.below (Nat.le_of_lt hlt) (fun k h => by omega))
  have hv2 := hv.fs fs2 (fun k hk h => by omega)
  have P2 : PlIs W2 w.heap.size 1 (fun k => w.heap.size ≤ k) (newS sm 0) (.slice (some ⟨gl, 0, none⟩) sm cl) (.slice (some ⟨gr, 0, none⟩) sm cr) (.slice none 0 0) (.slice none 0 0) (.slice none 0 0) (.slice none 0 0) := by
    refine (hv2.atBox (b := w.heap.size) (o := 1) (Nat.lt_of_lt_of_le hlt fs2.size) (by omega) (fun i u hu => ?_) (fun i => ?_)).mono (fun k hk => by omega)
    · rw [hW2]
      match i, hu with
      | 0, hu => cases hu; simp [go_sem, k1, k2, k3]
      | 1, hu => cases hu; simp [go_sem, k1, k2, k3]
      | 2, hu => cases hu; simp [go_sem, k1, k2, k3, newS]
      | 3, hu => cases hu; simp [go_sem, k4]
      | 4, hu => cases hu; simp [go_sem, k5, newS]
      | 5, hu => cases hu; simp [go_sem, k6]
      | 6, hu => cases hu; simp [go_sem, k7]
      | 7, hu => cases hu; simp [go_sem, k8]
      | i + 8, hu => simp [slots] at hu
    · rw [hW2]; simp [go_sem, hf i]
  have R2 := Lib.hid (show RunIs W2 w.heap.size sb (fun k => w.heap.size ≤ k) (newS sm 0) (.slice (some ⟨gl, 0, none⟩) sm cl) (.slice (some ⟨gr, 0, none⟩) sm cr) (.slice none 0 0) (.slice none 0 0) (.slice none 0 0) (.slice none 0 0) from ⟨P2, by rw [hW2]; simp [go_sem, k0]⟩)
  have B2 := Lib.hid b2
  have HW2 := Lib.hid hW2.symm
  unfold deskV
  clear p hv hv2 P2 fs2 b1 b2 K1 hf hW2 k0 k4 k5 k6 k7 k8 KF K0
  go_wp2
  rw [HW2.out]
  clear k1 k2 k3 f1 f2 f3
  go_loopw [4] (fun i wr => ∃ k : Nat, k ≤ wk ∧ i = .int .i64 k ∧ (∃ vl vr ve vh vw vo, RunIs wr w.heap.size sb (fun k => w.heap.size ≤ k) (newS sm k) vl vr ve vh vw vo) ∧ Below w.heap.size w wr) (fun i _ => wk - (intOf i).toNat)
  case atStart => exact ⟨0, Nat.zero_le _, rfl, ⟨_, _, _, _, _, _, R2.out⟩, B2.out⟩
  case round =>
    obtain ⟨k, hk, rfl, ⟨vl, vr, ve, vh, vw, vo, P⟩, hb⟩ := hrel
    obtain ⟨s0, s1, s2, s3, s4, s5⟩ := HV.out wr hb
    by_cases hkw : k < wk
    · have i1 : (k : Int) < (wk : Int) := by omega
      obtain ⟨⟨g0, g1, g2, g3, g4⟩, g5, g6, g7, g8⟩ := P.get
      have bd : Below wr.heap.size wr (wr.alloc (.cells #[.bool false, .int .i64 0, .int .i64 0] 121)) := (Below.refl _ _).alloc (Nat.le_refl _) _
      have PD := Lib.hid (P.below bd)
      have hrd : Rd (wr.alloc (.cells #[.bool false, .int .i64 0, .int .i64 0] 121)) (some ⟨wr.heap.size, 0, none⟩) (FHand.encs [noHand]) := rd_new wr #[.bool false, .int .i64 0, .int .i64 0] 121
      obtain ⟨vha, vhn, vhc, rfl⟩ : ∃ x y z, vh = .slice x y z := by
        obtain ⟨x, z, h1, _⟩ := ownsRow_rd (P.hold.own 3 _ rfl)
        exact ⟨x, _, z, h1⟩
      have HRD := Lib.hid hrd
      have HBD := Lib.hid (hb.trans (bd.mono hb.size))
      have hpos := P.pos
      clear bd hrd
      go_wp2_with (at_builtin; refine Flat.append_at FHand _ (.tmp 27) (.tmp 29) rfl rfl (base := 0) (v := .slice vha vhn vhc) (xs := List.replicate k noHand) (ys := [noHand]) rfl PD.out.oh rfl HRD.out (by simp; omega) (Nat.zero_le _) ?_)
      intro v' w4 o4 q4 at4
      have ek : List.replicate k noHand ++ [noHand] = List.replicate (k + 1) noHand := (List.replicate_succ' ..).symm
      rw [ek] at o4
      obtain ⟨na, nc, hv', _, _⟩ := o4.shape
      have e4 := grown_at q4 PD.out.hold.lt (PD.out.hold.ne_box (i := 3) rfl) 6
      have c4 := e4.1.trans PD.out.get.2.2.1
      have f4 := e4.2.trans (PD.out.fz 6)
      have at4 : v'.ownBlock = (Value.slice vha vhn vhc).ownBlock ∨ v'.ownBlock = some (wr.alloc (.cells #[.bool false, .int .i64 0, .int .i64 0] 121)).heap.size := by rw [show (wr.alloc (.cells #[.bool false, .int .i64 0, .int .i64 0] 121)).heap.size = wr.heap.size + 1 from by simp]; exact at4
      have P4 := PD.out.part (S' := newS sm (k + 1)) 3 5 (c' := FHand.ch v' (List.replicate (k + 1) noHand)) rfl rfl rfl (by decide) q4 o4 (m := w.heap.size) HBD.out.size (at_of at4) PD.out.len hpos
      have F4 := (Fs.of_grown (S := fun k => w.heap.size ≤ k) q4 (fun k hk => PD.out.inB 4 k (by show some (Value.ownBlock (.slice vha vhn vhc)) = some (some k); exact congrArg some hk))).set (a := ⟨w.heap.size, 1 + 5, none⟩) (Nat.le_refl _) v'
      have B4 := Lib.hid (HBD.out.trans (F4.below HBD.out.size (fun k h => h)))
      have P4 := Lib.hid (P4.mono (B' := fun k => w.heap.size ≤ k) (fun k hk => hk.elim (fun h => h) (fun h => h)))
      rw [show (FHand.ch v' (List.replicate (k + 1) noHand)).v = v' from rfl] at P4
      rw [List.length_replicate] at hv'
      subst hv'
      clear o4 q4 at4 e4 F4
      go_wp2
      go_roundw
      case rel => exact ⟨k + 1, by omega, by go_num, ⟨_, _, _, _, _, _, P4.out⟩, B4.out⟩
      case measure => simp [intOf]; omega
    · obtain rfl : k = wk := by omega
      have HP := Lib.hid P
      have HB := Lib.hid hb
      clear P hb
      go_wp2
      go_ret
      exact ⟨by rfl, ⟨_, _, _, _, _, _, HP.out⟩, HB.out⟩
end Go.Proofs.YtofpelmplcoegaaGreat
namespace Go.Proofs.YtofpelmplcoegaaGreat
open Go.RowKit Go.Sort
theorem Flat.Own.apart {α : Type} {F : Flat α} {B : Nat → Prop} {w w' : World} {base : Nat} {v : Value} {xs : List α} (h : F.Own w base v xs) (hf : Fs B w w') (hB : ∀ g, v.ownBlock = some g → ¬ B g) : F.Own w' base v xs := by
  refine ⟨h.1, ?_⟩
  rcases h.2 with h2 | ⟨g, cap, cur, rfl, h2, h3, h4⟩
  · exact .inl h2
  · refine .inr ⟨g, cap, cur, rfl, h2, ?_, h4⟩
    rw [hf.block g (Array.getElem?_eq_some_iff.1 h3).1 (hB g rfl)]
    exact h3
theorem RunIs.tight {w : World} {b sb : Nat} {B B' : Nat → Prop} {S : PS} {vl vr ve vh vw vo : Value} (h : RunIs w b sb B S vl vr ve vh vw vo) (hB : ∀ k, B k → k < w.heap.size → B' k) : RunIs w b sb B' S vl vr ve vh vw vo :=
  ⟨⟨h.box, h.fz, h.hold, fun j g hj => hB g (h.inB j g hj) (h.hold.ltAll j g hj), h.len, h.pos⟩, h.c0⟩
end Go.Proofs.YtofpelmplcoegaaGreat
