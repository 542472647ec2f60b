/-
  FnExactHandedOut: both answer the same, and leave what they are given as it was. With it: The reference's l09Begin. The reference's l09Play, RefusedDeed, HandedOut.
-/
import Derived.Test.YtijpkcdalmlaiaaZRowHandedOut39
import Derived.Test.YtijpkcdalmlaiaaZRowHandedOut36
import Derived.Test.YtijpkcdalmlaiaaZRowHandedOut7
import Derived.Test.YtijpkcdalmlaiaaZRowHandedOut5
import Derived.Test.YtijpkcdalmlaiaaZRowHandedOut8
import Derived.Test.YtijpkcdalmlaiaaZRowHandedOut6
import Derived.Deep.RegionWith
import Derived.Deep.DeepCutAuto
set_option linter.unusedVariables false
set_option linter.unusedSimpArgs false
namespace Go.Proofs.Ytijpkcdalmlaiaa
open Go.RowKit Go.Sort
theorem PlV.atBox {w : World} {b o : Nat} {B : Nat → Prop} {S : PS} {vl vr ve vh vw vo : Value} (h : PlV w B S vl vr ve vh vw vo) (hb : b < w.heap.size) (hB : ¬ B b) (hx : ∀ (i : Nat) (u : Value), (slots S vl vr ve vh vw vo)[i]? = some u → w.cell? ⟨b, o + i, none⟩ = some u) (hz : ∀ i, w.frozen? ⟨b, i, none⟩ = false) : PlIs w b o (fun k => k = b ∨ B k) S vl vr ve vh vw vo := by
  refine ⟨hx, hz, ⟨hb, h.own, ?_⟩, ?_, h.len, h.pos⟩
  · intro i j g hi hj
    cases i with
    | zero =>
      cases j with
      | zero => rfl
      | succ j =>
        simp at hi
        subst hi
        exact absurd (h.inB j b (by simpa using hj)) hB
    | succ i =>
      cases j with
      | zero =>
        simp at hj
        subst hj
        exact absurd (h.inB i b (by simpa using hi)) hB
      | succ j => have := h.sep i j g (by simpa using hi) (by simpa using hj); omega
  · intro j g hj
    cases j with
    | zero => simp at hj; exact .inl hj.symm
    | succ j => exact .inr (h.inB j g (by simpa using hj))

set_option maxRecDepth 100000 in
set_option maxHeartbeats 4000000 in
theorem l09Begin_any {sb n sm wk : Nat} {t bs : Int} {sv : Value} (w : World) (V : ServAt w sb 0 n t sv bs sm wk) (hs : 1 ≤ sm ∧ sm ≤ 8) (hwk : 1 ≤ wk ∧ wk ≤ 4) :
    Calls Try.prog 57 #[.pointer (some ⟨sb, 0, none⟩)] w fun e w' => e = .returned (.pointer (some ⟨w.heap.size, 0, none⟩)) ∧ (∃ vl vr ve vh vw vo, RunIs w' w.heap.size sb (fun k => w.heap.size ≤ k) (newS sm wk) vl vr ve vh vw vo) ∧ Below w.heap.size w w' := by
  have HV := Lib.hid (fun W (h : Below w.heap.size w W) => servCells (V.below h))
  have bx : Below w.heap.size w (w.alloc (.cells #[.pointer (some ⟨sb, 0, none⟩), .slice none 0 0, .slice none 0 0, .int .i64 0, .slice none 0 0, .int .i64 0, .slice none 0 0, .slice none 0 0, .slice none 0 0] 83)) := (Below.refl _ _).alloc (Nat.le_refl _) _
  have K0 := Lib.hid (CellsAt.new w [.pointer (some ⟨sb, 0, none⟩), .slice none 0 0, .slice none 0 0, .int .i64 0, .slice none 0 0, .int .i64 0, .slice none 0 0, .slice none 0 0, .slice none 0 0] 83)
  have QF := Lib.hid (show ∀ W, Below (w.heap.size + 1) (w.alloc (.cells #[.pointer (some ⟨sb, 0, none⟩), .slice none 0 0, .slice none 0 0, .int .i64 0, .slice none 0 0, .int .i64 0, .slice none 0 0, .slice none 0 0, .slice none 0 0] 83)) W → ∀ i : Nat, W.frozen? ⟨w.heap.size, i, none⟩ = false from fun W h i => by
    rw [h.frozen (p := ⟨w.heap.size, i, none⟩) (by simp)]
    simp [go_sem])
  have KF := Lib.hid (l09Fresh_any sb 0 sm n t bs wk (w.alloc (.cells #[.pointer (some ⟨sb, 0, none⟩), .slice none 0 0, .slice none 0 0, .int .i64 0, .slice none 0 0, .int .i64 0, .slice none 0 0, .slice none 0 0, .slice none 0 0] 83)) (V.below bx) (by omega))
  have BX := Lib.hid bx
  clear V bx
  go_enter Try.func57, Try.ntmps57
  go_wp2_with fail
  refine KF.out.mono ?_
  rintro e w1 ⟨vl, vr, rfl, p, b1⟩
  obtain ⟨gl, cl, gr, cr, rfl, rfl, hgne, _⟩ := DeskIs.of_pair p hs.1
  have K1 := K0.out.below b1
  have k0 := K1.get 0 _ rfl
  have k1 := K1.get 1 _ rfl
  have k2 := K1.get 2 _ rfl
  have k3 := K1.get 3 _ rfl
  have k4 := K1.get 4 _ rfl
  have k5 := K1.get 5 _ rfl
  have k6 := K1.get 6 _ rfl
  have k7 := K1.get 7 _ rfl
  have k8 := K1.get 8 _ rfl
  have hlt : w.heap.size < w1.heap.size := K1.1
  have hf := QF.out w1 (b1.mono (by simp))
  have hz1 : (w.alloc (.cells #[.pointer (some ⟨sb, 0, none⟩), .slice none 0 0, .slice none 0 0, .int .i64 0, .slice none 0 0, .int .i64 0, .slice none 0 0, .slice none 0 0, .slice none 0 0] 83)).heap.size = w.heap.size + 1 := by simp
  have f1 := hf 1
  have f2 := hf 2
  have f3 := hf 3
  have hv := newS_val (wk := 0) p (vh := .slice none 0 0) (Flat.Own.nil _ _) (fun g hg => by simp [Value.ownBlock] at hg) hs.1
  obtain ⟨W2, hW2⟩ : ∃ W2, W2 = ((w1.setCell ⟨w.heap.size, 1, none⟩ (.slice (some ⟨gl, 0, none⟩) sm cl)).setCell ⟨w.heap.size, 2, none⟩ (.slice (some ⟨gr, 0, none⟩) sm cr)).setCell ⟨w.heap.size, 3, none⟩ (.int .i64 0) := ⟨_, rfl⟩
  have fs2 : Fs (fun k => k = w.heap.size) w1 W2 := by
    rw [hW2]
    repeat (refine Fs.set (S := fun k => k = w.heap.size) ?_ rfl _)
    exact Fs.refl _ _
  have b2 : Below w.heap.size w W2 := (BX.out.trans (b1.mono (by simp))).trans (fs2.below (Nat.le_of_lt hlt) (fun k h => by omega))
  have hv2 := hv.fs fs2 (fun k hk h => by omega)
  have P2 : PlIs W2 w.heap.size 1 (fun k => w.heap.size ≤ k) (newS sm 0) (.slice (some ⟨gl, 0, none⟩) sm cl) (.slice (some ⟨gr, 0, none⟩) sm cr) (.slice none 0 0) (.slice none 0 0) (.slice none 0 0) (.slice none 0 0) := by
    refine (hv2.atBox (b := w.heap.size) (o := 1) (Nat.lt_of_lt_of_le hlt fs2.size) (by omega) (fun i u hu => ?_) (fun i => ?_)).mono (fun k hk => by omega)
    · rw [hW2]
      match i, hu with
      | 0, hu => cases hu; simp [go_sem, k1, k2, k3]
      | 1, hu => cases hu; simp [go_sem, k1, k2, k3]
      | 2, hu => cases hu; simp [go_sem, k1, k2, k3, newS]
      | 3, hu => cases hu; simp [go_sem, k4]
      | 4, hu => cases hu; simp [go_sem, k5, newS]
      | 5, hu => cases hu; simp [go_sem, k6]
      | 6, hu => cases hu; simp [go_sem, k7]
      | 7, hu => cases hu; simp [go_sem, k8]
      | i + 8, hu => simp [slots] at hu
    · rw [hW2]; simp [go_sem, hf i]
  have R2 := Lib.hid (show RunIs W2 w.heap.size sb (fun k => w.heap.size ≤ k) (newS sm 0) (.slice (some ⟨gl, 0, none⟩) sm cl) (.slice (some ⟨gr, 0, none⟩) sm cr) (.slice none 0 0) (.slice none 0 0) (.slice none 0 0) (.slice none 0 0) from ⟨P2, by rw [hW2]; simp [go_sem, k0]⟩)
  have B2 := Lib.hid b2
  have HW2 := Lib.hid hW2.symm
  unfold deskV
  clear p hv hv2 P2 fs2 b1 b2 K1 hf hW2 k0 k4 k5 k6 k7 k8 KF K0
  go_wp2
  rw [HW2.out]
  clear k1 k2 k3 f1 f2 f3
  go_loopw [4] (fun i wr => ∃ k : Nat, k ≤ wk ∧ i = .int .i64 k ∧ (∃ vl vr ve vh vw vo, RunIs wr w.heap.size sb (fun k => w.heap.size ≤ k) (newS sm k) vl vr ve vh vw vo) ∧ Below w.heap.size w wr) (fun i _ => wk - (intOf i).toNat)
  case atStart => exact ⟨0, Nat.zero_le _, rfl, ⟨_, _, _, _, _, _, R2.out⟩, B2.out⟩
  case round =>
    obtain ⟨k, hk, rfl, ⟨vl, vr, ve, vh, vw, vo, P⟩, hb⟩ := hrel
    obtain ⟨s0, s1, s2, s3, s4, s5⟩ := HV.out wr hb
    by_cases hkw : k < wk
    · have i1 : (k : Int) < (wk : Int) := by omega
      obtain ⟨⟨g0, g1, g2, g3, g4⟩, g5, g6, g7, g8⟩ := P.get
      have bd : Below wr.heap.size wr (wr.alloc (.cells #[.bool false, .int .i64 0, .int .i64 0] 123)) := (Below.refl _ _).alloc (Nat.le_refl _) _
      have PD := Lib.hid (P.below bd)
      have hrd : Rd (wr.alloc (.cells #[.bool false, .int .i64 0, .int .i64 0] 123)) (some ⟨wr.heap.size, 0, none⟩) (FHand.encs [noHand]) := rd_new wr #[.bool false, .int .i64 0, .int .i64 0] 123
      obtain ⟨vha, vhn, vhc, rfl⟩ : ∃ x y z, vh = .slice x y z := by
        obtain ⟨x, z, h1, _⟩ := ownsRow_rd (P.hold.own 3 _ rfl)
        exact ⟨x, _, z, h1⟩
      have HRD := Lib.hid hrd
      have HBD := Lib.hid (hb.trans (bd.mono hb.size))
      have hpos := P.pos
      clear bd hrd
      go_wp2_with (at_builtin; refine Flat.append_at FHand _ (.tmp 27) (.tmp 29) rfl rfl (base := 0) (v := .slice vha vhn vhc) (xs := List.replicate k noHand) (ys := [noHand]) rfl PD.out.oh rfl HRD.out (by simp; omega) (Nat.zero_le _) ?_)
      intro v' w4 o4 q4 at4
      have ek : List.replicate k noHand ++ [noHand] = List.replicate (k + 1) noHand := (List.replicate_succ' ..).symm
      rw [ek] at o4
      obtain ⟨na, nc, hv', _, _⟩ := o4.shape
      have e4 := grown_at q4 PD.out.hold.lt (PD.out.hold.ne_box (i := 3) rfl) 6
      have c4 := e4.1.trans PD.out.get.2.2.1
      have f4 := e4.2.trans (PD.out.fz 6)
      have at4 : v'.ownBlock = (Value.slice vha vhn vhc).ownBlock ∨ v'.ownBlock = some (wr.alloc (.cells #[.bool false, .int .i64 0, .int .i64 0] 123)).heap.size := by rw [show (wr.alloc (.cells #[.bool false, .int .i64 0, .int .i64 0] 123)).heap.size = wr.heap.size + 1 from by simp]; exact at4
      have P4 := PD.out.part (S' := newS sm (k + 1)) 3 5 (c' := FHand.ch v' (List.replicate (k + 1) noHand)) rfl rfl rfl (by decide) q4 o4 (m := w.heap.size) HBD.out.size (at_of at4) PD.out.len hpos
      have F4 := (Fs.of_grown (S := fun k => w.heap.size ≤ k) q4 (fun k hk => PD.out.inB 4 k (by show some (Value.ownBlock (.slice vha vhn vhc)) = some (some k); exact congrArg some hk))).set (a := ⟨w.heap.size, 1 + 5, none⟩) (Nat.le_refl _) v'
      have B4 := Lib.hid (HBD.out.trans (F4.below HBD.out.size (fun k h => h)))
      have P4 := Lib.hid (P4.mono (B' := fun k => w.heap.size ≤ k) (fun k hk => hk.elim (fun h => h) (fun h => h)))
      rw [show (FHand.ch v' (List.replicate (k + 1) noHand)).v = v' from rfl] at P4
      rw [List.length_replicate] at hv'
      subst hv'
      clear o4 q4 at4 e4 F4
      go_wp2
      go_roundw
      case rel => exact ⟨k + 1, by omega, by go_num, ⟨_, _, _, _, _, _, P4.out⟩, B4.out⟩
      case measure => simp [intOf]; omega
    · obtain rfl : k = wk := by omega
      have HP := Lib.hid P
      have HB := Lib.hid hb
      clear P hb
      go_wp2
      go_ret
      exact ⟨by rfl, ⟨_, _, _, _, _, _, HP.out⟩, HB.out⟩
end Go.Proofs.Ytijpkcdalmlaiaa
namespace Go.Proofs.Ytijpkcdalmlaiaa
open Go.RowKit Go.Sort
theorem Flat.Own.apart {α : Type} {F : Flat α} {B : Nat → Prop} {w w' : World} {base : Nat} {v : Value} {xs : List α} (h : F.Own w base v xs) (hf : Fs B w w') (hB : ∀ g, v.ownBlock = some g → ¬ B g) : F.Own w' base v xs := by
  refine ⟨h.1, ?_⟩
  rcases h.2 with h2 | ⟨g, cap, cur, rfl, h2, h3, h4⟩
  · exact .inl h2
  · refine .inr ⟨g, cap, cur, rfl, h2, ?_, h4⟩
    rw [hf.block g (Array.getElem?_eq_some_iff.1 h3).1 (hB g rfl)]
    exact h3
theorem RunIs.tight {w : World} {b sb : Nat} {B B' : Nat → Prop} {S : PS} {vl vr ve vh vw vo : Value} (h : RunIs w b sb B S vl vr ve vh vw vo) (hB : ∀ k, B k → k < w.heap.size → B' k) : RunIs w b sb B' S vl vr ve vh vw vo :=
  ⟨⟨h.box, h.fz, h.hold, fun j g hj => hB g (h.inB j g hj) (h.hold.ltAll j g hj), h.len, h.pos⟩, h.c0⟩
theorem handR_len (n t : Int) (xss : List (List Int)) (bs sm wk : Int) (ds : List (Int × Int)) : (handR n t xss bs sm wk ds).1.length ≤ 8 := by
  unfold handR
  split
  · rename_i h
    obtain ⟨hok, hall, _⟩ := dcode_zero h
    obtain ⟨n', sm', wk', rfl, rfl, rfl, hs, _, _⟩ := servOk_nat hok
    rw [Int.toNat_natCast, Int.toNat_natCast]
    have hI := afterS_inv (n := n') (bs := bs) (wk := wk') (serviceOk_parts hok).1 hs.1 ds (newS sm' wk') hall (PInv.new hs.1)
    have h1 := hI.outs
    have h2 := hI.desk.ok.2.2.2.2
    dsimp only at h2 ⊢
    omega
  · simp

set_option maxRecDepth 100000 in
set_option maxHeartbeats 4000000 in
theorem l09Play_any {sb n sm wk : Nat} {t bs : Int} {sv : Value} {xss : List (List Int)} {ds : List (Int × Int)} {rv : Value} (w : World) (V : ServAt w sb 0 n t sv bs sm wk) (ha : SlII w sv xss) (hr : FDeed.Sl w rv ds) (hok : serviceOk n t xss bs sm wk = true) (hall : ∀ d ∈ ds, deedOk d.1 d.2 = true) (hl : ds.length ≤ 400) :
    Calls Try.prog 41 #[.pointer (some ⟨sb, 0, none⟩), rv] w fun e w' => ∃ v, e = .returned (.tuple #[.pointer (some ⟨w.heap.size, 0, none⟩), v]) ∧ OwnI w' w.heap.size v (codesS t xss bs sm wk ds (newS sm wk)) ∧ (∃ vl vr ve vh vw vo, RunIs w' w.heap.size sb (fun k => w.heap.size ≤ k) (afterS t xss bs sm wk ds (newS sm wk)) vl vr ve vh vw vo) ∧ Below w.heap.size w w' := by
  have HR := Lib.hid (fun W (h : Below w.heap.size w W) => hr.below h)
  have HV := Lib.hid (show SvF w.heap.size w sb n t sv xss bs sm wk from ⟨Nat.le_refl _, fun W h => ⟨V.below h, ha.below h⟩⟩)
  obtain ⟨ra, rc, rfl, hrc, hrc2, _⟩ := id hr
  unfold maxLen at hrc2
  obtain ⟨hs, hwk⟩ : (1 ≤ sm ∧ sm ≤ 8) ∧ (1 ≤ wk ∧ wk ≤ 4) := by
    obtain ⟨h1, h2, h3, h4⟩ := serviceOk_parts hok
    omega
  have HOK := Lib.hid hok
  have HALL := Lib.hid hall
  have KB := Lib.hid (l09Begin_any w V hs hwk)
  have hch := (serviceOk_parts hok).1
  have HCH := Lib.hid hch
  clear V ha hr hok hall hch
  go_enter Try.func41, Try.ntmps41
  go_wp2_with fail
  refine KB.out.mono ?_
  rintro e w1 ⟨rfl, ⟨vl, vr, ve, vh, vw, vo, P⟩, b1⟩
  have bz : Below w1.heap.size w1 (w1.alloc (.cells #[] 2)) := (Below.refl _ _).alloc (Nat.le_refl _) _
  have hne := OwnI.empty w1 (base := w.heap.size) b1.size
  have P1 := Lib.hid ((P.tight (B' := fun k => w.heap.size ≤ k ∧ k < w1.heap.size) (fun k h1 h2 => ⟨h1, h2⟩)).below bz)
  have O1 := Lib.hid hne
  have B1 := Lib.hid (b1.trans (bz.mono b1.size))
  clear P b1 bz hne KB
  go_wp2
  go_loopw [7, 8] (fun v i wr => ∃ (k : Nat) (va : Option Addr) (vn vc : Nat) (vl vr ve vh vw vo : Value) (B : Nat → Prop), k ≤ ds.length ∧ i = .int .i64 k ∧ v = .slice va vn vc ∧ OwnI wr w.heap.size v (codesS t xss bs sm wk (ds.take k) (newS sm wk)) ∧ RunIs wr w.heap.size sb B (afterS t xss bs sm wk (ds.take k) (newS sm wk)) vl vr ve vh vw vo ∧ (∀ g, B g → w.heap.size ≤ g ∧ v.ownBlock ≠ some g) ∧ Below w.heap.size w wr) (fun _ i _ => ds.length - (intOf i).toNat)
  case atStart => exact ⟨0, _, _, _, _, _, _, _, _, _, _, Nat.zero_le _, rfl, rfl, O1.out, P1.out, fun g hg => ⟨hg.1, by simp [Value.ownBlock]; omega⟩, B1.out⟩
  case round =>
    obtain ⟨k, va, vn, vc, vl, vr, ve, vh, vw, vo, B, hk, rfl, rfl, ho, P, hB, hb⟩ := hrel
    have HB := Lib.hid hb
    by_cases hlt : k < ds.length
    · obtain ⟨db, do', rfl, _, c0, c1⟩ := FDeed_at (HR.out _ hb) hlt
      have hd := HALL.out _ (List.getElem_mem hlt)
      have i1 : (k : Int) < (ds.length : Int) := by omega
      have has := afterS_succ (t := t) (xss := xss) (bs := bs) (sm := sm) (wk := wk) hlt (newS sm wk)
      have hcs := codesS_succ (t := t) (xss := xss) (bs := bs) (sm := sm) (wk := wk) hlt (newS sm wk)
      have hI := afterS_inv (n := n) (bs := bs) (wk := wk) HCH.out hs.1 (ds.take k) (newS sm wk) (fun d h => HALL.out d (List.mem_of_mem_take h)) (PInv.new hs.1)
      have hcl := codesS_len (t := t) (xss := xss) (bs := bs) (sm := sm) (wk := wk) (ds.take k) (newS sm wk)
      rw [List.length_take, Nat.min_eq_left hk] at hcl
      generalize ds[k] = d at c0 c1 hd has hcs
      obtain ⟨dk, da⟩ := d
      dsimp only at c0 c1 hd
      have HD := Lib.hid (RnDo_any wr P (HV.out.step hb) (fun g hg => (hB g hg).1) hI HOK.out dk da hd)
      generalize afterS t xss bs sm wk (ds.take k) (newS sm wk) = Sk at HD has hcs P
      generalize codesS t xss bs sm wk (ds.take k) (newS sm wk) = Ck at hcs hcl ho
      generalize hR : doS t xss bs sm wk (dk, da) Sk = R at HD has hcs
      obtain ⟨c, Sn⟩ := R
      dsimp only at has hcs
      have HAS := Lib.hid has
      have HCS := Lib.hid hcs
      have HO := Lib.hid ho
      have HBB := Lib.hid hB
      have HLT := Lib.hid (fun g hg => (World.ownsRow.lt (show wr.ownsRow w.heap.size _ _ _ _ _ from ho) g hg).2)
      clear has hcs hR hI P hB ho hb
      go_wp2_with fail
      refine HD.out.mono ?_
      intro e w4 h
      obtain ⟨rfl, ⟨vl', vr', ve', vh', vw', vo', P4⟩, F4⟩ := h
      have b4 := HB.out.trans (F4.below HB.out.size (fun g hg => (HBB.out g hg).1))
      have O4 : FI.Own w4 w.heap.size (.slice va vn vc) Ck := by
        refine Flat.Own.apart (by rw [FI_own]; exact HO.out) F4 (fun g hg h => (HBB.out g h).2 hg)
      have P4 := P4.tight (B' := fun g => w.heap.size ≤ g ∧ (Value.slice va vn vc).ownBlock ≠ some g ∧ g < w4.heap.size) (fun g h1 h2 => ⟨h1.elim (fun h => (HBB.out g h).1) (fun h => Nat.le_trans HB.out.size h), h1.elim (fun h => (HBB.out g h).2) (fun h h3 => by have := HLT.out g h3; omega), h2⟩)
      have bd : Below w4.heap.size w4 (w4.alloc (.cells #[.int .i64 c] 2)) := (Below.refl _ _).alloc (Nat.le_refl _) _
      have PD := Lib.hid (P4.below bd)
      have OD := Lib.hid (Flat.Own.below O4 bd)
      have HRD := Lib.hid (show Rd (w4.alloc (.cells #[.int .i64 c] 2)) (some ⟨w4.heap.size, 0, none⟩) (FI.encs [c]) from rd_new w4 #[.int .i64 c] 2)
      have B4 := Lib.hid (b4.trans (bd.mono b4.size))
      clear P4 O4 bd b4 F4 c0 c1
      go_wp2_with (at_builtin; refine Flat.append_at FI _ (.tmp 18) (.tmp 25) rfl rfl (base := w.heap.size) (v := .slice va vn vc) (xs := Ck) (ys := [c]) rfl OD.out rfl HRD.out (by simp; omega) B4.out.size ?_)
      intro v' w5 o5 q5 at5
      have F5 := Fs.of_grown (S := fun g => (Value.slice va vn vc).ownBlock = some g) q5 (fun g hg => hg)
      have P5 := Lib.hid (PD.out.fs F5 (fun g hg h => hg.2.1 h))
      have B5 := Lib.hid (B4.out.trans (F5.below B4.out.size (fun g hg => (World.ownsRow.lt (show World.ownsRow _ w.heap.size _ _ _ _ _ from OD.out) g hg).1)))
      have at5 : v'.ownBlock = (Value.slice va vn vc).ownBlock ∨ v'.ownBlock = some (w4.heap.size + 1) := by simpa using at5
      have HAT := Lib.hid (show ∀ g, (w.heap.size ≤ g ∧ (Value.slice va vn vc).ownBlock ≠ some g ∧ g < w4.heap.size) → w.heap.size ≤ g ∧ v'.ownBlock ≠ some g from fun g hg => ⟨hg.1, fun h => at5.elim (fun h2 => hg.2.1 (h2 ▸ h)) (fun h2 => by rw [h2] at h; simp at h; omega)⟩)
      have O5 := Lib.hid (show OwnI w5 w.heap.size v' (Ck ++ [c]) by rw [← FI_own]; exact o5)
      obtain ⟨na, nc, hv', _, _⟩ := o5.shape
      subst hv'
      clear o5 q5 at5 F5
      go_wp2
      go_roundw
      case rel => exact ⟨k + 1, _, _, _, _, _, _, _, _, _, _, by omega, by go_num, rfl, by rw [HCS.out]; exact O5.out, by rw [HAS.out]; exact P5.out, HAT.out, B5.out⟩
      case measure => simp [intOf]; omega
    · obtain rfl : k = ds.length := by omega
      rw [List.take_length] at ho P
      have HO := Lib.hid ho
      have HP := Lib.hid (P.mono (fun g hg => (hB g hg).1))
      clear ho P hB hb
      go_wp2
      refine bodyPost_ret (v := .tuple #[.pointer (some ⟨w.heap.size, 0, none⟩), .slice va vn vc]) (by simp [results, Try.results41, go_sem]) rfl ⟨_, rfl, HO.out, ⟨_, _, _, _, _, _, HP.out⟩, HB.out⟩

set_option maxRecDepth 100000 in
set_option maxHeartbeats 4000000 in
theorem SpecHandedOut_any {u : Value} {xss : List (List Int)} {ds : List (Int × Int)} {rv : Value} (n t bs sm wk : Int) (w : World) (ha : SlII w u xss) (hr : FDeed.Sl w rv ds) :
    Calls Try.prog 11 #[.agg #[.int .i64 n, .int .i64 t, u, .int .i64 bs, .int .i64 sm, .int .i64 wk], rv] w fun e w' => ∃ v, e = .returned (.tuple #[v, .int .i64 (handR n t xss bs sm wk ds).2]) ∧ OwnI w' w.heap.size v (handR n t xss bs sm wk ds).1 ∧ Below w.heap.size w w' := by
  have bx : Below w.heap.size w (w.alloc (svObj n t u bs sm wk)) := (Below.refl _ _).alloc (Nat.le_refl _) _
  have KV := Lib.hid (fun W (h : Below (w.alloc (svObj n t u bs sm wk)).heap.size (w.alloc (svObj n t u bs sm wk)) W) => (svBox w n t u bs sm wk).below h)
  have HA := Lib.hid (fun W (h : Below w.heap.size w W) => ha.below h)
  have HR := Lib.hid (fun W (h : Below w.heap.size w W) => hr.below h)
  have K := Lib.hid (l09Asked_any w.heap.size n t bs sm wk _ (svBox w n t u bs sm wk) (ha.below bx) (hr.below bx))
  obtain ⟨ra, rc, rfl, hrc, hrc2, _⟩ := id hr
  obtain ⟨a, ca, us, rfl, _⟩ := id ha
  unfold maxLen at hrc2
  generalize hq : dcode n t xss bs sm wk ds = q at K
  have HQ := Lib.hid hq
  by_cases h0 : q = 0
  · subst h0
    obtain ⟨hok, hall, hlen⟩ := dcode_zero hq
    obtain ⟨n', sm', wk', rfl, rfl, rfl, hs, hwk, hn6⟩ := servOk_nat hok
    have HF := Lib.hid (show handR n' t xss bs sm' wk' ds = ((afterS t xss bs sm' wk' ds (newS sm' wk')).out, 0) by unfold handR; rw [if_pos HQ.out, Int.toNat_natCast, Int.toNat_natCast])
    have hI := afterS_inv (n := n') (bs := bs) (wk := wk') (serviceOk_parts hok).1 hs.1 ds (newS sm' wk') hall (PInv.new hs.1)
    have HALL := Lib.hid hall
    have HOK := Lib.hid hok
    have t0 : ((0 : Int) != 0) = false := rfl
    have hol : (afterS t xss bs sm' wk' ds (newS sm' wk')).out.length ≤ 8 := by
      have h1 := hI.outs
      have h2 := hI.desk.ok.2.2.2.2
      dsimp only at h2
      omega
    clear hq ha hr hall hok HQ hI
    go_enter Try.func11, Try.ntmps11
    go_wp2_with fail
    refine K.out.mono ?_
    rintro e w1 ⟨rfl, b1⟩
    have B1 := Lib.hid (bx.trans (b1.mono bx.size))
    have V1 := Lib.hid (KV.out w1 b1)
    clear bx b1 K KV
    go_wp2_with fail
    refine (l09Play_any w1 V1.out (HA.out _ B1.out) (HR.out _ B1.out) HOK.out HALL.out hlen).mono ?_
    rintro e w2 ⟨v, rfl, _, ⟨vl, vr, ve, vh, vw, vo, P⟩, b2⟩
    generalize afterS t xss bs sm' wk' ds (newS sm' wk') = Sk at HF P hol
    have g8 := P.get.2.2.2.2
    have HS := Lib.hid P.oo.sl
    have B2 := Lib.hid (B1.out.trans (b2.mono B1.out.size))
    clear P b2
    go_wp2_with fail
    refine (l00Own_any w2 HS.out (by omega)).mono ?_
    rintro e w3 ⟨v3, rfl, o3, b3⟩
    go_wp2
    refine bodyPost_ret (v := .tuple #[v3, .int .i64 0]) (by simp [results, Try.results11, go_sem]) rfl ⟨_, by rw [HF.out], ?_, B2.out.trans (b3.mono B2.out.size)⟩
    rw [HF.out]
    exact o3.lower B2.out.size
  · have HF := Lib.hid (show handR n t xss bs sm wk ds = ([], q) by unfold handR; rw [HQ.out, if_neg h0])
    have t0 : (q != 0) = true := by simp [h0]
    clear hq h0
    go_enter Try.func11, Try.ntmps11
    go_wp2_with fail
    refine K.out.mono ?_
    rintro e w1 ⟨rfl, b1⟩
    go_wp2
    refine bodyPost_ret (v := .tuple #[.slice (some ⟨w1.heap.size, 0, none⟩) 0 0, .int .i64 q]) (by simp [results, Try.results11, go_sem]) rfl ⟨_, by rw [HF.out], ?_, (bx.trans (b1.mono bx.size)).alloc (bx.trans (b1.mono bx.size)).size _⟩
    rw [HF.out]
    exact OwnI.empty _ (bx.trans (b1.mono bx.size)).size
end Go.Proofs.Ytijpkcdalmlaiaa
namespace Go.Proofs.Ytijpkcdalmlaiaa
open Go.RowKit Go.Sort
set_option linter.unusedVariables false
set_option maxRecDepth 100000 in
set_option maxHeartbeats 4000000 in
theorem FnExactHandedOut_walk {u0 : Value} {xss0 : List (List Int)} (s0 t0 bs0 sm0 wk0 : Int) {u1 : Value} {xs1 : List (Int × Int)} (w : World) (ha0 : SlII w u0 xss0) (ha1 : FDeedL.Sl w u1 xs1):
    Calls Try.prog 3 #[.agg #[.int .i64 s0, .int .i64 t0, u0, .int .i64 bs0, .int .i64 sm0, .int .i64 wk0], u1] w fun e w' => e = .returned (.bool true) ∧ Below w.heap.size w w' := by
  obtain ⟨pa0, pc0, pu0, rfl, _⟩ := id ha0
  obtain ⟨pa1, pc1, rfl, pl1, pm1, _⟩ := id ha1; unfold maxLen at pm1
  have hb0 : Below w.heap.size w (w.alloc (argObj s0 t0 (.slice pa0 xss0.length pc0) bs0 sm0 wk0)) := ((Below.refl w.heap.size w).alloc (by simp) (argObj s0 t0 (.slice pa0 xss0.length pc0) bs0 sm0 wk0))
  have A0 := Lib.hid (argBox w s0 t0 (.slice pa0 xss0.length pc0) bs0 sm0 wk0)
  have H0 := Lib.hid (fun W (h : Below w.heap.size w W) => ha0.below h)
  clear ha0
  have H1 := Lib.hid (fun W (h : Below w.heap.size w W) => ha1.below h)
  clear ha1
  have hr0 := szII_range 1048576 xss0 (by omega)
  generalize hz0 : szII 1048576 xss0 = l0 at hr0
  have HZ0 := Lib.hid hz0
  clear hz0
  generalize hz1 : sz1 l0 xs1.length = l1
  have hr1 : l1 ≤ 1048576 := by rw [← hz1]; unfold sz1; split <;> omega
  have HZ1 := Lib.hid hz1
  clear hz1
  go_enter Try.func3, Try.ntmps3
  obtain ⟨⟨_, q00, q01, q02⟩, q03, q04, q05⟩ := A0.out
  simp only [Nat.zero_add] at q00 q01 q02 q03 q04 q05
  go_wp2_with fail
  refine (szService_any s0 t0 bs0 sm0 wk0 1048576 _ (H0.out _ hb0) (by omega) (by omega)).mono ?_
  rintro e w1 ⟨rfl, b1⟩
  rw [HZ0.out]
  have hb1 := hb0.trans (b1.mono hb0.size)
  have A0_1 := Lib.hid (A0.out.below b1)
  clear b1 A0 q00 q01 q02 q03 q04 q05
  by_cases hl0 : l0 < 0
  · go_wp2
    go_ret
    exact ⟨rfl, hb1⟩
  obtain ⟨hxl0, hxr0⟩ := szII_ok HZ0.out hl0
  have HXR0 := Lib.hid hxr0
  clear hxr0
  have HSUM0 := Lib.hid (szII_sum HZ0.out hl0 (by omega))
  obtain ⟨⟨_, q00, q01, q02⟩, q03, q04, q05⟩ := A0_1.out
  simp only [Nat.zero_add] at q00 q01 q02 q03 q04 q05
  go_wp2_with fail
  refine (szDeedS_any l0 _ (H1.out _ hb1) (by omega) (by omega)).mono ?_
  rintro e w2 ⟨rfl, b2⟩
  rw [HZ1.out]
  have hb2 := hb1.trans (b2.mono hb1.size)
  have A0_2 := Lib.hid (A0_1.out.below b2)
  clear b2 A0_1 q00 q01 q02 q03 q04 q05
  by_cases hl1 : l1 < 0
  · go_wp2
    go_ret
    exact ⟨rfl, hb2⟩
  have hrl1 : xs1.length ≤ 1048576 := sz1_ok HZ1.out hl1 (by omega)
  generalize hR : handR s0 t0 xss0 bs0 sm0 wk0 xs1 = R
  have hlen := handR_len s0 t0 xss0 bs0 sm0 wk0 xs1
  rw [hR] at hlen
  have HR := Lib.hid hR
  clear hR
  obtain ⟨r0, r1⟩ := R
  have hlen : r0.length ≤ 8 := hlen
  have HLEN := Lib.hid hlen
  obtain ⟨⟨_, q00, q01, q02⟩, q03, q04, q05⟩ := A0_2.out
  simp only [Nat.zero_add] at q00 q01 q02 q03 q04 q05
  go_wp2_with fail
  refine (toService_any s0 t0 bs0 sm0 wk0 _ (H0.out _ hb2) hxl0 HXR0.out).mono ?_
  rintro e w3 ⟨vs0, rfl, os0, b3⟩
  have Z3 := Lib.hid b3.size
  have hb3 := hb2.trans (b3.mono hb2.size)
  have A0_3 := Lib.hid (A0_2.out.below b3)
  clear b3 A0_2 q00 q01 q02 q03 q04 q05
  obtain ⟨ys0a, ys0c, ys0u, rfl, _⟩ := id os0.sl
  have Os0 := Lib.hid os0
  clear os0
  go_wp2_with fail
  refine (toDeedS_any _ (H1.out _ hb3) hrl1).mono ?_
  rintro e w4 ⟨vs1, rfl, os1, b4⟩
  have Z4 := Lib.hid b4.size
  have hb4 := hb3.trans (b4.mono hb3.size)
  have A0_4 := Lib.hid (A0_3.out.below b4)
  have Os0_4 := Lib.hid (Os0.out.below b4)
  clear b4 A0_3 Os0 
  obtain ⟨ys1a, ys1c, rfl, _⟩ := id os1.sl
  have Os1 := Lib.hid os1
  clear os1
  go_wp2_with fail
  refine (SpecHandedOut_any s0 t0 bs0 sm0 wk0 _ Os0_4.out.sl Os1.out.sl).mono ?_
  rintro e w5 ⟨vw0, rfl, ow0, b5⟩
  have Z5 := Lib.hid b5.size
  rw [HR.out] at ow0 ⊢
  have hb5 := hb4.trans (b5.mono hb4.size)
  have A0_5 := Lib.hid (A0_4.out.below b5)
  have Os0_5 := Lib.hid (Os0_4.out.below b5)
  have Os1_5 := Lib.hid (Os1.out.below b5)
  clear b5 A0_4 Os0_4 Os1 
  have ow0 : OwnI _ _ _ r0 := ow0
  obtain ⟨zw0a, zw0c, rfl, _⟩ := id ow0.sl
  have W0 := Lib.hid ow0
  clear ow0
  clear Os0_5
  clear Os1_5
  have hd0 := Below.refl w5.heap.size w5
  have HDB := Lib.hid hb5
  have HwD : Hid (w.heap.size ≤ w5.heap.size) := hb5.size
  have DA0 := Lib.hid (fun W (h : Below w5.heap.size w5 W) => A0_5.out.below h)
  have DW0 := Lib.hid (fun W (h : Below w5.heap.size w5 W) => W0.out.below h)
  obtain ⟨⟨_, q00, q01, q02⟩, q03, q04, q05⟩ := A0_5.out
  simp only [Nat.zero_add] at q00 q01 q02 q03 q04 q05
  go_wp2_with fail
  refine (toService_any s0 t0 bs0 sm0 wk0 _ (H0.out _ hb5) hxl0 HXR0.out).mono ?_
  rintro e w6 ⟨vx0, rfl, ox0, b6⟩
  have Z6 := Lib.hid b6.size
  have hb6 := hb5.trans (b6.mono hb5.size)
  have hd6 := hd0.trans (b6.mono hd0.size)
  have A0_6 := Lib.hid (A0_5.out.below b6)
  have W0_6 := Lib.hid (W0.out.below b6)
  clear b6 A0_5 W0 q00 q01 q02 q03 q04 q05 hd0
  obtain ⟨yx0a, yx0c, yx0u, rfl, _⟩ := id ox0.sl
  have Ox0 := Lib.hid ox0.b
  clear ox0
  have bqx0 : Below w6.heap.size w6 (w6.alloc (svObj s0 t0 (.slice yx0a xss0.length yx0c) bs0 sm0 wk0)) := (Below.refl _ _).alloc (Nat.le_refl _) _
  have ZAx0 := Lib.hid (show (w6.alloc (svObj s0 t0 (.slice yx0a xss0.length yx0c) bs0 sm0 wk0)).heap.size = w6.heap.size + 1 from by simp)
  have A0_x0 := Lib.hid (A0_6.out.below bqx0)
  have W0_x0 := Lib.hid (W0_6.out.below bqx0)
  have Ox0_x0 := Lib.hid (Ox0.out.below bqx0)
  have hbqx0 := hb6.trans (bqx0.mono hb6.size)
  have hdqx0 := hd6.trans (bqx0.mono hd6.size)
  clear bqx0 A0_6 W0_6 Ox0 hd6
  have X0 := Lib.hid (svBox w6 s0 t0 (.slice yx0a xss0.length yx0c) bs0 sm0 wk0)
  go_wp2_with fail
  refine (toDeedS_any _ (H1.out _ hbqx0) hrl1).mono ?_
  rintro e w7 ⟨vx1, rfl, ox1, b7⟩
  have Z7 := Lib.hid b7.size
  have hb7 := hbqx0.trans (b7.mono hbqx0.size)
  have hd7 := hdqx0.trans (b7.mono hdqx0.size)
  have A0_7 := Lib.hid (A0_x0.out.below b7)
  have W0_7 := Lib.hid (W0_x0.out.below b7)
  have Ox0_7 := Lib.hid (Ox0_x0.out.below b7)
  have X0_7 := Lib.hid (X0.out.below b7)
  clear b7 A0_x0 W0_x0 Ox0_x0 X0  hdqx0
  obtain ⟨yx1a, yx1c, rfl, _⟩ := id ox1.sl
  have HXL1 := Lib.hid ox1.lt
  have Ox1 := Lib.hid ox1
  clear ox1
  obtain ⟨⟨_, x00, x01, x02⟩, x03, x04, x05⟩ := X0_7.out
  simp only [Nat.zero_add] at x00 x01 x02 x03 x04 x05
  obtain ⟨NB, hNB⟩ : ∃ n, n = w7.heap.size := ⟨_, rfl⟩
  have HNB := Lib.hid hNB
  clear hNB
  go_wp2_with fail
  refine (ImplHandedOut_any s0 t0 bs0 sm0 wk0 _ Ox0_7.out.sl Ox1.out.sl).mono ?_
  rintro e w8 ⟨vg0, rfl, og0, b8⟩
  have Z8 := Lib.hid b8.size
  rw [HR.out] at og0 ⊢
  have hb8 := hb7.trans (b8.mono hb7.size)
  have hd8 := hd7.trans (b8.mono hd7.size)
  have A0_8 := Lib.hid (A0_7.out.below b8)
  have W0_8 := Lib.hid (W0_7.out.below b8)
  have Ox0_8 := Lib.hid (Ox0_7.out.below b8)
  have X0_8 := Lib.hid (X0_7.out.below b8)
  have Ox1_8 := Lib.hid (Ox1.out.below b8)
  clear b8 A0_7 W0_7 Ox0_7 X0_7 Ox1 x00 x01 x02 x03 x04 x05 hd7
  have og0 : OwnI _ _ _ r0 := og0
  obtain ⟨zg0a, zg0c, rfl, _⟩ := id og0.sl
  rw [← HNB.out] at og0
  have HGS : Hid (∀ k, (fun k => Value.ownBlock (.slice zg0a r0.length zg0c) = some k) k → NB ≤ k ∧ k < w8.heap.size) := fun k hk => og0.lt k hk
  have G0 := Lib.hid og0
  clear og0
  go_wp2_with fail
  refine (eqInt64S_refl _ G0.out.sl W0_8.out.sl).mono ?_
  rintro e w9 ⟨rfl, b9⟩
  have Z9 := Lib.hid b9.size
  have hb9 := hb8.trans (b9.mono hb8.size)
  have hd9 := hd8.trans (b9.mono hd8.size)
  have A0_9 := Lib.hid (A0_8.out.below b9)
  have W0_9 := Lib.hid (W0_8.out.below b9)
  have Ox0_9 := Lib.hid (Ox0_8.out.below b9)
  have X0_9 := Lib.hid (X0_8.out.below b9)
  have Ox1_9 := Lib.hid (Ox1_8.out.below b9)
  have G0_9 := Lib.hid (G0.out.below b9)
  clear b9 A0_8 W0_8 Ox0_8 X0_8 Ox1_8 G0  hd8
  have hr_1 : (r1 != r1) = false := by simp
  go_upto_region 14 with (fail)
  go_cut [58] (fun sz wx => sz = .bool false ∧ Below w9.heap.size w9 wx)
  case first =>
    have hbz := (Below.refl w9.heap.size w9).drew
    obtain ⟨⟨_, x0, x1, x2⟩, x3, x4, x5⟩ := X0_9.out
    obtain ⟨⟨_, q0, q1, q2⟩, q3, q4, q5⟩ := A0_9.out
    simp only [Nat.zero_add] at x0 x1 x2 x3 x4 x5 q0 q1 q2 q3 q4 q5
    go_region_with (first
      | (go_at_call 12; (with_reducible refine (toService_any s0 t0 bs0 sm0 wk0 _ (H0.out _ (hb9.trans (hbz.mono hb9.size))) hxl0 HXR0.out).mono ?_); rintro e w' ⟨vx, rfl, hv, b⟩; have sx := hv.sl; have hbz := hbz.trans (b.mono hbz.size); clear hv; obtain ⟨⟨_, r0, r1, r2⟩, r3, r4, r5⟩ := X0_9.out.below hbz; simp only [Nat.zero_add] at r0 r1 r2 r3 r4 r5)
      | (go_at_call 16; (with_reducible refine (eqService_same s0 t0 bs0 sm0 wk0 _ (Ox0_9.out.below hbz).sl sx).mono ?_); rintro e w' ⟨rfl, b⟩; have hbz := hbz.trans (b.mono hbz.size)))
    all_goals (go_wp2_with fail; go_meet; exact ⟨rfl, hbz⟩)
  case rest =>
    obtain ⟨rfl, hbc⟩ := hcut
    rename_i w10
    have hb10 := hb9.trans (hbc.mono hb9.size)
    have hd10 := hd9.trans (hbc.mono hd9.size)
    have A0_10 := Lib.hid (A0_9.out.below hbc)
    have W0_10 := Lib.hid (W0_9.out.below hbc)
    have Ox0_10 := Lib.hid (Ox0_9.out.below hbc)
    have X0_10 := Lib.hid (X0_9.out.below hbc)
    have Ox1_10 := Lib.hid (Ox1_9.out.below hbc)
    have G0_10 := Lib.hid (G0_9.out.below hbc)
    clear hbc A0_9 W0_9 Ox0_9 X0_9 Ox1_9 G0_9  hd9
    go_wp2_with fail
    refine (toDeedS_any _ (H1.out _ hb10) hrl1).mono ?_
    rintro e w11 ⟨vz1, rfl, oz1, b11⟩
    have hb11 := hb10.trans (b11.mono hb10.size)
    have hd11 := hd10.trans (b11.mono hd10.size)
    have A0_11 := Lib.hid (A0_10.out.below b11)
    have W0_11 := Lib.hid (W0_10.out.below b11)
    have Ox0_11 := Lib.hid (Ox0_10.out.below b11)
    have X0_11 := Lib.hid (X0_10.out.below b11)
    have Ox1_11 := Lib.hid (Ox1_10.out.below b11)
    have G0_11 := Lib.hid (G0_10.out.below b11)
    clear b11 A0_10 W0_10 Ox0_10 X0_10 Ox1_10 G0_10  hd10
    have Oz1 := Lib.hid oz1
    clear oz1
    obtain ⟨yz1a, yz1c, rfl, _⟩ := id Oz1.out.sl
    go_wp2_with fail
    refine (eqDeedS_refl _ Ox1_11.out.sl Oz1.out.sl).mono ?_
    rintro e w12 ⟨rfl, b12⟩
    have hb12 := hb11.trans (b12.mono hb11.size)
    have hd12 := hd11.trans (b12.mono hd11.size)
    have A0_12 := Lib.hid (A0_11.out.below b12)
    have W0_12 := Lib.hid (W0_11.out.below b12)
    have Ox0_12 := Lib.hid (Ox0_11.out.below b12)
    have X0_12 := Lib.hid (X0_11.out.below b12)
    have Ox1_12 := Lib.hid (Ox1_11.out.below b12)
    have G0_12 := Lib.hid (G0_11.out.below b12)
    have Oz1_12 := Lib.hid (Oz1.out.below b12)
    clear b12 A0_11 W0_11 Ox0_11 X0_11 Ox1_11 G0_11 Oz1  hd11
    clear Oz1_12
    obtain ⟨⟨_, x00, x01, x02⟩, x03, x04, x05⟩ := X0_12.out
    simp only [Nat.zero_add] at x00 x01 x02 x03 x04 x05
    go_wp2_with fail
    refine (markService_any s0 t0 bs0 sm0 wk0 1 w5.heap.size w6.heap.size _ (by omega) (by have := HSUM0.out; omega) Ox0_12.out).mono ?_
    rintro e w13 ⟨rfl, b13⟩
    have Z13 := Lib.hid b13.size
    have fx0 := Fs.of_mid b13
    have hd13 := hd12.trans ((fx0.below (B := w5.heap.size) (by have := Z3.out; have := Z4.out; have := Z5.out; have := Z6.out; have := ZAx0.out; have := Z7.out; have := HNB.out; have := Z8.out; have := Z9.out; have := Z13.out; omega) (fun k hk => by have := hk.1; have := Z3.out; have := Z4.out; have := Z5.out; have := Z6.out; have := ZAx0.out; have := Z7.out; have := HNB.out; have := Z8.out; have := Z9.out; have := Z13.out; omega)))
    have A0_13 := Lib.hid (DA0.out _ hd13)
    have W0_13 := Lib.hid (DW0.out _ hd13)
    have Ox1_13 := Lib.hid (show FDeed.Own _ (w6.alloc (svObj s0 t0 (.slice yx0a xss0.length yx0c) bs0 sm0 wk0)).heap.size _ xs1 from ownsRow_fs (Ox1_12.out) fx0 (fun k hk => by have := hk.2; have := Z3.out; have := Z4.out; have := Z5.out; have := Z6.out; have := ZAx0.out; have := Z7.out; have := HNB.out; have := Z8.out; have := Z9.out; have := Z13.out; omega))
    have G0_13 := Lib.hid (show OwnI _ NB _ r0 from ownsRow_fs (G0_12.out) fx0 (fun k hk => by have := hk.2; have := Z3.out; have := Z4.out; have := Z5.out; have := Z6.out; have := ZAx0.out; have := Z7.out; have := HNB.out; have := Z8.out; have := Z9.out; have := Z13.out; omega))
    have hb13 := HDB.out.trans (hd13.mono HwD.out)
    clear b13 fx0 hb12 hd12 A0_12 W0_12 Ox0_12 X0_12 Ox1_12 G0_12 x00 x01 x02 x03 x04 x05
    go_wp2_with fail
    refine (markDeedS_any (1 + sumL xss0) _ _ (by omega) (by have := HSUM0.out; omega) Ox1_13.out).mono ?_
    rintro e w14 ⟨rfl, om1, b14⟩
    have Z14 := Lib.hid b14.size
    clear om1
    have fx1 : Fs (fun k => (w6.alloc (svObj s0 t0 (.slice yx0a xss0.length yx0c) bs0 sm0 wk0)).heap.size ≤ k ∧ k < w7.heap.size) _ _ := Fs.of_grown b14 (fun g hg => HXL1.out g hg)
    have hd14 := hd13.trans ((fx1.below (B := w5.heap.size) (by have := Z3.out; have := Z4.out; have := Z5.out; have := Z6.out; have := ZAx0.out; have := Z7.out; have := HNB.out; have := Z8.out; have := Z9.out; have := Z13.out; have := Z14.out; omega) (fun k hk => by have := hk.1; have := Z3.out; have := Z4.out; have := Z5.out; have := Z6.out; have := ZAx0.out; have := Z7.out; have := HNB.out; have := Z8.out; have := Z9.out; have := Z13.out; have := Z14.out; omega)))
    have A0_14 := Lib.hid (DA0.out _ hd14)
    have W0_14 := Lib.hid (DW0.out _ hd14)
    have G0_14 := Lib.hid (show OwnI _ NB _ r0 from ownsRow_fs (G0_13.out) fx1 (fun k hk => by have := hk.2; have := Z3.out; have := Z4.out; have := Z5.out; have := Z6.out; have := ZAx0.out; have := Z7.out; have := HNB.out; have := Z8.out; have := Z9.out; have := Z13.out; have := Z14.out; omega))
    have hb14 := HDB.out.trans (hd14.mono HwD.out)
    clear b14 fx1 hb13 hd13 A0_13 W0_13 Ox1_13 G0_13 
    have hkn : ¬ ((1 + sumL xss0) + 2 * (xs1.length : Int)) < 0 := by omega
    go_wp2_with fail
    refine (eqInt64S_refl _ G0_14.out.sl W0_14.out.sl).mono ?_
    rintro e w15 ⟨rfl, b15⟩
    have Z15 := Lib.hid b15.size
    have hb15 := hb14.trans (b15.mono hb14.size)
    have hd15 := hd14.trans (b15.mono hd14.size)
    have A0_15 := Lib.hid (A0_14.out.below b15)
    have W0_15 := Lib.hid (W0_14.out.below b15)
    have G0_15 := Lib.hid (G0_14.out.below b15)
    clear b15 A0_14 W0_14 G0_14  hd14
    go_wp2_with fail
    refine (markInt64S_any 1 _ _ (by omega) (by have := HLEN.out; omega) G0_15.out).mono ?_
    rintro e w16 ⟨rfl, og1, b16⟩
    have Z16 := Lib.hid b16.size
    have fg : Fs (fun k => Value.ownBlock (.slice zg0a r0.length zg0c) = some k) _ _ := Fs.of_grown b16 (fun g hg => hg)
    have hd16 := hd15.trans (fg.below (B := w5.heap.size) (by have := Z3.out; have := Z4.out; have := Z5.out; have := Z6.out; have := ZAx0.out; have := Z7.out; have := HNB.out; have := Z8.out; have := Z9.out; have := Z13.out; have := Z14.out; have := Z15.out; have := Z16.out; omega) (fun k hk => by have := (HGS.out k hk).1; have := Z3.out; have := Z4.out; have := Z5.out; have := Z6.out; have := ZAx0.out; have := Z7.out; have := HNB.out; have := Z8.out; have := Z9.out; have := Z13.out; have := Z14.out; have := Z15.out; have := Z16.out; omega))
    have A0_16 := Lib.hid (DA0.out _ hd16)
    have W0_16 := Lib.hid (DW0.out _ hd16)
    have hb16 := HDB.out.trans (hd16.mono HwD.out)
    clear b16 fg hb15 hd15 A0_15 W0_15 G0_15 
    have G1 := Lib.hid og1
    clear og1
    have hq0 : ¬ (1 + (r0.length : Int) : Int) < 0 := by omega
    have hq1 : ((1 + (r0.length : Int) : Int) != (1 + (r0.length : Int))) = false := by simp
    go_wp2_with fail
    refine (heldInt64S_any 1 _ _ (by omega) (by have := HLEN.out; omega) G1.out.sl).mono ?_
    rintro e w17 ⟨rfl, b17⟩
    have Z17 := Lib.hid b17.size
    have hb17 := hb16.trans (b17.mono hb16.size)
    have hd17 := hd16.trans (b17.mono hd16.size)
    have A0_17 := Lib.hid (A0_16.out.below b17)
    have W0_17 := Lib.hid (W0_16.out.below b17)
    have G1_17 := Lib.hid (G1.out.below b17)
    clear b17 A0_16 W0_16 G1  hd16
    obtain ⟨⟨_, q00, q01, q02⟩, q03, q04, q05⟩ := A0_17.out
    simp only [Nat.zero_add] at q00 q01 q02 q03 q04 q05
    go_wp2_with fail
    refine (toService_any s0 t0 bs0 sm0 wk0 _ (H0.out _ hb17) hxl0 HXR0.out).mono ?_
    rintro e w18 ⟨vy0, rfl, oy0, b18⟩
    have Z18 := Lib.hid b18.size
    have hb18 := hb17.trans (b18.mono hb17.size)
    have hd18 := hd17.trans (b18.mono hd17.size)
    have A0_18 := Lib.hid (A0_17.out.below b18)
    have W0_18 := Lib.hid (W0_17.out.below b18)
    have G1_18 := Lib.hid (G1_17.out.below b18)
    clear b18 A0_17 W0_17 G1_17 q00 q01 q02 q03 q04 q05 hd17
    obtain ⟨yy0a, yy0c, yy0u, rfl, _⟩ := id oy0.sl
    have Oy0 := Lib.hid oy0
    clear oy0
    go_wp2_with fail
    refine (toDeedS_any _ (H1.out _ hb18) hrl1).mono ?_
    rintro e w19 ⟨vy1, rfl, oy1, b19⟩
    have Z19 := Lib.hid b19.size
    have hb19 := hb18.trans (b19.mono hb18.size)
    have hd19 := hd18.trans (b19.mono hd18.size)
    have A0_19 := Lib.hid (A0_18.out.below b19)
    have W0_19 := Lib.hid (W0_18.out.below b19)
    have G1_19 := Lib.hid (G1_18.out.below b19)
    have Oy0_19 := Lib.hid (Oy0.out.below b19)
    clear b19 A0_18 W0_18 G1_18 Oy0  hd18
    obtain ⟨yy1a, yy1c, rfl, _⟩ := id oy1.sl
    have Oy1 := Lib.hid oy1
    clear oy1
    go_wp2_with fail
    refine (ImplHandedOut_any s0 t0 bs0 sm0 wk0 _ Oy0_19.out.sl Oy1.out.sl).mono ?_
    rintro e w20 ⟨vh0, rfl, oh0, b20⟩
    have Z20 := Lib.hid b20.size
    rw [HR.out] at oh0 ⊢
    have hb20 := hb19.trans (b20.mono hb19.size)
    have hd20 := hd19.trans (b20.mono hd19.size)
    have A0_20 := Lib.hid (A0_19.out.below b20)
    have W0_20 := Lib.hid (W0_19.out.below b20)
    have G1_20 := Lib.hid (G1_19.out.below b20)
    have Oy0_20 := Lib.hid (Oy0_19.out.below b20)
    have Oy1_20 := Lib.hid (Oy1.out.below b20)
    clear b20 A0_19 W0_19 G1_19 Oy0_19 Oy1  hd19
    have oh0 : OwnI _ _ _ r0 := oh0
    obtain ⟨zh0a, zh0c, rfl, _⟩ := id oh0.sl
    have HH := Lib.hid oh0
    clear oh0
    go_wp2_with fail
    refine (eqInt64S_refl _ HH.out.sl W0_20.out.sl).mono ?_
    rintro e w21 ⟨rfl, b21⟩
    have Z21 := Lib.hid b21.size
    have hb21 := hb20.trans (b21.mono hb20.size)
    have hd21 := hd20.trans (b21.mono hd20.size)
    have A0_21 := Lib.hid (A0_20.out.below b21)
    have W0_21 := Lib.hid (W0_20.out.below b21)
    have G1_21 := Lib.hid (G1_20.out.below b21)
    have Oy0_21 := Lib.hid (Oy0_20.out.below b21)
    have Oy1_21 := Lib.hid (Oy1_20.out.below b21)
    have HH_21 := Lib.hid (HH.out.below b21)
    clear b21 A0_20 W0_20 G1_20 Oy0_20 Oy1_20 HH  hd20
    go_wp2_with fail
    refine (heldInt64S_any 1 _ _ (by omega) (by have := HLEN.out; omega) G1_21.out.sl).mono ?_
    rintro e w22 ⟨rfl, b22⟩
    have Z22 := Lib.hid b22.size
    have hb22 := hb21.trans (b22.mono hb21.size)
    have hd22 := hd21.trans (b22.mono hd21.size)
    have A0_22 := Lib.hid (A0_21.out.below b22)
    have W0_22 := Lib.hid (W0_21.out.below b22)
    have G1_22 := Lib.hid (G1_21.out.below b22)
    have Oy0_22 := Lib.hid (Oy0_21.out.below b22)
    have Oy1_22 := Lib.hid (Oy1_21.out.below b22)
    have HH_22 := Lib.hid (HH_21.out.below b22)
    clear b22 A0_21 W0_21 G1_21 Oy0_21 Oy1_21 HH_21  hd21
    go_wp2
    go_ret
    exact ⟨rfl, hb22⟩
end Go.Proofs.Ytijpkcdalmlaiaa
