/-
  PlantAfter, the reference's, and deeds that are refused as a whole.
-/
import Derived.Test.YtijpkcdalmlaiaaZRowFnPlantPackets32
import Derived.Test.YtijpkcdalmlaiaaZRowFnPlantPackets40
set_option linter.unusedVariables false
set_option linter.unusedSimpArgs false
namespace Go.Proofs.Ytijpkcdalmlaiaa
open Go.RowKit Go.Sort

set_option maxRecDepth 100000 in
set_option maxHeartbeats 4000000 in
theorem ImplPlantAfter_bad {u : Value} {xss : List (List Int)} {ds : List (Int × Int)} {rv : Value} (n t bs sm wk q : Int) (w : World) (ha : SlII w u xss) (hr : FDeed.Sl w rv ds) (h0 : dcode n t xss bs sm wk ds = q) (hq : q ≠ 0) :
    Calls Try.prog 30 #[.agg #[.int .i64 n, .int .i64 t, u, .int .i64 bs, .int .i64 sm, .int .i64 wk], rv] w fun e w' => e = .returned (.tuple #[noPlant, .int .i64 0, .int .i64 q]) ∧ Below w.heap.size w w' := by
  have HA := Lib.hid (fun W (h : Below w.heap.size w W) => ha.below h)
  have HR := Lib.hid (fun W (h : Below w.heap.size w W) => hr.below h)
  obtain ⟨ra, rc, rfl, hrc, hrc2, _⟩ := id hr
  obtain ⟨a, ca, us, rfl, _⟩ := id ha
  unfold maxLen at hrc2
  have bA : Below w.heap.size w (w.alloc (.cells #[.int .i64 n, .int .i64 t, .slice a xss.length ca, .int .i64 bs, .int .i64 sm, .int .i64 wk] 35)) := (Below.refl _ _).alloc (Nat.le_refl _) _
  have KA := CellsAt.new w [.int .i64 n, .int .i64 t, .slice a xss.length ca, .int .i64 bs, .int .i64 sm, .int .i64 wk] 35
  have bB : Below (w.alloc (.cells #[.int .i64 n, .int .i64 t, .slice a xss.length ca, .int .i64 bs, .int .i64 sm, .int .i64 wk] 35)).heap.size (w.alloc (.cells #[.int .i64 n, .int .i64 t, .slice a xss.length ca, .int .i64 bs, .int .i64 sm, .int .i64 wk] 35)) ((w.alloc (.cells #[.int .i64 n, .int .i64 t, .slice a xss.length ca, .int .i64 bs, .int .i64 sm, .int .i64 wk] 35)).alloc (.cells #[.slice none 0 0, .slice none 0 0, .int .i64 0, .slice none 0 0, .int .i64 0, .slice none 0 0, .slice none 0 0, .slice none 0 0] 61)) := (Below.refl _ _).alloc (Nat.le_refl _) _
  obtain ⟨W2, hW2⟩ : ∃ W2, W2 = (w.alloc (.cells #[.int .i64 n, .int .i64 t, .slice a xss.length ca, .int .i64 bs, .int .i64 sm, .int .i64 wk] 35)).alloc (.cells #[.slice none 0 0, .slice none 0 0, .int .i64 0, .slice none 0 0, .int .i64 0, .slice none 0 0, .slice none 0 0, .slice none 0 0] 61) := ⟨_, rfl⟩
  have K1 := Lib.hid (show CellsAt W2 w.heap.size [.int .i64 n, .int .i64 t, .slice a xss.length ca, .int .i64 bs, .int .i64 sm, .int .i64 wk] by rw [hW2]; exact KA.below bB)
  have QW := Lib.hid (show ∀ W, Below W2.heap.size W2 W → ∀ i : Nat, i < 8 → (∃ u, W.cell? ⟨w.heap.size + 1, i, none⟩ = some u) ∧ W.frozen? ⟨w.heap.size + 1, i, none⟩ = false from fun W h i hi => by
    rw [hW2] at h
    have a1 := h.cell (p := ⟨w.heap.size + 1, i, none⟩) (by simp)
    have a2 := h.frozen (p := ⟨w.heap.size + 1, i, none⟩) (by simp)
    rw [a1, a2]
    match i, hi with
    | 0, _ => simp [go_sem]
    | 1, _ => simp [go_sem]
    | 2, _ => simp [go_sem]
    | 3, _ => simp [go_sem]
    | 4, _ => simp [go_sem]
    | 5, _ => simp [go_sem]
    | 6, _ => simp [go_sem]
    | 7, _ => simp [go_sem])
  rw [← hW2] at bB
  have B1 := Lib.hid (bA.trans (bB.mono bA.size))
  have HZ := Lib.hid (show W2.heap.size = w.heap.size + 2 by rw [hW2]; simp)
  have HW2 := Lib.hid hW2.symm
  have K := Lib.hid (deedsCode_any n t bs sm wk W2 (HA.out _ B1.out) (HR.out _ B1.out))
  rw [h0] at K
  have t0 : (q != 0) = true := by simp [hq]
  clear ha hr bA bB KA hW2 h0
  go_enter Try.func30, Try.ntmps30
  have k0 := K1.out.get 0 _ rfl
  have k1 := K1.out.get 1 _ rfl
  have k2 := K1.out.get 2 _ rfl
  have k3 := K1.out.get 3 _ rfl
  have k4 := K1.out.get 4 _ rfl
  have k5 := K1.out.get 5 _ rfl
  go_upto_region 1 with (fail)
  rw [HW2.out]
  go_wp2_with fail
  refine K.out.mono ?_
  rintro e w1 ⟨rfl, b1⟩
  have BB1 := Lib.hid b1
  have B3 := Lib.hid (B1.out.trans (b1.mono B1.out.size))
  clear k0 k1 k2 k3 k4 k5 K b1
  obtain ⟨⟨u0, e0⟩, f0⟩ := QW.out _ BB1.out 0 (by decide)
  obtain ⟨⟨u1, e1⟩, f1⟩ := QW.out _ BB1.out 1 (by decide)
  obtain ⟨⟨u2, e2⟩, f2⟩ := QW.out _ BB1.out 2 (by decide)
  obtain ⟨⟨u3, e3⟩, f3⟩ := QW.out _ BB1.out 3 (by decide)
  obtain ⟨⟨u4, e4⟩, f4⟩ := QW.out _ BB1.out 4 (by decide)
  obtain ⟨⟨u5, e5⟩, f5⟩ := QW.out _ BB1.out 5 (by decide)
  obtain ⟨⟨u6, e6⟩, f6⟩ := QW.out _ BB1.out 6 (by decide)
  obtain ⟨⟨u7, e7⟩, f7⟩ := QW.out _ BB1.out 7 (by decide)
  go_wp2
  refine bodyPost_ret (v := .tuple #[noPlant, .int .i64 0, .int .i64 q]) (by simp [noPlant, results, Try.results30, go_sem, e0, e1, e2, e3, e4, e5, e6, e7]) rfl ⟨rfl, ?_⟩
  iterate 8 (refine Below.setCell ?_ (by simp) _)
  exact B3.out

set_option maxRecDepth 100000 in
set_option maxHeartbeats 4000000 in
theorem SpecPlantAfter_ok {u : Value} {xss : List (List Int)} {ds : List (Int × Int)} {rv : Value} (n t bs sm wk : Int) (w : World) (ha : SlII w u xss) (hr : FDeed.Sl w rv ds) (h0 : dcode n t xss bs sm wk ds = 0) :
    Calls Try.prog 36 #[.agg #[.int .i64 n, .int .i64 t, u, .int .i64 bs, .int .i64 sm, .int .i64 wk], rv] w fun e w' => PlRes w w' (plS t xss bs sm wk ds) (doneS (plC t xss bs sm wk ds)) e := by
  have HA := Lib.hid (fun W (h : Below w.heap.size w W) => ha.below h)
  have HR := Lib.hid (fun W (h : Below w.heap.size w W) => hr.below h)
  obtain ⟨ra, rc, rfl, hrc, hrc2, _⟩ := id hr
  obtain ⟨a, ca, us, rfl, _⟩ := id ha
  unfold maxLen at hrc2
  have bA : Below w.heap.size w (w.alloc (.cells #[.int .i64 n, .int .i64 t, .slice a xss.length ca, .int .i64 bs, .int .i64 sm, .int .i64 wk] 35)) := (Below.refl _ _).alloc (Nat.le_refl _) _
  have KA := CellsAt.new w [.int .i64 n, .int .i64 t, .slice a xss.length ca, .int .i64 bs, .int .i64 sm, .int .i64 wk] 35
  have bB : Below (w.alloc (.cells #[.int .i64 n, .int .i64 t, .slice a xss.length ca, .int .i64 bs, .int .i64 sm, .int .i64 wk] 35)).heap.size (w.alloc (.cells #[.int .i64 n, .int .i64 t, .slice a xss.length ca, .int .i64 bs, .int .i64 sm, .int .i64 wk] 35)) ((w.alloc (.cells #[.int .i64 n, .int .i64 t, .slice a xss.length ca, .int .i64 bs, .int .i64 sm, .int .i64 wk] 35)).alloc (.cells #[.slice none 0 0, .slice none 0 0, .int .i64 0, .slice none 0 0, .int .i64 0, .slice none 0 0, .slice none 0 0, .slice none 0 0] 61)) := (Below.refl _ _).alloc (Nat.le_refl _) _
  obtain ⟨W2, hW2⟩ : ∃ W2, W2 = (w.alloc (.cells #[.int .i64 n, .int .i64 t, .slice a xss.length ca, .int .i64 bs, .int .i64 sm, .int .i64 wk] 35)).alloc (.cells #[.slice none 0 0, .slice none 0 0, .int .i64 0, .slice none 0 0, .int .i64 0, .slice none 0 0, .slice none 0 0, .slice none 0 0] 61) := ⟨_, rfl⟩
  have K1 := Lib.hid (show CellsAt W2 w.heap.size [.int .i64 n, .int .i64 t, .slice a xss.length ca, .int .i64 bs, .int .i64 sm, .int .i64 wk] by rw [hW2]; exact KA.below bB)
  have QW := Lib.hid (show ∀ W, Below W2.heap.size W2 W → ∀ i : Nat, i < 8 → (∃ u, W.cell? ⟨w.heap.size + 1, i, none⟩ = some u) ∧ W.frozen? ⟨w.heap.size + 1, i, none⟩ = false from fun W h i hi => by
    rw [hW2] at h
    have a1 := h.cell (p := ⟨w.heap.size + 1, i, none⟩) (by simp)
    have a2 := h.frozen (p := ⟨w.heap.size + 1, i, none⟩) (by simp)
    rw [a1, a2]
    match i, hi with
    | 0, _ => simp [go_sem]
    | 1, _ => simp [go_sem]
    | 2, _ => simp [go_sem]
    | 3, _ => simp [go_sem]
    | 4, _ => simp [go_sem]
    | 5, _ => simp [go_sem]
    | 6, _ => simp [go_sem]
    | 7, _ => simp [go_sem])
  have bB' := bB
  rw [← hW2] at bB
  have B1 := Lib.hid (bA.trans (bB.mono bA.size))
  have HZ := Lib.hid (show W2.heap.size = w.heap.size + 2 by rw [hW2]; simp)
  have HW2 := Lib.hid hW2.symm
  have SV2 := Lib.hid (show ServAt W2 w.heap.size 0 n t (.slice a xss.length ca) bs sm wk from by
    have h := svBox w n t (.slice a xss.length ca) bs sm wk
    unfold svObj at h
    rw [hW2]
    exact h.below bB')
  have K := Lib.hid (l09Asked_any w.heap.size n t bs sm wk W2 SV2.out (HA.out _ B1.out) (HR.out _ B1.out))
  rw [h0] at K
  obtain ⟨hok, hall, hlen⟩ := dcode_zero h0
  obtain ⟨n', sm', wk', rfl, rfl, rfl, hs, hwk, hn6⟩ := servOk_nat hok
  have t0 : ((0 : Int) != 0) = false := rfl
  have HALL := Lib.hid hall
  have HOK := Lib.hid hok
  clear ha hr hall hok bA bB bB' KA hW2 h0
  go_enter Try.func36, Try.ntmps36
  go_upto_region 1 with (fail)
  rw [HW2.out]
  go_wp2_with fail
  refine K.out.mono ?_
  rintro e w1 ⟨rfl, b1⟩
  have SV3 := Lib.hid (SV2.out.below b1)
  have BB1 := Lib.hid b1
  have BW1 := Lib.hid (B1.out.trans (b1.mono B1.out.size))
  clear K b1
  go_wp2_with fail
  refine (l09Play_any w1 SV3.out (HA.out _ BW1.out) (HR.out _ BW1.out) HOK.out HALL.out hlen).mono ?_
  rintro e w2 ⟨v, rfl, ho, ⟨vl, vr, ve, vh, vw, vo, P⟩, b2⟩
  have HS := Lib.hid (show plS t xss bs sm' wk' ds = afterS t xss bs sm' wk' ds (newS sm' wk') by unfold plS; rw [Int.toNat_natCast, Int.toNat_natCast])
  have HC := Lib.hid (show plC t xss bs sm' wk' ds = codesS t xss bs sm' wk' ds (newS sm' wk') by unfold plC; rw [Int.toNat_natCast, Int.toNat_natCast])
  have hcl := codesS_len (t := t) (xss := xss) (bs := bs) (sm := sm') (wk := wk') ds (newS sm' wk')
  obtain ⟨va, vc, hv, _⟩ := id ho.sl
  generalize afterS t xss bs sm' wk' ds (newS sm' wk') = Sk at P HS
  generalize codesS t xss bs sm' wk' ds (newS sm' wk') = Ck at HC ho hv hcl
  subst hv
  have HO := Lib.hid ho.sl
  have BB2 := Lib.hid (BB1.out.trans (b2.mono BB1.out.size))
  have B3 := Lib.hid (BW1.out.trans (b2.mono BW1.out.size))
  have HZ1 := Lib.hid BB1.out.size
  have P2 := Lib.hid P
  have hcl2 : Ck.length ≤ 400 := by omega
  clear ho P b2
  go_wp2
  go_loopw [10, 11] (fun d i wr => ∃ k : Nat, k ≤ Ck.length ∧ i = .int .i64 k ∧ d = .int .i64 (doneS (Ck.take k)) ∧ wr = w2) (fun _ i _ => Ck.length - (intOf i).toNat)
  case atStart => exact ⟨0, Nat.zero_le _, rfl, rfl, rfl⟩
  case round =>
    obtain ⟨k, hk, rfl, rfl, rfl⟩ := hrel
    have hdl := doneS_le (Ck.take k)
    rw [List.length_take] at hdl
    by_cases hlt : k < Ck.length
    · obtain ⟨db, do', rfl, _, c0⟩ := HO.out.at_ hlt
      have i1 : (k : Int) < (Ck.length : Int) := by omega
      have hst : doneS (Ck.take (k + 1)) = doneS (Ck.take k) + if Ck[k] = 0 then 1 else 0 := by rw [List.take_succ_eq_append_getElem hlt, doneS_snoc]
      generalize Ck[k] = c at c0 hst
      have HST := Lib.hid hst
      generalize doneS (Ck.take k) = D at HST hdl ⊢
      clear hst
      by_cases hc : c = 0
      · have tc : (c == 0) = true := by simp [hc]
        have HN := Lib.hid (HST.out.trans (by rw [if_pos hc]))
        clear hc HST
        go_wp2
        go_roundw
        case rel => exact ⟨k + 1, by omega, by go_num, by rw [HN.out]; go_num, by trivial⟩
        case measure => simp [intOf]; omega
      · have tc : (c == 0) = false := by simp [hc]
        have HN := Lib.hid (HST.out.trans (by rw [if_neg hc]))
        clear hc HST
        go_wp2
        go_roundw
        case rel => exact ⟨k + 1, by omega, by go_num, by rw [HN.out, Nat.add_zero], by trivial⟩
        case measure => simp [intOf]; omega
    · obtain rfl : k = Ck.length := by omega
      rw [List.take_length] at hdl ⊢
      have HD := Lib.hid (show doneS (plC t xss bs sm' wk' ds) = doneS Ck by rw [HC.out])
      generalize doneS Ck = D at HD hdl ⊢
      have PV := Lib.hid P2.out.val
      have ⟨⟨_, g0, g1, g2, g3⟩, g4, g5, g6, g7⟩ := P2.out.get
      have pv := PV.out
      obtain ⟨x0, y0, z0, rfl⟩ : ∃ x y z, vl = .slice x y z := by
        obtain ⟨x, z, h1, _⟩ := ownsRow_rd (pv.own 0 _ rfl)
        exact ⟨x, _, z, h1⟩
      obtain ⟨x1, y1, z1, rfl⟩ : ∃ x y z, vr = .slice x y z := by
        obtain ⟨x, z, h1, _⟩ := ownsRow_rd (pv.own 1 _ rfl)
        exact ⟨x, _, z, h1⟩
      obtain ⟨x3, y3, z3, rfl⟩ : ∃ x y z, ve = .slice x y z := by
        obtain ⟨x, z, h1, _⟩ := ownsRow_rd (pv.own 2 _ rfl)
        exact ⟨x, _, z, h1⟩
      obtain ⟨x5, y5, z5, rfl⟩ : ∃ x y z, vh = .slice x y z := by
        obtain ⟨x, z, h1, _⟩ := ownsRow_rd (pv.own 3 _ rfl)
        exact ⟨x, _, z, h1⟩
      obtain ⟨x6, y6, z6, rfl⟩ : ∃ x y z, vw = .slice x y z := by
        obtain ⟨x, z, h1, _⟩ := ownsRow_rd (pv.own 4 _ rfl)
        exact ⟨x, _, z, h1⟩
      obtain ⟨x7, y7, z7, rfl⟩ : ∃ x y z, vo = .slice x y z := by
        obtain ⟨x, z, h1, _⟩ := ownsRow_rd (pv.own 5 _ rfl)
        exact ⟨x, _, z, h1⟩
      clear pv
      obtain ⟨⟨u0, e0⟩, f0⟩ := QW.out _ BB2.out 0 (by decide)
      obtain ⟨⟨u1, e1⟩, f1⟩ := QW.out _ BB2.out 1 (by decide)
      obtain ⟨⟨u2, e2⟩, f2⟩ := QW.out _ BB2.out 2 (by decide)
      obtain ⟨⟨u3, e3⟩, f3⟩ := QW.out _ BB2.out 3 (by decide)
      obtain ⟨⟨u4, e4⟩, f4⟩ := QW.out _ BB2.out 4 (by decide)
      obtain ⟨⟨u5, e5⟩, f5⟩ := QW.out _ BB2.out 5 (by decide)
      obtain ⟨⟨u6, e6⟩, f6⟩ := QW.out _ BB2.out 6 (by decide)
      obtain ⟨⟨u7, e7⟩, f7⟩ := QW.out _ BB2.out 7 (by decide)
      go_wp2
      refine bodyPost_ret (v := .tuple #[.agg #[.slice x0 y0 z0, .slice x1 y1 z1, .int .i64 Sk.q, .slice x3 y3 z3, .int .i64 Sk.sy, .slice x5 y5 z5, .slice x6 y6 z6, .slice x7 y7 z7], .int .i64 D, .int .i64 0]) (by simp [results, Try.results36, go_sem, e0, e1, e2, e3, e4, e5, e6, e7]) rfl ⟨_, _, _, _, _, _, by unfold plV; rw [HS.out, HD.out], ?_, ?_⟩
      · rw [HS.out]
        refine (PV.out.fs (T := fun k => k = w.heap.size + 1) ?_ (fun k hk h => by have := HZ.out; have := HZ1.out; omega)).mono (fun k hk => by have := HZ.out; have := HZ1.out; omega)
        iterate 8 (refine Fs.set (S := fun k => k = w.heap.size + 1) ?_ rfl _)
        exact Fs.refl _ _
      · iterate 8 (refine Below.setCell ?_ (by simp) _)
        exact B3.out
set_option maxRecDepth 100000 in
set_option maxHeartbeats 4000000 in
theorem SpecPlantAfter_bad {u : Value} {xss : List (List Int)} {ds : List (Int × Int)} {rv : Value} (n t bs sm wk q : Int) (w : World) (ha : SlII w u xss) (hr : FDeed.Sl w rv ds) (h0 : dcode n t xss bs sm wk ds = q) (hq : q ≠ 0) :
    Calls Try.prog 36 #[.agg #[.int .i64 n, .int .i64 t, u, .int .i64 bs, .int .i64 sm, .int .i64 wk], rv] w fun e w' => e = .returned (.tuple #[noPlant, .int .i64 0, .int .i64 q]) ∧ Below w.heap.size w w' := by
  have HA := Lib.hid (fun W (h : Below w.heap.size w W) => ha.below h)
  have HR := Lib.hid (fun W (h : Below w.heap.size w W) => hr.below h)
  obtain ⟨ra, rc, rfl, hrc, hrc2, _⟩ := id hr
  obtain ⟨a, ca, us, rfl, _⟩ := id ha
  unfold maxLen at hrc2
  have bA : Below w.heap.size w (w.alloc (.cells #[.int .i64 n, .int .i64 t, .slice a xss.length ca, .int .i64 bs, .int .i64 sm, .int .i64 wk] 35)) := (Below.refl _ _).alloc (Nat.le_refl _) _
  have KA := CellsAt.new w [.int .i64 n, .int .i64 t, .slice a xss.length ca, .int .i64 bs, .int .i64 sm, .int .i64 wk] 35
  have bB : Below (w.alloc (.cells #[.int .i64 n, .int .i64 t, .slice a xss.length ca, .int .i64 bs, .int .i64 sm, .int .i64 wk] 35)).heap.size (w.alloc (.cells #[.int .i64 n, .int .i64 t, .slice a xss.length ca, .int .i64 bs, .int .i64 sm, .int .i64 wk] 35)) ((w.alloc (.cells #[.int .i64 n, .int .i64 t, .slice a xss.length ca, .int .i64 bs, .int .i64 sm, .int .i64 wk] 35)).alloc (.cells #[.slice none 0 0, .slice none 0 0, .int .i64 0, .slice none 0 0, .int .i64 0, .slice none 0 0, .slice none 0 0, .slice none 0 0] 61)) := (Below.refl _ _).alloc (Nat.le_refl _) _
  obtain ⟨W2, hW2⟩ : ∃ W2, W2 = (w.alloc (.cells #[.int .i64 n, .int .i64 t, .slice a xss.length ca, .int .i64 bs, .int .i64 sm, .int .i64 wk] 35)).alloc (.cells #[.slice none 0 0, .slice none 0 0, .int .i64 0, .slice none 0 0, .int .i64 0, .slice none 0 0, .slice none 0 0, .slice none 0 0] 61) := ⟨_, rfl⟩
  have K1 := Lib.hid (show CellsAt W2 w.heap.size [.int .i64 n, .int .i64 t, .slice a xss.length ca, .int .i64 bs, .int .i64 sm, .int .i64 wk] by rw [hW2]; exact KA.below bB)
  have QW := Lib.hid (show ∀ W, Below W2.heap.size W2 W → ∀ i : Nat, i < 8 → (∃ u, W.cell? ⟨w.heap.size + 1, i, none⟩ = some u) ∧ W.frozen? ⟨w.heap.size + 1, i, none⟩ = false from fun W h i hi => by
    rw [hW2] at h
    have a1 := h.cell (p := ⟨w.heap.size + 1, i, none⟩) (by simp)
    have a2 := h.frozen (p := ⟨w.heap.size + 1, i, none⟩) (by simp)
    rw [a1, a2]
    match i, hi with
    | 0, _ => simp [go_sem]
    | 1, _ => simp [go_sem]
    | 2, _ => simp [go_sem]
    | 3, _ => simp [go_sem]
    | 4, _ => simp [go_sem]
    | 5, _ => simp [go_sem]
    | 6, _ => simp [go_sem]
    | 7, _ => simp [go_sem])
  have bB' := bB
  rw [← hW2] at bB
  have B1 := Lib.hid (bA.trans (bB.mono bA.size))
  have HZ := Lib.hid (show W2.heap.size = w.heap.size + 2 by rw [hW2]; simp)
  have HW2 := Lib.hid hW2.symm
  have SV2 := Lib.hid (show ServAt W2 w.heap.size 0 n t (.slice a xss.length ca) bs sm wk from by
    have h := svBox w n t (.slice a xss.length ca) bs sm wk
    unfold svObj at h
    rw [hW2]
    exact h.below bB')
  have K := Lib.hid (l09Asked_any w.heap.size n t bs sm wk W2 SV2.out (HA.out _ B1.out) (HR.out _ B1.out))
  rw [h0] at K
  have t0 : (q != 0) = true := by simp [hq]
  clear ha hr bA bB bB' KA hW2 h0
  go_enter Try.func36, Try.ntmps36
  go_upto_region 1 with (fail)
  rw [HW2.out]
  go_wp2_with fail
  refine K.out.mono ?_
  rintro e w1 ⟨rfl, b1⟩
  have BB1 := Lib.hid b1
  have B3 := Lib.hid (B1.out.trans (b1.mono B1.out.size))
  clear K b1
  obtain ⟨⟨u0, e0⟩, f0⟩ := QW.out _ BB1.out 0 (by decide)
  obtain ⟨⟨u1, e1⟩, f1⟩ := QW.out _ BB1.out 1 (by decide)
  obtain ⟨⟨u2, e2⟩, f2⟩ := QW.out _ BB1.out 2 (by decide)
  obtain ⟨⟨u3, e3⟩, f3⟩ := QW.out _ BB1.out 3 (by decide)
  obtain ⟨⟨u4, e4⟩, f4⟩ := QW.out _ BB1.out 4 (by decide)
  obtain ⟨⟨u5, e5⟩, f5⟩ := QW.out _ BB1.out 5 (by decide)
  obtain ⟨⟨u6, e6⟩, f6⟩ := QW.out _ BB1.out 6 (by decide)
  obtain ⟨⟨u7, e7⟩, f7⟩ := QW.out _ BB1.out 7 (by decide)
  go_wp2
  refine bodyPost_ret (v := .tuple #[noPlant, .int .i64 0, .int .i64 q]) (by simp [noPlant, results, Try.results36, go_sem, e0, e1, e2, e3, e4, e5, e6, e7]) rfl ⟨rfl, ?_⟩
  iterate 8 (refine Below.setCell ?_ (by simp) _)
  exact B3.out
end Go.Proofs.Ytijpkcdalmlaiaa
