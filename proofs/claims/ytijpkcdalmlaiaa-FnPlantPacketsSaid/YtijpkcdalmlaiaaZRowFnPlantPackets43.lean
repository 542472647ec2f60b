/-
  FnPlantPackets: the law answers true for all texts of bytes.
-/
import Derived.Test.YtijpkcdalmlaiaaZRowFnPlantPackets39
import Derived.Test.YtijpkcdalmlaiaaZRowFnPlantPackets24
import Derived.Test.YtijpkcdalmlaiaaZRowFnPlantPackets41
import Derived.Test.YtijpkcdalmlaiaaZRowFnPlantPackets42
import Derived.Test.YtijpkcdalmlaiaaZRowFnPlantPackets37
set_option linter.unusedVariables false
set_option linter.unusedSimpArgs false
namespace Go.Proofs.Ytijpkcdalmlaiaa
open Go.RowKit Go.Sort
theorem sl_rdP {α : Type} {F : Flat α} {w : World} {ad : Option Addr} {n c : Nat} {xs : List α} (h : F.Sl w (.slice ad n c) xs) : Rd w ad (F.encs xs) := by
  obtain ⟨ad', c', he, _, _, h4⟩ := h
  simp only [Value.slice.injEq] at he
  obtain ⟨rfl, rfl, rfl⟩ := he
  exact h4
theorem cell_set_ne {w : World} {b g i j : Nat} {v : Value} (h : ¬ b = g) : (w.setCell ⟨g, j, none⟩ v).cell? ⟨b, i, none⟩ = w.cell? ⟨b, i, none⟩ := World.cell?_of_block (heap_setCell_other w ⟨g, j, none⟩ b v h)
theorem cell_set_off {w : World} {b i j : Nat} {v : Value} (h : ¬ i = j) : (w.setCell ⟨b, j, none⟩ v).cell? ⟨b, i, none⟩ = w.cell? ⟨b, i, none⟩ := by
  have h2 : ¬ j = i := fun e => h e.symm
  simp [go_sem, h, h2]
set_option maxRecDepth 100000 in
set_option maxHeartbeats 16000000 in
theorem FnPlantPackets_walk {xs ys : List Int} (a0 a1 : Option Addr) (n0 n1 c0 c1 : Nat) (w : World) (hn0 : n0 ≤ maxLen) (hn1 : n1 ≤ maxLen) (hx : xs.length = n0) (hr : Rd w a0 (xs.map (.int .u8))) (hb : ∀ x ∈ xs, 0 ≤ x ∧ x < 256)
    (hx1 : ys.length = n1) (hr1 : Rd w a1 (ys.map (.int .u8))) (hb1 : ∀ x ∈ ys, 0 ≤ x ∧ x < 256) :
    Calls Try.prog 7 #[.slice a0 n0 c0, .slice a1 n1 c1] w fun e w' => e = .returned (.bool true) ∧ Below w.heap.size w w' := by
  have HR := Lib.hid (fun W (h : Below w.heap.size w W) => hr.below h)
  have HB := Lib.hid hb
  have HX := Lib.hid hx
  have HR1 := Lib.hid (fun W (h : Below w.heap.size w W) => hr1.below h)
  have HB1 := Lib.hid hb1
  have HX1 := Lib.hid hx1
  have HN0 := Lib.hid hn0
  have HN1 := Lib.hid hn1
  clear hr hb hx hr1 hb1 hx1 hn0 hn1
  generalize hd : a2L n0 n1 = d
  have HD := Lib.hid hd
  clear hd
  cases d
  case true =>
    go_enter Try.func7, Try.ntmps7
    go_wp2_with fail
    refine (a2Long_any a0 a1 n0 n1 c0 c1 _ HN0.out HN1.out).mono ?_
    rintro e w1 ⟨rfl, rfl⟩
    rw [HD.out]
    go_wp2
    go_ret
    exact ⟨rfl, Below.refl _ _⟩
  case false =>
      have h40 := Lib.hid (show n0 ≤ 3000 ∧ n1 ≤ 3000 by have := HD.out; unfold a2L at this; rw [decide_eq_false_iff_not] at this; omega)
      go_enter Try.func7, Try.ntmps7
      go_wp2_with fail
      refine (a2Long_any a0 a1 n0 n1 c0 c1 _ HN0.out HN1.out).mono ?_
      rintro e w1 ⟨rfl, rfl⟩
      rw [HD.out]
      clear HD
      go_wp2_with fail
      refine (A2Service_any a0 n0 c0 _ (by have := h40.out; omega) HX.out (HR.out _ (Below.refl _ _)) HB.out).mono ?_
      rintro e w1 ⟨m, t, bs, sm, wk, v, xss, rfl, hch, hbs, ⟨hsm1, hsm2⟩, ⟨hwk1, hwk2⟩, o1, b1⟩
      obtain ⟨⟨hm1, hm2⟩, ⟨ht1, ht2⟩, hml, _⟩ := chainOk_parts0 hch
      have HOK := Lib.hid (show serviceOk m t xss bs sm wk = true by
        unfold serviceOk
        rw [hch, inR_iff.2 ⟨by omega, by omega⟩, inR_iff.2 ⟨by omega, by omega⟩, inR_iff.2 ⟨by omega, by omega⟩]
        rfl)
      have S1 := Lib.hid o1.sl
      obtain ⟨va, vn, vc, rfl, hvn⟩ := o1.formJ
      obtain ⟨W2, hW2⟩ : ∃ W2, W2 = w1.alloc (svObj m t (.slice va vn vc) bs sm wk) := ⟨_, rfl⟩
      have b2 : Below w1.heap.size w1 W2 := by rw [hW2]; exact (Below.refl _ _).alloc (Nat.le_refl _) _
      have X2 := Lib.hid (show ServAt W2 w1.heap.size 0 m t (.slice va vn vc) bs sm wk by rw [hW2]; exact svBox w1 m t _ bs sm wk)
      have HA := Lib.hid (fun W (h : Below W2.heap.size W2 W) => (S1.out.below b2).below h)
      have SV := Lib.hid (show ∀ W, Below W2.heap.size W2 W → W.cell? ⟨w1.heap.size, 0, none⟩ = some (.int .i64 m) ∧ W.cell? ⟨w1.heap.size, 1, none⟩ = some (.int .i64 t) ∧ W.cell? ⟨w1.heap.size, 2, none⟩ = some (.slice va vn vc) ∧ W.cell? ⟨w1.heap.size, 3, none⟩ = some (.int .i64 bs) ∧ W.cell? ⟨w1.heap.size, 4, none⟩ = some (.int .i64 sm) ∧ W.cell? ⟨w1.heap.size, 5, none⟩ = some (.int .i64 wk) from fun W h => by
        obtain ⟨⟨_, p0, p1, p2⟩, p3, p4, p5⟩ := X2.out.below h
        simp only [Nat.zero_add] at p0 p1 p2 p3 p4 p5
        exact ⟨p0, p1, p2, p3, p4, p5⟩)
      have B2 := Lib.hid (b1.trans (b2.mono b1.size))
      have HW2 := Lib.hid (show w1.alloc (.cells #[.int .i64 m, .int .i64 t, .slice va vn vc, .int .i64 bs, .int .i64 sm, .int .i64 wk] 35) = W2 from hW2.symm)
      have hsz : w1.heap.size < W2.heap.size := by rw [hW2]; simp
      clear b1 b2 hch o1 hW2 X2 S1 hvn hml
      go_wp2_with fail
      rw [HW2.out]
      obtain ⟨p0, p1, p2, p3, p4, p5⟩ := SV.out W2 (Below.refl _ _)
      go_wp2_with fail
      refine (A2Deeds_any a1 n1 c1 m sm wk t bs W2 (by have := h40.out; omega) HX1.out (HR1.out _ B2.out) HB1.out (HA.out _ (Below.refl _ _)) HOK.out).mono ?_
      rintro e w3 ⟨v, ds, rfl, o3, hdk, hl40, b3⟩
      have HDK := Lib.hid hdk
      have B3 := Lib.hid b3
      have HDC := Lib.hid (show dcode m t xss bs sm wk ds = 0 by
        unfold dcode
        rw [HOK.out, Go.Proofs.Ytijpkcdalmlaiaa.deedsOk_of hdk]
        simp
        omega)
      have DS := Lib.hid (fun W (h : Below w3.heap.size w3 W) => o3.sl.below h)
      obtain ⟨ra, rc, rfl, hrc1, hrc2, _⟩ := id o3.sl
      unfold maxLen at hrc2
      have BJ := Lib.hid (B2.out.trans (b3.mono B2.out.size))
      have hz3 := b3.size
      have HCH := Lib.hid (serviceOk_parts HOK.out).1
      clear hdk o3 b3 p0 p1 p2 p3 p4 p5
      have CC := Lib.hid (Below.refl w3.heap.size w3)
      have hPS : ∀ L, plS t xss bs sm wk L = afterS t xss bs sm wk L (newS sm wk) := fun L => by unfold plS; rw [Int.toNat_natCast, Int.toNat_natCast]
      have hdcL : ∀ L : List (Int × Int), (∀ d ∈ L, deedOk d.1 d.2 = true) → L.length ≤ 2 → dcode m t xss bs sm wk (ds ++ L) = 0 := fun L hL hl => by
        unfold dcode
        rw [HOK.out, Go.Proofs.Ytijpkcdalmlaiaa.deedsOk_of (fun d hd => by
          rcases List.mem_append.1 hd with hd | hd
          · exact HDK.out d hd
          · exact hL d hd)]
        have : (ds ++ L).length ≤ 42 := by rw [List.length_append]; omega
        simp at this ⊢
        omega
      have HDL := Lib.hid hdcL
      have hI := afterS_inv (n := m) (bs := bs) (wk := wk) HCH.out hsm1 ds (newS sm wk) HDK.out (PInv.new hsm1)
      have hAP : ∀ L, plS t xss bs sm wk (ds ++ L) = afterS t xss bs sm wk L (afterS t xss bs sm wk ds (newS sm wk)) := fun L => by rw [hPS, afterS_app]
      have HAP := Lib.hid hAP
      have KD7 := Lib.hid (ImplPlantAfter_ok m t bs sm wk w3 (HA.out _ B3.out) (DS.out _ (Below.refl _ _)) HDC.out)
      have KS10 := Lib.hid (fun W (h : Below W2.heap.size W2 W) (h2 : Below w3.heap.size w3 W) => SpecPlantAfter_ok m t bs sm wk W (HA.out _ h) (DS.out _ h2) HDC.out)
      rw [hPS] at KD7 KS10
      generalize hSk : afterS t xss bs sm wk ds (newS sm wk) = Sk at KD7 KS10 hI HAP
      generalize doneS (plC t xss bs sm wk ds) = D0 at KD7 KS10
      have HI := Lib.hid hI
      have hwl := hI.wl
      clear hPS hdcL hAP hSk hI
      obtain ⟨p0, p1, p2, p3, p4, p5⟩ := SV.out w3 B3.out
      go_wp2_with fail
      refine KD7.out.mono ?_
      rintro e u7 ⟨vl, vr, ve, vh, vw, vo, rfl, pv, cu⟩
      obtain ⟨al7, bl7, ar7, br7, ae7, be7, ah7, bh7, aw7, bw7, ao7, bo7, rfl, rfl, rfl, rfl, rfl, rfl⟩ := pv.rd.form
      unfold plV
      have F1W2 := Lib.hid (B3.out.trans ((cu).mono B3.out.size))
      have F1w3 := Lib.hid (CC.out.trans ((cu).mono CC.out.size))
      have RD7 := Lib.hid (fun W (h : Below u7.heap.size u7 W) => pv.rd.below h)
      have SZW := Lib.hid (show w3.heap.size ≤ u7.heap.size from cu.size)
      clear pv cu p0 p1 p2 p3 p4 p5
      have G7 := Lib.hid (Below.refl u7.heap.size u7)
      clear KD7
      obtain ⟨Y7, hY⟩ : ∃ Y, Y = u7.alloc (.cells #[.slice al7 Sk.l.length bl7, .slice ar7 Sk.r.length br7, .int .i64 Sk.q, .slice ae7 Sk.recs.length be7, .int .i64 Sk.sy, .slice ah7 Sk.hands.length bh7, .slice aw7 Sk.wire.length bw7, .slice ao7 Sk.out.length bo7] 61) := ⟨_, rfl⟩
      have by1 : Below u7.heap.size u7 Y7 := by rw [hY]; exact (Below.refl _ _).alloc (Nat.le_refl _) _
      have BX7 := Lib.hid (show BoxN Y7 u7.heap.size [.slice al7 Sk.l.length bl7, .slice ar7 Sk.r.length br7, .int .i64 Sk.q, .slice ae7 Sk.recs.length be7, .int .i64 Sk.sy, .slice ah7 Sk.hands.length bh7, .slice aw7 Sk.wire.length bw7, .slice ao7 Sk.out.length bo7] by rw [hY]; exact ⟨CellsAt.new u7 [.slice al7 Sk.l.length bl7, .slice ar7 Sk.r.length br7, .int .i64 Sk.q, .slice ae7 Sk.recs.length be7, .int .i64 Sk.sy, .slice ah7 Sk.hands.length bh7, .slice aw7 Sk.wire.length bw7, .slice ao7 Sk.out.length bo7] 61, fun i => by simp [go_sem]⟩)
      have HY7 := Lib.hid hY.symm
      have F2W2 := Lib.hid (F1W2.out.trans ((by1).mono F1W2.out.size))
      have F2w3 := Lib.hid (F1w3.out.trans ((by1).mono F1w3.out.size))
      have F2u7 := Lib.hid (G7.out.trans ((by1).mono G7.out.size))
      have H7 := Lib.hid (Below.refl Y7.heap.size Y7)
      have LB7 := Lib.hid (show u7.heap.size < Y7.heap.size from BX7.out.c.1)
      clear hY by1
      go_upto_region 6 with (fail)
      rw [HY7.out]
      obtain ⟨p0, p1, p2, p3, p4, p5⟩ := SV.out Y7 F2W2.out
      go_wp2_with fail
      refine (KS10.out Y7 F2W2.out F2w3.out).mono ?_
      rintro e u10 ⟨vl, vr, ve, vh, vw, vo, rfl, pv, cu⟩
      obtain ⟨al10, bl10, ar10, br10, ae10, be10, ah10, bh10, aw10, bw10, ao10, bo10, rfl, rfl, rfl, rfl, rfl, rfl⟩ := pv.rd.form
      unfold plV
      have F3W2 := Lib.hid (F2W2.out.trans ((cu).mono F2W2.out.size))
      have F3w3 := Lib.hid (F2w3.out.trans ((cu).mono F2w3.out.size))
      have F3u7 := Lib.hid (F2u7.out.trans ((cu).mono F2u7.out.size))
      have F3Y7 := Lib.hid (H7.out.trans ((cu).mono H7.out.size))
      have RD10 := Lib.hid (fun W (h : Below u10.heap.size u10 W) => pv.rd.below h)
      clear pv cu p0 p1 p2 p3 p4 p5
      have G10 := Lib.hid (Below.refl u10.heap.size u10)
      clear KS10
      obtain ⟨Y10, hY⟩ : ∃ Y, Y = u10.alloc (.cells #[.slice al10 Sk.l.length bl10, .slice ar10 Sk.r.length br10, .int .i64 Sk.q, .slice ae10 Sk.recs.length be10, .int .i64 Sk.sy, .slice ah10 Sk.hands.length bh10, .slice aw10 Sk.wire.length bw10, .slice ao10 Sk.out.length bo10] 61) := ⟨_, rfl⟩
      have by1 : Below u10.heap.size u10 Y10 := by rw [hY]; exact (Below.refl _ _).alloc (Nat.le_refl _) _
      have BX10 := Lib.hid (show BoxN Y10 u10.heap.size [.slice al10 Sk.l.length bl10, .slice ar10 Sk.r.length br10, .int .i64 Sk.q, .slice ae10 Sk.recs.length be10, .int .i64 Sk.sy, .slice ah10 Sk.hands.length bh10, .slice aw10 Sk.wire.length bw10, .slice ao10 Sk.out.length bo10] by rw [hY]; exact ⟨CellsAt.new u10 [.slice al10 Sk.l.length bl10, .slice ar10 Sk.r.length br10, .int .i64 Sk.q, .slice ae10 Sk.recs.length be10, .int .i64 Sk.sy, .slice ah10 Sk.hands.length bh10, .slice aw10 Sk.wire.length bw10, .slice ao10 Sk.out.length bo10] 61, fun i => by simp [go_sem]⟩)
      have HY10 := Lib.hid hY.symm
      have F4W2 := Lib.hid (F3W2.out.trans ((by1).mono F3W2.out.size))
      have F4w3 := Lib.hid (F3w3.out.trans ((by1).mono F3w3.out.size))
      have F4u7 := Lib.hid (F3u7.out.trans ((by1).mono F3u7.out.size))
      have F4Y7 := Lib.hid (F3Y7.out.trans ((by1).mono F3Y7.out.size))
      have F4u10 := Lib.hid (G10.out.trans ((by1).mono G10.out.size))
      have H10 := Lib.hid (Below.refl Y10.heap.size Y10)
      have LB10 := Lib.hid (show u10.heap.size < Y10.heap.size from BX10.out.c.1)
      clear hY by1
      go_upto_region 7 with (fail)
      rw [HY10.out]
      have n1 : ((Sk.wire.length : Int) != (Sk.wire.length : Int)) = false := by simp
      have c7 := (BX7.out.c.below F4Y7.out).get 6 _ rfl
      have c10 := BX10.out.c.get 6 _ rfl
      by_cases hw0 : Sk.wire.length = 0
      · have t0 : ((Sk.wire.length : Int) == 0) = true := by rw [hw0]; rfl
        clear hw0
        go_wp2
        go_ret
        exact ⟨rfl, BJ.out.trans (F4w3.out.mono BJ.out.size)⟩
      · have t0 : ((Sk.wire.length : Int) == 0) = false := by rw [beq_eq_false_iff_ne]; omega
        have KA := Lib.hid (a2At_any (xs := xs) a0 n0 c0 0 Sk.wire.length (kI := 0) (mI := (Sk.wire.length : Int)) Y10 rfl rfl HN0.out HX.out (HR.out _ (BJ.out.trans (F4w3.out.mono BJ.out.size))) HB.out (by decide) (by omega) (by omega))
        go_wp2_with fail
        refine KA.out.mono ?_
        rintro e w4 ⟨y, rfl, hy, rfl⟩
        clear KA c7 c10 n1 t0
        have hy12 : y ≤ 12 := by omega
        have hp := packet_law (t := t) (xss := xss) (bs := bs) HI.out hy
        have hok3 : deedOk 3 (y : Int) = true := deedOk_of (by decide) (by decide) (by omega) (by omega) (by omega)
        have hok4 : deedOk 4 (y : Int) = true := deedOk_of (by decide) (by decide) (by omega) (by omega) (by omega)
        have hok5 : deedOk 5 (y : Int) = true := deedOk_of (by decide) (by decide) (by omega) (by omega) (by omega)
        have hA1 := HAP.out [(3, (y : Int))]
        have hA2 := HAP.out [(4, (y : Int)), (3, (y : Int))]
        have hA3 := HAP.out [(5, (y : Int))]
        rw [hp.1] at hA2
        rw [hp.2] at hA3
        have hd1 := HDL.out [(3, (y : Int))] (by simp [hok3]) (by simp)
        have hd2 := HDL.out [(4, (y : Int)), (3, (y : Int))] (by simp [hok3, hok4]) (by simp)
        have hd3 := HDL.out [(5, (y : Int))] (by simp [hok5]) (by simp)
        have hIa := afterS_inv (n := m) (bs := bs) (wk := wk) HCH.out hsm1 [(3, (y : Int))] Sk (by simp [hok3]) HI.out
        have hIc := afterS_inv (n := m) (bs := bs) (wk := wk) HCH.out hsm1 [(5, (y : Int))] Sk (by simp [hok5]) HI.out
        rw [hp.2] at hIc
        have hlc : (({ Sk with wire := Sk.wire.eraseIdx y } : PS).wire.length : Nat) = Sk.wire.length - 1 := by simp [List.length_eraseIdx, hy]
        generalize afterS t xss bs sm wk [(3, (y : Int))] Sk = Qa at hA1 hA2 hIa
        obtain ⟨Qc, hQc⟩ : ∃ Qc : PS, Qc = { Sk with wire := Sk.wire.eraseIdx y } := ⟨_, rfl⟩
        rw [← hQc] at hA3 hIc hlc
        have HQC := Lib.hid hQc
        have HA1 := Lib.hid hA1
        have HA2 := Lib.hid hA2
        have HA3 := Lib.hid hA3
        have HD1 := Lib.hid hd1
        have HD2 := Lib.hid hd2
        have HD3 := Lib.hid hd3
        have HLC := Lib.hid hlc
        have LA := Lib.hid (show Qa.recs.length ≤ 1000 ∧ Qa.hands.length ≤ 1000 ∧ Qa.wire.length ≤ 1000 from ⟨by have := hIa.len; omega, by have := hIa.hl; omega, by have := hIa.wl; omega⟩)
        have LC := Lib.hid (show Qc.recs.length ≤ 1000 ∧ Qc.hands.length ≤ 1000 ∧ Qc.wire.length ≤ 1000 from ⟨by have := hIc.len; omega, by have := hIc.hl; omega, by have := hIc.wl; omega⟩)
        clear hp hok3 hok4 hok5 hA1 hA2 hA3 hd1 hd2 hd3 hIa hIc hlc hQc
        have be := (Below.refl Y10.heap.size Y10).alloc (Nat.le_refl _) (.cells #[] 68)
        have BE := Lib.hid be
        have OE := Lib.hid (Flat.Own.empty (F := FDeed) Y10 (base := Y10.heap.size) (Nat.le_refl _))
        have RD1 := Lib.hid (sl_rdP (DS.out _ (F4w3.out.trans (be.mono F4w3.out.size))))
        have hln1 : ([] : List (Int × Int)).length + ds.length ≤ 16777216 := by simp; omega
        clear be
        go_wp2_with (at_builtin; refine Flat.append_at FDeed _ (.tmp 73) (.tmp 74) rfl rfl (base := Y10.heap.size) (v := .slice (some ⟨Y10.heap.size, 0, none⟩) 0 0) (xs := []) (ys := ds) rfl OE.out rfl RD1.out hln1 BE.out.size ?_)
        intro va1 x1 o1 q1 at1
        have bx1 := BE.out.trans (Flat.Own.grown OE.out q1 BE.out.size)
        have o1 : FDeed.Own x1 Y10.heap.size va1 ds := o1
        have bd : Below x1.heap.size x1 (x1.alloc (.cells #[.int .i64 3, .int .i64 y] 68)) := (Below.refl _ _).alloc (Nat.le_refl _) _
        have O1 := Lib.hid (Flat.Own.below o1 bd)
        have BX1 := Lib.hid (bx1.trans (bd.mono bx1.size))
        have RD2 := Lib.hid (show Rd (x1.alloc (.cells #[.int .i64 3, .int .i64 y] 68)) (some ⟨x1.heap.size, 0, none⟩) (FDeed.encs [(3, (y : Int))]) from rd_new x1 #[.int .i64 3, .int .i64 y] 68)
        have hln2 : ds.length + ([(3, (y : Int))] : List (Int × Int)).length ≤ 16777216 := by simp; omega
        clear bx1 o1 q1 at1 BE OE RD1 bd hln1
        go_wp2_with (at_builtin; refine Flat.append_at FDeed _ (.tmp 75) (.tmp 78) rfl rfl (base := Y10.heap.size) (v := va1) (xs := ds) (ys := [(3, (y : Int))]) rfl O1.out rfl RD2.out hln2 BX1.out.size ?_)
        intro va2 x101 o2 q2 at2
        have bx2 := BX1.out.trans (Flat.Own.grown O1.out q2 BX1.out.size)
        have SL1 := Lib.hid (fun W (h : Below x101.heap.size x101 W) => o2.sl.below h)
        have F5W2 := Lib.hid (F4W2.out.trans ((bx2).mono F4W2.out.size))
        have F5w3 := Lib.hid (F4w3.out.trans ((bx2).mono F4w3.out.size))
        have F5u7 := Lib.hid (F4u7.out.trans ((bx2).mono F4u7.out.size))
        have F5Y7 := Lib.hid (F4Y7.out.trans ((bx2).mono F4Y7.out.size))
        have F5u10 := Lib.hid (F4u10.out.trans ((bx2).mono F4u10.out.size))
        have F5Y10 := Lib.hid (H10.out.trans ((bx2).mono H10.out.size))
        have M1 := Lib.hid (Below.refl x101.heap.size x101)
        obtain ⟨AL1, hAL⟩ : ∃ AL, AL = ds ++ [(3, (y : Int))] := ⟨_, rfl⟩
        rw [← hAL] at SL1
        have HA1 := Lib.hid HA1.out
        have HD1 := Lib.hid HD1.out
        rw [← hAL] at HA1 HD1
        rw [← hAL] at o2
        obtain ⟨sa1, sc1, rfl, _⟩ := id o2.sl
        clear bx2 o2 q2 at2 O1 BX1 RD2 hln2 hAL
        have be := (Below.refl x101.heap.size x101).alloc (Nat.le_refl _) (.cells #[] 68)
        have BE := Lib.hid be
        have OE := Lib.hid (Flat.Own.empty (F := FDeed) x101 (base := x101.heap.size) (Nat.le_refl _))
        have RD1 := Lib.hid (sl_rdP (DS.out _ (F5w3.out.trans (be.mono F5w3.out.size))))
        have hln1 : ([] : List (Int × Int)).length + ds.length ≤ 16777216 := by simp; omega
        clear be
        go_wp2_with (at_builtin; refine Flat.append_at FDeed _ (.tmp 80) (.tmp 81) rfl rfl (base := x101.heap.size) (v := .slice (some ⟨x101.heap.size, 0, none⟩) 0 0) (xs := []) (ys := ds) rfl OE.out rfl RD1.out hln1 BE.out.size ?_)
        intro va1 x1 o1 q1 at1
        have bx1 := BE.out.trans (Flat.Own.grown OE.out q1 BE.out.size)
        have o1 : FDeed.Own x1 x101.heap.size va1 ds := o1
        have bd : Below x1.heap.size x1 (x1.alloc (.cells #[.int .i64 4, .int .i64 y, .int .i64 3, .int .i64 y] 68)) := (Below.refl _ _).alloc (Nat.le_refl _) _
        have O1 := Lib.hid (Flat.Own.below o1 bd)
        have BX1 := Lib.hid (bx1.trans (bd.mono bx1.size))
        have RD2 := Lib.hid (show Rd (x1.alloc (.cells #[.int .i64 4, .int .i64 y, .int .i64 3, .int .i64 y] 68)) (some ⟨x1.heap.size, 0, none⟩) (FDeed.encs [(4, (y : Int)), (3, (y : Int))]) from rd_new x1 #[.int .i64 4, .int .i64 y, .int .i64 3, .int .i64 y] 68)
        have hln2 : ds.length + ([(4, (y : Int)), (3, (y : Int))] : List (Int × Int)).length ≤ 16777216 := by simp; omega
        clear bx1 o1 q1 at1 BE OE RD1 bd hln1
        go_wp2_with (at_builtin; refine Flat.append_at FDeed _ (.tmp 82) (.tmp 87) rfl rfl (base := x101.heap.size) (v := va1) (xs := ds) (ys := [(4, (y : Int)), (3, (y : Int))]) rfl O1.out rfl RD2.out hln2 BX1.out.size ?_)
        intro va2 x102 o2 q2 at2
        have bx2 := BX1.out.trans (Flat.Own.grown O1.out q2 BX1.out.size)
        have SL2 := Lib.hid (fun W (h : Below x102.heap.size x102 W) => o2.sl.below h)
        have F6W2 := Lib.hid (F5W2.out.trans ((bx2).mono F5W2.out.size))
        have F6w3 := Lib.hid (F5w3.out.trans ((bx2).mono F5w3.out.size))
        have F6u7 := Lib.hid (F5u7.out.trans ((bx2).mono F5u7.out.size))
        have F6Y7 := Lib.hid (F5Y7.out.trans ((bx2).mono F5Y7.out.size))
        have F6u10 := Lib.hid (F5u10.out.trans ((bx2).mono F5u10.out.size))
        have F6Y10 := Lib.hid (F5Y10.out.trans ((bx2).mono F5Y10.out.size))
        have F6x101 := Lib.hid (M1.out.trans ((bx2).mono M1.out.size))
        have M2 := Lib.hid (Below.refl x102.heap.size x102)
        obtain ⟨AL2, hAL⟩ : ∃ AL, AL = ds ++ [(4, (y : Int)), (3, (y : Int))] := ⟨_, rfl⟩
        rw [← hAL] at SL2
        have HA2 := Lib.hid HA2.out
        have HD2 := Lib.hid HD2.out
        rw [← hAL] at HA2 HD2
        rw [← hAL] at o2
        obtain ⟨sa2, sc2, rfl, _⟩ := id o2.sl
        clear bx2 o2 q2 at2 O1 BX1 RD2 hln2 hAL
        have be := (Below.refl x102.heap.size x102).alloc (Nat.le_refl _) (.cells #[] 68)
        have BE := Lib.hid be
        have OE := Lib.hid (Flat.Own.empty (F := FDeed) x102 (base := x102.heap.size) (Nat.le_refl _))
        have RD1 := Lib.hid (sl_rdP (DS.out _ (F6w3.out.trans (be.mono F6w3.out.size))))
        have hln1 : ([] : List (Int × Int)).length + ds.length ≤ 16777216 := by simp; omega
        clear be
        go_wp2_with (at_builtin; refine Flat.append_at FDeed _ (.tmp 89) (.tmp 90) rfl rfl (base := x102.heap.size) (v := .slice (some ⟨x102.heap.size, 0, none⟩) 0 0) (xs := []) (ys := ds) rfl OE.out rfl RD1.out hln1 BE.out.size ?_)
        intro va1 x1 o1 q1 at1
        have bx1 := BE.out.trans (Flat.Own.grown OE.out q1 BE.out.size)
        have o1 : FDeed.Own x1 x102.heap.size va1 ds := o1
        have bd : Below x1.heap.size x1 (x1.alloc (.cells #[.int .i64 5, .int .i64 y] 68)) := (Below.refl _ _).alloc (Nat.le_refl _) _
        have O1 := Lib.hid (Flat.Own.below o1 bd)
        have BX1 := Lib.hid (bx1.trans (bd.mono bx1.size))
        have RD2 := Lib.hid (show Rd (x1.alloc (.cells #[.int .i64 5, .int .i64 y] 68)) (some ⟨x1.heap.size, 0, none⟩) (FDeed.encs [(5, (y : Int))]) from rd_new x1 #[.int .i64 5, .int .i64 y] 68)
        have hln2 : ds.length + ([(5, (y : Int))] : List (Int × Int)).length ≤ 16777216 := by simp; omega
        clear bx1 o1 q1 at1 BE OE RD1 bd hln1
        go_wp2_with (at_builtin; refine Flat.append_at FDeed _ (.tmp 91) (.tmp 94) rfl rfl (base := x102.heap.size) (v := va1) (xs := ds) (ys := [(5, (y : Int))]) rfl O1.out rfl RD2.out hln2 BX1.out.size ?_)
        intro va2 x103 o2 q2 at2
        have bx2 := BX1.out.trans (Flat.Own.grown O1.out q2 BX1.out.size)
        have SL3 := Lib.hid (fun W (h : Below x103.heap.size x103 W) => o2.sl.below h)
        have F7W2 := Lib.hid (F6W2.out.trans ((bx2).mono F6W2.out.size))
        have F7w3 := Lib.hid (F6w3.out.trans ((bx2).mono F6w3.out.size))
        have F7u7 := Lib.hid (F6u7.out.trans ((bx2).mono F6u7.out.size))
        have F7Y7 := Lib.hid (F6Y7.out.trans ((bx2).mono F6Y7.out.size))
        have F7u10 := Lib.hid (F6u10.out.trans ((bx2).mono F6u10.out.size))
        have F7Y10 := Lib.hid (F6Y10.out.trans ((bx2).mono F6Y10.out.size))
        have F7x101 := Lib.hid (F6x101.out.trans ((bx2).mono F6x101.out.size))
        have F7x102 := Lib.hid (M2.out.trans ((bx2).mono M2.out.size))
        have M3 := Lib.hid (Below.refl x103.heap.size x103)
        obtain ⟨AL3, hAL⟩ : ∃ AL, AL = ds ++ [(5, (y : Int))] := ⟨_, rfl⟩
        rw [← hAL] at SL3
        have HA3 := Lib.hid HA3.out
        have HD3 := Lib.hid HD3.out
        rw [← hAL] at HA3 HD3
        rw [← hAL] at o2
        obtain ⟨sa3, sc3, rfl, _⟩ := id o2.sl
        clear bx2 o2 q2 at2 O1 BX1 RD2 hln2 hAL
        have KP := Lib.hid (ImplPlantAfter_ok (ds := AL1) m t bs sm wk x103 (HA.out _ F7W2.out) (SL1.out _ F7x101.out) HD1.out)
        rw [HA1.out] at KP
        generalize doneS (plC t xss bs sm wk AL1) = DD1 at KP
        obtain ⟨p0, p1, p2, p3, p4, p5⟩ := SV.out x103 F7W2.out
        go_wp2_with fail
        refine KP.out.mono ?_
        rintro e u17 ⟨vl, vr, ve, vh, vw, vo, rfl, pv, cu⟩
        obtain ⟨al17, bl17, ar17, br17, ae17, be17, ah17, bh17, aw17, bw17, ao17, bo17, rfl, rfl, rfl, rfl, rfl, rfl⟩ := pv.rd.form
        unfold plV
        have F8W2 := Lib.hid (F7W2.out.trans ((cu).mono F7W2.out.size))
        have F8w3 := Lib.hid (F7w3.out.trans ((cu).mono F7w3.out.size))
        have F8u7 := Lib.hid (F7u7.out.trans ((cu).mono F7u7.out.size))
        have F8Y7 := Lib.hid (F7Y7.out.trans ((cu).mono F7Y7.out.size))
        have F8u10 := Lib.hid (F7u10.out.trans ((cu).mono F7u10.out.size))
        have F8Y10 := Lib.hid (F7Y10.out.trans ((cu).mono F7Y10.out.size))
        have F8x101 := Lib.hid (F7x101.out.trans ((cu).mono F7x101.out.size))
        have F8x102 := Lib.hid (F7x102.out.trans ((cu).mono F7x102.out.size))
        have F8x103 := Lib.hid (M3.out.trans ((cu).mono M3.out.size))
        have RD17 := Lib.hid (fun W (h : Below u17.heap.size u17 W) => pv.rd.below h)
        clear pv cu p0 p1 p2 p3 p4 p5
        have G17 := Lib.hid (Below.refl u17.heap.size u17)
        clear KP
        obtain ⟨Y17, hY⟩ : ∃ Y, Y = u17.alloc (.cells #[.slice al17 Qa.l.length bl17, .slice ar17 Qa.r.length br17, .int .i64 Qa.q, .slice ae17 Qa.recs.length be17, .int .i64 Qa.sy, .slice ah17 Qa.hands.length bh17, .slice aw17 Qa.wire.length bw17, .slice ao17 Qa.out.length bo17] 61) := ⟨_, rfl⟩
        have by1 : Below u17.heap.size u17 Y17 := by rw [hY]; exact (Below.refl _ _).alloc (Nat.le_refl _) _
        have BX17 := Lib.hid (show BoxN Y17 u17.heap.size [.slice al17 Qa.l.length bl17, .slice ar17 Qa.r.length br17, .int .i64 Qa.q, .slice ae17 Qa.recs.length be17, .int .i64 Qa.sy, .slice ah17 Qa.hands.length bh17, .slice aw17 Qa.wire.length bw17, .slice ao17 Qa.out.length bo17] by rw [hY]; exact ⟨CellsAt.new u17 [.slice al17 Qa.l.length bl17, .slice ar17 Qa.r.length br17, .int .i64 Qa.q, .slice ae17 Qa.recs.length be17, .int .i64 Qa.sy, .slice ah17 Qa.hands.length bh17, .slice aw17 Qa.wire.length bw17, .slice ao17 Qa.out.length bo17] 61, fun i => by simp [go_sem]⟩)
        have HY17 := Lib.hid hY.symm
        have F9W2 := Lib.hid (F8W2.out.trans ((by1).mono F8W2.out.size))
        have F9w3 := Lib.hid (F8w3.out.trans ((by1).mono F8w3.out.size))
        have F9u7 := Lib.hid (F8u7.out.trans ((by1).mono F8u7.out.size))
        have F9Y7 := Lib.hid (F8Y7.out.trans ((by1).mono F8Y7.out.size))
        have F9u10 := Lib.hid (F8u10.out.trans ((by1).mono F8u10.out.size))
        have F9Y10 := Lib.hid (F8Y10.out.trans ((by1).mono F8Y10.out.size))
        have F9x101 := Lib.hid (F8x101.out.trans ((by1).mono F8x101.out.size))
        have F9x102 := Lib.hid (F8x102.out.trans ((by1).mono F8x102.out.size))
        have F9x103 := Lib.hid (F8x103.out.trans ((by1).mono F8x103.out.size))
        have F9u17 := Lib.hid (G17.out.trans ((by1).mono G17.out.size))
        have H17 := Lib.hid (Below.refl Y17.heap.size Y17)
        have LB17 := Lib.hid (show u17.heap.size < Y17.heap.size from BX17.out.c.1)
        clear hY by1
        go_upto_region 16 with (fail)
        rw [HY17.out]
        have KP := Lib.hid (ImplPlantAfter_ok (ds := AL2) m t bs sm wk Y17 (HA.out _ F9W2.out) (SL2.out _ F9x102.out) HD2.out)
        rw [HA2.out] at KP
        generalize doneS (plC t xss bs sm wk AL2) = DD2 at KP
        obtain ⟨p0, p1, p2, p3, p4, p5⟩ := SV.out Y17 F9W2.out
        go_wp2_with fail
        refine KP.out.mono ?_
        rintro e u20 ⟨vl, vr, ve, vh, vw, vo, rfl, pv, cu⟩
        obtain ⟨al20, bl20, ar20, br20, ae20, be20, ah20, bh20, aw20, bw20, ao20, bo20, rfl, rfl, rfl, rfl, rfl, rfl⟩ := pv.rd.form
        unfold plV
        have F10W2 := Lib.hid (F9W2.out.trans ((cu).mono F9W2.out.size))
        have F10w3 := Lib.hid (F9w3.out.trans ((cu).mono F9w3.out.size))
        have F10u7 := Lib.hid (F9u7.out.trans ((cu).mono F9u7.out.size))
        have F10Y7 := Lib.hid (F9Y7.out.trans ((cu).mono F9Y7.out.size))
        have F10u10 := Lib.hid (F9u10.out.trans ((cu).mono F9u10.out.size))
        have F10Y10 := Lib.hid (F9Y10.out.trans ((cu).mono F9Y10.out.size))
        have F10x101 := Lib.hid (F9x101.out.trans ((cu).mono F9x101.out.size))
        have F10x102 := Lib.hid (F9x102.out.trans ((cu).mono F9x102.out.size))
        have F10x103 := Lib.hid (F9x103.out.trans ((cu).mono F9x103.out.size))
        have F10u17 := Lib.hid (F9u17.out.trans ((cu).mono F9u17.out.size))
        have F10Y17 := Lib.hid (H17.out.trans ((cu).mono H17.out.size))
        have RD20 := Lib.hid (fun W (h : Below u20.heap.size u20 W) => pv.rd.below h)
        clear pv cu p0 p1 p2 p3 p4 p5
        have G20 := Lib.hid (Below.refl u20.heap.size u20)
        clear KP
        obtain ⟨Y20, hY⟩ : ∃ Y, Y = u20.alloc (.cells #[.slice al20 Qa.l.length bl20, .slice ar20 Qa.r.length br20, .int .i64 Qa.q, .slice ae20 Qa.recs.length be20, .int .i64 Qa.sy, .slice ah20 Qa.hands.length bh20, .slice aw20 Qa.wire.length bw20, .slice ao20 Qa.out.length bo20] 61) := ⟨_, rfl⟩
        have by1 : Below u20.heap.size u20 Y20 := by rw [hY]; exact (Below.refl _ _).alloc (Nat.le_refl _) _
        have BX20 := Lib.hid (show BoxN Y20 u20.heap.size [.slice al20 Qa.l.length bl20, .slice ar20 Qa.r.length br20, .int .i64 Qa.q, .slice ae20 Qa.recs.length be20, .int .i64 Qa.sy, .slice ah20 Qa.hands.length bh20, .slice aw20 Qa.wire.length bw20, .slice ao20 Qa.out.length bo20] by rw [hY]; exact ⟨CellsAt.new u20 [.slice al20 Qa.l.length bl20, .slice ar20 Qa.r.length br20, .int .i64 Qa.q, .slice ae20 Qa.recs.length be20, .int .i64 Qa.sy, .slice ah20 Qa.hands.length bh20, .slice aw20 Qa.wire.length bw20, .slice ao20 Qa.out.length bo20] 61, fun i => by simp [go_sem]⟩)
        have HY20 := Lib.hid hY.symm
        have F11W2 := Lib.hid (F10W2.out.trans ((by1).mono F10W2.out.size))
        have F11w3 := Lib.hid (F10w3.out.trans ((by1).mono F10w3.out.size))
        have F11u7 := Lib.hid (F10u7.out.trans ((by1).mono F10u7.out.size))
        have F11Y7 := Lib.hid (F10Y7.out.trans ((by1).mono F10Y7.out.size))
        have F11u10 := Lib.hid (F10u10.out.trans ((by1).mono F10u10.out.size))
        have F11Y10 := Lib.hid (F10Y10.out.trans ((by1).mono F10Y10.out.size))
        have F11x101 := Lib.hid (F10x101.out.trans ((by1).mono F10x101.out.size))
        have F11x102 := Lib.hid (F10x102.out.trans ((by1).mono F10x102.out.size))
        have F11x103 := Lib.hid (F10x103.out.trans ((by1).mono F10x103.out.size))
        have F11u17 := Lib.hid (F10u17.out.trans ((by1).mono F10u17.out.size))
        have F11Y17 := Lib.hid (F10Y17.out.trans ((by1).mono F10Y17.out.size))
        have F11u20 := Lib.hid (G20.out.trans ((by1).mono G20.out.size))
        have H20 := Lib.hid (Below.refl Y20.heap.size Y20)
        have LB20 := Lib.hid (show u20.heap.size < Y20.heap.size from BX20.out.c.1)
        clear hY by1
        go_upto_region 17 with (fail)
        rw [HY20.out]
        have SZ7 := Lib.hid F11Y7.out.size
        have KP := Lib.hid (ImplPlantAfter_ok (ds := AL3) m t bs sm wk Y20 (HA.out _ F11W2.out) (SL3.out _ F11x103.out) HD3.out)
        rw [HA3.out] at KP
        generalize doneS (plC t xss bs sm wk AL3) = DD3 at KP
        obtain ⟨p0, p1, p2, p3, p4, p5⟩ := SV.out Y20 F11W2.out
        go_wp2_with fail
        refine KP.out.mono ?_
        rintro e u23 ⟨vl, vr, ve, vh, vw, vo, rfl, pv, cu⟩
        obtain ⟨al23, bl23, ar23, br23, ae23, be23, ah23, bh23, aw23, bw23, ao23, bo23, rfl, rfl, rfl, rfl, rfl, rfl⟩ := pv.rd.form
        unfold plV
        have F12W2 := Lib.hid (F11W2.out.trans ((cu).mono F11W2.out.size))
        have F12w3 := Lib.hid (F11w3.out.trans ((cu).mono F11w3.out.size))
        have F12u7 := Lib.hid (F11u7.out.trans ((cu).mono F11u7.out.size))
        have F12Y7 := Lib.hid (F11Y7.out.trans ((cu).mono F11Y7.out.size))
        have F12u10 := Lib.hid (F11u10.out.trans ((cu).mono F11u10.out.size))
        have F12Y10 := Lib.hid (F11Y10.out.trans ((cu).mono F11Y10.out.size))
        have F12x101 := Lib.hid (F11x101.out.trans ((cu).mono F11x101.out.size))
        have F12x102 := Lib.hid (F11x102.out.trans ((cu).mono F11x102.out.size))
        have F12x103 := Lib.hid (F11x103.out.trans ((cu).mono F11x103.out.size))
        have F12u17 := Lib.hid (F11u17.out.trans ((cu).mono F11u17.out.size))
        have F12Y17 := Lib.hid (F11Y17.out.trans ((cu).mono F11Y17.out.size))
        have F12u20 := Lib.hid (F11u20.out.trans ((cu).mono F11u20.out.size))
        have F12Y20 := Lib.hid (H20.out.trans ((cu).mono H20.out.size))
        have RD23 := Lib.hid (fun W (h : Below u23.heap.size u23 W) => pv.rd.below h)
        have PV23 := Lib.hid pv
        have HSZ20 := Lib.hid (show Y20.heap.size ≤ u23.heap.size from cu.size)
        have HSZ7 := Lib.hid (show Y7.heap.size ≤ Y20.heap.size from SZ7.out)
        have HSZW := Lib.hid SZW.out
        clear pv cu p0 p1 p2 p3 p4 p5
        have G23 := Lib.hid (Below.refl u23.heap.size u23)
        clear KP
        obtain ⟨Y23, hY⟩ : ∃ Y, Y = u23.alloc (.cells #[.slice al23 Qc.l.length bl23, .slice ar23 Qc.r.length br23, .int .i64 Qc.q, .slice ae23 Qc.recs.length be23, .int .i64 Qc.sy, .slice ah23 Qc.hands.length bh23, .slice aw23 Qc.wire.length bw23, .slice ao23 Qc.out.length bo23] 61) := ⟨_, rfl⟩
        have by1 : Below u23.heap.size u23 Y23 := by rw [hY]; exact (Below.refl _ _).alloc (Nat.le_refl _) _
        have BX23 := Lib.hid (show BoxN Y23 u23.heap.size [.slice al23 Qc.l.length bl23, .slice ar23 Qc.r.length br23, .int .i64 Qc.q, .slice ae23 Qc.recs.length be23, .int .i64 Qc.sy, .slice ah23 Qc.hands.length bh23, .slice aw23 Qc.wire.length bw23, .slice ao23 Qc.out.length bo23] by rw [hY]; exact ⟨CellsAt.new u23 [.slice al23 Qc.l.length bl23, .slice ar23 Qc.r.length br23, .int .i64 Qc.q, .slice ae23 Qc.recs.length be23, .int .i64 Qc.sy, .slice ah23 Qc.hands.length bh23, .slice aw23 Qc.wire.length bw23, .slice ao23 Qc.out.length bo23] 61, fun i => by simp [go_sem]⟩)
        have HY23 := Lib.hid hY.symm
        have F13W2 := Lib.hid (F12W2.out.trans ((by1).mono F12W2.out.size))
        have F13w3 := Lib.hid (F12w3.out.trans ((by1).mono F12w3.out.size))
        have F13u7 := Lib.hid (F12u7.out.trans ((by1).mono F12u7.out.size))
        have F13Y7 := Lib.hid (F12Y7.out.trans ((by1).mono F12Y7.out.size))
        have F13u10 := Lib.hid (F12u10.out.trans ((by1).mono F12u10.out.size))
        have F13Y10 := Lib.hid (F12Y10.out.trans ((by1).mono F12Y10.out.size))
        have F13x101 := Lib.hid (F12x101.out.trans ((by1).mono F12x101.out.size))
        have F13x102 := Lib.hid (F12x102.out.trans ((by1).mono F12x102.out.size))
        have F13x103 := Lib.hid (F12x103.out.trans ((by1).mono F12x103.out.size))
        have F13u17 := Lib.hid (F12u17.out.trans ((by1).mono F12u17.out.size))
        have F13Y17 := Lib.hid (F12Y17.out.trans ((by1).mono F12Y17.out.size))
        have F13u20 := Lib.hid (F12u20.out.trans ((by1).mono F12u20.out.size))
        have F13Y20 := Lib.hid (F12Y20.out.trans ((by1).mono F12Y20.out.size))
        have F13u23 := Lib.hid (G23.out.trans ((by1).mono G23.out.size))
        have H23 := Lib.hid (Below.refl Y23.heap.size Y23)
        have LB23 := Lib.hid (show u23.heap.size < Y23.heap.size from BX23.out.c.1)
        clear hY by1
        go_upto_region 18 with (fail)
        rw [HY23.out]
        have a0 := (BX17.out.c.below F13Y17.out).get 0 _ rfl
        have a1 := (BX17.out.c.below F13Y17.out).get 1 _ rfl
        have a2 := (BX17.out.c.below F13Y17.out).get 2 _ rfl
        have a3 := (BX17.out.c.below F13Y17.out).get 3 _ rfl
        have a4 := (BX17.out.c.below F13Y17.out).get 4 _ rfl
        have a5 := (BX17.out.c.below F13Y17.out).get 5 _ rfl
        have a6 := (BX17.out.c.below F13Y17.out).get 6 _ rfl
        have a7 := (BX17.out.c.below F13Y17.out).get 7 _ rfl
        have b0 := (BX20.out.c.below F13Y20.out).get 0 _ rfl
        have b1 := (BX20.out.c.below F13Y20.out).get 1 _ rfl
        have b2 := (BX20.out.c.below F13Y20.out).get 2 _ rfl
        have b3 := (BX20.out.c.below F13Y20.out).get 3 _ rfl
        have b4 := (BX20.out.c.below F13Y20.out).get 4 _ rfl
        have b5 := (BX20.out.c.below F13Y20.out).get 5 _ rfl
        have b6 := (BX20.out.c.below F13Y20.out).get 6 _ rfl
        have b7 := (BX20.out.c.below F13Y20.out).get 7 _ rfl
        have KS := Lib.hid (SamePlant_refl Y23 (RD17.out _ F13u17.out) (RD20.out _ F13u20.out) LA.out.1 LA.out.2.1 LA.out.2.2)
        unfold plV at KS
        go_wp2_with fail
        refine KS.out.mono ?_
        rintro e z1 ⟨rfl, cz⟩
        have F14W2 := Lib.hid (F13W2.out.trans ((cz).mono F13W2.out.size))
        have F14w3 := Lib.hid (F13w3.out.trans ((cz).mono F13w3.out.size))
        have F14u7 := Lib.hid (F13u7.out.trans ((cz).mono F13u7.out.size))
        have F14Y7 := Lib.hid (F13Y7.out.trans ((cz).mono F13Y7.out.size))
        have F14u10 := Lib.hid (F13u10.out.trans ((cz).mono F13u10.out.size))
        have F14Y10 := Lib.hid (F13Y10.out.trans ((cz).mono F13Y10.out.size))
        have F14x101 := Lib.hid (F13x101.out.trans ((cz).mono F13x101.out.size))
        have F14x102 := Lib.hid (F13x102.out.trans ((cz).mono F13x102.out.size))
        have F14x103 := Lib.hid (F13x103.out.trans ((cz).mono F13x103.out.size))
        have F14u17 := Lib.hid (F13u17.out.trans ((cz).mono F13u17.out.size))
        have F14Y17 := Lib.hid (F13Y17.out.trans ((cz).mono F13Y17.out.size))
        have F14u20 := Lib.hid (F13u20.out.trans ((cz).mono F13u20.out.size))
        have F14Y20 := Lib.hid (F13Y20.out.trans ((cz).mono F13Y20.out.size))
        have F14u23 := Lib.hid (F13u23.out.trans ((cz).mono F13u23.out.size))
        have F14Y23 := Lib.hid (H23.out.trans ((cz).mono H23.out.size))
        clear cz KS a0 a1 a2 a3 a4 a5 a6 a7 b0 b1 b2 b3 b4 b5 b6 b7
        have BN7 := BX7.out.fs (S := fun _ => False) (Fs.of_below F14Y7.out) (fun h => h)
        have BN23 := BX23.out.fs (S := fun _ => False) (Fs.of_below F14Y23.out) (fun h => h)
        have a0 := BN23.c.get 0 _ rfl
        have a1 := BN23.c.get 1 _ rfl
        have a2 := BN23.c.get 2 _ rfl
        have a3 := BN23.c.get 3 _ rfl
        have a4 := BN23.c.get 4 _ rfl
        have a5 := BN23.c.get 5 _ rfl
        have a6 := BN23.c.get 6 _ rfl
        have a7 := BN23.c.get 7 _ rfl
        have b0 := BN7.c.get 0 _ rfl
        have b1 := BN7.c.get 1 _ rfl
        have b2 := BN7.c.get 2 _ rfl
        have b3 := BN7.c.get 3 _ rfl
        have b4 := BN7.c.get 4 _ rfl
        have b5 := BN7.c.get 5 _ rfl
        have b6 := BN7.c.get 6 _ rfl
        have b7 := BN7.c.get 7 _ rfl
        have fz := BN7.f 6
        have e140 : IntKind.i64.wrap ((Sk.wire.length : Int) - 1) = (Qc.wire.length : Int) := by rw [IntWalk.i64_in _ (by omega), HLC.out]; omega
        have n2 : ((Qc.wire.length : Int) != (Qc.wire.length : Int)) = false := by simp
        have hz7 : Y7.heap.size ≤ Y20.heap.size := HSZ7.out
        have lz : u7.heap.size < Y20.heap.size := Nat.lt_of_lt_of_le LB7.out hz7
        have lz2 : Y20.heap.size ≤ u23.heap.size := HSZ20.out
        have nz : ¬ u7.heap.size = u23.heap.size := by omega
        have mz : ¬ u23.heap.size = u7.heap.size := fun h => nz h.symm
        have lw3 : w3.heap.size ≤ u7.heap.size := HSZW.out
        obtain ⟨Z2, hZ2⟩ : ∃ Z, Z = z1.setCell ⟨u7.heap.size, 6, none⟩ (.slice aw23 Qc.wire.length bw23) := ⟨_, rfl⟩
        have hfq : Sk.q = Qc.q := by rw [HQC.out]
        have hfy : Sk.sy = Qc.sy := by rw [HQC.out]
        have hfl : Sk.l = Qc.l := by rw [HQC.out]
        have hfr : Sk.r = Qc.r := by rw [HQC.out]
        have hfe : Sk.recs = Qc.recs := by rw [HQC.out]
        have hfh : Sk.hands = Qc.hands := by rw [HQC.out]
        have hfo : Sk.out = Qc.out := by rw [HQC.out]
        have FZ : Fs (fun k => k = u7.heap.size) z1 Z2 := by rw [hZ2]; exact Fs.set1 z1 u7.heap.size 6 _
        have CC2 := ((PV23.out.below F14u23.out).fs FZ (fun k hk h => by omega)).rd
        have NN := RD7.out Z2 (by rw [hZ2]; exact F14u7.out.setCell (Nat.le_refl _) _)
        have NN2 : PlRd Z2 Qc (.slice al7 Sk.l.length bl7) (.slice ar7 Sk.r.length br7) (.slice ae7 Sk.recs.length be7) (.slice ah7 Sk.hands.length bh7) (.slice aw23 Qc.wire.length bw23) (.slice ao7 Sk.out.length bo7) := ⟨by rw [← hfl]; exact NN.fl, by rw [← hfr]; exact NN.fr, by rw [← hfe]; exact NN.fe, by rw [← hfh]; exact NN.fh, CC2.fw, by rw [← hfo]; exact NN.fo⟩
        have KS2 := Lib.hid (SamePlant_refl Z2 CC2 NN2 LC.out.1 LC.out.2.1 LC.out.2.2)
        unfold plV at KS2
        have BZ2 := Lib.hid (show Below w3.heap.size w3 Z2 by rw [hZ2]; exact F14w3.out.setCell lw3 _)
        rw [hfq] at b2
        rw [hfy] at b4
        have a'0 := (show Z2.cell? ⟨u23.heap.size, 0, none⟩ = z1.cell? ⟨u23.heap.size, 0, none⟩ from by rw [hZ2]; exact cell_set_ne mz).trans a0
        have a'1 := (show Z2.cell? ⟨u23.heap.size, 1, none⟩ = z1.cell? ⟨u23.heap.size, 1, none⟩ from by rw [hZ2]; exact cell_set_ne mz).trans a1
        have a'2 := (show Z2.cell? ⟨u23.heap.size, 2, none⟩ = z1.cell? ⟨u23.heap.size, 2, none⟩ from by rw [hZ2]; exact cell_set_ne mz).trans a2
        have a'3 := (show Z2.cell? ⟨u23.heap.size, 3, none⟩ = z1.cell? ⟨u23.heap.size, 3, none⟩ from by rw [hZ2]; exact cell_set_ne mz).trans a3
        have a'4 := (show Z2.cell? ⟨u23.heap.size, 4, none⟩ = z1.cell? ⟨u23.heap.size, 4, none⟩ from by rw [hZ2]; exact cell_set_ne mz).trans a4
        have a'5 := (show Z2.cell? ⟨u23.heap.size, 5, none⟩ = z1.cell? ⟨u23.heap.size, 5, none⟩ from by rw [hZ2]; exact cell_set_ne mz).trans a5
        have a'6 := (show Z2.cell? ⟨u23.heap.size, 6, none⟩ = z1.cell? ⟨u23.heap.size, 6, none⟩ from by rw [hZ2]; exact cell_set_ne mz).trans a6
        have a'7 := (show Z2.cell? ⟨u23.heap.size, 7, none⟩ = z1.cell? ⟨u23.heap.size, 7, none⟩ from by rw [hZ2]; exact cell_set_ne mz).trans a7
        have b'0 := (show Z2.cell? ⟨u7.heap.size, 0, none⟩ = z1.cell? ⟨u7.heap.size, 0, none⟩ from by rw [hZ2]; exact cell_set_off (show ¬ 0 = 6 by decide)).trans b0
        have b'1 := (show Z2.cell? ⟨u7.heap.size, 1, none⟩ = z1.cell? ⟨u7.heap.size, 1, none⟩ from by rw [hZ2]; exact cell_set_off (show ¬ 1 = 6 by decide)).trans b1
        have b'2 := (show Z2.cell? ⟨u7.heap.size, 2, none⟩ = z1.cell? ⟨u7.heap.size, 2, none⟩ from by rw [hZ2]; exact cell_set_off (show ¬ 2 = 6 by decide)).trans b2
        have b'3 := (show Z2.cell? ⟨u7.heap.size, 3, none⟩ = z1.cell? ⟨u7.heap.size, 3, none⟩ from by rw [hZ2]; exact cell_set_off (show ¬ 3 = 6 by decide)).trans b3
        have b'4 := (show Z2.cell? ⟨u7.heap.size, 4, none⟩ = z1.cell? ⟨u7.heap.size, 4, none⟩ from by rw [hZ2]; exact cell_set_off (show ¬ 4 = 6 by decide)).trans b4
        have b'5 := (show Z2.cell? ⟨u7.heap.size, 5, none⟩ = z1.cell? ⟨u7.heap.size, 5, none⟩ from by rw [hZ2]; exact cell_set_off (show ¬ 5 = 6 by decide)).trans b5
        have b'7 := (show Z2.cell? ⟨u7.heap.size, 7, none⟩ = z1.cell? ⟨u7.heap.size, 7, none⟩ from by rw [hZ2]; exact cell_set_off (show ¬ 7 = 6 by decide)).trans b7
        have b'6 : Z2.cell? ⟨u7.heap.size, 6, none⟩ = some (.slice aw23 Qc.wire.length bw23) := by rw [hZ2]; simp [go_sem, b6]
        have HZ2 := Lib.hid hZ2.symm
        clear hZ2 FZ CC2 NN NN2 hfq hfy hfl hfr hfe hfh hfo lz lz2 hz7 lw3
        go_upto_region 21 with (fail)
        rw [HZ2.out]
        clear a0 a1 a2 a3 a4 a5 a6 a7 b0 b1 b2 b3 b4 b5 b6 b7 fz
        go_wp2_with fail
        refine KS2.out.mono ?_
        rintro e z3 ⟨rfl, c3⟩
        go_wp2
        go_ret
        exact ⟨rfl, BJ.out.trans ((BZ2.out.trans (c3.mono BZ2.out.size)).mono BJ.out.size)⟩
end Go.Proofs.Ytijpkcdalmlaiaa
