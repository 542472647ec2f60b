/-
  FnDeeds: the law answers true for all texts of bytes.
-/
import Derived.Test.YtijpkcdalmlaiaaZRowFnDeeds32
import Derived.Test.YtijpkcdalmlaiaaZRowFnDeeds24
import Derived.Test.YtijpkcdalmlaiaaZRowFnDeeds13
import Derived.Test.YtijpkcdalmlaiaaZRowFnDeeds41
import Derived.Test.YtijpkcdalmlaiaaZRowFnDeeds37
import Derived.Test.YtijpkcdalmlaiaaZRowFnDeeds1
set_option linter.unusedVariables false
set_option linter.unusedSimpArgs false
namespace Go.Proofs.Ytijpkcdalmlaiaa
open Go.RowKit Go.Sort
set_option maxRecDepth 100000 in
set_option maxHeartbeats 16000000 in
theorem FnDeeds_walk {xs ys : List Int} (a0 a1 : Option Addr) (n0 n1 c0 c1 : Nat) (w : World) (hn0 : n0 ≤ maxLen) (hn1 : n1 ≤ maxLen) (hx : xs.length = n0) (hr : Rd w a0 (xs.map (.int .u8))) (hb : ∀ x ∈ xs, 0 ≤ x ∧ x < 256)
    (hx1 : ys.length = n1) (hr1 : Rd w a1 (ys.map (.int .u8))) (hb1 : ∀ x ∈ ys, 0 ≤ x ∧ x < 256) :
    Calls Try.prog 6 #[.slice a0 n0 c0, .slice a1 n1 c1] w fun e w' => e = .returned (.bool true) ∧ Below w.heap.size w w' := by
  have HR := Lib.hid (fun W (h : Below w.heap.size w W) => hr.below h)
  have HB := Lib.hid hb
  have HX := Lib.hid hx
  have HR1 := Lib.hid (fun W (h : Below w.heap.size w W) => hr1.below h)
  have HB1 := Lib.hid hb1
  have HX1 := Lib.hid hx1
  have HN0 := Lib.hid hn0
  have HN1 := Lib.hid hn1
  clear hr hb hx hr1 hb1 hx1 hn0 hn1
  generalize hd : a2L n0 n1 = d
  have HD := Lib.hid hd
  clear hd
  cases d
  case true =>
    go_enter Try.func6, Try.ntmps6
    go_wp2_with fail
    refine (a2Long_any a0 a1 n0 n1 c0 c1 _ HN0.out HN1.out).mono ?_
    rintro e w1 ⟨rfl, rfl⟩
    rw [HD.out]
    go_wp2
    go_ret
    exact ⟨rfl, Below.refl _ _⟩
  case false =>
      have h40 := Lib.hid (show n0 ≤ 3000 ∧ n1 ≤ 3000 by have := HD.out; unfold a2L at this; rw [decide_eq_false_iff_not] at this; omega)
      go_enter Try.func6, Try.ntmps6
      go_wp2_with fail
      refine (a2Long_any a0 a1 n0 n1 c0 c1 _ HN0.out HN1.out).mono ?_
      rintro e w1 ⟨rfl, rfl⟩
      rw [HD.out]
      clear HD
      go_wp2_with fail
      refine (A2Service_any a0 n0 c0 _ (by have := h40.out; omega) HX.out (HR.out _ (Below.refl _ _)) HB.out).mono ?_
      rintro e w1 ⟨m, t, bs, sm, wk, v, xss, rfl, hch, hbs, ⟨hsm1, hsm2⟩, ⟨hwk1, hwk2⟩, o1, b1⟩
      obtain ⟨⟨hm1, hm2⟩, ⟨ht1, ht2⟩, hml, _⟩ := chainOk_parts0 hch
      have HOK := Lib.hid (show serviceOk m t xss bs sm wk = true by
        unfold serviceOk
        rw [hch, inR_iff.2 ⟨by omega, by omega⟩, inR_iff.2 ⟨by omega, by omega⟩, inR_iff.2 ⟨by omega, by omega⟩]
        rfl)
      have S1 := Lib.hid o1.sl
      obtain ⟨va, vn, vc, rfl, hvn⟩ := o1.formJ
      obtain ⟨W2, hW2⟩ : ∃ W2, W2 = w1.alloc (svObj m t (.slice va vn vc) bs sm wk) := ⟨_, rfl⟩
      have b2 : Below w1.heap.size w1 W2 := by rw [hW2]; exact (Below.refl _ _).alloc (Nat.le_refl _) _
      have X2 := Lib.hid (show ServAt W2 w1.heap.size 0 m t (.slice va vn vc) bs sm wk by rw [hW2]; exact svBox w1 m t _ bs sm wk)
      have HA := Lib.hid (fun W (h : Below W2.heap.size W2 W) => (S1.out.below b2).below h)
      have SV := Lib.hid (show ∀ W, Below W2.heap.size W2 W → W.cell? ⟨w1.heap.size, 0, none⟩ = some (.int .i64 m) ∧ W.cell? ⟨w1.heap.size, 1, none⟩ = some (.int .i64 t) ∧ W.cell? ⟨w1.heap.size, 2, none⟩ = some (.slice va vn vc) ∧ W.cell? ⟨w1.heap.size, 3, none⟩ = some (.int .i64 bs) ∧ W.cell? ⟨w1.heap.size, 4, none⟩ = some (.int .i64 sm) ∧ W.cell? ⟨w1.heap.size, 5, none⟩ = some (.int .i64 wk) from fun W h => by
        obtain ⟨⟨_, p0, p1, p2⟩, p3, p4, p5⟩ := X2.out.below h
        simp only [Nat.zero_add] at p0 p1 p2 p3 p4 p5
        exact ⟨p0, p1, p2, p3, p4, p5⟩)
      have B2 := Lib.hid (b1.trans (b2.mono b1.size))
      have HW2 := Lib.hid (show w1.alloc (.cells #[.int .i64 m, .int .i64 t, .slice va vn vc, .int .i64 bs, .int .i64 sm, .int .i64 wk] 35) = W2 from hW2.symm)
      have hsz : w1.heap.size < W2.heap.size := by rw [hW2]; simp
      clear b1 b2 hch o1 hW2 X2 S1 hvn hml
      go_wp2_with fail
      rw [HW2.out]
      obtain ⟨p0, p1, p2, p3, p4, p5⟩ := SV.out W2 (Below.refl _ _)
      go_wp2_with fail
      refine (A2Deeds_any a1 n1 c1 m sm wk t bs W2 (by have := h40.out; omega) HX1.out (HR1.out _ B2.out) HB1.out (HA.out _ (Below.refl _ _)) HOK.out).mono ?_
      rintro e w3 ⟨v, ds, rfl, o3, hdk, hl40, b3⟩
      have HDK := Lib.hid hdk
      have B3 := Lib.hid b3
      have HDC := Lib.hid (show dcode m t xss bs sm wk ds = 0 by
        unfold dcode
        rw [HOK.out, Go.Proofs.Ytijpkcdalmlaiaa.deedsOk_of hdk]
        simp
        omega)
      have DS := Lib.hid (fun W (h : Below w3.heap.size w3 W) => o3.sl.below h)
      obtain ⟨ra, rc, rfl, hrc1, hrc2, _⟩ := id o3.sl
      unfold maxLen at hrc2
      have BJ := Lib.hid (B2.out.trans (b3.mono B2.out.size))
      have hz3 := b3.size
      have HCH := Lib.hid (serviceOk_parts HOK.out).1
      clear hdk o3 b3 p0 p1 p2 p3 p4 p5
      obtain ⟨p0, p1, p2, p3, p4, p5⟩ := SV.out w3 B3.out
      have KD1 := Lib.hid (ImplPlantAfter_ok m t bs sm wk w3 (HA.out _ B3.out) (DS.out _ (Below.refl _ _)) HDC.out)
      have KRF := Lib.hid (fun W (h : Below W2.heap.size W2 W) (h2 : Below w3.heap.size w3 W) => ImplRefusedDeed_any m t bs sm wk W (HA.out _ h) (DS.out _ h2))
      have KVS := Lib.hid (fun W (h : Below W2.heap.size W2 W) => ImplValidService_any m t bs sm wk W (HA.out _ h))
      have KPP := Lib.hid (fun (i : Nat) (hi : i ≤ ds.length) W (h : Below W2.heap.size W2 W) (h2 : Below w3.heap.size w3 W) => ImplPlantAfter_ok (ds := ds.take i) m t bs sm wk W (HA.out _ h) ((DS.out _ h2).take' hi) (by
        unfold dcode
        rw [HOK.out, Go.Proofs.Ytijpkcdalmlaiaa.deedsOk_of (fun d hd => HDK.out d (List.mem_of_mem_take hd))]
        have : (ds.take i).length ≤ 40 := by rw [List.length_take]; omega
        simp
        omega))
      have hRF : refR m t xss bs sm wk ds = firstBad (codesS t xss bs sm wk ds (newS sm wk)) 0 := by
        unfold refR
        rw [if_pos HDC.out, Int.toNat_natCast, Int.toNat_natCast]
      rw [hRF] at KRF
      have hC1 : ∀ L, doneS (plC t xss bs sm wk L) = doneS (codesS t xss bs sm wk L (newS sm wk)) := fun L => by
        unfold plC
        rw [Int.toNat_natCast, Int.toNat_natCast]
      rw [hC1] at KD1
      simp only [hC1] at KPP
      have hlaw := deeds_law (t := t) (xss := xss) (bs := bs) (sm := sm) (wk := wk) ds (newS sm wk)
      have hdl := doneS_le (codesS t xss bs sm wk ds (newS sm wk))
      rw [codesS_len] at hdl
      generalize hFB : firstBad (codesS t xss bs sm wk ds (newS sm wk)) 0 = FB at KRF hlaw
      generalize doneS (codesS t xss bs sm wk ds (newS sm wk)) = D at KD1 hlaw hdl
      obtain ⟨f1, f2, f3⟩ := FB
      have HLAW := Lib.hid hlaw
      rw [HOK.out] at KVS
      clear hRF hlaw hFB hC1
      generalize plS t xss bs sm wk ds = Q1 at KD1
      go_wp2_with fail
      refine KD1.out.mono ?_
      rintro e u1 ⟨vl1, vr1, ve1, vh1, vw1, vo1, rfl, pv1, c1⟩
      obtain ⟨al, al', ar, ar', ae, ae', ah, ah', aw, aw', ao, ao', rfl, rfl, rfl, rfl, rfl, rfl⟩ := pv1.rd.form
      unfold plV
      have B7 := Lib.hid (B3.out.trans (c1.mono B3.out.size))
      have C7 := Lib.hid c1
      clear pv1 c1 p0 p1 p2 p3 p4 p5 KD1
      generalize Q1.q = qq1
      generalize Q1.sy = sy1
      generalize Q1.l.length = ll1
      generalize Q1.r.length = lr1
      generalize Q1.recs.length = le1
      generalize Q1.hands.length = lh1
      generalize Q1.wire.length = lw1
      generalize Q1.out.length = lo1
      obtain ⟨Y1, hY1⟩ : ∃ Y, Y = u1.alloc (.cells #[.slice al ll1 al', .slice ar lr1 ar', .int .i64 qq1, .slice ae le1 ae', .int .i64 sy1, .slice ah lh1 ah', .slice aw lw1 aw', .slice ao lo1 ao'] 61) := ⟨_, rfl⟩
      have by1 : Below u1.heap.size u1 Y1 := by rw [hY1]; exact (Below.refl _ _).alloc (Nat.le_refl _) _
      have HY1 := Lib.hid hY1.symm
      have B8 := Lib.hid (B7.out.trans (by1.mono B7.out.size))
      have C8 := Lib.hid (C7.out.trans (by1.mono C7.out.size))
      clear hY1 by1
      go_upto_region 6 with (fail)
      rw [HY1.out]
      obtain ⟨p0, p1, p2, p3, p4, p5⟩ := SV.out Y1 B8.out
      go_wp2_with fail
      refine (KRF.out Y1 B8.out C8.out).mono ?_
      rintro e u2 ⟨rfl, b9⟩
      unfold tupRD
      dsimp only
      have B9 := Lib.hid (B8.out.trans (b9.mono B8.out.size))
      have C9 := Lib.hid (C8.out.trans (b9.mono C8.out.size))
      clear b9 p0 p1 p2 p3 p4 p5
      obtain ⟨p0, p1, p2, p3, p4, p5⟩ := SV.out u2 B9.out
      go_wp2_with fail
      refine (KVS.out u2 B9.out).mono ?_
      rintro e u3 ⟨rfl, b10⟩
      have B10 := Lib.hid (B9.out.trans (b10.mono B9.out.size))
      have C10 := Lib.hid (C9.out.trans (b10.mono C9.out.size))
      clear b10 p0 p1 p2 p3 p4 p5 KVS
      go_wp2
      go_loopg [13, 14, 15] ds.length (fun f i _ _ wr => ∃ k : Nat, (k ≤ ds.length ∧ f = ds.length - k) ∧ i = .int .i64 k ∧ Below u3.heap.size u3 wr)
      case atStart => exact ⟨0, ⟨Nat.zero_le _, rfl⟩, rfl, Below.refl _ _⟩
      case round =>
        obtain ⟨k, ⟨hk, rfl⟩, rfl, hb⟩ := hrel
        have BR := Lib.hid (B10.out.trans (hb.mono B10.out.size))
        have CR := Lib.hid (C10.out.trans (hb.mono C10.out.size))
        have HBR := Lib.hid hb
        by_cases hlt : k < ds.length
        · obtain ⟨db, do', rfl, _, c0, c1⟩ := FDeed_at (DS.out _ CR.out) hlt
          have hd := HDK.out _ (List.getElem_mem hlt)
          have i1 : (k : Int) < (ds.length : Int) := by omega
          generalize ds[k] = d at c0 c1 hd
          obtain ⟨dk, da⟩ := d
          dsimp only at c0 c1 hd
          have KT := Lib.hid (ImplDeedText_any dk da wr)
          have hts := deedTextB_size dk da
          have KR := Lib.hid (fun W => ImplReadDeed_any (deedTextB dk da) W (by omega))
          rw [deedR_yes (show IsDeed (deedTextB dk da) dk da from ⟨hd, rfl⟩)] at KR
          unfold tupD at KR
          dsimp only at KR
          have KV := Lib.hid (fun W => ImplValidDeed_any dk da W)
          rw [hd] at KV
          have C01 := Lib.hid (fun W (h : Below wr.heap.size wr W) => And.intro ((h.cell (p := ⟨db, do' + k * 2, none⟩) (cell_lt c0)).trans c0) ((h.cell (p := ⟨db, do' + k * 2 + 1, none⟩) (cell_lt c1)).trans c1))
          clear hb
          go_wp2_with fail
          refine KT.out.mono ?_
          rintro e w4 ⟨rfl, b4⟩
          have HB4 := Lib.hid b4
          clear b4 KT c0 c1
          go_wp2_with fail
          refine (KR.out w4).mono ?_
          rintro e w5 ⟨rfl, b5⟩
          have b6 : Below w5.heap.size w5 (w5.alloc (.cells #[.int .i64 dk, .int .i64 da] 68)) := (Below.refl _ _).alloc (Nat.le_refl _) _
          obtain ⟨W6, hW6⟩ : ∃ W6, W6 = w5.alloc (.cells #[.int .i64 dk, .int .i64 da] 68) := ⟨_, rfl⟩
          have KD : CellsAt W6 w5.heap.size [.int .i64 dk, .int .i64 da] := by rw [hW6]; exact CellsAt.new w5 [.int .i64 dk, .int .i64 da] 68
          rw [← hW6] at b6
          have B46 := HB4.out.trans ((b5.trans (b6.mono b5.size)).mono HB4.out.size)
          obtain ⟨c0, c1⟩ := C01.out W6 B46
          have d0 := KD.get 0 _ rfl
          have d1 := KD.get 1 _ rfl
          have HW6 := Lib.hid hW6.symm
          have s0 : (dk != dk) = false := by simp
          have s1 : (da != da) = false := by simp
          have H46 := Lib.hid B46
          have q0 := fun d os => cell_regrown c0 d os
          have q1 := fun d os => cell_regrown c1 d os
          have r0 := fun d os => cell_regrown d0 d os
          have r1 := fun d os => cell_regrown d1 d os
          clear b5 b6 hW6 KD B46 c0 c1 d0 d1 KR
          go_upto_region 13 with (fail)
          rw [HW6.out]
          refine wp_region_quiet_below (by kernel_rfl) (by kernel_rfl) ?_
          repeat (first | go_big_quiet_skip | quiet_step (exact Calls.regrown_of (KV.out _)))
          refine wpQuiet_nil ?_
          intro _ hw'
          obtain ⟨⟨dq, osq⟩, hw''⟩ := hw'
          subst hw''
          have bq := below_regrown W6 dq osq
          generalize grow (redrawn W6 dq) osq = wq at bq ⊢
          have HQ := Lib.hid (HBR.out.trans ((H46.out.trans (bq.mono H46.out.size)).mono HBR.out.size))
          clear q0 q1 r0 r1 bq
          go_wp2
          go_roundg (ds.length - (k + 1))
          case measure => omega
          case rel => exact ⟨k + 1, ⟨by omega, rfl⟩, by go_num, HQ.out⟩
        · obtain rfl : k = ds.length := by omega
          have BF := Lib.hid (BJ.out.trans (CR.out.mono BJ.out.size))
          clear hb
          rcases HLAW.out with ⟨hD, hFB⟩ | ⟨hD, i, c, hi, hFB, hc, hd1, hd2⟩
          · subst hD
            obtain ⟨rfl, rfl, rfl⟩ : f1 = 0 ∧ f2 = 0 ∧ f3 = 6 := by simpa using hFB
            clear hFB HLAW
            go_wp2
            go_ret
            exact ⟨rfl, BF.out⟩
          · obtain ⟨rfl, rfl, rfl⟩ : f1 = (i : Int) ∧ f2 = c ∧ f3 = 0 := by simpa using hFB
            have t1 : ((D : Int) == (ds.length : Int)) = false := by rw [beq_eq_false_iff_ne]; omega
            have t2 : (f2 == 0) = false := by simp [hc]
            have i1 : (i : Int) < (ds.length : Int) := by omega
            have i2 : ¬ (ds.length : Int) ≤ (i : Int) := by omega
            have i3 : ¬ (i : Int) < 0 := by omega
            have i4 : (0 : Int) ≤ (i : Int) := by omega
            have i5 : (i : Int) ≤ (ds.length : Int) := by omega
            have i6 : (i : Int) ≤ (rc : Int) := by omega
            have i7 : (i : Int) + 1 ≤ (ds.length : Int) := by omega
            have i8 : (i : Int) + 1 ≤ (rc : Int) := by omega
            have i10 : (0 : Int) ≤ (i : Int) + 1 := by omega
            have i9 : IntKind.i64.wrap ((i : Int) + 1) = (i : Int) + 1 := IntWalk.i64_in _ (by omega)
            have K1 := Lib.hid (KPP.out i (by omega))
            have K2 := Lib.hid (KPP.out (i + 1) (by omega))
            rw [hd1] at K1
            rw [hd2] at K2
            generalize plS t xss bs sm wk (ds.take i) = QQ at K1
            generalize plS t xss bs sm wk (ds.take (i + 1)) = QP at K2
            clear hD hFB hc hd1 hd2 HLAW KPP
            go_upto_region 19 with (fail)
            go_cut [16, 17, 18] (fun pp dd cc wd => dd = .int .i64 i ∧ cc = .int .i64 0 ∧ Below wr.heap.size wr wd)
            case first =>
              refine wpX_start (fun W => W.cell? ⟨w1.heap.size, 0, none⟩ = some (.int .i64 m) ∧ W.cell? ⟨w1.heap.size, 1, none⟩ = some (.int .i64 t) ∧ W.cell? ⟨w1.heap.size, 2, none⟩ = some (.slice va vn vc) ∧ W.cell? ⟨w1.heap.size, 3, none⟩ = some (.int .i64 bs) ∧ W.cell? ⟨w1.heap.size, 4, none⟩ = some (.int .i64 sm) ∧ W.cell? ⟨w1.heap.size, 5, none⟩ = some (.int .i64 wk)) [10, 11, 12] (by kernel_rfl) ?_
              have hbd : Below wr.heap.size wr wr.drew := (Below.refl _ _).drew
              have hC := SV.out wr.drew (BR.out.trans (hbd.mono BR.out.size))
              refine wpX_load (i := 0) (v := ?_) rfl (by kernel_rfl) (fun _ _ _ h => h) hC rfl (fun w' hw' => ?_) ?_
              rotate_left
              · obtain ⟨k1, k2, k3, k4, k5, k6⟩ := hw'; go_simp; try with_reducible rfl
              try simp only [Act.put, List.setIfInBounds_toArray, List.set_cons_zero, List.set_cons_succ]
              refine wpX_free (i := 1) (v := ?_) rfl (by kernel_rfl) (fun _ _ _ h => h) rfl (fun w' => ?_) ?_
              rotate_left
              · go_simp; try with_reducible rfl
              try simp only [Act.put, List.setIfInBounds_toArray, List.set_cons_zero, List.set_cons_succ]
              refine wpX_free (i := 2) (v := ?_) rfl (by kernel_rfl) (fun _ _ _ h => h) rfl (fun w' => ?_) ?_
              rotate_left
              · go_simp; try with_reducible rfl
              try simp only [Act.put, List.setIfInBounds_toArray, List.set_cons_zero, List.set_cons_succ]
              refine wpX_free (i := 3) (v := ?_) rfl (by kernel_rfl) (fun _ _ _ h => h) rfl (fun w' => ?_) ?_
              rotate_left
              · go_simp; try with_reducible rfl
              try simp only [Act.put, List.setIfInBounds_toArray, List.set_cons_zero, List.set_cons_succ]
              refine wpX_two (i := 4) (j := 9) rfl rfl (by kernel_rfl) rfl rfl ?_ ?_
              · intro K hK
                go_simp
                go_at_call 30
                refine (K1.out _ (BR.out.trans (hbd.mono BR.out.size)) (CR.out.trans (hbd.mono CR.out.size))).mono ?_
                rintro e u ⟨vl, vr, ve, vh, vw, vo, rfl, pv, cu⟩
                obtain ⟨al, al', ar, ar', ae, ae', ah, ah', aw, aw', ao, ao', rfl, rfl, rfl, rfl, rfl, rfl⟩ := pv.rd.form
                have bu : Below wr.heap.size wr u := hbd.trans cu
                have hC := SV.out u (BR.out.trans (bu.mono BR.out.size))
                refine hK _ _ hC ?_
                unfold plV
                clear hK K pv cu
                generalize QQ.l.length = ll
                generalize QQ.r.length = lr
                generalize QQ.recs.length = le
                generalize QQ.hands.length = lh
                generalize QQ.wire.length = lw
                generalize QQ.out.length = lo
                generalize QQ.q = qq
                generalize QQ.sy = sy
                try simp only [Act.put, List.setIfInBounds_toArray, List.set_cons_zero, List.set_cons_succ]
                refine wpX_free (i := 5) (v := ?_) rfl (by kernel_rfl) (fun _ _ _ h => h) rfl (fun w' => ?_) ?_
                rotate_left
                · go_simp; try with_reducible rfl
                try simp only [Act.put, List.setIfInBounds_toArray, List.set_cons_zero, List.set_cons_succ]
                refine wpX_free (i := 6) (v := ?_) rfl (by kernel_rfl) (fun _ _ _ h => h) rfl (fun w' => ?_) ?_
                rotate_left
                · go_simp; try with_reducible rfl
                try simp only [Act.put, List.setIfInBounds_toArray, List.set_cons_zero, List.set_cons_succ]
                refine wpX_free (i := 7) (v := ?_) rfl (by kernel_rfl) (fun _ _ _ h => h) rfl (fun w' => ?_) ?_
                rotate_left
                · go_simp; try with_reducible rfl
                try simp only [Act.put, List.setIfInBounds_toArray, List.set_cons_zero, List.set_cons_succ]
                refine wpX_free (i := 8) (v := ?_) rfl (by kernel_rfl) (fun _ _ _ h => h) rfl (fun w' => ?_) ?_
                rotate_left
                · go_simp; try with_reducible rfl
                try simp only [Act.put, List.setIfInBounds_toArray, List.set_cons_zero, List.set_cons_succ]
                refine wpX_one (i := 9) rfl (by kernel_rfl) rfl ?_
                intro K hK
                go_simp
                have ba : Below u.heap.size u (u.alloc (.cells #[.slice none 0 0, .slice none 0 0, .int .i64 0, .slice none 0 0, .int .i64 0, .slice none 0 0, .slice none 0 0, .slice none 0 0] 61)) := (Below.refl _ _).alloc (Nat.le_refl _) _
                have hC := SV.out _ (BR.out.trans ((bu.trans (ba.mono bu.size)).mono BR.out.size))
                refine hK _ _ hC ?_
                clear hK K ba
                try simp only [Act.put, List.setIfInBounds_toArray, List.set_cons_zero, List.set_cons_succ]
                refine wpX_rest (t := [10, 11, 12]) (l := [_, _, _]) rfl (by kernel_rfl) (by kernel_rfl) ?_
                clear hC
                have BU := Lib.hid bu
                have zu := bu.size
                clear bu hbd
                go_wp2_with fail
                go_meet
                case rel => exact ⟨rfl, rfl, BU.out.alloc BU.out.size _⟩
              · intro K hK
                go_simp
                have ba : Below wr.heap.size wr (wr.alloc (.cells #[.slice none 0 0, .slice none 0 0, .int .i64 0, .slice none 0 0, .int .i64 0, .slice none 0 0, .slice none 0 0, .slice none 0 0] 61)).drew := ((Below.refl _ _).alloc (Nat.le_refl _) _).drew
                have hC := SV.out _ (BR.out.trans (ba.mono BR.out.size))
                refine hK _ _ hC ?_
                clear hK K
                try simp only [Act.put, List.setIfInBounds_toArray, List.set_cons_zero, List.set_cons_succ]
                refine wpX_one (i := 4) rfl (by kernel_rfl) rfl ?_
                intro K hK
                go_simp
                go_at_call 30
                refine (K1.out _ (BR.out.trans (ba.mono BR.out.size)) (CR.out.trans (ba.mono CR.out.size))).mono ?_
                rintro e u ⟨vl, vr, ve, vh, vw, vo, rfl, pv, cu⟩
                obtain ⟨al, al', ar, ar', ae, ae', ah, ah', aw, aw', ao, ao', rfl, rfl, rfl, rfl, rfl, rfl⟩ := pv.rd.form
                have bu : Below wr.heap.size wr u := ba.trans (cu.mono ba.size)
                have hC := SV.out u (BR.out.trans (bu.mono BR.out.size))
                refine hK _ _ hC ?_
                unfold plV
                clear hK K pv
                generalize QQ.l.length = ll
                generalize QQ.r.length = lr
                generalize QQ.recs.length = le
                generalize QQ.hands.length = lh
                generalize QQ.wire.length = lw
                generalize QQ.out.length = lo
                generalize QQ.q = qq
                generalize QQ.sy = sy
                try simp only [Act.put, List.setIfInBounds_toArray, List.set_cons_zero, List.set_cons_succ]
                refine wpX_free (i := 5) (v := ?_) rfl (by kernel_rfl) (fun _ _ _ h => h) rfl (fun w' => ?_) ?_
                rotate_left
                · go_simp; try with_reducible rfl
                try simp only [Act.put, List.setIfInBounds_toArray, List.set_cons_zero, List.set_cons_succ]
                refine wpX_free (i := 6) (v := ?_) rfl (by kernel_rfl) (fun _ _ _ h => h) rfl (fun w' => ?_) ?_
                rotate_left
                · go_simp; try with_reducible rfl
                try simp only [Act.put, List.setIfInBounds_toArray, List.set_cons_zero, List.set_cons_succ]
                refine wpX_free (i := 7) (v := ?_) rfl (by kernel_rfl) (fun _ _ _ h => h) rfl (fun w' => ?_) ?_
                rotate_left
                · go_simp; try with_reducible rfl
                try simp only [Act.put, List.setIfInBounds_toArray, List.set_cons_zero, List.set_cons_succ]
                refine wpX_free (i := 8) (v := ?_) rfl (by kernel_rfl) (fun _ _ _ h => h) rfl (fun w' => ?_) ?_
                rotate_left
                · go_simp; try with_reducible rfl
                try simp only [Act.put, List.setIfInBounds_toArray, List.set_cons_zero, List.set_cons_succ]
                refine wpX_rest (t := [10, 11, 12]) (l := [_, _, _]) rfl (by kernel_rfl) (by kernel_rfl) ?_
                clear hC
                have e0 := cu.cell (p := ⟨wr.heap.size, 0, none⟩) (by simp)
                have f0 := cu.frozen (p := ⟨wr.heap.size, 0, none⟩) (by simp)
                have e1 := cu.cell (p := ⟨wr.heap.size, 1, none⟩) (by simp)
                have f1 := cu.frozen (p := ⟨wr.heap.size, 1, none⟩) (by simp)
                have e2 := cu.cell (p := ⟨wr.heap.size, 2, none⟩) (by simp)
                have f2 := cu.frozen (p := ⟨wr.heap.size, 2, none⟩) (by simp)
                have e3 := cu.cell (p := ⟨wr.heap.size, 3, none⟩) (by simp)
                have f3 := cu.frozen (p := ⟨wr.heap.size, 3, none⟩) (by simp)
                have e4 := cu.cell (p := ⟨wr.heap.size, 4, none⟩) (by simp)
                have f4 := cu.frozen (p := ⟨wr.heap.size, 4, none⟩) (by simp)
                have e5 := cu.cell (p := ⟨wr.heap.size, 5, none⟩) (by simp)
                have f5 := cu.frozen (p := ⟨wr.heap.size, 5, none⟩) (by simp)
                have e6 := cu.cell (p := ⟨wr.heap.size, 6, none⟩) (by simp)
                have f6 := cu.frozen (p := ⟨wr.heap.size, 6, none⟩) (by simp)
                have e7 := cu.cell (p := ⟨wr.heap.size, 7, none⟩) (by simp)
                have f7 := cu.frozen (p := ⟨wr.heap.size, 7, none⟩) (by simp)
                simp [go_sem] at e0 f0 e1 f1 e2 f2 e3 f3 e4 f4 e5 f5 e6 f6 e7 f7
                have BU := Lib.hid bu
                have zu : wr.heap.size < u.heap.size := Nat.lt_of_lt_of_le (by simp) cu.size
                clear bu ba cu hbd
                go_wp2_with fail
                go_meet
                case rel =>
                  refine ⟨rfl, rfl, ?_⟩
                  iterate 8 (refine Below.setCell ?_ (by simp) _)
                  exact BU.out
            case rest =>
              obtain ⟨rfl, rfl, hbc⟩ := hcut
              have BR2 := Lib.hid (BR.out.trans (hbc.mono BR.out.size))
              have CR2 := Lib.hid (CR.out.trans (hbc.mono CR.out.size))
              clear hbc
              clear K1
              generalize QP = QQ at K2
              go_upto_region 20 with (fail)
              go_cut [19, 20, 21] (fun pp dd cc wd => dd = .int .i64 i ∧ cc = .int .i64 0 ∧ Below wc.heap.size wc wd)
              case first =>
                refine wpX_start (fun W => W.cell? ⟨w1.heap.size, 0, none⟩ = some (.int .i64 m) ∧ W.cell? ⟨w1.heap.size, 1, none⟩ = some (.int .i64 t) ∧ W.cell? ⟨w1.heap.size, 2, none⟩ = some (.slice va vn vc) ∧ W.cell? ⟨w1.heap.size, 3, none⟩ = some (.int .i64 bs) ∧ W.cell? ⟨w1.heap.size, 4, none⟩ = some (.int .i64 sm) ∧ W.cell? ⟨w1.heap.size, 5, none⟩ = some (.int .i64 wk)) [11, 12, 13] (by kernel_rfl) ?_
                have hbd : Below wc.heap.size wc wc.drew := (Below.refl _ _).drew
                have hC := SV.out wc.drew (BR2.out.trans (hbd.mono BR2.out.size))
                refine wpX_load (i := 0) (v := ?_) rfl (by kernel_rfl) (fun _ _ _ h => h) hC rfl (fun w' hw' => ?_) ?_
                rotate_left
                · obtain ⟨k1, k2, k3, k4, k5, k6⟩ := hw'; go_simp; try with_reducible rfl
                try simp only [Act.put, List.setIfInBounds_toArray, List.set_cons_zero, List.set_cons_succ]
                refine wpX_free (i := 1) (v := ?_) rfl (by kernel_rfl) (fun _ _ _ h => h) rfl (fun w' => ?_) ?_
                rotate_left
                · go_simp; try with_reducible rfl
                try simp only [Act.put, List.setIfInBounds_toArray, List.set_cons_zero, List.set_cons_succ]
                refine wpX_free (i := 2) (v := ?_) rfl (by kernel_rfl) (fun _ _ _ h => h) rfl (fun w' => ?_) ?_
                rotate_left
                · go_simp; try with_reducible rfl
                try simp only [Act.put, List.setIfInBounds_toArray, List.set_cons_zero, List.set_cons_succ]
                refine wpX_free (i := 3) (v := ?_) rfl (by kernel_rfl) (fun _ _ _ h => h) rfl (fun w' => ?_) ?_
                rotate_left
                · go_simp; try with_reducible rfl
                try simp only [Act.put, List.setIfInBounds_toArray, List.set_cons_zero, List.set_cons_succ]
                refine wpX_free (i := 4) (v := ?_) rfl (by kernel_rfl) (fun _ _ _ h => h) rfl (fun w' => ?_) ?_
                rotate_left
                · go_simp; try with_reducible rfl
                try simp only [Act.put, List.setIfInBounds_toArray, List.set_cons_zero, List.set_cons_succ]
                refine wpX_two (i := 5) (j := 10) rfl rfl (by kernel_rfl) rfl rfl ?_ ?_
                · intro K hK
                  go_simp
                  go_at_call 30
                  refine (K2.out _ (BR2.out.trans (hbd.mono BR2.out.size)) (CR2.out.trans (hbd.mono CR2.out.size))).mono ?_
                  rintro e u ⟨vl, vr, ve, vh, vw, vo, rfl, pv, cu⟩
                  obtain ⟨al, al', ar, ar', ae, ae', ah, ah', aw, aw', ao, ao', rfl, rfl, rfl, rfl, rfl, rfl⟩ := pv.rd.form
                  have bu : Below wc.heap.size wc u := hbd.trans cu
                  have hC := SV.out u (BR2.out.trans (bu.mono BR2.out.size))
                  refine hK _ _ hC ?_
                  unfold plV
                  clear hK K pv cu
                  generalize QQ.l.length = ll
                  generalize QQ.r.length = lr
                  generalize QQ.recs.length = le
                  generalize QQ.hands.length = lh
                  generalize QQ.wire.length = lw
                  generalize QQ.out.length = lo
                  generalize QQ.q = qq
                  generalize QQ.sy = sy
                  try simp only [Act.put, List.setIfInBounds_toArray, List.set_cons_zero, List.set_cons_succ]
                  refine wpX_free (i := 6) (v := ?_) rfl (by kernel_rfl) (fun _ _ _ h => h) rfl (fun w' => ?_) ?_
                  rotate_left
                  · go_simp; try with_reducible rfl
                  try simp only [Act.put, List.setIfInBounds_toArray, List.set_cons_zero, List.set_cons_succ]
                  refine wpX_free (i := 7) (v := ?_) rfl (by kernel_rfl) (fun _ _ _ h => h) rfl (fun w' => ?_) ?_
                  rotate_left
                  · go_simp; try with_reducible rfl
                  try simp only [Act.put, List.setIfInBounds_toArray, List.set_cons_zero, List.set_cons_succ]
                  refine wpX_free (i := 8) (v := ?_) rfl (by kernel_rfl) (fun _ _ _ h => h) rfl (fun w' => ?_) ?_
                  rotate_left
                  · go_simp; try with_reducible rfl
                  try simp only [Act.put, List.setIfInBounds_toArray, List.set_cons_zero, List.set_cons_succ]
                  refine wpX_free (i := 9) (v := ?_) rfl (by kernel_rfl) (fun _ _ _ h => h) rfl (fun w' => ?_) ?_
                  rotate_left
                  · go_simp; try with_reducible rfl
                  try simp only [Act.put, List.setIfInBounds_toArray, List.set_cons_zero, List.set_cons_succ]
                  refine wpX_one (i := 10) rfl (by kernel_rfl) rfl ?_
                  intro K hK
                  go_simp
                  have ba : Below u.heap.size u (u.alloc (.cells #[.slice none 0 0, .slice none 0 0, .int .i64 0, .slice none 0 0, .int .i64 0, .slice none 0 0, .slice none 0 0, .slice none 0 0] 61)) := (Below.refl _ _).alloc (Nat.le_refl _) _
                  have hC := SV.out _ (BR2.out.trans ((bu.trans (ba.mono bu.size)).mono BR2.out.size))
                  refine hK _ _ hC ?_
                  clear hK K ba
                  try simp only [Act.put, List.setIfInBounds_toArray, List.set_cons_zero, List.set_cons_succ]
                  refine wpX_rest (t := [11, 12, 13]) (l := [_, _, _]) rfl (by kernel_rfl) (by kernel_rfl) ?_
                  clear hC
                  have BU := Lib.hid bu
                  have zu := bu.size
                  clear bu hbd
                  go_wp2_with fail
                  go_meet
                  case rel => exact ⟨rfl, rfl, BU.out.alloc BU.out.size _⟩
                · intro K hK
                  go_simp
                  have ba : Below wc.heap.size wc (wc.alloc (.cells #[.slice none 0 0, .slice none 0 0, .int .i64 0, .slice none 0 0, .int .i64 0, .slice none 0 0, .slice none 0 0, .slice none 0 0] 61)).drew := ((Below.refl _ _).alloc (Nat.le_refl _) _).drew
                  have hC := SV.out _ (BR2.out.trans (ba.mono BR2.out.size))
                  refine hK _ _ hC ?_
                  clear hK K
                  try simp only [Act.put, List.setIfInBounds_toArray, List.set_cons_zero, List.set_cons_succ]
                  refine wpX_one (i := 5) rfl (by kernel_rfl) rfl ?_
                  intro K hK
                  go_simp
                  go_at_call 30
                  refine (K2.out _ (BR2.out.trans (ba.mono BR2.out.size)) (CR2.out.trans (ba.mono CR2.out.size))).mono ?_
                  rintro e u ⟨vl, vr, ve, vh, vw, vo, rfl, pv, cu⟩
                  obtain ⟨al, al', ar, ar', ae, ae', ah, ah', aw, aw', ao, ao', rfl, rfl, rfl, rfl, rfl, rfl⟩ := pv.rd.form
                  have bu : Below wc.heap.size wc u := ba.trans (cu.mono ba.size)
                  have hC := SV.out u (BR2.out.trans (bu.mono BR2.out.size))
                  refine hK _ _ hC ?_
                  unfold plV
                  clear hK K pv
                  generalize QQ.l.length = ll
                  generalize QQ.r.length = lr
                  generalize QQ.recs.length = le
                  generalize QQ.hands.length = lh
                  generalize QQ.wire.length = lw
                  generalize QQ.out.length = lo
                  generalize QQ.q = qq
                  generalize QQ.sy = sy
                  try simp only [Act.put, List.setIfInBounds_toArray, List.set_cons_zero, List.set_cons_succ]
                  refine wpX_free (i := 6) (v := ?_) rfl (by kernel_rfl) (fun _ _ _ h => h) rfl (fun w' => ?_) ?_
                  rotate_left
                  · go_simp; try with_reducible rfl
                  try simp only [Act.put, List.setIfInBounds_toArray, List.set_cons_zero, List.set_cons_succ]
                  refine wpX_free (i := 7) (v := ?_) rfl (by kernel_rfl) (fun _ _ _ h => h) rfl (fun w' => ?_) ?_
                  rotate_left
                  · go_simp; try with_reducible rfl
                  try simp only [Act.put, List.setIfInBounds_toArray, List.set_cons_zero, List.set_cons_succ]
                  refine wpX_free (i := 8) (v := ?_) rfl (by kernel_rfl) (fun _ _ _ h => h) rfl (fun w' => ?_) ?_
                  rotate_left
                  · go_simp; try with_reducible rfl
                  try simp only [Act.put, List.setIfInBounds_toArray, List.set_cons_zero, List.set_cons_succ]
                  refine wpX_free (i := 9) (v := ?_) rfl (by kernel_rfl) (fun _ _ _ h => h) rfl (fun w' => ?_) ?_
                  rotate_left
                  · go_simp; try with_reducible rfl
                  try simp only [Act.put, List.setIfInBounds_toArray, List.set_cons_zero, List.set_cons_succ]
                  refine wpX_rest (t := [11, 12, 13]) (l := [_, _, _]) rfl (by kernel_rfl) (by kernel_rfl) ?_
                  clear hC
                  have e0 := cu.cell (p := ⟨wc.heap.size, 0, none⟩) (by simp)
                  have f0 := cu.frozen (p := ⟨wc.heap.size, 0, none⟩) (by simp)
                  have e1 := cu.cell (p := ⟨wc.heap.size, 1, none⟩) (by simp)
                  have f1 := cu.frozen (p := ⟨wc.heap.size, 1, none⟩) (by simp)
                  have e2 := cu.cell (p := ⟨wc.heap.size, 2, none⟩) (by simp)
                  have f2 := cu.frozen (p := ⟨wc.heap.size, 2, none⟩) (by simp)
                  have e3 := cu.cell (p := ⟨wc.heap.size, 3, none⟩) (by simp)
                  have f3 := cu.frozen (p := ⟨wc.heap.size, 3, none⟩) (by simp)
                  have e4 := cu.cell (p := ⟨wc.heap.size, 4, none⟩) (by simp)
                  have f4 := cu.frozen (p := ⟨wc.heap.size, 4, none⟩) (by simp)
                  have e5 := cu.cell (p := ⟨wc.heap.size, 5, none⟩) (by simp)
                  have f5 := cu.frozen (p := ⟨wc.heap.size, 5, none⟩) (by simp)
                  have e6 := cu.cell (p := ⟨wc.heap.size, 6, none⟩) (by simp)
                  have f6 := cu.frozen (p := ⟨wc.heap.size, 6, none⟩) (by simp)
                  have e7 := cu.cell (p := ⟨wc.heap.size, 7, none⟩) (by simp)
                  have f7 := cu.frozen (p := ⟨wc.heap.size, 7, none⟩) (by simp)
                  simp [go_sem] at e0 f0 e1 f1 e2 f2 e3 f3 e4 f4 e5 f5 e6 f6 e7 f7
                  have BU := Lib.hid bu
                  have zu : wc.heap.size < u.heap.size := Nat.lt_of_lt_of_le (by simp) cu.size
                  clear bu ba cu hbd
                  go_wp2_with fail
                  go_meet
                  case rel =>
                    refine ⟨rfl, rfl, ?_⟩
                    iterate 8 (refine Below.setCell ?_ (by simp) _)
                    exact BU.out
              case rest =>
                obtain ⟨rfl, rfl, hbc⟩ := hcut
                have BZ := Lib.hid (BJ.out.trans ((CR2.out.trans (hbc.mono CR2.out.size)).mono BJ.out.size))
                clear hbc
                go_wp2
                go_ret
                exact ⟨rfl, BZ.out⟩
end Go.Proofs.Ytijpkcdalmlaiaa
