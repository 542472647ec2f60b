/-
  FnDraws: the law answers true for all texts of bytes.
-/
import Derived.Test.YtipkdbicijibpaaF6
import Derived.Test.YtipkdbicijibpaaDraw2
namespace Go.Proofs.Ytipkdbicijibpaa
open Go.RowKit Go.Sort
theorem cntD_step {xss : List (List Int)} {s t : Int} (h : chainOk s t xss = true) {q k : Nat} (hk : k < xss.length) (hq : (q : Int) < t) : ∃ z, z < xss.length ∧ z < (cntD xss[k] q).length ∧ nxt xss q k = (z : Int) ∧ cntD xss[k] (q + 1) = (cntD xss[k] q).set z ((cntD xss[k] q).getD z 0 + 1) ∧ 0 ≤ (cntD xss[k] q).getD z 0 ∧ (cntD xss[k] q).getD z 0 ≤ 60 := by
  obtain ⟨i, h1, h2, h3⟩ := nxt_spec h (d := q) ⟨by omega, hq⟩ hk
  obtain ⟨hB, hl, hs⟩ := rowB_of h hk
  obtain ⟨_, _, h5, _⟩ := chainOk_parts0 h
  have hil : i < xss[k].length := by omega
  have hne : xss[k] ≠ [] := by intro e; rw [e] at hil; simp at hil
  have hg := cntD_get (fun x hx => (hB.2 x hx).1) hne q (by omega) i hil
  have hr := hB.2 _ (List.getElem_mem hil)
  refine ⟨i, h3, by rw [cntD_len]; exact hil, h2, ?_, by rw [hg]; omega, by rw [hg]; omega⟩
  conv => lhs; unfold cntD
  rw [h1, Option.getD_some]
theorem cntD_full {xss : List (List Int)} {s : Int} {t : Nat} (h : chainOk s t xss = true) {k : Nat} (hk : k < xss.length) : cntD xss[k] t = xss[k] := by
  obtain ⟨hB, hl, hs⟩ := rowB_of h hk
  obtain ⟨⟨h1, _⟩, _, h5, _⟩ := chainOk_parts0 h
  exact cntD_all (fun x hx => (hB.2 x hx).1) (by intro e; rw [e] at hl; simp at hl; omega) hs
set_option maxRecDepth 100000 in
set_option maxHeartbeats 16000000 in
theorem FnDraws_walk {xs ys : List Int} (a0 a1 : Option Addr) (n0 n1 c0 c1 : Nat) (w : World) (hn0 : n0 ≤ maxLen) (hn1 : n1 ≤ maxLen) (hx : xs.length = n0) (hr : Rd w a0 (xs.map (.int .u8))) (hb : ∀ x ∈ xs, 0 ≤ x ∧ x < 256)
    (hx1 : ys.length = n1) (hr1 : Rd w a1 (ys.map (.int .u8))) (hb1 : ∀ x ∈ ys, 0 ≤ x ∧ x < 256) :
    Calls Try.prog 3 #[.slice a0 n0 c0, .slice a1 n1 c1] w fun e w' => e = .returned (.bool true) ∧ Below w.heap.size w w' := by
  have HR := Lib.hid hr
  have HB := Lib.hid hb
  have HX := Lib.hid hx
  have HR1 := Lib.hid (fun W (h : Below w.heap.size w W) => hr1.below h)
  have HB1 := Lib.hid hb1
  have HX1 := Lib.hid hx1
  have HN0 := Lib.hid hn0
  have HN1 := Lib.hid hn1
  clear hr hb hx hr1 hb1 hx1 hn0 hn1
  generalize hd0 : decide (4096 < n0) = d0
  generalize hd1 : decide (4096 < n1) = d1
  have HD0 := Lib.hid hd0
  have HD1 := Lib.hid hd1
  clear hd0 hd1
  cases d0
  case true =>
    go_enter Try.func3, Try.ntmps3
    go_wp2_with fail
    refine (f6big_any a0 n0 c0 _ HN0.out).mono ?_
    rintro e w1 ⟨rfl, rfl⟩
    rw [HD0.out]
    go_wp2
    go_ret
    exact ⟨rfl, Below.refl _ _⟩
  case false =>
    cases d1
    case true =>
      go_enter Try.func3, Try.ntmps3
      go_wp2_with fail
      refine (f6big_any a0 n0 c0 _ HN0.out).mono ?_
      rintro e w1 ⟨rfl, rfl⟩
      rw [HD0.out]
      go_wp2_with fail
      refine (f6big_any a1 n1 c1 _ HN1.out).mono ?_
      rintro e w1 ⟨rfl, rfl⟩
      rw [HD1.out]
      go_wp2
      go_ret
      exact ⟨rfl, Below.refl _ _⟩
    case false =>
      have h40 := Lib.hid (show n0 ≤ 4096 by have := HD0.out; rw [decide_eq_false_iff_not] at this; omega)
      have h41 := Lib.hid (show n1 ≤ 4096 by have := HD1.out; rw [decide_eq_false_iff_not] at this; omega)
      go_enter Try.func3, Try.ntmps3
      go_wp2_with fail
      refine (f6big_any a0 n0 c0 _ HN0.out).mono ?_
      rintro e w1 ⟨rfl, rfl⟩
      rw [HD0.out]
      go_wp2_with fail
      refine (f6big_any a1 n1 c1 _ HN1.out).mono ?_
      rintro e w1 ⟨rfl, rfl⟩
      rw [HD1.out]
      go_wp2_with fail
      refine (P6Chain_any a0 n0 c0 4 _ h40.out HX.out HR.out HB.out (by decide) (by decide)).mono ?_
      rintro e w1 ⟨m, t, v, xss, rfl, hch, o1, b1⟩
      have HCH := Lib.hid hch
      obtain ⟨⟨hm1, hm2⟩, ⟨ht1, ht2⟩, hml, _⟩ := chainOk_parts0 hch
      have S1 := Lib.hid o1.sl
      obtain ⟨va, vn, vc, rfl, hvn⟩ := o1.formJ
      have hmx : xss.length = m := by omega
      rw [hvn.out, hmx] at S1
      rw [hvn.out, hmx]
      obtain ⟨W2, hW2⟩ : ∃ W2, W2 = w1.alloc (.cells #[.int .i64 m, .int .i64 t, .slice va m vc] 26) := ⟨_, rfl⟩
      have b2 : Below w1.heap.size w1 W2 := by rw [hW2]; exact (Below.refl _ _).alloc (Nat.le_refl _) _
      have X2 := Lib.hid (show ChainAt W2 w1.heap.size 0 m t (.slice va m vc) by rw [hW2]; exact chBox w1 m t _)
      have HA := Lib.hid (fun W (h : Below W2.heap.size W2 W) => (S1.out.below b2).below h)
      have B2 := Lib.hid (b1.trans (b2.mono b1.size))
      have HW2 := Lib.hid hW2
      have HMX := Lib.hid hmx
      clear b1 b2 hch o1 hW2 hml hvn hmx
      go_wp2_with fail
      rw [← HW2.out]
      refine (P6Pick_any a1 n1 c1 m _ h41.out HX1.out (HR1.out _ B2.out) HB1.out).mono ?_
      rintro e w3 ⟨k, rfl, hk0, hk1, b3⟩
      obtain ⟨k, rfl⟩ := Int.eq_ofNat_of_zero_le hk0
      have hkm : k < m := by omega
      have HK := Lib.hid (show k < xss.length by rw [HMX.out]; exact hkm)
      obtain ⟨z2, p0, p1, p2⟩ := X2.out.below b3
      simp only [Nat.zero_add] at p0 p1 p2
      have B3 := Lib.hid b3
      clear hk0 hk1 b3
      go_wp2_with (at_make; refine make_i64 w3 _ _ rfl rfl m rfl rfl rfl rfl (by omega) ?_)
      intro w4 o4 b4 z4
      clear p0 p1 p2
      have B4 := Lib.hid b4
      obtain ⟨C, hC⟩ : ∃ C, C = cntD (xss[k]'HK.out) := ⟨_, rfl⟩
      have HC := Lib.hid hC
      have HC0 := Lib.hid (show C 0 = List.replicate m 0 by
        rw [hC]; show List.replicate (xss[k]'HK.out).length 0 = _
        have := (rowB_of HCH.out HK.out).2.1
        rw [show (xss[k]'HK.out).length = m by omega])
      have O4 := Lib.hid (show OwnI w4 w3.heap.size (.slice (some ⟨w3.heap.size, 0, none⟩) m m) (C 0) by rw [HC0.out]; exact o4)
      clear hC o4 b4
      go_wp2
      go_loopw [8, 9, 10] (fun d _ _ wr => ∃ q : Nat, q ≤ t ∧ d = .int .i64 q ∧ OwnI wr w3.heap.size (.slice (some ⟨w3.heap.size, 0, none⟩) m m) (C q) ∧ Below w3.heap.size w3 wr) (fun d _ _ _ => t - (intOf d).toNat)
      case atStart => exact ⟨0, Nat.zero_le _, rfl, O4.out, B4.out⟩
      case round =>
        clear z4 O4 B4
        obtain ⟨q, hq, rfl, hown, hbr⟩ := hrel
        have HO := Lib.hid hown
        have HBR := Lib.hid hbr
        have hb0 := B3.out.trans (hbr.mono B3.out.size)
        obtain ⟨_, p0, p1, p2⟩ := X2.out.below hb0
        simp only [Nat.zero_add] at p0 p1 p2
        clear hown hbr
        by_cases hlt : q < t
        · have i1 : (q : Int) < (t : Int) := by omega
          obtain ⟨z, hz1, hz2, hz3, hz4, hz5, hz6⟩ := cntD_step HCH.out HK.out i1
          rw [← HC.out] at hz2 hz4 hz5 hz6
          rw [HMX.out] at hz1
          have HZ := Lib.hid hz4
          have HZ3 := Lib.hid hz3
          clear hz4 hz3
          go_wp2_with fail
          refine (ImplStepByDraw_any m t q k _ (by have := HA.out _ hb0; exact this) HCH.out ⟨by omega, i1⟩ HK.out).mono ?_
          rintro e w5 ⟨rfl, b5⟩
          rw [HZ3.out]
          have o5 := HO.out.below b5
          have B5 := Lib.hid (HBR.out.trans (b5.mono HBR.out.size))
          clear p0 p1 p2
          obtain ⟨_, p0, p1, p2⟩ := (X2.out.below hb0).below b5
          simp only [Nat.zero_add] at p0 p1 p2
          have gc := o5.cell hz2
          have gf := o5.free z
          have own' := o5.set z ((C q).getD z 0 + 1)
          rw [← HZ.out] at own'
          have HOW := Lib.hid own'
          rw [← gD_at (d := 0) hz2] at gc
          generalize (C q).getD z 0 = cv at gc hz5 hz6 HOW
          have r1 : IntKind.i64.wrap (cv + 1) = cv + 1 := IntWalk.i64_in _ (by omega)
          have i2 : (0 : Int) ≤ (z : Int) := by omega
          have i3 : (z : Int) < (m : Int) := by omega
          clear own' o5 b5 hb0
          go_wp2
          go_roundw
          case rel => exact ⟨q + 1, by omega, by go_num, HOW.out, B5.out.setCell (Nat.le_refl _) _⟩
          case measure => simp [intOf]; omega
        · obtain rfl : q = t := by omega
          rw [HC.out, cntD_full HCH.out HK.out] at HO
          have hzz : w3.heap.size ≤ wr.heap.size := HBR.out.size
          go_wp2_with fail
          refine (P6Draws_any a1 n1 c1 q 8 _ h41.out HX1.out (HR1.out _ (B2.out.trans (hb0.mono B2.out.size))) HB1.out (by omega) (by decide)).mono ?_
          rintro e w5 ⟨dv, ds, rfl, hdb, hdl, o5, b5⟩
          have HDB := Lib.hid hdb
          have SD := Lib.hid (fun W (h : Below w5.heap.size w5 W) => o5.sl.below h)
          have SC := Lib.hid (fun W (h : Below w5.heap.size w5 W) => (HO.out.sl.below b5).below h)
          have B5 := Lib.hid (hb0.trans (b5.mono hb0.size))
          clear p0 p1 p2 o5 b5 hb0 hdb
          obtain ⟨_, p0, p1, p2⟩ := X2.out.below B5.out
          simp only [Nat.zero_add] at p0 p1 p2
          obtain ⟨da, dc, rfl, hdc, hdc2, _⟩ := id (SD.out _ (Below.refl _ _))
          unfold maxLen at hdc2
          go_wp2_with fail
          refine (ImplRunByDraws_any m q k _ (by have := HA.out _ B5.out; exact this) (SD.out _ (Below.refl _ _)) HCH.out HK.out HDB.out (by omega)).mono ?_
          rintro e w6 ⟨u, rfl, o6, b6⟩
          have S6 := Lib.hid (fun W (h : Below w6.heap.size w6 W) => o6.sl.below h)
          have B6 := Lib.hid b6
          clear p0 p1 p2 o6 b6
          obtain ⟨ua, uc, rfl, huc, huc2, _⟩ := id (S6.out _ (Below.refl _ _))
          unfold maxLen at huc2
          obtain ⟨_, p0, p1, p2⟩ := X2.out.below (B5.out.trans (B6.out.mono B5.out.size))
          simp only [Nat.zero_add] at p0 p1 p2
          go_wp2_with fail
          refine (SpecRunByDraws_any m q k _ (by have := HA.out _ (B5.out.trans (B6.out.mono B5.out.size)); exact this) (SD.out _ B6.out) HCH.out HK.out HDB.out (by omega)).mono ?_
          rintro e w7 ⟨u2, rfl, o7, b7⟩
          have B7 := Lib.hid (B6.out.trans (b7.mono B6.out.size))
          have S7 := Lib.hid (fun W (h : Below w7.heap.size w7 W) => o7.sl.below h)
          have S67 := Lib.hid (S6.out _ b7)
          clear p0 p1 p2 o7 b7
          obtain ⟨ta, tc, rfl, htc, htc2, _⟩ := id (S7.out _ (Below.refl _ _))
          unfold maxLen at htc2
          have hln := runN_len xss (k : Int) ds ds.length
          have hg0 : (runN xss (k : Int) ds ds.length).getD 0 0 = (k : Int) := runN_zero
          have hgs : ∀ j, j < ds.length → ∃ y : Nat, y < xss.length ∧ (runN xss (k : Int) ds ds.length).getD j 0 = (y : Int) ∧ (runN xss (k : Int) ds ds.length).getD (j + 1) 0 = nxt xss (ds.getD j 0) y := fun j hj => by
            obtain ⟨y, h1, h2⟩ := run_at HCH.out HK.out HDB.out (j := j) (by omega)
            have h3 : (runN xss (k : Int) ds ds.length).getD j 0 = (y : Int) := by rw [runN_get (show j ≤ ds.length by omega)]; exact h2
            exact ⟨y, h1, h3, by rw [runN_next hj, h3]⟩
          generalize hl : runN xss (k : Int) ds ds.length = l at hln hg0 hgs S6 S7 S67 huc htc ⊢
          have HGS := Lib.hid hgs
          rw [hln] at huc htc ⊢
          clear hgs hl
          go_wp2_with fail
          refine (f6ints_refl _ (by have := S67.out; rw [hln] at this; exact this) (by have := S7.out _ (Below.refl _ _); rw [hln] at this; exact this)).mono ?_
          rintro e w8 ⟨rfl, b8⟩
          have B8 := Lib.hid b8
          have hb8 := B5.out.trans ((B7.out.trans (b8.mono B7.out.size)).mono B5.out.size)
          obtain ⟨_, p0, p1, p2⟩ := X2.out.below hb8
          simp only [Nat.zero_add] at p0 p1 p2
          obtain ⟨_, _, us, he, _, _, hul, hrd, hrow⟩ := HA.out _ hb8
          simp only [Value.slice.injEq] at he
          obtain ⟨rfl, he2, rfl⟩ := he
          clear he2
          obtain ⟨x, xb, xo, rfl, gx, sx⟩ := SlII.row hul hrd hrow HK.out
          have SX := Lib.hid sx
          obtain ⟨ra, rc, rfl, _⟩ := id sx
          have hrl : (xss[k]'HK.out).length = m := by have := (rowB_of HCH.out HK.out).2.1; omega
          rw [hrl] at SX gx
          have i2 : (0 : Int) ≤ (k : Int) := by omega
          have i3 : (k : Int) < (m : Int) := by omega
          clear hul hrd hrow sx b8
          go_wp2_with fail
          refine (f6ints_refl _ (by have := SC.out _ (B7.out.trans (B8.out.mono B7.out.size)); exact this) SX.out).mono ?_
          rintro e w9 ⟨rfl, b9⟩
          have hb9 := hb8.trans (b9.mono hb8.size)
          have B9 := Lib.hid hb9
          have S9 := Lib.hid (S7.out _ (B8.out.trans (b9.mono B8.out.size)))
          have D9 := Lib.hid (SD.out _ ((B7.out.trans (B8.out.mono B7.out.size)).trans (b9.mono (B7.out.trans (B8.out.mono B7.out.size)).size)))
          clear p0 p1 p2 gx b9 hb8 hb9
          go_wp2
          go_loopw [16, 17, 18] (fun i _ _ wr => ∃ j : Nat, j ≤ ds.length ∧ i = .int .i64 j ∧ Below w9.heap.size w9 wr) (fun i _ _ _ => ds.length - (intOf i).toNat)
          case atStart => exact ⟨0, Nat.zero_le _, rfl, Below.refl _ _⟩
          case round =>
            obtain ⟨j, hj, rfl, hbr⟩ := hrel
            have hb9 := B9.out.trans (hbr.mono B9.out.size)
            by_cases hlt : j < ds.length
            · obtain ⟨y, hy, hgy, hgn⟩ := HGS.out j hlt
              obtain ⟨_, _, he, _, _, rd⟩ := D9.out.below hbr
              simp only [Value.slice.injEq] at he
              obtain ⟨rfl, _, rfl⟩ := he
              obtain ⟨db, doff, rfl, gd⟩ := rd.one (i64s_get hlt)
              obtain ⟨_, _, he, _, _, rl⟩ := S9.out.below hbr
              simp only [Value.slice.injEq] at he
              obtain ⟨rfl, _, rfl⟩ := he
              obtain ⟨lb, lo, rfl, gl⟩ := rl.one (i64s_get (show j < l.length by omega))
              obtain ⟨lb2, lo2, he, gl2⟩ := rl.one (i64s_get (show j + 1 < l.length by omega))
              simp only [Option.some.injEq, Addr.mk.injEq] at he
              obtain ⟨rfl, rfl, _⟩ := he
              rw [← gD_at (d := 0), hgy] at gl
              rw [← gD_at (d := 0), hgn, gD_at hlt] at gl2
              have hdd := HDB.out _ (List.getElem_mem hlt)
              generalize ds[j] = d at gd gl2 hdd
              generalize hx : nxt xss d y = X at gl2
              have HXX := Lib.hid hx
              have HDD := Lib.hid hdd
              obtain ⟨_, p0, p1, p2⟩ := X2.out.below hb9
              simp only [Nat.zero_add] at p0 p1 p2
              have SLX := Lib.hid (HA.out _ hb9)
              have k0 := fun e os => cell_regrown p0 e os
              have k1 := fun e os => cell_regrown p1 e os
              have k2 := fun e os => cell_regrown p2 e os
              have k3 := fun e os => cell_regrown gd e os
              have k4 := fun e os => cell_regrown gl e os
              have i0 : (0 : Int) ≤ (j : Int) := by omega
              have i1 : (j : Int) < (ds.length : Int) := by omega
              have i2' : (j : Int) < ((ds.length + 1 : Nat) : Int) := by omega
              have i2'' : (j : Int) < (ds.length : Int) + 1 := by omega
              have hne : (X != X) = false := by simp
              have r1 : IntKind.i64.wrap ((j : Int) + 1) = ((j + 1 : Nat) : Int) := by rw [IntWalk.i64_in _ (by omega)]; simp
              have i4 : (0 : Int) ≤ ((j + 1 : Nat) : Int) := by omega
              have i5 : ((j + 1 : Nat) : Int) < ((ds.length + 1 : Nat) : Int) := by omega
              have HGL2 := Lib.hid gl2
              have HBR := Lib.hid hbr
              clear hx hdd rd rl gl2 hbr
              go_wp2_with fail
              refine wp_region_quiet_below (by kernel_rfl) (by kernel_rfl) ?_
              repeat (first | go_big_quiet_skip | quiet_step (exact Calls.regrown_of (ImplStepByDraw_any m q d y _ (SLX.out.below (below_regrown _ _ _)) HCH.out HDD.out hy)))
              refine wpQuiet_nil ?_
              intro _ hw'
              obtain ⟨⟨dq, osq⟩, hw''⟩ := hw'
              subst hw''
              have bq0 := below_regrown wr dq osq
              have gq := bq0.cell (p := ⟨lb, lo + (j + 1), none⟩) (cell_lt HGL2.out)
              rw [HGL2.out] at gq
              have hb2 := HBR.out.trans (bq0.mono HBR.out.size)
              generalize grow (redrawn wr dq) osq = wq at bq0 gq hb2 ⊢
              clear k0 k1 k2 k3 k4 p0 p1 p2 gd gl bq0
              rw [HXX.out]
              go_wp2
              go_roundw
              case rel => exact ⟨j + 1, by omega, by go_num, hb2⟩
              case measure => simp [intOf]; omega
            · obtain rfl : j = ds.length := by omega
              obtain ⟨_, _, he, _, _, rl⟩ := S9.out.below hbr
              simp only [Value.slice.injEq] at he
              obtain ⟨rfl, _, rfl⟩ := he
              obtain ⟨lb, lo, rfl, gl⟩ := rl.one (i64s_get (show 0 < l.length by omega))
              rw [← gD_at (d := 0), hg0] at gl
              simp only [Nat.add_zero] at gl
              have r1 : IntKind.i64.wrap ((ds.length : Int) + 1) = ((ds.length + 1 : Nat) : Int) := by rw [IntWalk.i64_in _ (by omega)]; simp
              have i5 : (0 : Int) < ((ds.length + 1 : Nat) : Int) := by omega
              clear rl
              go_wp2
              go_ret
              exact ⟨by simp, B2.out.trans ((hb9).mono B2.out.size)⟩
end Go.Proofs.Ytipkdbicijibpaa
