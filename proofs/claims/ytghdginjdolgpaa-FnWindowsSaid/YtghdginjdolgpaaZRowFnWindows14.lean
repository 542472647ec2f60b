/-
  FnWindows: the law answers true for all texts of bytes.
-/
import Derived.Test.YtghdginjdolgpaaZRowFnWindows9
import Derived.Test.YtghdginjdolgpaaZRowFnWindows13
set_option linter.unusedVariables false
set_option linter.unusedSimpArgs false
namespace Go.Proofs.Ytghdginjdolgpaa
open Go.RowKit Go.Sort
set_option maxRecDepth 100000 in
set_option maxHeartbeats 16000000 in
theorem FnWindows_walk {xs ys : List Int} (a0 a1 : Option Addr) (n0 n1 c0 c1 : Nat) (w : World) (hn0 : n0 ≤ maxLen) (hn1 : n1 ≤ maxLen) (hx : xs.length = n0) (hr : Rd w a0 (xs.map (.int .u8))) (hb : ∀ x ∈ xs, 0 ≤ x ∧ x < 256)
    (hx1 : ys.length = n1) (hr1 : Rd w a1 (ys.map (.int .u8))) (hb1 : ∀ x ∈ ys, 0 ≤ x ∧ x < 256) :
    Calls Try.prog 3 #[.slice a0 n0 c0, .slice a1 n1 c1] w fun e w' => e = .returned (.bool true) ∧ Below w.heap.size w w' := by
  have HR := Lib.hid (fun W (h : Below w.heap.size w W) => hr.below h)
  have HB := Lib.hid hb
  have HX := Lib.hid hx
  have HR1 := Lib.hid (fun W (h : Below w.heap.size w W) => hr1.below h)
  have HB1 := Lib.hid hb1
  have HX1 := Lib.hid hx1
  have HN0 := Lib.hid hn0
  have HN1 := Lib.hid hn1
  clear hr hb hx hr1 hb1 hx1 hn0 hn1
  generalize hd : a2L n0 n1 = d
  have HD := Lib.hid hd
  clear hd
  cases d
  case true =>
    go_enter Try.func3, Try.ntmps3
    go_wp2_with fail
    refine (a2Long_any a0 a1 n0 n1 c0 c1 _ HN0.out HN1.out).mono ?_
    rintro e w1 ⟨rfl, rfl⟩
    rw [HD.out]
    go_wp2
    go_ret
    exact ⟨rfl, Below.refl _ _⟩
  case false =>
      have h40 := Lib.hid (show n0 ≤ 3000 ∧ n1 ≤ 3000 by have := HD.out; unfold a2L at this; rw [decide_eq_false_iff_not] at this; omega)
      go_enter Try.func3, Try.ntmps3
      go_wp2_with fail
      refine (a2Long_any a0 a1 n0 n1 c0 c1 _ HN0.out HN1.out).mono ?_
      rintro e w1 ⟨rfl, rfl⟩
      rw [HD.out]
      go_wp2_with fail
      refine (A2Chain_any a0 n0 c0 _ (by have := h40.out; omega) HX.out (HR.out _ (Below.refl _ _)) HB.out).mono ?_
      rintro e w1 ⟨m, t, v, xss, rfl, hm5, hch, o1, b1⟩
      have HCH := Lib.hid hch
      obtain ⟨⟨hm1, hm2⟩, ⟨ht1, ht2⟩, hml, _⟩ := chainOk_parts0 hch
      have S1 := Lib.hid o1.sl
      obtain ⟨va, vn, vc, rfl, hvn⟩ := o1.formJ
      have hmx : xss.length = m := by omega
      rw [hvn.out, hmx] at S1
      rw [hvn.out, hmx]
      obtain ⟨W2, hW2⟩ : ∃ W2, W2 = w1.alloc (.cells #[.int .i64 m, .int .i64 t, .slice va m vc] 26) := ⟨_, rfl⟩
      have b2 : Below w1.heap.size w1 W2 := by rw [hW2]; exact (Below.refl _ _).alloc (Nat.le_refl _) _
      have X2 := Lib.hid (show ChainAt W2 w1.heap.size 0 m t (.slice va m vc) by rw [hW2]; exact chBox w1 m t _)
      have HA := Lib.hid (fun W (h : Below W2.heap.size W2 W) => (S1.out.below b2).below h)
      have CH := Lib.hid (show ∀ W, Below W2.heap.size W2 W → W.cell? ⟨w1.heap.size, 0, none⟩ = some (.int .i64 m) ∧ W.cell? ⟨w1.heap.size, 1, none⟩ = some (.int .i64 t) ∧ W.cell? ⟨w1.heap.size, 2, none⟩ = some (.slice va m vc) from fun W h => by
        obtain ⟨_, p0, p1, p2⟩ := X2.out.below h
        simp only [Nat.zero_add] at p0 p1 p2
        exact ⟨p0, p1, p2⟩)
      have B2 := Lib.hid (b1.trans (b2.mono b1.size))
      have HW2 := Lib.hid hW2
      have HMX := Lib.hid hmx
      have hm1' : 1 ≤ m := by omega
      have ht1' : 1 ≤ t := by omega
      have ht2' : t ≤ 60 := by omega
      clear b1 b2 hch o1 hW2 hml hvn hmx hm1 hm2 ht1 ht2
      go_wp2_with fail
      rw [← HW2.out]
      refine wpX_start (fun W => W.cell? ⟨w1.heap.size, 0, none⟩ = some (.int .i64 m) ∧ W.cell? ⟨w1.heap.size, 1, none⟩ = some (.int .i64 t) ∧ W.cell? ⟨w1.heap.size, 2, none⟩ = some (.slice va m vc)) [5, 6] (by kernel_rfl) ?_
      have hC := CH.out W2.drew (Below.refl W2.heap.size W2).drew
      refine wpX_free (i := 0) (v := ?_) rfl (by kernel_rfl) (fun _ _ _ h => h) rfl (fun w' => ?_) ?_
      rotate_left
      · go_simp; try with_reducible rfl
      try simp only [Act.put, List.setIfInBounds_toArray, List.set_cons_zero, List.set_cons_succ]
      refine wpX_load (i := 1) (v := ?_) rfl (by kernel_rfl) (fun _ _ _ h => h) hC rfl (fun w' hw' => ?_) ?_
      rotate_left
      · obtain ⟨k1, k2, k3⟩ := hw'; go_simp; try with_reducible rfl
      try simp only [Act.put, List.setIfInBounds_toArray, List.set_cons_zero, List.set_cons_succ]
      refine wpX_free (i := 2) (v := ?_) rfl (by kernel_rfl) (fun _ _ _ h => h) rfl (fun w' => ?_) ?_
      rotate_left
      · go_simp; try with_reducible rfl
      try simp only [Act.put, List.setIfInBounds_toArray, List.set_cons_zero, List.set_cons_succ]
      refine wpX_one (i := 3) rfl (by kernel_rfl) rfl ?_
      intro K hK
      go_simp
      go_at_call 10
      refine (a2At_any a1 n1 c1 0 6 _ rfl rfl HN1.out HX1.out (HR1.out _ (B2.out.trans ((Below.refl W2.heap.size W2).drew.mono B2.out.size))) HB1.out (by decide) (by decide) (by decide)).mono ?_
      rintro e w3 ⟨y, rfl, hy, rfl⟩
      have r1 : IntKind.i64.wrap (1 + (y : Int)) = ((y + 1 : Nat) : Int) := by rw [IntWalk.i64_in _ (by omega)]; omega
      refine hK _ _ hC ?_
      clear hK K
      try simp only [Act.put, List.setIfInBounds_toArray, List.set_cons_zero, List.set_cons_succ]
      refine wpX_free (i := 4) (v := ?_) rfl (by kernel_rfl) (fun _ _ _ h => h) rfl (fun w' => ?_) ?_
      rotate_left
      · go_simp; try with_reducible rfl
      try simp only [Act.put, List.setIfInBounds_toArray, List.set_cons_zero, List.set_cons_succ]
      refine wpX_rest (t := [5, 6]) (l := [_, _]) rfl (by kernel_rfl) (by kernel_rfl) ?_
      clear hC
      go_wp2_with fail
      refine (A2Draws_any a1 n1 c1 m t (y + 1) _ rfl (by have := h40.out; omega) HX1.out (HR1.out _ (B2.out.trans ((Below.refl W2.heap.size W2).drew.mono B2.out.size))) HB1.out ht1' (by omega)).mono ?_
      rintro e w3 ⟨u, ds, rfl, hdb, hdl, o3, b3⟩
      have b3 : Below W2.heap.size W2 w3 := (Below.refl W2.heap.size W2).drew.trans b3
      have o3 : OwnI w3 W2.heap.size u ds := o3
      have HDB := Lib.hid hdb
      have SD := Lib.hid (fun W (h : Below w3.heap.size w3 W) => o3.sl.below h)
      have B3 := Lib.hid b3
      obtain ⟨da, dc, rfl, hdc, hdc2, _⟩ := id o3.sl
      unfold maxLen at hdc2
      have hdl6 : ds.length ≤ 6 := by omega
      have own0 := Lib.hid (OwnI.empty w3 (base := w3.heap.size) (Nat.le_refl _))
      have b30 := Lib.hid ((Below.refl w3.heap.size w3).alloc (Nat.le_refl _) (.cells #[] 2))
      have hdl1 : 1 ≤ ds.length := by omega
      clear hdb o3 b3 hdl
      go_wp2
      go_loopw [7, 8] (fun tv k wr => ∃ q : Nat, q ≤ ds.length ∧ k = .int .i64 ((q : Int) - 1) ∧ OwnI wr w3.heap.size tv (ds.drop q).reverse ∧ Below w3.heap.size w3 wr) (fun _ k _ => (intOf k + 1).toNat)
      case atStart => exact ⟨ds.length, Nat.le_refl _, rfl, by simpa using own0.out, b30.out⟩
      case round =>
        clear own0 b30
        obtain ⟨q, hq, rfl, hown, hbr⟩ := hrel
        have HO := Lib.hid hown
        have HBR := Lib.hid hbr
        have hlr : (ds.drop q).reverse.length ≤ 6 := by rw [List.length_reverse, List.length_drop]; omega
        have hzr : w3.heap.size ≤ wr.heap.size := hbr.size
        clear hown hbr
        by_cases hq0 : 0 < q
        · obtain ⟨q, rfl⟩ : ∃ j, q = j + 1 := ⟨q - 1, by omega⟩
          have e0 : ((q + 1 : Nat) : Int) - 1 = (q : Int) := by omega
          simp only [e0]
          have hql : q < ds.length := by omega
          have i0 : (0 : Int) ≤ (q : Int) := by omega
          have i1 : (q : Int) < (ds.length : Int) := by omega
          obtain ⟨_, _, he, _, _, rd⟩ := SD.out _ HBR.out
          simp only [Value.slice.injEq] at he
          obtain ⟨rfl, _, rfl⟩ := he
          obtain ⟨db, doff, rfl, gd⟩ := rd.one (i64s_get hql)
          have hdr : (ds.drop q).reverse = (ds.drop (q + 1)).reverse ++ [ds[q]] := by rw [List.drop_eq_getElem_cons hql, List.reverse_cons]
          generalize ds[q] = d at gd hdr
          have HDR := Lib.hid hdr
          clear hdr rd e0
          go_wp2_with (at_builtin; refine append_i64 _ d _ _ rfl rfl rfl HO.out rfl (by omega) hzr ?_)
          intro v5 w5 o5 b5 z5
          have hb5 : Below w3.heap.size w3 w5 := (HBR.out.alloc hzr _).trans b5
          clear b5
          go_wp2
          go_roundw
          case rel => exact ⟨q, by omega, rfl, by rw [HDR.out]; exact o5, hb5⟩
          case measure => simp [intOf]
        · obtain rfl : q = 0 := by omega
          have HO0 := Lib.hid (show OwnI wr w3.heap.size u7 ds.reverse by have := HO.out; simpa using this)
          clear HO hlr hq0 hq
          obtain ⟨ta, tc, rfl, htc, htc2, _⟩ := id HO0.out.sl
          unfold maxLen at htc2
          rw [List.length_reverse] at htc ⊢
          have hb2 : Below W2.heap.size W2 wr := B3.out.trans (HBR.out.mono B3.out.size)
          obtain ⟨k0, k1, k2⟩ := CH.out _ hb2
          have B4 := Lib.hid hb2
          have ST := Lib.hid (fun W (h : Below wr.heap.size wr W) => (show SlI W (.slice ta ds.length tc) ds.reverse from by have := HO0.out.sl.below h; rw [List.length_reverse] at this; exact this))
          have SD4 := Lib.hid (fun W (h : Below wr.heap.size wr W) => (SD.out _ HBR.out).below h)
          have HL := Lib.hid (winByR_in HCH.out HDB.out (by omega))
          have HLL := Lib.hid (runAll_length xss xss.length ds)
          obtain ⟨L, hL⟩ : ∃ L, L = runAll xss ds xss.length := ⟨_, rfl⟩
          have HLE := Lib.hid hL
          rw [← hL] at HL HLL
          clear hL hb2 HBR
          obtain ⟨wo, hwo⟩ : ∃ wo : World, wo = wr := ⟨_, rfl⟩
          subst hwo
          go_wp2_with fail
          refine (ImplWindowByDraws_any m t _ (HA.out _ B4.out) (SD4.out _ (Below.refl _ _))).mono ?_
          rintro e w5 ⟨rfl, b5⟩
          rw [HL.out, show tup3 (winMet L, winState L, 0) = .tuple #[.bool (winMet L), .int .i64 (winState L), .int .i64 0] from rfl]
          generalize hM : winMet L = M
          generalize hSt : winState L = st
          have HM := Lib.hid hM
          have HSt := Lib.hid hSt
          have B5 := Lib.hid b5
          clear hM hSt b5 k0 k1 k2
          go_wp2
          go_loopw [12, 13, 14, 15, 16, 17] (fun sm en tt _ _ _ wr => ∃ (k : Nat) (S : Bool) (E : Int), k ≤ m ∧ tt = .int .i64 k ∧ sm = .bool S ∧ en = .int .i64 E ∧ Hid (S = allAs (L.take k)) ∧ Hid (E = endL L k) ∧ Below wo.heap.size wo wr) (fun _ _ tt _ _ _ _ => m - (intOf tt).toNat)
          case atStart => exact ⟨0, true, -1, Nat.zero_le _, rfl, rfl, rfl, Lib.hid rfl, Lib.hid rfl, B5.out⟩
          case round =>
            obtain ⟨k, S, E, hk, rfl, rfl, rfl, hS, hE, hbr⟩ := hrel
            have hb2 : Below W2.heap.size W2 wr := B4.out.trans (hbr.mono B4.out.size)
            obtain ⟨k0, k1, k2⟩ := CH.out _ hb2
            have HBR := Lib.hid hbr
            have HB2 := Lib.hid hb2
            clear hbr hb2
            by_cases hkm : k < m
            · have i0 : (k : Int) < (m : Int) := by omega
              go_wp2_with fail
              refine (ImplRunByDraws_any m t k _ (HA.out _ HB2.out) (ST.out _ HBR.out) HCH.out (by have := HMX.out; omega) (fun d hd => HDB.out d (List.mem_reverse.1 hd)) (by rw [List.length_reverse]; omega)).mono ?_
              rintro e w6 ⟨ru, rfl, o6, b6⟩
              have hRl : (runN xss (k : Int) ds.reverse ds.reverse.length).length = ds.length + 1 := by rw [runN_len, List.length_reverse]
              have hRe : (runN xss (k : Int) ds.reverse ds.reverse.length).getD ds.length 0 = L.getD k 0 := by
                have := run_end xss ds xss.length (x := k) (by have := HMX.out; omega)
                rw [List.length_reverse, ← HLE.out] at this
                rw [List.length_reverse]
                exact this
              generalize runN xss (k : Int) ds.reverse ds.reverse.length = R at o6 hRl hRe
              obtain ⟨ra, rc, rfl, hrc, hrc2, rl⟩ := id o6.sl
              unfold maxLen at hrc2
              have hRi : ds.length < R.length := by omega
              obtain ⟨rb, ro, rfl, gl⟩ := rl.one (i64s_get hRi)
              rw [← gD_at (d := 0) hRi, hRe] at gl
              rw [hRl] at hrc ⊢
              have hkL : k < L.length := by have := HLL.out; have := HMX.out; omega
              have HSS := Lib.hid (fun h => same_step (L := L) hkL h)
              have HGD := Lib.hid (gD_at (d := 0) hkL)
              have HE2 := Lib.hid (show L.getD k 0 = endL L (k + 1) by unfold endL; rw [if_neg (by omega)]; rfl)
              generalize L.getD k 0 = LV at gl HE2 HGD
              have HB6 := Lib.hid (HBR.out.trans (b6.mono HBR.out.size))
              have r2 : IntKind.i64.wrap (((ds.length + 1 : Nat) : Int) - 1) = (ds.length : Int) := by rw [IntWalk.i64_in _ (by omega)]; omega
              have r3 : IntKind.i64.wrap ((ds.length : Int) + 1) = ((ds.length + 1 : Nat) : Int) := by rw [IntWalk.i64_in _ (by omega)]; omega
              have i5 : (0 : Int) ≤ (ds.length : Int) := by omega
              have i6 : (ds.length : Int) < ((ds.length + 1 : Nat) : Int) := by omega
              have i6' : (ds.length : Int) < (ds.length : Int) + 1 := by omega
              clear hRl hRe o6 b6 rl hRi k0 k1 k2
              by_cases hk0 : k = 0
              · have hEv : E = -1 := by rw [hE.out, hk0]; rfl
                have hSv : S = true := by rw [hS.out, hk0]; rfl
                subst hEv hSv
                have HK := Lib.hid hk0
                have t1 : ((-1 : Int) == -1) = true := rfl
                clear hk0
                go_wp2
                go_roundw
                case rel => exact ⟨k + 1, true, LV, by omega, by go_num, rfl, rfl, Lib.hid (by rw [HK.out]; exact (same_first (by rw [HK.out] at hkL; exact hkL)).symm), HE2.out, HB6.out⟩
                case measure => simp [intOf]; omega
              · have hst := HSS.out (by omega)
                have her := endL_range HCH.out HDB.out (k := k) (by omega) (by have := HMX.out; omega)
                rw [← HLE.out, ← hE.out] at her
                have t1 : (E == (-1 : Int)) = false := by rw [beq_eq_false_iff_ne]; omega
                rw [← hS.out, ← hE.out, ← HGD.out] at hst
                have HST := Lib.hid hst
                clear hst her hk0
                cases S
                · skip
                  go_wp2
                  go_roundw
                  case rel => exact ⟨k + 1, false, LV, by omega, by go_num, rfl, rfl, Lib.hid (by rw [HST.out]; rfl), HE2.out, HB6.out⟩
                  case measure => simp [intOf]; omega
                · by_cases hel : E = LV
                  · have t2 : (E == LV) = true := by rw [beq_iff_eq]; exact hel
                    have HEL := Lib.hid hel
                    clear hel
                    go_wp2
                    go_roundw
                    case rel => exact ⟨k + 1, true, LV, by omega, by go_num, rfl, rfl, Lib.hid (by rw [HST.out, HEL.out]; simp), HE2.out, HB6.out⟩
                    case measure => simp [intOf]; omega
                  · have t2 : (E == LV) = false := by rw [beq_eq_false_iff_ne]; exact hel
                    have HEL := Lib.hid hel
                    clear hel
                    go_wp2
                    go_roundw
                    case rel => exact ⟨k + 1, false, LV, by omega, by go_num, rfl, rfl, Lib.hid (by rw [HST.out]; simp [HEL.out]), HE2.out, HB6.out⟩
                    case measure => simp [intOf]; omega
            · obtain rfl : k = m := by omega
              have hLk : L.length = k := by have := HLL.out; have := HMX.out; omega
              have hSM : S = M := by rw [hS.out, ← hLk, List.take_length]; exact HM.out
              subst hSM
              have hst : S = true → st = E := fun h => by
                rw [hE.out, ← hLk, ← HSt.out]
                exact same_last (by omega) (by have := HM.out; rw [h] at this; exact this)
              have hst2 : S = false → st = 0 := fun h => by
                rw [← HSt.out]; unfold winState
                have : allAs L = false := by have := HM.out; rw [h] at this; exact this
                rw [this]; rfl
              have HLK := Lib.hid hLk
              clear hLk hS hE
              have hsb : (S != S) = false := by cases S <;> rfl
              cases S
              all_goals
                first
                  | (obtain rfl := hst2 rfl)
                  | (obtain rfl := hst rfl)
                clear hst hst2
                go_wp2_with fail
                have CW := Lib.hid (fun W (h : Below wr.heap.size wr W) => CH.out W (HB2.out.trans (h.mono HB2.out.size)))
                have SDW := Lib.hid (fun W (h : Below wr.heap.size wr W) => SD4.out W (HBR.out.trans (h.mono HBR.out.size)))
                have own0 := Lib.hid (OwnI.empty wr.drew (base := wr.heap.size) (Nat.le_refl _))
                refine wpX_start (fun W => W.cell? ⟨w1.heap.size, 0, none⟩ = some (.int .i64 k) ∧ W.cell? ⟨w1.heap.size, 1, none⟩ = some (.int .i64 t) ∧ W.cell? ⟨w1.heap.size, 2, none⟩ = some (.slice va k vc)) [] (by kernel_rfl) ?_
                have hC := CW.out wr.drew (by (repeat (first | exact Below.refl _ _ | refine Below.drew ?_ | refine Below.alloc ?_ (by simp) _)))
                refine wpX_load (i := 0) (v := ?_) rfl (by kernel_rfl) (fun _ _ _ h => h) hC rfl (fun w' hw' => ?_) ?_
                rotate_left
                · obtain ⟨k1, k2, k3⟩ := hw'; go_simp; try with_reducible rfl
                try simp only [Act.put, List.setIfInBounds_toArray, List.set_cons_zero, List.set_cons_succ]
                refine wpX_free (i := 2) (v := ?_) rfl (by kernel_rfl) (fun _ _ _ h => h) rfl (fun w' => ?_) ?_
                rotate_left
                · go_simp; try with_reducible rfl
                try simp only [Act.put, List.setIfInBounds_toArray, List.set_cons_zero, List.set_cons_succ]
                refine wpX_free (i := 4) (v := ?_) rfl (by kernel_rfl) (fun _ _ _ h => h) rfl (fun w' => ?_) ?_
                rotate_left
                · go_simp; try with_reducible rfl
                try simp only [Act.put, List.setIfInBounds_toArray, List.set_cons_zero, List.set_cons_succ]
                refine wpX_load (i := 5) (v := ?_) rfl (by kernel_rfl) (fun _ _ _ h => h) hC rfl (fun w' hw' => ?_) ?_
                rotate_left
                · obtain ⟨k1, k2, k3⟩ := hw'; go_simp; try with_reducible rfl
                try simp only [Act.put, List.setIfInBounds_toArray, List.set_cons_zero, List.set_cons_succ]
                refine wpX_one (i := 1) rfl (by kernel_rfl) rfl ?_
                intro K hK
                go_simp
                refine hK _ _ (CW.out _ (by (repeat (first | exact Below.refl _ _ | refine Below.drew ?_ | refine Below.alloc ?_ (by simp) _)))) ?_
                clear hK K
                try simp only [Act.put, List.setIfInBounds_toArray, List.set_cons_zero, List.set_cons_succ]
                refine wpX_one (i := 3) rfl (by kernel_rfl) rfl ?_
                intro K hK
                have hbA : Below wr.heap.size wr (wr.alloc (.cells #[] 2)).drew := (by (repeat (first | exact Below.refl _ _ | refine Below.drew ?_ | refine Below.alloc ?_ (by simp) _)))
                refine Flat.wpApp FI (wr.alloc (.cells #[] 2)).drew (.tmp 132) (.tmp 133) rfl (base := wr.heap.size) (xs := []) (ys := ds) (v := .slice (some ⟨wr.heap.size, 0, none⟩) 0 0) rfl (by rw [FI_own]; exact own0.out) rfl (by rw [FI_encs]; exact (SDW.out _ hbA).rdE) (by simp; omega) hbA.size ?_
                intro v6 w6 o6 g6
                rw [FI_own] at o6
                have o6 : OwnI w6 wr.heap.size v6 ds := o6
                have b6 : Below wr.heap.size wr w6 := hbA.trans ((Below.refl _ _).grown g6 hbA.size (fun k hk => by simp [Value.ownBlock] at hk; omega))
                have B6 := Lib.hid b6
                have O6 := Lib.hid o6
                refine hK _ _ (CW.out _ b6) ?_
                clear hK K o6 b6 g6 hbA own0
                try simp only [Act.put, List.setIfInBounds_toArray, List.set_cons_zero, List.set_cons_succ]
                refine wpX_one (i := 6) rfl (by kernel_rfl) rfl ?_
                intro K hK
                go_simp
                go_at_call 9
                refine (A2Draws_any a0 n0 c0 k t 3 _ rfl (by have := h40.out; omega) HX.out (HR.out _ (B2.out.trans ((HB2.out.trans (B6.out.mono HB2.out.size)).mono B2.out.size))) HB.out ht1' (by decide)).mono ?_
                rintro e w7 ⟨ev, es, rfl, heb, hel, o7, b7⟩
                have HEB := Lib.hid heb
                have HEL := Lib.hid hel
                have O7 := Lib.hid o7
                have O67 := Lib.hid (O6.out.below b7)
                have B7 := Lib.hid (B6.out.trans (b7.mono B6.out.size))
                have hZ7 : w6.heap.size ≤ w7.heap.size := b7.size
                refine hK _ _ (CW.out _ B7.out) ?_
                clear hK K o7 b7 heb hel O6
                try simp only [Act.put, List.setIfInBounds_toArray, List.set_cons_zero, List.set_cons_succ]
                obtain ⟨ea, ec, rfl, hec, hec2, _⟩ := id O7.out.sl
                refine wpX_one (i := 7) rfl (by kernel_rfl) rfl ?_
                intro K hK
                refine Flat.wpApp FI w7 (.tmp 134) (.tmp 137) rfl (base := wr.heap.size) (xs := ds) (ys := es) (v := v6) rfl (by rw [FI_own]; exact O67.out) rfl (by rw [FI_encs]; exact O7.out.sl.rdE) (by have := HEL.out; omega) B7.out.size ?_
                intro v8 w8 o8 g8
                rw [FI_own] at o8
                obtain ⟨zs, hzs⟩ : ∃ zs, zs = ds ++ es := ⟨_, rfl⟩
                rw [← hzs] at o8
                have b8 : Below wr.heap.size wr w8 := B7.out.trans ((Below.refl _ _).grown g8 B7.out.size (fun k hk => (O67.out.lt k hk).1))
                have B8 := Lib.hid b8
                have O8 := Lib.hid o8
                refine hK _ _ (CW.out _ b8) ?_
                clear hK K o8 b8 g8
                try simp only [Act.put, List.setIfInBounds_toArray, List.set_cons_zero, List.set_cons_succ]
                obtain ⟨pa, pc, rfl, hpc, hpc2, _⟩ := id O8.out.sl
                have HL2 := Lib.hid (winByR_in HCH.out (ds := zs) (fun d hd => by rw [hzs] at hd; exact (List.mem_append.1 hd).elim (HDB.out d) (HEB.out d)) (by rw [hzs, List.length_append, HEL.out]; omega))
                have HML := Lib.hid (fun h => met_longer HCH.out (a := ds) (b := es) HEB.out h)
                rw [← hzs, ← HLE.out] at HML
                clear hzs
                refine wpX_one (i := 8) rfl (by kernel_rfl) rfl ?_
                intro K hK
                go_simp
                go_at_call 11
                refine (ImplWindowByDraws_any k t _ (HA.out _ (HB2.out.trans (B8.out.mono HB2.out.size))) O8.out.sl).mono ?_
                rintro e w9 ⟨he, b9⟩
                rw [HL2.out] at he
                have B9 := Lib.hid (B8.out.trans (b9.mono B8.out.size))
                have hML := HML.out
                generalize hM2 : winMet (runAll xss zs xss.length) = M2 at hML he
                generalize hS2 : winState (runAll xss zs xss.length) = S2 at hML he
                have HML2 := Lib.hid hML
                rw [show tup3 (M2, S2, 0) = .tuple #[.bool M2, .int .i64 S2, .int .i64 0] from rfl] at he
                subst he
                refine hK _ _ (CW.out _ B9.out) ?_
                clear hK K b9 hM2 hS2 hML HML HL2
                try simp only [Act.put, List.setIfInBounds_toArray, List.set_cons_zero, List.set_cons_succ]
                refine wpX_free (i := 9) (v := ?_) rfl (by kernel_rfl) (fun _ _ _ h => h) rfl (fun w' => ?_) ?_
                rotate_left
                · go_simp; try with_reducible rfl
                try simp only [Act.put, List.setIfInBounds_toArray, List.set_cons_zero, List.set_cons_succ]
                refine wpX_free (i := 10) (v := ?_) rfl (by kernel_rfl) (fun _ _ _ h => h) rfl (fun w' => ?_) ?_
                rotate_left
                · go_simp; try with_reducible rfl
                try simp only [Act.put, List.setIfInBounds_toArray, List.set_cons_zero, List.set_cons_succ]
                refine wpX_free (i := 11) (v := ?_) rfl (by kernel_rfl) (fun _ _ _ h => h) rfl (fun w' => ?_) ?_
                rotate_left
                · go_simp; try with_reducible rfl
                try simp only [Act.put, List.setIfInBounds_toArray, List.set_cons_zero, List.set_cons_succ]
                refine wpX_free (i := 12) (v := ?_) rfl (by kernel_rfl) (fun _ _ _ h => h) rfl (fun w' => ?_) ?_
                rotate_left
                · go_simp; try with_reducible rfl
                try simp only [Act.put, List.setIfInBounds_toArray, List.set_cons_zero, List.set_cons_succ]
                refine wpX_free (i := 13) (v := ?_) rfl (by kernel_rfl) (fun _ _ _ h => h) rfl (fun w' => ?_) ?_
                rotate_left
                · go_simp; try with_reducible rfl
                try simp only [Act.put, List.setIfInBounds_toArray, List.set_cons_zero, List.set_cons_succ]
                refine wpX_free (i := 14) (v := ?_) rfl (by kernel_rfl) (fun _ _ _ h => h) rfl (fun w' => ?_) ?_
                rotate_left
                · go_simp; try with_reducible rfl
                try simp only [Act.put, List.setIfInBounds_toArray, List.set_cons_zero, List.set_cons_succ]
                refine wpX_free (i := 15) (v := ?_) rfl (by kernel_rfl) (fun _ _ _ h => h) rfl (fun w' => ?_) ?_
                rotate_left
                · go_simp; try with_reducible rfl
                try simp only [Act.put, List.setIfInBounds_toArray, List.set_cons_zero, List.set_cons_succ]
                refine wpX_rest (t := []) (l := []) rfl (by kernel_rfl) (by kernel_rfl) ?_
                clear hC
                have HR9 := Lib.hid (fun W (h : Below w9.heap.size w9 W) => HR.out W (B2.out.trans ((HB2.out.trans ((B9.out.trans (h.mono B9.out.size)).mono HB2.out.size)).mono B2.out.size)))
                have HA9 := Lib.hid (fun W (h : Below w9.heap.size w9 W) => HA.out W (HB2.out.trans ((B9.out.trans (h.mono B9.out.size)).mono HB2.out.size)))
                have CW9 := Lib.hid (fun W (h : Below w9.heap.size w9 W) => CW.out W (B9.out.trans (h.mono B9.out.size)))
                have BW9 := Lib.hid (fun W (h : Below w9.heap.size w9 W) => show Below w.heap.size w W from B2.out.trans ((HB2.out.trans ((B9.out.trans (h.mono B9.out.size)).mono HB2.out.size)).mono B2.out.size))
                first
                  | (obtain ⟨hm2, hs2⟩ := HML2.out HM.out
                     subst hm2
                     rw [HSt.out] at hs2
                     subst hs2
                     have hee : (S2 != S2) = false := by simp)
                  | skip
                clear HML2 HLE
                obtain ⟨k0, k1, k2⟩ := CW9.out _ (Below.refl _ _)
                go_wp2_with fail
                refine (a2At_any a0 n0 c0 0 256 _ rfl rfl HN0.out HX.out (HR9.out _ (Below.refl _ _)) HB.out (by decide) (by decide) (by decide)).mono ?_
                rintro e w10 ⟨y1, rfl, hy1, rfl⟩
                go_wp2_with fail
                refine (a2At_any a0 n0 c0 1 100 _ rfl rfl HN0.out HX.out (HR9.out _ (Below.refl _ _)) HB.out (by decide) (by decide) (by decide)).mono ?_
                rintro e w10 ⟨y2, rfl, hy2, rfl⟩
                obtain ⟨sd, hsd⟩ : ∃ sd : Int, sd = (y1 : Int) * 100 + (y2 : Int) := ⟨_, rfl⟩
                have r4 : IntKind.i64.wrap ((y1 : Int) * 100) = (y1 : Int) * 100 := IntWalk.i64_in _ (by omega)
                have r5 : IntKind.i64.wrap ((y1 : Int) * 100 + (y2 : Int)) = sd := by rw [IntWalk.i64_in _ (by omega)]; exact hsd.symm
                have hsd0 : 0 ≤ sd := by omega
                have hsd1 : sd ≤ 1000000000 := by omega
                clear hsd
                go_wp2_with fail
                obtain ⟨X, K, C4, hsm, hfacts⟩ := smp_law HCH.out (seed := sd) (inR_iff.2 ⟨hsd0, hsd1⟩)
                refine (ImplSampleOf_any k t sd _ (HA9.out _ (Below.refl _ _))).mono ?_
                rintro e w10 ⟨he, b10⟩
                rw [hsm, show itup3 (X, K, C4) = .tuple #[.int .i64 X, .int .i64 K, .int .i64 C4] from rfl] at he
                subst he
                have HA10 := Lib.hid (fun W (h : Below w10.heap.size w10 W) => HA9.out W (b10.trans (h.mono b10.size)))
                have CW10 := Lib.hid (fun W (h : Below w10.heap.size w10 W) => CW9.out W (b10.trans (h.mono b10.size)))
                have BW10 := Lib.hid (fun W (h : Below w10.heap.size w10 W) => BW9.out W (b10.trans (h.mono b10.size)))
                clear hsm b10 HA9 CW9 BW9 k0 k1 k2 HR9 HA CW CH
                rcases hfacts with ⟨rfl, hK0, hK6, hfx⟩ | ⟨rfl, hfx⟩
                all_goals
                  have HFX := Lib.hid hfx
                  clear hfx
                  go_wp2
                  go_loopw [25] (fun kk wr => ∃ j : Nat, j ≤ 7 ∧ kk = .int .i64 j ∧ Below w10.heap.size w10 wr) (fun kk _ => 7 - (intOf kk).toNat)
                  case atStart => exact ⟨0, by omega, rfl, Below.refl _ _⟩
                  case round =>
                    obtain ⟨j, hj, rfl, hbw⟩ := hrel
                    have HBW := Lib.hid hbw
                    by_cases hj7 : j < 7
                    · obtain ⟨k0, k1, k2⟩ := CW10.out _ hbw
                      have i7 : (j : Int) < 7 := by omega
                      have i0 : (0 : Int) ≤ (j : Int) := by omega
                      go_wp2_with fail
                      obtain ⟨hcj, hcj2⟩ := shlJ hj7
                      rw [hcj]
                      have HDO := Lib.hid (drawsOf_ok (n := 2 ^ j) ⟨hsd0, hsd1⟩ (t := (t : Int)) (by omega) hcj2)
                      generalize ((2 ^ j : Nat) : Int) = cj at HDO ⊢
                      have HM1 := Lib.hid (winOf_in (k := j) HCH.out ⟨hsd0, hsd1⟩ hj7)
                      have HM2 := Lib.hid (winBy_lvl (seed := sd) (k := j) HCH.out hj7)
                      have hfx := HFX.out j hj7
                      generalize hMM : winMet (lvlRun t xss sd j) = MM at HM1 HM2 hfx
                      generalize hSS : winState (lvlRun t xss sd j) = SS at HM1 HM2 hfx
                      generalize drawsL sd t (2 ^ j) = DL at HDO HM2
                      have HFJ := Lib.hid hfx
                      clear hcj hcj2 hfx hMM hSS
                      refine (ImplDrawsOf_any sd t cj _).mono ?_
                      rintro e w11 ⟨dv, he, o11, b11⟩
                      rw [HDO.out] at he o11
                      subst he
                      have B11 := Lib.hid (HBW.out.trans (b11.mono HBW.out.size))
                      have O11 := Lib.hid (show SlI w11 dv DL from o11.sl)
                      obtain ⟨dva, dvc, rfl, _, _, _⟩ := id O11.out
                      obtain ⟨y0, y1, y2⟩ := CW10.out _ B11.out
                      clear k0 k1 k2 o11 b11
                      go_wp2_with fail
                      refine (ImplWindowOf_any k t sd j _ (HA10.out _ B11.out)).mono ?_
                      rintro e w12 ⟨he, b12⟩
                      rw [HM1.out, show tup3 (MM, SS, 0) = .tuple #[.bool MM, .int .i64 SS, .int .i64 0] from rfl] at he
                      subst he
                      have B12 := Lib.hid (B11.out.trans (b12.mono B11.out.size))
                      have O12 := Lib.hid (O11.out.below b12)
                      obtain ⟨k0, k1, k2⟩ := CW10.out _ B12.out
                      clear y0 y1 y2 b12
                      go_wp2_with fail
                      refine (ImplWindowByDraws_any k t _ (HA10.out _ B12.out) O12.out).mono ?_
                      rintro e w13 ⟨he, b13⟩
                      rw [HM2.out, show tup3 (MM, SS, 0) = .tuple #[.bool MM, .int .i64 SS, .int .i64 0] from rfl] at he
                      subst he
                      have B13 := Lib.hid (B12.out.trans (b13.mono B12.out.size))
                      have t1 : (MM != MM) = false := by cases MM <;> rfl
                      have t2 : (SS != SS) = false := by simp
                      clear k0 k1 k2 b13 hbw
                      have hfj := HFJ.out
                      first
                        | (have hm : MM = false := hfj
                           subst hm
                           clear hfj
                           go_wp2
                           go_roundw
                           case rel => exact ⟨j + 1, by omega, by go_num, B13.out⟩
                           case measure => simp [intOf]; omega)
                        | (obtain ⟨hf1, hf2⟩ := hfj
                           by_cases hjK : (j : Int) < K
                           · obtain rfl := hf1 hjK
                             clear hf1 hf2
                             have i8 : ¬ K ≤ (j : Int) := by omega
                             go_wp2
                             go_roundw
                             case rel => exact ⟨j + 1, by omega, by go_num, B13.out⟩
                             case measure => simp [intOf]; omega
                           · have i8 : K ≤ (j : Int) := by omega
                             obtain ⟨rfl, rfl⟩ := hf2 i8
                             clear hf1 hf2
                             go_wp2
                             go_roundw
                             case rel => exact ⟨j + 1, by omega, by go_num, B13.out⟩
                             case measure => simp [intOf]; omega)
                    · have i7 : ¬ (j : Int) < 7 := by omega
                      go_wp2
                      go_ret
                      exact ⟨rfl, BW10.out _ hbw⟩
end Go.Proofs.Ytghdginjdolgpaa
