/-
  FnClasses: the law answers true for all texts of bytes.
-/
import Derived.Test.YtghdginjdolgpaaZRowFnClasses14
import Derived.Test.YtghdginjdolgpaaZRowFnClasses13
import Derived.Test.YtghdginjdolgpaaZRowFnClasses6
set_option linter.unusedVariables false
set_option linter.unusedSimpArgs false
namespace Go.Proofs.Ytghdginjdolgpaa
open Go.RowKit Go.Sort
set_option maxRecDepth 100000 in
set_option maxHeartbeats 16000000 in
theorem FnClasses_walk {xs ys : List Int} (a0 a1 : Option Addr) (n0 n1 c0 c1 : Nat) (w : World) (hn0 : n0 ≤ maxLen) (hn1 : n1 ≤ maxLen) (hx : xs.length = n0) (hr : Rd w a0 (xs.map (.int .u8))) (hb : ∀ x ∈ xs, 0 ≤ x ∧ x < 256)
    (hx1 : ys.length = n1) (hr1 : Rd w a1 (ys.map (.int .u8))) (hb1 : ∀ x ∈ ys, 0 ≤ x ∧ x < 256) :
    Calls Try.prog 6 #[.slice a0 n0 c0, .slice a1 n1 c1] w fun e w' => e = .returned (.bool true) ∧ Below w.heap.size w w' := by
  have HR := Lib.hid (fun W (h : Below w.heap.size w W) => hr.below h)
  have HB := Lib.hid hb
  have HX := Lib.hid hx
  have HR1 := Lib.hid (fun W (h : Below w.heap.size w W) => hr1.below h)
  have HB1 := Lib.hid hb1
  have HX1 := Lib.hid hx1
  have HN0 := Lib.hid hn0
  have HN1 := Lib.hid hn1
  clear hr hb hx hr1 hb1 hx1 hn0 hn1
  generalize hd : a2L n0 n1 = d
  have HD := Lib.hid hd
  clear hd
  cases d
  case true =>
    go_enter Try.func6, Try.ntmps6
    go_wp2_with fail
    refine (a2Long_any a0 a1 n0 n1 c0 c1 _ HN0.out HN1.out).mono ?_
    rintro e w1 ⟨rfl, rfl⟩
    rw [HD.out]
    go_wp2
    go_ret
    exact ⟨rfl, Below.refl _ _⟩
  case false =>
      have h40 := Lib.hid (show n0 ≤ 3000 ∧ n1 ≤ 3000 by have := HD.out; unfold a2L at this; rw [decide_eq_false_iff_not] at this; omega)
      go_enter Try.func6, Try.ntmps6
      go_wp2_with fail
      refine (a2Long_any a0 a1 n0 n1 c0 c1 _ HN0.out HN1.out).mono ?_
      rintro e w1 ⟨rfl, rfl⟩
      rw [HD.out]
      go_wp2_with fail
      refine (A2Chain_any a0 n0 c0 _ (by have := h40.out; omega) HX.out (HR.out _ (Below.refl _ _)) HB.out).mono ?_
      rintro e w1 ⟨m, t, v, xss, rfl, hm5, hch, o1, b1⟩
      have HCH := Lib.hid hch
      obtain ⟨⟨hm1, hm2⟩, ⟨ht1, ht2⟩, hml, _⟩ := chainOk_parts0 hch
      have S1 := Lib.hid o1.sl
      obtain ⟨va, vn, vc, rfl, hvn⟩ := o1.formJ
      have hmx : xss.length = m := by omega
      rw [hvn.out, hmx] at S1
      rw [hvn.out, hmx]
      obtain ⟨W2, hW2⟩ : ∃ W2, W2 = w1.alloc (.cells #[.int .i64 m, .int .i64 t, .slice va m vc] 26) := ⟨_, rfl⟩
      have b2 : Below w1.heap.size w1 W2 := by rw [hW2]; exact (Below.refl _ _).alloc (Nat.le_refl _) _
      have X2 := Lib.hid (show ChainAt W2 w1.heap.size 0 m t (.slice va m vc) by rw [hW2]; exact chBox w1 m t _)
      have HA := Lib.hid (fun W (h : Below W2.heap.size W2 W) => (S1.out.below b2).below h)
      have CH := Lib.hid (show ∀ W, Below W2.heap.size W2 W → W.cell? ⟨w1.heap.size, 0, none⟩ = some (.int .i64 m) ∧ W.cell? ⟨w1.heap.size, 1, none⟩ = some (.int .i64 t) ∧ W.cell? ⟨w1.heap.size, 2, none⟩ = some (.slice va m vc) from fun W h => by
        obtain ⟨_, p0, p1, p2⟩ := X2.out.below h
        simp only [Nat.zero_add] at p0 p1 p2
        exact ⟨p0, p1, p2⟩)
      have B2 := Lib.hid (b1.trans (b2.mono b1.size))
      have HW2 := Lib.hid hW2
      have HMX := Lib.hid hmx
      have hm1' : 1 ≤ m := by omega
      have ht1' : 1 ≤ t := by omega
      have ht2' : t ≤ 60 := by omega
      clear b1 b2 hch o1 hW2 hml hvn hmx hm1 hm2 ht1 ht2
      obtain ⟨_, k0, k1, k2⟩ := X2.out
      simp only [Nat.zero_add] at k0 k1 k2
      go_wp2_with fail
      rw [← HW2.out]
      refine (ClassesOf_any m _ (HA.out _ (Below.refl _ _)) HCH.out).mono ?_
      rintro e w3 ⟨cv, cs, nx, rfl, hcl, hI, o3, b3⟩
      have B3 := Lib.hid b3
      have O3 := Lib.hid o3
      have HI := Lib.hid hI
      have HCL := Lib.hid hcl
      obtain ⟨k0, k1, k2⟩ := CH.out _ b3
      clear hI o3 b3
      go_wp2_with fail
      refine (ClosedClasses_any m _ (HA.out _ B3.out) HCH.out).mono ?_
      rintro e w4 ⟨ev, rfl, o4, b4⟩
      have B4 := Lib.hid (B3.out.trans (b4.mono B3.out.size))
      have O4 := Lib.hid o4
      have O34 := Lib.hid (O3.out.below b4)
      obtain ⟨k0, k1, k2⟩ := CH.out _ B4.out
      clear o4 b4 O3
      go_wp2_with fail
      have hcz := conn_zero (by omega) hcl HI.out
      refine (IsConnected_any m _ (HA.out _ B4.out) HCH.out).mono ?_
      rintro e w5 ⟨rfl, b5⟩
      rw [hcz]
      have B5 := Lib.hid (B4.out.trans (b5.mono B4.out.size))
      have SC := Lib.hid (fun W (h : Below w5.heap.size w5 W) => (O34.out.below b5).sl.below h)
      have SE := Lib.hid (fun W (h : Below w5.heap.size w5 W) => (O4.out.below b5).sl.below h)
      have HA5 := Lib.hid (fun W (h : Below w5.heap.size w5 W) => HA.out W (B5.out.trans (h.mono B5.out.size)))
      have CH5 := Lib.hid (fun W (h : Below w5.heap.size w5 W) => CH.out W (B5.out.trans (h.mono B5.out.size)))
      have BW5 := Lib.hid (fun W (h : Below w5.heap.size w5 W) => show Below w.heap.size w W from B2.out.trans ((B5.out.trans (h.mono B5.out.size)).mono B2.out.size))
      have hEp := closedN_pos (xss := xss) (n := m) (by omega)
      obtain ⟨E, hE⟩ : ∃ E, E = closedN xss m m := ⟨_, rfl⟩
      have HEH := Lib.hid (show ∀ (s : Nat), s < m → ∀ (k : Nat) (hk : k < E.length), (s : Int) ∈ E[k] → E[k] = reachL xss m s from by subst hE; exact fun s hs k hk hm => closed_has hs hk hm)
      have HEC := Lib.hid (show ∀ (s : Nat), s < m → cntE E s E.length = if stayB xss m s = true then 1 else 0 from by subst hE; exact fun s hs => cntE_all hs)
      have HEM := Lib.hid (show E.length ≤ m from by rw [hE]; exact closedN_len _ _ _)
      rw [← hE] at SE hEp
      obtain ⟨ca, cc, hcv, hcc, hcc2, _⟩ := SC.out _ (Below.refl _ _)
      subst hcv
      rw [hcl] at SC hcc ⊢
      obtain ⟨ea, ec, es, hev, hec, hec2, _, _, _⟩ := SE.out _ (Below.refl _ _)
      subst hev
      unfold maxLen at hcc2 hec2
      have i1 : (1 : Int) ≤ (E.length : Int) := by omega
      have i1' : ¬ ((E.length : Int) < 1) := by omega
      have hmm : ((m : Int) != (m : Int)) = false := by simp
      have hMX := HMX.out
      obtain ⟨ZR, hZR⟩ : ∃ ZR, ZR = zeroTo cs m := ⟨_, rfl⟩
      rw [← hZR]
      have HZR := Lib.hid hZR
      obtain ⟨k0, k1, k2⟩ := CH5.out _ (Below.refl _ _)
      clear b5 hE hcz hZR hcl hMX O34 O4
      go_wp2
      go_loopw [12, 13] (fun sg sx wr => ∃ (s : Nat) (SG : Bool), s ≤ m ∧ sx = .int .i64 s ∧ sg = .bool SG ∧ Hid (SG = zeroTo cs s) ∧ Below w5.heap.size w5 wr) (fun _ sx _ => m - (intOf sx).toNat)
      case atStart => exact ⟨0, true, Nat.zero_le _, rfl, rfl, Lib.hid rfl, Below.refl _ _⟩
      case round =>
        clear k0 k1 k2
        obtain ⟨s, SG, hs, rfl, rfl, hSG, hbw⟩ := hrel
        have HBW := Lib.hid hbw
        obtain ⟨k0, k1, k2⟩ := CH5.out _ hbw
        by_cases hsm : s < m
        · have j1 : (s : Int) < (m : Int) := by omega
          have j0 : (0 : Int) ≤ (s : Int) := by omega
          go_wp2_with fail
          refine (CanReach_any m s _ (HA5.out _ hbw) HCH.out hsm).mono ?_
          rintro e w6 ⟨rv, rfl, o6, b6⟩
          have B6 := Lib.hid (HBW.out.trans (b6.mono HBW.out.size))
          have SR := Lib.hid (fun W (h : Below w6.heap.size w6 W) => o6.sl.below h)
          obtain ⟨ra, rc, rfl, hrc, hrc2, _⟩ := id o6.sl
          unfold maxLen at hrc2
          clear k0 k1 k2 o6 b6 hbw
          have hscs : s < cs.length := by rw [HCL.out]; exact hsm
          obtain ⟨cb, co, rfl, _, gcs⟩ := (SC.out _ B6.out).at_ hscs
          have hz1 := zeroTo_succ hscs
          rw [← hSG.out] at hz1
          have hss1 : decide ((s : Int) ∈ reachL xss m s) = true := by rw [reachL_has hsm]; exact rB_iff.2 (Rch.refl _ _ _)
          have HAS := Lib.hid (a2Has_any (s : Int) w6 (SR.out _ (Below.refl _ _)))
          rw [hss1] at HAS
          have HEE := Lib.hid (fun t (ht : t < cs.length) => cls_eq HI.out hscs ht)
          have HGS := Lib.hid (gD_at (d := (0 : Int)) hscs)
          generalize hcss : cs[s] = cS at gcs hz1 HEE HGS
          have HCSS := Lib.hid hcss
          have HZ1 := Lib.hid hz1
          clear hz1 hss1 hcss
          obtain ⟨RL, hRL⟩ : ∃ RL, RL = reachL xss m s := ⟨_, rfl⟩
          have HRH := Lib.hid (show ∀ t, t < m → decide ((t : Int) ∈ RL) = rB xss m s t from fun t ht => by rw [hRL]; exact reachL_has ht)
          rw [← hRL] at SR HAS hrc ⊢
          have HRL := Lib.hid hRL
          clear hRL
          go_wp2_with fail
          refine HAS.out.mono ?_
          rintro e w7 ⟨rfl, rfl⟩
          have t0 : (cS == (0 : Int)) = decide (cS = 0) := by by_cases h : cS = 0 <;> simp [h]
          obtain ⟨S2, hS2⟩ : ∃ S2, S2 = zeroTo cs (s + 1) := ⟨_, rfl⟩
          have HS2 := Lib.hid hS2
          rw [← hS2] at HZ1
          clear hS2
          generalize decide (cS = 0) = DZ at t0 HZ1
          have hS2e : S2 = (SG && DZ) := HZ1.out
          subst hS2e
          obtain ⟨k0, k1, k2⟩ := CH5.out _ B6.out
          cases SG
          all_goals
            go_wp2
            go_loopw [16, 17] (fun st tx wq => ∃ (t : Nat) (S3 : Bool), t ≤ m ∧ tx = .int .i64 t ∧ st = .bool S3 ∧ Hid (S3 = stTo (rB xss m s) cs s t) ∧ Below w6.heap.size w6 wq) (fun _ tx _ => m - (intOf tx).toNat)
            case atStart => exact ⟨0, true, Nat.zero_le _, rfl, rfl, Lib.hid rfl, Below.refl _ _⟩
            case round =>
              clear k0 k1 k2
              obtain ⟨t2, S3, ht2, rfl, rfl, hS3, hbq⟩ := hrel
              have HBQ5 := Lib.hid (B6.out.trans (hbq.mono B6.out.size))
              by_cases htm : t2 < m
              · have j2 : (t2 : Int) < (m : Int) := by omega
                have j3 : (0 : Int) ≤ (t2 : Int) := by omega
                obtain ⟨k0, k1, k2⟩ := CH5.out _ HBQ5.out
                go_wp2_with fail
                refine (CanReach_any m t2 _ (HA5.out _ HBQ5.out) HCH.out htm).mono ?_
                rintro e w8 ⟨bv, rfl, o8, b8⟩
                have B8 := Lib.hid (hbq.trans (b8.mono hbq.size))
                have B85 := Lib.hid (B6.out.trans (B8.out.mono B6.out.size))
                have SB := Lib.hid (fun W (h : Below w8.heap.size w8 W) => o8.sl.below h)
                obtain ⟨ba, bc, rfl, _, _, _⟩ := id o8.sl
                clear k0 k1 k2 o8 b8 hbq
                have htcs : t2 < cs.length := by rw [HCL.out]; exact htm
                have hsx : s < xss.length := by rw [HMX.out]; exact hsm
                obtain ⟨_, _, he, hcb, g1⟩ := (SC.out _ B85.out).at_ hscs
                simp only [Option.some.injEq, Addr.mk.injEq] at he
                obtain ⟨rfl, rfl, _⟩ := he
                rw [HCSS.out] at g1
                obtain ⟨_, _, he, _, g2⟩ := (SC.out _ B85.out).at_ htcs
                simp only [Option.some.injEq, Addr.mk.injEq] at he
                obtain ⟨rfl, rfl, _⟩ := he
                have hee := HEE.out t2 htcs
                have hst := stTo_succ (rB xss m s) cs s t2
                rw [← hS3.out, HGS.out, gD_at htcs] at hst
                generalize cs[t2] = cT at g2 hee hst
                obtain ⟨xb, xo, xa, xc, rfl, hxb, g3, sx⟩ := (HA5.out _ B85.out).nthJ hsx
                have hrl : xss[s].length = m := by obtain ⟨_, hl, _⟩ := rowB_of HCH.out hsx; have := HMX.out; omega
                have htr : t2 < xss[s].length := Nat.lt_of_lt_of_eq htm hrl.symm
                obtain ⟨yb, yo, rfl, hyb, g4⟩ := sx.at_ htr
                have hstep := step_reach (xss := xss) hsm htm
                rw [wtN_at hsx htr] at hstep
                generalize xss[s][t2] = x at g4 hstep
                rw [hrl] at g3 sx
                have D1 := Lib.hid (show ∀ W, Below w8.heap.size w8 W → Calls Try.prog 32 #[.slice ra RL.length rc, .int .i64 t2] W fun e w' => e = .returned (.bool (rB xss m s t2)) ∧ Below W.heap.size W w' from fun W h => by
                  have h1 := a2Has_any (t2 : Int) W (SR.out W (B8.out.trans (h.mono B8.out.size)))
                  rw [HRH.out t2 htm] at h1
                  exact h1.mono fun _ _ ⟨h2, h3⟩ => ⟨h2, h3 ▸ Below.refl _ _⟩)
                have D2 := Lib.hid (show ∀ W, Below w8.heap.size w8 W → Calls Try.prog 32 #[.slice ba (reachL xss m t2).length bc, .int .i64 s] W fun e w' => e = .returned (.bool (rB xss m t2 s)) ∧ Below W.heap.size W w' from fun W h => by
                  have h1 := a2Has_any (s : Int) W (SB.out W h)
                  rw [reachL_has hsm] at h1
                  exact h1.mono fun _ _ ⟨h2, h3⟩ => ⟨h2, h3 ▸ Below.refl _ _⟩)
                generalize rB xss m s t2 = R1 at D1 hee hst hstep
                generalize rB xss m t2 s = R2 at D2 hee
                generalize (reachL xss m t2).length = BL at D2 ⊢
                have HEE2 := Lib.hid hee
                have HEE3 := Lib.hid (show (cT == cS) = (R1 && R2) from by rw [← HEE2.out]; exact Bool.eq_iff_iff.2 ⟨fun h => by rw [beq_iff_eq] at h ⊢; exact h.symm, fun h => by rw [beq_iff_eq] at h ⊢; exact h.symm⟩)
                have HST := Lib.hid (show stTo (rB xss m s) cs s (t2 + 1) = (S3 && (!R1 || (cT == cS))) from hst)
                have G1 := Lib.hid (fun W (h : Below w8.heap.size w8 W) => show W.cell? ⟨cb, co + s, none⟩ = some (.int .i64 cS) from by rw [h.cell (p := ⟨cb, co + s, none⟩) hcb]; exact g1)
                have G2 := Lib.hid (fun W (h : Below w8.heap.size w8 W) => show W.cell? ⟨cb, co + t2, none⟩ = some (.int .i64 cT) from by rw [h.cell (p := ⟨cb, co + t2, none⟩) hcb]; exact g2)
                obtain ⟨k0, k1, k2⟩ := CH5.out _ B85.out
                have q1 := fun d os => cell_regrown g1 d os
                have q2 := fun d os => cell_regrown g2 d os
                have q3 := fun d os => cell_regrown k2 d os
                have q4 := fun d os => cell_regrown g3 d os
                have q5 := fun d os => cell_regrown g4 d os
                have HSTEP := Lib.hid hstep
                clear hee hst hstep g1 g2 g3 g4 k0 k1 k2 sx hrl
                cases R1
                · have hx : ¬ 0 < x := fun h => by have := HSTEP.out h; cases this
                  have t7 : x ≤ 0 := by omega
                  have t8 : decide (0 < x) = false := decide_eq_false hx
                  have t4 : (cS == cT) = false := by rw [HEE2.out]; rfl
                  have t5 : (cT == cS) = false := by rw [HEE3.out]; rfl
                  have b8r := Below.refl w8.heap.size w8
                  go_wp2_with fail
                  refine wp_region_quiet_below (by kernel_rfl) (by kernel_rfl) ?_
                  repeat (first | go_big_quiet_skip | quiet_step (first | (with_reducible exact Calls.regrown_of (D1.out _ (below_regrown _ _ _))) | (with_reducible exact Calls.regrown_of (D2.out _ (below_regrown _ _ _)))))
                  refine wpQuiet_nil ?_
                  intro _ hw'
                  obtain ⟨⟨dq, osq⟩, hw''⟩ := hw'
                  subst hw''
                  have b9 := b8r.trans ((below_regrown w8 dq osq).mono b8r.size)
                  generalize grow (redrawn w8 dq) osq = wq at b9 ⊢
                  clear q1 q2 q3 q4 q5 b8r
                  cases S3
                  · as_aux_lemma =>
                      have p1 := G1.out _ b9
                      have p2 := G2.out _ b9
                      have q1 := fun d os => cell_regrown p1 d os
                      have q2 := fun d os => cell_regrown p2 d os
                      have D1 := Lib.hid (fun W (h : Below wq.heap.size wq W) => D1.out W (b9.trans (h.mono b9.size)))
                      have D2 := Lib.hid (fun W (h : Below wq.heap.size wq W) => D2.out W (b9.trans (h.mono b9.size)))
                      go_wp2_with fail
                      refine wp_region_quiet_below (by kernel_rfl) (by kernel_rfl) ?_
                      repeat (first | go_big_quiet_skip | quiet_step (first | (with_reducible exact Calls.regrown_of (D1.out _ (below_regrown _ _ _))) | (with_reducible exact Calls.regrown_of (D2.out _ (below_regrown _ _ _)))))
                      refine wpQuiet_nil ?_
                      intro _ hw'
                      obtain ⟨⟨dq, osq⟩, hw''⟩ := hw'
                      subst hw''
                      have b10 := b9.trans ((below_regrown wq dq osq).mono b9.size)
                      generalize grow (redrawn wq dq) osq = wt at b10 ⊢
                      have HB10 := Lib.hid (B8.out.trans (b10.mono B8.out.size))
                      clear q1 q2 p1 p2 D1 D2 b9 b10
                      go_wp2
                      go_roundw
                      case rel => exact ⟨t2 + 1, false, by omega, by go_num, rfl, Lib.hid (by rw [HST.out]; simp), HB10.out⟩
                      case measure => simp [intOf]; omega
                  · as_aux_lemma =>
                      have p1 := G1.out _ b9
                      have p2 := G2.out _ b9
                      have q1 := fun d os => cell_regrown p1 d os
                      have q2 := fun d os => cell_regrown p2 d os
                      have D1 := Lib.hid (fun W (h : Below wq.heap.size wq W) => D1.out W (b9.trans (h.mono b9.size)))
                      have D2 := Lib.hid (fun W (h : Below wq.heap.size wq W) => D2.out W (b9.trans (h.mono b9.size)))
                      go_wp2_with fail
                      refine wp_region_quiet_below (by kernel_rfl) (by kernel_rfl) ?_
                      repeat (first | go_big_quiet_skip | quiet_step (first | (with_reducible exact Calls.regrown_of (D1.out _ (below_regrown _ _ _))) | (with_reducible exact Calls.regrown_of (D2.out _ (below_regrown _ _ _)))))
                      refine wpQuiet_nil ?_
                      intro _ hw'
                      obtain ⟨⟨dq, osq⟩, hw''⟩ := hw'
                      subst hw''
                      have b10 := b9.trans ((below_regrown wq dq osq).mono b9.size)
                      generalize grow (redrawn wq dq) osq = wt at b10 ⊢
                      have HB10 := Lib.hid (B8.out.trans (b10.mono B8.out.size))
                      clear q1 q2 p1 p2 D1 D2 b9 b10
                      go_wp2
                      go_roundw
                      case rel => exact ⟨t2 + 1, true, by omega, by go_num, rfl, Lib.hid (by rw [HST.out]; simp), HB10.out⟩
                      case measure => simp [intOf]; omega
                · cases R2
                  · by_cases hx : 0 < x
                    · as_aux_lemma =>
                        have t6 : 0 < x := hx
                        have t8 : decide (0 < x) = true := decide_eq_true hx
                        have t4 : (cS == cT) = false := by rw [HEE2.out]; rfl
                        have t5 : (cT == cS) = false := by rw [HEE3.out]; rfl
                        have b8r := Below.refl w8.heap.size w8
                        clear hx
                        go_wp2_with fail
                        refine wp_region_quiet_below (by kernel_rfl) (by kernel_rfl) ?_
                        repeat (first | go_big_quiet_skip | quiet_step (first | (with_reducible exact Calls.regrown_of (D1.out _ (below_regrown _ _ _))) | (with_reducible exact Calls.regrown_of (D2.out _ (below_regrown _ _ _)))))
                        refine wpQuiet_nil ?_
                        intro _ hw'
                        obtain ⟨⟨dq, osq⟩, hw''⟩ := hw'
                        subst hw''
                        have b9 := b8r.trans ((below_regrown w8 dq osq).mono b8r.size)
                        generalize grow (redrawn w8 dq) osq = wq at b9 ⊢
                        clear q1 q2 q3 q4 q5 b8r
                        cases S3
                        · as_aux_lemma =>
                            have p1 := G1.out _ b9
                            have p2 := G2.out _ b9
                            have q1 := fun d os => cell_regrown p1 d os
                            have q2 := fun d os => cell_regrown p2 d os
                            have D1 := Lib.hid (fun W (h : Below wq.heap.size wq W) => D1.out W (b9.trans (h.mono b9.size)))
                            have D2 := Lib.hid (fun W (h : Below wq.heap.size wq W) => D2.out W (b9.trans (h.mono b9.size)))
                            go_wp2_with fail
                            refine wp_region_quiet_below (by kernel_rfl) (by kernel_rfl) ?_
                            repeat (first | go_big_quiet_skip | quiet_step (first | (with_reducible exact Calls.regrown_of (D1.out _ (below_regrown _ _ _))) | (with_reducible exact Calls.regrown_of (D2.out _ (below_regrown _ _ _)))))
                            refine wpQuiet_nil ?_
                            intro _ hw'
                            obtain ⟨⟨dq, osq⟩, hw''⟩ := hw'
                            subst hw''
                            have b10 := b9.trans ((below_regrown wq dq osq).mono b9.size)
                            generalize grow (redrawn wq dq) osq = wt at b10 ⊢
                            have HB10 := Lib.hid (B8.out.trans (b10.mono B8.out.size))
                            clear q1 q2 p1 p2 D1 D2 b9 b10
                            go_wp2
                            go_roundw
                            case rel => exact ⟨t2 + 1, false, by omega, by go_num, rfl, Lib.hid (by rw [HST.out]; simp), HB10.out⟩
                            case measure => simp [intOf]; omega
                        · as_aux_lemma =>
                            have p1 := G1.out _ b9
                            have p2 := G2.out _ b9
                            have q1 := fun d os => cell_regrown p1 d os
                            have q2 := fun d os => cell_regrown p2 d os
                            have D1 := Lib.hid (fun W (h : Below wq.heap.size wq W) => D1.out W (b9.trans (h.mono b9.size)))
                            have D2 := Lib.hid (fun W (h : Below wq.heap.size wq W) => D2.out W (b9.trans (h.mono b9.size)))
                            go_wp2_with fail
                            refine wp_region_quiet_below (by kernel_rfl) (by kernel_rfl) ?_
                            repeat (first | go_big_quiet_skip | quiet_step (first | (with_reducible exact Calls.regrown_of (D1.out _ (below_regrown _ _ _))) | (with_reducible exact Calls.regrown_of (D2.out _ (below_regrown _ _ _)))))
                            refine wpQuiet_nil ?_
                            intro _ hw'
                            obtain ⟨⟨dq, osq⟩, hw''⟩ := hw'
                            subst hw''
                            have b10 := b9.trans ((below_regrown wq dq osq).mono b9.size)
                            generalize grow (redrawn wq dq) osq = wt at b10 ⊢
                            have HB10 := Lib.hid (B8.out.trans (b10.mono B8.out.size))
                            clear q1 q2 p1 p2 D1 D2 b9 b10
                            go_wp2
                            go_roundw
                            case rel => exact ⟨t2 + 1, false, by omega, by go_num, rfl, Lib.hid (by rw [HST.out]; simp [t5]), HB10.out⟩
                            case measure => simp [intOf]; omega
                    · as_aux_lemma =>
                        have t6 : ¬ 0 < x := hx
                        have t7 : x ≤ 0 := by omega
                        have t8 : decide (0 < x) = false := decide_eq_false hx
                        have t4 : (cS == cT) = false := by rw [HEE2.out]; rfl
                        have t5 : (cT == cS) = false := by rw [HEE3.out]; rfl
                        have b8r := Below.refl w8.heap.size w8
                        clear hx
                        go_wp2_with fail
                        refine wp_region_quiet_below (by kernel_rfl) (by kernel_rfl) ?_
                        repeat (first | go_big_quiet_skip | quiet_step (first | (with_reducible exact Calls.regrown_of (D1.out _ (below_regrown _ _ _))) | (with_reducible exact Calls.regrown_of (D2.out _ (below_regrown _ _ _)))))
                        refine wpQuiet_nil ?_
                        intro _ hw'
                        obtain ⟨⟨dq, osq⟩, hw''⟩ := hw'
                        subst hw''
                        have b9 := b8r.trans ((below_regrown w8 dq osq).mono b8r.size)
                        generalize grow (redrawn w8 dq) osq = wq at b9 ⊢
                        clear q1 q2 q3 q4 q5 b8r
                        cases S3
                        · as_aux_lemma =>
                            have p1 := G1.out _ b9
                            have p2 := G2.out _ b9
                            have q1 := fun d os => cell_regrown p1 d os
                            have q2 := fun d os => cell_regrown p2 d os
                            have D1 := Lib.hid (fun W (h : Below wq.heap.size wq W) => D1.out W (b9.trans (h.mono b9.size)))
                            have D2 := Lib.hid (fun W (h : Below wq.heap.size wq W) => D2.out W (b9.trans (h.mono b9.size)))
                            go_wp2_with fail
                            refine wp_region_quiet_below (by kernel_rfl) (by kernel_rfl) ?_
                            repeat (first | go_big_quiet_skip | quiet_step (first | (with_reducible exact Calls.regrown_of (D1.out _ (below_regrown _ _ _))) | (with_reducible exact Calls.regrown_of (D2.out _ (below_regrown _ _ _)))))
                            refine wpQuiet_nil ?_
                            intro _ hw'
                            obtain ⟨⟨dq, osq⟩, hw''⟩ := hw'
                            subst hw''
                            have b10 := b9.trans ((below_regrown wq dq osq).mono b9.size)
                            generalize grow (redrawn wq dq) osq = wt at b10 ⊢
                            have HB10 := Lib.hid (B8.out.trans (b10.mono B8.out.size))
                            clear q1 q2 p1 p2 D1 D2 b9 b10
                            go_wp2
                            go_roundw
                            case rel => exact ⟨t2 + 1, false, by omega, by go_num, rfl, Lib.hid (by rw [HST.out]; simp), HB10.out⟩
                            case measure => simp [intOf]; omega
                        · as_aux_lemma =>
                            have p1 := G1.out _ b9
                            have p2 := G2.out _ b9
                            have q1 := fun d os => cell_regrown p1 d os
                            have q2 := fun d os => cell_regrown p2 d os
                            have D1 := Lib.hid (fun W (h : Below wq.heap.size wq W) => D1.out W (b9.trans (h.mono b9.size)))
                            have D2 := Lib.hid (fun W (h : Below wq.heap.size wq W) => D2.out W (b9.trans (h.mono b9.size)))
                            go_wp2_with fail
                            refine wp_region_quiet_below (by kernel_rfl) (by kernel_rfl) ?_
                            repeat (first | go_big_quiet_skip | quiet_step (first | (with_reducible exact Calls.regrown_of (D1.out _ (below_regrown _ _ _))) | (with_reducible exact Calls.regrown_of (D2.out _ (below_regrown _ _ _)))))
                            refine wpQuiet_nil ?_
                            intro _ hw'
                            obtain ⟨⟨dq, osq⟩, hw''⟩ := hw'
                            subst hw''
                            have b10 := b9.trans ((below_regrown wq dq osq).mono b9.size)
                            generalize grow (redrawn wq dq) osq = wt at b10 ⊢
                            have HB10 := Lib.hid (B8.out.trans (b10.mono B8.out.size))
                            clear q1 q2 p1 p2 D1 D2 b9 b10
                            go_wp2
                            go_roundw
                            case rel => exact ⟨t2 + 1, false, by omega, by go_num, rfl, Lib.hid (by rw [HST.out]; simp [t5]), HB10.out⟩
                            case measure => simp [intOf]; omega
                  · by_cases hx : 0 < x
                    · as_aux_lemma =>
                        have t6 : 0 < x := hx
                        have t8 : decide (0 < x) = true := decide_eq_true hx
                        have t4 : (cS == cT) = true := by rw [HEE2.out]; rfl
                        have t5 : (cT == cS) = true := by rw [HEE3.out]; rfl
                        have b8r := Below.refl w8.heap.size w8
                        clear hx
                        go_wp2_with fail
                        refine wp_region_quiet_below (by kernel_rfl) (by kernel_rfl) ?_
                        repeat (first | go_big_quiet_skip | quiet_step (first | (with_reducible exact Calls.regrown_of (D1.out _ (below_regrown _ _ _))) | (with_reducible exact Calls.regrown_of (D2.out _ (below_regrown _ _ _)))))
                        refine wpQuiet_nil ?_
                        intro _ hw'
                        obtain ⟨⟨dq, osq⟩, hw''⟩ := hw'
                        subst hw''
                        have b9 := b8r.trans ((below_regrown w8 dq osq).mono b8r.size)
                        generalize grow (redrawn w8 dq) osq = wq at b9 ⊢
                        clear q1 q2 q3 q4 q5 b8r
                        cases S3
                        · as_aux_lemma =>
                            have p1 := G1.out _ b9
                            have p2 := G2.out _ b9
                            have q1 := fun d os => cell_regrown p1 d os
                            have q2 := fun d os => cell_regrown p2 d os
                            have D1 := Lib.hid (fun W (h : Below wq.heap.size wq W) => D1.out W (b9.trans (h.mono b9.size)))
                            have D2 := Lib.hid (fun W (h : Below wq.heap.size wq W) => D2.out W (b9.trans (h.mono b9.size)))
                            go_wp2_with fail
                            refine wp_region_quiet_below (by kernel_rfl) (by kernel_rfl) ?_
                            repeat (first | go_big_quiet_skip | quiet_step (first | (with_reducible exact Calls.regrown_of (D1.out _ (below_regrown _ _ _))) | (with_reducible exact Calls.regrown_of (D2.out _ (below_regrown _ _ _)))))
                            refine wpQuiet_nil ?_
                            intro _ hw'
                            obtain ⟨⟨dq, osq⟩, hw''⟩ := hw'
                            subst hw''
                            have b10 := b9.trans ((below_regrown wq dq osq).mono b9.size)
                            generalize grow (redrawn wq dq) osq = wt at b10 ⊢
                            have HB10 := Lib.hid (B8.out.trans (b10.mono B8.out.size))
                            clear q1 q2 p1 p2 D1 D2 b9 b10
                            go_wp2
                            go_roundw
                            case rel => exact ⟨t2 + 1, false, by omega, by go_num, rfl, Lib.hid (by rw [HST.out]; simp), HB10.out⟩
                            case measure => simp [intOf]; omega
                        · as_aux_lemma =>
                            have p1 := G1.out _ b9
                            have p2 := G2.out _ b9
                            have q1 := fun d os => cell_regrown p1 d os
                            have q2 := fun d os => cell_regrown p2 d os
                            have D1 := Lib.hid (fun W (h : Below wq.heap.size wq W) => D1.out W (b9.trans (h.mono b9.size)))
                            have D2 := Lib.hid (fun W (h : Below wq.heap.size wq W) => D2.out W (b9.trans (h.mono b9.size)))
                            go_wp2_with fail
                            refine wp_region_quiet_below (by kernel_rfl) (by kernel_rfl) ?_
                            repeat (first | go_big_quiet_skip | quiet_step (first | (with_reducible exact Calls.regrown_of (D1.out _ (below_regrown _ _ _))) | (with_reducible exact Calls.regrown_of (D2.out _ (below_regrown _ _ _)))))
                            refine wpQuiet_nil ?_
                            intro _ hw'
                            obtain ⟨⟨dq, osq⟩, hw''⟩ := hw'
                            subst hw''
                            have b10 := b9.trans ((below_regrown wq dq osq).mono b9.size)
                            generalize grow (redrawn wq dq) osq = wt at b10 ⊢
                            have HB10 := Lib.hid (B8.out.trans (b10.mono B8.out.size))
                            clear q1 q2 p1 p2 D1 D2 b9 b10
                            go_wp2
                            go_roundw
                            case rel => exact ⟨t2 + 1, true, by omega, by go_num, rfl, Lib.hid (by rw [HST.out]; simp [t5]), HB10.out⟩
                            case measure => simp [intOf]; omega
                    · as_aux_lemma =>
                        have t6 : ¬ 0 < x := hx
                        have t7 : x ≤ 0 := by omega
                        have t8 : decide (0 < x) = false := decide_eq_false hx
                        have t4 : (cS == cT) = true := by rw [HEE2.out]; rfl
                        have t5 : (cT == cS) = true := by rw [HEE3.out]; rfl
                        have b8r := Below.refl w8.heap.size w8
                        clear hx
                        go_wp2_with fail
                        refine wp_region_quiet_below (by kernel_rfl) (by kernel_rfl) ?_
                        repeat (first | go_big_quiet_skip | quiet_step (first | (with_reducible exact Calls.regrown_of (D1.out _ (below_regrown _ _ _))) | (with_reducible exact Calls.regrown_of (D2.out _ (below_regrown _ _ _)))))
                        refine wpQuiet_nil ?_
                        intro _ hw'
                        obtain ⟨⟨dq, osq⟩, hw''⟩ := hw'
                        subst hw''
                        have b9 := b8r.trans ((below_regrown w8 dq osq).mono b8r.size)
                        generalize grow (redrawn w8 dq) osq = wq at b9 ⊢
                        clear q1 q2 q3 q4 q5 b8r
                        cases S3
                        · as_aux_lemma =>
                            have p1 := G1.out _ b9
                            have p2 := G2.out _ b9
                            have q1 := fun d os => cell_regrown p1 d os
                            have q2 := fun d os => cell_regrown p2 d os
                            have D1 := Lib.hid (fun W (h : Below wq.heap.size wq W) => D1.out W (b9.trans (h.mono b9.size)))
                            have D2 := Lib.hid (fun W (h : Below wq.heap.size wq W) => D2.out W (b9.trans (h.mono b9.size)))
                            go_wp2_with fail
                            refine wp_region_quiet_below (by kernel_rfl) (by kernel_rfl) ?_
                            repeat (first | go_big_quiet_skip | quiet_step (first | (with_reducible exact Calls.regrown_of (D1.out _ (below_regrown _ _ _))) | (with_reducible exact Calls.regrown_of (D2.out _ (below_regrown _ _ _)))))
                            refine wpQuiet_nil ?_
                            intro _ hw'
                            obtain ⟨⟨dq, osq⟩, hw''⟩ := hw'
                            subst hw''
                            have b10 := b9.trans ((below_regrown wq dq osq).mono b9.size)
                            generalize grow (redrawn wq dq) osq = wt at b10 ⊢
                            have HB10 := Lib.hid (B8.out.trans (b10.mono B8.out.size))
                            clear q1 q2 p1 p2 D1 D2 b9 b10
                            go_wp2
                            go_roundw
                            case rel => exact ⟨t2 + 1, false, by omega, by go_num, rfl, Lib.hid (by rw [HST.out]; simp), HB10.out⟩
                            case measure => simp [intOf]; omega
                        · as_aux_lemma =>
                            have p1 := G1.out _ b9
                            have p2 := G2.out _ b9
                            have q1 := fun d os => cell_regrown p1 d os
                            have q2 := fun d os => cell_regrown p2 d os
                            have D1 := Lib.hid (fun W (h : Below wq.heap.size wq W) => D1.out W (b9.trans (h.mono b9.size)))
                            have D2 := Lib.hid (fun W (h : Below wq.heap.size wq W) => D2.out W (b9.trans (h.mono b9.size)))
                            go_wp2_with fail
                            refine wp_region_quiet_below (by kernel_rfl) (by kernel_rfl) ?_
                            repeat (first | go_big_quiet_skip | quiet_step (first | (with_reducible exact Calls.regrown_of (D1.out _ (below_regrown _ _ _))) | (with_reducible exact Calls.regrown_of (D2.out _ (below_regrown _ _ _)))))
                            refine wpQuiet_nil ?_
                            intro _ hw'
                            obtain ⟨⟨dq, osq⟩, hw''⟩ := hw'
                            subst hw''
                            have b10 := b9.trans ((below_regrown wq dq osq).mono b9.size)
                            generalize grow (redrawn wq dq) osq = wt at b10 ⊢
                            have HB10 := Lib.hid (B8.out.trans (b10.mono B8.out.size))
                            clear q1 q2 p1 p2 D1 D2 b9 b10
                            go_wp2
                            go_roundw
                            case rel => exact ⟨t2 + 1, true, by omega, by go_num, rfl, Lib.hid (by rw [HST.out]; simp [t5]), HB10.out⟩
                            case measure => simp [intOf]; omega
              · as_aux_lemma =>
                  obtain rfl : t2 = m := by omega
                  have hst3 : S3 = stayB xss t2 s := by rw [hS3.out]; exact stTo_stay hsm HCL.out HI.out
                  have HST3 := Lib.hid hst3
                  clear hst3
                  have B9 := HBQ5
                  have BQ := Lib.hid hbq
                  obtain ⟨k0, k1, k2⟩ := CH5.out _ HBQ5.out
                  clear hbq
                  obtain ⟨wz, hwz⟩ : ∃ wz : World, wz = wr := ⟨_, rfl⟩
                  subst hwz
                  go_wp2
                  go_loopw [20, 21] (fun ct ix wq => ∃ (i cnt : Nat), i ≤ E.length ∧ ix = .int .i64 i ∧ ct = .int .i64 cnt ∧ cnt ≤ i ∧ Hid (cnt = cntE E s i) ∧ Below wz.heap.size wz wq) (fun _ ix _ => E.length - (intOf ix).toNat)
                  case atStart => exact ⟨0, 0, Nat.zero_le _, rfl, rfl, Nat.le_refl _, Lib.hid (by simp [cntE]), Below.refl _ _⟩
                  case round =>
                    obtain ⟨i, cnt, hi, rfl, rfl, hci, hcnt, hbz⟩ := hrel
                    have HBZ := Lib.hid hbz
                    have HBZ5 := Lib.hid (B9.out.trans (hbz.mono B9.out.size))
                    by_cases hie : i < E.length
                    · obtain ⟨xb, xo, xa, xc, he, hxb, g3, sx⟩ := (SE.out _ HBZ5.out).nthJ hie
                      subst he
                      have hsucc := cntE_succ (s := s) hie
                      rw [← hcnt.out] at hsucc
                      have hEH := HEH.out s hsm i hie
                      generalize E[i] = EI at g3 sx hsucc hEH
                      have j4 : (i : Int) < (E.length : Int) := by omega
                      have j5 : (0 : Int) ≤ (i : Int) := by omega
                      have HHS := Lib.hid (a2Has_any (s : Int) wr sx)
                      generalize hdm : decide ((s : Int) ∈ EI) = DM at HHS hsucc
                      have HDM := Lib.hid hdm
                      have HSUC := Lib.hid hsucc
                      have HSX := Lib.hid sx
                      have HEHH := Lib.hid hEH
                      clear hsucc hdm sx hEH hbz
                      go_wp2_with fail
                      refine HHS.out.mono ?_
                      rintro e w9 ⟨rfl, rfl⟩
                      cases DM
                      · skip
                        have HS9 := Lib.hid (show cnt = cntE E s (i + 1) from by have := HSUC.out; simp at this; exact this.symm)
                        go_wp2
                        go_roundw
                        case rel => exact ⟨i + 1, cnt, by omega, by go_num, rfl, by omega, HS9, HBZ.out⟩
                        case measure => simp [intOf]; omega
                      · have HS9 := Lib.hid (show cnt + 1 = cntE E s (i + 1) from by have := HSUC.out; simp at this; exact this.symm)
                        have hm : (s : Int) ∈ EI := by have := HDM.out; rwa [decide_eq_true_eq] at this
                        have hEI := HEHH.out hm
                        rw [← HRL.out] at hEI
                        have hsxx := HSX.out
                        rw [hEI] at hsxx g3
                        have HSAME := Lib.hid (a2Same_refl wr hsxx (SR.out _ (BQ.out.trans (HBZ.out.mono BQ.out.size))))
                        have r9 : IntKind.i64.wrap ((cnt : Int) + 1) = ((cnt + 1 : Nat) : Int) := by have := HEM.out; rw [IntWalk.i64_in _ (by omega)]; simp
                        clear hm hEI hsxx
                        go_wp2_with fail
                        refine HSAME.out.mono ?_
                        rintro e w9 ⟨rfl, b9⟩
                        have HB9 := Lib.hid (HBZ.out.trans (b9.mono HBZ.out.size))
                        clear b9 g3
                        go_wp2
                        go_roundw
                        case rel => exact ⟨i + 1, cnt + 1, by omega, by go_num, by go_num, by omega, HS9, HB9.out⟩
                        case measure => simp [intOf]; omega
                    · obtain rfl : i = E.length := by omega
                      have hcf := hcnt.out
                      rw [HEC.out s hsm, ← HST3.out] at hcf
                      cases S3
                      · have hc0 : cnt = 0 := by simpa using hcf
                        subst hc0
                        clear hcf hbz
                        have HBW9 := HBZ5
                        go_wp2
                        go_roundw
                        case rel => exact ⟨s + 1, _, by omega, by go_num, rfl, Lib.hid (by rw [← HS2.out]; simp), HBW9.out⟩
                        case measure => simp [intOf]; omega
                      · have hc0 : cnt = 1 := by simpa using hcf
                        subst hc0
                        clear hcf hbz
                        have HBW9 := HBZ5
                        go_wp2
                        go_roundw
                        case rel => exact ⟨s + 1, _, by omega, by go_num, rfl, Lib.hid (by rw [← HS2.out]; simp), HBW9.out⟩
                        case measure => simp [intOf]; omega
        · obtain rfl : s = m := by omega
          have hSS : SG = ZR := by rw [hSG.out, HZR.out]
          have tEQ : (ZR == SG) = true := by rw [hSS]; simp
          clear hSS
          go_wp2
          go_ret
          exact ⟨rfl, BW5.out _ hbw⟩
end Go.Proofs.Ytghdginjdolgpaa
