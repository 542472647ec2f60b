/-
  FnPastRun: the law answers true for all texts of bytes.
-/
import Derived.Test.YtghdginjdolgpaaZRowFnPastRun13
set_option linter.unusedVariables false
set_option linter.unusedSimpArgs false
namespace Go.Proofs.Ytghdginjdolgpaa
open Go.RowKit Go.Sort
set_option maxRecDepth 100000 in
set_option maxHeartbeats 16000000 in
theorem FnPastRun_walk {xs ys : List Int} (a0 a1 : Option Addr) (n0 n1 c0 c1 : Nat) (w : World) (hn0 : n0 ≤ maxLen) (hn1 : n1 ≤ maxLen) (hx : xs.length = n0) (hr : Rd w a0 (xs.map (.int .u8))) (hb : ∀ x ∈ xs, 0 ≤ x ∧ x < 256)
    (hx1 : ys.length = n1) (hr1 : Rd w a1 (ys.map (.int .u8))) (hb1 : ∀ x ∈ ys, 0 ≤ x ∧ x < 256) :
    Calls Try.prog 5 #[.slice a0 n0 c0, .slice a1 n1 c1] w fun e w' => e = .returned (.bool true) ∧ Below w.heap.size w w' := by
  have HR := Lib.hid hr
  have HB := Lib.hid hb
  have HX := Lib.hid hx
  have HR1 := Lib.hid (fun W (h : Below w.heap.size w W) => hr1.below h)
  have HB1 := Lib.hid hb1
  have HX1 := Lib.hid hx1
  have HN0 := Lib.hid hn0
  have HN1 := Lib.hid hn1
  clear hr hb hx hr1 hb1 hx1 hn0 hn1
  generalize hd0 : decide (4096 < n0) = d0
  generalize hd1 : decide (4096 < n1) = d1
  have HD0 := Lib.hid hd0
  have HD1 := Lib.hid hd1
  clear hd0 hd1
  cases d0
  case true =>
    go_enter Try.func5, Try.ntmps5
    go_wp2_with fail
    refine (f6big_any a0 n0 c0 _ HN0.out).mono ?_
    rintro e w1 ⟨rfl, rfl⟩
    rw [HD0.out]
    go_wp2
    go_ret
    exact ⟨rfl, Below.refl _ _⟩
  case false =>
    cases d1
    case true =>
      go_enter Try.func5, Try.ntmps5
      go_wp2_with fail
      refine (f6big_any a0 n0 c0 _ HN0.out).mono ?_
      rintro e w1 ⟨rfl, rfl⟩
      rw [HD0.out]
      go_wp2_with fail
      refine (f6big_any a1 n1 c1 _ HN1.out).mono ?_
      rintro e w1 ⟨rfl, rfl⟩
      rw [HD1.out]
      go_wp2
      go_ret
      exact ⟨rfl, Below.refl _ _⟩
    case false =>
      have h40 := Lib.hid (show n0 ≤ 4096 by have := HD0.out; rw [decide_eq_false_iff_not] at this; omega)
      have h41 := Lib.hid (show n1 ≤ 4096 by have := HD1.out; rw [decide_eq_false_iff_not] at this; omega)
      go_enter Try.func5, Try.ntmps5
      go_wp2_with fail
      refine (f6big_any a0 n0 c0 _ HN0.out).mono ?_
      rintro e w1 ⟨rfl, rfl⟩
      rw [HD0.out]
      go_wp2_with fail
      refine (f6big_any a1 n1 c1 _ HN1.out).mono ?_
      rintro e w1 ⟨rfl, rfl⟩
      rw [HD1.out]
      go_wp2_with fail
      refine (P6Maps_any a0 n0 c0 4 _ h40.out HX.out HR.out HB.out (by decide) (by decide)).mono ?_
      rintro e w1 ⟨m, t, v, ms, rfl, hm4, hok, hl3, o1, b1⟩
      have HV := Lib.hid hok
      obtain ⟨⟨hm1, hm2⟩, _, ⟨hl1, _⟩, _⟩ := id hok
      have S1 := Lib.hid o1.sl
      obtain ⟨va, vc, rfl, hvc, hvc2⟩ := o1.sl.form
      unfold maxLen at hvc2
      obtain ⟨ml, hml⟩ : ∃ ml, ml = ms.length := ⟨_, rfl⟩
      rw [← hml] at hvc S1 hl1 hl3 ⊢
      have HML := Lib.hid hml
      obtain ⟨W2, hW2⟩ : ∃ W2, W2 = w1.alloc (.cells #[.int .i64 m, .int .i64 t, .slice va ml vc] 43) := ⟨_, rfl⟩
      have b2 : Below w1.heap.size w1 W2 := by rw [hW2]; exact (Below.refl _ _).alloc (Nat.le_refl _) _
      have X2 := Lib.hid (show MpAt W2 w1.heap.size m t (.slice va ml vc) by rw [hW2]; exact MpAt.new w1 m t _)
      have HA := Lib.hid (fun W (h : Below W2.heap.size W2 W) => (S1.out.below b2).below h)
      have B2 := Lib.hid (b1.trans (b2.mono b1.size))
      have HW2 := Lib.hid hW2
      obtain ⟨x0, x1, x2, x3⟩ := X2.out
      have hm1' : 1 ≤ m := by omega
      clear b1 b2 hok o1 hW2 hml hm1 hm2
      go_wp2_with fail
      rw [← HW2.out]
      go_wp2_with fail
      refine (P6Draws_any a1 n1 c1 ml 12 _ h41.out HX1.out (HR1.out _ B2.out) HB1.out hl1 (by decide)).mono ?_
      rintro e w3 ⟨pv, ps, rfl, hpb, hpl, o3, b3⟩
      have HPB := Lib.hid (show PicksB ms.length ps from by rw [← HML.out]; exact hpb)
      have X3 := Lib.hid (X2.out.below b3)
      have HP := Lib.hid (fun W (h : Below w3.heap.size w3 W) => o3.sl.below h)
      have HA3 := Lib.hid (fun W (h : Below w3.heap.size w3 W) => HA.out W (b3.trans (h.mono b3.size)))
      have B3 := Lib.hid (B2.out.trans (b3.mono B2.out.size))
      obtain ⟨pa, pc, rfl, hpc, hpc2, _⟩ := id o3.sl
      unfold maxLen at hpc2
      obtain ⟨L, hL⟩ : ∃ L, L = ps.length := ⟨_, rfl⟩
      rw [← hL] at hpc hpl HP ⊢
      have HL := Lib.hid hL
      obtain ⟨y0, y1, y2, y3⟩ := X3.out
      clear x0 x1 x2 x3 hpb o3 b3 hL HR HB HX HR1 HB1 HX1 HN0 HN1 HD0 HD1
      obtain ⟨a, b, c, lst, d, e', g, hF, hG, hc, hlaw, he0, he1, hfin⟩ := past_law (L := ps.length) (f := pastM ms m ps) (fun i hi h => past_mono HV.out HPB.out hi h)
      have HF := Lib.hid hF
      have HG := Lib.hid hG
      have HF1 := Lib.hid (runR_first ps.length (pastM ms m ps))
      have HLAW := Lib.hid hlaw
      rw [← HL.out] at hc he1 hfin
      have HFIN := Lib.hid hfin
      have q1 : (a != a) = false := by simp
      have q2 : (b != b) = false := by simp
      have q3 : (c != c) = false := by simp
      have q4 : (d != d) = false := by simp
      have q5 : (e' != e') = false := by simp
      have q6 : (g != g) = false := by simp
      clear hF hG hlaw hfin
      go_wp2_with fail
      refine (ImplPastRun_any m _ (HA3.out _ (Below.refl _ _)) (HP.out _ (Below.refl _ _)) HV.out HPB.out (by have := HL.out; omega)).mono ?_
      rintro e w4 ⟨he, b4⟩
      rw [HF1.out, HF.out, show tupJ (a, b, c) = .tuple #[.int .i64 a, .int .i64 b, .int .i64 c] from rfl] at he
      subst he
      have B4 := Lib.hid b4
      obtain ⟨z0, z1, z2, z3⟩ := X3.out.below b4
      clear y0 y1 y2 y3 b4
      go_wp2_with fail
      refine (SpecPastRun_any m _ (HA3.out _ B4.out) (HP.out _ B4.out) HV.out HPB.out (by have := HL.out; omega)).mono ?_
      rintro e w5 ⟨he, b5⟩
      rw [HF.out, show tupJ (a, b, c) = .tuple #[.int .i64 a, .int .i64 b, .int .i64 c] from rfl] at he
      subst he
      have B5 := Lib.hid (B4.out.trans (b5.mono B4.out.size))
      obtain ⟨y0, y1, y2, y3⟩ := X3.out.below B5.out
      clear z0 z1 z2 z3 b5
      go_wp2_with fail
      refine (ImplWindowRun_any m _ (HA3.out _ B5.out) (HP.out _ B5.out) HV.out HPB.out (by have := HL.out; omega)).mono ?_
      rintro e w6 ⟨he, b6⟩
      rw [HG.out, show tupJ (d, e', g) = .tuple #[.int .i64 d, .int .i64 e', .int .i64 g] from rfl] at he
      subst he
      have B6 := Lib.hid (B5.out.trans (b6.mono B5.out.size))
      obtain ⟨z0, z1, z2, z3⟩ := X3.out.below B6.out
      clear y0 y1 y2 y3 b6
      go_wp2_with fail
      refine (SpecWindowRun_any m _ (HA3.out _ B6.out) (HP.out _ B6.out) HV.out HPB.out (by have := HL.out; omega)).mono ?_
      rintro e w7 ⟨he, b7⟩
      rw [HG.out, show tupJ (d, e', g) = .tuple #[.int .i64 d, .int .i64 e', .int .i64 g] from rfl] at he
      subst he
      have B7 := Lib.hid (B6.out.trans (b7.mono B6.out.size))
      have r1 : IntKind.i64.wrap ((L : Int) + 1) = (L : Int) + 1 := IntWalk.i64_in _ (by omega)
      clear z0 z1 z2 z3 b7 B4 B5 B6
      rcases hc with ⟨rfl, rfl, hb0, hb1⟩ | ⟨rfl, rfl⟩
      · skip
        go_wp2
        go_loopw [20] (fun i wr => ∃ (j : Nat), j ≤ L + 1 ∧ i = .int .i64 j ∧ Below w3.heap.size w3 wr) (fun i _ => L + 1 - (intOf i).toNat)
        case atStart => exact ⟨0, by omega, rfl, B7.out⟩
        case round =>
          clear B7
          obtain ⟨j, hj, rfl, hbw⟩ := hrel
          have HBW := Lib.hid hbw
          by_cases hc1 : j ≤ L
          · have i1 : (j : Int) ≤ (L : Int) := by omega
            have own0 := Lib.hid (OwnI.empty wr (base := wr.heap.size) (Nat.le_refl _))
            have b30 := Lib.hid ((Below.refl wr.heap.size wr).alloc (Nat.le_refl _) (.cells #[] 2))
            have htl : (ps.take j).length = j := by have := HL.out; rw [List.length_take]; omega
            have HTL := Lib.hid htl
            clear hbw htl
            obtain ⟨wo, rfl⟩ : ∃ wo : World, wo = wr := ⟨_, rfl⟩
            go_wp2
            go_loopw [21, 22] (fun tv k wr => ∃ q : Nat, q ≤ j ∧ k = .int .i64 ((q : Int) - 1) ∧ OwnI wr wo.heap.size tv ((ps.take j).drop q).reverse ∧ Below wo.heap.size wo wr) (fun _ k _ => (intOf k + 1).toNat)
            case atStart => exact ⟨j, Nat.le_refl _, rfl, by rw [List.drop_of_length_le (by have := HTL.out; omega)]; exact own0.out, b30.out⟩
            case round =>
              clear own0 b30
              obtain ⟨q, hq, rfl, hown, hbr⟩ := hrel
              have HO := Lib.hid hown
              have HBR := Lib.hid hbr
              have hlr : ((ps.take j).drop q).reverse.length < 16777216 := by rw [List.length_reverse, List.length_drop]; have := HTL.out; omega
              have hzr : wo.heap.size ≤ wr.heap.size := hbr.size
              have bwr := HBW.out.trans (hbr.mono HBW.out.size)
              clear hown hbr
              by_cases hq0 : 0 < q
              · obtain ⟨q, rfl⟩ : ∃ k, q = k + 1 := ⟨q - 1, by omega⟩
                have e0 : ((q + 1 : Nat) : Int) - 1 = (q : Int) := by omega
                simp only [e0]
                have hqj : q < (ps.take j).length := by have := HTL.out; omega
                have hqp : q < ps.length := by have := HL.out; omega
                have i0 : (0 : Int) ≤ (q : Int) := by omega
                have i2 : (q : Int) < (L : Int) := by omega
                obtain ⟨db, doff, rfl, gd⟩ := (HP.out _ bwr).nth hqp
                have hdr : ((ps.take j).drop q).reverse = ((ps.take j).drop (q + 1)).reverse ++ [ps[q]] := by rw [List.drop_eq_getElem_cons hqj, List.reverse_cons]; simp
                generalize ps[q] = x at gd hdr
                have HDR := Lib.hid hdr
                have ho := HO.out
                clear hdr e0 bwr HO
                generalize ((ps.take j).drop (q + 1)).reverse = RV at ho hlr HDR
                go_wp2_with (at_builtin; refine append_i64 _ x _ _ rfl rfl rfl ho rfl hlr hzr ?_)
                intro v5 w5 o5 b5 z5
                have hb5 : Below wo.heap.size wo w5 := (HBR.out.alloc hzr _).trans b5
                clear b5 ho
                go_wp2
                go_roundw
                case rel => exact ⟨q, by omega, rfl, by rw [HDR.out]; exact o5, hb5⟩
                case measure => simp [intOf]
              · obtain rfl : q = 0 := by omega
                have SU := Lib.hid (show SlI wr u21 (ps.take j).reverse from by have := HO.out.sl; rwa [List.drop_zero] at this)
                have HB8 := Lib.hid bwr
                have HPR := Lib.hid (show PicksB ms.length (ps.take j).reverse from (HPB.out.take j).rev)
                have HRL := Lib.hid (show (ps.take j).reverse.length ≤ 100 from by rw [List.length_reverse, HTL.out]; omega)
                have HTOP := Lib.hid (show seqM ms m (ps.take j).reverse = pastM ms m ps j from rfl)
                obtain ⟨x0, x1, x2, x3⟩ := X3.out.below bwr
                generalize (ps.take j).reverse = TR at SU HPR HRL HTOP
                obtain ⟨tra, trc, rfl, _, _, _⟩ := id SU.out
                have SUU := Lib.hid (fun W (h : Below wr.heap.size wr W) => SU.out.below h)
                clear bwr HO hlr hq0 hq HBR
                go_wp2_with fail
                refine (ImplApplyPicks_any m _ (HA3.out _ HB8.out) SU.out HV.out HPR.out HRL.out).mono ?_
                rintro e w8 ⟨u, rfl, o8, b8⟩
                have B8 := Lib.hid (HB8.out.trans (b8.mono HB8.out.size))
                have SU8 := Lib.hid (SUU.out _ b8)
                obtain ⟨y0, y1, y2, y3⟩ := X3.out.below B8.out
                clear x0 x1 x2 x3 b8 SUU
                go_wp2_with fail
                refine (SpecApplyPicks_any m _ (HA3.out _ B8.out) SU8.out HV.out HPR.out HRL.out).mono ?_
                rintro e w9 ⟨u2, rfl, o9, b9⟩
                have B9 := Lib.hid (B8.out.trans (b9.mono B8.out.size))
                have o8' := o8.below b9
                rw [HTOP.out] at o8' o9
                obtain ⟨hin, hlen⟩ := pastM_in HV.out HPB.out j
                obtain ⟨hl1, hl2⟩ := HLAW.out j (by have := HL.out; omega)
                generalize pastM ms m ps j = F at o8' o9 hl1 hl2 hlen
                obtain ⟨ua, uc, rfl, _, _, _⟩ := id o8'.sl
                obtain ⟨ub, uo, uc2, rfl, _⟩ := o9.sl.first (by omega)
                have HF8 := Lib.hid (f6ints_refl (u := .slice ua F.length uc) (v := .slice (some ⟨ub, uo, none⟩) F.length uc2) w9 o8'.sl o9.sl)
                rw [hlen] at HF8 o9 o8 ⊢
                have O9 := Lib.hid o9
                have HL1 := Lib.hid hl1
                have HL2 := Lib.hid hl2
                have HLEN := Lib.hid hlen
                clear hin o8 o8' o9 b9 hl1 hl2 y0 y1 y2 y3
                go_wp2_with fail
                refine HF8.out.mono ?_
                rintro e w10 ⟨rfl, b10⟩
                have B10 := Lib.hid (B9.out.trans (b10.mono B9.out.size))
                have O10 := Lib.hid (O9.out.below b10)
                clear b10
                go_wp2
                go_loopw [27, 28] (fun sm x w11 => ∃ (q : Nat) (S : Bool), 1 ≤ q ∧ q ≤ m ∧ x = .int .i64 q ∧ sm = .bool S ∧ Hid (S = sameTo F q) ∧ Below w10.heap.size w10 w11) (fun _ x _ => m - (intOf x).toNat)
                case atStart => exact ⟨1, true, Nat.le_refl _, hm1', rfl, rfl, Lib.hid (sameTo_one (by have := HLEN.out; omega)).symm, Below.refl _ _⟩
                case round =>
                  skip
                  obtain ⟨q, S, hq1, hq2, rfl, rfl, hS, hbq⟩ := hrel
                  have o7 := O10.out.below hbq
                  obtain ⟨fb', fo', fc', he, g0⟩ := o7.sl.first (by have := HLEN.out; omega)
                  simp only [Value.slice.injEq, Option.some.injEq, Addr.mk.injEq] at he
                  obtain ⟨⟨rfl, rfl, _⟩, hmF, rfl⟩ := he
                  clear hmF
                  by_cases hqm : q < m
                  · have hqF : q < F.length := by have := HLEN.out; omega
                    obtain ⟨b', o', he, g1⟩ := o7.sl.nth hqF
                    simp only [Option.some.injEq, Addr.mk.injEq] at he
                    obtain ⟨rfl, rfl, _⟩ := he
                    have hst := sameTo_succ hqF
                    rw [← hS.out] at hst
                    generalize F[q] = z at g1 hst
                    obtain ⟨y, hy⟩ : ∃ y, y = hdI F := ⟨_, rfl⟩
                    rw [← hy] at g0 hst
                    have i4 : (q : Int) < (m : Int) := by omega
                    have i5 : (0 : Int) ≤ (q : Int) := by omega
                    have i6 : (0 : Int) < (m : Int) := by omega
                    have i7 : 0 < m := by omega
                    have k3 := fun d os => cell_regrown g0 d os
                    have k4 := fun d os => cell_regrown g1 d os
                    have HST := Lib.hid hst
                    clear hy hst o7
                    cases S
                    · skip
                      go_wp2_with fail
                      refine wp_region_quiet_below (by kernel_rfl) (by kernel_rfl) ?_
                      repeat (first | go_big_quiet_skip | quiet_step (fail))
                      refine wpQuiet_nil ?_
                      intro _ hw'
                      obtain ⟨⟨dq, osq⟩, hw''⟩ := hw'
                      subst hw''
                      have bq := hbq.trans ((below_regrown wr dq osq).mono hbq.size)
                      generalize grow (redrawn wr dq) osq = wq at bq ⊢
                      clear k3 k4 g0 g1
                      go_wp2
                      go_roundw
                      case rel => exact ⟨q + 1, false, by omega, by omega, by go_num, rfl, Lib.hid (by rw [HST.out]; rfl), bq⟩
                      case measure => simp [intOf]; omega
                    · by_cases hzy : z = y
                      · have t1 : (z == y) = true := by simp [hzy]
                        have HZY := Lib.hid hzy
                        clear hzy
                        go_wp2_with fail
                        refine wp_region_quiet_below (by kernel_rfl) (by kernel_rfl) ?_
                        repeat (first | go_big_quiet_skip | quiet_step (fail))
                        refine wpQuiet_nil ?_
                        intro _ hw'
                        obtain ⟨⟨dq, osq⟩, hw''⟩ := hw'
                        subst hw''
                        have bq := hbq.trans ((below_regrown wr dq osq).mono hbq.size)
                        generalize grow (redrawn wr dq) osq = wq at bq ⊢
                        clear k3 k4 g0 g1
                        go_wp2
                        go_roundw
                        case rel => exact ⟨q + 1, true, by omega, by omega, by go_num, rfl, Lib.hid (by rw [HST.out, HZY.out]; simp), bq⟩
                        case measure => simp [intOf]; omega
                      · have t1 : (z == y) = false := by simp [hzy]
                        have HZY := Lib.hid hzy
                        clear hzy
                        go_wp2_with fail
                        refine wp_region_quiet_below (by kernel_rfl) (by kernel_rfl) ?_
                        repeat (first | go_big_quiet_skip | quiet_step (fail))
                        refine wpQuiet_nil ?_
                        intro _ hw'
                        obtain ⟨⟨dq, osq⟩, hw''⟩ := hw'
                        subst hw''
                        have bq := hbq.trans ((below_regrown wr dq osq).mono hbq.size)
                        generalize grow (redrawn wr dq) osq = wq at bq ⊢
                        clear k3 k4 g0 g1
                        go_wp2
                        go_roundw
                        case rel => exact ⟨q + 1, false, by omega, by omega, by go_num, rfl, Lib.hid (by rw [HST.out]; simp [HZY.out]), bq⟩
                        case measure => simp [intOf]; omega
                  · obtain rfl : q = m := by omega
                    have hSA : S = allAs F := by rw [hS.out, ← HLEN.out, sameTo_all]
                    have hSL := HL1.out
                    rw [← hSA] at hSL
                    have HB9 := Lib.hid (B10.out.trans (hbq.mono B10.out.size))
                    have i6 : (0 : Int) < (q : Int) := by omega
                    have i7 : 0 < q := by omega
                    by_cases hjl : lst ≤ (j : Int)
                    · obtain rfl : S = true := by rw [hSL]; simp [hjl]
                      rw [HL2.out hSA.symm] at g0
                      clear hSA hSL o7
                      go_wp2
                      go_roundw
                      case rel => exact ⟨j + 1, by omega, by go_num, HB9.out⟩
                      case measure => simp [intOf]; omega
                    · obtain rfl : S = false := by rw [hSL]; simp [hjl]
                      clear hSA hSL g0 o7
                      go_wp2
                      go_roundw
                      case rel => exact ⟨j + 1, by omega, by go_num, HB9.out⟩
                      case measure => simp [intOf]; omega
          · have i1 : ¬ (j : Int) ≤ (L : Int) := by omega
            have bx := B3.out.trans (hbw.mono B3.out.size)
            have hfin := HFIN.out
            rcases hfin with ⟨rfl, h | h⟩ | ⟨rfl, _, rfl, hbe, ⟨rfl, rfl⟩ | ⟨hbp, hbe2⟩⟩
            · exact absurd h (by decide)
            · have r2 : IntKind.i64.wrap (2 * lst) = 2 * lst := IntWalk.i64_in _ (by omega)
              go_wp2
              go_ret
              exact ⟨rfl, bx⟩
            · go_wp2
              go_ret
              exact ⟨rfl, bx⟩
            · have r2 : IntKind.i64.wrap (2 * lst) = 2 * lst := IntWalk.i64_in _ (by omega)
              have t1 : (d == d) = true := by simp
              have t2 : (lst == (0 : Int)) = false := by rw [beq_eq_false_iff_ne]; omega
              go_wp2
              go_ret
              exact ⟨rfl, bx⟩
      · skip
        go_wp2
        go_loopw [20] (fun i wr => ∃ (j : Nat), j ≤ L + 1 ∧ i = .int .i64 j ∧ Below w3.heap.size w3 wr) (fun i _ => L + 1 - (intOf i).toNat)
        case atStart => exact ⟨0, by omega, rfl, B7.out⟩
        case round =>
          clear B7
          obtain ⟨j, hj, rfl, hbw⟩ := hrel
          have HBW := Lib.hid hbw
          by_cases hc1 : j ≤ L
          · have i1 : (j : Int) ≤ (L : Int) := by omega
            have own0 := Lib.hid (OwnI.empty wr (base := wr.heap.size) (Nat.le_refl _))
            have b30 := Lib.hid ((Below.refl wr.heap.size wr).alloc (Nat.le_refl _) (.cells #[] 2))
            have htl : (ps.take j).length = j := by have := HL.out; rw [List.length_take]; omega
            have HTL := Lib.hid htl
            clear hbw htl
            obtain ⟨wo, rfl⟩ : ∃ wo : World, wo = wr := ⟨_, rfl⟩
            go_wp2
            go_loopw [21, 22] (fun tv k wr => ∃ q : Nat, q ≤ j ∧ k = .int .i64 ((q : Int) - 1) ∧ OwnI wr wo.heap.size tv ((ps.take j).drop q).reverse ∧ Below wo.heap.size wo wr) (fun _ k _ => (intOf k + 1).toNat)
            case atStart => exact ⟨j, Nat.le_refl _, rfl, by rw [List.drop_of_length_le (by have := HTL.out; omega)]; exact own0.out, b30.out⟩
            case round =>
              clear own0 b30
              obtain ⟨q, hq, rfl, hown, hbr⟩ := hrel
              have HO := Lib.hid hown
              have HBR := Lib.hid hbr
              have hlr : ((ps.take j).drop q).reverse.length < 16777216 := by rw [List.length_reverse, List.length_drop]; have := HTL.out; omega
              have hzr : wo.heap.size ≤ wr.heap.size := hbr.size
              have bwr := HBW.out.trans (hbr.mono HBW.out.size)
              clear hown hbr
              by_cases hq0 : 0 < q
              · obtain ⟨q, rfl⟩ : ∃ k, q = k + 1 := ⟨q - 1, by omega⟩
                have e0 : ((q + 1 : Nat) : Int) - 1 = (q : Int) := by omega
                simp only [e0]
                have hqj : q < (ps.take j).length := by have := HTL.out; omega
                have hqp : q < ps.length := by have := HL.out; omega
                have i0 : (0 : Int) ≤ (q : Int) := by omega
                have i2 : (q : Int) < (L : Int) := by omega
                obtain ⟨db, doff, rfl, gd⟩ := (HP.out _ bwr).nth hqp
                have hdr : ((ps.take j).drop q).reverse = ((ps.take j).drop (q + 1)).reverse ++ [ps[q]] := by rw [List.drop_eq_getElem_cons hqj, List.reverse_cons]; simp
                generalize ps[q] = x at gd hdr
                have HDR := Lib.hid hdr
                have ho := HO.out
                clear hdr e0 bwr HO
                generalize ((ps.take j).drop (q + 1)).reverse = RV at ho hlr HDR
                go_wp2_with (at_builtin; refine append_i64 _ x _ _ rfl rfl rfl ho rfl hlr hzr ?_)
                intro v5 w5 o5 b5 z5
                have hb5 : Below wo.heap.size wo w5 := (HBR.out.alloc hzr _).trans b5
                clear b5 ho
                go_wp2
                go_roundw
                case rel => exact ⟨q, by omega, rfl, by rw [HDR.out]; exact o5, hb5⟩
                case measure => simp [intOf]
              · obtain rfl : q = 0 := by omega
                have SU := Lib.hid (show SlI wr u21 (ps.take j).reverse from by have := HO.out.sl; rwa [List.drop_zero] at this)
                have HB8 := Lib.hid bwr
                have HPR := Lib.hid (show PicksB ms.length (ps.take j).reverse from (HPB.out.take j).rev)
                have HRL := Lib.hid (show (ps.take j).reverse.length ≤ 100 from by rw [List.length_reverse, HTL.out]; omega)
                have HTOP := Lib.hid (show seqM ms m (ps.take j).reverse = pastM ms m ps j from rfl)
                obtain ⟨x0, x1, x2, x3⟩ := X3.out.below bwr
                generalize (ps.take j).reverse = TR at SU HPR HRL HTOP
                obtain ⟨tra, trc, rfl, _, _, _⟩ := id SU.out
                have SUU := Lib.hid (fun W (h : Below wr.heap.size wr W) => SU.out.below h)
                clear bwr HO hlr hq0 hq HBR
                go_wp2_with fail
                refine (ImplApplyPicks_any m _ (HA3.out _ HB8.out) SU.out HV.out HPR.out HRL.out).mono ?_
                rintro e w8 ⟨u, rfl, o8, b8⟩
                have B8 := Lib.hid (HB8.out.trans (b8.mono HB8.out.size))
                have SU8 := Lib.hid (SUU.out _ b8)
                obtain ⟨y0, y1, y2, y3⟩ := X3.out.below B8.out
                clear x0 x1 x2 x3 b8 SUU
                go_wp2_with fail
                refine (SpecApplyPicks_any m _ (HA3.out _ B8.out) SU8.out HV.out HPR.out HRL.out).mono ?_
                rintro e w9 ⟨u2, rfl, o9, b9⟩
                have B9 := Lib.hid (B8.out.trans (b9.mono B8.out.size))
                have o8' := o8.below b9
                rw [HTOP.out] at o8' o9
                obtain ⟨hin, hlen⟩ := pastM_in HV.out HPB.out j
                obtain ⟨hl1, hl2⟩ := HLAW.out j (by have := HL.out; omega)
                generalize pastM ms m ps j = F at o8' o9 hl1 hl2 hlen
                obtain ⟨ua, uc, rfl, _, _, _⟩ := id o8'.sl
                obtain ⟨ub, uo, uc2, rfl, _⟩ := o9.sl.first (by omega)
                have HF8 := Lib.hid (f6ints_refl (u := .slice ua F.length uc) (v := .slice (some ⟨ub, uo, none⟩) F.length uc2) w9 o8'.sl o9.sl)
                rw [hlen] at HF8 o9 o8 ⊢
                have O9 := Lib.hid o9
                have HL1 := Lib.hid hl1
                have HL2 := Lib.hid hl2
                have HLEN := Lib.hid hlen
                clear hin o8 o8' o9 b9 hl1 hl2 y0 y1 y2 y3
                go_wp2_with fail
                refine HF8.out.mono ?_
                rintro e w10 ⟨rfl, b10⟩
                have B10 := Lib.hid (B9.out.trans (b10.mono B9.out.size))
                have O10 := Lib.hid (O9.out.below b10)
                clear b10
                go_wp2
                go_loopw [27, 28] (fun sm x w11 => ∃ (q : Nat) (S : Bool), 1 ≤ q ∧ q ≤ m ∧ x = .int .i64 q ∧ sm = .bool S ∧ Hid (S = sameTo F q) ∧ Below w10.heap.size w10 w11) (fun _ x _ => m - (intOf x).toNat)
                case atStart => exact ⟨1, true, Nat.le_refl _, hm1', rfl, rfl, Lib.hid (sameTo_one (by have := HLEN.out; omega)).symm, Below.refl _ _⟩
                case round =>
                  skip
                  obtain ⟨q, S, hq1, hq2, rfl, rfl, hS, hbq⟩ := hrel
                  have o7 := O10.out.below hbq
                  obtain ⟨fb', fo', fc', he, g0⟩ := o7.sl.first (by have := HLEN.out; omega)
                  simp only [Value.slice.injEq, Option.some.injEq, Addr.mk.injEq] at he
                  obtain ⟨⟨rfl, rfl, _⟩, hmF, rfl⟩ := he
                  clear hmF
                  by_cases hqm : q < m
                  · have hqF : q < F.length := by have := HLEN.out; omega
                    obtain ⟨b', o', he, g1⟩ := o7.sl.nth hqF
                    simp only [Option.some.injEq, Addr.mk.injEq] at he
                    obtain ⟨rfl, rfl, _⟩ := he
                    have hst := sameTo_succ hqF
                    rw [← hS.out] at hst
                    generalize F[q] = z at g1 hst
                    obtain ⟨y, hy⟩ : ∃ y, y = hdI F := ⟨_, rfl⟩
                    rw [← hy] at g0 hst
                    have i4 : (q : Int) < (m : Int) := by omega
                    have i5 : (0 : Int) ≤ (q : Int) := by omega
                    have i6 : (0 : Int) < (m : Int) := by omega
                    have i7 : 0 < m := by omega
                    have k3 := fun d os => cell_regrown g0 d os
                    have k4 := fun d os => cell_regrown g1 d os
                    have HST := Lib.hid hst
                    clear hy hst o7
                    cases S
                    · skip
                      go_wp2_with fail
                      refine wp_region_quiet_below (by kernel_rfl) (by kernel_rfl) ?_
                      repeat (first | go_big_quiet_skip | quiet_step (fail))
                      refine wpQuiet_nil ?_
                      intro _ hw'
                      obtain ⟨⟨dq, osq⟩, hw''⟩ := hw'
                      subst hw''
                      have bq := hbq.trans ((below_regrown wr dq osq).mono hbq.size)
                      generalize grow (redrawn wr dq) osq = wq at bq ⊢
                      clear k3 k4 g0 g1
                      go_wp2
                      go_roundw
                      case rel => exact ⟨q + 1, false, by omega, by omega, by go_num, rfl, Lib.hid (by rw [HST.out]; rfl), bq⟩
                      case measure => simp [intOf]; omega
                    · by_cases hzy : z = y
                      · have t1 : (z == y) = true := by simp [hzy]
                        have HZY := Lib.hid hzy
                        clear hzy
                        go_wp2_with fail
                        refine wp_region_quiet_below (by kernel_rfl) (by kernel_rfl) ?_
                        repeat (first | go_big_quiet_skip | quiet_step (fail))
                        refine wpQuiet_nil ?_
                        intro _ hw'
                        obtain ⟨⟨dq, osq⟩, hw''⟩ := hw'
                        subst hw''
                        have bq := hbq.trans ((below_regrown wr dq osq).mono hbq.size)
                        generalize grow (redrawn wr dq) osq = wq at bq ⊢
                        clear k3 k4 g0 g1
                        go_wp2
                        go_roundw
                        case rel => exact ⟨q + 1, true, by omega, by omega, by go_num, rfl, Lib.hid (by rw [HST.out, HZY.out]; simp), bq⟩
                        case measure => simp [intOf]; omega
                      · have t1 : (z == y) = false := by simp [hzy]
                        have HZY := Lib.hid hzy
                        clear hzy
                        go_wp2_with fail
                        refine wp_region_quiet_below (by kernel_rfl) (by kernel_rfl) ?_
                        repeat (first | go_big_quiet_skip | quiet_step (fail))
                        refine wpQuiet_nil ?_
                        intro _ hw'
                        obtain ⟨⟨dq, osq⟩, hw''⟩ := hw'
                        subst hw''
                        have bq := hbq.trans ((below_regrown wr dq osq).mono hbq.size)
                        generalize grow (redrawn wr dq) osq = wq at bq ⊢
                        clear k3 k4 g0 g1
                        go_wp2
                        go_roundw
                        case rel => exact ⟨q + 1, false, by omega, by omega, by go_num, rfl, Lib.hid (by rw [HST.out]; simp [HZY.out]), bq⟩
                        case measure => simp [intOf]; omega
                  · obtain rfl : q = m := by omega
                    have hSA : S = allAs F := by rw [hS.out, ← HLEN.out, sameTo_all]
                    have hSL := HL1.out
                    rw [← hSA] at hSL
                    have HB9 := Lib.hid (B10.out.trans (hbq.mono B10.out.size))
                    have i6 : (0 : Int) < (q : Int) := by omega
                    have i7 : 0 < q := by omega
                    by_cases hjl : ((L : Int) + 1) ≤ (j : Int)
                    · obtain rfl : S = true := by rw [hSL]; simp [hjl]
                      rw [HL2.out hSA.symm] at g0
                      clear hSA hSL o7
                      go_wp2
                      go_roundw
                      case rel => exact ⟨j + 1, by omega, by go_num, HB9.out⟩
                      case measure => simp [intOf]; omega
                    · obtain rfl : S = false := by rw [hSL]; simp [hjl]
                      clear hSA hSL g0 o7
                      go_wp2
                      go_roundw
                      case rel => exact ⟨j + 1, by omega, by go_num, HB9.out⟩
                      case measure => simp [intOf]; omega
          · have i1 : ¬ (j : Int) ≤ (L : Int) := by omega
            have bx := B3.out.trans (hbw.mono B3.out.size)
            have hfin := HFIN.out
            rcases hfin with ⟨rfl, h⟩ | ⟨rfl, h, _⟩
            · go_wp2
              go_ret
              exact ⟨rfl, bx⟩
            · exact absurd h (by decide)
end Go.Proofs.Ytghdginjdolgpaa
