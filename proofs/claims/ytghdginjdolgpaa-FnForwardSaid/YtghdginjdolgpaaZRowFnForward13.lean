/-
  FnForward: the law answers true for all texts of bytes.
-/
import Derived.Test.YtghdginjdolgpaaZRowFnForward12
set_option linter.unusedVariables false
set_option linter.unusedSimpArgs false
namespace Go.Proofs.Ytghdginjdolgpaa
open Go.RowKit Go.Sort
set_option maxRecDepth 100000 in
set_option maxHeartbeats 16000000 in
theorem FnForward_walk {xs ys : List Int} (a0 a1 : Option Addr) (n0 n1 c0 c1 : Nat) (w : World) (hn0 : n0 ≤ maxLen) (hn1 : n1 ≤ maxLen) (hx : xs.length = n0) (hr : Rd w a0 (xs.map (.int .u8))) (hb : ∀ x ∈ xs, 0 ≤ x ∧ x < 256)
    (hx1 : ys.length = n1) (hr1 : Rd w a1 (ys.map (.int .u8))) (hb1 : ∀ x ∈ ys, 0 ≤ x ∧ x < 256) :
    Calls Try.prog 4 #[.slice a0 n0 c0, .slice a1 n1 c1] w fun e w' => e = .returned (.bool true) ∧ Below w.heap.size w w' := by
  have HR := Lib.hid hr
  have HB := Lib.hid hb
  have HX := Lib.hid hx
  have HR1 := Lib.hid (fun W (h : Below w.heap.size w W) => hr1.below h)
  have HB1 := Lib.hid hb1
  have HX1 := Lib.hid hx1
  have HN0 := Lib.hid hn0
  have HN1 := Lib.hid hn1
  clear hr hb hx hr1 hb1 hx1 hn0 hn1
  generalize hd0 : decide (4096 < n0) = d0
  generalize hd1 : decide (4096 < n1) = d1
  have HD0 := Lib.hid hd0
  have HD1 := Lib.hid hd1
  clear hd0 hd1
  cases d0
  case true =>
    go_enter Try.func4, Try.ntmps4
    go_wp2_with fail
    refine (f6big_any a0 n0 c0 _ HN0.out).mono ?_
    rintro e w1 ⟨rfl, rfl⟩
    rw [HD0.out]
    go_wp2
    go_ret
    exact ⟨rfl, Below.refl _ _⟩
  case false =>
    cases d1
    case true =>
      go_enter Try.func4, Try.ntmps4
      go_wp2_with fail
      refine (f6big_any a0 n0 c0 _ HN0.out).mono ?_
      rintro e w1 ⟨rfl, rfl⟩
      rw [HD0.out]
      go_wp2_with fail
      refine (f6big_any a1 n1 c1 _ HN1.out).mono ?_
      rintro e w1 ⟨rfl, rfl⟩
      rw [HD1.out]
      go_wp2
      go_ret
      exact ⟨rfl, Below.refl _ _⟩
    case false =>
      have h40 := Lib.hid (show n0 ≤ 4096 by have := HD0.out; rw [decide_eq_false_iff_not] at this; omega)
      have h41 := Lib.hid (show n1 ≤ 4096 by have := HD1.out; rw [decide_eq_false_iff_not] at this; omega)
      go_enter Try.func4, Try.ntmps4
      go_wp2_with fail
      refine (f6big_any a0 n0 c0 _ HN0.out).mono ?_
      rintro e w1 ⟨rfl, rfl⟩
      rw [HD0.out]
      go_wp2_with fail
      refine (f6big_any a1 n1 c1 _ HN1.out).mono ?_
      rintro e w1 ⟨rfl, rfl⟩
      rw [HD1.out]
      go_wp2_with fail
      refine (P6Maps_any a0 n0 c0 4 _ h40.out HX.out HR.out HB.out (by decide) (by decide)).mono ?_
      rintro e w1 ⟨m, t, v, ms, rfl, hm4, hok, hl3, o1, b1⟩
      have HV := Lib.hid hok
      obtain ⟨⟨hm1, hm2⟩, _, ⟨hl1, _⟩, _⟩ := id hok
      have S1 := Lib.hid o1.sl
      obtain ⟨va, vc, rfl, hvc, hvc2⟩ := o1.sl.form
      unfold maxLen at hvc2
      obtain ⟨ml, hml⟩ : ∃ ml, ml = ms.length := ⟨_, rfl⟩
      rw [← hml] at hvc S1 hl1 hl3 ⊢
      have HML := Lib.hid hml
      obtain ⟨W2, hW2⟩ : ∃ W2, W2 = w1.alloc (.cells #[.int .i64 m, .int .i64 t, .slice va ml vc] 43) := ⟨_, rfl⟩
      have b2 : Below w1.heap.size w1 W2 := by rw [hW2]; exact (Below.refl _ _).alloc (Nat.le_refl _) _
      have X2 := Lib.hid (show MpAt W2 w1.heap.size m t (.slice va ml vc) by rw [hW2]; exact MpAt.new w1 m t _)
      have HA := Lib.hid (fun W (h : Below W2.heap.size W2 W) => (S1.out.below b2).below h)
      have B2 := Lib.hid (b1.trans (b2.mono b1.size))
      have HW2 := Lib.hid hW2
      obtain ⟨x0, x1, x2, x3⟩ := X2.out
      have hm1' : 1 ≤ m := by omega
      clear b1 b2 hok o1 hW2 hml hm1 hm2
      go_wp2_with fail
      rw [← HW2.out]
      go_wp2_with fail
      refine (P6Draws_any a1 n1 c1 ml 12 _ h41.out HX1.out (HR1.out _ B2.out) HB1.out hl1 (by decide)).mono ?_
      rintro e w3 ⟨pv, ps, rfl, hpb, hpl, o3, b3⟩
      have HPB := Lib.hid (show PicksB ms.length ps from by rw [← HML.out]; exact hpb)
      have X3 := Lib.hid (X2.out.below b3)
      have HP := Lib.hid (fun W (h : Below w3.heap.size w3 W) => o3.sl.below h)
      have HA3 := Lib.hid (fun W (h : Below w3.heap.size w3 W) => HA.out W (b3.trans (h.mono b3.size)))
      have B3 := Lib.hid (B2.out.trans (b3.mono B2.out.size))
      obtain ⟨pa, pc, rfl, hpc, hpc2, _⟩ := id o3.sl
      unfold maxLen at hpc2
      obtain ⟨L, hL⟩ : ∃ L, L = ps.length := ⟨_, rfl⟩
      rw [← hL] at hpc hpl HP ⊢
      have HL := Lib.hid hL
      obtain ⟨y0, y1, y2, y3⟩ := X3.out
      clear x0 x1 x2 x3 hpb o3 b3 hL HR HB HX HR1 HB1 HX1 HN0 HN1 HD0 HD1
      have hV3 := Lib.hid (show mapsOk (m : Nat) t ms from HV.out)
      go_wp2_with fail
      refine (ImplForwardRun_any m _ (HA3.out _ (Below.refl _ _)) (HP.out _ (Below.refl _ _)) HV.out HPB.out (by have := HL.out; omega)).mono ?_
      rintro e w4 ⟨rfl, b4⟩
      obtain ⟨a, b, c, lst, hF, hc, hlaw⟩ := firstR_law ps.length (fwM ms m ps)
      rw [hF, show tupJ (a, b, c) = .tuple #[.int .i64 a, .int .i64 b, .int .i64 c] from rfl]
      have HF := Lib.hid hF
      have HLAW := Lib.hid hlaw
      have B4 := Lib.hid b4
      rw [← HL.out] at hc
      obtain ⟨z0, z1, z2, z3⟩ := X3.out.below b4
      clear y0 y1 y2 y3 hF hlaw b4
      go_wp2_with fail
      refine (SpecForwardRun_any m _ (HA3.out _ B4.out) (HP.out _ B4.out) HV.out HPB.out (by have := HL.out; omega)).mono ?_
      rintro e w5 ⟨rfl, b5⟩
      rw [HF.out, show tupJ (a, b, c) = .tuple #[.int .i64 a, .int .i64 b, .int .i64 c] from rfl]
      have B5 := Lib.hid (B4.out.trans (b5.mono B4.out.size))
      have e1 : (a != a) = false := by simp
      have e2 : (b != b) = false := by simp
      have e3 : (c != c) = false := by simp
      clear z0 z1 z2 z3 b5
      have hlt9 : lst ≤ (L : Int) + 1 := by rcases hc with ⟨_, rfl, _, _⟩ | ⟨_, rfl⟩ <;> omega
      have hc9 : c = 0 ∧ lst = b ∨ c = 6 ∧ lst = (L : Int) + 1 := by
        rcases hc with ⟨rfl, rfl, _, _⟩ | ⟨rfl, rfl⟩
        · exact .inl ⟨rfl, rfl⟩
        · exact .inr ⟨rfl, rfl⟩
      clear hc
      rcases hc9 with ⟨rfl, rfl⟩ | ⟨rfl, rfl⟩
      · skip
        have r1 : IntKind.i64.wrap ((L : Int) + 1) = (L : Int) + 1 := IntWalk.i64_in _ (by omega)
        go_wp2
        go_loopw [14] (fun i wr => ∃ (j : Nat), j ≤ L + 1 ∧ i = .int .i64 j ∧ Below w3.heap.size w3 wr) (fun i _ => L + 1 - (intOf i).toNat)
        case atStart => exact ⟨0, by omega, rfl, B5.out⟩
        case round =>
          clear B5 B4
          obtain ⟨j, hj, rfl, hbw⟩ := hrel
          have HBW := Lib.hid hbw
          by_cases hc1 : j ≤ L
          · have i1 : (j : Int) ≤ (L : Int) := by omega
            by_cases hc2 : (j : Int) ≤ lst
            · have i2 : (j : Int) ≤ (pc : Int) := by omega
              have i0 : (0 : Int) ≤ (j : Int) := by omega
              obtain ⟨x0, x1, x2, x3⟩ := X3.out.below hbw
              have k0 := fun d os => cell_regrown x1 d os
              have k1 := fun d os => cell_regrown x2 d os
              have k2 := fun d os => cell_regrown x3 d os
              have HPT := Lib.hid ((HP.out _ hbw).takeJ (i := j) (by have := HL.out; omega))
              clear hbw
              go_wp2_with fail
              go_region_law (first
                | (go_simp; go_at_call 21; refine (ImplApplyPicks_any m _ ((HA3.out _ HBW.out).below (by (repeat (first | exact Below.refl _ _ | refine Below.drew ?_ | refine Below.alloc ?_ (by simp) _)))) (HPT.out.below (by (repeat (first | exact Below.refl _ _ | refine Below.drew ?_ | refine Below.alloc ?_ (by simp) _)))) HV.out (HPB.out.take j) (by have := HL.out; rw [List.length_take]; omega)).mono ?_; rintro e w6 ⟨u, rfl, o6, b6⟩; have bw6 := below_of (a := wr) (by (repeat (first | exact Below.refl _ _ | refine Below.drew ?_ | refine Below.alloc ?_ (by simp) _))) b6)
                | fail "no arm")
              all_goals
                have hlaw := HLAW.out j (by have := HL.out; omega) hc2
                obtain ⟨hin, hlen⟩ := fwM_in HV.out HPB.out j
                have o6 : OwnI w6 wr.heap.size u (fwM ms m ps j) := o6
                generalize fwM ms m ps j = F at o6 hlaw hlen
                obtain ⟨hl1, hl2⟩ := hlaw
                obtain ⟨fb, fo, fc, rfl, g0⟩ := o6.sl.first (by omega)
                rw [hlen] at o6 ⊢
                have O6 := Lib.hid o6
                have BW6 := Lib.hid (HBW.out.trans (bw6.mono HBW.out.size))
                obtain ⟨x0, x1, x2, x3⟩ := X3.out.below BW6.out
                have HL1 := Lib.hid hl1
                have HL2 := Lib.hid hl2
                have HLEN := Lib.hid hlen
                have hmm : ((m : Int) != (m : Int)) = false := by simp
                clear hin o6 b6 bw6 hl1 hl2 g0 k0 k1 k2 HPT i2
                go_wp2
                go_loopw [17, 18] (fun sm x w7 => ∃ (q : Nat) (S : Bool), 1 ≤ q ∧ q ≤ m ∧ x = .int .i64 q ∧ sm = .bool S ∧ Hid (S = sameTo F q) ∧ Below w6.heap.size w6 w7) (fun _ x _ => m - (intOf x).toNat)
                case atStart => exact ⟨1, true, Nat.le_refl _, hm1', rfl, rfl, Lib.hid (sameTo_one (by have := HLEN.out; omega)).symm, Below.refl _ _⟩
                case round =>
                  clear x0 x1 x2 x3
                  obtain ⟨q, S, hq1, hq2, rfl, rfl, hS, hbq⟩ := hrel
                  have o7 := O6.out.below hbq
                  obtain ⟨fb', fo', fc', he, g0⟩ := o7.sl.first (by have := HLEN.out; omega)
                  simp only [Value.slice.injEq, Option.some.injEq, Addr.mk.injEq] at he
                  obtain ⟨⟨rfl, rfl, _⟩, hmF, rfl⟩ := he
                  clear hmF
                  by_cases hqm : q < m
                  · have hqF : q < F.length := by have := HLEN.out; omega
                    obtain ⟨b', o', he, g1⟩ := o7.sl.nth hqF
                    simp only [Option.some.injEq, Addr.mk.injEq] at he
                    obtain ⟨rfl, rfl, _⟩ := he
                    have hst := sameTo_succ hqF
                    rw [← hS.out] at hst
                    generalize F[q] = z at g1 hst
                    obtain ⟨y, hy⟩ : ∃ y, y = hdI F := ⟨_, rfl⟩
                    rw [← hy] at g0 hst
                    have i4 : (q : Int) < (m : Int) := by omega
                    have i5 : (0 : Int) ≤ (q : Int) := by omega
                    have i6 : (0 : Int) < (m : Int) := by omega
                    have i7 : 0 < m := by omega
                    have k3 := fun d os => cell_regrown g0 d os
                    have k4 := fun d os => cell_regrown g1 d os
                    have HST := Lib.hid hst
                    clear hy hst o7
                    cases S
                    · skip
                      go_wp2_with fail
                      refine wp_region_quiet_below (by kernel_rfl) (by kernel_rfl) ?_
                      repeat (first | go_big_quiet_skip | quiet_step (fail))
                      refine wpQuiet_nil ?_
                      intro _ hw'
                      obtain ⟨⟨dq, osq⟩, hw''⟩ := hw'
                      subst hw''
                      have bq := hbq.trans ((below_regrown wr dq osq).mono hbq.size)
                      generalize grow (redrawn wr dq) osq = wq at bq ⊢
                      clear k3 k4 g0 g1
                      go_wp2
                      go_roundw
                      case rel => exact ⟨q + 1, false, by omega, by omega, by go_num, rfl, Lib.hid (by rw [HST.out]; rfl), bq⟩
                      case measure => simp [intOf]; omega
                    · by_cases hzy : z = y
                      · have t1 : (z == y) = true := by simp [hzy]
                        have HZY := Lib.hid hzy
                        clear hzy
                        go_wp2_with fail
                        refine wp_region_quiet_below (by kernel_rfl) (by kernel_rfl) ?_
                        repeat (first | go_big_quiet_skip | quiet_step (fail))
                        refine wpQuiet_nil ?_
                        intro _ hw'
                        obtain ⟨⟨dq, osq⟩, hw''⟩ := hw'
                        subst hw''
                        have bq := hbq.trans ((below_regrown wr dq osq).mono hbq.size)
                        generalize grow (redrawn wr dq) osq = wq at bq ⊢
                        clear k3 k4 g0 g1
                        go_wp2
                        go_roundw
                        case rel => exact ⟨q + 1, true, by omega, by omega, by go_num, rfl, Lib.hid (by rw [HST.out, HZY.out]; simp), bq⟩
                        case measure => simp [intOf]; omega
                      · have t1 : (z == y) = false := by simp [hzy]
                        have HZY := Lib.hid hzy
                        clear hzy
                        go_wp2_with fail
                        refine wp_region_quiet_below (by kernel_rfl) (by kernel_rfl) ?_
                        repeat (first | go_big_quiet_skip | quiet_step (fail))
                        refine wpQuiet_nil ?_
                        intro _ hw'
                        obtain ⟨⟨dq, osq⟩, hw''⟩ := hw'
                        subst hw''
                        have bq := hbq.trans ((below_regrown wr dq osq).mono hbq.size)
                        generalize grow (redrawn wr dq) osq = wq at bq ⊢
                        clear k3 k4 g0 g1
                        go_wp2
                        go_roundw
                        case rel => exact ⟨q + 1, false, by omega, by omega, by go_num, rfl, Lib.hid (by rw [HST.out]; simp [HZY.out]), bq⟩
                        case measure => simp [intOf]; omega
                  · obtain rfl : q = m := by omega
                    have hSA : S = allAs F := by rw [hS.out, ← HLEN.out, sameTo_all]
                    have hSL := HL1.out
                    rw [← hSA] at hSL
                    have HB9 := Lib.hid (BW6.out.trans (hbq.mono BW6.out.size))
                    have i6 : (0 : Int) < (q : Int) := by omega
                    have i7 : 0 < q := by omega
                    by_cases hjl : (j : Int) = lst
                    · obtain rfl : S = true := by rw [hSL]; simp [hjl]
                      rw [HL2.out hSA.symm] at g0
                      have t1 : ((j : Int) == lst) = true := by rw [beq_iff_eq]; exact hjl
                      clear hSA hSL hjl o7
                      go_wp2
                      go_roundw
                      case rel => exact ⟨j + 1, by omega, by go_num, HB9.out⟩
                      case measure => simp [intOf]; omega
                    · obtain rfl : S = false := by rw [hSL]; simp [hjl]
                      have t1 : ((j : Int) == lst) = false := by rw [beq_eq_false_iff_ne]; exact hjl
                      clear hSA hSL hjl g0 o7
                      go_wp2
                      go_roundw
                      case rel => exact ⟨j + 1, by omega, by go_num, HB9.out⟩
                      case measure => simp [intOf]; omega
            · go_wp2
              go_ret
              exact ⟨rfl, B3.out.trans (hbw.mono B3.out.size)⟩
          · have i1 : ¬ (j : Int) ≤ (L : Int) := by omega
            go_wp2
            go_ret
            exact ⟨rfl, B3.out.trans (hbw.mono B3.out.size)⟩
      · skip
        have r1 : IntKind.i64.wrap ((L : Int) + 1) = (L : Int) + 1 := IntWalk.i64_in _ (by omega)
        go_wp2
        go_loopw [14] (fun i wr => ∃ (j : Nat), j ≤ L + 1 ∧ i = .int .i64 j ∧ Below w3.heap.size w3 wr) (fun i _ => L + 1 - (intOf i).toNat)
        case atStart => exact ⟨0, by omega, rfl, B5.out⟩
        case round =>
          clear B5 B4
          obtain ⟨j, hj, rfl, hbw⟩ := hrel
          have HBW := Lib.hid hbw
          by_cases hc1 : j ≤ L
          · have i1 : (j : Int) ≤ (L : Int) := by omega
            by_cases hc2 : (j : Int) ≤ ((L : Int) + 1)
            · have i2 : (j : Int) ≤ (pc : Int) := by omega
              have i0 : (0 : Int) ≤ (j : Int) := by omega
              obtain ⟨x0, x1, x2, x3⟩ := X3.out.below hbw
              have k0 := fun d os => cell_regrown x1 d os
              have k1 := fun d os => cell_regrown x2 d os
              have k2 := fun d os => cell_regrown x3 d os
              have HPT := Lib.hid ((HP.out _ hbw).takeJ (i := j) (by have := HL.out; omega))
              clear hbw
              go_wp2_with fail
              go_region_law (first
                | (go_simp; go_at_call 21; refine (ImplApplyPicks_any m _ ((HA3.out _ HBW.out).below (by (repeat (first | exact Below.refl _ _ | refine Below.drew ?_ | refine Below.alloc ?_ (by simp) _)))) (HPT.out.below (by (repeat (first | exact Below.refl _ _ | refine Below.drew ?_ | refine Below.alloc ?_ (by simp) _)))) HV.out (HPB.out.take j) (by have := HL.out; rw [List.length_take]; omega)).mono ?_; rintro e w6 ⟨u, rfl, o6, b6⟩; have bw6 := below_of (a := wr) (by (repeat (first | exact Below.refl _ _ | refine Below.drew ?_ | refine Below.alloc ?_ (by simp) _))) b6)
                | fail "no arm")
              all_goals
                have hlaw := HLAW.out j (by have := HL.out; omega) hc2
                obtain ⟨hin, hlen⟩ := fwM_in HV.out HPB.out j
                have o6 : OwnI w6 wr.heap.size u (fwM ms m ps j) := o6
                generalize fwM ms m ps j = F at o6 hlaw hlen
                obtain ⟨hl1, hl2⟩ := hlaw
                obtain ⟨fb, fo, fc, rfl, g0⟩ := o6.sl.first (by omega)
                rw [hlen] at o6 ⊢
                have O6 := Lib.hid o6
                have BW6 := Lib.hid (HBW.out.trans (bw6.mono HBW.out.size))
                obtain ⟨x0, x1, x2, x3⟩ := X3.out.below BW6.out
                have HL1 := Lib.hid hl1
                have HL2 := Lib.hid hl2
                have HLEN := Lib.hid hlen
                have hmm : ((m : Int) != (m : Int)) = false := by simp
                clear hin o6 b6 bw6 hl1 hl2 g0 k0 k1 k2 HPT i2
                go_wp2
                go_loopw [17, 18] (fun sm x w7 => ∃ (q : Nat) (S : Bool), 1 ≤ q ∧ q ≤ m ∧ x = .int .i64 q ∧ sm = .bool S ∧ Hid (S = sameTo F q) ∧ Below w6.heap.size w6 w7) (fun _ x _ => m - (intOf x).toNat)
                case atStart => exact ⟨1, true, Nat.le_refl _, hm1', rfl, rfl, Lib.hid (sameTo_one (by have := HLEN.out; omega)).symm, Below.refl _ _⟩
                case round =>
                  clear x0 x1 x2 x3
                  obtain ⟨q, S, hq1, hq2, rfl, rfl, hS, hbq⟩ := hrel
                  have o7 := O6.out.below hbq
                  obtain ⟨fb', fo', fc', he, g0⟩ := o7.sl.first (by have := HLEN.out; omega)
                  simp only [Value.slice.injEq, Option.some.injEq, Addr.mk.injEq] at he
                  obtain ⟨⟨rfl, rfl, _⟩, hmF, rfl⟩ := he
                  clear hmF
                  by_cases hqm : q < m
                  · have hqF : q < F.length := by have := HLEN.out; omega
                    obtain ⟨b', o', he, g1⟩ := o7.sl.nth hqF
                    simp only [Option.some.injEq, Addr.mk.injEq] at he
                    obtain ⟨rfl, rfl, _⟩ := he
                    have hst := sameTo_succ hqF
                    rw [← hS.out] at hst
                    generalize F[q] = z at g1 hst
                    obtain ⟨y, hy⟩ : ∃ y, y = hdI F := ⟨_, rfl⟩
                    rw [← hy] at g0 hst
                    have i4 : (q : Int) < (m : Int) := by omega
                    have i5 : (0 : Int) ≤ (q : Int) := by omega
                    have i6 : (0 : Int) < (m : Int) := by omega
                    have i7 : 0 < m := by omega
                    have k3 := fun d os => cell_regrown g0 d os
                    have k4 := fun d os => cell_regrown g1 d os
                    have HST := Lib.hid hst
                    clear hy hst o7
                    cases S
                    · skip
                      go_wp2_with fail
                      refine wp_region_quiet_below (by kernel_rfl) (by kernel_rfl) ?_
                      repeat (first | go_big_quiet_skip | quiet_step (fail))
                      refine wpQuiet_nil ?_
                      intro _ hw'
                      obtain ⟨⟨dq, osq⟩, hw''⟩ := hw'
                      subst hw''
                      have bq := hbq.trans ((below_regrown wr dq osq).mono hbq.size)
                      generalize grow (redrawn wr dq) osq = wq at bq ⊢
                      clear k3 k4 g0 g1
                      go_wp2
                      go_roundw
                      case rel => exact ⟨q + 1, false, by omega, by omega, by go_num, rfl, Lib.hid (by rw [HST.out]; rfl), bq⟩
                      case measure => simp [intOf]; omega
                    · by_cases hzy : z = y
                      · have t1 : (z == y) = true := by simp [hzy]
                        have HZY := Lib.hid hzy
                        clear hzy
                        go_wp2_with fail
                        refine wp_region_quiet_below (by kernel_rfl) (by kernel_rfl) ?_
                        repeat (first | go_big_quiet_skip | quiet_step (fail))
                        refine wpQuiet_nil ?_
                        intro _ hw'
                        obtain ⟨⟨dq, osq⟩, hw''⟩ := hw'
                        subst hw''
                        have bq := hbq.trans ((below_regrown wr dq osq).mono hbq.size)
                        generalize grow (redrawn wr dq) osq = wq at bq ⊢
                        clear k3 k4 g0 g1
                        go_wp2
                        go_roundw
                        case rel => exact ⟨q + 1, true, by omega, by omega, by go_num, rfl, Lib.hid (by rw [HST.out, HZY.out]; simp), bq⟩
                        case measure => simp [intOf]; omega
                      · have t1 : (z == y) = false := by simp [hzy]
                        have HZY := Lib.hid hzy
                        clear hzy
                        go_wp2_with fail
                        refine wp_region_quiet_below (by kernel_rfl) (by kernel_rfl) ?_
                        repeat (first | go_big_quiet_skip | quiet_step (fail))
                        refine wpQuiet_nil ?_
                        intro _ hw'
                        obtain ⟨⟨dq, osq⟩, hw''⟩ := hw'
                        subst hw''
                        have bq := hbq.trans ((below_regrown wr dq osq).mono hbq.size)
                        generalize grow (redrawn wr dq) osq = wq at bq ⊢
                        clear k3 k4 g0 g1
                        go_wp2
                        go_roundw
                        case rel => exact ⟨q + 1, false, by omega, by omega, by go_num, rfl, Lib.hid (by rw [HST.out]; simp [HZY.out]), bq⟩
                        case measure => simp [intOf]; omega
                  · obtain rfl : q = m := by omega
                    have hSA : S = allAs F := by rw [hS.out, ← HLEN.out, sameTo_all]
                    have hSL := HL1.out
                    rw [← hSA] at hSL
                    have HB9 := Lib.hid (BW6.out.trans (hbq.mono BW6.out.size))
                    have i6 : (0 : Int) < (q : Int) := by omega
                    have i7 : 0 < q := by omega
                    by_cases hjl : (j : Int) = ((L : Int) + 1)
                    · obtain rfl : S = true := by rw [hSL]; simp [hjl]
                      rw [HL2.out hSA.symm] at g0
                      have t1 : ((j : Int) == ((L : Int) + 1)) = true := by rw [beq_iff_eq]; exact hjl
                      clear hSA hSL hjl o7
                      go_wp2
                      go_roundw
                      case rel => exact ⟨j + 1, by omega, by go_num, HB9.out⟩
                      case measure => simp [intOf]; omega
                    · obtain rfl : S = false := by rw [hSL]; simp [hjl]
                      have t1 : ((j : Int) == ((L : Int) + 1)) = false := by rw [beq_eq_false_iff_ne]; exact hjl
                      clear hSA hSL hjl g0 o7
                      go_wp2
                      go_roundw
                      case rel => exact ⟨j + 1, by omega, by go_num, HB9.out⟩
                      case measure => simp [intOf]; omega
            · go_wp2
              go_ret
              exact ⟨rfl, B3.out.trans (hbw.mono B3.out.size)⟩
          · have i1 : ¬ (j : Int) ≤ (L : Int) := by omega
            go_wp2
            go_ret
            exact ⟨rfl, B3.out.trans (hbw.mono B3.out.size)⟩
end Go.Proofs.Ytghdginjdolgpaa
