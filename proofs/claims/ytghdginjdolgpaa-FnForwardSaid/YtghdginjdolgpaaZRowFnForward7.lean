/-
  An argument of bytes opened. With it: FnForward: the law answers true for all texts of bytes. The closed facts that all rows of this seat share, each by itself. Arguments opened: from the row's reading to the walks' words.
-/
import Derived.Test.YtghdginjdolgpaaZRowFnForward6
import Derived.Test.YtghdginjdolgpaaZRowFnForward1
import Derived.ProofKit
import Derived.OpenShut
import Derived.Lib.SmallJoins
import Derived.Deep.Slices
set_option linter.unusedVariables false
set_option linter.unusedSimpArgs false
namespace Go.Proofs.Ytghdginjdolgpaa
open Go.RowKit Go.Sort
set_option maxRecDepth 100000 in
set_option maxHeartbeats 16000000 in
theorem FnForward_walk {xs ys : List Int} (a0 a1 : Option Addr) (n0 n1 c0 c1 : Nat) (w : World) (hn0 : n0 ≤ maxLen) (hn1 : n1 ≤ maxLen) (hx : xs.length = n0) (hr : Rd w a0 (xs.map (.int .u8))) (hb : ∀ x ∈ xs, 0 ≤ x ∧ x < 256)
    (hx1 : ys.length = n1) (hr1 : Rd w a1 (ys.map (.int .u8))) (hb1 : ∀ x ∈ ys, 0 ≤ x ∧ x < 256) :
    Calls Try.prog 4 #[.slice a0 n0 c0, .slice a1 n1 c1] w fun e w' => e = .returned (.bool true) ∧ Below w.heap.size w w' := by
  have HR := Lib.hid hr
  have HB := Lib.hid hb
  have HX := Lib.hid hx
  have HR1 := Lib.hid (fun W (h : Below w.heap.size w W) => hr1.below h)
  have HB1 := Lib.hid hb1
  have HX1 := Lib.hid hx1
  have HN0 := Lib.hid hn0
  have HN1 := Lib.hid hn1
  clear hr hb hx hr1 hb1 hx1 hn0 hn1
  generalize hd0 : decide (4096 < n0) = d0
  generalize hd1 : decide (4096 < n1) = d1
  have HD0 := Lib.hid hd0
  have HD1 := Lib.hid hd1
  clear hd0 hd1
  cases d0
  case true =>
    go_enter Try.func4, Try.ntmps4
    go_wp2_with fail
    refine (f6big_any a0 n0 c0 _ HN0.out).mono ?_
    rintro e w1 ⟨rfl, rfl⟩
    rw [HD0.out]
    go_wp2
    go_ret
    exact ⟨rfl, Below.refl _ _⟩
  case false =>
    cases d1
    case true =>
      go_enter Try.func4, Try.ntmps4
      go_wp2_with fail
      refine (f6big_any a0 n0 c0 _ HN0.out).mono ?_
      rintro e w1 ⟨rfl, rfl⟩
      rw [HD0.out]
      go_wp2_with fail
      refine (f6big_any a1 n1 c1 _ HN1.out).mono ?_
      rintro e w1 ⟨rfl, rfl⟩
      rw [HD1.out]
      go_wp2
      go_ret
      exact ⟨rfl, Below.refl _ _⟩
    case false =>
      have h40 := Lib.hid (show n0 ≤ 4096 by have := HD0.out; rw [decide_eq_false_iff_not] at this; omega)
      have h41 := Lib.hid (show n1 ≤ 4096 by have := HD1.out; rw [decide_eq_false_iff_not] at this; omega)
      go_enter Try.func4, Try.ntmps4
      go_wp2_with fail
      refine (f6big_any a0 n0 c0 _ HN0.out).mono ?_
      rintro e w1 ⟨rfl, rfl⟩
      rw [HD0.out]
      go_wp2_with fail
      refine (f6big_any a1 n1 c1 _ HN1.out).mono ?_
      rintro e w1 ⟨rfl, rfl⟩
      rw [HD1.out]
      go_wp2_with fail
      refine (P6Maps_any a0 n0 c0 4 _ h40.out HX.out HR.out HB.out (by decide) (by decide)).mono ?_
      rintro e w1 ⟨m, t, v, ms, rfl, hm4, hok, hl3, o1, b1⟩
      have HV := Lib.hid hok
      obtain ⟨⟨hm1, hm2⟩, _, ⟨hl1, _⟩, _⟩ := id hok
      have S1 := Lib.hid o1.sl
      obtain ⟨va, vc, rfl, hvc, hvc2⟩ := o1.sl.form
      unfold maxLen at hvc2
      obtain ⟨ml, hml⟩ : ∃ ml, ml = ms.length := ⟨_, rfl⟩
      rw [← hml] at hvc S1 hl1 hl3 ⊢
      have HML := Lib.hid hml
      obtain ⟨W2, hW2⟩ : ∃ W2, W2 = w1.alloc (.cells #[.int .i64 m, .int .i64 t, .slice va ml vc] 43) := ⟨_, rfl⟩
      have b2 : Below w1.heap.size w1 W2 := by rw [hW2]; exact (Below.refl _ _).alloc (Nat.le_refl _) _
      have X2 := Lib.hid (show MpAt W2 w1.heap.size m t (.slice va ml vc) by rw [hW2]; exact MpAt.new w1 m t _)
      have HA := Lib.hid (fun W (h : Below W2.heap.size W2 W) => (S1.out.below b2).below h)
      have B2 := Lib.hid (b1.trans (b2.mono b1.size))
      have HW2 := Lib.hid hW2
      obtain ⟨x0, x1, x2, x3⟩ := X2.out
      have hm1' : 1 ≤ m := by omega
      clear b1 b2 hok o1 hW2 hml hm1 hm2
      go_wp2_with fail
      rw [← HW2.out]
      go_wp2_with fail
      refine (P6Draws_any a1 n1 c1 ml 12 _ h41.out HX1.out (HR1.out _ B2.out) HB1.out hl1 (by decide)).mono ?_
      rintro e w3 ⟨pv, ps, rfl, hpb, hpl, o3, b3⟩
      have HPB := Lib.hid (show PicksB ms.length ps from by rw [← HML.out]; exact hpb)
      have X3 := Lib.hid (X2.out.below b3)
      have HP := Lib.hid (fun W (h : Below w3.heap.size w3 W) => o3.sl.below h)
      have HA3 := Lib.hid (fun W (h : Below w3.heap.size w3 W) => HA.out W (b3.trans (h.mono b3.size)))
      have B3 := Lib.hid (B2.out.trans (b3.mono B2.out.size))
      obtain ⟨pa, pc, rfl, hpc, hpc2, _⟩ := id o3.sl
      unfold maxLen at hpc2
      obtain ⟨L, hL⟩ : ∃ L, L = ps.length := ⟨_, rfl⟩
      rw [← hL] at hpc hpl HP ⊢
      have HL := Lib.hid hL
      obtain ⟨y0, y1, y2, y3⟩ := X3.out
      clear x0 x1 x2 x3 hpb o3 b3 hL HR HB HX HR1 HB1 HX1 HN0 HN1 HD0 HD1
      have hV3 := Lib.hid (show mapsOk (m : Nat) t ms from HV.out)
      go_wp2_with fail
      refine (ImplForwardRun_any m _ (HA3.out _ (Below.refl _ _)) (HP.out _ (Below.refl _ _)) HV.out HPB.out (by have := HL.out; omega)).mono ?_
      rintro e w4 ⟨rfl, b4⟩
      obtain ⟨a, b, c, lst, hF, hc, hlaw⟩ := firstR_law ps.length (fwM ms m ps)
      rw [hF, show tupJ (a, b, c) = .tuple #[.int .i64 a, .int .i64 b, .int .i64 c] from rfl]
      have HF := Lib.hid hF
      have HLAW := Lib.hid hlaw
      have B4 := Lib.hid b4
      rw [← HL.out] at hc
      obtain ⟨z0, z1, z2, z3⟩ := X3.out.below b4
      clear y0 y1 y2 y3 hF hlaw b4
      go_wp2_with fail
      refine (SpecForwardRun_any m _ (HA3.out _ B4.out) (HP.out _ B4.out) HV.out HPB.out (by have := HL.out; omega)).mono ?_
      rintro e w5 ⟨rfl, b5⟩
      rw [HF.out, show tupJ (a, b, c) = .tuple #[.int .i64 a, .int .i64 b, .int .i64 c] from rfl]
      have B5 := Lib.hid (B4.out.trans (b5.mono B4.out.size))
      have e1 : (a != a) = false := by simp
      have e2 : (b != b) = false := by simp
      have e3 : (c != c) = false := by simp
      clear z0 z1 z2 z3 b5
      have hlt9 : lst ≤ (L : Int) + 1 := by rcases hc with ⟨_, rfl, _, _⟩ | ⟨_, rfl⟩ <;> omega
      have hc9 : c = 0 ∧ lst = b ∨ c = 6 ∧ lst = (L : Int) + 1 := by
        rcases hc with ⟨rfl, rfl, _, _⟩ | ⟨rfl, rfl⟩
        · exact .inl ⟨rfl, rfl⟩
        · exact .inr ⟨rfl, rfl⟩
      clear hc
      rcases hc9 with ⟨rfl, rfl⟩ | ⟨rfl, rfl⟩
      · skip
        have r1 : IntKind.i64.wrap ((L : Int) + 1) = (L : Int) + 1 := IntWalk.i64_in _ (by omega)
        go_wp2
        go_loopw [14] (fun i wr => ∃ (j : Nat), j ≤ L + 1 ∧ i = .int .i64 j ∧ Below w3.heap.size w3 wr) (fun i _ => L + 1 - (intOf i).toNat)
        case atStart => exact ⟨0, by omega, rfl, B5.out⟩
        case round =>
          clear B5 B4
          obtain ⟨j, hj, rfl, hbw⟩ := hrel
          have HBW := Lib.hid hbw
          by_cases hc1 : j ≤ L
          · have i1 : (j : Int) ≤ (L : Int) := by omega
            by_cases hc2 : (j : Int) ≤ lst
            · have i2 : (j : Int) ≤ (pc : Int) := by omega
              have i0 : (0 : Int) ≤ (j : Int) := by omega
              obtain ⟨x0, x1, x2, x3⟩ := X3.out.below hbw
              have k0 := fun d os => cell_regrown x1 d os
              have k1 := fun d os => cell_regrown x2 d os
              have k2 := fun d os => cell_regrown x3 d os
              have HPT := Lib.hid ((HP.out _ hbw).takeJ (i := j) (by have := HL.out; omega))
              clear hbw
              go_wp2_with fail
              go_region_law (first
                | (go_simp; go_at_call 21; refine (ImplApplyPicks_any m _ ((HA3.out _ HBW.out).below (by (repeat (first | exact Below.refl _ _ | refine Below.drew ?_ | refine Below.alloc ?_ (by simp) _)))) (HPT.out.below (by (repeat (first | exact Below.refl _ _ | refine Below.drew ?_ | refine Below.alloc ?_ (by simp) _)))) HV.out (HPB.out.take j) (by have := HL.out; rw [List.length_take]; omega)).mono ?_; rintro e w6 ⟨u, rfl, o6, b6⟩; have bw6 := below_of (a := wr) (by (repeat (first | exact Below.refl _ _ | refine Below.drew ?_ | refine Below.alloc ?_ (by simp) _))) b6)
                | fail "no arm")
              all_goals
                have hlaw := HLAW.out j (by have := HL.out; omega) hc2
                obtain ⟨hin, hlen⟩ := fwM_in HV.out HPB.out j
                have o6 : OwnI w6 wr.heap.size u (fwM ms m ps j) := o6
                generalize fwM ms m ps j = F at o6 hlaw hlen
                obtain ⟨hl1, hl2⟩ := hlaw
                obtain ⟨fb, fo, fc, rfl, g0⟩ := o6.sl.first (by omega)
                rw [hlen] at o6 ⊢
                have O6 := Lib.hid o6
                have BW6 := Lib.hid (HBW.out.trans (bw6.mono HBW.out.size))
                obtain ⟨x0, x1, x2, x3⟩ := X3.out.below BW6.out
                have HL1 := Lib.hid hl1
                have HL2 := Lib.hid hl2
                have HLEN := Lib.hid hlen
                have hmm : ((m : Int) != (m : Int)) = false := by simp
                clear hin o6 b6 bw6 hl1 hl2 g0 k0 k1 k2 HPT i2
                go_wp2
                go_loopw [17, 18] (fun sm x w7 => ∃ (q : Nat) (S : Bool), 1 ≤ q ∧ q ≤ m ∧ x = .int .i64 q ∧ sm = .bool S ∧ Hid (S = sameTo F q) ∧ Below w6.heap.size w6 w7) (fun _ x _ => m - (intOf x).toNat)
                case atStart => exact ⟨1, true, Nat.le_refl _, hm1', rfl, rfl, Lib.hid (sameTo_one (by have := HLEN.out; omega)).symm, Below.refl _ _⟩
                case round =>
                  clear x0 x1 x2 x3
                  obtain ⟨q, S, hq1, hq2, rfl, rfl, hS, hbq⟩ := hrel
                  have o7 := O6.out.below hbq
                  obtain ⟨fb', fo', fc', he, g0⟩ := o7.sl.first (by have := HLEN.out; omega)
                  simp only [Value.slice.injEq, Option.some.injEq, Addr.mk.injEq] at he
                  obtain ⟨⟨rfl, rfl, _⟩, hmF, rfl⟩ := he
                  clear hmF
                  by_cases hqm : q < m
                  · have hqF : q < F.length := by have := HLEN.out; omega
                    obtain ⟨b', o', he, g1⟩ := o7.sl.nth hqF
                    simp only [Option.some.injEq, Addr.mk.injEq] at he
                    obtain ⟨rfl, rfl, _⟩ := he
                    have hst := sameTo_succ hqF
                    rw [← hS.out] at hst
                    generalize F[q] = z at g1 hst
                    obtain ⟨y, hy⟩ : ∃ y, y = hdI F := ⟨_, rfl⟩
                    rw [← hy] at g0 hst
                    have i4 : (q : Int) < (m : Int) := by omega
                    have i5 : (0 : Int) ≤ (q : Int) := by omega
                    have i6 : (0 : Int) < (m : Int) := by omega
                    have i7 : 0 < m := by omega
                    have k3 := fun d os => cell_regrown g0 d os
                    have k4 := fun d os => cell_regrown g1 d os
                    have HST := Lib.hid hst
                    clear hy hst o7
                    cases S
                    · skip
                      go_wp2_with fail
                      refine wp_region_quiet_below (by kernel_rfl) (by kernel_rfl) ?_
                      repeat (first | go_big_quiet_skip | quiet_step (fail))
                      refine wpQuiet_nil ?_
                      intro _ hw'
                      obtain ⟨⟨dq, osq⟩, hw''⟩ := hw'
                      subst hw''
                      have bq := hbq.trans ((below_regrown wr dq osq).mono hbq.size)
                      generalize grow (redrawn wr dq) osq = wq at bq ⊢
                      clear k3 k4 g0 g1
                      go_wp2
                      go_roundw
                      case rel => exact ⟨q + 1, false, by omega, by omega, by go_num, rfl, Lib.hid (by rw [HST.out]; rfl), bq⟩
                      case measure => simp [intOf]; omega
                    · by_cases hzy : z = y
                      · have t1 : (z == y) = true := by simp [hzy]
                        have HZY := Lib.hid hzy
                        clear hzy
                        go_wp2_with fail
                        refine wp_region_quiet_below (by kernel_rfl) (by kernel_rfl) ?_
                        repeat (first | go_big_quiet_skip | quiet_step (fail))
                        refine wpQuiet_nil ?_
                        intro _ hw'
                        obtain ⟨⟨dq, osq⟩, hw''⟩ := hw'
                        subst hw''
                        have bq := hbq.trans ((below_regrown wr dq osq).mono hbq.size)
                        generalize grow (redrawn wr dq) osq = wq at bq ⊢
                        clear k3 k4 g0 g1
                        go_wp2
                        go_roundw
                        case rel => exact ⟨q + 1, true, by omega, by omega, by go_num, rfl, Lib.hid (by rw [HST.out, HZY.out]; simp), bq⟩
                        case measure => simp [intOf]; omega
                      · have t1 : (z == y) = false := by simp [hzy]
                        have HZY := Lib.hid hzy
                        clear hzy
                        go_wp2_with fail
                        refine wp_region_quiet_below (by kernel_rfl) (by kernel_rfl) ?_
                        repeat (first | go_big_quiet_skip | quiet_step (fail))
                        refine wpQuiet_nil ?_
                        intro _ hw'
                        obtain ⟨⟨dq, osq⟩, hw''⟩ := hw'
                        subst hw''
                        have bq := hbq.trans ((below_regrown wr dq osq).mono hbq.size)
                        generalize grow (redrawn wr dq) osq = wq at bq ⊢
                        clear k3 k4 g0 g1
                        go_wp2
                        go_roundw
                        case rel => exact ⟨q + 1, false, by omega, by omega, by go_num, rfl, Lib.hid (by rw [HST.out]; simp [HZY.out]), bq⟩
                        case measure => simp [intOf]; omega
                  · obtain rfl : q = m := by omega
                    have hSA : S = allAs F := by rw [hS.out, ← HLEN.out, sameTo_all]
                    have hSL := HL1.out
                    rw [← hSA] at hSL
                    have HB9 := Lib.hid (BW6.out.trans (hbq.mono BW6.out.size))
                    have i6 : (0 : Int) < (q : Int) := by omega
                    have i7 : 0 < q := by omega
                    by_cases hjl : (j : Int) = lst
                    · obtain rfl : S = true := by rw [hSL]; simp [hjl]
                      rw [HL2.out hSA.symm] at g0
                      have t1 : ((j : Int) == lst) = true := by rw [beq_iff_eq]; exact hjl
                      clear hSA hSL hjl o7
                      go_wp2
                      go_roundw
                      case rel => exact ⟨j + 1, by omega, by go_num, HB9.out⟩
                      case measure => simp [intOf]; omega
                    · obtain rfl : S = false := by rw [hSL]; simp [hjl]
                      have t1 : ((j : Int) == lst) = false := by rw [beq_eq_false_iff_ne]; exact hjl
                      clear hSA hSL hjl g0 o7
                      go_wp2
                      go_roundw
                      case rel => exact ⟨j + 1, by omega, by go_num, HB9.out⟩
                      case measure => simp [intOf]; omega
            · go_wp2
              go_ret
              exact ⟨rfl, B3.out.trans (hbw.mono B3.out.size)⟩
          · have i1 : ¬ (j : Int) ≤ (L : Int) := by omega
            go_wp2
            go_ret
            exact ⟨rfl, B3.out.trans (hbw.mono B3.out.size)⟩
      · skip
        have r1 : IntKind.i64.wrap ((L : Int) + 1) = (L : Int) + 1 := IntWalk.i64_in _ (by omega)
        go_wp2
        go_loopw [14] (fun i wr => ∃ (j : Nat), j ≤ L + 1 ∧ i = .int .i64 j ∧ Below w3.heap.size w3 wr) (fun i _ => L + 1 - (intOf i).toNat)
        case atStart => exact ⟨0, by omega, rfl, B5.out⟩
        case round =>
          clear B5 B4
          obtain ⟨j, hj, rfl, hbw⟩ := hrel
          have HBW := Lib.hid hbw
          by_cases hc1 : j ≤ L
          · have i1 : (j : Int) ≤ (L : Int) := by omega
            by_cases hc2 : (j : Int) ≤ ((L : Int) + 1)
            · have i2 : (j : Int) ≤ (pc : Int) := by omega
              have i0 : (0 : Int) ≤ (j : Int) := by omega
              obtain ⟨x0, x1, x2, x3⟩ := X3.out.below hbw
              have k0 := fun d os => cell_regrown x1 d os
              have k1 := fun d os => cell_regrown x2 d os
              have k2 := fun d os => cell_regrown x3 d os
              have HPT := Lib.hid ((HP.out _ hbw).takeJ (i := j) (by have := HL.out; omega))
              clear hbw
              go_wp2_with fail
              go_region_law (first
                | (go_simp; go_at_call 21; refine (ImplApplyPicks_any m _ ((HA3.out _ HBW.out).below (by (repeat (first | exact Below.refl _ _ | refine Below.drew ?_ | refine Below.alloc ?_ (by simp) _)))) (HPT.out.below (by (repeat (first | exact Below.refl _ _ | refine Below.drew ?_ | refine Below.alloc ?_ (by simp) _)))) HV.out (HPB.out.take j) (by have := HL.out; rw [List.length_take]; omega)).mono ?_; rintro e w6 ⟨u, rfl, o6, b6⟩; have bw6 := below_of (a := wr) (by (repeat (first | exact Below.refl _ _ | refine Below.drew ?_ | refine Below.alloc ?_ (by simp) _))) b6)
                | fail "no arm")
              all_goals
                have hlaw := HLAW.out j (by have := HL.out; omega) hc2
                obtain ⟨hin, hlen⟩ := fwM_in HV.out HPB.out j
                have o6 : OwnI w6 wr.heap.size u (fwM ms m ps j) := o6
                generalize fwM ms m ps j = F at o6 hlaw hlen
                obtain ⟨hl1, hl2⟩ := hlaw
                obtain ⟨fb, fo, fc, rfl, g0⟩ := o6.sl.first (by omega)
                rw [hlen] at o6 ⊢
                have O6 := Lib.hid o6
                have BW6 := Lib.hid (HBW.out.trans (bw6.mono HBW.out.size))
                obtain ⟨x0, x1, x2, x3⟩ := X3.out.below BW6.out
                have HL1 := Lib.hid hl1
                have HL2 := Lib.hid hl2
                have HLEN := Lib.hid hlen
                have hmm : ((m : Int) != (m : Int)) = false := by simp
                clear hin o6 b6 bw6 hl1 hl2 g0 k0 k1 k2 HPT i2
                go_wp2
                go_loopw [17, 18] (fun sm x w7 => ∃ (q : Nat) (S : Bool), 1 ≤ q ∧ q ≤ m ∧ x = .int .i64 q ∧ sm = .bool S ∧ Hid (S = sameTo F q) ∧ Below w6.heap.size w6 w7) (fun _ x _ => m - (intOf x).toNat)
                case atStart => exact ⟨1, true, Nat.le_refl _, hm1', rfl, rfl, Lib.hid (sameTo_one (by have := HLEN.out; omega)).symm, Below.refl _ _⟩
                case round =>
                  clear x0 x1 x2 x3
                  obtain ⟨q, S, hq1, hq2, rfl, rfl, hS, hbq⟩ := hrel
                  have o7 := O6.out.below hbq
                  obtain ⟨fb', fo', fc', he, g0⟩ := o7.sl.first (by have := HLEN.out; omega)
                  simp only [Value.slice.injEq, Option.some.injEq, Addr.mk.injEq] at he
                  obtain ⟨⟨rfl, rfl, _⟩, hmF, rfl⟩ := he
                  clear hmF
                  by_cases hqm : q < m
                  · have hqF : q < F.length := by have := HLEN.out; omega
                    obtain ⟨b', o', he, g1⟩ := o7.sl.nth hqF
                    simp only [Option.some.injEq, Addr.mk.injEq] at he
                    obtain ⟨rfl, rfl, _⟩ := he
                    have hst := sameTo_succ hqF
                    rw [← hS.out] at hst
                    generalize F[q] = z at g1 hst
                    obtain ⟨y, hy⟩ : ∃ y, y = hdI F := ⟨_, rfl⟩
                    rw [← hy] at g0 hst
                    have i4 : (q : Int) < (m : Int) := by omega
                    have i5 : (0 : Int) ≤ (q : Int) := by omega
                    have i6 : (0 : Int) < (m : Int) := by omega
                    have i7 : 0 < m := by omega
                    have k3 := fun d os => cell_regrown g0 d os
                    have k4 := fun d os => cell_regrown g1 d os
                    have HST := Lib.hid hst
                    clear hy hst o7
                    cases S
                    · skip
                      go_wp2_with fail
                      refine wp_region_quiet_below (by kernel_rfl) (by kernel_rfl) ?_
                      repeat (first | go_big_quiet_skip | quiet_step (fail))
                      refine wpQuiet_nil ?_
                      intro _ hw'
                      obtain ⟨⟨dq, osq⟩, hw''⟩ := hw'
                      subst hw''
                      have bq := hbq.trans ((below_regrown wr dq osq).mono hbq.size)
                      generalize grow (redrawn wr dq) osq = wq at bq ⊢
                      clear k3 k4 g0 g1
                      go_wp2
                      go_roundw
                      case rel => exact ⟨q + 1, false, by omega, by omega, by go_num, rfl, Lib.hid (by rw [HST.out]; rfl), bq⟩
                      case measure => simp [intOf]; omega
                    · by_cases hzy : z = y
                      · have t1 : (z == y) = true := by simp [hzy]
                        have HZY := Lib.hid hzy
                        clear hzy
                        go_wp2_with fail
                        refine wp_region_quiet_below (by kernel_rfl) (by kernel_rfl) ?_
                        repeat (first | go_big_quiet_skip | quiet_step (fail))
                        refine wpQuiet_nil ?_
                        intro _ hw'
                        obtain ⟨⟨dq, osq⟩, hw''⟩ := hw'
                        subst hw''
                        have bq := hbq.trans ((below_regrown wr dq osq).mono hbq.size)
                        generalize grow (redrawn wr dq) osq = wq at bq ⊢
                        clear k3 k4 g0 g1
                        go_wp2
                        go_roundw
                        case rel => exact ⟨q + 1, true, by omega, by omega, by go_num, rfl, Lib.hid (by rw [HST.out, HZY.out]; simp), bq⟩
                        case measure => simp [intOf]; omega
                      · have t1 : (z == y) = false := by simp [hzy]
                        have HZY := Lib.hid hzy
                        clear hzy
                        go_wp2_with fail
                        refine wp_region_quiet_below (by kernel_rfl) (by kernel_rfl) ?_
                        repeat (first | go_big_quiet_skip | quiet_step (fail))
                        refine wpQuiet_nil ?_
                        intro _ hw'
                        obtain ⟨⟨dq, osq⟩, hw''⟩ := hw'
                        subst hw''
                        have bq := hbq.trans ((below_regrown wr dq osq).mono hbq.size)
                        generalize grow (redrawn wr dq) osq = wq at bq ⊢
                        clear k3 k4 g0 g1
                        go_wp2
                        go_roundw
                        case rel => exact ⟨q + 1, false, by omega, by omega, by go_num, rfl, Lib.hid (by rw [HST.out]; simp [HZY.out]), bq⟩
                        case measure => simp [intOf]; omega
                  · obtain rfl : q = m := by omega
                    have hSA : S = allAs F := by rw [hS.out, ← HLEN.out, sameTo_all]
                    have hSL := HL1.out
                    rw [← hSA] at hSL
                    have HB9 := Lib.hid (BW6.out.trans (hbq.mono BW6.out.size))
                    have i6 : (0 : Int) < (q : Int) := by omega
                    have i7 : 0 < q := by omega
                    by_cases hjl : (j : Int) = ((L : Int) + 1)
                    · obtain rfl : S = true := by rw [hSL]; simp [hjl]
                      rw [HL2.out hSA.symm] at g0
                      have t1 : ((j : Int) == ((L : Int) + 1)) = true := by rw [beq_iff_eq]; exact hjl
                      clear hSA hSL hjl o7
                      go_wp2
                      go_roundw
                      case rel => exact ⟨j + 1, by omega, by go_num, HB9.out⟩
                      case measure => simp [intOf]; omega
                    · obtain rfl : S = false := by rw [hSL]; simp [hjl]
                      have t1 : ((j : Int) == ((L : Int) + 1)) = false := by rw [beq_eq_false_iff_ne]; exact hjl
                      clear hSA hSL hjl g0 o7
                      go_wp2
                      go_roundw
                      case rel => exact ⟨j + 1, by omega, by go_num, HB9.out⟩
                      case measure => simp [intOf]; omega
            · go_wp2
              go_ret
              exact ⟨rfl, B3.out.trans (hbw.mono B3.out.size)⟩
          · have i1 : ¬ (j : Int) ≤ (L : Int) := by omega
            go_wp2
            go_ret
            exact ⟨rfl, B3.out.trans (hbw.mono B3.out.size)⟩
end Go.Proofs.Ytghdginjdolgpaa
namespace Go.Proofs.Ytghdginjdolgpaa
open Go.RowKit
theorem and_tt {a b : Bool} (ha : a = true) (hb : b = true) : (a && b) = true := by rw [ha, hb]; rfl
theorem fLaid : laidOutB Try.checked.prog = true := by kernel_rfl
theorem fMaps : mapsRowed Try.checked.prog = true := by kernel_rfl
theorem fKeys : (true == Try.checked.prog.plainKeys) = true := by kernel_rfl
theorem fHeard : Try.checked.prog.stopsHeard = true := by kernel_rfl
theorem fEnter : Try.checked.prog.mayEnter = true := by kernel_rfl
theorem fFinal : (false == Try.checked.prog.liftsFinal) = true := by kernel_rfl
theorem fMake : (Try.checked.prog.make == some Make.cut) = true := by kernel_rfl
end Go.Proofs.Ytghdginjdolgpaa
namespace Go.Proofs.Ytghdginjdolgpaa
open Go.ChangeShapes Go.WideShapes Go.ChangeAt Go.RowKit Go.Joins Go.Deep
theorem laidOut : laidOutB Try.prog = true := by kernel_rfl
def WfL (xs : List Int) : Prop := ∀ x ∈ xs, -9223372036854775808 ≤ x ∧ x ≤ 9223372036854775807
theorem wf_i64 {x : Int} (h : (Lit.int .i64 x).wf = true) : -9223372036854775808 ≤ x ∧ x ≤ 9223372036854775807 := by
  simpa [Lit.wf, IntKind.min, IntKind.max, IntKind.signed, IntKind.bits] using h
theorem wf_u8 {x : Int} (h : (Lit.int .u8 x).wf = true) : 0 ≤ x ∧ x ≤ 255 := by
  simpa [Lit.wf, IntKind.min, IntKind.max, IntKind.signed, IntKind.bits] using h
section
variable {H : Type} {enc : TypeId × Value → H} {w : World} {spare : Nat → Bool} {held : Bool}
theorem rd_of {a : Addr} {vs : List Value} (h : ∀ i, i < vs.length → w.cell? (a.add i) = vs[i]?) : Rd w (some a) vs := by
  intro j u hu
  have hj : j < vs.length := (List.getElem?_eq_some_iff.1 hu).1
  have h0 := h j hj
  rw [hu] at h0
  obtain ⟨b, off, spot⟩ := a
  have hspot : spot = none := by
    have h1 : w.cell? ((⟨b, off, spot⟩ : Addr).add 0) = vs[0]? := h 0 (by omega)
    rw [List.getElem?_eq_getElem (by omega)] at h1
    simpa [Addr.add] using World.cell?_spot h1
  subst hspot
  rw [add_plain] at h0
  refine ⟨b, off, rfl, ?_, h0⟩
  exact World.block_lt_of_cell? w ⟨b, off + j, none⟩ h0
theorem open_one {t e : TypeId} (ht : Try.prog.underlying t = some (.slice e)) (hC : Try.prog.cellsOf e = 1) {fuel : Nat} {v : Value} {x : DataW H × List MemPlace}
    (h : DataW.trod enc Try.prog w 0 (fun _ => true) held fuel t [v] = some x) :
    ∃ ad n c vs, v = .slice ad n c ∧ n ≤ c ∧ c ≤ maxLen ∧ vs.length = n ∧ Rd w ad vs ∧ ∀ u ∈ vs, ∃ f y, DataW.trod enc Try.prog w 0 (fun _ => true) held f e [u] = some y := by
  rcases open_slice ht h with ⟨hcs, _⟩ | ⟨a, len, cap, m, n, D, Pl, hcs, _, hl, hm, hmm, _, hi⟩
  · simp at hcs
    exact ⟨none, 0, 0, [], hcs, Nat.le_refl _, by simp [maxLen], rfl, Rd.nil _ _, by simp⟩
  · simp at hcs
    have hmc : m = cap := by simpa using hmm
    rw [hC] at hi
    have hi' : ∀ i, i < len → ∃ u, w.cell? (a.add i) = some u ∧ DataW.trod enc Try.prog w 0 (fun _ => true) held n e [u] = some (D i, Pl i) := by
      intro i hil
      obtain ⟨cs', hc, ht'⟩ := hi i (by omega)
      obtain ⟨_, hcl, hat⟩ := World.cells?_some hc
      match cs', hcl with
      | [u], _ =>
        refine ⟨u, ?_, ht'⟩
        have := hat 0 (by omega)
        rw [Nat.mul_one] at this
        rw [add_add] at this
        simpa using this
    refine ⟨some a, len, cap, (List.range len).map fun i => (w.cell? (a.add i)).getD undef, hcs, hl, hm, by simp, rd_of ?_, ?_⟩
    · intro i hil
      simp at hil
      obtain ⟨u, hu, _⟩ := hi' i hil
      simp [hil, hu]
    · intro u hu
      simp at hu
      obtain ⟨i, hil, rfl⟩ := hu
      obtain ⟨u, hu, ht'⟩ := hi' i hil
      exact ⟨n, _, by rw [hu]; exact ht'⟩
theorem choose_list {α : Type} {P : Value → α → Prop} : ∀ {vs : List Value}, (∀ u ∈ vs, ∃ x, P u x) → ∃ xs : List α, vs.length = xs.length ∧ ∀ (i : Nat) (hi : i < xs.length) u, vs[i]? = some u → P u xs[i]
  | [], _ => ⟨[], rfl, by intro i hi; simp at hi⟩
  | v :: vs, h => by
    obtain ⟨x, hx⟩ := h v (by simp)
    obtain ⟨xs, h1, h2⟩ := choose_list (vs := vs) (fun u hu => h u (by simp [hu]))
    refine ⟨x :: xs, by simp [h1], fun i hi u hu => ?_⟩
    cases i with
    | zero => simp at hu; subst hu; exact hx
    | succ i => simp at hu hi; simpa using h2 i hi u hu
theorem ints_of {k : IntKind} {e : TypeId} (he : Try.prog.underlying e = some (.int k)) {vs : List Value} (h : ∀ u ∈ vs, ∃ f y, DataW.trod enc Try.prog w 0 (fun _ => true) held f e [u] = some y) :
    ∃ xs : List Int, vs = xs.map (.int k) ∧ ∀ x ∈ xs, (Lit.int k x).wf = true := by
  induction vs with
  | nil => exact ⟨[], rfl, by simp⟩
  | cons v vs ih =>
    obtain ⟨xs, h1, h2⟩ := ih (fun u hu => h u (by simp [hu]))
    obtain ⟨f, y, hy⟩ := h v (by simp)
    obtain ⟨n, hn, _, hw⟩ := DataW.trod_int he hy
    simp at hn
    exact ⟨n :: xs, by simp [h1, hn], by intro x hx; simp at hx; rcases hx with rfl | hx; exact hw; exact h2 x hx⟩
theorem open_SlI {fuel : Nat} {v : Value} {x : DataW H × List MemPlace} (h : DataW.trod enc Try.prog w 0 (fun _ => true) held fuel 28 [v] = some x) : ∃ xs, SlI w v xs ∧ WfL xs := by
  obtain ⟨ad, n, c, vs, h1, h2, h3, h4, h5, h6⟩ := open_one Try.underlying28 (by kernel_rfl) h
  obtain ⟨xs, rfl, h7⟩ := ints_of Try.underlying2 h6
  simp at h4
  subst h4
  exact ⟨xs, ⟨ad, c, h1, h2, h3, h5⟩, fun x hx => wf_i64 (h7 x hx)⟩
end
end Go.Proofs.Ytghdginjdolgpaa
namespace Go.Proofs.Ytghdginjdolgpaa
open Go.ChangeShapes Go.WideShapes Go.ChangeAt Go.RowKit Go.Joins Go.Deep
section
variable {H : Type} {enc : TypeId × Value → H} {w : World} {held : Bool}
theorem open_SlU {fuel : Nat} {ad : Option Addr} {n c : Nat} {x : DataW H × List MemPlace} (h : DataW.trod enc Try.prog w 0 (fun _ => true) held fuel 22 [.slice ad n c] = some x) : ∃ xs : List Int, xs.length = n ∧ n ≤ c ∧ c ≤ maxLen ∧ Rd w ad (xs.map (.int .u8)) ∧ ∀ x ∈ xs, 0 ≤ x ∧ x < 256 := by
  obtain ⟨ad', n', c', vs, h1, h2, h3, h4, h5, h6⟩ := open_one Try.underlying22 (by kernel_rfl) h
  simp only [Value.slice.injEq] at h1
  obtain ⟨rfl, rfl, rfl⟩ := h1
  obtain ⟨xs, rfl, hw⟩ := ints_of Try.underlying5 h6
  exact ⟨xs, by simpa using h4, h2, h3, h5, fun x hx => by have := wf_u8 (hw x hx); omega⟩
end
end Go.Proofs.Ytghdginjdolgpaa
