/-
  FnSandwich: the law answers true for all texts of bytes.
-/
import Derived.Test.YtceobhmbnkheiaaZRowFnSandwich14
import Derived.Test.YtceobhmbnkheiaaZRowFnSandwich17
import Derived.Test.YtceobhmbnkheiaaZRowFnSandwich18
import Derived.Test.YtceobhmbnkheiaaZRowFnSandwich16
import Derived.Test.YtceobhmbnkheiaaZRowFnSandwich15
set_option linter.unusedVariables false
set_option linter.unusedSimpArgs false
namespace Go.Proofs.Ytceobhmbnkheiaa
open Go.RowKit Go.Sort
theorem sandR_line {n : Nat} {t : Int} {ms : List (Int × List Int)} (h : mapsOk n t ms) (h4 : n ≤ 4) {ps : List Int} (hp : PicksB (riseM ms).length ps) :
    sandR n (riseM ms) (lineB n) ps = runR (fun k => k + 1) ps.length (pastM (riseM ms) n ps) := by
  have hm := rise_mon h
  have hs := sand_law h hp (fun k => k + 1) ps.length
  have hn : 1 ≤ n := by obtain ⟨⟨h1, _⟩, _⟩ := h; omega
  obtain ⟨k, rfl⟩ : ∃ k, n = k + 1 := ⟨n - 1, by omega⟩
  unfold sandR
  rw [ends_line k (by omega), hm, if_neg (by simp)]
  exact hs
theorem lineB_len (n : Nat) : (lineB n).length = n := by simp [lineB]
theorem lineB_ord {n : Nat} (h1 : 1 ≤ n) (h4 : n ≤ 4) : OrdB n (lineB n) := ordC_ok h1 (by omega) (by
  obtain ⟨k, rfl⟩ : ∃ k, n = k + 1 := ⟨n - 1, by omega⟩
  exact line_ok k (by omega))
/-- out so far: some map breaks the order -/
def OutK (b : List (List Bool)) (n : Nat) (ms : List (Int × List Int)) (i s t : Nat) (O : Bool) : Prop := (O = false → Kept b n ms i s t) ∧ (O = true → monB b n ms = false)
theorem OutK.next {b : List (List Bool)} {n : Nat} {ms : List (Int × List Int)} {i s t : Nat} {O : Bool} (h : OutK b n ms i s t O) (hi : i < ms.length) (hs : s < n) (ht : t < n) : OutK b n ms i s (t + 1) (O || !keepB b n ms[i].2 s t) := by
  refine ⟨fun e => ?_, fun e => ?_⟩
  · rw [Bool.or_eq_false_iff, Bool.not_eq_false'] at e
    exact (h.1 e.1).next hi e.2
  · rw [Bool.or_eq_true, Bool.not_eq_true'] at e
    rcases e with e | e
    · exact h.2 e
    · exact monB_no hi hs ht e
theorem OutK.row {b : List (List Bool)} {n : Nat} {ms : List (Int × List Int)} {i s : Nat} {O : Bool} (h : OutK b n ms i s n O) : OutK b n ms i (s + 1) 0 O := ⟨fun e => (h.1 e).row, h.2⟩
theorem OutK.map {b : List (List Bool)} {n : Nat} {ms : List (Int × List Int)} {i : Nat} {O : Bool} (h : OutK b n ms i n 0 O) : OutK b n ms (i + 1) 0 0 O := ⟨fun e => (h.1 e).map, h.2⟩
theorem OutK.all {b : List (List Bool)} {n : Nat} {ms : List (Int × List Int)} {O : Bool} (h : OutK b n ms ms.length 0 0 O) : O = !monB b n ms := by
  cases O
  · rw [(h.1 rfl).all]; rfl
  · rw [h.2 rfl]; rfl
theorem OutK.zero (b : List (List Bool)) (n : Nat) (ms : List (Int × List Int)) : OutK b n ms 0 0 0 false := ⟨fun _ i' hi' s' t' hs ht hc => by omega, fun e => by cases e⟩
theorem SlI.none_of {w : World} {a : Option Addr} {c : Nat} (h : c ≤ maxLen) : SlI w (.slice a 0 c) [] := ⟨a, c, rfl, Nat.zero_le _, h, Rd.nil _ _⟩
set_option maxRecDepth 100000 in
set_option maxHeartbeats 16000000 in
theorem FnSandwich_walk {xs ys : List Int} (a0 a1 : Option Addr) (n0 n1 c0 c1 : Nat) (w : World) (hn0 : n0 ≤ maxLen) (hn1 : n1 ≤ maxLen) (hx : xs.length = n0) (hr : Rd w a0 (xs.map (.int .u8))) (hb : ∀ x ∈ xs, 0 ≤ x ∧ x < 256)
    (hx1 : ys.length = n1) (hr1 : Rd w a1 (ys.map (.int .u8))) (hb1 : ∀ x ∈ ys, 0 ≤ x ∧ x < 256) :
    Calls Try.prog 3 #[.slice a0 n0 c0, .slice a1 n1 c1] w fun e w' => e = .returned (.bool true) ∧ Below w.heap.size w w' := by
  have HR := Lib.hid hr
  have HB := Lib.hid hb
  have HX := Lib.hid hx
  have HR1 := Lib.hid (fun W (h : Below w.heap.size w W) => hr1.below h)
  have HB1 := Lib.hid hb1
  have HX1 := Lib.hid hx1
  have HN0 := Lib.hid hn0
  have HN1 := Lib.hid hn1
  clear hr hb hx hr1 hb1 hx1 hn0 hn1
  generalize hd0 : decide (4096 < n0) = d0
  generalize hd1 : decide (4096 < n1) = d1
  have HD0 := Lib.hid hd0
  have HD1 := Lib.hid hd1
  clear hd0 hd1
  cases d0
  case true =>
    go_enter Try.func3, Try.ntmps3
    go_wp2_with fail
    refine (f6big_any a0 n0 c0 _ HN0.out).mono ?_
    rintro e w1 ⟨rfl, rfl⟩
    rw [HD0.out]
    go_wp2
    go_ret
    exact ⟨rfl, Below.refl _ _⟩
  case false =>
    cases d1
    case true =>
      go_enter Try.func3, Try.ntmps3
      go_wp2_with fail
      refine (f6big_any a0 n0 c0 _ HN0.out).mono ?_
      rintro e w1 ⟨rfl, rfl⟩
      rw [HD0.out]
      go_wp2_with fail
      refine (f6big_any a1 n1 c1 _ HN1.out).mono ?_
      rintro e w1 ⟨rfl, rfl⟩
      rw [HD1.out]
      go_wp2
      go_ret
      exact ⟨rfl, Below.refl _ _⟩
    case false =>
      have h40 := Lib.hid (show n0 ≤ 4096 by have := HD0.out; rw [decide_eq_false_iff_not] at this; omega)
      have h41 := Lib.hid (show n1 ≤ 4096 by have := HD1.out; rw [decide_eq_false_iff_not] at this; omega)
      go_enter Try.func3, Try.ntmps3
      go_wp2_with fail
      refine (f6big_any a0 n0 c0 _ HN0.out).mono ?_
      rintro e w1 ⟨rfl, rfl⟩
      rw [HD0.out]
      go_wp2_with fail
      refine (f6big_any a1 n1 c1 _ HN1.out).mono ?_
      rintro e w1 ⟨rfl, rfl⟩
      rw [HD1.out]
      go_wp2_with fail
      refine (P6Maps_any a0 n0 c0 4 _ h40.out HX.out HR.out HB.out (by decide) (by decide)).mono ?_
      rintro e w1 ⟨m, t, v, ms, rfl, hm4, hok, hl3, o1, b1⟩
      have B1 := Lib.hid b1
      have PR := Lib.hid (P6Rising_any m w1 o1.sl hok)
      have HV := Lib.hid (rise_ok hok)
      have HSAND := Lib.hid (fun (ps : List Int) (hp : PicksB (riseM ms).length ps) => sandR_line hok hm4 hp)
      have HMON := Lib.hid (rise_mon hok)
      obtain ⟨⟨hm1, hm2⟩, _, ⟨hl1, _⟩, _⟩ := id HV.out
      clear o1 b1 hok hl3
      go_wp2_with fail
      refine PR.out.mono ?_
      rintro e w2 ⟨r, rfl, o2, b2⟩
      clear PR
      generalize riseM ms = MS at o2 HV HMON HSAND hl1
      obtain ⟨va, vc, rfl, hvc, hvc2⟩ := o2.sl.form
      unfold maxLen at hvc2
      have S1 := Lib.hid o2.sl
      have B2 := Lib.hid (B1.out.trans (b2.mono B1.out.size))
      obtain ⟨ml, hml⟩ : ∃ ml, ml = MS.length := ⟨_, rfl⟩
      rw [← hml] at hvc S1 hl1 ⊢
      have HML := Lib.hid hml
      obtain ⟨W2, hW2⟩ : ∃ W2, W2 = w2.alloc (.cells #[.int .i64 m, .int .i64 t, .slice va ml vc] 26) := ⟨_, rfl⟩
      have ba : Below w2.heap.size w2 W2 := by rw [hW2]; exact (Below.refl _ _).alloc (Nat.le_refl _) _
      have X2 := Lib.hid (show MpAt W2 w2.heap.size m t (.slice va ml vc) by rw [hW2]; exact MpAt.new w2 m t _)
      have HA := Lib.hid (fun W (h : Below W2.heap.size W2 W) => (S1.out.below ba).below h)
      have D2 := Lib.hid (B2.out.trans (ba.mono B2.out.size))
      have HW2 := Lib.hid hW2
      obtain ⟨x0, x1, x2, x3⟩ := X2.out
      have hm1' : 1 ≤ m := by omega
      have HOL := Lib.hid (lineB_ord hm1' hm4)
      have HLL := Lib.hid (lineB_len m)
      clear b2 ba o2 hW2 hml hm1 hm2 B1 B2
      go_wp2_with fail
      rw [← HW2.out]
      go_wp2_with fail
      refine (ImplLineOrder_any m _ hm1' (by omega)).mono ?_
      rintro e w3 ⟨r1, rfl, o3, b3⟩
      obtain ⟨la1, lc1, rfl, _, _⟩ := o3.form
      rw [HLL.out]
      have C3 := Lib.hid b3
      obtain ⟨y0, y1, y2, y3⟩ := X2.out.below C3.out
      clear o3 b3 x0 x1 x2 x3
      go_wp2_with fail
      refine (SpecLineOrder_any m _ hm1' (by omega)).mono ?_
      rintro e w4 ⟨r2, rfl, o4, b4⟩
      obtain ⟨a2', c2', rfl, _, _⟩ := o4.form
      have C4 := Lib.hid (C3.out.trans (b4.mono C3.out.size))
      have U4 := Lib.hid (show GB.Sl w4 (.slice a2' m c2') (lineB m) from by have h := o4.own.sl; rw [HLL.out] at h; exact h)
      rw [HLL.out]
      obtain ⟨z0, z1, z2, z3⟩ := X2.out.below C4.out
      clear o4 b4 y0 y1 y2 y3 C3
      have D4 := Lib.hid (D2.out.trans (C4.out.mono D2.out.size))
      go_wp2_with fail
      refine (P6Draws_any a1 n1 c1 ml 12 _ h41.out HX1.out (HR1.out _ D4.out) HB1.out hl1 (by decide)).mono ?_
      rintro e w5 ⟨pv, ps, rfl, hpb, hpl, o5, b5⟩
      have HPB := Lib.hid (show PicksB MS.length ps from by rw [← HML.out]; exact hpb)
      have HP := Lib.hid (fun W (h : Below w5.heap.size w5 W) => o5.sl.below h)
      have C5 := Lib.hid (C4.out.trans (b5.mono C4.out.size))
      have HA5 := Lib.hid (fun W (h : Below w5.heap.size w5 W) => HA.out W (C5.out.trans (h.mono C5.out.size)))
      have HU5 := Lib.hid (fun W (h : Below w5.heap.size w5 W) => (U4.out.below b5).below h)
      have X5 := Lib.hid (X2.out.below C5.out)
      have D5 := Lib.hid (D2.out.trans (C5.out.mono D2.out.size))
      obtain ⟨pa, pc, rfl, hpc, hpc2, _⟩ := id o5.sl
      have HPC := Lib.hid hpc2
      obtain ⟨L, hL⟩ : ∃ L, L = ps.length := ⟨_, rfl⟩
      rw [← hL] at hpc hpl HP ⊢
      have HL := Lib.hid hL
      obtain ⟨y0, y1, y2, y3⟩ := X5.out
      obtain ⟨⟨a, b, c⟩, hF⟩ : ∃ x, x = runR (fun k => k + 1) ps.length (pastM MS m ps) := ⟨_, rfl⟩
      have HS := Lib.hid ((HSAND.out ps HPB.out).trans hF.symm)
      have HF := Lib.hid hF.symm
      have qm : ((m : Int) != (m : Int)) = false := by simp
      have q1 : (a != a) = false := by simp
      have q2 : (b != b) = false := by simp
      have q3 : (c != c) = false := by simp
      clear hpb o5 b5 hL hF HSAND z0 z1 z2 z3 C4 C5 D4 U4 HA X2 hpc2
      go_wp2_with fail
      refine (ImplValidOrder_ok m _ (HU5.out _ (Below.refl _ _)) HOL.out).mono ?_
      rintro e w5' ⟨rfl, rfl⟩
      go_wp2_with fail
      refine (IsMonotone_ok m _ (HA5.out _ (Below.refl _ _)) HV.out (HU5.out _ (Below.refl _ _)) HOL.out).mono ?_
      rintro e w6 ⟨rfl, b6⟩
      rw [HMON.out]
      have B6 := Lib.hid b6
      clear b6 y0 y1 y2 y3
      obtain ⟨z0, z1, z2, z3⟩ := X5.out.below B6.out
      go_wp2_with fail
      refine (EndsOf_line m _ hm1' hm4 (HU5.out _ B6.out) HOL.out).mono ?_
      rintro e w7 ⟨rfl, b7⟩
      have B7 := Lib.hid (B6.out.trans (b7.mono B6.out.size))
      obtain ⟨y0, y1, y2, y3⟩ := X5.out.below B7.out
      clear b7 z0 z1 z2 z3 B6
      go_wp2_with fail
      refine (ImplSandwichRun_ok m _ (HA5.out _ B7.out) HV.out (HU5.out _ B7.out) HOL.out (HP.out _ B7.out) HPB.out (by have := HL.out; omega)).mono ?_
      rintro e w8 ⟨he, b8⟩
      rw [HS.out, show tupJ (a, b, c) = .tuple #[.int .i64 a, .int .i64 b, .int .i64 c] from rfl] at he
      subst he
      have B8 := Lib.hid (B7.out.trans (b8.mono B7.out.size))
      obtain ⟨z0, z1, z2, z3⟩ := X5.out.below B8.out
      clear b8 y0 y1 y2 y3 B7
      go_wp2_with fail
      refine (ImplPastRun_any m _ (HA5.out _ B8.out) (HP.out _ B8.out) HV.out HPB.out (by have := HL.out; omega)).mono ?_
      rintro e w9 ⟨he, b9⟩
      rw [HF.out, show tupJ (a, b, c) = .tuple #[.int .i64 a, .int .i64 b, .int .i64 c] from rfl] at he
      subst he
      have B9 := Lib.hid (B8.out.trans (b9.mono B8.out.size))
      obtain ⟨y0, y1, y2, y3⟩ := X5.out.below B9.out
      have D9 := Lib.hid (D5.out.trans (B9.out.mono D5.out.size))
      have r1 : IntKind.i64.wrap ((m : Int) - 1) = (m : Int) - 1 := IntWalk.i64_in _ (by omega)
      have qe : ((m : Int) - 1 != (m : Int) - 1) = false := by simp
      clear b9 z0 z1 z2 z3 B8 HS HF
      go_wp2_with fail
      refine (P6Maps_any a1 n1 c1 4 _ h41.out HX1.out (HR1.out _ D9.out) HB1.out (by decide) (by decide)).mono ?_
      rintro e wb ⟨k, t2, v2, MS2, rfl, hk4, hok2, hl3, o1, b1⟩
      clear y0 y1 y2 y3 r1 qe q1 q2 q3
      have HV2 := Lib.hid hok2
      obtain ⟨⟨hk1, hk2⟩, _, _, hrows, _⟩ := id hok2
      have HROW := Lib.hid (show ∀ (i : Nat) (hi : i < MS2.length), MS2[i].2.length = k ∧ ∀ x ∈ MS2[i].2, 0 ≤ x ∧ x < (k : Int) from fun i hi => by
        obtain ⟨_, h6, h7⟩ := hrows _ (List.getElem_mem hi)
        exact ⟨by omega, h7⟩)
      obtain ⟨vb, vd, rfl, _, _⟩ := o1.sl.form
      have S1b := Lib.hid o1.sl
      obtain ⟨W3, hW3⟩ : ∃ W3, W3 = wb.alloc (.cells #[.int .i64 k, .int .i64 t2, .slice vb MS2.length vd] 26) := ⟨_, rfl⟩
      have ba : Below wb.heap.size wb W3 := by rw [hW3]; exact (Below.refl _ _).alloc (Nat.le_refl _) _
      have XW := Lib.hid (show MpAt W3 wb.heap.size k t2 (.slice vb MS2.length vd) by rw [hW3]; exact MpAt.new wb k t2 _)
      have HAW := Lib.hid (fun W (h : Below W3.heap.size W3 W) => (S1b.out.below ba).below h)
      have DW := Lib.hid ((D9.out.trans (b1.mono D9.out.size)).trans (ba.mono (D9.out.trans (b1.mono D9.out.size)).size))
      have PB : Calls Try.prog 16 #[.slice a0 n0 c0, .int .i64 k] W3 fun e w' => ∃ r B, e = .returned r ∧ OrdB k B ∧ GB.OwnD w' W3.heap.size r B ∧ Below W3.heap.size W3 w' := by
        have h := P6Below_any a0 n0 c0 (k - 1) W3 h40.out HX.out (HR.out.below DW.out) HB.out (by omega)
        rw [show k - 1 + 1 = k by omega] at h
        exact h
      have HPBL := Lib.hid PB
      have HW3 := Lib.hid hW3
      obtain ⟨x0, x1, x2, x3⟩ := XW.out
      clear ba b1 o1 hW3 hok2 hrows hl3 PB D9 HR HB HX HR1 HB1 HX1 HN0 HN1 HD0 HD1 h40 h41
      go_wp2_with fail
      rw [← HW3.out]
      go_wp2_with fail
      refine HPBL.out.mono ?_
      rintro e w12 ⟨r, B, rfl, hO, o12, b12⟩
      clear HPBL x0 x1 x2 x3 HW3
      have HO2 := Lib.hid hO
      have HB12 := Lib.hid b12
      have U12 := Lib.hid o12.own.sl
      obtain ⟨bb, off, cr, rb, ro, rc, rfl, hnc, hcm, hrd⟩ := GB_rd o12.own.sl hO
      have HRD := Lib.hid (fun W (h : Below w12.heap.size w12 W) => hrd.below h)
      have HU := Lib.hid (fun W (h : Below w12.heap.size w12 W) => U12.out.below h)
      have HA12 := Lib.hid (fun W (h : Below w12.heap.size w12 W) => HAW.out W (HB12.out.trans (h.mono HB12.out.size)))
      have X12 := Lib.hid (XW.out.below b12)
      have D12 := Lib.hid (DW.out.trans (b12.mono DW.out.size))
      clear b12 o12 hrd hO HAW XW DW
      obtain ⟨y0, y1, y2, y3⟩ := X12.out
      go_wp2_with fail
      refine (IsMonotone_ok k _ (HA12.out _ (Below.refl _ _)) HV2.out (HU.out _ (Below.refl _ _)) HO2.out).mono ?_
      rintro e w13 ⟨rfl, b13⟩
      have B13 := Lib.hid b13
      clear b13 y0 y1 y2 y3
      obtain ⟨M, hM⟩ : ∃ M, M = monB B k MS2 := ⟨_, rfl⟩
      rw [← hM]
      have HM := Lib.hid hM
      have hml2 : MS2.length ≤ 60 := by obtain ⟨_, _, ⟨_, h⟩, _⟩ := HV2.out; omega
      clear hM
      go_wp2
      go_loopw [26, 27] (fun ov iv wr => ∃ (i : Nat) (O : Bool), i ≤ MS2.length ∧ ov = .bool O ∧ iv = .int .i64 i ∧ Hid (OutK B k MS2 i 0 0 O) ∧ Below w12.heap.size w12 wr) (fun _ iv _ => MS2.length - (intOf iv).toNat)
      case atStart => exact ⟨0, false, Nat.zero_le _, rfl, rfl, Lib.hid (OutK.zero _ _ _), B13.out⟩
      case round =>
        clear B13
        obtain ⟨i, O, hi, rfl, rfl, hK, hbw⟩ := hrel
        have HBW := Lib.hid hbw
        have XW := Lib.hid (X12.out.below hbw)
        obtain ⟨x0, x1, x2, x3⟩ := XW.out
        by_cases him : i < MS2.length
        · have i1 : (i : Int) < (MS2.length : Int) := by omega
          have i0 : (0 : Int) ≤ (i : Int) := by omega
          obtain ⟨mb, mo, ra, rca, wt, tl, hae, hmb, hwt, htl, gm1, gm2, sm⟩ := (HA12.out wr hbw).atJ him
          subst hae
          obtain ⟨hrl, hrx⟩ := HROW.out i him
          have HMi := Lib.hid him
          rw [← htl] at hrl hrx
          rw [hrl] at gm2 sm
          have HTL := Lib.hid htl
          have HRX := Lib.hid hrx
          have HRL := Lib.hid hrl
          have SM := Lib.hid (fun V (h : Below wr.heap.size wr V) => sm.below h)
          clear htl hrl hrx sm hwt hbw
          obtain ⟨wo, hwo⟩ : ∃ wo : World, wo = wr := ⟨_, rfl⟩
          subst hwo
          have BM0 := Lib.hid (Below.refl wo.heap.size wo)
          go_wp2
          go_loopw [26, 29] (fun ov jv wi => ∃ (s : Nat) (O : Bool), s ≤ k ∧ ov = .bool O ∧ jv = .int .i64 s ∧ Hid (OutK B k MS2 i s 0 O) ∧ Below wo.heap.size wo wi) (fun _ jv _ => k - (intOf jv).toNat)
          case atStart => exact ⟨0, O, Nat.zero_le _, rfl, rfl, hK, BM0.out⟩
          case round =>
            clear BM0 x0 x1 x2 x3 gm1 gm2
            obtain ⟨s, O2, hs, rfl, rfl, hK2, hbi⟩ := hrel
            have HBI := Lib.hid hbi
            by_cases hsn : s < k
            · have i2 : (s : Int) < (k : Int) := by omega
              have i3 : (0 : Int) ≤ (s : Int) := by omega
              clear hbi
              go_wp2
              go_loopw [26, 30] (fun ov jv wj => ∃ (q : Nat) (O : Bool), q ≤ k ∧ ov = .bool O ∧ jv = .int .i64 q ∧ Hid (OutK B k MS2 i s q O) ∧ Below wo.heap.size wo wj) (fun _ jv _ => k - (intOf jv).toNat)
              case atStart => exact ⟨0, O2, Nat.zero_le _, rfl, rfl, hK2, HBI.out⟩
              case round =>
                obtain ⟨q, O3, hq, rfl, rfl, hK3, hbj⟩ := hrel
                have HBJ := Lib.hid hbj
                by_cases hqn : q < k
                · have i4 : (q : Int) < (k : Int) := by omega
                  have i5 : (0 : Int) ≤ (q : Int) := by omega
                  have RD := HRD.out wr (HBW.out.trans (hbj.mono HBW.out.size))
                  have g1 := RD.row s hsn
                  have g3 := RD.bit s q hsn hqn
                  have sm2 := SM.out wr hbj
                  obtain ⟨tb, tof, hte, _, gs⟩ := sm2.at_ (k := s) (by rw [HRL.out]; exact hsn)
                  have hte2 := hte
                  subst hte
                  obtain ⟨tb2, tof2, hte3, _, gq⟩ := sm2.at_ (k := q) (by rw [HRL.out]; exact hqn)
                  simp only [Option.some.injEq, Addr.mk.injEq, and_true] at hte3
                  obtain ⟨rfl, rfl⟩ := hte3
                  have h1 := HRX.out _ (List.getElem_mem (show s < tl.length by rw [HRL.out]; exact hsn))
                  have h2 := HRX.out _ (List.getElem_mem (show q < tl.length by rw [HRL.out]; exact hqn))
                  have e1 : tl[s]'(by rw [HRL.out]; exact hsn) = tl.getD s 0 := (gD_at _).symm
                  have e2 : tl[q]'(by rw [HRL.out]; exact hqn) = tl.getD q 0 := (gD_at _).symm
                  rw [e1] at gs h1
                  rw [e2] at gq h2
                  have HKD := Lib.hid (show keepB B k tl s q = (!leB B s q || leB B (tl.getD s 0).toNat (tl.getD q 0).toNat) from rfl)
                  generalize tl.getD s 0 = y1 at gs h1 HKD
                  generalize tl.getD q 0 = y2 at gq h2 HKD
                  obtain ⟨p1, rfl⟩ := Int.eq_ofNat_of_zero_le h1.1
                  obtain ⟨p2, rfl⟩ := Int.eq_ofNat_of_zero_le h2.1
                  have hp1 : p1 < k := by omega
                  have hp2 : p2 < k := by omega
                  simp only [Int.toNat_natCast] at HKD
                  have g5 := RD.row p1 hp1
                  have g6 := RD.bit p1 p2 hp1 hp2
                  obtain ⟨X1, hX1⟩ : ∃ X1, X1 = leB B s q := ⟨_, rfl⟩
                  obtain ⟨Y1, hY1⟩ : ∃ Y1, Y1 = leB B p1 p2 := ⟨_, rfl⟩
                  rw [← hX1] at g3 HKD
                  rw [← hY1] at g6 HKD
                  have i6 : (p1 : Int) < (k : Int) := by omega
                  have i7 : (0 : Int) ≤ (p1 : Int) := by omega
                  have i8 : (p2 : Int) < (k : Int) := by omega
                  have i9 : (0 : Int) ≤ (p2 : Int) := by omega
                  have HNX := Lib.hid (show OutK B k MS2 i s (q + 1) (O3 || !(!X1 || Y1)) from by
                    have h := hK3.out.next HMi.out hsn hqn
                    rw [← HTL.out, HKD.out] at h
                    exact h)
                  clear hX1 hY1 RD sm2 e1 e2 h1 h2 hbj hte2 HKD
                  have GG := Lib.hid (And.intro g1 (And.intro g3 (And.intro gs (And.intro gq (And.intro g5 g6)))))
                  clear g1 g3 gs gq g5 g6
                  cases O3
                  · cases X1
                    · have k0 := fun d os => cell_regrown GG.out.1 d os
                      have k3 := fun d os => cell_regrown GG.out.2.1 d os
                      clear GG
                      go_wp2_with fail
                      refine wp_region_quiet_below (by kernel_rfl) (by kernel_rfl) ?_
                      repeat (first | go_big_quiet_skip | quiet_step (fail))
                      refine wpQuiet_nil ?_
                      intro _ hw'
                      obtain ⟨⟨dq, osq⟩, hw''⟩ := hw'
                      subst hw''
                      have bq0 := below_regrown wr dq osq
                      generalize grow (redrawn wr dq) osq = wq at bq0 ⊢
                      have BJ2 := Lib.hid (HBJ.out.trans (bq0.mono HBJ.out.size))
                      clear bq0 k0 k3
                      go_wp2
                      go_roundw
                      case rel => exact ⟨q + 1, _, by omega, rfl, by go_num, HNX, BJ2.out⟩
                      case measure => simp [intOf]; omega
                    · obtain ⟨g1, g3, gs, gq, g5, g6⟩ := GG.out
                      clear GG
                      cases Y1
                      · go_wp2_with fail
                        refine wpX_start (fun W => W.cell? ⟨bb, off + s, none⟩ = some (.slice (some ⟨rb s, ro s, none⟩) k (rc s)) ∧ W.cell? ⟨rb s, ro s + q, none⟩ = some (.bool true) ∧ W.cell? ⟨tb, tof + s, none⟩ = some (.int .i64 p1) ∧ W.cell? ⟨tb, tof + q, none⟩ = some (.int .i64 p2) ∧ W.cell? ⟨bb, off + p1, none⟩ = some (.slice (some ⟨rb p1, ro p1, none⟩) k (rc p1)) ∧ W.cell? ⟨rb p1, ro p1 + p2, none⟩ = some (.bool false)) [] (by kernel_rfl) ?_
                        have bd : Below wr.heap.size wr wr.drew := (Below.refl _ _).drew
                        have hC : (fun W : World => W.cell? ⟨bb, off + s, none⟩ = some (.slice (some ⟨rb s, ro s, none⟩) k (rc s)) ∧ W.cell? ⟨rb s, ro s + q, none⟩ = some (.bool true) ∧ W.cell? ⟨tb, tof + s, none⟩ = some (.int .i64 p1) ∧ W.cell? ⟨tb, tof + q, none⟩ = some (.int .i64 p2) ∧ W.cell? ⟨bb, off + p1, none⟩ = some (.slice (some ⟨rb p1, ro p1, none⟩) k (rc p1)) ∧ W.cell? ⟨rb p1, ro p1 + p2, none⟩ = some (.bool false)) wr.drew := ⟨g1, g3, gs, gq, g5, g6⟩
                        clear g1 g3 gs gq g5 g6
                        refine wpX_free (i := 0) (v := ?_) rfl (by kernel_rfl) (fun _ _ _ h => h) rfl (fun w' => ?_) ?_
                        rotate_left
                        · go_simp; try with_reducible rfl
                        try simp only [Act.put, List.getElem_toArray, List.getElem_cons_zero, List.getElem_cons_succ, List.setIfInBounds_toArray, List.set_cons_zero, List.set_cons_succ]
                        refine wpX_free (i := 1) (v := ?_) rfl (by kernel_rfl) (fun _ _ _ h => h) rfl (fun w' => ?_) ?_
                        rotate_left
                        · go_simp; try with_reducible rfl
                        try simp only [Act.put, List.getElem_toArray, List.getElem_cons_zero, List.getElem_cons_succ, List.setIfInBounds_toArray, List.set_cons_zero, List.set_cons_succ]
                        refine wpX_free (i := 2) (v := ?_) rfl (by kernel_rfl) (fun _ _ _ h => h) rfl (fun w' => ?_) ?_
                        rotate_left
                        · go_simp; try with_reducible rfl
                        try simp only [Act.put, List.getElem_toArray, List.getElem_cons_zero, List.getElem_cons_succ, List.setIfInBounds_toArray, List.set_cons_zero, List.set_cons_succ]
                        refine wpX_free (i := 3) (v := ?_) rfl (by kernel_rfl) (fun _ _ _ h => h) rfl (fun w' => ?_) ?_
                        rotate_left
                        · go_simp; try with_reducible rfl
                        try simp only [Act.put, List.getElem_toArray, List.getElem_cons_zero, List.getElem_cons_succ, List.setIfInBounds_toArray, List.set_cons_zero, List.set_cons_succ]
                        refine wpX_free (i := 4) (v := ?_) rfl (by kernel_rfl) (fun _ _ _ h => h) rfl (fun w' => ?_) ?_
                        rotate_left
                        · go_simp; try with_reducible rfl
                        try simp only [Act.put, List.getElem_toArray, List.getElem_cons_zero, List.getElem_cons_succ, List.setIfInBounds_toArray, List.set_cons_zero, List.set_cons_succ]
                        refine wpX_load (i := 5) (v := ?_) rfl (by kernel_rfl) (fun _ _ _ h => h) hC rfl (fun w' hw' => ?_) ?_
                        rotate_left
                        · obtain ⟨k1, k2, k3, k4, k5, k6⟩ := hw'; go_simp; try with_reducible rfl
                        try simp only [Act.put, List.getElem_toArray, List.getElem_cons_zero, List.getElem_cons_succ, List.setIfInBounds_toArray, List.set_cons_zero, List.set_cons_succ]
                        refine wpX_free (i := 6) (v := ?_) rfl (by kernel_rfl) (fun _ _ _ h => h) rfl (fun w' => ?_) ?_
                        rotate_left
                        · go_simp; try with_reducible rfl
                        try simp only [Act.put, List.getElem_toArray, List.getElem_cons_zero, List.getElem_cons_succ, List.setIfInBounds_toArray, List.set_cons_zero, List.set_cons_succ]
                        refine wpX_free (i := 7) (v := ?_) rfl (by kernel_rfl) (fun _ _ _ h => h) rfl (fun w' => ?_) ?_
                        rotate_left
                        · go_simp; try with_reducible rfl
                        try simp only [Act.put, List.getElem_toArray, List.getElem_cons_zero, List.getElem_cons_succ, List.setIfInBounds_toArray, List.set_cons_zero, List.set_cons_succ]
                        refine wpX_load (i := 8) (v := ?_) rfl (by kernel_rfl) (fun _ _ _ h => h) hC rfl (fun w' hw' => ?_) ?_
                        rotate_left
                        · obtain ⟨k1, k2, k3, k4, k5, k6⟩ := hw'; go_simp; try with_reducible rfl
                        try simp only [Act.put, List.getElem_toArray, List.getElem_cons_zero, List.getElem_cons_succ, List.setIfInBounds_toArray, List.set_cons_zero, List.set_cons_succ]
                        refine wpX_free (i := 9) (v := ?_) rfl (by kernel_rfl) (fun _ _ _ h => h) rfl (fun w' => ?_) ?_
                        rotate_left
                        · go_simp; try with_reducible rfl
                        try simp only [Act.put, List.getElem_toArray, List.getElem_cons_zero, List.getElem_cons_succ, List.setIfInBounds_toArray, List.set_cons_zero, List.set_cons_succ]
                        refine wpX_free (i := 10) (v := ?_) rfl (by kernel_rfl) (fun _ _ _ h => h) rfl (fun w' => ?_) ?_
                        rotate_left
                        · go_simp; try with_reducible rfl
                        try simp only [Act.put, List.getElem_toArray, List.getElem_cons_zero, List.getElem_cons_succ, List.setIfInBounds_toArray, List.set_cons_zero, List.set_cons_succ]
                        refine wpX_free (i := 11) (v := ?_) rfl (by kernel_rfl) (fun _ _ _ h => h) rfl (fun w' => ?_) ?_
                        rotate_left
                        · go_simp; try with_reducible rfl
                        try simp only [Act.put, List.getElem_toArray, List.getElem_cons_zero, List.getElem_cons_succ, List.setIfInBounds_toArray, List.set_cons_zero, List.set_cons_succ]
                        refine wpX_free (i := 12) (v := ?_) rfl (by kernel_rfl) (fun _ _ _ h => h) rfl (fun w' => ?_) ?_
                        rotate_left
                        · go_simp; try with_reducible rfl
                        try simp only [Act.put, List.getElem_toArray, List.getElem_cons_zero, List.getElem_cons_succ, List.setIfInBounds_toArray, List.set_cons_zero, List.set_cons_succ]
                        refine wpX_free (i := 13) (v := ?_) rfl (by kernel_rfl) (fun _ _ _ h => h) rfl (fun w' => ?_) ?_
                        rotate_left
                        · go_simp; try with_reducible rfl
                        try simp only [Act.put, List.getElem_toArray, List.getElem_cons_zero, List.getElem_cons_succ, List.setIfInBounds_toArray, List.set_cons_zero, List.set_cons_succ]
                        refine wpX_load (i := 14) (v := ?_) rfl (by kernel_rfl) (fun _ _ _ h => h) hC rfl (fun w' hw' => ?_) ?_
                        rotate_left
                        · obtain ⟨k1, k2, k3, k4, k5, k6⟩ := hw'; go_simp; try with_reducible rfl
                        try simp only [Act.put, List.getElem_toArray, List.getElem_cons_zero, List.getElem_cons_succ, List.setIfInBounds_toArray, List.set_cons_zero, List.set_cons_succ]
                        refine wpX_free (i := 15) (v := ?_) rfl (by kernel_rfl) (fun _ _ _ h => h) rfl (fun w' => ?_) ?_
                        rotate_left
                        · go_simp; try with_reducible rfl
                        try simp only [Act.put, List.getElem_toArray, List.getElem_cons_zero, List.getElem_cons_succ, List.setIfInBounds_toArray, List.set_cons_zero, List.set_cons_succ]
                        refine wpX_load (i := 16) (v := ?_) rfl (by kernel_rfl) (fun _ _ _ h => h) hC rfl (fun w' hw' => ?_) ?_
                        rotate_left
                        · obtain ⟨k1, k2, k3, k4, k5, k6⟩ := hw'; go_simp; try with_reducible rfl
                        try simp only [Act.put, List.getElem_toArray, List.getElem_cons_zero, List.getElem_cons_succ, List.setIfInBounds_toArray, List.set_cons_zero, List.set_cons_succ]
                        refine wpX_free (i := 17) (v := ?_) rfl (by kernel_rfl) (fun _ _ _ h => h) rfl (fun w' => ?_) ?_
                        rotate_left
                        · go_simp; try with_reducible rfl
                        try simp only [Act.put, List.getElem_toArray, List.getElem_cons_zero, List.getElem_cons_succ, List.setIfInBounds_toArray, List.set_cons_zero, List.set_cons_succ]
                        refine wpX_free (i := 18) (v := ?_) rfl (by kernel_rfl) (fun _ _ _ h => h) rfl (fun w' => ?_) ?_
                        rotate_left
                        · go_simp; try with_reducible rfl
                        try simp only [Act.put, List.getElem_toArray, List.getElem_cons_zero, List.getElem_cons_succ, List.setIfInBounds_toArray, List.set_cons_zero, List.set_cons_succ]
                        refine wpX_free (i := 19) (v := ?_) rfl (by kernel_rfl) (fun _ _ _ h => h) rfl (fun w' => ?_) ?_
                        rotate_left
                        · go_simp; try with_reducible rfl
                        try simp only [Act.put, List.getElem_toArray, List.getElem_cons_zero, List.getElem_cons_succ, List.setIfInBounds_toArray, List.set_cons_zero, List.set_cons_succ]
                        refine wpX_load (i := 20) (v := ?_) rfl (by kernel_rfl) (fun _ _ _ h => h) hC rfl (fun w' hw' => ?_) ?_
                        rotate_left
                        · obtain ⟨k1, k2, k3, k4, k5, k6⟩ := hw'; go_simp; try with_reducible rfl
                        try simp only [Act.put, List.getElem_toArray, List.getElem_cons_zero, List.getElem_cons_succ, List.setIfInBounds_toArray, List.set_cons_zero, List.set_cons_succ]
                        refine wpX_free (i := 21) (v := ?_) rfl (by kernel_rfl) (fun _ _ _ h => h) rfl (fun w' => ?_) ?_
                        rotate_left
                        · go_simp; try with_reducible rfl
                        try simp only [Act.put, List.getElem_toArray, List.getElem_cons_zero, List.getElem_cons_succ, List.setIfInBounds_toArray, List.set_cons_zero, List.set_cons_succ]
                        refine wpX_load (i := 22) (v := ?_) rfl (by kernel_rfl) (fun _ _ _ h => h) hC rfl (fun w' hw' => ?_) ?_
                        rotate_left
                        · obtain ⟨k1, k2, k3, k4, k5, k6⟩ := hw'; go_simp; try with_reducible rfl
                        try simp only [Act.put, List.getElem_toArray, List.getElem_cons_zero, List.getElem_cons_succ, List.setIfInBounds_toArray, List.set_cons_zero, List.set_cons_succ]
                        refine wpX_free (i := 23) (v := ?_) rfl (by kernel_rfl) (fun _ _ _ h => h) rfl (fun w' => ?_) ?_
                        rotate_left
                        · go_simp; try with_reducible rfl
                        try simp only [Act.put, List.getElem_toArray, List.getElem_cons_zero, List.getElem_cons_succ, List.setIfInBounds_toArray, List.set_cons_zero, List.set_cons_succ]
                        refine wpX_free (i := 24) (v := ?_) rfl (by kernel_rfl) (fun _ _ _ h => h) rfl (fun w' => ?_) ?_
                        rotate_left
                        · go_simp; try with_reducible rfl
                        try simp only [Act.put, List.getElem_toArray, List.getElem_cons_zero, List.getElem_cons_succ, List.setIfInBounds_toArray, List.set_cons_zero, List.set_cons_succ]
                        refine wpX_free (i := 25) (v := ?_) rfl (by kernel_rfl) (fun _ _ _ h => h) rfl (fun w' => ?_) ?_
                        rotate_left
                        · go_simp; try with_reducible rfl
                        try simp only [Act.put, List.getElem_toArray, List.getElem_cons_zero, List.getElem_cons_succ, List.setIfInBounds_toArray, List.set_cons_zero, List.set_cons_succ]
                        refine wpX_free (i := 26) (v := ?_) rfl (by kernel_rfl) (fun _ _ _ h => h) rfl (fun w' => ?_) ?_
                        rotate_left
                        · go_simp; try with_reducible rfl
                        try simp only [Act.put, List.getElem_toArray, List.getElem_cons_zero, List.getElem_cons_succ, List.setIfInBounds_toArray, List.set_cons_zero, List.set_cons_succ]
                        refine wpX_rest (t := []) (l := []) rfl (by kernel_rfl) (by kernel_rfl) ?_
                        clear hC
                        try simp only [List.getElem_toArray, List.getElem_cons_zero, List.getElem_cons_succ]
                        have BJ2 := Lib.hid (HBJ.out.trans (bd.mono HBJ.out.size))
                        clear bd
                        go_wp2
                        go_roundw
                        case rel => exact ⟨q + 1, _, by omega, rfl, by go_num, HNX, BJ2.out⟩
                        case measure => simp [intOf]; omega
                      · go_wp2_with fail
                        refine wpX_start (fun W => W.cell? ⟨bb, off + s, none⟩ = some (.slice (some ⟨rb s, ro s, none⟩) k (rc s)) ∧ W.cell? ⟨rb s, ro s + q, none⟩ = some (.bool true) ∧ W.cell? ⟨tb, tof + s, none⟩ = some (.int .i64 p1) ∧ W.cell? ⟨tb, tof + q, none⟩ = some (.int .i64 p2) ∧ W.cell? ⟨bb, off + p1, none⟩ = some (.slice (some ⟨rb p1, ro p1, none⟩) k (rc p1)) ∧ W.cell? ⟨rb p1, ro p1 + p2, none⟩ = some (.bool true)) [] (by kernel_rfl) ?_
                        have bd : Below wr.heap.size wr wr.drew := (Below.refl _ _).drew
                        have hC : (fun W : World => W.cell? ⟨bb, off + s, none⟩ = some (.slice (some ⟨rb s, ro s, none⟩) k (rc s)) ∧ W.cell? ⟨rb s, ro s + q, none⟩ = some (.bool true) ∧ W.cell? ⟨tb, tof + s, none⟩ = some (.int .i64 p1) ∧ W.cell? ⟨tb, tof + q, none⟩ = some (.int .i64 p2) ∧ W.cell? ⟨bb, off + p1, none⟩ = some (.slice (some ⟨rb p1, ro p1, none⟩) k (rc p1)) ∧ W.cell? ⟨rb p1, ro p1 + p2, none⟩ = some (.bool true)) wr.drew := ⟨g1, g3, gs, gq, g5, g6⟩
                        clear g1 g3 gs gq g5 g6
                        refine wpX_free (i := 0) (v := ?_) rfl (by kernel_rfl) (fun _ _ _ h => h) rfl (fun w' => ?_) ?_
                        rotate_left
                        · go_simp; try with_reducible rfl
                        try simp only [Act.put, List.getElem_toArray, List.getElem_cons_zero, List.getElem_cons_succ, List.setIfInBounds_toArray, List.set_cons_zero, List.set_cons_succ]
                        refine wpX_free (i := 1) (v := ?_) rfl (by kernel_rfl) (fun _ _ _ h => h) rfl (fun w' => ?_) ?_
                        rotate_left
                        · go_simp; try with_reducible rfl
                        try simp only [Act.put, List.getElem_toArray, List.getElem_cons_zero, List.getElem_cons_succ, List.setIfInBounds_toArray, List.set_cons_zero, List.set_cons_succ]
                        refine wpX_free (i := 2) (v := ?_) rfl (by kernel_rfl) (fun _ _ _ h => h) rfl (fun w' => ?_) ?_
                        rotate_left
                        · go_simp; try with_reducible rfl
                        try simp only [Act.put, List.getElem_toArray, List.getElem_cons_zero, List.getElem_cons_succ, List.setIfInBounds_toArray, List.set_cons_zero, List.set_cons_succ]
                        refine wpX_free (i := 3) (v := ?_) rfl (by kernel_rfl) (fun _ _ _ h => h) rfl (fun w' => ?_) ?_
                        rotate_left
                        · go_simp; try with_reducible rfl
                        try simp only [Act.put, List.getElem_toArray, List.getElem_cons_zero, List.getElem_cons_succ, List.setIfInBounds_toArray, List.set_cons_zero, List.set_cons_succ]
                        refine wpX_free (i := 4) (v := ?_) rfl (by kernel_rfl) (fun _ _ _ h => h) rfl (fun w' => ?_) ?_
                        rotate_left
                        · go_simp; try with_reducible rfl
                        try simp only [Act.put, List.getElem_toArray, List.getElem_cons_zero, List.getElem_cons_succ, List.setIfInBounds_toArray, List.set_cons_zero, List.set_cons_succ]
                        refine wpX_load (i := 5) (v := ?_) rfl (by kernel_rfl) (fun _ _ _ h => h) hC rfl (fun w' hw' => ?_) ?_
                        rotate_left
                        · obtain ⟨k1, k2, k3, k4, k5, k6⟩ := hw'; go_simp; try with_reducible rfl
                        try simp only [Act.put, List.getElem_toArray, List.getElem_cons_zero, List.getElem_cons_succ, List.setIfInBounds_toArray, List.set_cons_zero, List.set_cons_succ]
                        refine wpX_free (i := 6) (v := ?_) rfl (by kernel_rfl) (fun _ _ _ h => h) rfl (fun w' => ?_) ?_
                        rotate_left
                        · go_simp; try with_reducible rfl
                        try simp only [Act.put, List.getElem_toArray, List.getElem_cons_zero, List.getElem_cons_succ, List.setIfInBounds_toArray, List.set_cons_zero, List.set_cons_succ]
                        refine wpX_free (i := 7) (v := ?_) rfl (by kernel_rfl) (fun _ _ _ h => h) rfl (fun w' => ?_) ?_
                        rotate_left
                        · go_simp; try with_reducible rfl
                        try simp only [Act.put, List.getElem_toArray, List.getElem_cons_zero, List.getElem_cons_succ, List.setIfInBounds_toArray, List.set_cons_zero, List.set_cons_succ]
                        refine wpX_load (i := 8) (v := ?_) rfl (by kernel_rfl) (fun _ _ _ h => h) hC rfl (fun w' hw' => ?_) ?_
                        rotate_left
                        · obtain ⟨k1, k2, k3, k4, k5, k6⟩ := hw'; go_simp; try with_reducible rfl
                        try simp only [Act.put, List.getElem_toArray, List.getElem_cons_zero, List.getElem_cons_succ, List.setIfInBounds_toArray, List.set_cons_zero, List.set_cons_succ]
                        refine wpX_free (i := 9) (v := ?_) rfl (by kernel_rfl) (fun _ _ _ h => h) rfl (fun w' => ?_) ?_
                        rotate_left
                        · go_simp; try with_reducible rfl
                        try simp only [Act.put, List.getElem_toArray, List.getElem_cons_zero, List.getElem_cons_succ, List.setIfInBounds_toArray, List.set_cons_zero, List.set_cons_succ]
                        refine wpX_free (i := 10) (v := ?_) rfl (by kernel_rfl) (fun _ _ _ h => h) rfl (fun w' => ?_) ?_
                        rotate_left
                        · go_simp; try with_reducible rfl
                        try simp only [Act.put, List.getElem_toArray, List.getElem_cons_zero, List.getElem_cons_succ, List.setIfInBounds_toArray, List.set_cons_zero, List.set_cons_succ]
                        refine wpX_free (i := 11) (v := ?_) rfl (by kernel_rfl) (fun _ _ _ h => h) rfl (fun w' => ?_) ?_
                        rotate_left
                        · go_simp; try with_reducible rfl
                        try simp only [Act.put, List.getElem_toArray, List.getElem_cons_zero, List.getElem_cons_succ, List.setIfInBounds_toArray, List.set_cons_zero, List.set_cons_succ]
                        refine wpX_free (i := 12) (v := ?_) rfl (by kernel_rfl) (fun _ _ _ h => h) rfl (fun w' => ?_) ?_
                        rotate_left
                        · go_simp; try with_reducible rfl
                        try simp only [Act.put, List.getElem_toArray, List.getElem_cons_zero, List.getElem_cons_succ, List.setIfInBounds_toArray, List.set_cons_zero, List.set_cons_succ]
                        refine wpX_free (i := 13) (v := ?_) rfl (by kernel_rfl) (fun _ _ _ h => h) rfl (fun w' => ?_) ?_
                        rotate_left
                        · go_simp; try with_reducible rfl
                        try simp only [Act.put, List.getElem_toArray, List.getElem_cons_zero, List.getElem_cons_succ, List.setIfInBounds_toArray, List.set_cons_zero, List.set_cons_succ]
                        refine wpX_load (i := 14) (v := ?_) rfl (by kernel_rfl) (fun _ _ _ h => h) hC rfl (fun w' hw' => ?_) ?_
                        rotate_left
                        · obtain ⟨k1, k2, k3, k4, k5, k6⟩ := hw'; go_simp; try with_reducible rfl
                        try simp only [Act.put, List.getElem_toArray, List.getElem_cons_zero, List.getElem_cons_succ, List.setIfInBounds_toArray, List.set_cons_zero, List.set_cons_succ]
                        refine wpX_free (i := 15) (v := ?_) rfl (by kernel_rfl) (fun _ _ _ h => h) rfl (fun w' => ?_) ?_
                        rotate_left
                        · go_simp; try with_reducible rfl
                        try simp only [Act.put, List.getElem_toArray, List.getElem_cons_zero, List.getElem_cons_succ, List.setIfInBounds_toArray, List.set_cons_zero, List.set_cons_succ]
                        refine wpX_load (i := 16) (v := ?_) rfl (by kernel_rfl) (fun _ _ _ h => h) hC rfl (fun w' hw' => ?_) ?_
                        rotate_left
                        · obtain ⟨k1, k2, k3, k4, k5, k6⟩ := hw'; go_simp; try with_reducible rfl
                        try simp only [Act.put, List.getElem_toArray, List.getElem_cons_zero, List.getElem_cons_succ, List.setIfInBounds_toArray, List.set_cons_zero, List.set_cons_succ]
                        refine wpX_free (i := 17) (v := ?_) rfl (by kernel_rfl) (fun _ _ _ h => h) rfl (fun w' => ?_) ?_
                        rotate_left
                        · go_simp; try with_reducible rfl
                        try simp only [Act.put, List.getElem_toArray, List.getElem_cons_zero, List.getElem_cons_succ, List.setIfInBounds_toArray, List.set_cons_zero, List.set_cons_succ]
                        refine wpX_free (i := 18) (v := ?_) rfl (by kernel_rfl) (fun _ _ _ h => h) rfl (fun w' => ?_) ?_
                        rotate_left
                        · go_simp; try with_reducible rfl
                        try simp only [Act.put, List.getElem_toArray, List.getElem_cons_zero, List.getElem_cons_succ, List.setIfInBounds_toArray, List.set_cons_zero, List.set_cons_succ]
                        refine wpX_free (i := 19) (v := ?_) rfl (by kernel_rfl) (fun _ _ _ h => h) rfl (fun w' => ?_) ?_
                        rotate_left
                        · go_simp; try with_reducible rfl
                        try simp only [Act.put, List.getElem_toArray, List.getElem_cons_zero, List.getElem_cons_succ, List.setIfInBounds_toArray, List.set_cons_zero, List.set_cons_succ]
                        refine wpX_load (i := 20) (v := ?_) rfl (by kernel_rfl) (fun _ _ _ h => h) hC rfl (fun w' hw' => ?_) ?_
                        rotate_left
                        · obtain ⟨k1, k2, k3, k4, k5, k6⟩ := hw'; go_simp; try with_reducible rfl
                        try simp only [Act.put, List.getElem_toArray, List.getElem_cons_zero, List.getElem_cons_succ, List.setIfInBounds_toArray, List.set_cons_zero, List.set_cons_succ]
                        refine wpX_free (i := 21) (v := ?_) rfl (by kernel_rfl) (fun _ _ _ h => h) rfl (fun w' => ?_) ?_
                        rotate_left
                        · go_simp; try with_reducible rfl
                        try simp only [Act.put, List.getElem_toArray, List.getElem_cons_zero, List.getElem_cons_succ, List.setIfInBounds_toArray, List.set_cons_zero, List.set_cons_succ]
                        refine wpX_load (i := 22) (v := ?_) rfl (by kernel_rfl) (fun _ _ _ h => h) hC rfl (fun w' hw' => ?_) ?_
                        rotate_left
                        · obtain ⟨k1, k2, k3, k4, k5, k6⟩ := hw'; go_simp; try with_reducible rfl
                        try simp only [Act.put, List.getElem_toArray, List.getElem_cons_zero, List.getElem_cons_succ, List.setIfInBounds_toArray, List.set_cons_zero, List.set_cons_succ]
                        refine wpX_free (i := 23) (v := ?_) rfl (by kernel_rfl) (fun _ _ _ h => h) rfl (fun w' => ?_) ?_
                        rotate_left
                        · go_simp; try with_reducible rfl
                        try simp only [Act.put, List.getElem_toArray, List.getElem_cons_zero, List.getElem_cons_succ, List.setIfInBounds_toArray, List.set_cons_zero, List.set_cons_succ]
                        refine wpX_free (i := 24) (v := ?_) rfl (by kernel_rfl) (fun _ _ _ h => h) rfl (fun w' => ?_) ?_
                        rotate_left
                        · go_simp; try with_reducible rfl
                        try simp only [Act.put, List.getElem_toArray, List.getElem_cons_zero, List.getElem_cons_succ, List.setIfInBounds_toArray, List.set_cons_zero, List.set_cons_succ]
                        refine wpX_free (i := 25) (v := ?_) rfl (by kernel_rfl) (fun _ _ _ h => h) rfl (fun w' => ?_) ?_
                        rotate_left
                        · go_simp; try with_reducible rfl
                        try simp only [Act.put, List.getElem_toArray, List.getElem_cons_zero, List.getElem_cons_succ, List.setIfInBounds_toArray, List.set_cons_zero, List.set_cons_succ]
                        refine wpX_free (i := 26) (v := ?_) rfl (by kernel_rfl) (fun _ _ _ h => h) rfl (fun w' => ?_) ?_
                        rotate_left
                        · go_simp; try with_reducible rfl
                        try simp only [Act.put, List.getElem_toArray, List.getElem_cons_zero, List.getElem_cons_succ, List.setIfInBounds_toArray, List.set_cons_zero, List.set_cons_succ]
                        refine wpX_rest (t := []) (l := []) rfl (by kernel_rfl) (by kernel_rfl) ?_
                        clear hC
                        try simp only [List.getElem_toArray, List.getElem_cons_zero, List.getElem_cons_succ]
                        have BJ2 := Lib.hid (HBJ.out.trans (bd.mono HBJ.out.size))
                        clear bd
                        go_wp2
                        go_roundw
                        case rel => exact ⟨q + 1, _, by omega, rfl, by go_num, HNX, BJ2.out⟩
                        case measure => simp [intOf]; omega
                  · clear GG
                    go_wp2_with fail
                    refine wp_region_quiet_below (by kernel_rfl) (by kernel_rfl) ?_
                    repeat (first | go_big_quiet_skip | quiet_step (fail))
                    refine wpQuiet_nil ?_
                    intro _ hw'
                    obtain ⟨⟨dq, osq⟩, hw''⟩ := hw'
                    subst hw''
                    have bq0 := below_regrown wr dq osq
                    generalize grow (redrawn wr dq) osq = wq at bq0 ⊢
                    have BJ2 := Lib.hid (HBJ.out.trans (bq0.mono HBJ.out.size))
                    clear bq0
                    go_wp2
                    go_roundw
                    case rel => exact ⟨q + 1, _, by omega, rfl, by go_num, HNX, BJ2.out⟩
                    case measure => simp [intOf]; omega
                · obtain rfl : q = k := by omega
                  have HN := Lib.hid hK3.out.row
                  clear hbj
                  go_wp2
                  go_roundw
                  case rel => exact ⟨s + 1, O3, by omega, rfl, by go_num, HN, HBJ.out⟩
                  case measure => simp [intOf]; omega
            · obtain rfl : s = k := by omega
              have HN := Lib.hid hK2.out.map
              have HBn := Lib.hid (HBW.out.trans (hbi.mono HBW.out.size))
              clear hbi
              go_wp2
              go_roundw
              case rel => exact ⟨i + 1, O2, by omega, rfl, by go_num, HN, HBn.out⟩
              case measure => simp [intOf]; omega
        · obtain rfl : i = MS2.length := by omega
          obtain rfl : O = !M := by rw [HM.out]; exact hK.out.all
          have HA2 := Lib.hid (fun W (h : Below wr.heap.size wr W) => HA12.out W (HBW.out.trans (h.mono HBW.out.size)))
          have HU2 := Lib.hid (fun W (h : Below wr.heap.size wr W) => HU.out W (HBW.out.trans (h.mono HBW.out.size)))
          have XB := XW
          obtain ⟨⟨a2, b2, c2⟩, hS2⟩ : ∃ x, x = sandR k MS2 B [] := ⟨_, rfl⟩
          have HS2 := Lib.hid hS2.symm
          have D13 := Lib.hid (D12.out.trans (hbw.mono D12.out.size))
          have t1 : (a2 == a2) = true := by simp
          have t2' : (b2 == b2) = true := by simp
          have t3 : (c2 == c2) = true := by simp
          clear hS2 HBW HA12 HU X12 hK hbw HM XW D12
          go_wp2_with fail
          clear x0 x1 x2 x3
          refine wpX_start (fun W => MpAt W wb.heap.size k t2 (.slice vb MS2.length vd)) [] (by kernel_rfl) ?_
          have bd : Below wr.heap.size wr wr.drew := (Below.refl _ _).drew
          have hC : (fun W : World => MpAt W wb.heap.size k t2 (.slice vb MS2.length vd)) wr.drew := XB.out.below bd
          refine wpX_load (i := 0) (v := ?_) rfl (by kernel_rfl) (fun _ _ _ h => h) hC rfl (fun w' hw' => ?_) ?_
          rotate_left
          · obtain ⟨k1, k2, k3, k4⟩ := hw'; go_simp; try with_reducible rfl
          try simp only [Act.put, List.getElem_toArray, List.getElem_cons_zero, List.getElem_cons_succ, List.setIfInBounds_toArray, List.set_cons_zero, List.set_cons_succ]
          refine wpX_free (i := 1) (v := ?_) rfl (by kernel_rfl) (fun _ _ _ h => h) rfl (fun w' => ?_) ?_
          rotate_left
          · go_simp; try with_reducible rfl
          try simp only [Act.put, List.getElem_toArray, List.getElem_cons_zero, List.getElem_cons_succ, List.setIfInBounds_toArray, List.set_cons_zero, List.set_cons_succ]
          refine wpX_free (i := 2) (v := ?_) rfl (by kernel_rfl) (fun _ _ _ h => h) rfl (fun w' => ?_) ?_
          rotate_left
          · go_simp; try with_reducible rfl
          try simp only [Act.put, List.getElem_toArray, List.getElem_cons_zero, List.getElem_cons_succ, List.setIfInBounds_toArray, List.set_cons_zero, List.set_cons_succ]
          refine wpX_free (i := 3) (v := ?_) rfl (by kernel_rfl) (fun _ _ _ h => h) rfl (fun w' => ?_) ?_
          rotate_left
          · go_simp; try with_reducible rfl
          try simp only [Act.put, List.getElem_toArray, List.getElem_cons_zero, List.getElem_cons_succ, List.setIfInBounds_toArray, List.set_cons_zero, List.set_cons_succ]
          refine wpX_one (i := 4) rfl (by kernel_rfl) rfl ?_
          intro K2 hK2
          go_simp
          go_at_call 14
          refine (ImplSandwichRun_ok k _ (HA2.out _ bd) HV2.out (HU2.out _ bd) HO2.out (SlI.none_of HPC.out) (fun p hp => by cases hp) (by decide)).mono ?_
          rintro e wq ⟨he, bq⟩
          rw [HS2.out, show tupJ (a2, b2, c2) = .tuple #[.int .i64 a2, .int .i64 b2, .int .i64 c2] from rfl] at he
          subst he
          have BQ := Lib.hid (bd.trans (bq.mono bd.size))
          refine hK2 _ _ (XB.out.below BQ.out) ?_
          clear hK2 K2
          try simp only [Act.put, List.getElem_toArray, List.getElem_cons_zero, List.getElem_cons_succ, List.setIfInBounds_toArray, List.set_cons_zero, List.set_cons_succ]
          refine wpX_free (i := 5) (v := ?_) rfl (by kernel_rfl) (fun _ _ _ h => h) rfl (fun w' => ?_) ?_
          rotate_left
          · go_simp; try with_reducible rfl
          try simp only [Act.put, List.getElem_toArray, List.getElem_cons_zero, List.getElem_cons_succ, List.setIfInBounds_toArray, List.set_cons_zero, List.set_cons_succ]
          refine wpX_free (i := 6) (v := ?_) rfl (by kernel_rfl) (fun _ _ _ h => h) rfl (fun w' => ?_) ?_
          rotate_left
          · go_simp; try with_reducible rfl
          try simp only [Act.put, List.getElem_toArray, List.getElem_cons_zero, List.getElem_cons_succ, List.setIfInBounds_toArray, List.set_cons_zero, List.set_cons_succ]
          refine wpX_free (i := 7) (v := ?_) rfl (by kernel_rfl) (fun _ _ _ h => h) rfl (fun w' => ?_) ?_
          rotate_left
          · go_simp; try with_reducible rfl
          try simp only [Act.put, List.getElem_toArray, List.getElem_cons_zero, List.getElem_cons_succ, List.setIfInBounds_toArray, List.set_cons_zero, List.set_cons_succ]
          refine wpX_free (i := 8) (v := ?_) rfl (by kernel_rfl) (fun _ _ _ h => h) rfl (fun w' => ?_) ?_
          rotate_left
          · go_simp; try with_reducible rfl
          try simp only [Act.put, List.getElem_toArray, List.getElem_cons_zero, List.getElem_cons_succ, List.setIfInBounds_toArray, List.set_cons_zero, List.set_cons_succ]
          refine wpX_free (i := 9) (v := ?_) rfl (by kernel_rfl) (fun _ _ _ h => h) rfl (fun w' => ?_) ?_
          rotate_left
          · go_simp; try with_reducible rfl
          try simp only [Act.put, List.getElem_toArray, List.getElem_cons_zero, List.getElem_cons_succ, List.setIfInBounds_toArray, List.set_cons_zero, List.set_cons_succ]
          refine wpX_free (i := 10) (v := ?_) rfl (by kernel_rfl) (fun _ _ _ h => h) rfl (fun w' => ?_) ?_
          rotate_left
          · go_simp; try with_reducible rfl
          try simp only [Act.put, List.getElem_toArray, List.getElem_cons_zero, List.getElem_cons_succ, List.setIfInBounds_toArray, List.set_cons_zero, List.set_cons_succ]
          refine wpX_free (i := 11) (v := ?_) rfl (by kernel_rfl) (fun _ _ _ h => h) rfl (fun w' => ?_) ?_
          rotate_left
          · go_simp; try with_reducible rfl
          try simp only [Act.put, List.getElem_toArray, List.getElem_cons_zero, List.getElem_cons_succ, List.setIfInBounds_toArray, List.set_cons_zero, List.set_cons_succ]
          refine wpX_rest (t := []) (l := []) rfl (by kernel_rfl) (by kernel_rfl) ?_
          clear hC bd bq
          try simp only [List.getElem_toArray, List.getElem_cons_zero, List.getElem_cons_succ]
          have HA2 := Lib.hid (fun W (h : Below wq.heap.size wq W) => HA2.out W (BQ.out.trans (h.mono BQ.out.size)))
          have HU2 := Lib.hid (fun W (h : Below wq.heap.size wq W) => HU2.out W (BQ.out.trans (h.mono BQ.out.size)))
          have XB := Lib.hid (XB.out.below BQ.out)
          have D13 := Lib.hid (D13.out.trans (BQ.out.mono D13.out.size))
          rename_i wr_old
          clear BQ
          obtain ⟨wr', hwr'⟩ : ∃ wr' : World, wr' = wq := ⟨_, rfl⟩
          subst hwr'
          go_wp2_with fail
          refine wpX_start (fun W => MpAt W wb.heap.size k t2 (.slice vb MS2.length vd)) [] (by kernel_rfl) ?_
          have bd : Below wr'.heap.size wr' wr'.drew := (Below.refl _ _).drew
          have hC : (fun W : World => MpAt W wb.heap.size k t2 (.slice vb MS2.length vd)) wr'.drew := XB.out.below bd
          refine wpX_load (i := 0) (v := ?_) rfl (by kernel_rfl) (fun _ _ _ h => h) hC rfl (fun w' hw' => ?_) ?_
          rotate_left
          · obtain ⟨k1, k2, k3, k4⟩ := hw'; go_simp; try with_reducible rfl
          try simp only [Act.put, List.getElem_toArray, List.getElem_cons_zero, List.getElem_cons_succ, List.setIfInBounds_toArray, List.set_cons_zero, List.set_cons_succ]
          refine wpX_free (i := 1) (v := ?_) rfl (by kernel_rfl) (fun _ _ _ h => h) rfl (fun w' => ?_) ?_
          rotate_left
          · go_simp; try with_reducible rfl
          try simp only [Act.put, List.getElem_toArray, List.getElem_cons_zero, List.getElem_cons_succ, List.setIfInBounds_toArray, List.set_cons_zero, List.set_cons_succ]
          refine wpX_free (i := 2) (v := ?_) rfl (by kernel_rfl) (fun _ _ _ h => h) rfl (fun w' => ?_) ?_
          rotate_left
          · go_simp; try with_reducible rfl
          try simp only [Act.put, List.getElem_toArray, List.getElem_cons_zero, List.getElem_cons_succ, List.setIfInBounds_toArray, List.set_cons_zero, List.set_cons_succ]
          refine wpX_free (i := 3) (v := ?_) rfl (by kernel_rfl) (fun _ _ _ h => h) rfl (fun w' => ?_) ?_
          rotate_left
          · go_simp; try with_reducible rfl
          try simp only [Act.put, List.getElem_toArray, List.getElem_cons_zero, List.getElem_cons_succ, List.setIfInBounds_toArray, List.set_cons_zero, List.set_cons_succ]
          refine wpX_one (i := 4) rfl (by kernel_rfl) rfl ?_
          intro K2 hK2
          go_simp
          go_at_call 17
          refine (SpecSandwichRun_ok k _ (HA2.out _ bd) HV2.out (HU2.out _ bd) HO2.out (SlI.none_of HPC.out) (fun p hp => by cases hp) (by decide)).mono ?_
          rintro e wq' ⟨he, bq⟩
          rw [HS2.out, show tupJ (a2, b2, c2) = .tuple #[.int .i64 a2, .int .i64 b2, .int .i64 c2] from rfl] at he
          subst he
          have BQ := Lib.hid (bd.trans (bq.mono bd.size))
          refine hK2 _ _ (XB.out.below BQ.out) ?_
          clear hK2 K2
          try simp only [Act.put, List.getElem_toArray, List.getElem_cons_zero, List.getElem_cons_succ, List.setIfInBounds_toArray, List.set_cons_zero, List.set_cons_succ]
          refine wpX_free (i := 5) (v := ?_) rfl (by kernel_rfl) (fun _ _ _ h => h) rfl (fun w' => ?_) ?_
          rotate_left
          · go_simp; try with_reducible rfl
          try simp only [Act.put, List.getElem_toArray, List.getElem_cons_zero, List.getElem_cons_succ, List.setIfInBounds_toArray, List.set_cons_zero, List.set_cons_succ]
          refine wpX_free (i := 6) (v := ?_) rfl (by kernel_rfl) (fun _ _ _ h => h) rfl (fun w' => ?_) ?_
          rotate_left
          · go_simp; try with_reducible rfl
          try simp only [Act.put, List.getElem_toArray, List.getElem_cons_zero, List.getElem_cons_succ, List.setIfInBounds_toArray, List.set_cons_zero, List.set_cons_succ]
          refine wpX_free (i := 7) (v := ?_) rfl (by kernel_rfl) (fun _ _ _ h => h) rfl (fun w' => ?_) ?_
          rotate_left
          · go_simp; try with_reducible rfl
          try simp only [Act.put, List.getElem_toArray, List.getElem_cons_zero, List.getElem_cons_succ, List.setIfInBounds_toArray, List.set_cons_zero, List.set_cons_succ]
          refine wpX_free (i := 8) (v := ?_) rfl (by kernel_rfl) (fun _ _ _ h => h) rfl (fun w' => ?_) ?_
          rotate_left
          · go_simp; try with_reducible rfl
          try simp only [Act.put, List.getElem_toArray, List.getElem_cons_zero, List.getElem_cons_succ, List.setIfInBounds_toArray, List.set_cons_zero, List.set_cons_succ]
          refine wpX_free (i := 9) (v := ?_) rfl (by kernel_rfl) (fun _ _ _ h => h) rfl (fun w' => ?_) ?_
          rotate_left
          · go_simp; try with_reducible rfl
          try simp only [Act.put, List.getElem_toArray, List.getElem_cons_zero, List.getElem_cons_succ, List.setIfInBounds_toArray, List.set_cons_zero, List.set_cons_succ]
          refine wpX_free (i := 10) (v := ?_) rfl (by kernel_rfl) (fun _ _ _ h => h) rfl (fun w' => ?_) ?_
          rotate_left
          · go_simp; try with_reducible rfl
          try simp only [Act.put, List.getElem_toArray, List.getElem_cons_zero, List.getElem_cons_succ, List.setIfInBounds_toArray, List.set_cons_zero, List.set_cons_succ]
          refine wpX_free (i := 11) (v := ?_) rfl (by kernel_rfl) (fun _ _ _ h => h) rfl (fun w' => ?_) ?_
          rotate_left
          · go_simp; try with_reducible rfl
          try simp only [Act.put, List.getElem_toArray, List.getElem_cons_zero, List.getElem_cons_succ, List.setIfInBounds_toArray, List.set_cons_zero, List.set_cons_succ]
          refine wpX_rest (t := []) (l := []) rfl (by kernel_rfl) (by kernel_rfl) ?_
          clear hC bd bq
          try simp only [List.getElem_toArray, List.getElem_cons_zero, List.getElem_cons_succ]
          have HU3 := Lib.hid (fun W (h : Below wq'.heap.size wq' W) => HU2.out W (BQ.out.trans (h.mono BQ.out.size)))
          obtain ⟨x0, x1, x2, x3⟩ := XB.out.below BQ.out
          have D14 := Lib.hid (D13.out.trans (BQ.out.mono D13.out.size))
          clear BQ
          cases M
          all_goals
            go_wp2_with fail
            refine (ImplValidOrder_ok k _ (HU3.out _ (Below.refl _ _)) HO2.out).mono ?_
            rintro e wz ⟨rfl, rfl⟩
            go_wp2
            go_ret
            exact ⟨rfl, D14.out⟩
end Go.Proofs.Ytceobhmbnkheiaa
