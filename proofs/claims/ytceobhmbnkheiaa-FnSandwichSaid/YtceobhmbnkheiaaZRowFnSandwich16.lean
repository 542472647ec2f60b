/-
  Orders looked at, runs by their ends: the reference's side. With it: Maps that keep an order: the program's side.
-/
import Derived.Test.YtceobhmbnkheiaaZRowFnSandwich15
set_option linter.unusedVariables false
set_option linter.unusedSimpArgs false
namespace Go.Proofs.Ytceobhmbnkheiaa
open Go.RowKit Go.Sort
theorem SlM.atJ {w : World} {ad : Option Addr} {n c : Nat} {ms : List (Int × List Int)} (h : SlM w (.slice ad n c) ms) {i : Nat} (hi : i < ms.length) :
    ∃ (b off : Nat) (ra : Option Addr) (rc : Nat) (wt : Int) (tl : List Int), ad = some ⟨b, off, none⟩ ∧ b < w.heap.size ∧ wt = ms[i].1 ∧ tl = ms[i].2 ∧ w.cell? ⟨b, off + i * 2, none⟩ = some (.int .i64 wt) ∧ w.cell? ⟨b, off + i * 2 + 1, none⟩ = some (.slice ra tl.length rc) ∧ SlI w (.slice ra tl.length rc) tl := by
  obtain ⟨b, off, ra, rc, h1, h2, h3, h4, h5⟩ := h.at_ hi
  exact ⟨b, off, ra, rc, _, _, h1, h2, rfl, rfl, h3, h4, h5⟩
theorem monB_no {b : List (List Bool)} {n : Nat} {ms : List (Int × List Int)} {i : Nat} (hi : i < ms.length) {s t : Nat} (hs : s < n) (ht : t < n) (h : keepB b n ms[i].2 s t = false) : monB b n ms = false := by
  unfold monB
  rw [List.all_eq_false]
  refine ⟨ms[i], List.getElem_mem hi, ?_⟩
  unfold mapK
  rw [all_no hs (by unfold rowK1; exact all_no ht h)]; simp
theorem monB_yes {b : List (List Bool)} {n : Nat} {ms : List (Int × List Int)} (h : ∀ (i : Nat) (hi : i < ms.length) s t, s < n → t < n → keepB b n ms[i].2 s t = true) : monB b n ms = true := by
  unfold monB
  rw [List.all_eq_true]
  intro m hm
  obtain ⟨i, hi, rfl⟩ := List.getElem_of_mem hm
  unfold mapK rowK1
  exact all_yes (fun s hs => all_yes (fun t ht => h i hi s t hs ht))
/-- so far all is kept -/
def Kept (b : List (List Bool)) (n : Nat) (ms : List (Int × List Int)) (i s t : Nat) : Prop :=
  ∀ (i' : Nat) (hi : i' < ms.length) s' t', s' < n → t' < n → (i' < i ∨ i' = i ∧ (s' < s ∨ s' = s ∧ t' < t)) → keepB b n ms[i'].2 s' t' = true
theorem Kept.next {b : List (List Bool)} {n : Nat} {ms : List (Int × List Int)} {i s t : Nat} (h : Kept b n ms i s t) (hi : i < ms.length) (hk : keepB b n ms[i].2 s t = true) : Kept b n ms i s (t + 1) := by
  intro i' hi' s' t' hs ht hc
  by_cases e : i' = i ∧ s' = s ∧ t' = t
  · obtain ⟨rfl, rfl, rfl⟩ := e; exact hk
  · exact h i' hi' s' t' hs ht (by omega)
theorem Kept.row {b : List (List Bool)} {n : Nat} {ms : List (Int × List Int)} {i s : Nat} (h : Kept b n ms i s n) : Kept b n ms i (s + 1) 0 := fun i' hi' s' t' hs ht hc => h i' hi' s' t' hs ht (by omega)
theorem Kept.map {b : List (List Bool)} {n : Nat} {ms : List (Int × List Int)} {i : Nat} (h : Kept b n ms i n 0) : Kept b n ms (i + 1) 0 0 := fun i' hi' s' t' hs ht hc => h i' hi' s' t' hs ht (by omega)
theorem Kept.all {b : List (List Bool)} {n : Nat} {ms : List (Int × List Int)} (h : Kept b n ms ms.length 0 0) : monB b n ms = true := monB_yes (fun i hi s t hs ht => h i hi s t hs ht (by omega))

set_option maxRecDepth 100000 in
set_option maxHeartbeats 8000000 in
theorem monotone_ok {v u : Value} {b : List (List Bool)} {ms : List (Int × List Int)} {t : Int} (n : Nat) (w : World) (ha : SlM w v ms) (hv : mapsOk n t ms) (hu : GB.Sl w u b) (hO : OrdB n b) :
    Calls Try.prog 44 #[.agg #[.int .i64 n, .int .i64 t, v], u] w fun e w' => e = .returned (.bool (monB b n ms)) ∧ Below w.heap.size w w' := by
  have HA := Lib.hid (fun W (h : Below w.heap.size w W) => ha.below h)
  obtain ⟨a, ca, rfl, _, _⟩ := ha.form
  obtain ⟨bb, off, c, rb, ro, rc, rfl, hnc, hcm, hrd⟩ := GB_rd hu hO
  have HRD := Lib.hid (fun W (h : Below w.heap.size w W) => hrd.below h)
  have hn1 := hO.n1
  have hn6 := hO.n6
  have BX := Lib.hid (mpBelow w n t (.slice a ms.length ca))
  have X := Lib.hid (MpAt.new w n t (.slice a ms.length ca))
  have hml : ms.length ≤ 60 := by obtain ⟨_, _, ⟨_, h⟩, _⟩ := hv; omega
  have HROW := Lib.hid (show ∀ (i : Nat) (hi : i < ms.length), ms[i].2.length = n ∧ ∀ x ∈ ms[i].2, 0 ≤ x ∧ x < (n : Int) from fun i hi => by
    obtain ⟨_, _, _, h4, _⟩ := hv
    obtain ⟨_, h6, h7⟩ := h4 _ (List.getElem_mem hi)
    exact ⟨by omega, h7⟩)
  have B0 := Lib.hid (Below.refl (w.alloc (.cells #[.int .i64 n, .int .i64 t, .slice a ms.length ca] 26)).heap.size (w.alloc (.cells #[.int .i64 n, .int .i64 t, .slice a ms.length ca] 26)))
  clear hv hu hO hrd ha
  obtain ⟨W1, hW1⟩ : ∃ W1, W1 = w.alloc (.cells #[.int .i64 n, .int .i64 t, .slice a ms.length ca] 26) := ⟨_, rfl⟩
  rw [← hW1] at BX X B0
  have HW1 := Lib.hid hW1.symm
  have z1 : W1.heap.size = w.heap.size + 1 := by rw [hW1]; simp
  clear hW1
  obtain ⟨x0, x1, x2, x3⟩ := X.out
  go_enter Try.func44, Try.ntmps44
  go_upto_region 1 with (fail)
  rw [HW1.out]
  go_wp2
  go_loopw [14] (fun iv wr => ∃ i : Nat, i ≤ ms.length ∧ iv = .int .i64 i ∧ Hid (Kept b n ms i 0 0) ∧ Below W1.heap.size W1 wr) (fun iv _ => ms.length - (intOf iv).toNat)
  case atStart => exact ⟨0, Nat.zero_le _, rfl, Lib.hid (fun i' hi' s' t' hs ht hc => by omega), B0.out⟩
  case round =>
    clear B0 x0 x1 x2 x3
    obtain ⟨i, hi, rfl, hK, hbw⟩ := hrel
    obtain ⟨wo, hwo⟩ : ∃ wo : World, wo = wr := ⟨_, rfl⟩
    subst hwo
    have HBW := Lib.hid hbw
    have HB0 := Lib.hid (BX.out.trans (hbw.mono BX.out.size))
    clear hbw
    by_cases him : i < ms.length
    · have i1 : (i : Int) < (ms.length : Int) := by omega
      have i0 : (0 : Int) ≤ (i : Int) := by omega
      obtain ⟨mb, mo, ra, rca, wt, tl, hae, hmb, hwt, htl, gm1, gm2, sm⟩ := (HA.out wo HB0.out).atJ him
      subst hae
      obtain ⟨hrl, hrx⟩ := HROW.out i him
      have HM := Lib.hid him
      rw [← htl] at hrl hrx
      rw [hrl] at gm2 sm
      have HTL := Lib.hid htl
      have HRX := Lib.hid hrx
      have HRL := Lib.hid hrl
      have bA : Below wo.heap.size wo (wo.alloc (.cells #[.int .i64 wt, .slice ra n rca] 43)) := (Below.refl _ _).alloc (Nat.le_refl _) _
      have CB := Lib.hid (CellsAt.new wo [.int .i64 wt, .slice ra n rca] 43)
      have SM := Lib.hid (fun V (h : Below wo.heap.size wo V) => sm.below h)
      have BA := Lib.hid bA
      have BM0 := Lib.hid (Below.refl (wo.alloc (.cells #[.int .i64 wt, .slice ra n rca] 43)).heap.size (wo.alloc (.cells #[.int .i64 wt, .slice ra n rca] 43)))
      have hz0 := HB0.out.size
      clear htl hrl hrx sm bA hwt
      go_wp2
      obtain ⟨W2, hW2⟩ : ∃ W2, W2 = wo.alloc (.cells #[.int .i64 wt, .slice ra n rca] 43) := ⟨_, rfl⟩
      rw [← hW2] at CB BA BM0 ⊢
      have z2 : W2.heap.size = wo.heap.size + 1 := by rw [hW2]; simp
      clear hW2 gm1 gm2
      go_loopw [20] (fun jv wi => ∃ s : Nat, s ≤ n ∧ jv = .int .i64 s ∧ Hid (Kept b n ms i s 0) ∧ Below W2.heap.size W2 wi) (fun jv _ => n - (intOf jv).toNat)
      case atStart => exact ⟨0, Nat.zero_le _, rfl, hK, BM0.out⟩
      case round =>
        clear BM0
        obtain ⟨s, hs, rfl, hK2, hbi⟩ := hrel
        obtain ⟨wi, hwi⟩ : ∃ wi : World, wi = wr := ⟨_, rfl⟩
        subst hwi
        have HBI := Lib.hid hbi
        have HBo := Lib.hid (BA.out.trans (hbi.mono BA.out.size))
        have HBww := Lib.hid (HB0.out.trans (HBo.out.mono HB0.out.size))
        clear hbi
        by_cases hsn : s < n
        · have i2 : (s : Int) < (n : Int) := by omega
          have i3 : (0 : Int) ≤ (s : Int) := by omega
          have g1 := (HRD.out wi HBww.out).row s hsn
          have BI0 := Lib.hid (Below.refl W2.heap.size wi)
          go_wp2
          go_loopw [27] (fun jv wj => ∃ q : Nat, q ≤ n ∧ jv = .int .i64 q ∧ Hid (Kept b n ms i s q) ∧ Below W2.heap.size W2 wj) (fun jv _ => n - (intOf jv).toNat)
          case atStart => exact ⟨0, Nat.zero_le _, rfl, hK2, HBI.out⟩
          case round =>
            clear g1 BI0
            obtain ⟨q, hq, rfl, hK3, hbj⟩ := hrel
            have HBJ := Lib.hid hbj
            have HBo2 := Lib.hid (BA.out.trans (hbj.mono BA.out.size))
            have HBw2 := Lib.hid (HB0.out.trans (HBo2.out.mono HB0.out.size))
            by_cases hqn : q < n
            · have i4 : (q : Int) < (n : Int) := by omega
              have i5 : (0 : Int) ≤ (q : Int) := by omega
              have RD := HRD.out wr HBw2.out
              have g3 := RD.bit s q hsn hqn
              have sm2 := SM.out wr HBo2.out
              obtain ⟨tb, tof, hte, _, gs⟩ := sm2.at_ (k := s) (by rw [HRL.out]; exact hsn)
              have hte2 := hte
              subst hte
              obtain ⟨tb2, tof2, hte3, _, gq⟩ := sm2.at_ (k := q) (by rw [HRL.out]; exact hqn)
              simp only [Option.some.injEq, Addr.mk.injEq, and_true] at hte3
              obtain ⟨rfl, rfl⟩ := hte3
              have h1 := HRX.out _ (List.getElem_mem (show s < tl.length by rw [HRL.out]; exact hsn))
              have h2 := HRX.out _ (List.getElem_mem (show q < tl.length by rw [HRL.out]; exact hqn))
              have e1 : tl[s]'(by rw [HRL.out]; exact hsn) = tl.getD s 0 := (gD_at _).symm
              have e2 : tl[q]'(by rw [HRL.out]; exact hqn) = tl.getD q 0 := (gD_at _).symm
              rw [e1] at gs h1
              rw [e2] at gq h2
              have HKD := Lib.hid (show keepB b n tl s q = (!leB b s q || leB b (tl.getD s 0).toNat (tl.getD q 0).toNat) from rfl)
              generalize tl.getD s 0 = y1 at gs h1 HKD
              generalize tl.getD q 0 = y2 at gq h2 HKD
              obtain ⟨p1, rfl⟩ := Int.eq_ofNat_of_zero_le h1.1
              obtain ⟨p2, rfl⟩ := Int.eq_ofNat_of_zero_le h2.1
              have hp1 : p1 < n := by omega
              have hp2 : p2 < n := by omega
              simp only [Int.toNat_natCast] at HKD
              have g5 := RD.row p1 hp1
              have g6 := RD.bit p1 p2 hp1 hp2
              have gb := ((CB.out.below hbj).get 1 _ rfl)
              obtain ⟨X1, hX1⟩ : ∃ X1, X1 = leB b s q := ⟨_, rfl⟩
              obtain ⟨Y1, hY1⟩ : ∃ Y1, Y1 = leB b p1 p2 := ⟨_, rfl⟩
              rw [← hX1] at g3 HKD
              rw [← hY1] at g6 HKD
              have i6 : (p1 : Int) < (n : Int) := by omega
              have i7 : (0 : Int) ≤ (p1 : Int) := by omega
              have i8 : (p2 : Int) < (n : Int) := by omega
              have i9 : (0 : Int) ≤ (p2 : Int) := by omega
              have k1 := fun d os => cell_regrown gs d os
              have k2 := fun d os => cell_regrown gq d os
              have k3 := fun d os => cell_regrown g5 d os
              have k4 := fun d os => cell_regrown g6 d os
              have k5 := fun d os => cell_regrown gb d os
              clear hX1 hY1 RD sm2 e1 e2 h1 h2 gs gq g5 g6 gb hbj hte2
              have HNX := Lib.hid (fun hk => hK3.out.next HM.out (by rw [← HTL.out]; exact hk))
              have HNO := Lib.hid (fun hk => monB_no (b := b) (n := n) HM.out hsn hqn (by rw [← HTL.out]; exact hk))
              cases X1 <;> cases Y1
              all_goals
                go_wp2_with fail
                refine wp_region_quiet_below (by kernel_rfl) (by kernel_rfl) ?_
                repeat (first | go_big_quiet_skip | quiet_step (fail))
                refine wpQuiet_nil ?_
                intro _ hw'
                obtain ⟨⟨dq, osq⟩, hw''⟩ := hw'
                subst hw''
                have bq0 := below_regrown wr dq osq
                generalize grow (redrawn wr dq) osq = wq at bq0 ⊢
                have B2 := Lib.hid (HBJ.out.trans (bq0.mono HBJ.out.size))
                clear k1 k2 k3 k4 k5 bq0 g3
              · have HN := Lib.hid (HNX.out (by rw [HKD.out]; rfl))
                go_wp2
                go_roundw
                case rel => exact ⟨q + 1, by omega, by go_num, HN.out, B2.out⟩
                case measure => simp [intOf]; omega
              · have HN := Lib.hid (HNX.out (by rw [HKD.out]; rfl))
                go_wp2
                go_roundw
                case rel => exact ⟨q + 1, by omega, by go_num, HN.out, B2.out⟩
                case measure => simp [intOf]; omega
              · have HN := Lib.hid (HNO.out (by rw [HKD.out]; rfl))
                go_wp2
                go_ret
                exact ⟨by rw [HN.out]; rfl, HB0.out.trans ((BA.out.trans (B2.out.mono BA.out.size)).mono HB0.out.size)⟩
              · have HN := Lib.hid (HNX.out (by rw [HKD.out]; rfl))
                go_wp2
                go_roundw
                case rel => exact ⟨q + 1, by omega, by go_num, HN.out, B2.out⟩
                case measure => simp [intOf]; omega
            · obtain rfl : q = n := by omega
              have HN := Lib.hid hK3.out.row
              go_wp2
              go_roundw
              case rel => exact ⟨s + 1, by omega, by go_num, HN, HBJ.out⟩
              case measure => simp [intOf]; omega
        · obtain rfl : s = n := by omega
          have HN := Lib.hid hK2.out.map
          have HBn := Lib.hid (HBW.out.trans (HBo.out.mono HBW.out.size))
          go_wp2
          go_roundw
          case rel => exact ⟨i + 1, by omega, by go_num, HN, HBn.out⟩
          case measure => simp [intOf]; omega
    · obtain rfl : i = ms.length := by omega
      have HN := Lib.hid hK.out.all
      go_wp2
      go_ret
      exact ⟨by rw [HN.out]; rfl, HB0.out⟩

set_option maxRecDepth 100000 in
set_option maxHeartbeats 1000000 in
theorem orderCode_ok {v u : Value} {b : List (List Bool)} {ms : List (Int × List Int)} {t : Int} (n : Nat) (w : World) (ha : SlM w v ms) (hv : mapsOk n t ms) (hu : GB.Sl w u b) (hO : OrdB n b) :
    Calls Try.prog 43 #[.agg #[.int .i64 n, .int .i64 t, v], u] w fun e w' => e = .returned (.int .i64 0) ∧ Below w.heap.size w w' := by
  have HA := Lib.hid (fun W (h : Below w.heap.size w W) => ha.below h)
  have HU := Lib.hid (fun W (h : Below w.heap.size w W) => hu.below h)
  obtain ⟨a, ca, rfl, _, _⟩ := ha.form
  obtain ⟨bb, off, c, rb, ro, rc, rfl, _⟩ := GB_rd hu hO
  have BX := Lib.hid (mpBelow w n t (.slice a ms.length ca))
  have X := Lib.hid (MpAt.new w n t (.slice a ms.length ca))
  have HV := Lib.hid hv
  have HO := Lib.hid hO
  obtain ⟨W1, hW1⟩ : ∃ W1, W1 = w.alloc (.cells #[.int .i64 n, .int .i64 t, .slice a ms.length ca] 26) := ⟨_, rfl⟩
  rw [← hW1] at BX X
  have HW1 := Lib.hid hW1.symm
  clear hv hO ha hu hW1
  obtain ⟨x0, x1, x2, x3⟩ := X.out
  go_enter Try.func43, Try.ntmps43
  go_upto_region 1 with (fail)
  rw [HW1.out]
  go_wp2_with fail
  refine (ValidMaps_ok W1 (HA.out _ BX.out) HV.out).mono ?_
  rintro e w1 ⟨rfl, b1⟩
  have B1 := Lib.hid (BX.out.trans (b1.mono BX.out.size))
  obtain ⟨y0, y1, y2, y3⟩ := X.out.below b1
  clear b1 x0 x1 x2 x3
  go_wp2_with fail
  refine (isAnOrder_ok n w1 (HU.out _ B1.out) HO.out).mono ?_
  rintro e w2 ⟨rfl, rfl⟩
  go_wp2
  go_ret
  exact ⟨rfl, B1.out⟩

set_option maxRecDepth 100000 in
set_option maxHeartbeats 1000000 in
theorem IsMonotone_ok {v u : Value} {b : List (List Bool)} {ms : List (Int × List Int)} {t : Int} (n : Nat) (w : World) (ha : SlM w v ms) (hv : mapsOk n t ms) (hu : GB.Sl w u b) (hO : OrdB n b) :
    Calls Try.prog 12 #[.agg #[.int .i64 n, .int .i64 t, v], u] w fun e w' => e = .returned (.tuple #[.bool (monB b n ms), .int .i64 0]) ∧ Below w.heap.size w w' := by
  have HA := Lib.hid (fun W (h : Below w.heap.size w W) => ha.below h)
  have HU := Lib.hid (fun W (h : Below w.heap.size w W) => hu.below h)
  obtain ⟨a, ca, rfl, _, _⟩ := ha.form
  obtain ⟨bb, off, c, rb, ro, rc, rfl, _⟩ := GB_rd hu hO
  have BX := Lib.hid (mpBelow w n t (.slice a ms.length ca))
  have X := Lib.hid (MpAt.new w n t (.slice a ms.length ca))
  have HV := Lib.hid hv
  have HO := Lib.hid hO
  obtain ⟨W1, hW1⟩ : ∃ W1, W1 = w.alloc (.cells #[.int .i64 n, .int .i64 t, .slice a ms.length ca] 26) := ⟨_, rfl⟩
  rw [← hW1] at BX X
  have HW1 := Lib.hid hW1.symm
  clear hv hO ha hu hW1
  obtain ⟨x0, x1, x2, x3⟩ := X.out
  go_enter Try.func12, Try.ntmps12
  go_upto_region 1 with (fail)
  rw [HW1.out]
  go_wp2_with fail
  refine (orderCode_ok n W1 (HA.out _ BX.out) HV.out (HU.out _ BX.out) HO.out).mono ?_
  rintro e w1 ⟨rfl, b1⟩
  have B1 := Lib.hid (BX.out.trans (b1.mono BX.out.size))
  obtain ⟨y0, y1, y2, y3⟩ := X.out.below b1
  clear b1 x0 x1 x2 x3
  go_wp2_with fail
  refine (monotone_ok n w1 (HA.out _ B1.out) HV.out (HU.out _ B1.out) HO.out).mono ?_
  rintro e w2 ⟨rfl, b2⟩
  have B2 := Lib.hid (B1.out.trans (b2.mono B1.out.size))
  clear b2 y0 y1 y2 y3
  go_wp2
  go_ret2
  exact ⟨rfl, B2.out⟩

/-- what a run by the ends answers -/
def sandR (n : Nat) (ms : List (Int × List Int)) (b : List (List Bool)) (ps : List Int) : Int × Int × Int :=
  if (decide ((endsB b n).1 < 0) || decide ((endsB b n).2 < 0) || !monB b n ms) = true then (0, 0, 4)
  else runR (fun k => k + 1) ps.length (pastS ms [(endsB b n).1, (endsB b n).2] ps)
set_option maxRecDepth 100000 in
set_option maxHeartbeats 4000000 in
theorem ImplSandwichRun_ok {v u pv : Value} {b : List (List Bool)} {ms : List (Int × List Int)} {ps : List Int} {t : Int} (n : Nat) (w : World) (ha : SlM w v ms) (hv : mapsOk n t ms) (hu : GB.Sl w u b) (hO : OrdB n b) (hp : SlI w pv ps) (hpb : PicksB ms.length ps) (hl : ps.length ≤ 100) :
    Calls Try.prog 14 #[.agg #[.int .i64 n, .int .i64 t, v], u, pv] w fun e w' => e = .returned (tupJ (sandR n ms b ps)) ∧ Below w.heap.size w w' := by
  have HA := Lib.hid (fun W (h : Below w.heap.size w W) => ha.below h)
  have HU := Lib.hid (fun W (h : Below w.heap.size w W) => hu.below h)
  have HP := Lib.hid (fun W (h : Below w.heap.size w W) => hp.below h)
  obtain ⟨a, ca, rfl, _, _⟩ := ha.form
  obtain ⟨bb, off, c, rb, ro, rc, rfl, _⟩ := GB_rd hu hO
  obtain ⟨pa, pc, rfl, _, _, _⟩ := id hp
  have BX := Lib.hid (mpBelow w n t (.slice a ms.length ca))
  have X := Lib.hid (MpAt.new w n t (.slice a ms.length ca))
  have HV := Lib.hid hv
  have HO := Lib.hid hO
  have HPB := Lib.hid hpb
  have hr : sandR n ms b ps = if (decide ((endsB b n).1 < 0) || decide ((endsB b n).2 < 0) || !monB b n ms) = true then (0, 0, 4) else runR (fun k => k + 1) ps.length (pastS ms [(endsB b n).1, (endsB b n).2] ps) := rfl
  have hlow := lastP_in (lowB b n) n
  have hhigh := lastP_in (highB b n) n
  rw [show lastP (lowB b n) n = (endsB b n).1 from rfl] at hlow
  rw [show lastP (highB b n) n = (endsB b n).2 from rfl] at hhigh
  have KE := Lib.hid (fun W (h : Below w.heap.size w W) => endsOf_ok n W (hu.below h) hO)
  generalize (endsB b n).1 = LO at hr hlow KE
  generalize (endsB b n).2 = HI at hr hhigh KE
  have KM := Lib.hid (fun W (h : Below w.heap.size w W) => monotone_ok n W (ha.below h) hv (hu.below h) hO)
  generalize monB b n ms = MO at hr KM
  have HR := Lib.hid hr
  obtain ⟨W1, hW1⟩ : ∃ W1, W1 = w.alloc (.cells #[.int .i64 n, .int .i64 t, .slice a ms.length ca] 26) := ⟨_, rfl⟩
  rw [← hW1] at BX X
  have HW1 := Lib.hid hW1.symm
  clear hv hO ha hu hW1 hpb hp hr
  obtain ⟨x0, x1, x2, x3⟩ := X.out
  go_enter Try.func14, Try.ntmps14
  go_upto_region 1 with (fail)
  rw [HW1.out]
  go_wp2_with fail
  refine (orderCode_ok n W1 (HA.out _ BX.out) HV.out (HU.out _ BX.out) HO.out).mono ?_
  rintro e w1 ⟨rfl, b1⟩
  have B1 := Lib.hid (BX.out.trans (b1.mono BX.out.size))
  have X1 := Lib.hid (X.out.below b1)
  obtain ⟨y0, y1, y2, y3⟩ := X1.out
  clear b1 x0 x1 x2 x3
  go_wp2_with fail
  refine (picksCode_ok w1 (HA.out _ B1.out) (HP.out _ B1.out) HV.out HPB.out (by omega)).mono ?_
  rintro e w2 ⟨rfl, b2⟩
  have B2 := Lib.hid (B1.out.trans (b2.mono B1.out.size))
  have X2 := Lib.hid (X1.out.below b2)
  clear b2 y0 y1 y2 y3
  go_wp2_with fail
  refine (KE.out w2 B2.out).mono ?_
  rintro e w3 ⟨rfl, b3⟩
  have B3 := Lib.hid (B2.out.trans (b3.mono B2.out.size))
  have X3 := Lib.hid (X2.out.below b3)
  obtain ⟨y0, y1, y2, y3⟩ := X3.out
  clear b3
  by_cases hlo : LO < 0
  · have HN := Lib.hid (show sandR n ms b ps = (0, 0, 4) from by rw [HR.out]; simp [hlo])
    go_wp2
    go_ret3
    exact ⟨by rw [HN.out]; rfl, B3.out⟩
  · by_cases hhi : HI < 0
    · have HN := Lib.hid (show sandR n ms b ps = (0, 0, 4) from by rw [HR.out]; simp [hhi])
      go_wp2
      go_ret3
      exact ⟨by rw [HN.out]; rfl, B3.out⟩
    · have HLO := Lib.hid hlo
      have HHI := Lib.hid hhi
      go_wp2_with fail
      refine (KM.out w3 B3.out).mono ?_
      rintro e w4 ⟨rfl, b4⟩
      have B4 := Lib.hid (B3.out.trans (b4.mono B3.out.size))
      have X4 := Lib.hid (X3.out.below b4)
      clear b4 y0 y1 y2 y3
      obtain ⟨y0, y1, y2, y3⟩ := X4.out
      cases MO
      · have HN := Lib.hid (show sandR n ms b ps = (0, 0, 4) from by rw [HR.out]; simp)
        go_wp2
        go_ret3
        exact ⟨by rw [HN.out]; rfl, B4.out⟩
      · have HN := Lib.hid (show sandR n ms b ps = runR (fun k => k + 1) ps.length (pastS ms [LO, HI] ps) from by rw [HR.out, decide_eq_false (show ¬ LO < 0 from by have := HLO.out; omega), decide_eq_false (show ¬ HI < 0 from by have := HHI.out; omega)]; rfl)
        have bz : Below w4.heap.size w4 (w4.alloc (.cells #[.int .i64 LO, .int .i64 HI] 2)) := (Below.refl _ _).alloc (Nat.le_refl _) _
        have BZ := Lib.hid (B4.out.trans (bz.mono B4.out.size))
        have hst : SlI (w4.alloc (.cells #[.int .i64 LO, .int .i64 HI] 2)) (.slice (some ⟨w4.heap.size, 0, none⟩) 2 2) [LO, HI] := ⟨_, 2, rfl, by simp, by simp [maxLen], rd_new w4 #[.int .i64 LO, .int .i64 HI] 2⟩
        have KR := Lib.hid (runSt_any n _ (HA.out _ BZ.out) hst (fun x hx => by
          simp at hx
          rcases hx with rfl | rfl
          · rcases hlow with h | h
            · exact absurd h (by omega)
            · exact h
          · rcases hhigh with h | h
            · exact absurd h (by omega)
            · exact h) (by simp) (by simp) (HP.out _ BZ.out) HV.out HPB.out hl)
        rw [← HN.out] at KR
        have t1 : decide (LO < 0) = false := decide_eq_false (show ¬ LO < 0 from by have := HLO.out; omega)
        have t2 : decide (HI < 0) = false := decide_eq_false (show ¬ HI < 0 from by have := HHI.out; omega)
        clear hst bz hlo hhi hlow hhigh
        go_wp2_with fail
        refine KR.out.mono ?_
        rintro e w5 ⟨he, b5⟩
        obtain ⟨R, hR⟩ : ∃ R, R = sandR n ms b ps := ⟨_, rfl⟩
        rw [← hR] at he
        obtain ⟨R1, R2, R3⟩ := R
        have HRR := Lib.hid hR
        subst he
        rw [show tupJ (R1, R2, R3) = .tuple #[.int .i64 R1, .int .i64 R2, .int .i64 R3] from rfl]
        have B5 := Lib.hid (BZ.out.trans (b5.mono BZ.out.size))
        clear hR b5
        go_wp2
        go_ret3
        exact ⟨by rw [← HRR.out]; rfl, B5.out⟩
end Go.Proofs.Ytceobhmbnkheiaa
namespace Go.Proofs.Ytceobhmbnkheiaa
open Go.RowKit Go.Sort

set_option maxRecDepth 100000 in
set_option maxHeartbeats 4000000 in
theorem SpecValidOrder_ok {v : Value} {b : List (List Bool)} (n : Nat) (w : World) (ha : GB.Sl w v b) (hO : OrdB n b) :
    Calls Try.prog 84 #[.int .i64 n, v] w fun e w' => e = .returned (.bool true) ∧ w = w' := by
  obtain ⟨bb, off, c, rb, ro, rc, rfl, hnc, hcm, hrd⟩ := GB_rd ha hO
  have HRD := Lib.hid hrd
  have HO := Lib.hid hO
  have hn1 := hO.n1
  have hn6 := hO.n6
  have hq1 := inR_ok (x := (n : Int)) (a := 1) (b := 6) (by omega)
  clear ha hO hrd
  go_enter Try.func84, Try.ntmps84
  go_wp2_with fail
  refine (l00In_any (n : Int) 1 6 w).mono ?_
  rintro e w1 ⟨rfl, rfl⟩
  rw [hq1]
  go_wp2
  go_loopw [5] (fun iv wr => ∃ k : Nat, k ≤ n ∧ iv = .int .i64 k ∧ wr = w) (fun iv _ => n - (intOf iv).toNat)
  case atStart => exact ⟨0, Nat.zero_le _, rfl, rfl⟩
  case round =>
    obtain ⟨k, hk, rfl, rfl⟩ := hrel
    by_cases hlt : k < n
    · have i1 : (k : Int) < (n : Int) := by omega
      have i0 : (0 : Int) ≤ (k : Int) := by omega
      have g1 := HRD.out.row k hlt
      have g2 := HRD.out.bit k k hlt hlt
      rw [HO.out.refl k hlt] at g2
      go_wp2
      go_roundw
      case rel => exact ⟨k + 1, by omega, by go_num, trivial⟩
      case measure => simp [intOf]; omega
    · obtain rfl : k = n := by omega
      go_wp2
      go_loopw [6] (fun iv wi => ∃ s : Nat, s ≤ k ∧ iv = .int .i64 s ∧ wi = wr) (fun iv _ => k - (intOf iv).toNat)
      case atStart => exact ⟨0, Nat.zero_le _, rfl, rfl⟩
      case round =>
        obtain ⟨s, hs, rfl, rfl⟩ := hrel
        by_cases hsk : s < k
        · have i2 : (s : Int) < (k : Int) := by omega
          have i3 : (0 : Int) ≤ (s : Int) := by omega
          have g1 := HRD.out.row s hsk
          go_wp2
          go_loopw [7] (fun iv wi => ∃ t : Nat, t ≤ k ∧ iv = .int .i64 t ∧ wi = wr) (fun iv _ => k - (intOf iv).toNat)
          case atStart => exact ⟨0, Nat.zero_le _, rfl, rfl⟩
          case round =>
            obtain ⟨t, ht, rfl, rfl⟩ := hrel
            by_cases htk : t < k
            · have i4 : (t : Int) < (k : Int) := by omega
              have i5 : (0 : Int) ≤ (t : Int) := by omega
              have g2 := HRD.out.row t htk
              have g3 := HRD.out.bit s t hsk htk
              have g4 := HRD.out.bit t s htk hsk
              have hloop : ∀ (X : Bool), leB b s t = X → ∀ u, u < k → ∀ y, leB b t u = y → ∀ z, leB b s u = z → X = true → y = true → z = true := fun X hX u hu y hy z hz h1 h2 => by
                rw [← hz]
                exact HO.out.trans s t u hsk htk hu (by rw [hX]; exact h1) (by rw [hy]; exact h2)
              have hfirst : (s = t → leB b s t = true) ∧ (s ≠ t → ¬ (leB b s t = true ∧ leB b t s = true)) := ⟨fun e => by subst e; exact HO.out.refl s hsk, fun e => HO.out.anti s t hsk htk e⟩
              have HLP := Lib.hid hloop
              have HFI := Lib.hid hfirst
              obtain ⟨X, hX⟩ : ∃ X, X = leB b s t := ⟨_, rfl⟩
              obtain ⟨Y, hY⟩ : ∃ Y, Y = leB b t s := ⟨_, rfl⟩
              rw [← hX] at g3 HFI
              rw [← hY] at g4 HFI
              have HXX := Lib.hid hX
              clear hloop hfirst hX hY
              by_cases hst : s = t
              · subst hst
                have hXt := HFI.out.1 rfl
                subst hXt
                clear g4 g2
                have e1 : ((s : Int) == (s : Int)) = true := by simp
                have e2 : ((s : Int) != (s : Int)) = false := by simp
                go_wp2
                go_loopw [8] (fun iv wi => ∃ u : Nat, u ≤ k ∧ iv = .int .i64 u ∧ wi = wr) (fun iv _ => k - (intOf iv).toNat)
                case atStart => exact ⟨0, Nat.zero_le _, rfl, rfl⟩
                case round =>
                  obtain ⟨u, hu, rfl, rfl⟩ := hrel
                  by_cases huk : u < k
                  · have i6 : (u : Int) < (k : Int) := by omega
                    have i7 : (0 : Int) ≤ (u : Int) := by omega
                    have g5 := HRD.out.bit s u hsk huk
                    obtain ⟨Z, hZ⟩ : ∃ Z, Z = leB b s u := ⟨_, rfl⟩
                    rw [← hZ] at g5
                    clear hZ
                    cases Z
                    · go_wp2
                      go_roundw
                      case rel => exact ⟨u + 1, by omega, by go_num, trivial⟩
                      case measure => simp [intOf]; omega
                    · go_wp2
                      go_roundw
                      case rel => exact ⟨u + 1, by omega, by go_num, trivial⟩
                      case measure => simp [intOf]; omega
                  · obtain rfl : u = k := by omega
                    go_wp2
                    go_roundw
                    case rel => exact ⟨s + 1, by omega, by go_num, trivial⟩
                    case measure => simp [intOf]; omega
              · have hne := HFI.out.2 hst
                have HNE := Lib.hid hne
                have e1 : ((s : Int) == (t : Int)) = false := by rw [beq_eq_false_iff_ne]; omega
                have e2 : ((s : Int) != (t : Int)) = true := by rw [bne_iff_ne]; omega
                clear hne hst
                cases X
                · go_wp2
                  go_loopw [8] (fun iv wi => ∃ u : Nat, u ≤ k ∧ iv = .int .i64 u ∧ wi = wr) (fun iv _ => k - (intOf iv).toNat)
                  case atStart => exact ⟨0, Nat.zero_le _, rfl, rfl⟩
                  case round =>
                    obtain ⟨u, hu, rfl, rfl⟩ := hrel
                    by_cases huk : u < k
                    · have i6 : (u : Int) < (k : Int) := by omega
                      have i7 : (0 : Int) ≤ (u : Int) := by omega
                      go_wp2
                      go_roundw
                      case rel => exact ⟨u + 1, by omega, by go_num, trivial⟩
                      case measure => simp [intOf]; omega
                    · obtain rfl : u = k := by omega
                      go_wp2
                      go_roundw
                      case rel => exact ⟨t + 1, by omega, by go_num, trivial⟩
                      case measure => simp [intOf]; omega
                · have hYf : Y = false := by
                    cases Y
                    · rfl
                    · exact absurd ⟨rfl, rfl⟩ HNE.out
                  subst hYf
                  go_wp2
                  go_loopw [8] (fun iv wi => ∃ u : Nat, u ≤ k ∧ iv = .int .i64 u ∧ wi = wr) (fun iv _ => k - (intOf iv).toNat)
                  case atStart => exact ⟨0, Nat.zero_le _, rfl, rfl⟩
                  case round =>
                    obtain ⟨u, hu, rfl, rfl⟩ := hrel
                    by_cases huk : u < k
                    · have i6 : (u : Int) < (k : Int) := by omega
                      have i7 : (0 : Int) ≤ (u : Int) := by omega
                      have g5 := HRD.out.bit t u htk huk
                      have g6 := HRD.out.bit s u hsk huk
                      have htr := HLP.out true HXX.out.symm u huk _ rfl _ rfl rfl
                      obtain ⟨Z, hZ⟩ : ∃ Z, Z = leB b t u := ⟨_, rfl⟩
                      obtain ⟨V, hV⟩ : ∃ V, V = leB b s u := ⟨_, rfl⟩
                      rw [← hZ] at g5 htr
                      rw [← hV] at g6 htr
                      have HTR := Lib.hid htr
                      clear hZ hV htr
                      cases Z
                      · go_wp2
                        go_roundw
                        case rel => exact ⟨u + 1, by omega, by go_num, trivial⟩
                        case measure => simp [intOf]; omega
                      · have hVt := HTR.out rfl
                        subst hVt
                        go_wp2
                        go_roundw
                        case rel => exact ⟨u + 1, by omega, by go_num, trivial⟩
                        case measure => simp [intOf]; omega
                    · obtain rfl : u = k := by omega
                      go_wp2
                      go_roundw
                      case rel => exact ⟨t + 1, by omega, by go_num, trivial⟩
                      case measure => simp [intOf]; omega
            · obtain rfl : t = k := by omega
              go_wp2
              go_roundw
              case rel => exact ⟨s + 1, by omega, by go_num, trivial⟩
              case measure => simp [intOf]; omega
        · obtain rfl : s = k := by omega
          go_wp2
          go_ret
          exact ⟨rfl, rfl⟩

theorem l05Order_ok {v : Value} {b : List (List Bool)} (n : Nat) (w : World) (ha : GB.Sl w v b) (hO : OrdB n b) :
    Calls Try.prog 53 #[v] w fun e w' => e = .returned (.bool true) ∧ w = w' := by
  have HV := Lib.hid (SpecValidOrder_ok n w ha hO)
  obtain ⟨bb, off, c, rb, ro, rc, rfl, _⟩ := GB_rd ha hO
  go_enter Try.func53, Try.ntmps53
  go_wp2_with fail
  refine HV.out.mono ?_
  rintro e w1 ⟨rfl, rfl⟩
  go_wp2
  go_ret
  exact ⟨rfl, rfl⟩

set_option maxRecDepth 100000 in
set_option maxHeartbeats 4000000 in
theorem l05Ends_ok {v : Value} {b : List (List Bool)} (n : Nat) (w : World) (ha : GB.Sl w v b) (hO : OrdB n b) :
    Calls Try.prog 55 #[v] w fun e w' => e = .returned (.tuple #[.int .i64 (endsB b n).1, .int .i64 (endsB b n).2, .bool (decide (0 ≤ (endsB b n).1) && decide (0 ≤ (endsB b n).2))]) ∧ Below w.heap.size w w' := by
  obtain ⟨bb, off, c, rb, ro, rc, rfl, hnc, hcm, hrd⟩ := GB_rd ha hO
  have HRD := Lib.hid hrd
  have hn1 := hO.n1
  have hn6 := hO.n6
  have HE := Lib.hid (show endsB b n = (lastP (lowB b n) n, lastP (highB b n) n) from rfl)
  clear ha hO hrd
  go_enter Try.func55, Try.ntmps55
  go_wp2
  go_loopw [5, 6, 7] (fun lv hv iv wr => ∃ s : Nat, s ≤ n ∧ iv = .int .i64 s ∧ lv = .int .i64 (lastP (lowB b n) s) ∧ hv = .int .i64 (lastP (highB b n) s) ∧ wr = w) (fun _ _ iv _ => n - (intOf iv).toNat)
  case atStart => exact ⟨0, Nat.zero_le _, rfl, rfl, rfl, rfl⟩
  case round =>
    obtain ⟨s, hs, rfl, rfl, rfl, rfl⟩ := hrel
    by_cases hsn : s < n
    · have i1 : (s : Int) < (n : Int) := by omega
      have i0 : (0 : Int) ≤ (s : Int) := by omega
      have HL1 := Lib.hid (fun h => lastP_yes (p := lowB b n) (k := s) h)
      have HL0 := Lib.hid (fun h => lastP_no (p := lowB b n) (k := s) h)
      have HH1 := Lib.hid (fun h => lastP_yes (p := highB b n) (k := s) h)
      have HH0 := Lib.hid (fun h => lastP_no (p := highB b n) (k := s) h)
      generalize lastP (lowB b n) s = LO at HL0
      generalize lastP (highB b n) s = HI at HH0
      go_wp2
      go_loopw [8, 9, 10] (fun av mv jv wi => ∃ t : Nat, t ≤ n ∧ jv = .int .i64 t ∧ av = .bool (allT (fun t => leB b s t) t) ∧ mv = .bool (allT (fun t => leB b t s) t) ∧ wi = wr) (fun _ _ jv _ => n - (intOf jv).toNat)
      case atStart => exact ⟨0, Nat.zero_le _, rfl, rfl, rfl, rfl⟩
      case round =>
        obtain ⟨t, ht, rfl, rfl, rfl, rfl⟩ := hrel
        by_cases htn : t < n
        · have i2 : (t : Int) < (n : Int) := by omega
          have i3 : (0 : Int) ≤ (t : Int) := by omega
          have g1 := HRD.out.row s hsn
          have g2 := HRD.out.row t htn
          have g3 := HRD.out.bit s t hsn htn
          have g4 := HRD.out.bit t s htn hsn
          have HA1 := Lib.hid (allT_succ (fun t => leB b s t) t)
          have HA2 := Lib.hid (allT_succ (fun t => leB b t s) t)
          generalize allT (fun t => leB b s t) t = A at HA1
          generalize allT (fun t => leB b t s) t = M at HA2
          have HST := Lib.hid (show s = t → leB b s t = leB b t s from fun e => by rw [e])
          obtain ⟨X, hX⟩ : ∃ X, X = leB b s t := ⟨_, rfl⟩
          obtain ⟨Y, hY⟩ : ∃ Y, Y = leB b t s := ⟨_, rfl⟩
          have HA1 := Lib.hid (show allT (fun t => leB b s t) (t + 1) = (A && X) from by rw [HA1.out, hX])
          have HA2 := Lib.hid (show allT (fun t => leB b t s) (t + 1) = (M && Y) from by rw [HA2.out, hY])
          rw [← hX] at g3 HST
          rw [← hY] at g4 HST
          clear hX hY
          by_cases hst : s = t
          · have hxy := HST.out hst
            subst hst
            subst hxy
            clear g4 g2
            cases A <;> cases M
            all_goals
              go_wp2
              go_roundw
              case rel => exact ⟨s + 1, by omega, by go_num, by rw [HA1.out]; simp, by rw [HA2.out]; simp, trivial⟩
              case measure => simp [intOf]; omega
          · have hrne : (⟨rb s, ro s + t, none⟩ : Addr) = ⟨rb s, ro s + t, none⟩ := rfl
            clear hrne
            cases A <;> cases M
            all_goals
              go_wp2
              go_roundw
              case rel => exact ⟨t + 1, by omega, by go_num, by rw [HA1.out]; simp, by rw [HA2.out]; simp, trivial⟩
              case measure => simp [intOf]; omega
        · obtain rfl : t = n := by omega
          have HLW := Lib.hid (show lowB b t s = allT (fun u => leB b s u) t from rfl)
          have HHG := Lib.hid (show highB b t s = allT (fun u => leB b u s) t from rfl)
          generalize allT (fun u => leB b s u) t = A at HLW
          generalize allT (fun u => leB b u s) t = M at HHG
          cases A <;> cases M
          · have e1 := Lib.hid (HL0.out HLW.out)
            have e2 := Lib.hid (HH0.out HHG.out)
            go_wp2
            go_roundw
            case rel => exact ⟨s + 1, by omega, by go_num, by rw [e1.out], by rw [e2.out], trivial⟩
            case measure => simp [intOf]; omega
          · have e1 := Lib.hid (HL0.out HLW.out)
            have e2 := Lib.hid (HH1.out HHG.out)
            go_wp2
            go_roundw
            case rel => exact ⟨s + 1, by omega, by go_num, by rw [e1.out], by rw [e2.out], trivial⟩
            case measure => simp [intOf]; omega
          · have e1 := Lib.hid (HL1.out HLW.out)
            have e2 := Lib.hid (HH0.out HHG.out)
            go_wp2
            go_roundw
            case rel => exact ⟨s + 1, by omega, by go_num, by rw [e1.out], by rw [e2.out], trivial⟩
            case measure => simp [intOf]; omega
          · have e1 := Lib.hid (HL1.out HLW.out)
            have e2 := Lib.hid (HH1.out HHG.out)
            go_wp2
            go_roundw
            case rel => exact ⟨s + 1, by omega, by go_num, by rw [e1.out], by rw [e2.out], trivial⟩
            case measure => simp [intOf]; omega
    · obtain rfl : s = n := by omega
      have HE1 := Lib.hid (show (endsB b s).1 = lastP (lowB b s) s from rfl)
      have HE2 := Lib.hid (show (endsB b s).2 = lastP (highB b s) s from rfl)
      generalize hlo : lastP (lowB b s) s = LO
      generalize hhi : lastP (highB b s) s = HI
      have HLO1 := Lib.hid hlo
      have HHI1 := Lib.hid hhi
      clear hlo hhi
      by_cases h1 : 0 ≤ LO
      · have d1 := Lib.hid (decide_eq_true h1)
        go_wp2
        go_ret3
        exact ⟨by rw [HE1.out, HE2.out, HLO1.out, HHI1.out, d1.out]; simp [Act.put, go_sem], Below.refl _ _⟩
      · have d1 := Lib.hid (decide_eq_false h1)
        go_wp2
        go_ret3
        exact ⟨by rw [HE1.out, HE2.out, HLO1.out, HHI1.out, d1.out]; simp [Act.put, go_sem], Below.refl _ _⟩

set_option maxRecDepth 100000 in
set_option maxHeartbeats 8000000 in
theorem l05Keeps_ok {v u : Value} {b : List (List Bool)} {ms : List (Int × List Int)} {t : Int} (n bx : Nat) (w : World) (hx : MpAt w bx n t v) (ha : SlM w v ms) (hv : mapsOk n t ms) (hu : GB.Sl w u b) (hO : OrdB n b) :
    Calls Try.prog 56 #[.pointer (some ⟨bx, 0, none⟩), u] w fun e w' => e = .returned (.bool (monB b n ms)) ∧ Below w.heap.size w w' := by
  have HA := Lib.hid (fun W (h : Below w.heap.size w W) => ha.below h)
  have X := Lib.hid (fun W (h : Below w.heap.size w W) => hx.below h)
  obtain ⟨a, ca, rfl, _, _⟩ := ha.form
  obtain ⟨bb, off, c, rb, ro, rc, rfl, hnc, hcm, hrd⟩ := GB_rd hu hO
  have HRD := Lib.hid (fun W (h : Below w.heap.size w W) => hrd.below h)
  have hn1 := hO.n1
  have hn6 := hO.n6
  have hml : ms.length ≤ 60 := by obtain ⟨_, _, ⟨_, h⟩, _⟩ := hv; omega
  have HROW := Lib.hid (show ∀ (i : Nat) (hi : i < ms.length), ms[i].2.length = n ∧ ∀ x ∈ ms[i].2, 0 ≤ x ∧ x < (n : Int) from fun i hi => by
    obtain ⟨_, _, _, h4, _⟩ := hv
    obtain ⟨_, h6, h7⟩ := h4 _ (List.getElem_mem hi)
    exact ⟨by omega, h7⟩)
  clear hv hu hO hrd ha hx
  go_enter Try.func56, Try.ntmps56
  go_wp2
  go_loopw [5] (fun iv wr => ∃ i : Nat, i ≤ ms.length ∧ iv = .int .i64 i ∧ Hid (Kept b n ms i 0 0) ∧ Below w.heap.size w wr) (fun iv _ => ms.length - (intOf iv).toNat)
  case atStart => exact ⟨0, Nat.zero_le _, rfl, Lib.hid (fun i' hi' s' t' hs ht hc => by omega), Below.refl _ _⟩
  case round =>
    obtain ⟨i, hi, rfl, hK, hbw⟩ := hrel
    have HBW := Lib.hid hbw
    obtain ⟨x0, x1, x2, x3⟩ := X.out wr hbw
    clear hbw
    by_cases him : i < ms.length
    · have i1 : (i : Int) < (ms.length : Int) := by omega
      have i0 : (0 : Int) ≤ (i : Int) := by omega
      obtain ⟨mb, mo, ra, rca, wt, tl, hae, hmb, hwt, htl, gm1, gm2, sm⟩ := (HA.out wr HBW.out).atJ him
      subst hae
      obtain ⟨hrl, hrx⟩ := HROW.out i him
      have HM := Lib.hid him
      rw [← htl] at hrl hrx
      rw [hrl] at gm2 sm
      have HTL := Lib.hid htl
      have HRX := Lib.hid hrx
      have HRL := Lib.hid hrl
      have SM := Lib.hid (fun V (h : Below wr.heap.size wr V) => sm.below h)
      obtain ⟨wo, hwo⟩ : ∃ wo : World, wo = wr := ⟨_, rfl⟩
      subst hwo
      have BM0 := Lib.hid (Below.refl wo.heap.size wo)
      clear htl hrl hrx sm hwt
      go_wp2
      go_loopw [7] (fun jv wi => ∃ s : Nat, s ≤ n ∧ jv = .int .i64 s ∧ Hid (Kept b n ms i s 0) ∧ Below wo.heap.size wo wi) (fun jv _ => n - (intOf jv).toNat)
      case atStart => exact ⟨0, Nat.zero_le _, rfl, hK, BM0.out⟩
      case round =>
        clear BM0 x0 x1 x2 x3 gm1 gm2
        obtain ⟨s, hs, rfl, hK2, hbi⟩ := hrel
        obtain ⟨wi, hwi⟩ : ∃ wi : World, wi = wr := ⟨_, rfl⟩
        subst hwi
        have HBI := Lib.hid hbi
        have HBww := Lib.hid (HBW.out.trans (hbi.mono HBW.out.size))
        clear hbi
        by_cases hsn : s < n
        · have i2 : (s : Int) < (n : Int) := by omega
          have i3 : (0 : Int) ≤ (s : Int) := by omega
          go_wp2
          go_loopw [8] (fun jv wj => ∃ q : Nat, q ≤ n ∧ jv = .int .i64 q ∧ Hid (Kept b n ms i s q) ∧ Below wo.heap.size wo wj) (fun jv _ => n - (intOf jv).toNat)
          case atStart => exact ⟨0, Nat.zero_le _, rfl, hK2, HBI.out⟩
          case round =>
            obtain ⟨q, hq, rfl, hK3, hbj⟩ := hrel
            have HBJ := Lib.hid hbj
            have HBw2 := Lib.hid (HBW.out.trans (hbj.mono HBW.out.size))
            by_cases hqn : q < n
            · have i4 : (q : Int) < (n : Int) := by omega
              have i5 : (0 : Int) ≤ (q : Int) := by omega
              have RD := HRD.out wr HBw2.out
              have g1 := RD.row s hsn
              have g3 := RD.bit s q hsn hqn
              have sm2 := SM.out wr HBJ.out
              obtain ⟨tb, tof, hte, _, gs⟩ := sm2.at_ (k := s) (by rw [HRL.out]; exact hsn)
              have hte2 := hte
              subst hte
              obtain ⟨tb2, tof2, hte3, _, gq⟩ := sm2.at_ (k := q) (by rw [HRL.out]; exact hqn)
              simp only [Option.some.injEq, Addr.mk.injEq, and_true] at hte3
              obtain ⟨rfl, rfl⟩ := hte3
              have h1 := HRX.out _ (List.getElem_mem (show s < tl.length by rw [HRL.out]; exact hsn))
              have h2 := HRX.out _ (List.getElem_mem (show q < tl.length by rw [HRL.out]; exact hqn))
              have e1 : tl[s]'(by rw [HRL.out]; exact hsn) = tl.getD s 0 := (gD_at _).symm
              have e2 : tl[q]'(by rw [HRL.out]; exact hqn) = tl.getD q 0 := (gD_at _).symm
              rw [e1] at gs h1
              rw [e2] at gq h2
              have HKD := Lib.hid (show keepB b n tl s q = (!leB b s q || leB b (tl.getD s 0).toNat (tl.getD q 0).toNat) from rfl)
              generalize tl.getD s 0 = y1 at gs h1 HKD
              generalize tl.getD q 0 = y2 at gq h2 HKD
              obtain ⟨p1, rfl⟩ := Int.eq_ofNat_of_zero_le h1.1
              obtain ⟨p2, rfl⟩ := Int.eq_ofNat_of_zero_le h2.1
              have hp1 : p1 < n := by omega
              have hp2 : p2 < n := by omega
              simp only [Int.toNat_natCast] at HKD
              have g5 := RD.row p1 hp1
              have g6 := RD.bit p1 p2 hp1 hp2
              obtain ⟨X1, hX1⟩ : ∃ X1, X1 = leB b s q := ⟨_, rfl⟩
              obtain ⟨Y1, hY1⟩ : ∃ Y1, Y1 = leB b p1 p2 := ⟨_, rfl⟩
              rw [← hX1] at g3 HKD
              rw [← hY1] at g6 HKD
              have i6 : (p1 : Int) < (n : Int) := by omega
              have i7 : (0 : Int) ≤ (p1 : Int) := by omega
              have i8 : (p2 : Int) < (n : Int) := by omega
              have i9 : (0 : Int) ≤ (p2 : Int) := by omega
              have k0 := fun d os => cell_regrown g1 d os
              have k1 := fun d os => cell_regrown gs d os
              have k2 := fun d os => cell_regrown gq d os
              have k3 := fun d os => cell_regrown g5 d os
              have k4 := fun d os => cell_regrown g6 d os
              have k5 := fun d os => cell_regrown g3 d os
              clear hX1 hY1 RD sm2 e1 e2 h1 h2 gs gq g5 g6 g1 hbj hte2
              have HNX := Lib.hid (fun hk => hK3.out.next HM.out (by rw [← HTL.out]; exact hk))
              have HNO := Lib.hid (fun hk => monB_no (b := b) (n := n) HM.out hsn hqn (by rw [← HTL.out]; exact hk))
              cases X1 <;> cases Y1
              all_goals
                go_wp2_with fail
                refine wp_region_quiet_below (by kernel_rfl) (by kernel_rfl) ?_
                repeat (first | go_big_quiet_skip | quiet_step (fail))
                refine wpQuiet_nil ?_
                intro _ hw'
                obtain ⟨⟨dq, osq⟩, hw''⟩ := hw'
                subst hw''
                have bq0 := below_regrown wr dq osq
                generalize grow (redrawn wr dq) osq = wq at bq0 ⊢
                have B2 := Lib.hid (HBJ.out.trans (bq0.mono HBJ.out.size))
                clear k0 k1 k2 k3 k4 k5 bq0 g3
              · have HN := Lib.hid (HNX.out (by rw [HKD.out]; rfl))
                go_wp2
                go_roundw
                case rel => exact ⟨q + 1, by omega, by go_num, HN.out, B2.out⟩
                case measure => simp [intOf]; omega
              · have HN := Lib.hid (HNX.out (by rw [HKD.out]; rfl))
                go_wp2
                go_roundw
                case rel => exact ⟨q + 1, by omega, by go_num, HN.out, B2.out⟩
                case measure => simp [intOf]; omega
              · have HN := Lib.hid (HNO.out (by rw [HKD.out]; rfl))
                go_wp2
                go_ret
                exact ⟨by rw [HN.out]; rfl, HBW.out.trans (B2.out.mono HBW.out.size)⟩
              · have HN := Lib.hid (HNX.out (by rw [HKD.out]; rfl))
                go_wp2
                go_roundw
                case rel => exact ⟨q + 1, by omega, by go_num, HN.out, B2.out⟩
                case measure => simp [intOf]; omega
            · obtain rfl : q = n := by omega
              have HN := Lib.hid hK3.out.row
              go_wp2
              go_roundw
              case rel => exact ⟨s + 1, by omega, by go_num, HN, HBJ.out⟩
              case measure => simp [intOf]; omega
        · obtain rfl : s = n := by omega
          have HN := Lib.hid hK2.out.map
          go_wp2
          go_roundw
          case rel => exact ⟨i + 1, by omega, by go_num, HN, HBww.out⟩
          case measure => simp [intOf]; omega
    · obtain rfl : i = ms.length := by omega
      have HN := Lib.hid hK.out.all
      go_wp2
      go_ret
      exact ⟨by rw [HN.out]; rfl, HBW.out⟩

set_option maxRecDepth 100000 in
set_option maxHeartbeats 4000000 in
theorem SpecSandwichRun_ok {v u pv : Value} {b : List (List Bool)} {ms : List (Int × List Int)} {ps : List Int} {t : Int} (n : Nat) (w : World) (ha : SlM w v ms) (hv : mapsOk n t ms) (hu : GB.Sl w u b) (hO : OrdB n b) (hp : SlI w pv ps) (hpb : PicksB ms.length ps) (hl : ps.length ≤ 100) :
    Calls Try.prog 17 #[.agg #[.int .i64 n, .int .i64 t, v], u, pv] w fun e w' => e = .returned (tupJ (sandR n ms b ps)) ∧ Below w.heap.size w w' := by
  have HA := Lib.hid (fun W (h : Below w.heap.size w W) => ha.below h)
  have HU := Lib.hid (fun W (h : Below w.heap.size w W) => hu.below h)
  have HP := Lib.hid (fun W (h : Below w.heap.size w W) => hp.below h)
  obtain ⟨a, ca, rfl, _, _⟩ := ha.form
  obtain ⟨bb, off, c, rb, ro, rc, rfl, _⟩ := GB_rd hu hO
  obtain ⟨pa, pc, rfl, _, _, _⟩ := id hp
  have BX := Lib.hid (mpBelow w n t (.slice a ms.length ca))
  have X := Lib.hid (MpAt.new w n t (.slice a ms.length ca))
  have HV := Lib.hid hv
  have HO := Lib.hid hO
  have HPB := Lib.hid hpb
  have hml : ms.length ≤ 60 := by obtain ⟨_, _, ⟨_, h⟩, _⟩ := hv; omega
  have hr : sandR n ms b ps = if (decide ((endsB b n).1 < 0) || decide ((endsB b n).2 < 0) || !monB b n ms) = true then (0, 0, 4) else firstR ps.length (pastS ms [(endsB b n).1, (endsB b n).2] ps) := by
    rw [← runR_first]; rfl
  have hlow := lastP_in (lowB b n) n
  have hhigh := lastP_in (highB b n) n
  rw [show lastP (lowB b n) n = (endsB b n).1 from rfl] at hlow
  rw [show lastP (highB b n) n = (endsB b n).2 from rfl] at hhigh
  have KE := Lib.hid (fun W (h : Below w.heap.size w W) => l05Ends_ok n W (hu.below h) hO)
  generalize (endsB b n).1 = LO at hr hlow KE
  generalize (endsB b n).2 = HI at hr hhigh KE
  have KM := Lib.hid (fun W (h : Below w.heap.size w W) (hx : MpAt W w.heap.size n t (.slice a ms.length ca)) => l05Keeps_ok n w.heap.size W hx (ha.below h) hv (hu.below h) hO)
  generalize monB b n ms = MO at hr KM
  have HR := Lib.hid hr
  obtain ⟨W1, hW1⟩ : ∃ W1, W1 = w.alloc (.cells #[.int .i64 n, .int .i64 t, .slice a ms.length ca] 26) := ⟨_, rfl⟩
  rw [← hW1] at BX X
  have HW1 := Lib.hid hW1.symm
  clear hv hO ha hu hW1 hpb hp hr
  go_enter Try.func17, Try.ntmps17
  go_upto_region 1 with (fail)
  rw [HW1.out]
  go_wp2_with fail
  refine (l05Ok_ok w.heap.size W1 X.out (HA.out _ BX.out) HV.out).mono ?_
  rintro e w1 ⟨rfl, b1⟩
  have B1 := Lib.hid (BX.out.trans (b1.mono BX.out.size))
  have X1 := Lib.hid (X.out.below b1)
  clear b1
  go_wp2_with fail
  refine (l05Order_ok n w1 (HU.out _ B1.out) HO.out).mono ?_
  rintro e w2 ⟨rfl, rfl⟩
  obtain ⟨y0, y1, y2, y3⟩ := X1.out
  go_wp2_with fail
  refine (l05Picks_ok w.heap.size w1 X1.out (HA.out _ B1.out) (HP.out _ B1.out) hml HPB.out (by omega)).mono ?_
  rintro e w2 ⟨rfl, b2⟩
  have B2 := Lib.hid (B1.out.trans (b2.mono B1.out.size))
  have X2 := Lib.hid (X1.out.below b2)
  clear b2 y0 y1 y2 y3
  go_wp2_with fail
  refine (KE.out w2 B2.out).mono ?_
  rintro e w3 ⟨rfl, b3⟩
  have B3 := Lib.hid (B2.out.trans (b3.mono B2.out.size))
  have X3 := Lib.hid (X2.out.below b3)
  clear b3
  generalize hok : (decide (0 ≤ LO) && decide (0 ≤ HI)) = OK1
  have HOK := Lib.hid hok
  clear hok
  cases OK1
  · have HN := Lib.hid (show sandR n ms b ps = (0, 0, 4) from by
      have h := HOK.out
      rw [HR.out]
      by_cases h1 : LO < 0
      · simp [h1]
      · have : HI < 0 := by
          rw [Bool.and_eq_false_iff] at h
          rcases h with h | h
          · rw [decide_eq_false_iff_not] at h; omega
          · rw [decide_eq_false_iff_not] at h; omega
        simp [this])
    go_wp2
    go_ret3
    exact ⟨by rw [HN.out]; rfl, B3.out⟩
  · have HLO := Lib.hid (show 0 ≤ LO ∧ 0 ≤ HI from by
      have h := HOK.out
      rw [Bool.and_eq_true, decide_eq_true_eq, decide_eq_true_eq] at h; exact h)
    go_wp2_with fail
    refine (KM.out w3 B3.out X3.out).mono ?_
    rintro e w4 ⟨rfl, b4⟩
    have B4 := Lib.hid (B3.out.trans (b4.mono B3.out.size))
    have X4 := Lib.hid (X3.out.below b4)
    clear b4
    cases MO
    · have HN := Lib.hid (show sandR n ms b ps = (0, 0, 4) from by rw [HR.out]; simp)
      go_wp2
      go_ret3
      exact ⟨by rw [HN.out]; rfl, B4.out⟩
    · have HN := Lib.hid (show sandR n ms b ps = firstR ps.length (pastS ms [LO, HI] ps) from by rw [HR.out, decide_eq_false (show ¬ LO < 0 from by have := HLO.out; omega), decide_eq_false (show ¬ HI < 0 from by have := HLO.out; omega)]; rfl)
      have bz : Below w4.heap.size w4 (w4.alloc (.cells #[.int .i64 LO, .int .i64 HI] 2)) := (Below.refl _ _).alloc (Nat.le_refl _) _
      have BZ := Lib.hid (B4.out.trans (bz.mono B4.out.size))
      have XZ := Lib.hid (X4.out.below bz)
      have hst : SlI (w4.alloc (.cells #[.int .i64 LO, .int .i64 HI] 2)) (.slice (some ⟨w4.heap.size, 0, none⟩) 2 2) [LO, HI] := ⟨_, 2, rfl, by simp, by simp [maxLen], rd_new w4 #[.int .i64 LO, .int .i64 HI] 2⟩
      have KR := Lib.hid (l05LeastSt_any n w.heap.size _ XZ.out (HA.out _ BZ.out) hst (fun x hx => by
        have h0 := HLO.out
        simp at hx
        rcases hx with rfl | rfl
        · rcases hlow with h | h
          · exact absurd h (by omega)
          · exact h
        · rcases hhigh with h | h
          · exact absurd h (by omega)
          · exact h) (by simp) (by simp) (HP.out _ BZ.out) HV.out HPB.out hl)
      rw [← HN.out] at KR
      clear hst bz hlow hhigh
      go_wp2_with fail
      refine KR.out.mono ?_
      rintro e w5 ⟨he, b5⟩
      obtain ⟨R, hR⟩ : ∃ R, R = sandR n ms b ps := ⟨_, rfl⟩
      rw [← hR] at he
      obtain ⟨R1, R2, R3⟩ := R
      have HRR := Lib.hid hR
      subst he
      rw [show tupJ (R1, R2, R3) = .tuple #[.int .i64 R1, .int .i64 R2, .int .i64 R3] from rfl]
      have B5 := Lib.hid (BZ.out.trans (b5.mono BZ.out.size))
      clear hR b5
      go_wp2
      go_ret3
      exact ⟨by rw [← HRR.out]; rfl, B5.out⟩
end Go.Proofs.Ytceobhmbnkheiaa
