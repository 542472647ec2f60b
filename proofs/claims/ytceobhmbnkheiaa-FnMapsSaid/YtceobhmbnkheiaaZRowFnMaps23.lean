/-
  Orders in memory: rows of bools read, owned apart, made. With it: Runs from the past by maps, the reference's side; what the law looks at. Runs from the past of any states, both sides. Orders of states as rows of bools; maps that rise: the plain part.
-/
import Derived.Test.YtceobhmbnkheiaaZRowFnMaps22
import Derived.Test.YtceobhmbnkheiaaZRowFnMaps5
import Derived.Test.YtceobhmbnkheiaaZRowFnMaps16
set_option linter.unusedVariables false
set_option linter.unusedSimpArgs false
namespace Go.Proofs.Ytceobhmbnkheiaa
open Go.RowKit Go.Sort
theorem upTo_one : allAs (upTo 1) = true ∧ hdI (upTo 1) = 0 := by decide
theorem upTo_two {n : Nat} (h : 2 ≤ n) : allAs (upTo n) = false := by
  obtain ⟨m, rfl⟩ : ∃ m, n = m + 2 := ⟨n - 2, by omega⟩
  have hl : 1 < (upTo (m + 2)).length := by rw [upTo_length]; omega
  refine allAs_not hl ?_
  have h0 : (upTo (m + 2)).headD 0 = 0 := by
    unfold upTo
    simp [List.range_succ_eq_map]
  rw [h0]
  have h1 : (upTo (m + 2))[1]? = some 1 := by unfold upTo; rw [List.getElem?_map, List.getElem?_range (by omega)]; rfl
  rw [List.getElem?_eq_getElem hl] at h1
  simp only [Option.some.injEq] at h1
  rw [h1]; decide
theorem runGo_first {L : Nat} {f : Nat → List Int} : ∀ (F k : Nat), L < k + F → (∀ j, j < k → allAs (f j) = false) → runGo (fun k => k + 1) L f F k = firstR L f := by
  intro F
  induction F with
  | zero => intro k h hno; rw [runGo_out (by omega)]; exact (firstR_none (fun j hj => hno j (by omega))).symm
  | succ F ih =>
    intro k h hno
    by_cases hk : k ≤ L
    · cases ha : allAs (f k) with
      | true => rw [runGo_hit hk h ha]; exact (firstR_some hk ha hno).symm
      | false =>
        conv => lhs; unfold runGo
        rw [if_pos hk, ha]
        exact ih (k + 1) (by omega) (fun j hj => by
          by_cases hjk : j = k
          · subst hjk; exact ha
          · exact hno j (by omega))
    · rw [runGo_out (by omega)]; exact (firstR_none (fun j hj => hno j (by omega))).symm
theorem runR_first (L : Nat) (f : Nat → List Int) : runR (fun k => k + 1) L f = firstR L f := by
  unfold runR
  cases ha : allAs (f 0) with
  | true => rw [if_pos rfl]; exact (firstR_some (Nat.zero_le _) ha (fun j hj => absurd hj (by omega))).symm
  | false => exact runGo_first (L + 1) 1 (by omega) (fun j hj => by have h0 : j = 0 := (by omega); subst h0; exact ha)
/-- a window's outcome -/
theorem runGo_win {L : Nat} {f : Nat → List Int} : ∀ (F k : Nat), L < k + F → 1 ≤ k → (k = 1 ∨ ∃ k', k = 2 * k' ∧ 1 ≤ k' ∧ k' ≤ L ∧ allAs (f k') = false) →
    (∃ d, runGo (fun k => 2 * k) L f F k = (hdI (f d), (d : Int), 0) ∧ 1 ≤ d ∧ d ≤ L ∧ allAs (f d) = true ∧ (d = 1 ∨ ∃ k', d = 2 * k' ∧ allAs (f k') = false)) ∨
    (runGo (fun k => 2 * k) L f F k = (0, 0, 6) ∧ (L = 0 ∨ ∃ k', L < 2 * k' ∧ k' ≤ L ∧ allAs (f k') = false)) := by
  intro F
  induction F with
  | zero =>
    intro k h h1 h2
    right
    refine ⟨runGo_out (by omega), ?_⟩
    rcases h2 with rfl | ⟨k', rfl, a, b, c⟩
    · left; omega
    · right; exact ⟨k', by omega, b, c⟩
  | succ F ih =>
    intro k h h1 h2
    by_cases hk : k ≤ L
    · cases ha : allAs (f k) with
      | true =>
        left
        refine ⟨k, runGo_hit hk h ha, h1, hk, ha, ?_⟩
        rcases h2 with rfl | ⟨k', rfl, a, b, c⟩
        · exact .inl rfl
        · exact .inr ⟨k', rfl, c⟩
      | false =>
        have e : runGo (fun k => 2 * k) L f (F + 1) k = runGo (fun k => 2 * k) L f F (2 * k) := by
          conv => lhs; unfold runGo
          rw [if_pos hk, ha]; rfl
        rw [e]
        exact ih (2 * k) (by omega) (by omega) (.inr ⟨k, rfl, h1, hk, ha⟩)
    · right
      refine ⟨runGo_out (by omega), ?_⟩
      rcases h2 with rfl | ⟨k', rfl, a, b, c⟩
      · left; omega
      · right; exact ⟨k', by omega, b, c⟩

set_option maxRecDepth 100000 in
set_option maxHeartbeats 4000000 in
theorem l05Back_any {v u pv : Value} {ms : List (Int × List Int)} {st ps : List Int} {s t : Int} (b k : Nat) (w : World) (hb : MpAt w b s t v) (ha : SlM w v ms) (hu : SlI w u st) (hp : SlI w pv ps) (hv : mapsOk s t ms) (hst : ∀ x ∈ st, 0 ≤ x ∧ x < s) (hl : st.length ≤ 100) (hpb : PicksB ms.length ps) (hpl : ps.length ≤ 100) (hk : k ≤ ps.length) :
    Calls Try.prog 85 #[.pointer (some ⟨b, 0, none⟩), u, pv, .int .i64 k] w fun e w' => ∃ r, e = .returned r ∧ OwnI w' w.heap.size r (backM ms st (ps.take k) 0) ∧ Below w.heap.size w w' := by
  have HA := Lib.hid (fun W (h : Below w.heap.size w W) => ha.below h)
  have X := Lib.hid hb
  have HP := Lib.hid (fun W (h : Below w.heap.size w W) => hp.below h)
  have HUU := Lib.hid hu
  obtain ⟨pa, pc, rfl, _, _, _⟩ := id hp
  have HV := Lib.hid hv
  have HST := Lib.hid hst
  have HPB := Lib.hid hpb
  have htl : (ps.take k).length = k := by rw [List.length_take]; omega
  have HTL := Lib.hid htl
  have hall := backM_all ms st (ps.take k)
  rw [htl] at hall
  have HALL := Lib.hid hall
  clear hv hst ha hu hp hpb hb htl hall
  go_enter Try.func85, Try.ntmps85
  go_wp2_with fail
  refine (l00Own_any _ HUU.out (by omega)).mono ?_
  rintro e w1 ⟨nv, rfl, o1, b1⟩
  have O1 := Lib.hid o1
  have B1 := Lib.hid b1
  clear o1 b1
  go_wp2
  go_loopw [9, 10] (fun sv i wr => ∃ (j : Nat), j ≤ k ∧ i = .int .i64 ((j : Int) - 1) ∧ OwnI wr w.heap.size sv (backM ms st (ps.take k) j) ∧ Below w.heap.size w wr) (fun _ i _ => (intOf i + 1).toNat)
  case atStart => exact ⟨k, Nat.le_refl _, rfl, by rw [HALL.out]; exact O1.out, B1.out⟩
  case round =>
    clear O1 B1
    obtain ⟨j, hj, rfl, hown, hbw⟩ := hrel
    have HBW := Lib.hid hbw
    by_cases hj0 : 0 < j
    · obtain ⟨q, rfl⟩ : ∃ q, j = q + 1 := ⟨j - 1, by omega⟩
      have e0 : ((q + 1 : Nat) : Int) - 1 = (q : Int) := by omega
      simp only [e0]
      have hq : q < (ps.take k).length := by have := HTL.out; omega
      have hq2 : q < ps.length := by omega
      obtain ⟨hin, hlen⟩ := backM_in HV.out (HPB.out.take k) HST.out (q + 1)
      have hbs := backM_step (ms := ms) (st := st) hq
      have hge : (ps.take k)[q] = ps[q] := by simp
      rw [hge] at hbs
      generalize backM ms st (ps.take k) (q + 1) = R at hown hin hlen hbs
      have HO := Lib.hid hown
      have HIN := Lib.hid hin
      have HLEN := Lib.hid hlen
      obtain ⟨rb, ro, rfl, gl⟩ := (HP.out _ hbw).nth hq2
      have hx := HPB.out _ (List.getElem_mem hq2)
      generalize ps[q] = x at gl hx hbs hge
      obtain ⟨x, rfl⟩ := Int.eq_ofNat_of_zero_le hx.1
      have hxl : x < ms.length := by omega
      have HBS := Lib.hid hbs
      have i0 : (0 : Int) ≤ (q : Int) := by omega
      have i1 : (q : Int) < (ps.length : Int) := by omega
      clear hx hbs hbw hown hin hlen e0 hge hq
      go_wp2_with fail
      refine (l05By_any b x _ (X.out.below HBW.out) (HA.out _ HBW.out) HO.out.sl HV.out hxl HIN.out (by have := HLEN.out; omega)).mono ?_
      rintro e w4 ⟨r, rfl, o4, b4⟩
      have HB9 := Lib.hid (HBW.out.trans (b4.mono HBW.out.size))
      have HO9 := Lib.hid (o4.lower (base' := w.heap.size) HBW.out.size)
      clear o4 b4 gl
      go_wp2
      go_roundw
      case rel => exact ⟨q, by omega, rfl, by rw [HBS.out]; exact HO9.out, HB9.out⟩
      case measure => simp [intOf]
    · obtain rfl : j = 0 := by omega
      go_wp2
      go_ret
      exact ⟨_, rfl, hown, hbw⟩

set_option maxRecDepth 100000 in
set_option maxHeartbeats 4000000 in
theorem l05Least_any {v u pv : Value} {ms : List (Int × List Int)} {ps : List Int} {t : Int} (n b : Nat) (w : World) (hb : MpAt w b n t v) (ha : SlM w v ms) (hu : SlI w u (upTo n)) (hp : SlI w pv ps) (hv : mapsOk n t ms) (hpb : PicksB ms.length ps) (hpl : ps.length ≤ 100) :
    Calls Try.prog 57 #[.pointer (some ⟨b, 0, none⟩), u, pv] w fun e w' => e = .returned (tupJ (firstR ps.length (pastM ms n ps))) ∧ Below w.heap.size w w' := by
  have HA := Lib.hid (fun W (h : Below w.heap.size w W) => ha.below h)
  have X := Lib.hid hb
  have HP := Lib.hid (fun W (h : Below w.heap.size w W) => hp.below h)
  have HU := Lib.hid (fun W (h : Below w.heap.size w W) => hu.below h)
  obtain ⟨pa, pc, rfl, _, _, _⟩ := id hp
  obtain ⟨⟨hn1, hn2⟩, _⟩ := id hv
  have HV := Lib.hid hv
  have HPB := Lib.hid hpb
  clear hv ha hu hp hpb hb
  go_enter Try.func57, Try.ntmps57
  go_wp2
  go_loopw [9] (fun k wr => ∃ (j : Nat), j ≤ ps.length + 1 ∧ k = .int .i64 j ∧ Hid (∀ i, i < j → allAs (pastM ms n ps i) = false) ∧ Below w.heap.size w wr) (fun k _ => ps.length + 1 - (intOf k).toNat)
  case atStart => exact ⟨0, Nat.zero_le _, rfl, Lib.hid (fun i hi => absurd hi (by omega)), Below.refl _ _⟩
  case round =>
    obtain ⟨j, hj, rfl, hno, hbw⟩ := hrel
    have HBW := Lib.hid hbw
    by_cases hjl : j ≤ ps.length
    · obtain ⟨hin, hlen⟩ := pastM_in HV.out HPB.out j
      have i9 : (j : Int) ≤ (ps.length : Int) := by omega
      have HFS := Lib.hid (fun h1 h2 => firstR_some (n := ps.length) (f := pastM ms n ps) (k := j) hjl h1 h2)
      have HM9 := Lib.hid (show allAs (pastM ms n ps j) = false → ∀ i, i < j + 1 → allAs (pastM ms n ps i) = false from fun h i hi => by
        by_cases hij : i = j
        · subst hij; exact h
        · exact hno.out i (by omega))
      go_wp2_with fail
      refine (l05Back_any b j _ (X.out.below HBW.out) (HA.out _ HBW.out) (HU.out _ HBW.out) (HP.out _ HBW.out) HV.out (fun x hx => upTo_inM hx) (by rw [upTo_length]; omega) HPB.out hpl hjl).mono ?_
      rintro e w2 ⟨r, rfl, o2, b2⟩
      rw [backM_past] at o2
      generalize pastM ms n ps j = R at o2 HFS HM9 hlen
      have B2 := Lib.hid (HBW.out.trans (b2.mono HBW.out.size))
      have O2 := Lib.hid o2.sl
      have hrl := Lib.hid (show 0 < R.length by omega)
      generalize hm : allAs R = M at HFS HM9
      have HM := Lib.hid hm
      obtain ⟨ra, rc, rfl, _, _, _⟩ := id O2.out
      clear hm o2 b2 hbw hin hlen
      go_wp2_with fail
      refine (l05Equal_any _ O2.out).mono ?_
      rintro e w3 ⟨rfl, b3⟩
      rw [HM.out]
      have B3 := Lib.hid (B2.out.trans (b3.mono B2.out.size))
      obtain ⟨rb, ro, rc', he, g0⟩ := (O2.out.below b3).first hrl.out
      simp only [Value.slice.injEq] at he
      obtain ⟨rfl, _, _⟩ := he
      have hrl' := hrl.out
      have hrl2 : (0 : Int) < (R.length : Int) := by omega
      clear b3
      cases M
      · go_wp2
        go_roundw
        case rel => exact ⟨j + 1, by omega, by go_num, Lib.hid (HM9.out (by simp)), B3.out⟩
        case measure => simp [intOf]; omega
      · have HR := Lib.hid (HFS.out (by simp) hno.out)
        go_wp2
        go_ret3
        exact ⟨by rw [HR.out]; rfl, B3.out⟩
    · have hR := Lib.hid (firstR_none (n := ps.length) (f := pastM ms n ps) (fun i hi => hno.out i (by omega)))
      have i9 : ¬ (j : Int) ≤ (ps.length : Int) := by omega
      go_wp2
      go_ret3
      exact ⟨by rw [hR.out]; rfl, hbw⟩
end Go.Proofs.Ytceobhmbnkheiaa
namespace Go.Proofs.Ytceobhmbnkheiaa
open Go.RowKit Go.Sort
def pastS (ms : List (Int × List Int)) (st ps : List Int) (k : Nat) : List Int := backM ms st (ps.take k) 0
theorem pastS_def (ms : List (Int × List Int)) (st ps : List Int) (k : Nat) : pastS ms st ps k = backM ms st (ps.take k) 0 := rfl
theorem pastS_zero (ms : List (Int × List Int)) (st ps : List Int) : pastS ms st ps 0 = st := by unfold pastS backM; simp
theorem pastS_all (ms : List (Int × List Int)) (n : Nat) (ps : List Int) (k : Nat) : pastS ms (upTo n) ps k = pastM ms n ps k := rfl
theorem pastS_in {n : Nat} {t : Int} {ms : List (Int × List Int)} (hv : mapsOk n t ms) {ps st : List Int} (hp : PicksB ms.length ps) (h : ∀ x ∈ st, 0 ≤ x ∧ x < (n : Int)) (k : Nat) : (∀ x ∈ pastS ms st ps k, 0 ≤ x ∧ x < (n : Int)) ∧ (pastS ms st ps k).length = st.length := backM_in hv (hp.take k) h 0

set_option maxRecDepth 100000 in
set_option maxHeartbeats 4000000 in
theorem runSt_any {v u pv : Value} {ms : List (Int × List Int)} {ps st : List Int} {t : Int} (n : Nat) (w : World) (ha : SlM w v ms) (hu : SlI w u st) (hst : ∀ x ∈ st, 0 ≤ x ∧ x < (n : Int)) (hs0 : 0 < st.length) (hs1 : st.length ≤ 100) (hp : SlI w pv ps) (hv : mapsOk n t ms) (hpb : PicksB ms.length ps) (hpl : ps.length ≤ 100) :
    Calls Try.prog 48 #[.agg #[.int .i64 n, .int .i64 t, v], u, pv, .int .i64 1, .func (.func 49) #[] #[]] w fun e w' => e = .returned (tupJ (runR (fun k => k + 1) ps.length (pastS ms st ps))) ∧ Below w.heap.size w w' := by
  have HA := Lib.hid (fun W (h : Below w.heap.size w W) => ha.below h)
  have HU := Lib.hid (fun W (h : Below w.heap.size w W) => hu.below h)
  have HP := Lib.hid (fun W (h : Below w.heap.size w W) => hp.below h)
  obtain ⟨a, ca, rfl, _, _⟩ := ha.form
  obtain ⟨pa, pc, rfl, hpc, _, _⟩ := id hp
  have BX := Lib.hid (mpBelow w n t (.slice a ms.length ca))
  have X := Lib.hid (MpAt.new w n t (.slice a ms.length ca))
  obtain ⟨⟨hn1, hn2⟩, _⟩ := id hv
  have HV := Lib.hid hv
  have HPB := Lib.hid hpb
  have hul : 0 < st.length := hs0
  have HST := Lib.hid hst
  obtain ⟨fb, fo, fc, rfl, g0⟩ := (hu.below BX.out).first hul
  have hn0 : (0 : Int) < (st.length : Int) := by omega
  have hn0' : 0 < st.length := hs0
  have HUL := Lib.hid hul
  have hR := Lib.hid (show allAs st = true → runR (fun k => k + 1) ps.length (pastS ms st ps) = (hdI st, 0, 0) from fun h => by unfold runR; rw [show pastS ms st ps 0 = st from pastS_zero ms st ps, if_pos h])
  have hR2 := Lib.hid (show allAs st = false → runR (fun k => k + 1) ps.length (pastS ms st ps) = runGo (fun k => k + 1) ps.length (pastS ms st ps) (ps.length + 1) 1 from fun h => by unfold runR; rw [show pastS ms st ps 0 = st from pastS_zero ms st ps, h]; rfl)
  generalize runR (fun k => k + 1) ps.length (pastS ms st ps) = RES at hR hR2 ⊢
  generalize hm : allAs st = M at hR hR2
  have HM := Lib.hid hm
  clear hm hv ha hu hp hpb hul hst
  cases M
  · have HRES := Lib.hid (hR2.out rfl)
    clear hR hR2 g0
    go_enter Try.func48, Try.ntmps48
    go_wp2_with fail
    refine (allSame_any _ (HU.out _ BX.out) HUL.out).mono ?_
    rintro e w1 ⟨rfl, rfl⟩
    rw [HM.out]
    go_wp2
    go_loopw [13] (fun i wr => ∃ (k F : Nat), 1 ≤ k ∧ k ≤ 2 * ps.length + 1 ∧ i = .int .i64 k ∧ Hid (ps.length < k + F) ∧ Hid (RES = runGo (fun k => k + 1) ps.length (pastS ms st ps) F k) ∧ Below (w.alloc (.cells #[.int .i64 n, .int .i64 t, .slice a ms.length ca] 26)).heap.size (w.alloc (.cells #[.int .i64 n, .int .i64 t, .slice a ms.length ca] 26)) wr) (fun i _ => 2 * ps.length + 2 - (intOf i).toNat)
    case atStart => exact ⟨1, ps.length + 1, Nat.le_refl _, by omega, rfl, Lib.hid (by omega), HRES, Below.refl _ _⟩
    case round =>
      obtain ⟨k, F, hk1, hk2, rfl, hF, hres, hbw⟩ := hrel
      have HBW := Lib.hid hbw
      by_cases hkl : k ≤ ps.length
      · obtain ⟨x0, x1, x2, x3⟩ := X.out.below hbw
        have bw2 := BX.out.trans (hbw.mono BX.out.size)
        have HPT := Lib.hid ((HP.out _ bw2).takeJ (i := k) hkl)
        have HU2 := Lib.hid (HU.out _ bw2)
        have BW2 := Lib.hid bw2
        obtain ⟨hin, hlen⟩ := pastS_in HV.out HPB.out HST.out k
        have hhit := runGo_hit (nx := fun k => k + 1) (f := pastS ms st ps) hkl hF.out
        have hmiss := runGo_miss (nx := fun k => k + 1) (f := pastS ms st ps) hkl hF.out
        rw [← hres.out] at hhit hmiss
        have HHIT := Lib.hid hhit
        have HMISS := Lib.hid hmiss
        have i0 : (0 : Int) ≤ (k : Int) := by omega
        have i1 : (k : Int) ≤ (ps.length : Int) := by omega
        have i2 : (k : Int) ≤ (pc : Int) := by omega
        have k0 := fun d os => cell_regrown x1 d os
        have k1 := fun d os => cell_regrown x2 d os
        have k2 := fun d os => cell_regrown x3 d os
        clear x0 hbw bw2 hhit hmiss hin
        go_wp2_with fail
        go_region_law (first
          | (go_simp; go_at_call 82; refine (fromPast_any _ ((HA.out _ BW2.out).below (by (repeat (first | exact Below.refl _ _ | refine Below.drew ?_ | refine Below.alloc ?_ (by simp) _)))) (HU2.out.below (by (repeat (first | exact Below.refl _ _ | refine Below.drew ?_ | refine Below.alloc ?_ (by simp) _)))) (HPT.out.below (by (repeat (first | exact Below.refl _ _ | refine Below.drew ?_ | refine Below.alloc ?_ (by simp) _)))) HV.out HST.out (by omega) (HPB.out.take k) (by rw [List.length_take]; omega)).mono ?_; rintro e w4 ⟨r, rfl, o4, b4⟩; have bw4 := below_of (a := wr) (by (repeat (first | exact Below.refl _ _ | refine Below.drew ?_ | refine Below.alloc ?_ (by simp) _))) b4)
          | fail "no arm")
        all_goals
          have HB9 := Lib.hid (HBW.out.trans (bw4.mono HBW.out.size))
          rw [← pastS_def] at o4
          generalize pastS ms st ps k = R at o4 HHIT HMISS hlen
          have hrl : 0 < R.length := by omega
          obtain ⟨rb, ro, rc, rfl, q0⟩ := o4.first hrl
          rw [hlen] at o4 ⊢
          have O4 := Lib.hid o4
          have HRL := Lib.hid hrl
          generalize hm2 : allAs R = M2 at HHIT HMISS
          have HM2 := Lib.hid hm2
          have r0 : IntKind.i64.wrap (k : Int) = (k : Int) := IntWalk.i64_in _ (by omega)
          clear o4 b4 bw4 k0 k1 k2 x1 x2 x3 hlen hrl hm2
          cases M2
          · obtain ⟨F', hF1, hF2⟩ := HMISS.out rfl
            have HF1 := Lib.hid hF1
            have HF2 := Lib.hid hF2
            clear hF1 hF2 q0
            go_wp2_with fail
            refine (allSame_any _ O4.out HRL.out).mono ?_
            rintro e w5 ⟨rfl, rfl⟩
            rw [HM2.out]
            go_wp2_with fail
            refine (nextPast_any k _ (by omega)).mono ?_
            rintro e w5 ⟨rfl, rfl⟩
            go_wp2
            go_roundw
            case rel => exact ⟨k + 1, F', by omega, by omega, by go_num, Lib.hid (by have := hF.out; have := HF2.out; omega), HF1, HB9.out⟩
            case measure => simp [intOf]; omega
          · have HH := Lib.hid (HHIT.out rfl)
            go_wp2_with fail
            refine (allSame_any _ O4.out HRL.out).mono ?_
            rintro e w5 ⟨rfl, rfl⟩
            rw [HM2.out]
            go_wp2
            go_ret3
            exact ⟨by rw [HH.out]; rfl, BX.out.trans (HB9.out.mono BX.out.size)⟩
      · have HH := Lib.hid (hres.out.trans (runGo_out (by omega)))
        have i1 : ¬ (k : Int) ≤ (ps.length : Int) := by omega
        go_wp2
        go_ret3
        exact ⟨by rw [HH.out]; rfl, BX.out.trans (HBW.out.mono BX.out.size)⟩
  · have HRES := Lib.hid (hR.out rfl)
    clear hR hR2
    go_enter Try.func48, Try.ntmps48
    go_wp2_with fail
    refine (allSame_any _ (HU.out _ BX.out) HUL.out).mono ?_
    rintro e w1 ⟨rfl, rfl⟩
    rw [HM.out]
    go_wp2
    go_ret3
    exact ⟨by rw [HRES.out]; rfl, BX.out⟩

set_option maxRecDepth 100000 in
set_option maxHeartbeats 4000000 in
theorem l05LeastSt_any {v u pv : Value} {ms : List (Int × List Int)} {ps st : List Int} {t : Int} (n b : Nat) (w : World) (hb : MpAt w b n t v) (ha : SlM w v ms) (hu : SlI w u st) (hst : ∀ x ∈ st, 0 ≤ x ∧ x < (n : Int)) (hs0 : 0 < st.length) (hs1 : st.length ≤ 100) (hp : SlI w pv ps) (hv : mapsOk n t ms) (hpb : PicksB ms.length ps) (hpl : ps.length ≤ 100) :
    Calls Try.prog 57 #[.pointer (some ⟨b, 0, none⟩), u, pv] w fun e w' => e = .returned (tupJ (firstR ps.length (pastS ms st ps))) ∧ Below w.heap.size w w' := by
  have HA := Lib.hid (fun W (h : Below w.heap.size w W) => ha.below h)
  have X := Lib.hid hb
  have HP := Lib.hid (fun W (h : Below w.heap.size w W) => hp.below h)
  have HU := Lib.hid (fun W (h : Below w.heap.size w W) => hu.below h)
  obtain ⟨pa, pc, rfl, _, _, _⟩ := id hp
  obtain ⟨⟨hn1, hn2⟩, _⟩ := id hv
  have HV := Lib.hid hv
  have HPB := Lib.hid hpb
  have HST := Lib.hid hst
  clear hv ha hu hp hpb hb hst
  go_enter Try.func57, Try.ntmps57
  go_wp2
  go_loopw [9] (fun k wr => ∃ (j : Nat), j ≤ ps.length + 1 ∧ k = .int .i64 j ∧ Hid (∀ i, i < j → allAs (pastS ms st ps i) = false) ∧ Below w.heap.size w wr) (fun k _ => ps.length + 1 - (intOf k).toNat)
  case atStart => exact ⟨0, Nat.zero_le _, rfl, Lib.hid (fun i hi => absurd hi (by omega)), Below.refl _ _⟩
  case round =>
    obtain ⟨j, hj, rfl, hno, hbw⟩ := hrel
    have HBW := Lib.hid hbw
    by_cases hjl : j ≤ ps.length
    · obtain ⟨hin, hlen⟩ := pastS_in HV.out HPB.out HST.out j
      have i9 : (j : Int) ≤ (ps.length : Int) := by omega
      have HFS := Lib.hid (fun h1 h2 => firstR_some (n := ps.length) (f := pastS ms st ps) (k := j) hjl h1 h2)
      have HM9 := Lib.hid (show allAs (pastS ms st ps j) = false → ∀ i, i < j + 1 → allAs (pastS ms st ps i) = false from fun h i hi => by
        by_cases hij : i = j
        · subst hij; exact h
        · exact hno.out i (by omega))
      go_wp2_with fail
      refine (l05Back_any b j _ (X.out.below HBW.out) (HA.out _ HBW.out) (HU.out _ HBW.out) (HP.out _ HBW.out) HV.out HST.out (by omega) HPB.out hpl hjl).mono ?_
      rintro e w2 ⟨r, rfl, o2, b2⟩
      rw [← pastS_def] at o2
      generalize pastS ms st ps j = R at o2 HFS HM9 hlen
      have B2 := Lib.hid (HBW.out.trans (b2.mono HBW.out.size))
      have O2 := Lib.hid o2.sl
      have hrl := Lib.hid (show 0 < R.length by omega)
      generalize hm : allAs R = M at HFS HM9
      have HM := Lib.hid hm
      obtain ⟨ra, rc, rfl, _, _, _⟩ := id O2.out
      clear hm o2 b2 hbw hin hlen
      go_wp2_with fail
      refine (l05Equal_any _ O2.out).mono ?_
      rintro e w3 ⟨rfl, b3⟩
      rw [HM.out]
      have B3 := Lib.hid (B2.out.trans (b3.mono B2.out.size))
      obtain ⟨rb, ro, rc', he, g0⟩ := (O2.out.below b3).first hrl.out
      simp only [Value.slice.injEq] at he
      obtain ⟨rfl, _, _⟩ := he
      have hrl' := hrl.out
      have hrl2 : (0 : Int) < (R.length : Int) := by omega
      clear b3
      cases M
      · go_wp2
        go_roundw
        case rel => exact ⟨j + 1, by omega, by go_num, Lib.hid (HM9.out (by simp)), B3.out⟩
        case measure => simp [intOf]; omega
      · have HR := Lib.hid (HFS.out (by simp) hno.out)
        go_wp2
        go_ret3
        exact ⟨by rw [HR.out]; rfl, B3.out⟩
    · have hR := Lib.hid (firstR_none (n := ps.length) (f := pastS ms st ps) (fun i hi => hno.out i (by omega)))
      have i9 : ¬ (j : Int) ≤ (ps.length : Int) := by omega
      go_wp2
      go_ret3
      exact ⟨by rw [hR.out]; rfl, hbw⟩
end Go.Proofs.Ytceobhmbnkheiaa
namespace Go.Proofs.Ytceobhmbnkheiaa
open Go.RowKit Go.Sort
def leB (b : List (List Bool)) (s t : Nat) : Bool := (b.getD s []).getD t false
/-- an order of n states -/
structure OrdB (n : Nat) (b : List (List Bool)) : Prop where
  n1 : 1 ≤ n
  n6 : n ≤ 6
  len : b.length = n
  rows : ∀ r ∈ b, r.length = n
  refl : ∀ s, s < n → leB b s s = true
  anti : ∀ s t, s < n → t < n → s ≠ t → ¬ (leB b s t = true ∧ leB b t s = true)
  trans : ∀ s t u, s < n → t < n → u < n → leB b s t = true → leB b t u = true → leB b s u = true
theorem OrdB.at_ {n : Nat} {b : List (List Bool)} (h : OrdB n b) {s t : Nat} (hs : s < n) (ht : t < n) : ∃ (h1 : s < b.length) (h2 : t < b[s].length), leB b s t = b[s][t] := by
  have h1 : s < b.length := by rw [h.len]; exact hs
  have h2 : t < b[s].length := by rw [h.rows _ (List.getElem_mem h1)]; exact ht
  refine ⟨h1, h2, ?_⟩
  unfold leB
  rw [List.getD_eq_getElem?_getD, List.getD_eq_getElem?_getD, List.getElem?_eq_getElem h1]
  show (b[s][t]?).getD false = _
  rw [List.getElem?_eq_getElem h2]; rfl
def ordC (n : Nat) (b : List (List Bool)) : Bool :=
  decide (b.length = n) && b.all (fun r => decide (r.length = n)) && (List.range n).all fun s => leB b s s && (List.range n).all fun t => (decide (s = t) || !(leB b s t && leB b t s)) && (List.range n).all fun u => !(leB b s t && leB b t u) || leB b s u
theorem ordC_ok {n : Nat} {b : List (List Bool)} (h1 : 1 ≤ n) (h6 : n ≤ 6) (h : ordC n b = true) : OrdB n b := by
  unfold ordC at h
  simp only [Bool.and_eq_true, List.all_eq_true, List.mem_range, decide_eq_true_eq, Bool.or_eq_true, Bool.not_eq_true'] at h
  obtain ⟨⟨hl, hr⟩, hx⟩ := h
  refine ⟨h1, h6, hl, hr, fun s hs => (hx s hs).1, ?_, ?_⟩
  · intro s t hs ht hne hh
    rcases ((hx s hs).2 t ht).1 with e | e
    · exact hne e
    · rw [hh.1, hh.2] at e; cases e
  · intro s t u hs ht hu a1 a2
    rcases ((hx s hs).2 t ht).2 u hu with e | e
    · rw [a1, a2] at e; cases e
    · exact e
def lineB (n : Nat) : List (List Bool) := (List.range n).map fun s => (List.range n).map fun t => decide (s ≤ t)
/-- an order as it is drawn: c is the one free choice of four states -/
def midB (n : Nat) (c : Bool) : List (List Bool) := (List.range n).map fun s => (List.range n).map fun t => decide (s ≤ t) && (c || !(decide (n = 4) && decide (s = 1) && decide (t = 2)))
/-- .. with the first j pairs of the first state taken away -/
def topB (n : Nat) (c : Bool) (j : Nat) : List (List Bool) := (List.range n).map fun s => (List.range n).map fun t => (decide (s ≤ t) && (c || !(decide (n = 4) && decide (s = 1) && decide (t = 2)))) && !(decide (s = 0) && decide (1 ≤ t) && decide (t < j))
def setB (b : List (List Bool)) (s t : Nat) (v : Bool) : List (List Bool) := b.set s ((b.getD s []).set t v)
theorem line_ok : ∀ n, n < 4 → ordC (n + 1) (lineB (n + 1)) = true := by decide
theorem top_ok : ∀ n, n < 4 → ∀ c : Bool, ordC (n + 1) (topB (n + 1) c (n + 1)) = true := by decide
theorem mid_ok : ∀ n, n < 4 → ∀ c : Bool, ordC (n + 1) (midB (n + 1) c) = true := by decide
theorem line_mid : ∀ n, n < 4 → lineB (n + 1) = midB (n + 1) true := by decide
theorem mid_top : ∀ n, n < 4 → ∀ c : Bool, topB (n + 1) c 1 = midB (n + 1) c := by decide
def chk1 : Bool := (List.range 4).all fun n => [true, false].all fun c => (List.range 4).all fun a => (List.range 4).all fun b => !(decide (a < b) && decide (b < n + 1) && (decide (a = 0) || decide (b = n))) || decide (setB (midB (n + 1) c) a b true = midB (n + 1) c)
def chk2 : Bool := (List.range 4).all fun n => [true, false].all fun c => (List.range 4).all fun a => (List.range 4).all fun b => [true, false].all fun v => !(decide (a < b) && decide (b < n + 1) && !(decide (a = 0) || decide (b = n))) || decide (setB (midB (n + 1) c) a b v = midB (n + 1) v)
def chk3 : Bool := (List.range 4).all fun n => [true, false].all fun c => (List.range (n + 1)).all fun k => (List.range (n + 1)).all fun a => (List.range (n + 1)).all fun b => decide (setB (midB (n + 1) c) a b (leB (midB (n + 1) c) a b || (leB (midB (n + 1) c) a k && leB (midB (n + 1) c) k b)) = midB (n + 1) c)
def chk4 : Bool := (List.range 4).all fun n => [true, false].all fun c => (List.range (n + 1)).all fun j => !(decide (1 ≤ j)) || decide (setB (topB (n + 1) c j) 0 j false = topB (n + 1) c (j + 1))
theorem chk1_ok : chk1 = true := by decide
theorem chk2_ok : chk2 = true := by decide
theorem chk3_ok : chk3 = true := by decide
theorem chk4_ok : chk4 = true := by decide
theorem bool_in (c : Bool) : c ∈ [true, false] := by cases c <;> simp
theorem mid_set {n a b : Nat} (hn : n < 4) (c : Bool) (hab : a < b) (hb : b < n + 1) (h : (decide (a = 0) || decide (b = n)) = true) : setB (midB (n + 1) c) a b true = midB (n + 1) c := by
  have k := chk1_ok
  unfold chk1 at k
  simp only [List.all_eq_true, List.mem_range] at k
  have := k n hn c (bool_in c) a (by omega) b (by omega)
  rw [h] at this
  simpa [hab, hb] using this
theorem mid_set2 {n a b : Nat} (hn : n < 4) (c : Bool) (hab : a < b) (hb : b < n + 1) (h : (decide (a = 0) || decide (b = n)) = false) (v : Bool) : setB (midB (n + 1) c) a b v = midB (n + 1) v := by
  have k := chk2_ok
  unfold chk2 at k
  simp only [List.all_eq_true, List.mem_range] at k
  have := k n hn c (bool_in c) a (by omega) b (by omega) v (bool_in v)
  rw [h] at this
  simpa [hab, hb] using this
theorem mid_clo {n k a b : Nat} (hn : n < 4) (c : Bool) (hk : k < n + 1) (ha : a < n + 1) (hb : b < n + 1) : setB (midB (n + 1) c) a b (leB (midB (n + 1) c) a b || (leB (midB (n + 1) c) a k && leB (midB (n + 1) c) k b)) = midB (n + 1) c := by
  have h := chk3_ok
  unfold chk3 at h
  simp only [List.all_eq_true, List.mem_range] at h
  exact of_decide_eq_true (h n hn c (bool_in c) k hk a ha b hb)
theorem top_set {n j : Nat} (hn : n < 4) (c : Bool) (h1 : 1 ≤ j) (hj : j < n + 1) : setB (topB (n + 1) c j) 0 j false = topB (n + 1) c (j + 1) := by
  have h := chk4_ok
  unfold chk4 at h
  simp only [List.all_eq_true, List.mem_range] at h
  have := h n hn c (bool_in c) j hj
  simpa [h1] using this
/-- the ends of an order, as they are found -/
def lowB (b : List (List Bool)) (n s : Nat) : Bool := (List.range n).all fun t => leB b s t
def highB (b : List (List Bool)) (n s : Nat) : Bool := (List.range n).all fun t => leB b t s
def lastP (p : Nat → Bool) : Nat → Int
  | 0 => -1
  | k + 1 => if p k = true then (k : Int) else lastP p k
def endsB (b : List (List Bool)) (n : Nat) : Int × Int := (lastP (lowB b n) n, lastP (highB b n) n)
theorem ends_line : ∀ n, n < 4 → endsB (lineB (n + 1)) (n + 1) = (0, (n : Int)) := by decide
theorem lastP_in (p : Nat → Bool) : ∀ k, lastP p k = -1 ∨ (0 ≤ lastP p k ∧ lastP p k < (k : Int))
  | 0 => .inl rfl
  | k + 1 => by
    unfold lastP
    split
    · exact .inr ⟨by omega, by omega⟩
    · rcases lastP_in p k with h | h
      · exact .inl h
      · exact .inr ⟨h.1, by omega⟩
/-- all maps keep an order -/
def keepB (b : List (List Bool)) (n : Nat) (tl : List Int) (s t : Nat) : Bool := !leB b s t || leB b (tl.getD s 0).toNat (tl.getD t 0).toNat
def rowK1 (b : List (List Bool)) (n : Nat) (tl : List Int) (s : Nat) : Bool := (List.range n).all fun t => keepB b n tl s t
def mapK (b : List (List Bool)) (n : Nat) (tl : List Int) : Bool := (List.range n).all fun s => rowK1 b n tl s
def monB (b : List (List Bool)) (n : Nat) (ms : List (Int × List Int)) : Bool := ms.all fun m => mapK b n m.2
theorem all_no {p : Nat → Bool} {n k : Nat} (h : k < n) (hp : p k = false) : (List.range n).all p = false := by
  rw [List.all_eq_false]
  exact ⟨k, by rw [List.mem_range]; exact h, by rw [hp]; simp⟩
theorem all_yes {p : Nat → Bool} {n : Nat} (h : ∀ k, k < n → p k = true) : (List.range n).all p = true := by
  rw [List.all_eq_true]
  intro k hk
  rw [List.mem_range] at hk
  exact h k hk
/-- rising maps -/
def riseL : List Int → Int → List Int
  | [], _ => []
  | x :: r, m => max x m :: riseL r (max x m)
def riseR : List Int → List Int
  | [] => []
  | x :: r => x :: riseL r x
def riseM (ms : List (Int × List Int)) : List (Int × List Int) := ms.map fun m => (m.1, riseR m.2)
theorem riseL_len : ∀ (l : List Int) (m : Int), (riseL l m).length = l.length
  | [], _ => rfl
  | x :: r, m => by simp [riseL, riseL_len r]
theorem riseR_len (l : List Int) : (riseR l).length = l.length := by
  cases l with
  | nil => rfl
  | cons x r => simp [riseR, riseL_len]
theorem riseL_in {s : Int} : ∀ {l : List Int} {m : Int}, (∀ x ∈ l, 0 ≤ x ∧ x < s) → 0 ≤ m ∧ m < s → ∀ x ∈ riseL l m, 0 ≤ x ∧ x < s
  | [], _, _, _, x, hx => by simp [riseL] at hx
  | y :: r, m, h, hm, x, hx => by
    unfold riseL at hx
    have hy := h y (by simp)
    have hmx : 0 ≤ max y m ∧ max y m < s := by omega
    rcases List.mem_cons.1 hx with rfl | hx
    · exact hmx
    · exact riseL_in (fun z hz => h z (by simp [hz])) hmx x hx
theorem riseR_in {s : Int} {l : List Int} (h : ∀ x ∈ l, 0 ≤ x ∧ x < s) : ∀ x ∈ riseR l, 0 ≤ x ∧ x < s := by
  cases l with
  | nil => intro x hx; simp [riseR] at hx
  | cons y r =>
    intro x hx
    unfold riseR at hx
    rcases List.mem_cons.1 hx with rfl | hx
    · exact h _ (by simp)
    · exact riseL_in (fun z hz => h z (by simp [hz])) (h y (by simp)) x hx
theorem riseL_ge : ∀ {l : List Int} {m : Int}, ∀ x ∈ riseL l m, m ≤ x
  | [], _, x, hx => by simp [riseL] at hx
  | y :: r, m, x, hx => by
    unfold riseL at hx
    rcases List.mem_cons.1 hx with rfl | hx
    · omega
    · have := riseL_ge (l := r) (m := max y m) x hx
      omega
theorem riseL_mono : ∀ (l : List Int) (m : Int), (riseL l m).Pairwise (· ≤ ·)
  | [], _ => List.Pairwise.nil
  | y :: r, m => by
    unfold riseL
    exact List.Pairwise.cons (fun x hx => riseL_ge x hx) (riseL_mono r _)
theorem riseR_mono (l : List Int) : (riseR l).Pairwise (· ≤ ·) := by
  cases l with
  | nil => exact List.Pairwise.nil
  | cons y r => exact List.Pairwise.cons (fun x hx => riseL_ge x hx) (riseL_mono r _)
theorem riseR_le {l : List Int} {i j : Nat} (hij : i ≤ j) (hj : j < (riseR l).length) : (riseR l)[i]'(by omega) ≤ (riseR l)[j] := by
  by_cases e : i = j
  · subst e; exact Int.le_refl _
  · exact List.pairwise_iff_getElem.1 (riseR_mono l) i j (by omega) hj (by omega)
theorem rise_ok {s t : Int} {ms : List (Int × List Int)} (h : mapsOk s t ms) : mapsOk s t (riseM ms) := by
  obtain ⟨h1, h2, h3, h4, h5⟩ := h
  refine ⟨h1, h2, by unfold riseM; rw [List.length_map]; exact h3, ?_, ?_⟩
  · intro m hm
    unfold riseM at hm
    rw [List.mem_map] at hm
    obtain ⟨m0, hm0, rfl⟩ := hm
    obtain ⟨a, b, c⟩ := h4 m0 hm0
    exact ⟨a, by rw [riseR_len]; exact b, riseR_in c⟩
  · unfold riseM
    rw [List.map_map]
    exact h5
theorem leB_line {n s t : Nat} (hs : s < n) (ht : t < n) : leB (lineB n) s t = decide (s ≤ t) := by
  unfold leB lineB
  simp [List.getD_eq_getElem?_getD, hs, ht]
theorem rise_mon {n : Nat} {t : Int} {ms : List (Int × List Int)} (h : mapsOk n t ms) : monB (lineB n) n (riseM ms) = true := by
  unfold monB
  rw [List.all_eq_true]
  intro m hm
  have hok := rise_ok h
  obtain ⟨_, _, _, h4, _⟩ := hok
  obtain ⟨_, hl, hx⟩ := h4 m hm
  have hl2 : m.2.length = n := by omega
  unfold riseM at hm
  rw [List.mem_map] at hm
  obtain ⟨m0, _, rfl⟩ := hm
  unfold mapK rowK1
  refine all_yes (fun s hs => all_yes (fun u hu => ?_))
  unfold keepB
  rw [leB_line hs hu]
  by_cases hsu : s ≤ u
  · have hs2 : s < (riseR m0.2).length := by show s < _; rw [hl2]; exact hs
    have hu2 : u < (riseR m0.2).length := by rw [hl2]; exact hu
    have e1 : (riseR m0.2).getD s 0 = (riseR m0.2)[s] := gD_at hs2
    have e2 : (riseR m0.2).getD u 0 = (riseR m0.2)[u] := gD_at hu2
    have r1 := hx _ (List.getElem_mem hs2)
    have r2 := hx _ (List.getElem_mem hu2)
    have r3 := riseR_le hsu hu2
    show (!decide (s ≤ u) || leB (lineB n) ((riseR m0.2).getD s 0).toNat ((riseR m0.2).getD u 0).toNat) = true
    rw [e1, e2, leB_line (by omega) (by omega)]
    have : ((riseR m0.2)[s]).toNat ≤ ((riseR m0.2)[u]).toNat := by omega
    simp [this]
  · simp [hsu]
/-- a run of rising maps, told by one function -/
theorem back_fun {n : Nat} {t : Int} {ms : List (Int × List Int)} (h : mapsOk n t ms) : ∀ {ps : List Int}, PicksB (riseM ms).length ps →
    ∃ f : Int → Int, (∀ st, ps.foldl (byM (riseM ms)) st = st.map f) ∧ ∀ x y, 0 ≤ x → x ≤ y → y < (n : Int) → 0 ≤ f x ∧ f x ≤ f y ∧ f y < (n : Int)
  | [], _ => ⟨id, fun st => by simp, fun x y h1 h2 h3 => ⟨h1, h2, h3⟩⟩
  | p :: ps, hp => by
    obtain ⟨f, h1, h2⟩ := back_fun h (ps := ps) (fun q hq => hp q (by simp [hq]))
    refine ⟨fun x => f (goM (riseM ms) p x), fun st => ?_, fun x y hx hxy hy => ?_⟩
    · rw [List.foldl_cons, h1]
      unfold byM
      rw [List.map_map]; rfl
    · have hpp := hp p (by simp)
      have g1 := goM_in (rise_ok h) hpp (x := x) ⟨hx, by omega⟩
      have g2 := goM_in (rise_ok h) hpp (x := y) ⟨by omega, hy⟩
      have g3 : goM (riseM ms) p x ≤ goM (riseM ms) p y := by
        obtain ⟨q, rfl⟩ := Int.eq_ofNat_of_zero_le hpp.1
        obtain ⟨a, rfl⟩ := Int.eq_ofNat_of_zero_le hx
        obtain ⟨b, rfl⟩ := Int.eq_ofNat_of_zero_le (show 0 ≤ y by omega)
        have hql : q < (riseM ms).length := by omega
        obtain ⟨_, _, _, h4, _⟩ := rise_ok h
        obtain ⟨_, hl, _⟩ := h4 _ (List.getElem_mem hql)
        rw [goM_at hql (show a < _ by omega), goM_at hql (show b < _ by omega)]
        have hq2 : q < ms.length := by unfold riseM at hql; rwa [List.length_map] at hql
        have e : (riseM ms)[q].2 = riseR (ms[q].2) := by simp only [riseM, List.getElem_map]
        simp only [e]
        exact riseR_le (by omega) (by rw [riseR_len]; rw [e, riseR_len] at hl; omega)
      exact h2 _ _ g1.1 g3 g2.2
theorem runGo_congr {nx : Nat → Nat} {L : Nat} {f g : Nat → List Int} (h : ∀ k, allAs (f k) = allAs (g k) ∧ (allAs (f k) = true → hdI (f k) = hdI (g k))) : ∀ F k, runGo nx L f F k = runGo nx L g F k
  | 0, _ => rfl
  | F + 1, k => by
    unfold runGo
    rw [runGo_congr h F (nx k), (h k).1]
    by_cases ha : allAs (g k) = true
    · rw [if_pos ha, if_pos ha, (h k).2 (by rw [(h k).1]; exact ha)]
    · rw [if_neg ha, if_neg ha]
theorem runR_congr {nx : Nat → Nat} {L : Nat} {f g : Nat → List Int} (h : ∀ k, allAs (f k) = allAs (g k) ∧ (allAs (f k) = true → hdI (f k) = hdI (g k))) : runR nx L f = runR nx L g := by
  unfold runR
  rw [(h 0).1, runGo_congr h]
  by_cases ha : allAs (g 0) = true
  · rw [if_pos ha, if_pos ha, (h 0).2 (by rw [(h 0).1]; exact ha)]
  · rw [if_neg ha, if_neg ha]
theorem ends_all {n : Nat} (hn : 1 ≤ n) (f : Int → Int) (hf : ∀ x y, 0 ≤ x → x ≤ y → y < (n : Int) → 0 ≤ f x ∧ f x ≤ f y ∧ f y < (n : Int)) :
    allAs ([(0 : Int), ((n - 1 : Nat) : Int)].map f) = allAs ((upTo n).map f) ∧ (allAs ([(0 : Int), ((n - 1 : Nat) : Int)].map f) = true → hdI ([(0 : Int), ((n - 1 : Nat) : Int)].map f) = hdI ((upTo n).map f)) := by
  have hu : ∃ r, upTo n = 0 :: r ∧ (∀ x ∈ r, 0 ≤ x ∧ x ≤ ((n - 1 : Nat) : Int)) ∧ ((n - 1 : Nat) : Int) ∈ (0 : Int) :: r := by
    obtain ⟨m, rfl⟩ : ∃ m, n = m + 1 := ⟨n - 1, by omega⟩
    unfold upTo
    rw [List.range_succ_eq_map]
    refine ⟨_, rfl, ?_, ?_⟩
    · intro x hx
      simp only [List.map_map, List.mem_map, List.mem_range] at hx
      obtain ⟨a, ha, rfl⟩ := hx
      simp
      omega
    · have e : ((m + 1 - 1 : Nat) : Int) = (m : Int) := by omega
      rw [e]
      cases m with
      | zero => simp
      | succ m =>
        refine List.mem_cons_of_mem _ ?_
        simp only [List.map_map, List.mem_map, List.mem_range]
        exact ⟨m, by omega, by simp⟩
  obtain ⟨r, hr, h1, h2⟩ := hu
  rw [hr]
  refine ⟨?_, fun _ => rfl⟩
  rw [Bool.eq_iff_iff, allAs_all, allAs_all]
  constructor
  · intro h i hi
    have e := h 1 (by simp)
    have e : f ((n - 1 : Nat) : Int) = f 0 := by simpa using e
    have hm : (List.map f (0 :: r))[i] ∈ List.map f (0 :: r) := List.getElem_mem hi
    rw [List.mem_map] at hm
    obtain ⟨x, hx, hxe⟩ := hm
    rw [← hxe]
    show f x = f 0
    rcases List.mem_cons.1 hx with rfl | hx
    · rfl
    · have hb := h1 x hx
      have a1 := hf 0 x (by omega) hb.1 (by omega)
      have a2 := hf x ((n - 1 : Nat) : Int) hb.1 hb.2 (by omega)
      omega
  · intro h
    have hl : ∀ x ∈ (0 : Int) :: r, f x = f 0 := by
      intro x hx
      obtain ⟨i, hi, he⟩ := List.getElem_of_mem (List.mem_map_of_mem (f := f) hx)
      have := h i hi
      rw [he] at this
      simpa using this
    intro i hi
    match i, hi with
    | 0, _ => rfl
    | 1, _ => exact hl _ h2
    | i + 2, hi => simp at hi; omega
/-- a run by the ends is the run of all -/
theorem sand_law {n : Nat} {t : Int} {ms : List (Int × List Int)} (h : mapsOk n t ms) {ps : List Int} (hp : PicksB (riseM ms).length ps) (nx : Nat → Nat) (L : Nat) :
    runR nx L (pastS (riseM ms) [(0 : Int), ((n - 1 : Nat) : Int)] ps) = runR nx L (pastM (riseM ms) n ps) := by
  have hn : 1 ≤ n := by obtain ⟨⟨h1, _⟩, _⟩ := h; omega
  refine runR_congr (fun k => ?_)
  obtain ⟨f, h1, h2⟩ := back_fun h (ps := (ps.take k).reverse) (fun q hq => hp q (List.mem_of_mem_take (List.mem_reverse.1 hq)))
  have e1 : ∀ st, pastS (riseM ms) st ps k = st.map f := fun st => by
    unfold pastS backM
    rw [List.drop_zero, h1]
  rw [← pastS_all, e1, e1]
  exact ends_all hn f h2
end Go.Proofs.Ytceobhmbnkheiaa
namespace Go.Proofs.Ytceobhmbnkheiaa
open Go.RowKit Go.Sort
def GB : FRow Bool := ⟨FB, ⟨29, 44, .slice none 0 0, 1, 24, encR, Try.underlying29, by kernel_rfl, rfl, by decide, by decide, fun _ => rfl, encR_one⟩, rfl, rfl, by decide⟩
theorem FB_slat {w : World} {ad : Option Addr} {n c : Nat} {xs : List Bool} (h : FB.Sl w (.slice ad n c) xs) {i : Nat} (hi : i < xs.length) : ∃ b off, ad = some ⟨b, off, none⟩ ∧ b < w.heap.size ∧ w.cell? ⟨b, off + i, none⟩ = some (.bool xs[i]) := by
  obtain ⟨b, off, h1, h2, h3⟩ := h.at_ hi
  have := h3 0 (.bool xs[i]) rfl
  rw [show off + (i * FB.size + 0) = off + i from by show off + (i * 1 + 0) = _; omega] at this
  exact ⟨b, off, h1, h2, this⟩
/-- an order as it lies in memory -/
structure RdB (w : World) (n : Nat) (b : List (List Bool)) (bb off : Nat) (rb ro rc : Nat → Nat) : Prop where
  row : ∀ s, s < n → w.cell? ⟨bb, off + s, none⟩ = some (.slice (some ⟨rb s, ro s, none⟩) n (rc s))
  bit : ∀ s t, s < n → t < n → w.cell? ⟨rb s, ro s + t, none⟩ = some (.bool (leB b s t))
theorem RdB.below {w w' : World} {n : Nat} {b : List (List Bool)} {bb off : Nat} {rb ro rc : Nat → Nat} (h : RdB w n b bb off rb ro rc) (hb : Below w.heap.size w w') : RdB w' n b bb off rb ro rc :=
  ⟨fun s hs => by rw [hb.cell (p := ⟨bb, off + s, none⟩) (cell_lt (h.row s hs))]; exact h.row s hs, fun s t hs ht => by rw [hb.cell (p := ⟨rb s, ro s + t, none⟩) (cell_lt (h.bit s t hs ht))]; exact h.bit s t hs ht⟩
theorem GB_rd {w : World} {v : Value} {n : Nat} {b : List (List Bool)} (h : GB.Sl w v b) (hO : OrdB n b) : ∃ bb off c rb ro rc, v = .slice (some ⟨bb, off, none⟩) n c ∧ n ≤ c ∧ c ≤ maxLen ∧ RdB w n b bb off rb ro rc := by
  obtain ⟨ad, c, rfl, hc, hm⟩ := h.form
  have h1 := hO.n1
  have hlen := hO.len
  obtain ⟨bb, off, _, _, hae, _, _, _⟩ := h.at_ (i := 0) (by omega)
  subst hae
  have key : ∀ s : Nat, ∃ p : Nat × Nat × Nat, s < n → w.cell? ⟨bb, off + s, none⟩ = some (.slice (some ⟨p.1, p.2.1, none⟩) n p.2.2) ∧ ∀ t, t < n → w.cell? ⟨p.1, p.2.1 + t, none⟩ = some (.bool (leB b s t)) := by
    intro s
    by_cases hs : s < n
    · have hsl : s < b.length := by omega
      obtain ⟨bb', off', ra, rc, hae, _, h2, h3⟩ := h.at_ hsl
      simp only [Option.some.injEq, Addr.mk.injEq, and_true] at hae
      obtain ⟨rfl, rfl⟩ := hae
      have hrl := hO.rows _ (List.getElem_mem hsl)
      rw [hrl] at h2 h3
      obtain ⟨rb, ro, hre, _, _⟩ := FB_slat h3 (i := 0) (by omega)
      subst hre
      refine ⟨(rb, ro, rc), fun _ => ⟨h2, fun t ht => ?_⟩⟩
      obtain ⟨rb', ro', hre, _, h4⟩ := FB_slat h3 (i := t) (by omega)
      simp only [Option.some.injEq, Addr.mk.injEq, and_true] at hre
      obtain ⟨rfl, rfl⟩ := hre
      obtain ⟨_, _, e⟩ := hO.at_ hs ht
      rw [e]; exact h4
    · exact ⟨(0, 0, 0), fun h => absurd h hs⟩
  refine ⟨bb, off, c, fun s => (Classical.choose (key s)).1, fun s => (Classical.choose (key s)).2.1, fun s => (Classical.choose (key s)).2.2, by rw [hlen], by omega, hm, ?_, ?_⟩
  · intro s hs; exact (Classical.choose_spec (key s) hs).1
  · intro s t hs ht; exact (Classical.choose_spec (key s) hs).2 t ht
namespace FRow
variable {α : Type} {G : FRow α}
/-- rows that lie apart -/
def OwnD (G : FRow α) (w : World) (base : Nat) (v : Value) (xss : List (List α)) : Prop :=
  ∃ us, G.R.Own w base v us ∧ PairR (G.F.Own w base) us xss ∧ ∀ (i j : Nat) (ui uj : CellV) (g : Nat), us[i]? = some ui → us[j]? = some uj → ui.1.ownBlock = some g → uj.1.ownBlock = some g → i = j
theorem OwnD.own {w : World} {base : Nat} {v : Value} {ms : List (List α)} (h : G.OwnD w base v ms) : G.Own w base v ms := by
  obtain ⟨us, h1, h2, _⟩ := h; exact ⟨us, h1, h2⟩
theorem OwnD.below {w w' : World} {base : Nat} {v : Value} {ms : List (List α)} (h : G.OwnD w base v ms) (hb : Below w.heap.size w w') : G.OwnD w' base v ms := by
  obtain ⟨us, h1, h2, h3⟩ := h
  exact ⟨us, h1.below hb, h2.imp (fun v xs h => h.below hb), h3⟩
theorem OwnD.lower {w : World} {base base' : Nat} {v : Value} {ms : List (List α)} (h : G.OwnD w base v ms) (hb : base' ≤ base) : G.OwnD w base' v ms := by
  obtain ⟨us, h1, h2, h3⟩ := h
  exact ⟨us, h1.lower hb, h2.imp (fun v xs h => h.lower hb), h3⟩
theorem OwnD.empty (w : World) {base : Nat} (hb : base ≤ w.heap.size) : G.OwnD (w.alloc (.cells #[] G.R.E)) base (.slice (some ⟨w.heap.size, 0, none⟩) 0 0) [] :=
  ⟨[], Flat.Own.empty w hb, ⟨rfl, by intro i u m h; simp at h⟩, by intro i j ui uj g h; simp at h⟩
theorem OwnD.form {w : World} {base : Nat} {v : Value} {ms : List (List α)} (h : G.OwnD w base v ms) : ∃ ad c, v = .slice ad ms.length c ∧ ms.length ≤ c ∧ c ≤ maxLen := h.own.sl.form
theorem appendD {ops : Array Oper} {rest : List Oper} {o : Oper} {a : Act} {Q : Exit → Act → World → Prop} (G : FRow α) (w0 w : World) (s x : Operand) (hg : o.guard = none)
    (ho : o.op = .call { callee := .builtin .append, args := #[s, x], argTypes := #[G.R.T, G.R.T] })
    {base : Nat} {v u : Value} {ms : List (List α)} {xs : List α} (hs : a.eval s = v) (hown0 : G.OwnD w0 base v ms) (hb : Below w0.heap.size w0 w) (hu : G.F.Own w w0.heap.size u xs) {t : Nat} (hx : a.eval x = .slice (some ⟨w.heap.size, 0, none⟩) 1 1)
    (hlen : ms.length < 16777216) (hbase : base ≤ w0.heap.size)
    (h : ∀ v' w', G.OwnD w' base v' (ms ++ [xs]) → Below base (w.alloc (.cells #[u] t)) w' → wpList Try.prog ops Q rest (a.put o.dst v') w') : wpList Try.prog ops Q (o :: rest) a (w.alloc (.cells #[u] t)) := by
  obtain ⟨us, h1, h2, hd⟩ := hown0
  have hlt0 : ∀ (i : Nat) (ui : CellV) (g : Nat), us[i]? = some ui → ui.1.ownBlock = some g → g < w0.heap.size := by
    intro i ui g hi hg
    have hil : i < us.length := (List.getElem?_eq_some_iff.1 hi).1
    have := (h2.2 i ui (ms[i]'(by rw [← h2.1]; exact hil)) hi (List.getElem?_eq_getElem (by rw [← h2.1]; exact hil)))
    exact (this.lt g hg).2
  have h1' := h1.below hb
  have h2' := h2.imp (fun v xs h => h.below hb)
  have bx : Below w.heap.size w (w.alloc (.cells #[u] t)) := (Below.refl _ _).alloc (Nat.le_refl _) _
  have h1A := h1'.below bx
  have huA := (hu.lower hbase).below bx
  obtain ⟨c, hc⟩ : ∃ c : CellV, c.1 = u := ⟨⟨u, hu.one⟩, rfl⟩
  refine Flat.append G.R _ s x hg ho (ys := [c]) hs h1A hx (by
    have := rd_new w #[u] t
    have e : G.R.encs [c] = [u] := by
      unfold Flat.encs
      rw [G.enc]
      show [c.1] ++ [] = [u]
      rw [hc]; rfl
    rw [e]; exact this) (by rw [h2.1]; simp; omega) (by have := hb.size; simp; omega) (fun v' w' k1 k2 k3 => ?_)
  have key : ∀ (v0 : Value) (zs : List α), G.F.Own (w.alloc (.cells #[u] t)) base v0 zs → G.F.Own w' base v0 zs := fun v0 zs ho => flat_kept ho k2 (by
    cases hb : v0.ownBlock with
    | none => exact .inl rfl
    | some g => exact .inr (Ne.symm (flat_apart G.ne ho h1A hb)))
  have hul := h2.1
  refine h v' w' ⟨_, k1, ⟨by simp [h2.1], fun i u0 m hi hm => ?_⟩, ?_⟩ k3
  · by_cases hlt : i < us.length
    · rw [List.getElem?_append_left hlt] at hi
      rw [List.getElem?_append_left (by rw [← h2.1]; exact hlt)] at hm
      exact key _ _ ((h2'.2 i u0 m hi hm).below bx)
    · rw [List.getElem?_append_right (by omega)] at hi hm
      have h0 : i - us.length = 0 := by
        rcases Nat.eq_zero_or_pos (i - us.length) with e | e
        · exact e
        · rw [List.getElem?_eq_none (by simp; omega)] at hi; simp at hi
      rw [h0] at hi
      rw [← h2.1, h0] at hm
      simp at hi hm
      subst hi hm
      rw [hc]
      exact key _ _ huA
  · have last : ∀ (i : Nat) (ui : CellV), (us ++ [c])[i]? = some ui → i < us.length ∧ us[i]? = some ui ∨ i = us.length ∧ ui = c := by
      intro i ui hi
      by_cases hlt : i < us.length
      · rw [List.getElem?_append_left hlt] at hi; exact .inl ⟨hlt, hi⟩
      · rw [List.getElem?_append_right (by omega)] at hi
        have h0 : i - us.length = 0 := by
          rcases Nat.eq_zero_or_pos (i - us.length) with e | e
          · exact e
          · rw [List.getElem?_eq_none (by simp; omega)] at hi; simp at hi
        rw [h0] at hi
        simp at hi
        exact .inr ⟨by omega, hi.symm⟩
    have hug : ∀ g, u.ownBlock = some g → w0.heap.size ≤ g := fun g hg => (hu.lt g hg).1
    intro i j ui uj g hi hj gi gj
    rcases last i ui hi with ⟨_, a1⟩ | ⟨a1, a2⟩ <;> rcases last j uj hj with ⟨_, b1⟩ | ⟨b1, b2⟩
    · exact hd i j ui uj g a1 b1 gi gj
    · subst b2
      rw [hc] at gj
      have e1 := hlt0 i ui g a1 gi
      have e2 := hug g gj
      omega
    · subst a2
      rw [hc] at gi
      have e1 := hlt0 j uj g b1 gj
      have e2 := hug g gi
      omega
    · omega
end FRow
theorem append_bool {ops : Array Oper} {rest : List Oper} {o : Oper} {a : Act} {Q : Exit → Act → World → Prop} (w : World) (y : Bool) (s x : Operand) (hg : o.guard = none)
    (ho : o.op = .call { callee := .builtin .append, args := #[s, x], argTypes := #[44, 44] })
    {base : Nat} {v : Value} {xs : List Bool} (hs : a.eval s = v) (hown : FB.Own w base v xs) {t g0 : Nat} (hg0 : w.heap.size = g0) (hx : a.eval x = .slice (some ⟨g0, 0, none⟩) 1 1)
    (hlen : xs.length < 16777216) (hbase : base ≤ w.heap.size)
    (h : ∀ v' w', FB.Own w' base v' (xs ++ [y]) → Below base (w.alloc (.cells #[.bool y] t)) w' → wpList Try.prog ops Q rest (a.put o.dst v') w') : wpList Try.prog ops Q (o :: rest) a (w.alloc (.cells #[.bool y] t)) := by
  subst hg0
  have bx : Below w.heap.size w (w.alloc (.cells #[.bool y] t)) := (Below.refl _ _).alloc (Nat.le_refl _) _
  refine Flat.append FB _ s x hg ho (ys := [y]) hs (hown.below bx) hx (rd_new w #[.bool y] t) (by simp; omega) (by simp; omega) (fun v' w' k1 k2 k3 => ?_)
  exact h v' w' k1 k3
theorem FB_form {w : World} {base : Nat} {v : Value} {xs : List Bool} (h : FB.Own w base v xs) : ∃ a n c, v = .slice a n c ∧ Hid (n = xs.length) := by
  obtain ⟨a, c, rfl, _⟩ := h.sl
  exact ⟨a, _, c, rfl, rfl⟩
/-! the order of numbers -/
def lrow (s j : Nat) : List Bool := (List.range j).map fun t => decide (s ≤ t)
theorem lrow_succ (s j : Nat) : lrow s (j + 1) = lrow s j ++ [decide (s ≤ j)] := by unfold lrow; rw [List.range_succ, List.map_append]; rfl
theorem lrow_len (s j : Nat) : (lrow s j).length = j := by simp [lrow]
def linP (n k : Nat) : List (List Bool) := (List.range k).map fun s => lrow s n
theorem linP_succ (n k : Nat) : linP n (k + 1) = linP n k ++ [lrow k n] := by unfold linP; rw [List.range_succ, List.map_append]; rfl
theorem linP_len (n k : Nat) : (linP n k).length = k := by simp [linP]
theorem linP_all (n : Nat) : linP n n = lineB n := rfl

set_option maxRecDepth 100000 in
set_option maxHeartbeats 4000000 in
theorem ImplLineOrder_any (n : Nat) (w : World) (h1 : 1 ≤ n) (h6 : n ≤ 6) :
    Calls Try.prog 8 #[.int .i64 n] w fun e w' => ∃ r, e = .returned (.tuple #[r, .int .i64 0]) ∧ GB.OwnD w' w.heap.size r (lineB n) ∧ Below w.heap.size w w' := by
  have E0 := Lib.hid (FRow.OwnD.empty (G := GB) w (base := w.heap.size) (Nat.le_refl _))
  have B0 := Lib.hid ((Below.refl w.heap.size w).alloc (Nat.le_refl _) (.cells #[] 44))
  have hq1 := inR_ok (x := (n : Int)) (a := 1) (b := 6) (by omega)
  go_enter Try.func8, Try.ntmps8
  go_wp2_with fail
  refine (inRange_any (n : Int) 1 6 w).mono ?_
  rintro e w1 ⟨rfl, rfl⟩
  rw [hq1]
  go_wp2
  go_loopw [4, 13] (fun ov iv wr => ∃ k : Nat, k ≤ n ∧ iv = .int .i64 k ∧ GB.OwnD wr w.heap.size ov (linP n k) ∧ Below w.heap.size w wr) (fun _ iv _ => n - (intOf iv).toNat)
  case atStart => exact ⟨0, Nat.zero_le _, rfl, E0.out, B0.out⟩
  case round =>
    clear E0 B0
    obtain ⟨k, hk, rfl, hown, hbw⟩ := hrel
    obtain ⟨wo, hwo⟩ : ∃ wo : World, wo = wr := ⟨_, rfl⟩
    subst hwo
    have HO := Lib.hid hown
    have HBW := Lib.hid hbw
    have HLP := Lib.hid (linP_len n k)
    obtain ⟨oa, oc, rfl, _⟩ := hown.form
    clear hown
    by_cases hlt : k < n
    · have i1 : (k : Int) < (n : Int) := by omega
      have R0 := Lib.hid (Flat.Own.empty (F := FB) wo (base := wo.heap.size) (Nat.le_refl _))
      have BR := Lib.hid ((Below.refl wo.heap.size wo).alloc (Nat.le_refl _) (.cells #[] 4))
      have hz0 := hbw.size
      clear hbw
      go_wp2
      go_loopw [6, 18] (fun rv jv wi => ∃ j : Nat, j ≤ n ∧ jv = .int .i64 j ∧ FB.Own wi wo.heap.size rv (lrow k j) ∧ Below wo.heap.size wo wi) (fun _ jv _ => n - (intOf jv).toNat)
      case atStart => exact ⟨0, Nat.zero_le _, rfl, R0.out, BR.out⟩
      case round =>
        clear R0 BR
        obtain ⟨j, hj, rfl, hrow, hbi⟩ := hrel
        have HBI := Lib.hid hbi
        have hz := hbi.size
        by_cases hjn : j < n
        · have i2 : (j : Int) < (n : Int) := by omega
          have HS := Lib.hid (lrow_succ k j)
          have hl := lrow_len k j
          have hln : (lrow k j).length < 16777216 := by omega
          clear hbi hl
          go_wp2_with (at_builtin; refine append_bool _ _ _ _ rfl rfl rfl hrow rfl rfl hln hz ?_)
          intro v7 w7 o7 b7
          have o7 : FB.Own w7 wo.heap.size v7 (lrow k (j + 1)) := by rw [HS.out]; simpa using o7
          have B7 := Lib.hid ((HBI.out.alloc hz _).trans b7)
          clear b7 hrow
          go_wp2
          go_roundw
          case rel => exact ⟨j + 1, by omega, by go_num, o7, B7.out⟩
          case measure => simp [intOf]; omega
        · obtain rfl : j = n := by omega
          have HS1 := Lib.hid (linP_succ j k)
          have hln : (linP j k).length < 16777216 := by have := HLP.out; omega
          have ho := HO.out
          have hb := HBI.out
          obtain ⟨ra, rn, rc, rfl, hrn⟩ := FB_form hrow
          clear hrn
          go_wp2_with (at_builtin; refine FRow.appendD GB wo wr _ _ rfl rfl rfl ho hb hrow rfl hln hz0 ?_)
          intro v7 w7 o7 b7
          rw [← HS1.out] at o7
          have B7 := Lib.hid (((HBW.out.trans (HBI.out.mono HBW.out.size)).alloc (Nat.le_trans HBW.out.size hz) _).trans b7)
          clear b7 ho hb hrow
          go_wp2
          go_roundw
          case rel => exact ⟨k + 1, by omega, by go_num, o7, B7.out⟩
          case measure => simp [intOf]; omega
    · obtain rfl : k = n := by omega
      go_wp2
      go_ret2
      exact ⟨_, rfl, HO.out, HBW.out⟩

set_option maxRecDepth 100000 in
set_option maxHeartbeats 4000000 in
theorem l05Line_any (n : Nat) (w : World) (h1 : 1 ≤ n) (h6 : n ≤ 6) :
    Calls Try.prog 41 #[.int .i64 n] w fun e w' => ∃ r, e = .returned r ∧ GB.OwnD w' w.heap.size r (lineB n) ∧ Below w.heap.size w w' := by
  have E0 := Lib.hid (FRow.OwnD.empty (G := GB) w (base := w.heap.size) (Nat.le_refl _))
  have B0 := Lib.hid ((Below.refl w.heap.size w).alloc (Nat.le_refl _) (.cells #[] 44))
  go_enter Try.func41, Try.ntmps41
  go_wp2
  go_loopw [3, 4] (fun ov iv wr => ∃ k : Nat, k ≤ n ∧ iv = .int .i64 k ∧ GB.OwnD wr w.heap.size ov (linP n k) ∧ Below w.heap.size w wr) (fun _ iv _ => n - (intOf iv).toNat)
  case atStart => exact ⟨0, Nat.zero_le _, rfl, E0.out, B0.out⟩
  case round =>
    clear E0 B0
    obtain ⟨k, hk, rfl, hown, hbw⟩ := hrel
    obtain ⟨wo, hwo⟩ : ∃ wo : World, wo = wr := ⟨_, rfl⟩
    subst hwo
    have HO := Lib.hid hown
    have HBW := Lib.hid hbw
    have HLP := Lib.hid (linP_len n k)
    obtain ⟨oa, oc, rfl, _⟩ := hown.form
    clear hown
    by_cases hlt : k < n
    · have i1 : (k : Int) < (n : Int) := by omega
      have R0 := Lib.hid (Flat.Own.empty (F := FB) wo (base := wo.heap.size) (Nat.le_refl _))
      have BR := Lib.hid ((Below.refl wo.heap.size wo).alloc (Nat.le_refl _) (.cells #[] 4))
      have hz0 := hbw.size
      clear hbw
      go_wp2
      go_loopw [5, 6] (fun rv jv wi => ∃ j : Nat, j ≤ n ∧ jv = .int .i64 j ∧ FB.Own wi wo.heap.size rv (lrow k j) ∧ Below wo.heap.size wo wi) (fun _ jv _ => n - (intOf jv).toNat)
      case atStart => exact ⟨0, Nat.zero_le _, rfl, R0.out, BR.out⟩
      case round =>
        clear R0 BR
        obtain ⟨j, hj, rfl, hrow, hbi⟩ := hrel
        have HBI := Lib.hid hbi
        have hz := hbi.size
        by_cases hjn : j < n
        · have i2 : (j : Int) < (n : Int) := by omega
          have HS := Lib.hid (lrow_succ k j)
          have hl := lrow_len k j
          have hln : (lrow k j).length < 16777216 := by omega
          clear hbi hl
          go_wp2_with (at_builtin; refine append_bool _ _ _ _ rfl rfl rfl hrow rfl rfl hln hz ?_)
          intro v7 w7 o7 b7
          have o7 : FB.Own w7 wo.heap.size v7 (lrow k (j + 1)) := by rw [HS.out]; simpa using o7
          have B7 := Lib.hid ((HBI.out.alloc hz _).trans b7)
          clear b7 hrow
          go_wp2
          go_roundw
          case rel => exact ⟨j + 1, by omega, by go_num, o7, B7.out⟩
          case measure => simp [intOf]; omega
        · obtain rfl : j = n := by omega
          have HS1 := Lib.hid (linP_succ j k)
          have hln : (linP j k).length < 16777216 := by have := HLP.out; omega
          have ho := HO.out
          have hb := HBI.out
          obtain ⟨ra, rn, rc, rfl, hrn⟩ := FB_form hrow
          clear hrn
          go_wp2_with (at_builtin; refine FRow.appendD GB wo wr _ _ rfl rfl rfl ho hb hrow rfl hln hz0 ?_)
          intro v7 w7 o7 b7
          rw [← HS1.out] at o7
          have B7 := Lib.hid (((HBW.out.trans (HBI.out.mono HBW.out.size)).alloc (Nat.le_trans HBW.out.size hz) _).trans b7)
          clear b7 ho hb hrow
          go_wp2
          go_roundw
          case rel => exact ⟨k + 1, by omega, by go_num, o7, B7.out⟩
          case measure => simp [intOf]; omega
    · obtain rfl : k = n := by omega
      go_wp2
      go_ret
      exact ⟨_, rfl, HO.out, HBW.out⟩

theorem SpecLineOrder_any (n : Nat) (w : World) (h1 : 1 ≤ n) (h6 : n ≤ 6) :
    Calls Try.prog 9 #[.int .i64 n] w fun e w' => ∃ r, e = .returned (.tuple #[r, .int .i64 0]) ∧ GB.OwnD w' w.heap.size r (lineB n) ∧ Below w.heap.size w w' := by
  have hq1 := inR_ok (x := (n : Int)) (a := 1) (b := 6) (by omega)
  go_enter Try.func9, Try.ntmps9
  go_wp2_with fail
  refine (l00In_any (n : Int) 1 6 w).mono ?_
  rintro e w1 ⟨rfl, rfl⟩
  rw [hq1]
  go_wp2_with fail
  refine (l05Line_any n w h1 h6).mono ?_
  rintro e w2 ⟨r, rfl, o2, b2⟩
  obtain ⟨ra, rc, rfl, _⟩ := o2.form
  have O2 := Lib.hid o2
  have B2 := Lib.hid b2
  clear o2 b2
  go_wp2
  go_ret2
  exact ⟨_, rfl, O2.out, B2.out⟩
end Go.Proofs.Ytceobhmbnkheiaa
