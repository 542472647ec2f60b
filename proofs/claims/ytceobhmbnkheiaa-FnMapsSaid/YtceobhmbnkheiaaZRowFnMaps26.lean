/-
  Tidy maps: the program's walk.
-/
import Derived.Test.YtceobhmbnkheiaaZRowFnMaps24
import Derived.Test.YtceobhmbnkheiaaZRowFnMaps19
import Derived.Test.YtceobhmbnkheiaaZRowFnMaps7
import Derived.Test.YtceobhmbnkheiaaZRowFnMaps1
set_option linter.unusedVariables false
set_option linter.unusedSimpArgs false
namespace Go.Proofs.Ytceobhmbnkheiaa
open Go.RowKit Go.Sort
/-- where a map stands among others, or -1 -/
def ixM (tl : List Int) : List (Int × List Int) → Nat → Int
  | [], _ => -1
  | m :: r, k => if m.2 = tl then (k : Int) else ixM tl r (k + 1)
theorem ixM_step {tl : List Int} {ms : List (Int × List Int)} {k : Nat} (h : k < ms.length) : ixM tl (ms.drop k) k = if ms[k].2 = tl then (k : Int) else ixM tl (ms.drop (k + 1)) (k + 1) := by
  rw [List.drop_eq_getElem_cons h]; rfl
theorem ixM_spec (tl : List Int) : ∀ (ms : List (Int × List Int)) (k : Nat), (ixM tl ms k = -1 ∧ ∀ w, addTo ms w tl = ms ++ [(w, tl)]) ∨ ∃ (i : Nat) (h : i < ms.length), ixM tl ms k = ((k + i : Nat) : Int) ∧ ms[i].2 = tl ∧ ∀ w, addTo ms w tl = ms.set i (ms[i].1 + w, ms[i].2)
  | [], k => .inl ⟨rfl, fun _ => rfl⟩
  | m :: r, k => by
    by_cases h : m.2 = tl
    · refine .inr ⟨0, by simp, by simp [ixM, h], h, fun w => ?_⟩
      simp [addTo, h]
    · rcases ixM_spec tl r (k + 1) with ⟨h1, h2⟩ | ⟨i, hi, h1, h2, h3⟩
      · refine .inl ⟨by simp [ixM, h, h1], fun w => ?_⟩
        simp [addTo, h, h2]
      · refine .inr ⟨i + 1, by simp; omega, ?_, by simpa using h2, fun w => ?_⟩
        · simp only [ixM, if_neg h, h1]; congr 1; omega
        · simp [addTo, h, h3]
theorem tidy_len {ms : List (Int × List Int)} : ∀ i, i ≤ ms.length → (tidyM (ms.take i)).length ≤ i
  | 0, _ => by simp [tidyM]
  | i + 1, h => by
    rw [tidy_step (by omega)]
    have h1 := tidy_len (ms := ms) i (by omega)
    have h2 := (addTo_len ms[i].1 ms[i].2 (tidyM (ms.take i))).1
    omega

theorem FM_encs_set : ∀ (us : List (Int × RowV)) (i : Nat) (h : i < us.length) (x : Int), (FM.encs us).set (i * 2) (.int .i64 x) = FM.encs (us.set i (x, us[i].2))
  | u :: r, 0, _, x => rfl
  | u :: r, i + 1, h, x => by
    have h' : i < r.length := by simp at h; omega
    rw [List.set_cons_succ, Flat.encs_cons, Flat.encs_cons]
    have e := FM_encs_set r i h' x
    show ((encM u) ++ FM.encs r).set ((i + 1) * 2) _ = encM u ++ FM.encs (r.set i (x, r[i].2))
    rw [← e, List.set_append_right _ _ (by show 2 ≤ _; omega)]
    congr 2
    show (i + 1) * 2 - 2 = i * 2
    omega
theorem OwnM.setW {w : World} {base g n c : Nat} {ms : List (Int × List Int)} {i : Nat} (h : OwnM w base (.slice (some ⟨g, 0, none⟩) n c) ms) (hi : i < ms.length) (x : Int) :
    OwnM (w.setCell ⟨g, i * 2, none⟩ (.int .i64 x)) base (.slice (some ⟨g, 0, none⟩) n c) (ms.set i (x, ms[i].2)) := by
  obtain ⟨us, h1, h2⟩ := h
  have hui : i < us.length := by rw [h2.1]; exact hi
  have hn : n = us.length := h1.len_of
  subst hn
  obtain ⟨k1, k2⟩ := World.ownsRow.stored h1 (i * 2) (.int .i64 x)
  rw [FM_encs_set us i hui x] at k1
  refine ⟨us.set i (x, us[i].2), by unfold Flat.Own; rw [List.length_set]; exact k1, by simp [h2.1], fun j u m hu hm => ?_⟩
  have key : ∀ v0 zs, OwnI w base v0 zs → OwnI (w.setCell ⟨g, i * 2, none⟩ (.int .i64 x)) base v0 zs := fun v0 zs ho => ho.kept k2 (by
    cases hb : v0.ownBlock with
    | none => exact .inl rfl
    | some b =>
      have := ho.apartM h1 hb
      exact .inr (by rw [Ne, Option.some.injEq]; intro e; subst e; exact this rfl))
  by_cases e : i = j
  · subst e
    rw [List.getElem?_set_self (by exact hui)] at hu
    rw [List.getElem?_set_self (by exact hi)] at hm
    simp only [Option.some.injEq] at hu hm
    subst hu hm
    exact ⟨rfl, key _ _ (h2.2 i us[i] ms[i] (List.getElem?_eq_getElem hui) (List.getElem?_eq_getElem hi)).2⟩
  · rw [List.getElem?_set_ne e] at hu hm
    obtain ⟨a1, a2⟩ := h2.2 j u m hu hm
    exact ⟨a1, key _ _ a2⟩
theorem OwnM.cellW {w : World} {base g n c : Nat} {ms : List (Int × List Int)} {i : Nat} (h : OwnM w base (.slice (some ⟨g, 0, none⟩) n c) ms) (hi : i < ms.length) :
    w.cell? ⟨g, i * 2, none⟩ = some (.int .i64 ms[i].1) ∧ w.frozen? ⟨g, i * 2, none⟩ = false := by
  obtain ⟨us, h1, h2⟩ := h
  have hui : i < us.length := by rw [h2.1]; exact hi
  have k := h1.cell (i := i) (j := 0) hui (by decide)
  have e := (h2.2 i us[i] ms[i] (List.getElem?_eq_getElem hui) (List.getElem?_eq_getElem hi)).1
  refine ⟨?_, h1.free _⟩
  rw [← e]
  exact k

set_option maxHeartbeats 1000000 in
theorem tidyClo_any {ra : Option Addr} {rc : Nat} {yv : Value} {tl ys : List Int} (g : Nat) (z : Int) (w : World) (hg : w.cell? ⟨g, 1, none⟩ = some (.slice ra tl.length rc)) (sx : SlI w (.slice ra tl.length rc) tl) (sy : SlI w yv ys) :
    Calls Try.prog 64 #[.agg #[.int .i64 z, yv], .pointer (some ⟨g, 0, none⟩)] w fun e w' => e = .returned (.bool (decide (tl = ys))) ∧ Below w.heap.size w w' := by
  have ba := (Below.refl w.heap.size w).alloc (Nat.le_refl _) (.cells #[.int .i64 z, yv] 43)
  have SX := Lib.hid (sx.below ba)
  have SY := Lib.hid (sy.below ba)
  have BA := Lib.hid ba
  obtain ⟨ya, yc, rfl, _, _, _⟩ := sy
  have hgl := cell_lt hg
  clear sx ba
  go_enter Try.func64, Try.ntmps64
  go_wp2_with fail
  refine (Equal_any _ SX.out SY.out).mono ?_
  rintro e w2 ⟨he, b2⟩
  have B2 := Lib.hid (BA.out.trans (b2.mono BA.out.size))
  generalize hD : decide (tl = ys) = D at he
  have HD := Lib.hid hD
  subst he
  clear b2 hD
  go_wp2
  go_ret
  exact ⟨by rw [HD.out]; rfl, B2.out⟩

set_option maxHeartbeats 1000000 in
theorem IndexFuncTidy_any {u : Value} {ms : List (Int × List Int)} (cap0 : Value) (tl : List Int) (w : World) (ha : SlM w u ms)
    (hf : ∀ (W : World) (z : Int) (yv : Value) (ys : List Int), Below w.heap.size w W → SlI W yv ys → Calls Try.prog 64 #[.agg #[.int .i64 z, yv], cap0] W fun e w' => e = .returned (.bool (decide (tl = ys))) ∧ Below W.heap.size W w') :
    Calls Try.prog 63 #[u, .func (.func 64) #[] #[cap0]] w fun e w' => e = .returned (.int .i64 (ixM tl ms 0)) ∧ Below w.heap.size w w' := by
  have HA := Lib.hid (fun W (h : Below w.heap.size w W) => ha.below h)
  obtain ⟨a, ca, rfl, hca, hca2⟩ := ha.form
  unfold maxLen at hca2
  have HF := Lib.hid hf
  clear hf ha
  go_enter Try.func63, Try.ntmps63
  go_wp2
  go_loopw [5, 8] (fun _ i wr => ∃ k : Nat, k ≤ ms.length ∧ i = .int .i64 k ∧ Hid (ixM tl ms 0 = ixM tl (ms.drop k) k) ∧ Below w.heap.size w wr) (fun _ i _ => ms.length - (intOf i).toNat)
  case atStart => exact ⟨0, Nat.zero_le _, rfl, rfl, Below.refl _ _⟩
  case round =>
    obtain ⟨k, hk, rfl, hno, hbw⟩ := hrel
    have HBW := Lib.hid hbw
    by_cases hlt : k < ms.length
    · obtain ⟨mb, mo, ra, rca, wt, ys, hae, hmb, hwt, hys, gm1, gm2, sm⟩ := (HA.out _ hbw).atJ2 hlt
      subst hae
      have SM := Lib.hid sm
      have i1 : (k : Int) < (ms.length : Int) := by omega
      have i0 : (0 : Int) ≤ (k : Int) := by omega
      have hst := ixM_step (tl := tl) hlt
      rw [← hys] at hst
      have HS := Lib.hid hst
      have CL := Lib.hid (HF.out _ wt _ ys hbw sm)
      clear hst hys hwt sm hbw
      by_cases e : tl = ys
      · have HE := Lib.hid (show decide (tl = ys) = true by simp [e])
        have HE2 := Lib.hid (show ys = tl from e.symm)
        clear e
        go_wp2_with fail
        refine CL.out.mono ?_
        rintro e w2 ⟨he, b2⟩
        rw [HE.out] at he
        subst he
        have B2 := Lib.hid (HBW.out.trans (b2.mono HBW.out.size))
        clear b2
        go_wp2
        go_ret
        exact ⟨ri (by rw [hno.out, HS.out, if_pos HE2.out]), B2.out⟩
      · have HE := Lib.hid (show decide (tl = ys) = false by simp [e])
        have HE2 := Lib.hid (show ¬ ys = tl from fun h => e h.symm)
        clear e
        go_wp2_with fail
        refine CL.out.mono ?_
        rintro e w2 ⟨he, b2⟩
        rw [HE.out] at he
        subst he
        have B2 := Lib.hid (HBW.out.trans (b2.mono HBW.out.size))
        clear b2
        go_wp2
        go_roundw
        case rel => exact ⟨k + 1, by omega, by go_num, Lib.hid (by rw [hno.out, HS.out, if_neg HE2.out]), B2.out⟩
        case measure => simp [intOf]; omega
    · obtain rfl : k = ms.length := by omega
      go_wp2
      go_ret
      exact ⟨ri (by rw [hno.out]; simp [ixM]), HBW.out⟩
theorem le_sumM : ∀ {l : List (Int × List Int)}, (∀ m ∈ l, 0 ≤ m.1) → ∀ m ∈ l, m.1 ≤ sumM l
  | a :: l, h, m, hm => by
    have h1 : 0 ≤ sumM l := list_sum_nonneg (fun x hx => by
      rw [List.mem_map] at hx
      obtain ⟨y, hy, rfl⟩ := hx
      exact h y (by simp [hy]))
    have h2 := h a (by simp)
    have h3 : sumM (a :: l) = a.1 + sumM l := by simp [sumM]
    rw [List.mem_cons] at hm
    rcases hm with rfl | hm
    · omega
    · have := le_sumM (l := l) (fun y hy => h y (by simp [hy])) m hm
      omega
theorem tidy_wt {n t : Int} {ms : List (Int × List Int)} (h : mapsOk n t ms) {i : Nat} (hi : i ≤ ms.length) : ∀ m ∈ tidyM (ms.take i), 0 ≤ m.1 ∧ m.1 ≤ 60 := by
  obtain ⟨_, h2, _, _, h5⟩ := tidy_pre h i hi
  intro m hm
  have h6 := le_sumM (fun x hx => by have := (h5 x hx).1; omega) m hm
  have h7 := (h.sums hi).2
  have h8 : sumM (ms.take i) = sumW ms i := rfl
  obtain ⟨_, ⟨_, ht⟩, _⟩ := h
  have := (h5 m hm).1
  omega

theorem OwnM.some {w : World} {base : Nat} {v : Value} {ms : List (Int × List Int)} (h : OwnM w base v ms) (hn : 0 < ms.length) : ∃ g c, v = .slice (.some ⟨g, 0, none⟩) ms.length c ∧ base ≤ g ∧ g < w.heap.size := by
  obtain ⟨us, h1, h2⟩ := h
  rcases h1.forms with ⟨rfl, h0⟩ | ⟨g, c, rfl, hg, hg1, _⟩
  · have := h2.1; rw [h0] at this; simp at this; omega
  · exact ⟨g, c, by rw [← h2.1], hg, hg1⟩

set_option maxRecDepth 100000 in
set_option maxHeartbeats 8000000 in
theorem ImplTidyMaps_any {v : Value} {ms : List (Int × List Int)} (n T : Nat) (w : World) (ha : SlM w v ms) (hv : mapsOk n T ms) :
    Calls Try.prog 21 #[.agg #[.int .i64 n, .int .i64 T, v]] w fun e w' => ∃ r, e = .returned (.tuple #[.agg #[.int .i64 n, .int .i64 T, r], .int .i64 0]) ∧ OwnM w' w.heap.size r (tidyM ms) ∧ Below w.heap.size w w' := by
  have HA := Lib.hid (fun W (h : Below w.heap.size w W) => ha.below h)
  obtain ⟨a, ca, rfl, hca, hca2⟩ := ha.form
  unfold maxLen at hca2
  have HV := Lib.hid hv
  obtain ⟨⟨hn1, hn6⟩, ⟨ht1, ht60⟩, ⟨hl1, hl60⟩, hrow, _⟩ := id hv
  have HROW := Lib.hid hrow
  obtain ⟨W1, hW1⟩ : ∃ W1, W1 = w.alloc (.cells #[.int .i64 n, .int .i64 T, .slice a ms.length ca] 26) := ⟨_, rfl⟩
  obtain ⟨W2, hW2⟩ : ∃ W2, W2 = W1.alloc (.cells #[.int .i64 0, .int .i64 0, .slice none 0 0] 26) := ⟨_, rfl⟩
  have z1 : W1.heap.size = w.heap.size + 1 := by rw [hW1]; simp
  have z2 : W2.heap.size = w.heap.size + 1 + 1 := by rw [hW2]; simp [z1]
  have b1 : Below w.heap.size w W1 := by rw [hW1]; exact (Below.refl _ _).alloc (Nat.le_refl _) _
  have b2 : Below W1.heap.size W1 W2 := by rw [hW2]; exact (Below.refl _ _).alloc (Nat.le_refl _) _
  have X := Lib.hid (show MpAt W2 w.heap.size n T (.slice a ms.length ca) from (show MpAt W1 w.heap.size n T (.slice a ms.length ca) by rw [hW1]; exact MpAt.new w n T _).below b2)
  have R := Lib.hid (show Box3 W2 (w.heap.size + 1) 0 0 (.slice none 0 0) by rw [hW2, ← z1]; exact Box3.newM W1 0 0 _)
  have BA := Lib.hid (b1.trans (b2.mono b1.size))
  have HW1 := Lib.hid hW1.symm
  have HW2 := Lib.hid hW2.symm
  have Z2 := Lib.hid z2
  obtain ⟨x0, x1, x2, x3⟩ := X.out
  clear ha hv hW1 hW2 b1 b2 z1 z2 hrow
  go_enter Try.func21, Try.ntmps21
  go_wp2_with fail
  rw [HW1.out, HW2.out]
  refine (ValidMaps_ok _ (HA.out _ BA.out) HV.out).mono ?_
  rintro e w3 ⟨rfl, b3⟩
  have X3 := Lib.hid (fun W (h : Below w3.heap.size w3 W) => (X.out.below b3).below h)
  have B3 := Lib.hid (BA.out.trans (b3.mono BA.out.size))
  have R3 := Lib.hid (R.out.fs (S := fun _ => False) (Fs.of_below b3) (fun h => h))
  have Z3 := Lib.hid (show w.heap.size + 1 + 1 ≤ w3.heap.size by have := b3.size; have := Z2.out; omega)
  clear b3 x0 x1 x2 x3
  obtain ⟨x0, x1, x2, x3⟩ := X3.out _ (Below.refl _ _)
  obtain ⟨W4, hW4⟩ : ∃ W4, W4 = w3.alloc (.cells #[.int .i64 n, .int .i64 T, .slice none 0 0] 26) := ⟨_, rfl⟩
  have b4 : Below w3.heap.size w3 W4 := by rw [hW4]; exact (Below.refl _ _).alloc (Nat.le_refl _) _
  have X4 := Lib.hid (show Box3 W4 w3.heap.size n T (.slice none 0 0) by rw [hW4]; exact Box3.newM w3 n T _)
  have B4 := Lib.hid (B3.out.trans (b4.mono B3.out.size))
  have Z4 := Lib.hid (show W4.heap.size = w3.heap.size + 1 by rw [hW4]; simp)
  have R4 := Lib.hid (R3.out.fs (S := fun _ => False) (Fs.of_below b4) (fun h => h))
  have HX := Lib.hid (fun W (h : Below w3.heap.size W4 W) => X3.out W (b4.trans h))
  have HW4 := Lib.hid hW4.symm
  have B0 := Lib.hid (Below.refl w3.heap.size W4)
  clear b4 hW4
  go_upto_region 4 with (fail)
  rw [HW4.out]
  clear x0 x1 x2 x3
  obtain ⟨x0, x1, x2, x3⟩ := HX.out _ B0.out
  go_wp2
  clear x0 x1 x2 x3
  go_loopw [20] (fun iv wr => ∃ (i : Nat) (v : Value), i ≤ ms.length ∧ iv = .int .i64 i ∧ Box3 wr w3.heap.size n T v ∧ OwnM wr (w3.heap.size + 1) v (tidyM (ms.take i)) ∧ Below w3.heap.size W4 wr) (fun iv _ => ms.length - (intOf iv).toNat)
  case atStart => exact ⟨0, _, Nat.zero_le _, rfl, X4.out, OwnM.nil _ _, B0.out⟩
  case round =>
    clear B0
    obtain ⟨i, v, hi, rfl, hbox, hown, hbw⟩ := hrel
    have HBX := Lib.hid hbox
    have HO := Lib.hid hown
    have HBW := Lib.hid hbw
    have HBw := Lib.hid (B4.out.trans (hbw.mono (by have := Z3.out; omega)))
    have hzr : w3.heap.size + 1 ≤ wr.heap.size := by have := hbw.size; have := Z4.out; omega
    have i0 : (0 : Int) ≤ (i : Int) := by omega
    clear hbw
    by_cases him : i < ms.length
    · have i1 : (i : Int) < (ms.length : Int) := by omega
      obtain ⟨mb, mo, ra, rca, wt, tl, hae, hmb, hwt, htl, gm1, gm2, sm⟩ := (HA.out _ HBw.out).atJ2 him
      subst hae
      have hr := HROW.out _ (List.getElem_mem him)
      have hwb := HV.out.wt him
      have hst := tidy_step him
      rw [← htl, ← hwt] at hr hst
      rw [← hwt] at hwb
      have hdl := tidy_len i hi
      have hdw := tidy_wt HV.out hi
      obtain ⟨wa, hwa⟩ : ∃ wa, wa = wr.alloc (.cells #[.int .i64 wt, .slice ra tl.length rca] 43) := ⟨_, rfl⟩
      have bA : Below wr.heap.size wr wa := by rw [hwa]; exact (Below.refl _ _).alloc (Nat.le_refl _) _
      have CX := Lib.hid (show CellsAt wa wr.heap.size [.int .i64 wt, .slice ra tl.length rca] by rw [hwa]; exact CellsAt.new' _ _ _ rfl)
      have HWA := Lib.hid hwa.symm
      have HST := Lib.hid hst
      have SX := Lib.hid (fun W (h : Below wa.heap.size wa W) => (sm.below bA).below h)
      have OA := Lib.hid (hown.below bA)
      have BXA := Lib.hid (hbox.fs (S := fun _ => False) (Fs.of_below bA) (fun h => h))
      have BAA := Lib.hid (HBW.out.trans (bA.mono (by omega)))
      have hza : wa.heap.size = wr.heap.size + 1 := by rw [hwa]; simp
      have htn : tl.length ≤ 6 := by have := hr.2.1; omega
      generalize tidyM (ms.take i) = D at HO OA HST hdl hdw
      have IX := Lib.hid (IndexFuncTidy_any (.pointer (some ⟨wr.heap.size, 0, none⟩)) tl wa OA.out.sl (fun W z yv ys hW hy => tidyClo_any wr.heap.size z W ((hW.cell (p := ⟨wr.heap.size, 1, none⟩) (by show wr.heap.size < _; omega)).trans (by simpa using CX.out.get 1 _ rfl)) (SX.out _ hW) hy))
      obtain ⟨va, vn, vc, rfl, hvn⟩ := HO.out.formJ
      have c2 := BXA.out.c.get 2 _ rfl
      clear hst hr hwt htl sm bA hwa hown hbox
      go_upto_region 7 with (fail)
      rw [HWA.out]
      go_wp2_with fail
      refine IX.out.mono ?_
      rintro e w6 ⟨he, b6⟩
      have O6 := Lib.hid (OA.out.below b6)
      have BX6 := Lib.hid (BXA.out.fs (S := fun _ => False) (Fs.of_below b6) (fun h => h))
      have B6 := Lib.hid (BAA.out.trans (b6.mono (by omega)))
      have S6 := Lib.hid (fun W (h : Below w6.heap.size w6 W) => SX.out W (b6.trans (h.mono b6.size)))
      have d0 := (b6.cell (p := ⟨wr.heap.size, 0, none⟩) (by show wr.heap.size < _; omega)).trans (show wa.cell? ⟨wr.heap.size, 0, none⟩ = some (.int .i64 wt) by simpa using CX.out.get 0 _ rfl)
      have d1 := (b6.cell (p := ⟨wr.heap.size, 1, none⟩) (by show wr.heap.size < _; omega)).trans (show wa.cell? ⟨wr.heap.size, 1, none⟩ = some (.slice ra tl.length rca) by simpa using CX.out.get 1 _ rfl)
      have e2 := BX6.out.c.get 2 _ rfl
      have hz6 : wr.heap.size + 1 ≤ w6.heap.size := by have := b6.size; omega
      clear IX c2 b6
      rcases ixM_spec tl D 0 with ⟨hix, hadd⟩ | ⟨k, hk, hix, hkt, hadd⟩
      · rw [hix] at he
        subst he
        have HADD := Lib.hid (show tidyM (ms.take (i + 1)) = D ++ [(wt, tl)] by rw [HST.out, hadd])
        clear hix hadd
        have hdl2 : D.length < 16777216 := by omega
        have hz3 : w3.heap.size + 1 ≤ w6.heap.size := by omega
        go_wp2_with fail
        refine wpX_start (fun W => W.cell? ⟨w3.heap.size, 2, none⟩ = some (.slice va vn vc) ∧ W.cell? ⟨wr.heap.size, 0, none⟩ = some (.int .i64 wt) ∧ W.cell? ⟨wr.heap.size, 1, none⟩ = some (.slice ra tl.length rca)) [9, 10, 11] (by kernel_rfl) ?_
        have bd : Below w6.heap.size w6 w6.drew := (Below.refl _ _).drew
        have CC := Lib.hid (fun V (h : Below w6.heap.size w6 V) => show (fun W : World => W.cell? ⟨w3.heap.size, 2, none⟩ = some (.slice va vn vc) ∧ W.cell? ⟨wr.heap.size, 0, none⟩ = some (.int .i64 wt) ∧ W.cell? ⟨wr.heap.size, 1, none⟩ = some (.slice ra tl.length rca)) V from ⟨(h.cell (p := ⟨w3.heap.size, 2, none⟩) (cell_lt e2)).trans e2, (h.cell (p := ⟨wr.heap.size, 0, none⟩) (cell_lt d0)).trans d0, (h.cell (p := ⟨wr.heap.size, 1, none⟩) (cell_lt d1)).trans d1⟩)
        have hC := CC.out _ bd
        clear e2 d0 d1
        refine wpX_free (i := 0) (v := ?_) rfl (by kernel_rfl) (fun _ _ _ h => h) rfl (fun w' => ?_) ?_
        rotate_left
        · go_simp; try with_reducible rfl
        try simp only [Act.put, List.getElem_toArray, List.getElem_cons_zero, List.getElem_cons_succ, List.setIfInBounds_toArray, List.set_cons_zero, List.set_cons_succ]
        refine wpX_load (i := 1) (v := ?_) rfl (by kernel_rfl) (fun _ _ _ h => h) hC rfl (fun w' hw' => ?_) ?_
        rotate_left
        · obtain ⟨k1, k2, k3⟩ := hw'; go_simp; try with_reducible rfl
        try simp only [Act.put, List.getElem_toArray, List.getElem_cons_zero, List.getElem_cons_succ, List.setIfInBounds_toArray, List.set_cons_zero, List.set_cons_succ]
        refine wpX_free (i := 2) (v := ?_) rfl (by kernel_rfl) (fun _ _ _ h => h) rfl (fun w' => ?_) ?_
        rotate_left
        · go_simp; try with_reducible rfl
        try simp only [Act.put, List.getElem_toArray, List.getElem_cons_zero, List.getElem_cons_succ, List.setIfInBounds_toArray, List.set_cons_zero, List.set_cons_succ]
        refine wpX_load (i := 3) (v := ?_) rfl (by kernel_rfl) (fun _ _ _ h => h) hC rfl (fun w' hw' => ?_) ?_
        rotate_left
        · obtain ⟨k1, k2, k3⟩ := hw'; go_simp; try with_reducible rfl
        try simp only [Act.put, List.getElem_toArray, List.getElem_cons_zero, List.getElem_cons_succ, List.setIfInBounds_toArray, List.set_cons_zero, List.set_cons_succ]
        refine wpX_free (i := 4) (v := ?_) rfl (by kernel_rfl) (fun _ _ _ h => h) rfl (fun w' => ?_) ?_
        rotate_left
        · go_simp; try with_reducible rfl
        try simp only [Act.put, List.getElem_toArray, List.getElem_cons_zero, List.getElem_cons_succ, List.setIfInBounds_toArray, List.set_cons_zero, List.set_cons_succ]
        refine wpX_load (i := 5) (v := ?_) rfl (by kernel_rfl) (fun _ _ _ h => h) hC rfl (fun w' hw' => ?_) ?_
        rotate_left
        · obtain ⟨k1, k2, k3⟩ := hw'; go_simp; try with_reducible rfl
        try simp only [Act.put, List.getElem_toArray, List.getElem_cons_zero, List.getElem_cons_succ, List.setIfInBounds_toArray, List.set_cons_zero, List.set_cons_succ]
        refine wpX_one (i := 6) rfl (by kernel_rfl) rfl ?_
        intro K2 hK2
        go_simp
        go_at_call 66
        refine (Clone_any _ (S6.out _ bd) (by omega)).mono ?_
        rintro e wq ⟨cv, rfl, oc, bq⟩
        have oc : OwnI wq w6.heap.size cv tl := oc
        have BQ := Lib.hid (bd.trans (bq.mono bd.size))
        obtain ⟨cva, cvn, cvc, rfl, _⟩ := oc.formJ
        refine hK2 _ _ (CC.out _ BQ.out) ?_
        clear hK2 K2
        try simp only [Act.put, List.getElem_toArray, List.getElem_cons_zero, List.getElem_cons_succ, List.setIfInBounds_toArray, List.set_cons_zero, List.set_cons_succ]
        refine wpX_free (i := 7) (v := ?_) rfl (by kernel_rfl) (fun _ _ _ h => h) rfl (fun w' => ?_) ?_
        rotate_left
        · go_simp; try with_reducible rfl
        try simp only [Act.put, List.getElem_toArray, List.getElem_cons_zero, List.getElem_cons_succ, List.setIfInBounds_toArray, List.set_cons_zero, List.set_cons_succ]
        refine wpX_one (i := 8) rfl (by kernel_rfl) rfl ?_
        intro K2 hK2
        go_simp
        refine hK2 _ _ (CC.out _ (BQ.out.alloc BQ.out.size _)) ?_
        clear hK2 K2
        try simp only [Act.put, List.getElem_toArray, List.getElem_cons_zero, List.getElem_cons_succ, List.setIfInBounds_toArray, List.set_cons_zero, List.set_cons_succ]
        refine wpX_rest (t := [9, 10, 11]) (l := [_, _, _]) rfl (by kernel_rfl) (by kernel_rfl) ?_
        try simp only [List.getElem_toArray, List.getElem_cons_zero, List.getElem_cons_succ]
        have MQ := Lib.hid (O6.out.below BQ.out)
        have OC := Lib.hid (oc.lower (base' := w3.heap.size + 1) hz3)
        have hzq : w3.heap.size + 1 ≤ wq.heap.size := Nat.le_trans hz3 BQ.out.size
        clear hC bd bq oc
        go_wp2_with (at_builtin; refine append_map wq _ _ rfl rfl rfl MQ.out OC.out rfl rfl hdl2 hzq ?_)
        intro v7 w7 o7 b7 z7
        rw [← HADD.out] at o7
        obtain ⟨va7, vn7, vc7, rfl, hvn7⟩ := o7.formJ
        have bal := (Below.refl wq.heap.size wq).alloc (Nat.le_refl _) (.cells #[.int .i64 wt, .slice cva cvn cvc] 43)
        have b7' : Below (w3.heap.size + 1) w6 w7 := (BQ.out.mono hz3).trans ((bal.mono hzq).trans b7)
        have X7 := Lib.hid (BX6.out.fs (S := fun k => w3.heap.size + 1 ≤ k) ⟨b7'.os, b7'.tape, b7'.output, b7'.size, fun k _ hk => b7'.block k (by omega)⟩ (by omega))
        have O7 := Lib.hid o7
        have B7 := Lib.hid (B6.out.trans (b7'.mono (by omega)))
        have k2 := X7.out.c.get 2 _ rfl
        have f2 := X7.out.f 2
        have kl := X7.out.c.1
        clear o7 b7 z7 bal b7' BQ MQ OC
        go_wp2
        go_roundw
        case rel => exact ⟨i + 1, _, by omega, by go_num, X7.out.set _, O7.out.set (by simp) _, B7.out.setCell (by simp) _⟩
        case measure => simp [intOf]; omega
      · rw [hix, Nat.zero_add] at he
        subst he
        have HADD := Lib.hid (show tidyM (ms.take (i + 1)) = D.set k (D[k].1 + wt, D[k].2) by rw [HST.out, hadd])
        have hdk := hdw _ (List.getElem_mem hk)
        obtain ⟨gl, gc, hge, hgb, hgl⟩ := O6.out.some (by omega)
        simp only [Value.slice.injEq] at hge
        obtain ⟨rfl, rfl, rfl⟩ := hge
        have k0 : (0 : Int) ≤ (k : Int) := by omega
        have k1 : (k : Int) < (D.length : Int) := by omega
        have f0 := (O6.out.cellW hk).1
        have HOS := Lib.hid (fun W (h : OwnM W (w3.heap.size + 1) (.slice (some ⟨gl, 0, none⟩) D.length vc) D) => h.setW hk (D[k].1 + wt))
        rw [HADD.out.symm] at HOS
        clear hix hadd
        have hlen : (D.set k (D[k].1 + wt, D[k].2)).length = D.length := by simp
        have r1 : IntKind.i64.wrap (D[k].1 + wt) = D[k].1 + wt := IntWalk.i64_in _ (by omega)
        generalize hdk2 : D[k].1 = dk at hdk f0 r1 HOS
        have HDK := Lib.hid hdk2
        clear hdk2
        go_wp2_with fail
        refine wpX_start (fun W => W.cell? ⟨w3.heap.size, 2, none⟩ = some (.slice (some ⟨gl, 0, none⟩) D.length vc) ∧ W.cell? ⟨wr.heap.size, 0, none⟩ = some (.int .i64 wt) ∧ W.cell? ⟨gl, k * 2, none⟩ = some (.int .i64 dk)) [11] (by kernel_rfl) ?_
        have bd : Below w6.heap.size w6 w6.drew := (Below.refl _ _).drew
        have hC : (fun W : World => W.cell? ⟨w3.heap.size, 2, none⟩ = some (.slice (some ⟨gl, 0, none⟩) D.length vc) ∧ W.cell? ⟨wr.heap.size, 0, none⟩ = some (.int .i64 wt) ∧ W.cell? ⟨gl, k * 2, none⟩ = some (.int .i64 dk)) w6.drew := ⟨e2, d0, f0⟩
        refine wpX_free (i := 0) (v := ?_) rfl (by kernel_rfl) (fun _ _ _ h => h) rfl (fun w' => ?_) ?_
        rotate_left
        · go_simp; try with_reducible rfl
        try simp only [Act.put, List.getElem_toArray, List.getElem_cons_zero, List.getElem_cons_succ, List.setIfInBounds_toArray, List.set_cons_zero, List.set_cons_succ]
        refine wpX_load (i := 1) (v := ?_) rfl (by kernel_rfl) (fun _ _ _ h => h) hC rfl (fun w' hw' => ?_) ?_
        rotate_left
        · obtain ⟨k1, k2, k3⟩ := hw'; go_simp; try with_reducible rfl
        try simp only [Act.put, List.getElem_toArray, List.getElem_cons_zero, List.getElem_cons_succ, List.setIfInBounds_toArray, List.set_cons_zero, List.set_cons_succ]
        refine wpX_free (i := 2) (v := ?_) rfl (by kernel_rfl) (fun _ _ _ h => h) rfl (fun w' => ?_) ?_
        rotate_left
        · go_simp; try with_reducible rfl
        try simp only [Act.put, List.getElem_toArray, List.getElem_cons_zero, List.getElem_cons_succ, List.setIfInBounds_toArray, List.set_cons_zero, List.set_cons_succ]
        refine wpX_free (i := 3) (v := ?_) rfl (by kernel_rfl) (fun _ _ _ h => h) rfl (fun w' => ?_) ?_
        rotate_left
        · go_simp; try with_reducible rfl
        try simp only [Act.put, List.getElem_toArray, List.getElem_cons_zero, List.getElem_cons_succ, List.setIfInBounds_toArray, List.set_cons_zero, List.set_cons_succ]
        refine wpX_free (i := 4) (v := ?_) rfl (by kernel_rfl) (fun _ _ _ h => h) rfl (fun w' => ?_) ?_
        rotate_left
        · go_simp; try with_reducible rfl
        try simp only [Act.put, List.getElem_toArray, List.getElem_cons_zero, List.getElem_cons_succ, List.setIfInBounds_toArray, List.set_cons_zero, List.set_cons_succ]
        refine wpX_load (i := 5) (v := ?_) rfl (by kernel_rfl) (fun _ _ _ h => h) hC rfl (fun w' hw' => ?_) ?_
        rotate_left
        · obtain ⟨k1, k2, k3⟩ := hw'; go_simp; try with_reducible rfl
        try simp only [Act.put, List.getElem_toArray, List.getElem_cons_zero, List.getElem_cons_succ, List.setIfInBounds_toArray, List.set_cons_zero, List.set_cons_succ]
        refine wpX_free (i := 6) (v := ?_) rfl (by kernel_rfl) (fun _ _ _ h => h) rfl (fun w' => ?_) ?_
        rotate_left
        · go_simp; try with_reducible rfl
        try simp only [Act.put, List.getElem_toArray, List.getElem_cons_zero, List.getElem_cons_succ, List.setIfInBounds_toArray, List.set_cons_zero, List.set_cons_succ]
        refine wpX_load (i := 7) (v := ?_) rfl (by kernel_rfl) (fun _ _ _ h => h) hC rfl (fun w' hw' => ?_) ?_
        rotate_left
        · obtain ⟨k1, k2, k3⟩ := hw'; go_simp; try with_reducible rfl
        try simp only [Act.put, List.getElem_toArray, List.getElem_cons_zero, List.getElem_cons_succ, List.setIfInBounds_toArray, List.set_cons_zero, List.set_cons_succ]
        refine wpX_free (i := 8) (v := ?_) rfl (by kernel_rfl) (fun _ _ _ h => h) rfl (fun w' => ?_) ?_
        rotate_left
        · go_simp; try with_reducible rfl
        try simp only [Act.put, List.getElem_toArray, List.getElem_cons_zero, List.getElem_cons_succ, List.setIfInBounds_toArray, List.set_cons_zero, List.set_cons_succ]
        refine wpX_free (i := 9) (v := ?_) rfl (by kernel_rfl) (fun _ _ _ h => h) rfl (fun w' => ?_) ?_
        rotate_left
        · go_simp; try with_reducible rfl
        try simp only [Act.put, List.getElem_toArray, List.getElem_cons_zero, List.getElem_cons_succ, List.setIfInBounds_toArray, List.set_cons_zero, List.set_cons_succ]
        refine wpX_free (i := 10) (v := ?_) rfl (by kernel_rfl) (fun _ _ _ h => h) rfl (fun w' => ?_) ?_
        rotate_left
        · go_simp; try with_reducible rfl
        try simp only [Act.put, List.getElem_toArray, List.getElem_cons_zero, List.getElem_cons_succ, List.setIfInBounds_toArray, List.set_cons_zero, List.set_cons_succ]
        refine wpX_rest (t := [11]) (l := [_]) rfl (by kernel_rfl) (by kernel_rfl) ?_
        try simp only [List.getElem_toArray, List.getElem_cons_zero, List.getElem_cons_succ]
        generalize w6.drew = wq at bd ⊢
        have oq := O6.out.below bd
        obtain ⟨g0, g1⟩ := oq.cellW hk
        rw [HDK.out] at g0
        have O7 := Lib.hid (HOS.out _ oq)
        have X7 := Lib.hid ((BX6.out.fs (S := fun _ => False) (Fs.of_below bd) (fun h => h)).fs (Fs.set1 wq gl (k * 2) (.int .i64 (dk + wt))) (by omega))
        have B7 := Lib.hid ((B6.out.trans (bd.mono (by omega))).setCell (p := ⟨gl, k * 2, none⟩) (by show w3.heap.size ≤ gl; omega) (.int .i64 (dk + wt)))
        clear hC bd oq e2 d0 d1 f0
        go_wp2
        go_roundw
        case rel => exact ⟨i + 1, _, by omega, by go_num, X7.out, O7.out, B7.out⟩
        case measure => simp [intOf]; omega
    · obtain rfl : i = ms.length := by omega
      rw [List.take_length] at HO
      have rb := R4.out.fs (S := fun k => w3.heap.size ≤ k) ⟨HBW.out.os, HBW.out.tape, HBW.out.output, HBW.out.size, fun k _ hk => HBW.out.block k (by omega)⟩ (by have := Z3.out; omega)
      obtain ⟨va, vn, vc, rfl, _⟩ := HO.out.formJ
      have k0 := HBX.out.c.get 0 _ rfl
      have k1 := HBX.out.c.get 1 _ rfl
      have k2 := HBX.out.c.get 2 _ rfl
      have kl := HBX.out.c.1
      have q0 := rb.c.get 0 _ rfl
      have q1 := rb.c.get 1 _ rfl
      have q2 := rb.c.get 2 _ rfl
      have f0 := rb.f 0
      have f1 := rb.f 1
      have f2 := rb.f 2
      have ql := rb.c.1
      have hzz := Z3.out
      clear rb hbox hown
      go_wp2
      refine bodyPost_ret (v := .tuple #[.agg #[.int .i64 n, .int .i64 T, .slice va vn vc], .int .i64 0]) (by simp [results, Try.results21, go_sem, q0, q1, q2, ql]) rfl ⟨_, rfl, ?_, ?_⟩
      · exact OwnM.lower (OwnM.set (OwnM.set (OwnM.set HO.out (by simp; omega) _) (by simp; omega) _) (by simp; omega) _) (by omega)
      · exact ((HBw.out.setCell (by simp) _).setCell (by simp) _).setCell (by simp) _
end Go.Proofs.Ytceobhmbnkheiaa
