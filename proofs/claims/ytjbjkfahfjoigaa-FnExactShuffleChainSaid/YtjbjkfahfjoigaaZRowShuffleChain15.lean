/-
  The chain of a shuffle: the reference's side.
-/
import Derived.Test.YtjbjkfahfjoigaaZRowShuffleChain5
import Derived.Test.YtjbjkfahfjoigaaZRowShuffleChain14
import Derived.Test.YtjbjkfahfjoigaaZRowShuffleChain1
import Derived.Test.YtjbjkfahfjoigaaZRowShuffleChain13
import Derived.Deep.DeepCutAuto
import Derived.Deep.RegionWith
set_option linter.unusedVariables false
set_option linter.unusedSimpArgs false
namespace Go.Proofs.Ytjbjkfahfjoigaa
open Go.RowKit Go.Sort
/-- a chain's box under work -/
structure ChB (w : World) (b : Nat) (n t : Int) (v : Value) : Prop where
  lt : b < w.heap.size
  c0 : w.cell? ⟨b, 0, none⟩ = some (.int .i64 n)
  c1 : w.cell? ⟨b, 1, none⟩ = some (.int .i64 t)
  c2 : w.cell? ⟨b, 2, none⟩ = some v
  f2 : w.frozen? ⟨b, 2, none⟩ = false
  f0 : w.frozen? ⟨b, 0, none⟩ = false
  f1 : w.frozen? ⟨b, 1, none⟩ = false
theorem ChB.below {w w' : World} {b B : Nat} {n t : Int} {v : Value} (h : ChB w b n t v) (hb : Below B w w') (hB : b < B) : ChB w' b n t v :=
  ⟨Nat.lt_of_lt_of_le h.lt hb.size, by rw [hb.cell (p := ⟨b, 0, none⟩) hB]; exact h.c0, by rw [hb.cell (p := ⟨b, 1, none⟩) hB]; exact h.c1, by rw [hb.cell (p := ⟨b, 2, none⟩) hB]; exact h.c2, by
    have := hb.block b hB
    simpa [World.frozen?, this] using h.f2, by
    have := hb.block b hB
    simpa [World.frozen?, this] using h.f0, by
    have := hb.block b hB
    simpa [World.frozen?, this] using h.f1⟩
theorem ChB.set {w : World} {b : Nat} {n t : Int} {v : Value} (h : ChB w b n t v) (u : Value) : ChB (w.setCell ⟨b, 2, none⟩ u) b n t u :=
  ⟨by simpa using h.lt, by simp [go_sem, h.c0], by simp [go_sem, h.c1], by simp [go_sem, h.c2], by simpa using h.f2, by simpa using h.f0, by simpa using h.f1⟩
def rowsT (DS WY : List (List Int)) (s : Nat) : List (List Int) := (DS.take s).map fun d => rowOf DS (WY.map (byW d)) DS.length
def FreshCC (w : World) (R : (Int × Int × List (List Int)) × Int) (e : Ending) (w' : World) : Prop := ∃ v, e = .returned (.tuple #[.agg #[.int .i64 R.1.1, .int .i64 R.1.2.1, v], .int .i64 R.2]) ∧ OwnII w' w.heap.size v R.1.2.2 ∧ Below w.heap.size w w'

set_option maxRecDepth 100000 in
set_option maxHeartbeats 8000000 in
theorem SpecShuffleChain_any (cards kind : Int) (w : World) : Calls Try.prog 5 #[.int .i64 cards, .int .i64 kind] w (FreshCC w (shufR cards kind)) := by
  have hr : shufR cards kind = if (inR cards 1 3 && inR kind 1 5) = true then ((((decksL cards.toNat cards.toNat).length : Int), ((waysL cards.toNat kind.toNat).length : Int), wayW cards.toNat kind.toNat), 0) else ((0, 0, []), 2) := rfl
  generalize hq1 : inR cards 1 3 = Q1 at hr
  generalize hq2 : inR kind 1 5 = Q2 at hr
  have HQ1 := Lib.hid hq1
  have HQ2 := Lib.hid hq2
  have HR := Lib.hid hr
  have z0 : (w.alloc (.cells #[.int .i64 0, .int .i64 0, .slice none 0 0] 24)).heap.size = w.heap.size + 1 := by simp
  have B0 := Lib.hid (show Below w.heap.size w (w.alloc (.cells #[.int .i64 0, .int .i64 0, .slice none 0 0] 24)) from (Below.refl _ _).alloc (Nat.le_refl _) _)
  obtain ⟨W1, hW1⟩ : ∃ W1, W1 = w.alloc (.cells #[.int .i64 0, .int .i64 0, .slice none 0 0] 24) := ⟨_, rfl⟩
  have C1 := Lib.hid (show ChB W1 w.heap.size 0 0 (.slice none 0 0) from by rw [hW1]; exact ⟨by simp, by simp [go_sem], by simp [go_sem], by simp [go_sem], by simp [go_sem], by simp [go_sem], by simp [go_sem]⟩)
  rw [← hW1] at B0 z0
  have HW1 := Lib.hid hW1.symm
  have Z0 := Lib.hid z0
  clear hq1 hq2 hr hW1 z0
  go_enter Try.func5, Try.ntmps5
  go_upto_region 1 with (fail)
  rw [HW1.out]
  go_wp2_with fail
  refine (l00In_any cards 1 3 W1).mono ?_
  rintro e w1 ⟨rfl, rfl⟩
  rw [HQ1.out]
  cases Q1
  · have HR2 := Lib.hid (show shufR cards kind = ((0, 0, []), 2) from by rw [HR.out]; simp)
    have q0 := C1.out.c0
    have q1 := C1.out.c1
    have q2 := C1.out.c2
    have f2 := C1.out.f2
    have f0 := C1.out.f0
    have f1 := C1.out.f1
    have zl := C1.out.lt
    go_wp2
    refine bodyPost_ret (v := .tuple #[.agg #[.int .i64 0, .int .i64 0, .slice none 0 0], .int .i64 2]) (by simp [results, Try.results5, go_sem, q0, q1, q2, zl]) rfl ?_
    exact ⟨_, by rw [HR2.out], by rw [HR2.out]; exact OwnII.nil _ _, ((B0.out.setCell (Nat.le_refl _) _).setCell (Nat.le_refl _) _).setCell (Nat.le_refl _) _⟩
  · skip
    go_wp2_with fail
    refine (l00In_any kind 1 5 W1).mono ?_
    rintro e w1 ⟨rfl, rfl⟩
    rw [HQ2.out]
    cases Q2
    · have HR2 := Lib.hid (show shufR cards kind = ((0, 0, []), 2) from by rw [HR.out]; simp)
      have q0 := C1.out.c0
      have q1 := C1.out.c1
      have q2 := C1.out.c2
      have f2 := C1.out.f2
      have f0 := C1.out.f0
      have f1 := C1.out.f1
      have zl := C1.out.lt
      go_wp2
      refine bodyPost_ret (v := .tuple #[.agg #[.int .i64 0, .int .i64 0, .slice none 0 0], .int .i64 2]) (by simp [results, Try.results5, go_sem, q0, q1, q2, zl]) rfl ?_
      exact ⟨_, by rw [HR2.out], by rw [HR2.out]; exact OwnII.nil _ _, ((B0.out.setCell (Nat.le_refl _) _).setCell (Nat.le_refl _) _).setCell (Nat.le_refl _) _⟩
    · obtain ⟨hc1, hc3⟩ := inR_iff.1 HQ1.out
      obtain ⟨hk1, hk5⟩ := inR_iff.1 HQ2.out
      obtain ⟨n, rfl⟩ : ∃ n : Nat, cards = (n : Int) := ⟨cards.toNat, by omega⟩
      obtain ⟨kd, rfl⟩ : ∃ kd : Nat, kind = (kd : Int) := ⟨kind.toNat, by omega⟩
      have HR2 := Lib.hid (show shufR (n : Int) (kd : Int) = ((((decksL n n).length : Int), ((waysL n kd).length : Int), wayW n kd), 0) from by rw [HR.out, Int.toNat_natCast, Int.toNat_natCast]; rfl)
      obtain ⟨hK9, hD6, hD0, hdl, hyy⟩ := way_fact (n := n) (k := kd) (by omega) (by omega) (by omega) (by omega)
      have KD := Lib.hid (l07Decks_any n W1 (by omega) (by omega))
      have KW := Lib.hid (fun W => l07Ways_any n kd W (by omega) (by omega) (by omega) (by omega))
      have hwy : wayW n kd = (decksL n n).map fun d => rowOf (decksL n n) ((waysL n kd).map (byW d)) (decksL n n).length := rfl
      generalize waysL n kd = WY at HR2 hK9 hyy KW hwy
      generalize hDS : decksL n n = DS at HR2 hD6 hD0 hdl hyy KD hwy
      have HWY := Lib.hid hwy
      have HDL := Lib.hid hdl
      have HYY := Lib.hid hyy
      clear hdl hyy hDS hwy HR
      go_wp2_with fail
      refine KD.out.mono ?_
      rintro e w2 ⟨dv, rfl, o2, b2⟩
      obtain ⟨da, dn, dc, rfl, hdn⟩ := o2.form
      have hdn' := hdn.out
      subst hdn'
      have B2 := Lib.hid b2
      have O2 := Lib.hid o2
      clear b2 o2 KD hdn
      go_wp2_with fail
      refine (KW.out w2).mono ?_
      rintro e w3 ⟨yv, rfl, o3, b3⟩
      obtain ⟨ya, yn, yc0, rfl, hyn⟩ := o3.form
      have hyn' := hyn.out
      subst hyn'
      have B3 := Lib.hid (B2.out.trans (b3.mono B2.out.size))
      have HD := Lib.hid (fun W (h : Below w3.heap.size w3 W) => (O2.out.below b3).sl.below h)
      have HY := Lib.hid (fun W (h : Below w3.heap.size w3 W) => o3.sl.below h)
      have CR := Lib.hid (C1.out.below B3.out (by have := C1.out.lt; exact this))
      clear b3 o3 KW hyn O2
      obtain ⟨WB, hWB⟩ : ∃ WB, WB = w3.alloc (.cells #[.int .i64 DS.length, .int .i64 WY.length, .slice none 0 0] 24) := ⟨_, rfl⟩
      have zB : WB.heap.size = w3.heap.size + 1 := by rw [hWB]; simp
      have CB := Lib.hid (show ChB WB w3.heap.size DS.length WY.length (.slice none 0 0) from by rw [hWB]; exact ⟨by simp, by simp [go_sem], by simp [go_sem], by simp [go_sem], by simp [go_sem], by simp [go_sem], by simp [go_sem]⟩)
      have BB := Lib.hid (show Below w3.heap.size w3 WB from by rw [hWB]; exact (Below.refl _ _).alloc (Nat.le_refl _) _)
      have HWB := Lib.hid hWB.symm
      have ZB := Lib.hid zB
      clear hWB zB
      go_upto_region 6 with (fail)
      rw [HWB.out]
      go_wp2
      go_loopg [9] DS.length (fun f sv wr => ∃ (s : Nat) (v : Value), (s ≤ DS.length ∧ f = DS.length - s) ∧ sv = .int .i64 s ∧ ChB wr w3.heap.size DS.length WY.length v ∧ OwnII wr (w3.heap.size + 1) v (rowsT DS WY s) ∧ Below w3.heap.size w3 wr)
      case atStart => exact ⟨0, _, ⟨Nat.zero_le _, rfl⟩, rfl, CB.out, OwnII.nil _ _, BB.out⟩
      case round =>
        clear CB BB
        obtain ⟨s, v, ⟨hs, rfl⟩, rfl, hcb, hrows, hbw⟩ := hrel
        have HCB := Lib.hid hcb
        have HRW := Lib.hid hrows
        have HBW := Lib.hid hbw
        by_cases hsD : s < DS.length
        · have i1 : (s : Int) < (DS.length : Int) := by omega
          obtain ⟨wo, hwo⟩ : ∃ wo : World, wo = wr := ⟨_, rfl⟩
          subst hwo
          have hdin := List.getElem_mem hsD
          have hdlen := HDL.out _ hdin
          have HDIN := Lib.hid (fun y hy => (HYY.out y hy).2.2 _ hdin)
          have HTS := Lib.hid (show rowsT DS WY (s + 1) = rowsT DS WY s ++ [rowOf DS (WY.map (byW DS[s])) DS.length] from by unfold rowsT; rw [List.take_succ_eq_append_getElem hsD, List.map_append]; rfl)
          have hdat : (fun W (h : Below w3.heap.size w3 W) => (HD.out W h).nthJ hsD) = (fun W h => (HD.out W h).nthJ hsD) := rfl
          obtain ⟨db, dof, ra, rc, hae, hdb, gd0, sd0⟩ := (HD.out w3 (Below.refl _ _)).nthJ hsD
          subst hae
          obtain ⟨d, hd⟩ : ∃ d, d = DS[s] := ⟨_, rfl⟩
          rw [← hd] at hdlen HDIN HTS gd0 sd0
          have HDC := Lib.hid (fun W (h : Below w3.heap.size w3 W) => h.cell (p := ⟨db, dof + s, none⟩) hdb ▸ gd0)
          have HDR := Lib.hid (fun W (h : Below w3.heap.size w3 W) => sd0.below h)
          have HDLN := Lib.hid hdlen
          obtain ⟨NX, hNX⟩ : ∃ NX, NX = WY.map (byW d) := ⟨_, rfl⟩
          have hNL : NX.length = WY.length := by rw [hNX]; simp
          have HNX := Lib.hid (show ∀ i (h : i < WY.length), NX[i]'(by omega) = byW d WY[i] from fun i h => by subst hNX; simp)
          rw [← hNX] at HTS
          have HRL := Lib.hid (fun i (h : i ≤ WY.length) => rowK_len DS NX DS.length i (by omega))
          have HRB := Lib.hid (fun i (h : i ≤ WY.length) => rowK_bd DS NX DS.length i (by omega))
          have HRS := Lib.hid (show ∀ i (h : i < WY.length), rowK DS NX DS.length (i + 1) = stepR DS (rowK DS NX DS.length i) (byW d WY[i]) from fun i h => by rw [rowK_succ (by omega), HNX.out i h])
          have HRF := Lib.hid (show rowK DS NX DS.length WY.length = rowOf DS NX DS.length from by rw [← hNL]; exact rowK_full DS NX DS.length)
          have HRZ := Lib.hid (rowK_zero DS NX DS.length)
          have s0 : (0 : Int) ≤ (s : Int) := by omega
          clear hcb hrows hbw hdat hdlen hdin gd0 sd0 hd hNX HNX hNL
          go_wp2_with (at_make; refine make_i64 wo _ _ rfl rfl DS.length rfl rfl rfl rfl (by omega) ?_)
          intro w5 o5 b5 z5
          have B5 := Lib.hid b5
          have O5 := Lib.hid (show OwnI w5 wo.heap.size (.slice (some ⟨wo.heap.size, 0, none⟩) DS.length DS.length) (rowK DS NX DS.length 0) from by rw [HRZ.out]; exact o5)
          clear o5 b5 z5
          go_wp2
          go_loopw [11] (fun iv wi => ∃ i : Nat, i ≤ WY.length ∧ iv = .int .i64 i ∧ OwnI wi wo.heap.size (.slice (some ⟨wo.heap.size, 0, none⟩) DS.length DS.length) (rowK DS NX DS.length i) ∧ Below wo.heap.size wo wi) (fun iv _ => WY.length - (intOf iv).toNat)
          case atStart => exact ⟨0, Nat.zero_le _, rfl, O5.out, B5.out⟩
          case round =>
            clear O5 B5
            obtain ⟨i, hi, rfl, hrow, hbi⟩ := hrel
            have HBI := Lib.hid hbi
            have HB3 := Lib.hid (HBW.out.trans (hbi.mono HBW.out.size))
            have HROW := Lib.hid hrow
            clear hrow
            by_cases hiK : i < WY.length
            · have i2 : (i : Int) < (WY.length : Int) := by omega
              obtain ⟨wi, hwi⟩ : ∃ wi : World, wi = wr := ⟨_, rfl⟩
              subst hwi
              obtain ⟨wb, wof, yra, yc, hae, hwb, gy0, sy0⟩ := (HY.out wi HB3.out).nthJ hiK
              subst hae
              obtain ⟨hy1, hy2, _⟩ := HYY.out _ (List.getElem_mem hiK)
              obtain ⟨hf1, hf2, hf3⟩ := HDIN.out _ (List.getElem_mem hiK)
              have hrs := HRS.out i hiK
              generalize WY[i] = y at gy0 sy0 hy1 hy2 hf1 hf2 hf3 hrs
              rw [hy1] at gy0 sy0
              have HYC := Lib.hid (fun W (h : Below wi.heap.size wi W) => h.cell (p := ⟨wb, wof + i, none⟩) hwb ▸ gy0)
              have HYR := Lib.hid (fun W (h : Below wi.heap.size wi W) => sy0.below h)
              have HY1 := Lib.hid hy1
              have HY2 := Lib.hid hy2
              have hbl : (byW d y).length = n := by unfold byW; rw [List.length_map]; exact hy1
              have hbe0 : ∀ k (h : k < y.length) (h2 : k < (byW d y).length), (byW d y)[k] = d.getD (y[k]).toNat 0 := fun k h h2 => by simp [byW]
              obtain ⟨bw, hbw'⟩ : ∃ bw, bw = byW d y := ⟨_, rfl⟩
              rw [← hbw'] at hf1 hf2 hf3 hrs
              have HBE := Lib.hid (show ∀ k (h : k < y.length) (h2 : k < bw.length), bw[k] = d.getD (y[k]).toNat 0 from by rw [hbw']; exact hbe0)
              have HBLN := Lib.hid (show bw.length = n from by rw [hbw']; exact hbl)
              obtain ⟨F, hF⟩ : ∃ F : Nat, findD bw = (F : Int) := ⟨(findD bw).toNat, by omega⟩
              rw [hF] at hf1 hf2 hf3
              have HF := Lib.hid hF
              have HST := Lib.hid (show rowK DS NX DS.length (i + 1) = (rowK DS NX DS.length i).set F ((rowK DS NX DS.length i).getD F 0 + 1) from by
                rw [hrs]; unfold stepR; rw [← hf1, Int.toNat_natCast])
              have hFD : F < DS.length := by omega
              have E6 := Lib.hid (OwnI.empty wi (base := wi.heap.size) (Nat.le_refl _))
              have B6 := Lib.hid ((Below.refl wi.heap.size wi).alloc (Nat.le_refl _) (.cells #[] 2))
              clear hbe0 hy1 hy2 hf1 hf2 hf3 hrs hbl hbw' hF gy0 sy0 hbi
              go_wp2
              go_loopw [12, 13] (fun dk kv wj => ∃ k : Nat, k ≤ n ∧ kv = .int .i64 k ∧ OwnI wj wi.heap.size dk (bw.take k) ∧ Below wi.heap.size wi wj) (fun _ kv _ => n - (intOf kv).toNat)
              case atStart => exact ⟨0, Nat.zero_le _, rfl, by simpa using E6.out, B6.out⟩
              case round =>
                clear E6 B6
                obtain ⟨k, hk, rfl, hdk, hbj⟩ := hrel
                have HBJ := Lib.hid hbj
                have HBJ3 := Lib.hid (HB3.out.trans (hbj.mono HB3.out.size))
                have gy := HYC.out _ hbj
                by_cases hkn : k < n
                · have i3 : (k : Int) < (n : Int) := by omega
                  have hky : k < y.length := by rw [HY1.out]; exact hkn
                  have hkb : k < bw.length := by rw [HBLN.out]; exact hkn
                  obtain ⟨yb, yo, rfl, _, gq⟩ := (HYR.out _ hbj).at_ hky
                  obtain ⟨hq0, hqn⟩ := HY2.out _ (List.getElem_mem hky)
                  have hbe := HBE.out k hky hkb
                  have htk : bw.take (k + 1) = bw.take k ++ [bw[k]] := List.take_succ_eq_append_getElem hkb
                  rw [hbe] at htk
                  generalize y[k] = yk at gq hq0 hqn htk
                  obtain ⟨q, rfl⟩ : ∃ q : Nat, yk = (q : Int) := ⟨yk.toNat, by omega⟩
                  rw [Int.toNat_natCast] at htk
                  have hqd : q < d.length := by rw [HDLN.out]; omega
                  obtain ⟨rb, ro, rfl, _, gx⟩ := (HDR.out _ HBJ3.out).at_ hqd
                  rw [show d[q] = d.getD q 0 from (gD_at hqd).symm] at gx
                  generalize d.getD q 0 = X at gx htk
                  have HTK := Lib.hid htk
                  have gd := HDC.out _ HBJ3.out
                  rw [HDLN.out] at gd
                  have i4 : (q : Int) < (n : Int) := by omega
                  have i5 : (0 : Int) ≤ (q : Int) := by omega
                  have i6 : (0 : Int) ≤ (k : Int) := by omega
                  have i7 : (0 : Int) ≤ (i : Int) := by omega
                  have CW := Lib.hid (fun W (h : Below wr.heap.size wr W) => show W.cell? ⟨db, dof + s, none⟩ = some (.slice (some ⟨rb, ro, none⟩) n rc) ∧ W.cell? ⟨wb, wof + i, none⟩ = some (.slice (some ⟨yb, yo, none⟩) n yc) ∧ W.cell? ⟨yb, yo + k, none⟩ = some (.int .i64 (q : Int)) ∧ W.cell? ⟨rb, ro + q, none⟩ = some (.int .i64 X) from ⟨by rw [h.cell (p := ⟨db, dof + s, none⟩) (cell_lt gd)]; exact gd, by rw [h.cell (p := ⟨wb, wof + i, none⟩) (cell_lt gy)]; exact gy, by rw [h.cell (p := ⟨yb, yo + k, none⟩) (cell_lt gq)]; exact gq, by rw [h.cell (p := ⟨rb, ro + q, none⟩) (cell_lt gx)]; exact gx⟩)
                  have HDK := Lib.hid hdk
                  have hln : (bw.take k).length < 16777216 := by rw [List.length_take]; omega
                  clear htk hbe hbj hdk
                  go_wp2_with fail
                  refine wpX_start (fun W => W.cell? ⟨db, dof + s, none⟩ = some (.slice (some ⟨rb, ro, none⟩) n rc) ∧ W.cell? ⟨wb, wof + i, none⟩ = some (.slice (some ⟨yb, yo, none⟩) n yc) ∧ W.cell? ⟨yb, yo + k, none⟩ = some (.int .i64 (q : Int)) ∧ W.cell? ⟨rb, ro + q, none⟩ = some (.int .i64 X)) [14, 15, 16] (by kernel_rfl) ?_
                  have hC := CW.out wr.drew (Below.refl wr.heap.size wr).drew
                  refine wpX_free (i := 0) (v := ?_) rfl (by kernel_rfl) (fun _ _ _ h => h) rfl (fun w' => ?_) ?_
                  rotate_left
                  · go_simp; try with_reducible rfl
                  try simp only [Act.put, List.setIfInBounds_toArray, List.set_cons_zero, List.set_cons_succ]
                  refine wpX_free (i := 1) (v := ?_) rfl (by kernel_rfl) (fun _ _ _ h => h) rfl (fun w' => ?_) ?_
                  rotate_left
                  · go_simp; try with_reducible rfl
                  try simp only [Act.put, List.setIfInBounds_toArray, List.set_cons_zero, List.set_cons_succ]
                  refine wpX_free (i := 2) (v := ?_) rfl (by kernel_rfl) (fun _ _ _ h => h) rfl (fun w' => ?_) ?_
                  rotate_left
                  · go_simp; try with_reducible rfl
                  try simp only [Act.put, List.setIfInBounds_toArray, List.set_cons_zero, List.set_cons_succ]
                  refine wpX_free (i := 3) (v := ?_) rfl (by kernel_rfl) (fun _ _ _ h => h) rfl (fun w' => ?_) ?_
                  rotate_left
                  · go_simp; try with_reducible rfl
                  try simp only [Act.put, List.setIfInBounds_toArray, List.set_cons_zero, List.set_cons_succ]
                  refine wpX_load (i := 4) (v := ?_) rfl (by kernel_rfl) (fun _ _ _ h => h) hC rfl (fun w' hw' => ?_) ?_
                  rotate_left
                  · obtain ⟨k1, k2, k3, k4⟩ := hw'; go_simp; try with_reducible rfl
                  try simp only [Act.put, List.setIfInBounds_toArray, List.set_cons_zero, List.set_cons_succ]
                  refine wpX_free (i := 5) (v := ?_) rfl (by kernel_rfl) (fun _ _ _ h => h) rfl (fun w' => ?_) ?_
                  rotate_left
                  · go_simp; try with_reducible rfl
                  try simp only [Act.put, List.setIfInBounds_toArray, List.set_cons_zero, List.set_cons_succ]
                  refine wpX_free (i := 6) (v := ?_) rfl (by kernel_rfl) (fun _ _ _ h => h) rfl (fun w' => ?_) ?_
                  rotate_left
                  · go_simp; try with_reducible rfl
                  try simp only [Act.put, List.setIfInBounds_toArray, List.set_cons_zero, List.set_cons_succ]
                  refine wpX_free (i := 7) (v := ?_) rfl (by kernel_rfl) (fun _ _ _ h => h) rfl (fun w' => ?_) ?_
                  rotate_left
                  · go_simp; try with_reducible rfl
                  try simp only [Act.put, List.setIfInBounds_toArray, List.set_cons_zero, List.set_cons_succ]
                  refine wpX_load (i := 8) (v := ?_) rfl (by kernel_rfl) (fun _ _ _ h => h) hC rfl (fun w' hw' => ?_) ?_
                  rotate_left
                  · obtain ⟨k1, k2, k3, k4⟩ := hw'; go_simp; try with_reducible rfl
                  try simp only [Act.put, List.setIfInBounds_toArray, List.set_cons_zero, List.set_cons_succ]
                  refine wpX_free (i := 9) (v := ?_) rfl (by kernel_rfl) (fun _ _ _ h => h) rfl (fun w' => ?_) ?_
                  rotate_left
                  · go_simp; try with_reducible rfl
                  try simp only [Act.put, List.setIfInBounds_toArray, List.set_cons_zero, List.set_cons_succ]
                  refine wpX_free (i := 10) (v := ?_) rfl (by kernel_rfl) (fun _ _ _ h => h) rfl (fun w' => ?_) ?_
                  rotate_left
                  · go_simp; try with_reducible rfl
                  try simp only [Act.put, List.setIfInBounds_toArray, List.set_cons_zero, List.set_cons_succ]
                  refine wpX_load (i := 11) (v := ?_) rfl (by kernel_rfl) (fun _ _ _ h => h) hC rfl (fun w' hw' => ?_) ?_
                  rotate_left
                  · obtain ⟨k1, k2, k3, k4⟩ := hw'; go_simp; try with_reducible rfl
                  try simp only [Act.put, List.setIfInBounds_toArray, List.set_cons_zero, List.set_cons_succ]
                  refine wpX_free (i := 12) (v := ?_) rfl (by kernel_rfl) (fun _ _ _ h => h) rfl (fun w' => ?_) ?_
                  rotate_left
                  · go_simp; try with_reducible rfl
                  try simp only [Act.put, List.setIfInBounds_toArray, List.set_cons_zero, List.set_cons_succ]
                  refine wpX_load (i := 13) (v := ?_) rfl (by kernel_rfl) (fun _ _ _ h => h) hC rfl (fun w' hw' => ?_) ?_
                  rotate_left
                  · obtain ⟨k1, k2, k3, k4⟩ := hw'; go_simp; try with_reducible rfl
                  try simp only [Act.put, List.setIfInBounds_toArray, List.set_cons_zero, List.set_cons_succ]
                  refine wpX_rest (t := [14, 15, 16]) (l := [_, _, _]) rfl (by kernel_rfl) (by kernel_rfl) ?_
                  clear hC
                  simp only [List.getElem_toArray, List.getElem_cons_zero, List.getElem_cons_succ]
                  have bq : Below wr.heap.size wr wr.drew := (Below.refl _ _).drew
                  generalize wr.drew = wq at bq ⊢
                  have HBQ := Lib.hid (HBJ.out.trans (bq.mono HBJ.out.size))
                  have odk := HDK.out.below bq
                  have hz := HBQ.out.size
                  clear gy gq gx gd bq
                  go_wp2_with (at_builtin; refine append_i64 _ X _ _ rfl rfl rfl odk rfl hln hz ?_)
                  intro v7 w7 o7 b7 z7
                  rw [← HTK.out] at o7
                  have HB7 := Lib.hid ((HBQ.out.alloc hz (.cells #[.int .i64 X] 2)).trans b7)
                  clear b7 odk
                  go_wp2
                  go_roundw
                  case rel => exact ⟨k + 1, by omega, by go_num, o7, HB7.out⟩
                  case measure => simp [intOf]; omega
                · obtain rfl : k = n := by omega
                  have hlb : bw.length = k := HBLN.out
                  rw [show bw.take k = bw from by rw [← hlb]; exact List.take_length] at hdk
                  have HDK := Lib.hid hdk
                  clear hdk hbj hlb
                  go_wp2_with fail
                  refine (l07Find_any wr HDK.out.sl).mono ?_
                  rintro e wf ⟨rfl, bf⟩
                  rw [HF.out]
                  have BF := Lib.hid (HBJ.out.trans (bf.mono HBJ.out.size))
                  have orow := HROW.out.below BF.out
                  have hFl : F < (rowK DS NX DS.length i).length := by rw [HRL.out i hi]; exact hFD
                  have gF := OwnI.cell orow hFl
                  have fF := orow.free F
                  have hbd := HRB.out i hi F
                  rw [show (rowK DS NX DS.length i)[F] = (rowK DS NX DS.length i).getD F 0 from (gD_at hFl).symm] at gF
                  have OS0 := orow.set F ((rowK DS NX DS.length i).getD F 0 + 1)
                  rw [← HST.out] at OS0
                  have OS := Lib.hid OS0
                  generalize (rowK DS NX DS.length i).getD F 0 = X at gF hbd OS
                  have BS := Lib.hid ((HBI.out.trans (BF.out.mono HBI.out.size)).setCell (p := ⟨wo.heap.size, F, none⟩) (Nat.le_refl _) (.int .i64 (X + 1)))
                  have r1 : IntKind.i64.wrap (X + 1) = X + 1 := IntWalk.i64_in _ (by omega)
                  have i8 : (0 : Int) ≤ (F : Int) := by omega
                  have i9 : (F : Int) < (DS.length : Int) := by omega
                  have hlF : wo.heap.size < wf.heap.size := cell_lt gF
                  clear OS0 orow hFl hbd bf
                  go_wp2
                  go_roundw
                  case rel => exact ⟨i + 1, by omega, by go_num, OS.out, BS.out⟩
                  case measure => simp [intOf]; omega
            · obtain rfl : i = WY.length := by omega
              have O1 := Lib.hid (show OwnI wr wo.heap.size (.slice (some ⟨wo.heap.size, 0, none⟩) DS.length DS.length) (rowOf DS NX DS.length) from by rw [← HRF.out]; exact HROW.out)
              have CB := HCB.out.below HBI.out HCB.out.lt
              have CBH := Lib.hid CB
              obtain ⟨va, vn, vc, rfl, hvn⟩ := HRW.out.form
              have q2 := CB.c2
              have f2 := CB.f2
              have lt := CB.lt
              have hln : (rowsT DS WY s).length < 16777216 := by unfold rowsT; rw [List.length_map, List.length_take]; omega
              have hw3 : w3.heap.size + 1 ≤ wo.heap.size := HCB.out.lt
              clear CB hbi
              go_wp2_with (at_builtin; refine append_row wo wr _ _ rfl rfl rfl HRW.out HBI.out O1.out rfl hln hw3 ?_)
              intro v7 w7 o7 b7 z7
              rw [← HTS.out] at o7
              obtain ⟨a7, n7, c7, rfl, _⟩ := o7.form
              have C7 := Lib.hid ((CBH.out.below ((Below.refl wr.heap.size wr).alloc (Nat.le_refl _) (.cells #[.slice (some ⟨wo.heap.size, 0, none⟩) DS.length DS.length] 42)) CBH.out.lt).below b7 (Nat.lt_succ_self _))
              have B7 := Lib.hid (((HBW.out.trans (HBI.out.mono HBW.out.size)).alloc (HBW.out.trans (HBI.out.mono HBW.out.size)).size (.cells #[.slice (some ⟨wo.heap.size, 0, none⟩) DS.length DS.length] 42)).trans (b7.mono (Nat.le_succ _)))
              have O7 := Lib.hid o7
              have q7 := C7.out.c2
              have f7 := C7.out.f2
              have l7 := C7.out.lt
              clear q2 f2 lt b7 o7 z7
              go_wp2
              go_roundg (DS.length - (s + 1))
              case measure => omega
              case rel => exact ⟨s + 1, _, ⟨by omega, rfl⟩, by go_num, C7.out.set _, OwnII.setCell O7.out (Nat.lt_succ_self _) _, B7.out.setCell (Nat.le_refl _) _⟩
        · obtain rfl : s = DS.length := by omega
          have r0 := CR.out.below HBW.out CR.out.lt
          obtain ⟨va, vn, vc, rfl, hvn⟩ := HRW.out.form
          have k0 := HCB.out.c0
          have k1 := HCB.out.c1
          have k2 := HCB.out.c2
          have kl := HCB.out.lt
          have q0 := r0.c0
          have q1 := r0.c1
          have q2 := r0.c2
          have f0 := r0.f0
          have f1 := r0.f1
          have f2 := r0.f2
          have rl := r0.lt
          have hne : ¬ w3.heap.size = w.heap.size := by have := CR.out.lt; omega
          have BZ := Lib.hid (B0.out.trans ((B3.out.trans (HBW.out.mono B3.out.size)).mono B0.out.size))
          have hw3 : w.heap.size < w3.heap.size + 1 := by have := CR.out.lt; omega
          have HW3 := Lib.hid hw3
          have HRW2 := Lib.hid (show OwnII wr (w3.heap.size + 1) (.slice va vn vc) (wayW n kd) from by rw [HWY.out]; have h := HRW.out; unfold rowsT at h; rw [List.take_length] at h; exact h)
          clear r0 hw3
          go_wp2
          refine bodyPost_ret (v := .tuple #[.agg #[.int .i64 DS.length, .int .i64 WY.length, .slice va vn vc], .int .i64 0]) (by simp [results, Try.results5, go_sem, q0, q1, q2, rl]) rfl ?_
          exact ⟨_, by rw [HR2.out], by rw [HR2.out]; exact (OwnII.setCell (OwnII.setCell (OwnII.setCell HRW2.out HW3.out _) HW3.out _) HW3.out _).lower (Nat.le_of_lt HW3.out), ((BZ.out.setCell (Nat.le_refl _) _).setCell (Nat.le_refl _) _).setCell (Nat.le_refl _) _⟩
end Go.Proofs.Ytjbjkfahfjoigaa
