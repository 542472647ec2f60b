/-
  FnExactShuffleChain: both answer the same, and leave what they are given as it was. With it: The chain of a shuffle: the program's side.
-/
import Derived.Test.YtjbjkfahfjoigaaZRowShuffleChain15
import Derived.Test.YtjbjkfahfjoigaaZRowShuffleChain17
import Derived.Test.YtjbjkfahfjoigaaZRowShuffleChain10
import Derived.Test.YtjbjkfahfjoigaaZRowShuffleChain5
import Derived.Deep.RegionWith
import Derived.Deep.DeepCutAuto
set_option linter.unusedVariables false
set_option linter.unusedSimpArgs false
namespace Go.Proofs.Ytjbjkfahfjoigaa
open Go.RowKit Go.Sort
def rowsP (DS : List (List Int)) (kd s : Nat) : List (List Int) := (DS.take s).map fun d => rowOf DS (shufL d kd) DS.length

set_option maxRecDepth 100000 in
set_option maxHeartbeats 8000000 in
theorem ImplShuffleChain_any (cards kind : Int) (w : World) : Calls Try.prog 6 #[.int .i64 cards, .int .i64 kind] w (FreshCC w (shufR cards kind)) := by
  have hr : shufR cards kind = if (inR cards 1 3 && inR kind 1 5) = true then ((((decksL cards.toNat cards.toNat).length : Int), ((waysL cards.toNat kind.toNat).length : Int), wayW cards.toNat kind.toNat), 0) else ((0, 0, []), 2) := rfl
  generalize hq1 : inR cards 1 3 = Q1 at hr
  generalize hq2 : inR kind 1 5 = Q2 at hr
  have HQ1 := Lib.hid hq1
  have HQ2 := Lib.hid hq2
  have HR := Lib.hid hr
  have z0 : (w.alloc (.cells #[.int .i64 0, .int .i64 0, .slice none 0 0] 24)).heap.size = w.heap.size + 1 := by simp
  have B0 := Lib.hid (show Below w.heap.size w (w.alloc (.cells #[.int .i64 0, .int .i64 0, .slice none 0 0] 24)) from (Below.refl _ _).alloc (Nat.le_refl _) _)
  obtain ⟨W1, hW1⟩ : ∃ W1, W1 = w.alloc (.cells #[.int .i64 0, .int .i64 0, .slice none 0 0] 24) := ⟨_, rfl⟩
  have C1 := Lib.hid (show ChB W1 w.heap.size 0 0 (.slice none 0 0) from by rw [hW1]; exact ⟨by simp, by simp [go_sem], by simp [go_sem], by simp [go_sem], by simp [go_sem], by simp [go_sem], by simp [go_sem]⟩)
  rw [← hW1] at B0 z0
  have HW1 := Lib.hid hW1.symm
  have Z0 := Lib.hid z0
  clear hq1 hq2 hr hW1 z0
  go_enter Try.func6, Try.ntmps6
  go_upto_region 1 with (fail)
  rw [HW1.out]
  go_wp2_with fail
  refine (inRange_any cards 1 3 W1).mono ?_
  rintro e w1 ⟨rfl, rfl⟩
  rw [HQ1.out]
  cases Q1
  · have HR2 := Lib.hid (show shufR cards kind = ((0, 0, []), 2) from by rw [HR.out]; simp)
    have q0 := C1.out.c0
    have q1 := C1.out.c1
    have q2 := C1.out.c2
    have f2 := C1.out.f2
    have f0 := C1.out.f0
    have f1 := C1.out.f1
    have zl := C1.out.lt
    go_wp2
    refine bodyPost_ret (v := .tuple #[.agg #[.int .i64 0, .int .i64 0, .slice none 0 0], .int .i64 2]) (by simp [results, Try.results6, go_sem, q0, q1, q2, zl]) rfl ?_
    exact ⟨_, by rw [HR2.out], by rw [HR2.out]; exact OwnII.nil _ _, ((B0.out.setCell (Nat.le_refl _) _).setCell (Nat.le_refl _) _).setCell (Nat.le_refl _) _⟩
  · skip
    go_wp2_with fail
    refine (inRange_any kind 1 5 W1).mono ?_
    rintro e w1 ⟨rfl, rfl⟩
    rw [HQ2.out]
    cases Q2
    · have HR2 := Lib.hid (show shufR cards kind = ((0, 0, []), 2) from by rw [HR.out]; simp)
      have q0 := C1.out.c0
      have q1 := C1.out.c1
      have q2 := C1.out.c2
      have f2 := C1.out.f2
      have f0 := C1.out.f0
      have f1 := C1.out.f1
      have zl := C1.out.lt
      go_wp2
      refine bodyPost_ret (v := .tuple #[.agg #[.int .i64 0, .int .i64 0, .slice none 0 0], .int .i64 2]) (by simp [results, Try.results6, go_sem, q0, q1, q2, zl]) rfl ?_
      exact ⟨_, by rw [HR2.out], by rw [HR2.out]; exact OwnII.nil _ _, ((B0.out.setCell (Nat.le_refl _) _).setCell (Nat.le_refl _) _).setCell (Nat.le_refl _) _⟩
    · obtain ⟨hc1, hc3⟩ := inR_iff.1 HQ1.out
      obtain ⟨hk1, hk5⟩ := inR_iff.1 HQ2.out
      obtain ⟨n, rfl⟩ : ∃ n : Nat, cards = (n : Int) := ⟨cards.toNat, by omega⟩
      obtain ⟨kd, rfl⟩ : ∃ kd : Nat, kind = (kd : Int) := ⟨kind.toNat, by omega⟩
      have HR2 := Lib.hid (show shufR (n : Int) (kd : Int) = ((((decksL n n).length : Int), ((waysL n kd).length : Int), wayW n kd), 0) from by rw [HR.out, Int.toNat_natCast, Int.toNat_natCast]; rfl)
      obtain ⟨hK9, hD6, hD0, _, _⟩ := way_fact (n := n) (k := kd) (by omega) (by omega) (by omega) (by omega)
      have hsf := shuf_fact (n := n) (k := kd) (by omega) (by omega) (by omega) (by omega)
      obtain ⟨hse, hsl⟩ := shuf_eq (n := n) (k := kd) (by omega) (by omega) (by omega) (by omega)
      have KD := Lib.hid (decks_any n W1 (by omega) (by omega))
      have hwy : wayW n kd = (decksL n n).map fun d => rowOf (decksL n n) (shufL d kd) (decksL n n).length := by rw [← hse]; rfl
      have KX := Lib.hid (fun (u : Value) (y : List Int) W (ha : SlI W u y) (hy : y.length = n) => show Calls Try.prog 22 #[u] W fun e w' => e = .returned (.int .i64 (findFrom (decksL n n) y 0)) ∧ Below W.heap.size W w' from by rw [← hy]; exact deckIndex_any W ha (by omega) (by omega))
      generalize decksL n n = DS at HR2 hD6 hD0 hsf hsl KD hwy KX
      have HSF := Lib.hid hsf
      have KS := Lib.hid (fun (u : Value) (d : List Int) (hd : d ∈ DS) (Bd : Nat) W (hB : Bd ≤ W.heap.size) (ha : ∀ V, Below Bd W V → SlI V u d) => shuffles_any kd W hB ha (by have := (hsf d hd).1; omega) (by have := (hsf d hd).1; omega) (by omega) (by omega))
      have HWY := Lib.hid hwy
      have hd0 : DS[0] ∈ DS := List.getElem_mem hD0
      rw [show DS.getD 0 [] = DS[0] from by rw [List.getD_eq_getElem?_getD, List.getElem?_eq_getElem hD0]; rfl] at hsl
      generalize (waysL n kd).length = WL at HR2 hK9 hsl
      have HSL := Lib.hid hsl
      have HD0 := Lib.hid hd0
      clear hsf hwy HR hse hsl hd0
      go_wp2_with fail
      refine KD.out.mono ?_
      rintro e w2 ⟨dv, rfl, o2, b2⟩
      obtain ⟨da, dn, dc, rfl, hdn⟩ := o2.form
      have hdn' := hdn.out
      subst hdn'
      have B2 := Lib.hid b2
      have O2 := Lib.hid o2
      have HD := Lib.hid (fun W (h : Below w2.heap.size w2 W) => o2.sl.below h)
      clear b2 o2 KD hdn
      obtain ⟨g0, gof, ra, rc, hae, hgs, gd0, sd0⟩ := (HD.out w2 (Below.refl _ _)).nthJ hD0
      have HAE := Lib.hid hae
      subst hae
      have SD0 := Lib.hid (fun W (h : Below w2.heap.size w2 W) => sd0.below h)
      have i00 : (0 : Int) < (DS.length : Int) := by omega
      rw [Nat.add_zero] at gd0
      have i01 : 0 < DS.length := hD0
      have K1 := Lib.hid (KS.out (.slice ra DS[0].length rc) DS[0] HD0.out w2.heap.size w2 (Nat.le_refl _) (fun V h => SD0.out V h))
      generalize DS[0].length = dl0 at gd0 K1
      clear sd0
      go_wp2_with fail
      refine K1.out.mono ?_
      rintro e w3 ⟨rv, rfl, ⟨a3, c3, rfl⟩, _, b3⟩
      rw [HSL.out]
      have B3 := Lib.hid (B2.out.trans (b3.mono B2.out.size))
      have B23 := Lib.hid b3
      have CR := Lib.hid (C1.out.below B3.out (by have := C1.out.lt; exact this))
      have HD3 := Lib.hid (fun W (h : Below w3.heap.size w3 W) => HD.out W (b3.trans (h.mono b3.size)))
      obtain ⟨WB, hWB⟩ : ∃ WB, WB = w3.alloc (.cells #[.int .i64 DS.length, .int .i64 WL, .slice none 0 0] 24) := ⟨_, rfl⟩
      have zB : WB.heap.size = w3.heap.size + 1 := by rw [hWB]; simp
      have CB := Lib.hid (show ChB WB w3.heap.size DS.length WL (.slice none 0 0) from by rw [hWB]; exact ⟨by simp, by simp [go_sem], by simp [go_sem], by simp [go_sem], by simp [go_sem], by simp [go_sem], by simp [go_sem]⟩)
      have BB := Lib.hid (show Below w3.heap.size w3 WB from by rw [hWB]; exact (Below.refl _ _).alloc (Nat.le_refl _) _)
      have HWB := Lib.hid hWB.symm
      have ZB := Lib.hid zB
      clear hWB zB b3 gd0 K1 HSL
      go_upto_region 5 with (fail)
      rw [HWB.out]
      go_wp2
      go_loopg [35] DS.length (fun f sv wr => ∃ (s : Nat) (v : Value), (s ≤ DS.length ∧ f = DS.length - s) ∧ sv = .int .i64 s ∧ ChB wr w3.heap.size DS.length WL v ∧ OwnII wr (w3.heap.size + 1) v (rowsP DS kd s) ∧ Below w3.heap.size w3 wr)
      case atStart => exact ⟨0, _, ⟨Nat.zero_le _, rfl⟩, rfl, CB.out, OwnII.nil _ _, BB.out⟩
      case round =>
        clear CB BB
        obtain ⟨s, v, ⟨hs, rfl⟩, rfl, hcb, hrows, hbw⟩ := hrel
        have HCB := Lib.hid hcb
        have HRW := Lib.hid hrows
        have HBW := Lib.hid hbw
        by_cases hsD : s < DS.length
        · have i1 : (s : Int) < (DS.length : Int) := by omega
          obtain ⟨wo, hwo⟩ : ∃ wo : World, wo = wr := ⟨_, rfl⟩
          subst hwo
          have hdin := List.getElem_mem hsD
          have HDIN := Lib.hid hdin
          obtain ⟨hdlen, hnx9, hnxy⟩ := HSF.out _ hdin
          have HTS := Lib.hid (show rowsP DS kd (s + 1) = rowsP DS kd s ++ [rowOf DS (shufL DS[s] kd) DS.length] from by unfold rowsP; rw [List.take_succ_eq_append_getElem hsD, List.map_append]; rfl)
          obtain ⟨db, dof, ra2, rc2, hae2, hdb, gd0, sd0⟩ := (HD3.out w3 (Below.refl _ _)).nthJ hsD
          have hq : g0 = db ∧ gof = dof := by simpa using hae2
          obtain ⟨rfl, rfl⟩ := hq
          obtain ⟨d, hd⟩ : ∃ d, d = DS[s] := ⟨_, rfl⟩
          rw [← hd] at hdlen HDIN HTS gd0 sd0 hnx9 hnxy
          rw [hdlen] at gd0 sd0
          have gdc : wo.cell? ⟨g0, gof + s, none⟩ = _ := (hbw.cell (p := ⟨g0, gof + s, none⟩) hdb).trans gd0
          have HDR := Lib.hid (fun W (h : Below w3.heap.size w3 W) => sd0.below h)
          obtain ⟨NX, hNX⟩ : ∃ NX, NX = shufL d kd := ⟨_, rfl⟩
          have HNX := Lib.hid hNX
          rw [← hNX] at HTS hnx9 hnxy
          have HXY := Lib.hid hnxy
          have HRL := Lib.hid (fun i (h : i ≤ NX.length) => rowK_len DS NX DS.length i (by omega))
          have HRB := Lib.hid (fun i (h : i ≤ NX.length) => rowK_bd DS NX DS.length i (by omega))
          have HRS := Lib.hid (show ∀ i (h : i < NX.length), rowK DS NX DS.length (i + 1) = stepR DS (rowK DS NX DS.length i) NX[i] from fun i h => by rw [rowK_succ (by omega)])
          have HRF := Lib.hid (show rowK DS NX DS.length NX.length = rowOf DS NX DS.length from rowK_full DS NX DS.length)
          have HRZ := Lib.hid (rowK_zero DS NX DS.length)
          have s0 : (0 : Int) ≤ (s : Int) := by omega
          clear hcb hrows hbw hdin gd0 sd0 hd hNX hae2 hnxy hdlen
          go_wp2_with (at_make; refine make_i64 wo _ _ rfl rfl DS.length rfl rfl rfl rfl (by omega) ?_)
          intro w5 o5 b5 z5
          have B5 := Lib.hid b5
          have O5 := Lib.hid (show OwnI w5 wo.heap.size (.slice (some ⟨wo.heap.size, 0, none⟩) DS.length DS.length) (rowK DS NX DS.length 0) from by rw [HRZ.out]; exact o5)
          have Z5 := Lib.hid (show wo.heap.size < w5.heap.size from z5)
          have K2 := Lib.hid (KS.out (.slice ra2 n rc2) d HDIN.out w3.heap.size w5 (Nat.le_trans HBW.out.size b5.size) (fun V h => HDR.out V ((HBW.out.trans (b5.mono HBW.out.size)).trans h)))
          clear o5 b5 z5 gdc
          go_wp2_with fail
          refine K2.out.mono ?_
          rw [← HNX.out]
          rintro e w6 ⟨rv6, rfl, ⟨a6, c6, rfl⟩, hx6, b6⟩
          have HX := Lib.hid (fun W (hf : Fs (fun k => k = wo.heap.size) w6 W) => hx6 W (hf.mono (fun k hk => ⟨by subst hk; exact HBW.out.size, by subst hk; exact Z5.out⟩)))
          have B6 := Lib.hid (B5.out.trans (b6.mono B5.out.size))
          have O6 := Lib.hid (O5.out.below b6)
          have Z6 := Lib.hid (show wo.heap.size < w6.heap.size from Nat.lt_of_lt_of_le Z5.out b6.size)
          clear hx6 b6 K2 O5
          go_wp2
          go_loopw [46] (fun iv wi => ∃ i : Nat, i ≤ NX.length ∧ iv = .int .i64 i ∧ OwnI wi wo.heap.size (.slice (some ⟨wo.heap.size, 0, none⟩) DS.length DS.length) (rowK DS NX DS.length i) ∧ Fs (fun k => k = wo.heap.size) w6 wi) (fun iv _ => NX.length - (intOf iv).toNat)
          case atStart => exact ⟨0, Nat.zero_le _, rfl, O6.out, Fs.of_below (Below.refl _ _)⟩
          case round =>
            clear O6
            obtain ⟨i, hi, rfl, hrow, hfi⟩ := hrel
            have HFI := Lib.hid hfi
            have HROW := Lib.hid hrow
            have hx7 := HX.out _ hfi
            clear hrow hfi
            by_cases hiK : i < NX.length
            · have i2 : (i : Int) < (NX.length : Int) := by omega
              obtain ⟨wb, wof, yra, yc, hae, hwb, gy0, sy0⟩ := hx7.nthJ hiK
              subst hae
              obtain ⟨hy1, hy2, hy3⟩ := HXY.out _ (List.getElem_mem hiK)
              have hrs := HRS.out i hiK
              generalize NX[i] = y at gy0 sy0 hy1 hy2 hy3 hrs
              have K3 := Lib.hid (KX.out (.slice yra y.length yc) y wr sy0 hy1)
              obtain ⟨F, hF⟩ : ∃ F : Nat, findFrom DS y 0 = (F : Int) := ⟨(findFrom DS y 0).toNat, by omega⟩
              rw [hF] at hy2 hy3 K3
              have HST := Lib.hid (show rowK DS NX DS.length (i + 1) = (rowK DS NX DS.length i).set F ((rowK DS NX DS.length i).getD F 0 + 1) from by
                rw [hrs]; unfold stepR; rw [hF, Int.toNat_natCast])
              have hFD : F < DS.length := by omega
              generalize y.length = yl at gy0 K3
              have i3 : (0 : Int) ≤ (i : Int) := by omega
              clear hrs hF hy1 hy2 hy3 sy0 hx7
              go_wp2_with fail
              refine K3.out.mono ?_
              rintro e wf ⟨rfl, bf⟩
              have BF := Lib.hid bf
              have FF := Lib.hid (HFI.out.trans (Fs.of_below bf))
              have orow := HROW.out.below bf
              have hFl : F < (rowK DS NX DS.length i).length := by rw [HRL.out i hi]; exact hFD
              have gF := OwnI.cell orow hFl
              have fF := orow.free F
              have hbd := HRB.out i hi F
              rw [show (rowK DS NX DS.length i)[F] = (rowK DS NX DS.length i).getD F 0 from (gD_at hFl).symm] at gF
              have OS0 := orow.set F ((rowK DS NX DS.length i).getD F 0 + 1)
              rw [← HST.out] at OS0
              have OS := Lib.hid OS0
              generalize (rowK DS NX DS.length i).getD F 0 = X at gF hbd OS
              have FS := Lib.hid (Fs.set (S := fun k => k = wo.heap.size) FF.out (a := ⟨wo.heap.size, F, none⟩) rfl (.int .i64 (X + 1)))
              have r1 : IntKind.i64.wrap (X + 1) = X + 1 := IntWalk.i64_in _ (by omega)
              have i8 : (0 : Int) ≤ (F : Int) := by omega
              have i9 : (F : Int) < (DS.length : Int) := by omega
              have hlF : wo.heap.size < wf.heap.size := cell_lt gF
              clear OS0 orow hFl hbd bf gy0
              go_wp2
              go_roundw
              case rel => exact ⟨i + 1, by omega, by go_num, OS.out, FS.out⟩
              case measure => simp [intOf]; omega
            · obtain rfl : i = NX.length := by omega
              have O1 := Lib.hid (show OwnI wr wo.heap.size (.slice (some ⟨wo.heap.size, 0, none⟩) DS.length DS.length) (rowOf DS NX DS.length) from by rw [← HRF.out]; exact HROW.out)
              have B7o := Lib.hid (B6.out.trans (HFI.out.below (B := wo.heap.size) (Nat.le_of_lt Z6.out) (fun k hk => by subst hk; exact Nat.le_refl _)))
              have CB := HCB.out.below B7o.out HCB.out.lt
              have CBH := Lib.hid CB
              obtain ⟨va, vn, vc, rfl, hvn⟩ := HRW.out.form
              have q2 := CB.c2
              have f2 := CB.f2
              have lt := CB.lt
              have hln : (rowsP DS kd s).length < 16777216 := by unfold rowsP; rw [List.length_map, List.length_take]; omega
              have hw3 : w3.heap.size + 1 ≤ wo.heap.size := HCB.out.lt
              clear CB hx7
              go_wp2_with (at_builtin; refine append_row wo wr _ _ rfl rfl rfl HRW.out B7o.out O1.out rfl hln hw3 ?_)
              intro v7 w7 o7 b7 z7
              rw [← HTS.out] at o7
              obtain ⟨a7, n7, c7, rfl, _⟩ := o7.form
              have C7 := Lib.hid ((CBH.out.below ((Below.refl wr.heap.size wr).alloc (Nat.le_refl _) (.cells #[.slice (some ⟨wo.heap.size, 0, none⟩) DS.length DS.length] 42)) CBH.out.lt).below b7 (Nat.lt_succ_self _))
              have B7 := Lib.hid (((HBW.out.trans (B7o.out.mono HBW.out.size)).alloc (HBW.out.trans (B7o.out.mono HBW.out.size)).size (.cells #[.slice (some ⟨wo.heap.size, 0, none⟩) DS.length DS.length] 42)).trans (b7.mono (Nat.le_succ _)))
              have O7 := Lib.hid o7
              have q7 := C7.out.c2
              have f7 := C7.out.f2
              have l7 := C7.out.lt
              clear q2 f2 lt b7 o7 z7
              go_wp2
              go_roundg (DS.length - (s + 1))
              case measure => omega
              case rel => exact ⟨s + 1, _, ⟨by omega, rfl⟩, by go_num, C7.out.set _, OwnII.setCell O7.out (Nat.lt_succ_self _) _, B7.out.setCell (Nat.le_refl _) _⟩
        · obtain rfl : s = DS.length := by omega
          have r0 := CR.out.below HBW.out CR.out.lt
          obtain ⟨va, vn, vc, rfl, hvn⟩ := HRW.out.form
          have k0 := HCB.out.c0
          have k1 := HCB.out.c1
          have k2 := HCB.out.c2
          have kl := HCB.out.lt
          have q0 := r0.c0
          have q1 := r0.c1
          have q2 := r0.c2
          have f0 := r0.f0
          have f1 := r0.f1
          have f2 := r0.f2
          have rl := r0.lt
          have hne : ¬ w3.heap.size = w.heap.size := by have := CR.out.lt; omega
          have BZ := Lib.hid (B0.out.trans ((B3.out.trans (HBW.out.mono B3.out.size)).mono B0.out.size))
          have hw3 : w.heap.size < w3.heap.size + 1 := by have := CR.out.lt; omega
          have HW3 := Lib.hid hw3
          have HRW2 := Lib.hid (show OwnII wr (w3.heap.size + 1) (.slice va vn vc) (wayW n kd) from by rw [HWY.out]; have h := HRW.out; unfold rowsP at h; rw [List.take_length] at h; exact h)
          clear r0 hw3
          go_wp2
          refine bodyPost_ret (v := .tuple #[.agg #[.int .i64 DS.length, .int .i64 WL, .slice va vn vc], .int .i64 0]) (by simp [results, Try.results6, go_sem, q0, q1, q2, rl]) rfl ?_
          exact ⟨_, by rw [HR2.out], by rw [HR2.out]; exact (OwnII.setCell (OwnII.setCell (OwnII.setCell HRW2.out HW3.out _) HW3.out _) HW3.out _).lower (Nat.le_of_lt HW3.out), ((BZ.out.setCell (Nat.le_refl _) _).setCell (Nat.le_refl _) _).setCell (Nat.le_refl _) _⟩
end Go.Proofs.Ytjbjkfahfjoigaa
namespace Go.Proofs.Ytjbjkfahfjoigaa
open Go.RowKit Go.Sort
set_option linter.unusedVariables false
set_option maxRecDepth 100000 in
set_option maxHeartbeats 4000000 in
theorem FnExactShuffleChain_walk (a0 : Int) (a1 : Int) (w : World)  :
    Calls Try.prog 3 #[.int .i64 a0, .int .i64 a1] w fun e w' => e = .returned (.bool true) ∧ Below w.heap.size w w' := by
  have hb0 : Below w.heap.size w w := (Below.refl w.heap.size w)
  go_enter Try.func3, Try.ntmps3
  generalize hR : shufR a0 a1 = R
  have hlen := shufR_len a0 a1
  rw [hR] at hlen
  have HR := Lib.hid hR
  clear hR
  obtain ⟨⟨r0n, r0t, r0e⟩, r1⟩ := R
  have hlen : sumL r0e ≤ 36 := hlen
  have HLEN := Lib.hid hlen
  go_wp2_with fail
  refine (SpecShuffleChain_any a0 a1 _).mono ?_
  rintro e w1 ⟨vw0, rfl, ow0, b1⟩
  have Z1 := Lib.hid b1.size
  rw [HR.out] at ow0 ⊢
  have hb1 := hb0.trans (b1.mono hb0.size)
  clear b1  
  have ow0 : OwnII _ _ _ r0e := ow0
  have ow0 := OwnII.b ow0
  obtain ⟨zw0a, zw0c, _, rfl, _⟩ := id ow0.sl
  have W0 := Lib.hid ow0
  clear ow0
  have bqW0 : Below w1.heap.size w1 (w1.alloc (.cells #[.int .i64 r0n, .int .i64 r0t, .slice zw0a r0e.length zw0c] 24)) := (Below.refl _ _).alloc (Nat.le_refl _) _
  have ZAW0 := Lib.hid (show (w1.alloc (.cells #[.int .i64 r0n, .int .i64 r0t, .slice zw0a r0e.length zw0c] 24)).heap.size = w1.heap.size + 1 from by simp)
  have W0_W0 := Lib.hid (W0.out.below bqW0)
  have hbqW0 := hb1.trans (bqW0.mono hb1.size)
  clear bqW0 W0
  have BW0 := Lib.hid (CellsAt.new w1 [.int .i64 r0n, .int .i64 r0t, .slice zw0a r0e.length zw0c] 24)
  have hd0 := Below.refl (w1.alloc (.cells #[.int .i64 r0n, .int .i64 r0t, .slice zw0a r0e.length zw0c] 24)).heap.size (w1.alloc (.cells #[.int .i64 r0n, .int .i64 r0t, .slice zw0a r0e.length zw0c] 24))
  have HDB := Lib.hid hbqW0
  have HwD : Hid (w.heap.size ≤ (w1.alloc (.cells #[.int .i64 r0n, .int .i64 r0t, .slice zw0a r0e.length zw0c] 24)).heap.size) := hbqW0.size
  have DW0 := Lib.hid (fun W (h : Below (w1.alloc (.cells #[.int .i64 r0n, .int .i64 r0t, .slice zw0a r0e.length zw0c] 24)).heap.size (w1.alloc (.cells #[.int .i64 r0n, .int .i64 r0t, .slice zw0a r0e.length zw0c] 24)) W) => W0_W0.out.below h)
  have DBW0 := Lib.hid (fun W (h : Below (w1.alloc (.cells #[.int .i64 r0n, .int .i64 r0t, .slice zw0a r0e.length zw0c] 24)).heap.size (w1.alloc (.cells #[.int .i64 r0n, .int .i64 r0t, .slice zw0a r0e.length zw0c] 24)) W) => BW0.out.below h)
  obtain ⟨NB, hNB⟩ : ∃ n, n = (w1.alloc (.cells #[.int .i64 r0n, .int .i64 r0t, .slice zw0a r0e.length zw0c] 24)).heap.size := ⟨_, rfl⟩
  have HNB := Lib.hid hNB
  clear hNB
  go_wp2_with fail
  refine (ImplShuffleChain_any a0 a1 _).mono ?_
  rintro e w2 ⟨vg0, rfl, og0, b2⟩
  have Z2 := Lib.hid b2.size
  rw [HR.out] at og0 ⊢
  have hb2 := hbqW0.trans (b2.mono hbqW0.size)
  have hd2 := hd0.trans (b2.mono hd0.size)
  have W0_2 := Lib.hid (W0_W0.out.below b2)
  have BW0_2 := Lib.hid (BW0.out.below b2)
  clear b2 W0_W0 BW0  hd0
  have og0 : OwnII _ _ _ r0e := og0
  have og0 := OwnII.b og0
  obtain ⟨zg0a, zg0c, _, rfl, _⟩ := id og0.sl
  rw [← HNB.out] at og0
  have HGS : Hid (∀ k, (fun k => NB ≤ k ∧ k < w2.heap.size) k → NB ≤ k ∧ k < w2.heap.size) := fun k hk => hk
  have G0 := Lib.hid og0
  clear og0
  have bqG0 : Below w2.heap.size w2 (w2.alloc (.cells #[.int .i64 r0n, .int .i64 r0t, .slice zg0a r0e.length zg0c] 24)) := (Below.refl _ _).alloc (Nat.le_refl _) _
  have ZAG0 := Lib.hid (show (w2.alloc (.cells #[.int .i64 r0n, .int .i64 r0t, .slice zg0a r0e.length zg0c] 24)).heap.size = w2.heap.size + 1 from by simp)
  have W0_G0 := Lib.hid (W0_2.out.below bqG0)
  have BW0_G0 := Lib.hid (BW0_2.out.below bqG0)
  have G0_G0 := Lib.hid (G0.out.below bqG0)
  have hbqG0 := hb2.trans (bqG0.mono hb2.size)
  have hdqG0 := hd2.trans (bqG0.mono hd2.size)
  clear bqG0 W0_2 BW0_2 G0 hd2
  have BG0 := Lib.hid (CellsAt.new w2 [.int .i64 r0n, .int .i64 r0t, .slice zg0a r0e.length zg0c] 24)
  have cBG00 := BG0.out.get 0 _ rfl
  have cBG01 := BG0.out.get 1 _ rfl
  have cBG02 := BG0.out.get 2 _ rfl
  have cBW00 := BW0_G0.out.get 0 _ rfl
  have cBW01 := BW0_G0.out.get 1 _ rfl
  have cBW02 := BW0_G0.out.get 2 _ rfl
  go_wp2_with fail
  refine (eqChain_refl r0n r0t _ G0_G0.out.sl W0_G0.out.sl).mono ?_
  rintro e w3 ⟨rfl, b3⟩
  have Z3 := Lib.hid b3.size
  have hb3 := hbqG0.trans (b3.mono hbqG0.size)
  have hd3 := hdqG0.trans (b3.mono hdqG0.size)
  have W0_3 := Lib.hid (W0_G0.out.below b3)
  have BW0_3 := Lib.hid (BW0_G0.out.below b3)
  have G0_3 := Lib.hid (G0_G0.out.below b3)
  have BG0_3 := Lib.hid (BG0.out.below b3)
  clear b3 W0_G0 BW0_G0 G0_G0 BG0 cBG00 cBG01 cBG02 cBW00 cBW01 cBW02 hdqG0
  have hr_1 : (r1 != r1) = false := by simp
  have cBG00 := BG0_3.out.get 0 _ rfl
  have cBG01 := BG0_3.out.get 1 _ rfl
  have cBG02 := BG0_3.out.get 2 _ rfl
  go_wp2_with fail
  refine (markChain_held r0n r0t 1 NB _ _ (by omega) (by have := HLEN.out; omega) G0_3.out).mono ?_
  rintro e w4 ⟨rfl, og1, b4⟩
  have Z4 := Lib.hid b4.size
  have fg : Fs (fun k => NB ≤ k ∧ k < w2.heap.size) _ _ := Fs.of_mid b4
  have hd4 := hd3.trans (fg.below (B := (w1.alloc (.cells #[.int .i64 r0n, .int .i64 r0t, .slice zw0a r0e.length zw0c] 24)).heap.size) (by have := Z1.out; have := ZAW0.out; have := HNB.out; have := Z2.out; have := ZAG0.out; have := Z3.out; have := Z4.out; omega) (fun k hk => by have := (HGS.out k hk).1; have := Z1.out; have := ZAW0.out; have := HNB.out; have := Z2.out; have := ZAG0.out; have := Z3.out; have := Z4.out; omega))
  have W0_4 := Lib.hid (DW0.out _ hd4)
  have BW0_4 := Lib.hid (DBW0.out _ hd4)
  have BG0_4 := Lib.hid (BG0_3.out.fs fg (fun hk => by have := (HGS.out _ hk).2; omega))
  have hb4 := HDB.out.trans (hd4.mono HwD.out)
  clear b4 fg hb3 hd3 W0_3 BW0_3 G0_3 BG0_3 cBG00 cBG01 cBG02
  have G1 := Lib.hid og1
  clear og1
  have hq0 : ¬ (1 + (sumL r0e : Int) : Int) < 0 := by omega
  have hq1 : ((1 + (sumL r0e : Int) : Int) != (1 + (sumL r0e : Int))) = false := by simp
  have cBG00 := BG0_4.out.get 0 _ rfl
  have cBG01 := BG0_4.out.get 1 _ rfl
  have cBG02 := BG0_4.out.get 2 _ rfl
  go_wp2_with fail
  refine (heldChain_any r0n r0t 1 _ (by omega) (by have := HLEN.out; omega) G1.out.sl).mono ?_
  rintro e w5 ⟨rfl, b5⟩
  have Z5 := Lib.hid b5.size
  have hb5 := hb4.trans (b5.mono hb4.size)
  have hd5 := hd4.trans (b5.mono hd4.size)
  have W0_5 := Lib.hid (W0_4.out.below b5)
  have BW0_5 := Lib.hid (BW0_4.out.below b5)
  have BG0_5 := Lib.hid (BG0_4.out.below b5)
  have G1_5 := Lib.hid (G1.out.below b5)
  clear b5 W0_4 BW0_4 BG0_4 G1 cBG00 cBG01 cBG02 hd4
  go_wp2_with fail
  refine (ImplShuffleChain_any a0 a1 _).mono ?_
  rintro e w6 ⟨vh0, rfl, oh0, b6⟩
  have Z6 := Lib.hid b6.size
  rw [HR.out] at oh0 ⊢
  have hb6 := hb5.trans (b6.mono hb5.size)
  have hd6 := hd5.trans (b6.mono hd5.size)
  have W0_6 := Lib.hid (W0_5.out.below b6)
  have BW0_6 := Lib.hid (BW0_5.out.below b6)
  have BG0_6 := Lib.hid (BG0_5.out.below b6)
  have G1_6 := Lib.hid (G1_5.out.below b6)
  clear b6 W0_5 BW0_5 BG0_5 G1_5  hd5
  have oh0 : OwnII _ _ _ r0e := oh0
  have oh0 := OwnII.b oh0
  obtain ⟨zh0a, zh0c, _, rfl, _⟩ := id oh0.sl
  have HH := Lib.hid oh0
  clear oh0
  have bqHH : Below w6.heap.size w6 (w6.alloc (.cells #[.int .i64 r0n, .int .i64 r0t, .slice zh0a r0e.length zh0c] 24)) := (Below.refl _ _).alloc (Nat.le_refl _) _
  have ZAHH := Lib.hid (show (w6.alloc (.cells #[.int .i64 r0n, .int .i64 r0t, .slice zh0a r0e.length zh0c] 24)).heap.size = w6.heap.size + 1 from by simp)
  have W0_HH := Lib.hid (W0_6.out.below bqHH)
  have BW0_HH := Lib.hid (BW0_6.out.below bqHH)
  have BG0_HH := Lib.hid (BG0_6.out.below bqHH)
  have G1_HH := Lib.hid (G1_6.out.below bqHH)
  have HH_HH := Lib.hid (HH.out.below bqHH)
  have hbqHH := hb6.trans (bqHH.mono hb6.size)
  have hdqHH := hd6.trans (bqHH.mono hd6.size)
  clear bqHH W0_6 BW0_6 BG0_6 G1_6 HH hd6
  have BHH := Lib.hid (CellsAt.new w6 [.int .i64 r0n, .int .i64 r0t, .slice zh0a r0e.length zh0c] 24)
  have cBHH0 := BHH.out.get 0 _ rfl
  have cBHH1 := BHH.out.get 1 _ rfl
  have cBHH2 := BHH.out.get 2 _ rfl
  have cBW00 := BW0_HH.out.get 0 _ rfl
  have cBW01 := BW0_HH.out.get 1 _ rfl
  have cBW02 := BW0_HH.out.get 2 _ rfl
  go_wp2_with fail
  refine (eqChain_refl r0n r0t _ HH_HH.out.sl W0_HH.out.sl).mono ?_
  rintro e w7 ⟨rfl, b7⟩
  have Z7 := Lib.hid b7.size
  have hb7 := hbqHH.trans (b7.mono hbqHH.size)
  have hd7 := hdqHH.trans (b7.mono hdqHH.size)
  have W0_7 := Lib.hid (W0_HH.out.below b7)
  have BW0_7 := Lib.hid (BW0_HH.out.below b7)
  have BG0_7 := Lib.hid (BG0_HH.out.below b7)
  have G1_7 := Lib.hid (G1_HH.out.below b7)
  have HH_7 := Lib.hid (HH_HH.out.below b7)
  have BHH_7 := Lib.hid (BHH.out.below b7)
  clear b7 W0_HH BW0_HH BG0_HH G1_HH HH_HH BHH cBHH0 cBHH1 cBHH2 cBW00 cBW01 cBW02 hdqHH
  have cBG00 := BG0_7.out.get 0 _ rfl
  have cBG01 := BG0_7.out.get 1 _ rfl
  have cBG02 := BG0_7.out.get 2 _ rfl
  go_wp2_with fail
  refine (heldChain_any r0n r0t 1 _ (by omega) (by have := HLEN.out; omega) G1_7.out.sl).mono ?_
  rintro e w8 ⟨rfl, b8⟩
  have Z8 := Lib.hid b8.size
  have hb8 := hb7.trans (b8.mono hb7.size)
  have hd8 := hd7.trans (b8.mono hd7.size)
  have W0_8 := Lib.hid (W0_7.out.below b8)
  have BW0_8 := Lib.hid (BW0_7.out.below b8)
  have BG0_8 := Lib.hid (BG0_7.out.below b8)
  have G1_8 := Lib.hid (G1_7.out.below b8)
  have HH_8 := Lib.hid (HH_7.out.below b8)
  have BHH_8 := Lib.hid (BHH_7.out.below b8)
  clear b8 W0_7 BW0_7 BG0_7 G1_7 HH_7 BHH_7 cBG00 cBG01 cBG02 hd7
  go_wp2
  go_ret
  exact ⟨rfl, hb8⟩
end Go.Proofs.Ytjbjkfahfjoigaa
