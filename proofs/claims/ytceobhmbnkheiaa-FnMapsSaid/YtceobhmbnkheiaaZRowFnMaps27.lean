/-
  Tidy maps: the reference's walk.
-/
import Derived.Test.YtceobhmbnkheiaaZRowFnMaps26
import Derived.Test.YtceobhmbnkheiaaZRowFnMaps5
import Derived.Test.YtceobhmbnkheiaaZRowFnMaps22
set_option linter.unusedVariables false
set_option linter.unusedSimpArgs false
namespace Go.Proofs.Ytceobhmbnkheiaa
open Go.RowKit Go.Sort

set_option maxRecDepth 100000 in
set_option maxHeartbeats 16000000 in
theorem SpecTidyMaps_any {v : Value} {ms : List (Int × List Int)} (n T : Nat) (w : World) (ha : SlM w v ms) (hv : mapsOk n T ms) :
    Calls Try.prog 22 #[.agg #[.int .i64 n, .int .i64 T, v]] w fun e w' => ∃ r, e = .returned (.tuple #[.agg #[.int .i64 n, .int .i64 T, r], .int .i64 0]) ∧ OwnM w' w.heap.size r (tidyM ms) ∧ Below w.heap.size w w' := by
  have HA := Lib.hid (fun W (h : Below w.heap.size w W) => ha.below h)
  obtain ⟨a, ca, rfl, hca, hca2⟩ := ha.form
  unfold maxLen at hca2
  have HV := Lib.hid hv
  obtain ⟨⟨hn1, hn6⟩, ⟨ht1, ht60⟩, ⟨hl1, hl60⟩, hrow, _⟩ := id hv
  have HROW := Lib.hid hrow
  obtain ⟨W1, hW1⟩ : ∃ W1, W1 = w.alloc (.cells #[.int .i64 n, .int .i64 T, .slice a ms.length ca] 26) := ⟨_, rfl⟩
  obtain ⟨W2, hW2⟩ : ∃ W2, W2 = W1.alloc (.cells #[.int .i64 0, .int .i64 0, .slice none 0 0] 26) := ⟨_, rfl⟩
  have z1 : W1.heap.size = w.heap.size + 1 := by rw [hW1]; simp
  have z2 : W2.heap.size = w.heap.size + 1 + 1 := by rw [hW2]; simp [z1]
  have b1 : Below w.heap.size w W1 := by rw [hW1]; exact (Below.refl _ _).alloc (Nat.le_refl _) _
  have b2 : Below W1.heap.size W1 W2 := by rw [hW2]; exact (Below.refl _ _).alloc (Nat.le_refl _) _
  have X := Lib.hid (show MpAt W2 w.heap.size n T (.slice a ms.length ca) from (show MpAt W1 w.heap.size n T (.slice a ms.length ca) by rw [hW1]; exact MpAt.new w n T _).below b2)
  have R := Lib.hid (show Box3 W2 (w.heap.size + 1) 0 0 (.slice none 0 0) by rw [hW2, ← z1]; exact Box3.newM W1 0 0 _)
  have BA := Lib.hid (b1.trans (b2.mono b1.size))
  have HW1 := Lib.hid hW1.symm
  have HW2 := Lib.hid hW2.symm
  have Z2 := Lib.hid z2
  obtain ⟨x0, x1, x2, x3⟩ := X.out
  clear ha hv hW1 hW2 b1 b2 z1 z2 hrow
  go_enter Try.func22, Try.ntmps22
  go_wp2_with fail
  rw [HW1.out, HW2.out]
  refine (l05Ok_ok _ _ X.out (HA.out _ BA.out) HV.out).mono ?_
  rintro e w3 ⟨rfl, b3⟩
  have X3 := Lib.hid (fun W (h : Below w3.heap.size w3 W) => (X.out.below b3).below h)
  have B3 := Lib.hid (BA.out.trans (b3.mono BA.out.size))
  have R3 := Lib.hid (R.out.fs (S := fun _ => False) (Fs.of_below b3) (fun h => h))
  have Z3 := Lib.hid (show w.heap.size + 1 + 1 ≤ w3.heap.size by have := b3.size; have := Z2.out; omega)
  clear b3 x0 x1 x2 x3
  obtain ⟨x0, x1, x2, x3⟩ := X3.out _ (Below.refl _ _)
  obtain ⟨W4, hW4⟩ : ∃ W4, W4 = w3.alloc (.cells #[.int .i64 n, .int .i64 T, .slice none 0 0] 26) := ⟨_, rfl⟩
  have b4 : Below w3.heap.size w3 W4 := by rw [hW4]; exact (Below.refl _ _).alloc (Nat.le_refl _) _
  have X4 := Lib.hid (show Box3 W4 w3.heap.size n T (.slice none 0 0) by rw [hW4]; exact Box3.newM w3 n T _)
  have B4 := Lib.hid (B3.out.trans (b4.mono B3.out.size))
  have Z4 := Lib.hid (show W4.heap.size = w3.heap.size + 1 by rw [hW4]; simp)
  have R4 := Lib.hid (R3.out.fs (S := fun _ => False) (Fs.of_below b4) (fun h => h))
  have HX := Lib.hid (fun W (h : Below w3.heap.size W4 W) => X3.out W (b4.trans h))
  have HW4 := Lib.hid hW4.symm
  have B0 := Lib.hid (Below.refl w3.heap.size W4)
  clear b4 hW4
  go_upto_region 4 with (fail)
  rw [HW4.out]
  clear x0 x1 x2 x3
  obtain ⟨x0, x1, x2, x3⟩ := HX.out _ B0.out
  clear x0 x1 x2 x3
  go_wp2
  go_loopw [5] (fun iv wr => ∃ (i : Nat) (v : Value), i ≤ ms.length ∧ iv = .int .i64 i ∧ Box3 wr w3.heap.size n T v ∧ OwnM wr (w3.heap.size + 1) v (tidyM (ms.take i)) ∧ Below w3.heap.size W4 wr) (fun iv _ => ms.length - (intOf iv).toNat)
  case atStart => exact ⟨0, _, Nat.zero_le _, rfl, X4.out, OwnM.nil _ _, B0.out⟩
  case round =>
    clear B0
    obtain ⟨i, v, hi, rfl, hbox, hown, hbw⟩ := hrel
    have HBX := Lib.hid hbox
    have HO := Lib.hid hown
    have HBW := Lib.hid hbw
    have HBw := Lib.hid (B4.out.trans (hbw.mono (by have := Z3.out; omega)))
    have hzr : w3.heap.size + 1 ≤ wr.heap.size := by have := hbw.size; have := Z4.out; omega
    have i0 : (0 : Int) ≤ (i : Int) := by omega
    clear hbw
    obtain ⟨x0, x1, x2, x3⟩ := HX.out _ HBW.out
    by_cases him : i < ms.length
    · have i1 : (i : Int) < (ms.length : Int) := by omega
      obtain ⟨mb, mo, ra, rca, wt, tl, hae, hmb, hwt, htl, gm1, gm2, sm⟩ := (HA.out _ HBw.out).atJ2 him
      subst hae
      have hr := HROW.out _ (List.getElem_mem him)
      have hwb := HV.out.wt him
      have hst := tidy_step him
      have HWT := Lib.hid hwt.symm
      rw [← htl, ← hwt] at hr hst
      rw [← hwt] at hwb
      have hdl := tidy_len i hi
      have hdw := tidy_wt HV.out hi
      have HST := Lib.hid hst
      have htn : tl.length ≤ 6 := by have := hr.2.1; omega
      have GM := Lib.hid (fun W (h : Below wr.heap.size wr W) => show W.cell? ⟨w.heap.size, 2, none⟩ = some (.slice (some ⟨mb, mo, none⟩) ms.length ca) ∧ W.cell? ⟨mb, mo + i * 2, none⟩ = some (.int .i64 wt) ∧ W.cell? ⟨mb, mo + i * 2 + 1, none⟩ = some (.slice ra tl.length rca) from ⟨(h.cell (p := ⟨w.heap.size, 2, none⟩) (cell_lt x3)).trans x3, (h.cell (p := ⟨mb, mo + i * 2, none⟩) (cell_lt gm1)).trans gm1, (h.cell (p := ⟨mb, mo + i * 2 + 1, none⟩) (cell_lt gm2)).trans gm2⟩)
      have SX := Lib.hid (fun W (h : Below wr.heap.size wr W) => sm.below h)
      have OB := Lib.hid (fun W (h : Below wr.heap.size wr W) => hown.below h)
      have BXB := Lib.hid (fun W (h : Below wr.heap.size wr W) => hbox.fs (S := fun _ => False) (Fs.of_below h) (fun h => h))
      have hix0 := ixM_spec tl (tidyM (ms.take i)) 0
      have HIX := Lib.hid (show ixM tl (tidyM (ms.take i)) 0 = ixM tl ((tidyM (ms.take i)).drop 0) 0 from rfl)
      generalize tidyM (ms.take i) = D at HO OB HST hdl hdw hix0 HIX
      obtain ⟨va, vn, vc, rfl, hvn⟩ := HO.out.formJ
      have hvn1 := hvn.out
      subst hvn1
      obtain ⟨wo, rfl⟩ : ∃ wo : World, wo = wr := ⟨_, rfl⟩
      have HIXS := Lib.hid hix0
      clear hst hr hwt htl sm hown hbox gm1 gm2 hix0 hvn
      go_wp2
      clear x0 x1 x2 x3
      go_loopw [6] (fun jv wi => ∃ q : Nat, q ≤ D.length ∧ jv = .int .i64 q ∧ Hid (ixM tl D 0 = ixM tl (D.drop q) q) ∧ Below wo.heap.size wo wi) (fun jv _ => D.length - (intOf jv).toNat)
      case atStart => exact ⟨0, Nat.zero_le _, rfl, HIX.out, Below.refl _ _⟩
      case round =>
        obtain ⟨q, hq, rfl, hno, hbi⟩ := hrel
        have HBI := Lib.hid hbi
        obtain ⟨m1, m2, m3⟩ := GM.out _ hbi
        have hbx := BXB.out _ hbi
        have c2 := hbx.c.get 2 _ rfl
        have q0 : (0 : Int) ≤ (q : Int) := by omega
        have hzi : w3.heap.size + 1 ≤ wr.heap.size := Nat.le_trans hzr hbi.size
        clear hbi hbx
        by_cases hqn : q < D.length
        · have q1 : (q : Int) < (D.length : Int) := by omega
          have t2 : ((q : Int) == (D.length : Int)) = false := by rw [beq_eq_false_iff_ne]; omega
          have hst := ixM_step (tl := tl) hqn
          obtain ⟨gl, gc, hge, hgb, hgl⟩ := (OB.out _ HBI.out).some (by omega)
          simp only [Value.slice.injEq, true_and] at hge
          obtain ⟨rfl, rfl⟩ := hge
          obtain ⟨mb2, mo2, ra2, rca2, wt2, ys, hae, _, hwt2, hys, gd1, gd2, sd⟩ := (OB.out _ HBI.out).sl.atJ2 hqn
          simp only [Option.some.injEq, Addr.mk.injEq, and_true] at hae
          obtain ⟨rfl, rfl⟩ := hae
          simp only [Nat.zero_add] at gd1 gd2
          rw [← hys] at hst
          have HS := Lib.hid hst
          have SD := Lib.hid (fun W (h : Below wr.heap.size wr W) => sd.below h)
          clear hst hys sd gd1 hwt2
          go_wp2_with fail
          refine wpX_start (fun W => W.cell? ⟨w3.heap.size, 2, none⟩ = some (.slice (some ⟨gl, 0, none⟩) D.length vc) ∧ W.cell? ⟨w.heap.size, 2, none⟩ = some (.slice (some ⟨mb, mo, none⟩) ms.length ca) ∧ W.cell? ⟨gl, q * 2 + 1, none⟩ = some (.slice ra2 ys.length rca2) ∧ W.cell? ⟨mb, mo + i * 2 + 1, none⟩ = some (.slice ra tl.length rca)) [] (by kernel_rfl) ?_
          have bd : Below wr.heap.size wr wr.drew := (Below.refl _ _).drew
          have CC := Lib.hid (fun V (h : Below wr.heap.size wr V) => show (fun W : World => W.cell? ⟨w3.heap.size, 2, none⟩ = some (.slice (some ⟨gl, 0, none⟩) D.length vc) ∧ W.cell? ⟨w.heap.size, 2, none⟩ = some (.slice (some ⟨mb, mo, none⟩) ms.length ca) ∧ W.cell? ⟨gl, q * 2 + 1, none⟩ = some (.slice ra2 ys.length rca2) ∧ W.cell? ⟨mb, mo + i * 2 + 1, none⟩ = some (.slice ra tl.length rca)) V from ⟨(h.cell (p := ⟨w3.heap.size, 2, none⟩) (cell_lt c2)).trans c2, (h.cell (p := ⟨w.heap.size, 2, none⟩) (cell_lt m1)).trans m1, (h.cell (p := ⟨gl, q * 2 + 1, none⟩) (cell_lt gd2)).trans gd2, (h.cell (p := ⟨mb, mo + i * 2 + 1, none⟩) (cell_lt m3)).trans m3⟩)
          have hC := CC.out _ bd
          clear c2 m1 gd2 m2 m3
          refine wpX_free (i := 0) (v := ?_) rfl (by kernel_rfl) (fun _ _ _ h => h) rfl (fun w' => ?_) ?_
          rotate_left
          · go_simp; try with_reducible rfl
          try simp only [Act.put, List.getElem_toArray, List.getElem_cons_zero, List.getElem_cons_succ, List.setIfInBounds_toArray, List.set_cons_zero, List.set_cons_succ]
          refine wpX_free (i := 1) (v := ?_) rfl (by kernel_rfl) (fun _ _ _ h => h) rfl (fun w' => ?_) ?_
          rotate_left
          · go_simp; try with_reducible rfl
          try simp only [Act.put, List.getElem_toArray, List.getElem_cons_zero, List.getElem_cons_succ, List.setIfInBounds_toArray, List.set_cons_zero, List.set_cons_succ]
          refine wpX_load (i := 2) (v := ?_) rfl (by kernel_rfl) (fun _ _ _ h => h) hC rfl (fun w' hw' => ?_) ?_
          rotate_left
          · obtain ⟨k1, k2, k3, k4⟩ := hw'; go_simp; try with_reducible rfl
          try simp only [Act.put, List.getElem_toArray, List.getElem_cons_zero, List.getElem_cons_succ, List.setIfInBounds_toArray, List.set_cons_zero, List.set_cons_succ]
          refine wpX_free (i := 3) (v := ?_) rfl (by kernel_rfl) (fun _ _ _ h => h) rfl (fun w' => ?_) ?_
          rotate_left
          · go_simp; try with_reducible rfl
          try simp only [Act.put, List.getElem_toArray, List.getElem_cons_zero, List.getElem_cons_succ, List.setIfInBounds_toArray, List.set_cons_zero, List.set_cons_succ]
          refine wpX_free (i := 4) (v := ?_) rfl (by kernel_rfl) (fun _ _ _ h => h) rfl (fun w' => ?_) ?_
          rotate_left
          · go_simp; try with_reducible rfl
          try simp only [Act.put, List.getElem_toArray, List.getElem_cons_zero, List.getElem_cons_succ, List.setIfInBounds_toArray, List.set_cons_zero, List.set_cons_succ]
          refine wpX_free (i := 5) (v := ?_) rfl (by kernel_rfl) (fun _ _ _ h => h) rfl (fun w' => ?_) ?_
          rotate_left
          · go_simp; try with_reducible rfl
          try simp only [Act.put, List.getElem_toArray, List.getElem_cons_zero, List.getElem_cons_succ, List.setIfInBounds_toArray, List.set_cons_zero, List.set_cons_succ]
          refine wpX_free (i := 6) (v := ?_) rfl (by kernel_rfl) (fun _ _ _ h => h) rfl (fun w' => ?_) ?_
          rotate_left
          · go_simp; try with_reducible rfl
          try simp only [Act.put, List.getElem_toArray, List.getElem_cons_zero, List.getElem_cons_succ, List.setIfInBounds_toArray, List.set_cons_zero, List.set_cons_succ]
          refine wpX_load (i := 7) (v := ?_) rfl (by kernel_rfl) (fun _ _ _ h => h) hC rfl (fun w' hw' => ?_) ?_
          rotate_left
          · obtain ⟨k1, k2, k3, k4⟩ := hw'; go_simp; try with_reducible rfl
          try simp only [Act.put, List.getElem_toArray, List.getElem_cons_zero, List.getElem_cons_succ, List.setIfInBounds_toArray, List.set_cons_zero, List.set_cons_succ]
          refine wpX_free (i := 8) (v := ?_) rfl (by kernel_rfl) (fun _ _ _ h => h) rfl (fun w' => ?_) ?_
          rotate_left
          · go_simp; try with_reducible rfl
          try simp only [Act.put, List.getElem_toArray, List.getElem_cons_zero, List.getElem_cons_succ, List.setIfInBounds_toArray, List.set_cons_zero, List.set_cons_succ]
          refine wpX_free (i := 9) (v := ?_) rfl (by kernel_rfl) (fun _ _ _ h => h) rfl (fun w' => ?_) ?_
          rotate_left
          · go_simp; try with_reducible rfl
          try simp only [Act.put, List.getElem_toArray, List.getElem_cons_zero, List.getElem_cons_succ, List.setIfInBounds_toArray, List.set_cons_zero, List.set_cons_succ]
          refine wpX_free (i := 10) (v := ?_) rfl (by kernel_rfl) (fun _ _ _ h => h) rfl (fun w' => ?_) ?_
          rotate_left
          · go_simp; try with_reducible rfl
          try simp only [Act.put, List.getElem_toArray, List.getElem_cons_zero, List.getElem_cons_succ, List.setIfInBounds_toArray, List.set_cons_zero, List.set_cons_succ]
          refine wpX_load (i := 11) (v := ?_) rfl (by kernel_rfl) (fun _ _ _ h => h) hC rfl (fun w' hw' => ?_) ?_
          rotate_left
          · obtain ⟨k1, k2, k3, k4⟩ := hw'; go_simp; try with_reducible rfl
          try simp only [Act.put, List.getElem_toArray, List.getElem_cons_zero, List.getElem_cons_succ, List.setIfInBounds_toArray, List.set_cons_zero, List.set_cons_succ]
          refine wpX_free (i := 12) (v := ?_) rfl (by kernel_rfl) (fun _ _ _ h => h) rfl (fun w' => ?_) ?_
          rotate_left
          · go_simp; try with_reducible rfl
          try simp only [Act.put, List.getElem_toArray, List.getElem_cons_zero, List.getElem_cons_succ, List.setIfInBounds_toArray, List.set_cons_zero, List.set_cons_succ]
          refine wpX_load (i := 13) (v := ?_) rfl (by kernel_rfl) (fun _ _ _ h => h) hC rfl (fun w' hw' => ?_) ?_
          rotate_left
          · obtain ⟨k1, k2, k3, k4⟩ := hw'; go_simp; try with_reducible rfl
          try simp only [Act.put, List.getElem_toArray, List.getElem_cons_zero, List.getElem_cons_succ, List.setIfInBounds_toArray, List.set_cons_zero, List.set_cons_succ]
          refine wpX_free (i := 14) (v := ?_) rfl (by kernel_rfl) (fun _ _ _ h => h) rfl (fun w' => ?_) ?_
          rotate_left
          · go_simp; try with_reducible rfl
          try simp only [Act.put, List.getElem_toArray, List.getElem_cons_zero, List.getElem_cons_succ, List.setIfInBounds_toArray, List.set_cons_zero, List.set_cons_succ]
          refine wpX_free (i := 15) (v := ?_) rfl (by kernel_rfl) (fun _ _ _ h => h) rfl (fun w' => ?_) ?_
          rotate_left
          · go_simp; try with_reducible rfl
          try simp only [Act.put, List.getElem_toArray, List.getElem_cons_zero, List.getElem_cons_succ, List.setIfInBounds_toArray, List.set_cons_zero, List.set_cons_succ]
          refine wpX_free (i := 16) (v := ?_) rfl (by kernel_rfl) (fun _ _ _ h => h) rfl (fun w' => ?_) ?_
          rotate_left
          · go_simp; try with_reducible rfl
          try simp only [Act.put, List.getElem_toArray, List.getElem_cons_zero, List.getElem_cons_succ, List.setIfInBounds_toArray, List.set_cons_zero, List.set_cons_succ]
          refine wpX_load (i := 17) (v := ?_) rfl (by kernel_rfl) (fun _ _ _ h => h) hC rfl (fun w' hw' => ?_) ?_
          rotate_left
          · obtain ⟨k1, k2, k3, k4⟩ := hw'; go_simp; try with_reducible rfl
          try simp only [Act.put, List.getElem_toArray, List.getElem_cons_zero, List.getElem_cons_succ, List.setIfInBounds_toArray, List.set_cons_zero, List.set_cons_succ]
          refine wpX_oneG (i := 18) rfl (by kernel_rfl) rfl ?_
          intro K2 hK2
          go_simp
          go_at_call 67
          refine (l00Same_any _ (SD.out _ bd) (SX.out _ (HBI.out.trans (bd.mono HBI.out.size)))).mono ?_
          rintro e w8 ⟨he, bq⟩
          generalize hdd : decide (ys = tl) = d at he
          have HD := Lib.hid hdd
          subst he
          have BQ := Lib.hid (bd.trans (bq.mono bd.size))
          refine hK2 _ _ (CC.out _ BQ.out) ?_
          clear hK2 K2 hdd
          try simp only [Act.put, List.getElem_toArray, List.getElem_cons_zero, List.getElem_cons_succ, List.setIfInBounds_toArray, List.set_cons_zero, List.set_cons_succ]
          refine wpX_free (i := 19) (v := ?_) rfl (by kernel_rfl) (fun _ _ _ h => h) rfl (fun w' => ?_) ?_
          rotate_left
          · go_simp; try with_reducible rfl
          try simp only [Act.put, List.getElem_toArray, List.getElem_cons_zero, List.getElem_cons_succ, List.setIfInBounds_toArray, List.set_cons_zero, List.set_cons_succ]
          refine wpX_free (i := 20) (v := ?_) rfl (by kernel_rfl) (fun _ _ _ h => h) rfl (fun w' => ?_) ?_
          rotate_left
          · go_simp; try with_reducible rfl
          try simp only [Act.put, List.getElem_toArray, List.getElem_cons_zero, List.getElem_cons_succ, List.setIfInBounds_toArray, List.set_cons_zero, List.set_cons_succ]
          refine wpX_rest (t := []) (l := []) rfl (by kernel_rfl) (by kernel_rfl) ?_
          try simp only [List.getElem_toArray, List.getElem_cons_zero, List.getElem_cons_succ]
          clear hC bd bq
          have HB8 := Lib.hid (HBI.out.trans (BQ.out.mono HBI.out.size))
          cases d
          · have HN := Lib.hid (show ¬ ys = tl from fun e => by have := HD.out; simp [e] at this)
            go_wp2
            go_roundw
            case rel => exact ⟨q + 1, by omega, by go_num, Lib.hid (by rw [hno.out, HS.out, if_neg HN.out]), HB8.out⟩
            case measure => simp [intOf]; omega
          · have HY := Lib.hid (show ys = tl from by have := HD.out; simpa using this)
            have hadd : tidyM (ms.take (i + 1)) = D.set q (D[q].1 + wt, D[q].2) := by
              rw [HST.out]
              have h1 : ixM tl D 0 = (q : Int) := by rw [hno.out, HS.out, if_pos HY.out]
              rcases HIXS.out with ⟨h2, _⟩ | ⟨k, hk, h2, h3, h4⟩
              · rw [h1] at h2; omega
              · rw [h1, Nat.zero_add] at h2
                obtain rfl : q = k := by omega
                exact h4 wt
            have hdk := hdw _ (List.getElem_mem hqn)
            have r1 : IntKind.i64.wrap (D[q].1 + wt) = D[q].1 + wt := IntWalk.i64_in _ (by omega)
            have HOS := Lib.hid (fun W (h : OwnM W (w3.heap.size + 1) (.slice (some ⟨gl, 0, none⟩) D.length vc) D) => h.setW hqn (D[q].1 + wt))
            rw [← hadd] at HOS
            have CK := Lib.hid (fun W (h : OwnM W (w3.heap.size + 1) (.slice (some ⟨gl, 0, none⟩) D.length vc) D) => h.cellW hqn)
            generalize D[q].1 = dk at hdk r1 HOS CK
            have O8 := Lib.hid (OB.out _ HB8.out)
            have BX8 := Lib.hid (BXB.out _ HB8.out)
            have B8 := Lib.hid (HBW.out.trans (HB8.out.mono (by omega)))
            obtain ⟨h2, h4, _⟩ := GM.out _ HB8.out
            have h1 := BX8.out.c.get 2 _ rfl
            have h3 := (CK.out _ O8.out).1
            obtain ⟨k, rfl⟩ : ∃ k, k = q := ⟨_, rfl⟩
            obtain ⟨L, hL⟩ : ∃ L, L = D.length := ⟨_, rfl⟩
            rw [← hL] at h1 O8 BX8 HOS CK q1 t2
            clear hadd hqn
            rw [← hL]
            have HL := Lib.hid hL
            clear BQ hL
            go_wp2_with fail
            refine wpX_start (fun W => W.cell? ⟨w3.heap.size, 2, none⟩ = some (.slice (some ⟨gl, 0, none⟩) L vc) ∧ W.cell? ⟨w.heap.size, 2, none⟩ = some (.slice (some ⟨mb, mo, none⟩) ms.length ca) ∧ W.cell? ⟨gl, k * 2, none⟩ = some (.int .i64 dk) ∧ W.cell? ⟨mb, mo + i * 2, none⟩ = some (.int .i64 wt)) [15] (by kernel_rfl) ?_
            have bd : Below w8.heap.size w8 w8.drew := (Below.refl _ _).drew
            have hC : (fun W : World => W.cell? ⟨w3.heap.size, 2, none⟩ = some (.slice (some ⟨gl, 0, none⟩) L vc) ∧ W.cell? ⟨w.heap.size, 2, none⟩ = some (.slice (some ⟨mb, mo, none⟩) ms.length ca) ∧ W.cell? ⟨gl, k * 2, none⟩ = some (.int .i64 dk) ∧ W.cell? ⟨mb, mo + i * 2, none⟩ = some (.int .i64 wt)) w8.drew := ⟨h1, h2, h3, h4⟩
            refine wpX_free (i := 0) (v := ?_) rfl (by kernel_rfl) (fun _ _ _ h => h) rfl (fun w' => ?_) ?_
            rotate_left
            · go_simp; try with_reducible rfl
            try simp only [Act.put, List.getElem_toArray, List.getElem_cons_zero, List.getElem_cons_succ, List.setIfInBounds_toArray, List.set_cons_zero, List.set_cons_succ]
            refine wpX_load (i := 1) (v := ?_) rfl (by kernel_rfl) (fun _ _ _ h => h) hC rfl (fun w' hw' => ?_) ?_
            rotate_left
            · obtain ⟨k1, k2, k3, k4⟩ := hw'; go_simp; try with_reducible rfl
            try simp only [Act.put, List.getElem_toArray, List.getElem_cons_zero, List.getElem_cons_succ, List.setIfInBounds_toArray, List.set_cons_zero, List.set_cons_succ]
            refine wpX_free (i := 2) (v := ?_) rfl (by kernel_rfl) (fun _ _ _ h => h) rfl (fun w' => ?_) ?_
            rotate_left
            · go_simp; try with_reducible rfl
            try simp only [Act.put, List.getElem_toArray, List.getElem_cons_zero, List.getElem_cons_succ, List.setIfInBounds_toArray, List.set_cons_zero, List.set_cons_succ]
            refine wpX_free (i := 3) (v := ?_) rfl (by kernel_rfl) (fun _ _ _ h => h) rfl (fun w' => ?_) ?_
            rotate_left
            · go_simp; try with_reducible rfl
            try simp only [Act.put, List.getElem_toArray, List.getElem_cons_zero, List.getElem_cons_succ, List.setIfInBounds_toArray, List.set_cons_zero, List.set_cons_succ]
            refine wpX_free (i := 4) (v := ?_) rfl (by kernel_rfl) (fun _ _ _ h => h) rfl (fun w' => ?_) ?_
            rotate_left
            · go_simp; try with_reducible rfl
            try simp only [Act.put, List.getElem_toArray, List.getElem_cons_zero, List.getElem_cons_succ, List.setIfInBounds_toArray, List.set_cons_zero, List.set_cons_succ]
            refine wpX_load (i := 5) (v := ?_) rfl (by kernel_rfl) (fun _ _ _ h => h) hC rfl (fun w' hw' => ?_) ?_
            rotate_left
            · obtain ⟨k1, k2, k3, k4⟩ := hw'; go_simp; try with_reducible rfl
            try simp only [Act.put, List.getElem_toArray, List.getElem_cons_zero, List.getElem_cons_succ, List.setIfInBounds_toArray, List.set_cons_zero, List.set_cons_succ]
            refine wpX_free (i := 6) (v := ?_) rfl (by kernel_rfl) (fun _ _ _ h => h) rfl (fun w' => ?_) ?_
            rotate_left
            · go_simp; try with_reducible rfl
            try simp only [Act.put, List.getElem_toArray, List.getElem_cons_zero, List.getElem_cons_succ, List.setIfInBounds_toArray, List.set_cons_zero, List.set_cons_succ]
            refine wpX_load (i := 7) (v := ?_) rfl (by kernel_rfl) (fun _ _ _ h => h) hC rfl (fun w' hw' => ?_) ?_
            rotate_left
            · obtain ⟨k1, k2, k3, k4⟩ := hw'; go_simp; try with_reducible rfl
            try simp only [Act.put, List.getElem_toArray, List.getElem_cons_zero, List.getElem_cons_succ, List.setIfInBounds_toArray, List.set_cons_zero, List.set_cons_succ]
            refine wpX_free (i := 8) (v := ?_) rfl (by kernel_rfl) (fun _ _ _ h => h) rfl (fun w' => ?_) ?_
            rotate_left
            · go_simp; try with_reducible rfl
            try simp only [Act.put, List.getElem_toArray, List.getElem_cons_zero, List.getElem_cons_succ, List.setIfInBounds_toArray, List.set_cons_zero, List.set_cons_succ]
            refine wpX_free (i := 9) (v := ?_) rfl (by kernel_rfl) (fun _ _ _ h => h) rfl (fun w' => ?_) ?_
            rotate_left
            · go_simp; try with_reducible rfl
            try simp only [Act.put, List.getElem_toArray, List.getElem_cons_zero, List.getElem_cons_succ, List.setIfInBounds_toArray, List.set_cons_zero, List.set_cons_succ]
            refine wpX_free (i := 10) (v := ?_) rfl (by kernel_rfl) (fun _ _ _ h => h) rfl (fun w' => ?_) ?_
            rotate_left
            · go_simp; try with_reducible rfl
            try simp only [Act.put, List.getElem_toArray, List.getElem_cons_zero, List.getElem_cons_succ, List.setIfInBounds_toArray, List.set_cons_zero, List.set_cons_succ]
            refine wpX_load (i := 11) (v := ?_) rfl (by kernel_rfl) (fun _ _ _ h => h) hC rfl (fun w' hw' => ?_) ?_
            rotate_left
            · obtain ⟨k1, k2, k3, k4⟩ := hw'; go_simp; try with_reducible rfl
            try simp only [Act.put, List.getElem_toArray, List.getElem_cons_zero, List.getElem_cons_succ, List.setIfInBounds_toArray, List.set_cons_zero, List.set_cons_succ]
            refine wpX_free (i := 12) (v := ?_) rfl (by kernel_rfl) (fun _ _ _ h => h) rfl (fun w' => ?_) ?_
            rotate_left
            · go_simp; try with_reducible rfl
            try simp only [Act.put, List.getElem_toArray, List.getElem_cons_zero, List.getElem_cons_succ, List.setIfInBounds_toArray, List.set_cons_zero, List.set_cons_succ]
            refine wpX_free (i := 13) (v := ?_) rfl (by kernel_rfl) (fun _ _ _ h => h) rfl (fun w' => ?_) ?_
            rotate_left
            · go_simp; try with_reducible rfl
            try simp only [Act.put, List.getElem_toArray, List.getElem_cons_zero, List.getElem_cons_succ, List.setIfInBounds_toArray, List.set_cons_zero, List.set_cons_succ]
            refine wpX_free (i := 14) (v := ?_) rfl (by kernel_rfl) (fun _ _ _ h => h) rfl (fun w' => ?_) ?_
            rotate_left
            · go_simp; try with_reducible rfl
            try simp only [Act.put, List.getElem_toArray, List.getElem_cons_zero, List.getElem_cons_succ, List.setIfInBounds_toArray, List.set_cons_zero, List.set_cons_succ]
            refine wpX_rest (t := [15]) (l := [_]) rfl (by kernel_rfl) (by kernel_rfl) ?_
            try simp only [List.getElem_toArray, List.getElem_cons_zero, List.getElem_cons_succ]
            generalize w8.drew = wq at bd ⊢
            have oq := O8.out.below bd
            obtain ⟨g0, g1⟩ := CK.out _ oq
            have O9 := Lib.hid (HOS.out _ oq)
            have X9 := Lib.hid ((BX8.out.fs (S := fun _ => False) (Fs.of_below bd) (fun h => h)).fs (Fs.set1 wq gl (k * 2) (.int .i64 (dk + wt))) (by omega))
            have B9 := Lib.hid ((B8.out.trans (bd.mono (by have := B8.out.size; have := Z4.out; omega))).setCell (p := ⟨gl, k * 2, none⟩) (by show w3.heap.size ≤ gl; omega) (.int .i64 (dk + wt)))
            clear hC bd oq h1 h2 h3 h4
            go_wp2
            go_roundw
            case rel => exact ⟨i + 1, _, by omega, by go_num, X9.out, O9.out, B9.out⟩
            case measure => simp [intOf]; omega
        · obtain rfl : q = D.length := by omega
          have q1 : ¬ ((D.length : Int) < (D.length : Int)) := by omega
          have hix : ixM tl D 0 = -1 := by rw [hno.out]; simp [ixM]
          have hadd : addTo D wt tl = D ++ [(wt, tl)] := by
            rcases HIXS.out with ⟨_, h⟩ | ⟨k, hk, h2, _⟩
            · exact h wt
            · rw [hix] at h2; omega
          have HADD := Lib.hid (show tidyM (ms.take (i + 1)) = (D ++ [((0 : Int), tl)]).set D.length (0 + wt, tl) from by
            rw [HST.out, hadd, List.set_append_right _ _ (Nat.le_refl _), Nat.sub_self]; simp)
          clear hix
          have k2 := fun d os => cell_regrown c2 d os
          go_wp2_with fail
          refine wp_region_quiet_below (by kernel_rfl) (by kernel_rfl) ?_
          repeat (first | go_big_quiet_skip | quiet_step (fail))
          refine wpQuiet_nil ?_
          intro _ hw'
          obtain ⟨⟨dq, osq⟩, hw''⟩ := hw'
          subst hw''
          have bq0 := below_regrown wr dq osq
          generalize grow (redrawn wr dq) osq = w6 at bq0 ⊢
          have HB6 := Lib.hid (HBI.out.trans (bq0.mono HBI.out.size))
          clear k2 c2 m1 m2 m3 bq0
          obtain ⟨m1, m2, m3⟩ := GM.out _ HB6.out
          have c2 := (BXB.out _ HB6.out).c.get 2 _ rfl
          have hz6 : w3.heap.size + 1 ≤ w6.heap.size := Nat.le_trans hzr HB6.out.size
          have hdl2 : D.length < 16777216 := by omega
          have t2 : ((D.length : Int) == (D.length : Int)) = true := by simp
          go_wp2_with fail
          refine wpX_start (fun W => W.cell? ⟨w3.heap.size, 2, none⟩ = some (.slice va D.length vc) ∧ W.cell? ⟨w.heap.size, 2, none⟩ = some (.slice (some ⟨mb, mo, none⟩) ms.length ca) ∧ W.cell? ⟨mb, mo + i * 2 + 1, none⟩ = some (.slice ra tl.length rca)) [11, 12, 13] (by kernel_rfl) ?_
          have bd : Below w6.heap.size w6 w6.drew := (Below.refl _ _).drew
          have CC := Lib.hid (fun V (h : Below w6.heap.size w6 V) => show (fun W : World => W.cell? ⟨w3.heap.size, 2, none⟩ = some (.slice va D.length vc) ∧ W.cell? ⟨w.heap.size, 2, none⟩ = some (.slice (some ⟨mb, mo, none⟩) ms.length ca) ∧ W.cell? ⟨mb, mo + i * 2 + 1, none⟩ = some (.slice ra tl.length rca)) V from ⟨(h.cell (p := ⟨w3.heap.size, 2, none⟩) (cell_lt c2)).trans c2, (h.cell (p := ⟨w.heap.size, 2, none⟩) (cell_lt m1)).trans m1, (h.cell (p := ⟨mb, mo + i * 2 + 1, none⟩) (cell_lt m3)).trans m3⟩)
          have hC := CC.out _ bd
          clear c2 m1 m2 m3
          refine wpX_free (i := 0) (v := ?_) rfl (by kernel_rfl) (fun _ _ _ h => h) rfl (fun w' => ?_) ?_
          rotate_left
          · go_simp; try with_reducible rfl
          try simp only [Act.put, List.getElem_toArray, List.getElem_cons_zero, List.getElem_cons_succ, List.setIfInBounds_toArray, List.set_cons_zero, List.set_cons_succ]
          refine wpX_load (i := 1) (v := ?_) rfl (by kernel_rfl) (fun _ _ _ h => h) hC rfl (fun w' hw' => ?_) ?_
          rotate_left
          · obtain ⟨k1, k2, k3⟩ := hw'; go_simp; try with_reducible rfl
          try simp only [Act.put, List.getElem_toArray, List.getElem_cons_zero, List.getElem_cons_succ, List.setIfInBounds_toArray, List.set_cons_zero, List.set_cons_succ]
          refine wpX_free (i := 2) (v := ?_) rfl (by kernel_rfl) (fun _ _ _ h => h) rfl (fun w' => ?_) ?_
          rotate_left
          · go_simp; try with_reducible rfl
          try simp only [Act.put, List.getElem_toArray, List.getElem_cons_zero, List.getElem_cons_succ, List.setIfInBounds_toArray, List.set_cons_zero, List.set_cons_succ]
          refine wpX_load (i := 3) (v := ?_) rfl (by kernel_rfl) (fun _ _ _ h => h) hC rfl (fun w' hw' => ?_) ?_
          rotate_left
          · obtain ⟨k1, k2, k3⟩ := hw'; go_simp; try with_reducible rfl
          try simp only [Act.put, List.getElem_toArray, List.getElem_cons_zero, List.getElem_cons_succ, List.setIfInBounds_toArray, List.set_cons_zero, List.set_cons_succ]
          refine wpX_free (i := 4) (v := ?_) rfl (by kernel_rfl) (fun _ _ _ h => h) rfl (fun w' => ?_) ?_
          rotate_left
          · go_simp; try with_reducible rfl
          try simp only [Act.put, List.getElem_toArray, List.getElem_cons_zero, List.getElem_cons_succ, List.setIfInBounds_toArray, List.set_cons_zero, List.set_cons_succ]
          refine wpX_free (i := 5) (v := ?_) rfl (by kernel_rfl) (fun _ _ _ h => h) rfl (fun w' => ?_) ?_
          rotate_left
          · go_simp; try with_reducible rfl
          try simp only [Act.put, List.getElem_toArray, List.getElem_cons_zero, List.getElem_cons_succ, List.setIfInBounds_toArray, List.set_cons_zero, List.set_cons_succ]
          refine wpX_free (i := 6) (v := ?_) rfl (by kernel_rfl) (fun _ _ _ h => h) rfl (fun w' => ?_) ?_
          rotate_left
          · go_simp; try with_reducible rfl
          try simp only [Act.put, List.getElem_toArray, List.getElem_cons_zero, List.getElem_cons_succ, List.setIfInBounds_toArray, List.set_cons_zero, List.set_cons_succ]
          refine wpX_load (i := 7) (v := ?_) rfl (by kernel_rfl) (fun _ _ _ h => h) hC rfl (fun w' hw' => ?_) ?_
          rotate_left
          · obtain ⟨k1, k2, k3⟩ := hw'; go_simp; try with_reducible rfl
          try simp only [Act.put, List.getElem_toArray, List.getElem_cons_zero, List.getElem_cons_succ, List.setIfInBounds_toArray, List.set_cons_zero, List.set_cons_succ]
          refine wpX_one (i := 8) rfl (by kernel_rfl) rfl ?_
          intro K2 hK2
          go_simp
          go_at_call 35
          refine (l00Own_any _ (SX.out _ (HB6.out.trans (bd.mono HB6.out.size))) (by omega)).mono ?_
          rintro e wq ⟨cv, rfl, oc, bq⟩
          have oc : OwnI wq w6.heap.size cv tl := oc
          have BQ := Lib.hid (bd.trans (bq.mono bd.size))
          obtain ⟨cva, cvn, cvc, rfl, _⟩ := oc.formJ
          refine hK2 _ _ (CC.out _ BQ.out) ?_
          clear hK2 K2
          try simp only [Act.put, List.getElem_toArray, List.getElem_cons_zero, List.getElem_cons_succ, List.setIfInBounds_toArray, List.set_cons_zero, List.set_cons_succ]
          refine wpX_free (i := 9) (v := ?_) rfl (by kernel_rfl) (fun _ _ _ h => h) rfl (fun w' => ?_) ?_
          rotate_left
          · go_simp; try with_reducible rfl
          try simp only [Act.put, List.getElem_toArray, List.getElem_cons_zero, List.getElem_cons_succ, List.setIfInBounds_toArray, List.set_cons_zero, List.set_cons_succ]
          refine wpX_one (i := 10) rfl (by kernel_rfl) rfl ?_
          intro K2 hK2
          go_simp
          refine hK2 _ _ (CC.out _ (BQ.out.alloc BQ.out.size _)) ?_
          clear hK2 K2
          try simp only [Act.put, List.getElem_toArray, List.getElem_cons_zero, List.getElem_cons_succ, List.setIfInBounds_toArray, List.set_cons_zero, List.set_cons_succ]
          refine wpX_rest (t := [11, 12, 13]) (l := [_, _, _]) rfl (by kernel_rfl) (by kernel_rfl) ?_
          try simp only [List.getElem_toArray, List.getElem_cons_zero, List.getElem_cons_succ]
          have HBQ := Lib.hid (HB6.out.trans (BQ.out.mono HB6.out.size))
          have MQ := Lib.hid (OB.out _ HBQ.out)
          have OC := Lib.hid (oc.lower (base' := w3.heap.size + 1) hz6)
          have hzq : w3.heap.size + 1 ≤ wq.heap.size := Nat.le_trans hz6 BQ.out.size
          clear hC bd bq oc
          go_wp2_with (at_builtin; refine append_map wq _ _ rfl rfl rfl MQ.out OC.out rfl rfl hdl2 hzq ?_)
          intro v7 w7 o7 b7 z7
          have bal := (Below.refl wq.heap.size wq).alloc (Nat.le_refl _) (.cells #[.int .i64 0, .slice cva cvn cvc] 43)
          have b7' : Below (w3.heap.size + 1) wo w7 := (HBQ.out.mono hzr).trans ((bal.mono hzq).trans b7)
          have hX7 := (BXB.out _ (Below.refl _ _)).fs (S := fun k => w3.heap.size + 1 ≤ k) ⟨b7'.os, b7'.tape, b7'.output, b7'.size, fun k _ hk => b7'.block k (by omega)⟩ (by omega)
          obtain ⟨gl, gc, hge, hgb, hgl⟩ := o7.some (by simp)
          subst hge
          have X7 := Lib.hid (hX7.set (.slice (some ⟨gl, 0, none⟩) (D ++ [((0 : Int), tl)]).length gc))
          have k2 := hX7.c.get 2 _ rfl
          have f2 := hX7.f 2
          have kl := hX7.c.1
          have hk0 : D.length < (D ++ [((0 : Int), tl)]).length := by simp
          have hE : (D ++ [((0 : Int), tl)])[D.length] = (0, tl) := by simp
          have HOS := Lib.hid (fun W (h : OwnM W (w3.heap.size + 1) (.slice (some ⟨gl, 0, none⟩) (D ++ [((0 : Int), tl)]).length gc) (D ++ [((0 : Int), tl)])) => h.setW hk0 (0 + wt))
          have CK := Lib.hid (fun W (h : OwnM W (w3.heap.size + 1) (.slice (some ⟨gl, 0, none⟩) (D ++ [((0 : Int), tl)]).length gc) (D ++ [((0 : Int), tl)])) => h.cellW hk0)
          rw [hE] at HOS CK
          rw [show (D ++ [((0 : Int), tl)]).set D.length (0 + wt, ((0 : Int), tl).2) = tidyM (ms.take (i + 1)) from HADD.out.symm] at HOS
          obtain ⟨w8, hw8⟩ : ∃ w8, w8 = w7.setCell ⟨w3.heap.size, 2, none⟩ (.slice (some ⟨gl, 0, none⟩) (D ++ [((0 : Int), tl)]).length gc) := ⟨_, rfl⟩
          have O8 := Lib.hid (show OwnM w8 (w3.heap.size + 1) (.slice (some ⟨gl, 0, none⟩) (D ++ [((0 : Int), tl)]).length gc) (D ++ [((0 : Int), tl)]) from by rw [hw8]; exact o7.set (by simp) _)
          have BX8 := Lib.hid (show Box3 w8 w3.heap.size n T (.slice (some ⟨gl, 0, none⟩) (D ++ [((0 : Int), tl)]).length gc) from by rw [hw8]; exact X7.out)
          have B8 := Lib.hid (show Below w3.heap.size W4 w8 from by rw [hw8]; exact (HBW.out.trans (b7'.mono (Nat.le_add_right _ 1))).setCell (Nat.le_refl _) _)
          have HW8 := Lib.hid hw8.symm
          obtain ⟨x0, x1, x2, h2⟩ := HX.out _ B8.out
          have h4 : w8.cell? ⟨mb, mo + i * 2, none⟩ = some (.int .i64 wt) := by
            obtain ⟨mb', mo', _, _, wt', _, hae, _, hwt', _, gm1, _, _⟩ := (HA.out _ (B4.out.trans (B8.out.mono (by have := Z3.out; omega)))).atJ2 him
            simp only [Option.some.injEq, Addr.mk.injEq, and_true] at hae
            obtain ⟨rfl, rfl⟩ := hae
            rw [gm1, hwt', HWT.out]
          have h1 := BX8.out.c.get 2 _ rfl
          have h3 := (CK.out _ O8.out).1
          have hlk : (D ++ [((0 : Int), tl)]).length = D.length + 1 := by simp
          obtain ⟨k, hk⟩ : ∃ k, k = D.length := ⟨_, rfl⟩
          obtain ⟨L, hL⟩ : ∃ L, L = (D ++ [((0 : Int), tl)]).length := ⟨_, rfl⟩
          have q1 : (k : Int) < (L : Int) := by omega
          have q0 : (0 : Int) ≤ (k : Int) := by omega
          obtain ⟨dk, hdk⟩ : ∃ dk : Int, dk = 0 := ⟨_, rfl⟩
          have hdk60 := HV.out.wt him
          rw [HWT.out] at hdk60
          have r1 : IntKind.i64.wrap (dk + wt) = dk + wt := IntWalk.i64_in _ (by omega)
          rw [← hL] at h1 O8 BX8 HOS CK HW8
          rw [← hk] at h3 HOS CK
          rw [show ((0 : Int), tl).1 = dk from hdk.symm] at h3 CK
          have HOS := Lib.hid (fun W (h : OwnM W (w3.heap.size + 1) (.slice (some ⟨gl, 0, none⟩) L gc) (D ++ [((0 : Int), tl)])) => show OwnM (W.setCell ⟨gl, k * 2, none⟩ (.int .i64 (dk + wt))) (w3.heap.size + 1) (.slice (some ⟨gl, 0, none⟩) L gc) (tidyM (ms.take (i + 1))) from by rw [hdk]; exact HOS.out W h)
          rw [← hL]
          obtain ⟨vc, rfl⟩ : ∃ vc, vc = gc := ⟨_, rfl⟩
          have HL := Lib.hid hL
          have HK := Lib.hid hk
          have HDK := Lib.hid hdk
          have hz8 := Z4.out
          rw [← hk]
          clear o7 b7 z7 bal b7' BQ MQ OC X7 hX7 x0 x1 x2 hw8 hE hadd hlk hL hdk hk HADD
          go_wp2_with fail
          rw [HW8.out]
          refine wpX_start (fun W => W.cell? ⟨w3.heap.size, 2, none⟩ = some (.slice (some ⟨gl, 0, none⟩) L vc) ∧ W.cell? ⟨w.heap.size, 2, none⟩ = some (.slice (some ⟨mb, mo, none⟩) ms.length ca) ∧ W.cell? ⟨gl, k * 2, none⟩ = some (.int .i64 dk) ∧ W.cell? ⟨mb, mo + i * 2, none⟩ = some (.int .i64 wt)) [15] (by kernel_rfl) ?_
          have bd : Below w8.heap.size w8 w8.drew := (Below.refl _ _).drew
          have hC : (fun W : World => W.cell? ⟨w3.heap.size, 2, none⟩ = some (.slice (some ⟨gl, 0, none⟩) L vc) ∧ W.cell? ⟨w.heap.size, 2, none⟩ = some (.slice (some ⟨mb, mo, none⟩) ms.length ca) ∧ W.cell? ⟨gl, k * 2, none⟩ = some (.int .i64 dk) ∧ W.cell? ⟨mb, mo + i * 2, none⟩ = some (.int .i64 wt)) w8.drew := ⟨h1, h2, h3, h4⟩
          refine wpX_free (i := 0) (v := ?_) rfl (by kernel_rfl) (fun _ _ _ h => h) rfl (fun w' => ?_) ?_
          rotate_left
          · go_simp; try with_reducible rfl
          try simp only [Act.put, List.getElem_toArray, List.getElem_cons_zero, List.getElem_cons_succ, List.setIfInBounds_toArray, List.set_cons_zero, List.set_cons_succ]
          refine wpX_load (i := 1) (v := ?_) rfl (by kernel_rfl) (fun _ _ _ h => h) hC rfl (fun w' hw' => ?_) ?_
          rotate_left
          · obtain ⟨k1, k2, k3, k4⟩ := hw'; go_simp; try with_reducible rfl
          try simp only [Act.put, List.getElem_toArray, List.getElem_cons_zero, List.getElem_cons_succ, List.setIfInBounds_toArray, List.set_cons_zero, List.set_cons_succ]
          refine wpX_free (i := 2) (v := ?_) rfl (by kernel_rfl) (fun _ _ _ h => h) rfl (fun w' => ?_) ?_
          rotate_left
          · go_simp; try with_reducible rfl
          try simp only [Act.put, List.getElem_toArray, List.getElem_cons_zero, List.getElem_cons_succ, List.setIfInBounds_toArray, List.set_cons_zero, List.set_cons_succ]
          refine wpX_free (i := 3) (v := ?_) rfl (by kernel_rfl) (fun _ _ _ h => h) rfl (fun w' => ?_) ?_
          rotate_left
          · go_simp; try with_reducible rfl
          try simp only [Act.put, List.getElem_toArray, List.getElem_cons_zero, List.getElem_cons_succ, List.setIfInBounds_toArray, List.set_cons_zero, List.set_cons_succ]
          refine wpX_free (i := 4) (v := ?_) rfl (by kernel_rfl) (fun _ _ _ h => h) rfl (fun w' => ?_) ?_
          rotate_left
          · go_simp; try with_reducible rfl
          try simp only [Act.put, List.getElem_toArray, List.getElem_cons_zero, List.getElem_cons_succ, List.setIfInBounds_toArray, List.set_cons_zero, List.set_cons_succ]
          refine wpX_load (i := 5) (v := ?_) rfl (by kernel_rfl) (fun _ _ _ h => h) hC rfl (fun w' hw' => ?_) ?_
          rotate_left
          · obtain ⟨k1, k2, k3, k4⟩ := hw'; go_simp; try with_reducible rfl
          try simp only [Act.put, List.getElem_toArray, List.getElem_cons_zero, List.getElem_cons_succ, List.setIfInBounds_toArray, List.set_cons_zero, List.set_cons_succ]
          refine wpX_free (i := 6) (v := ?_) rfl (by kernel_rfl) (fun _ _ _ h => h) rfl (fun w' => ?_) ?_
          rotate_left
          · go_simp; try with_reducible rfl
          try simp only [Act.put, List.getElem_toArray, List.getElem_cons_zero, List.getElem_cons_succ, List.setIfInBounds_toArray, List.set_cons_zero, List.set_cons_succ]
          refine wpX_load (i := 7) (v := ?_) rfl (by kernel_rfl) (fun _ _ _ h => h) hC rfl (fun w' hw' => ?_) ?_
          rotate_left
          · obtain ⟨k1, k2, k3, k4⟩ := hw'; go_simp; try with_reducible rfl
          try simp only [Act.put, List.getElem_toArray, List.getElem_cons_zero, List.getElem_cons_succ, List.setIfInBounds_toArray, List.set_cons_zero, List.set_cons_succ]
          refine wpX_free (i := 8) (v := ?_) rfl (by kernel_rfl) (fun _ _ _ h => h) rfl (fun w' => ?_) ?_
          rotate_left
          · go_simp; try with_reducible rfl
          try simp only [Act.put, List.getElem_toArray, List.getElem_cons_zero, List.getElem_cons_succ, List.setIfInBounds_toArray, List.set_cons_zero, List.set_cons_succ]
          refine wpX_free (i := 9) (v := ?_) rfl (by kernel_rfl) (fun _ _ _ h => h) rfl (fun w' => ?_) ?_
          rotate_left
          · go_simp; try with_reducible rfl
          try simp only [Act.put, List.getElem_toArray, List.getElem_cons_zero, List.getElem_cons_succ, List.setIfInBounds_toArray, List.set_cons_zero, List.set_cons_succ]
          refine wpX_free (i := 10) (v := ?_) rfl (by kernel_rfl) (fun _ _ _ h => h) rfl (fun w' => ?_) ?_
          rotate_left
          · go_simp; try with_reducible rfl
          try simp only [Act.put, List.getElem_toArray, List.getElem_cons_zero, List.getElem_cons_succ, List.setIfInBounds_toArray, List.set_cons_zero, List.set_cons_succ]
          refine wpX_load (i := 11) (v := ?_) rfl (by kernel_rfl) (fun _ _ _ h => h) hC rfl (fun w' hw' => ?_) ?_
          rotate_left
          · obtain ⟨k1, k2, k3, k4⟩ := hw'; go_simp; try with_reducible rfl
          try simp only [Act.put, List.getElem_toArray, List.getElem_cons_zero, List.getElem_cons_succ, List.setIfInBounds_toArray, List.set_cons_zero, List.set_cons_succ]
          refine wpX_free (i := 12) (v := ?_) rfl (by kernel_rfl) (fun _ _ _ h => h) rfl (fun w' => ?_) ?_
          rotate_left
          · go_simp; try with_reducible rfl
          try simp only [Act.put, List.getElem_toArray, List.getElem_cons_zero, List.getElem_cons_succ, List.setIfInBounds_toArray, List.set_cons_zero, List.set_cons_succ]
          refine wpX_free (i := 13) (v := ?_) rfl (by kernel_rfl) (fun _ _ _ h => h) rfl (fun w' => ?_) ?_
          rotate_left
          · go_simp; try with_reducible rfl
          try simp only [Act.put, List.getElem_toArray, List.getElem_cons_zero, List.getElem_cons_succ, List.setIfInBounds_toArray, List.set_cons_zero, List.set_cons_succ]
          refine wpX_free (i := 14) (v := ?_) rfl (by kernel_rfl) (fun _ _ _ h => h) rfl (fun w' => ?_) ?_
          rotate_left
          · go_simp; try with_reducible rfl
          try simp only [Act.put, List.getElem_toArray, List.getElem_cons_zero, List.getElem_cons_succ, List.setIfInBounds_toArray, List.set_cons_zero, List.set_cons_succ]
          refine wpX_rest (t := [15]) (l := [_]) rfl (by kernel_rfl) (by kernel_rfl) ?_
          try simp only [List.getElem_toArray, List.getElem_cons_zero, List.getElem_cons_succ]
          generalize w8.drew = wq at bd ⊢
          have oq := O8.out.below bd
          obtain ⟨g0, g1⟩ := CK.out _ oq
          have O9 := Lib.hid (HOS.out _ oq)
          have X9 := Lib.hid ((BX8.out.fs (S := fun _ => False) (Fs.of_below bd) (fun h => h)).fs (Fs.set1 wq gl (k * 2) (.int .i64 (dk + wt))) (by omega))
          have B9 := Lib.hid ((B8.out.trans (bd.mono (by have := B8.out.size; have := Z4.out; omega))).setCell (p := ⟨gl, k * 2, none⟩) (by show w3.heap.size ≤ gl; omega) (.int .i64 (dk + wt)))
          clear hC bd oq h1 h2 h3 h4
          go_wp2
          go_roundw
          case rel => exact ⟨i + 1, _, by omega, by go_num, X9.out, O9.out, B9.out⟩
          case measure => simp [intOf]; omega
    · obtain rfl : i = ms.length := by omega
      rw [List.take_length] at HO
      have rb := R4.out.fs (S := fun k => w3.heap.size ≤ k) ⟨HBW.out.os, HBW.out.tape, HBW.out.output, HBW.out.size, fun k _ hk => HBW.out.block k (by omega)⟩ (by have := Z3.out; omega)
      obtain ⟨va, vn, vc, rfl, _⟩ := HO.out.formJ
      have k0 := HBX.out.c.get 0 _ rfl
      have k1 := HBX.out.c.get 1 _ rfl
      have k2 := HBX.out.c.get 2 _ rfl
      have kl := HBX.out.c.1
      have q0 := rb.c.get 0 _ rfl
      have q1 := rb.c.get 1 _ rfl
      have q2 := rb.c.get 2 _ rfl
      have f0 := rb.f 0
      have f1 := rb.f 1
      have f2 := rb.f 2
      have ql := rb.c.1
      have hzz := Z3.out
      clear rb hbox hown
      go_wp2
      refine bodyPost_ret (v := .tuple #[.agg #[.int .i64 n, .int .i64 T, .slice va vn vc], .int .i64 0]) (by simp [results, Try.results22, go_sem, q0, q1, q2, ql]) rfl ⟨_, rfl, ?_, ?_⟩
      · exact OwnM.lower (OwnM.set (OwnM.set (OwnM.set HO.out (by simp; omega) _) (by simp; omega) _) (by simp; omega) _) (by omega)
      · exact ((HBw.out.setCell (by simp) _).setCell (by simp) _).setCell (by simp) _
end Go.Proofs.Ytceobhmbnkheiaa
