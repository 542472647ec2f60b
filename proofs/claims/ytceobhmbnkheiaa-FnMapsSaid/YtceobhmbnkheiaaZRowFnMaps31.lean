/-
  Maps one behind the other: the program's walk. With it: Maps one behind the other: the reference's walk.
-/
import Derived.Test.YtceobhmbnkheiaaZRowFnMaps30
import Derived.Test.YtceobhmbnkheiaaZRowFnMaps19
import Derived.Test.YtceobhmbnkheiaaZRowFnMaps1
import Derived.Test.YtceobhmbnkheiaaZRowFnMaps22
import Derived.Test.YtceobhmbnkheiaaZRowFnMaps21
set_option linter.unusedVariables false
set_option linter.unusedSimpArgs false
namespace Go.Proofs.Ytceobhmbnkheiaa
open Go.RowKit Go.Sort

set_option maxRecDepth 100000 in
set_option maxHeartbeats 16000000 in
theorem SpecThenMaps_any {u v : Value} {ms ns : List (Int × List Int)} (n T U : Nat) (w : World) (ha : SlM w u ms) (hd : SlM w v ns) (hv : mapsOk n T ms) (hv2 : mapsOk n U ns) (hTU : T * U ≤ 60) (hl : ms.length * ns.length ≤ 60) :
    Calls Try.prog 29 #[.agg #[.int .i64 n, .int .i64 T, u], .agg #[.int .i64 n, .int .i64 U, v]] w fun e w' => ∃ r, e = .returned (.tuple #[.agg #[.int .i64 n, .int .i64 ((T * U : Nat) : Int), r], .int .i64 0]) ∧ OwnM w' w.heap.size r (thenM ms ns) ∧ Below w.heap.size w w' := by
  have HA := Lib.hid (fun W (h : Below w.heap.size w W) => ha.below h)
  have HD := Lib.hid (fun W (h : Below w.heap.size w W) => hd.below h)
  obtain ⟨a, ca, rfl, hca, hca2⟩ := ha.form
  obtain ⟨d, cd, rfl, hcd, hcd2⟩ := hd.form
  unfold maxLen at hca2 hcd2
  have HV := Lib.hid hv
  have HV2 := Lib.hid hv2
  obtain ⟨⟨hn1, hn6⟩, ⟨ht1, ht60⟩, ⟨hl1, hl60⟩, hrow, _⟩ := id hv
  obtain ⟨_, ⟨hu1, hu60⟩, ⟨hm1, hm60⟩, hrow2, _⟩ := id hv2
  have HROW := Lib.hid hrow
  have HROW2 := Lib.hid hrow2
  obtain ⟨W1, hW1⟩ : ∃ W1, W1 = w.alloc (.cells #[.int .i64 n, .int .i64 T, .slice a ms.length ca] 26) := ⟨_, rfl⟩
  obtain ⟨W2, hW2⟩ : ∃ W2, W2 = W1.alloc (.cells #[.int .i64 n, .int .i64 U, .slice d ns.length cd] 26) := ⟨_, rfl⟩
  obtain ⟨W3, hW3⟩ : ∃ W3, W3 = W2.alloc (.cells #[.int .i64 0, .int .i64 0, .slice none 0 0] 26) := ⟨_, rfl⟩
  have z1 : W1.heap.size = w.heap.size + 1 := by rw [hW1]; simp
  have z2 : W2.heap.size = w.heap.size + 1 + 1 := by rw [hW2]; simp [z1]
  have z3 : W3.heap.size = w.heap.size + 1 + 1 + 1 := by rw [hW3]; simp [z2]
  have b1 : Below w.heap.size w W1 := by rw [hW1]; exact (Below.refl _ _).alloc (Nat.le_refl _) _
  have b2 : Below W1.heap.size W1 W2 := by rw [hW2]; exact (Below.refl _ _).alloc (Nat.le_refl _) _
  have b3 : Below W2.heap.size W2 W3 := by rw [hW3]; exact (Below.refl _ _).alloc (Nat.le_refl _) _
  have X := Lib.hid (show MpAt W3 w.heap.size n T (.slice a ms.length ca) from ((show MpAt W1 w.heap.size n T (.slice a ms.length ca) by rw [hW1]; exact MpAt.new w n T _).below b2).below b3)
  have Y := Lib.hid (show MpAt W3 (w.heap.size + 1) n U (.slice d ns.length cd) from (show MpAt W2 (w.heap.size + 1) n U (.slice d ns.length cd) by rw [hW2, ← z1]; exact MpAt.new W1 n U _).below b3)
  have R := Lib.hid (show Box3 W3 (w.heap.size + 1 + 1) 0 0 (.slice none 0 0) by rw [hW3, ← z2]; exact Box3.newM W2 0 0 _)
  have BA := Lib.hid ((b1.trans (b2.mono b1.size)).trans (b3.mono (by omega)))
  have HW1 := Lib.hid hW1.symm
  have HW2 := Lib.hid hW2.symm
  have HW3 := Lib.hid hW3.symm
  have Z3 := Lib.hid z3
  have HTUM := Lib.hid (rfl : T * U = T * U)
  have r1 : IntKind.i64.wrap ((T : Int) * (U : Int)) = ((T * U : Nat) : Int) := by rw [Int.natCast_mul, IntWalk.i64_in _ (by rw [← Int.natCast_mul]; omega)]
  have r2 : IntKind.i64.wrap ((ms.length : Int) * (ns.length : Int)) = ((ms.length * ns.length : Nat) : Int) := by rw [Int.natCast_mul, IntWalk.i64_in _ (by rw [← Int.natCast_mul]; omega)]
  have t1 : ((n : Int) != (n : Int)) = false := by simp
  have t2 : ¬ (60 : Int) < ((T * U : Nat) : Int) := by omega
  have t3 : ¬ (60 : Int) < ((ms.length * ns.length : Nat) : Int) := by omega
  have HL := Lib.hid hl
  have HOKT := Lib.hid (show mapsOk n ((T * U : Nat) : Int) (thenM ms ns) from by rw [Int.natCast_mul]; exact then_ok hv hv2 (by rw [← Int.natCast_mul]; omega) hl)
  obtain ⟨x0, x1, x2, x3⟩ := X.out
  obtain ⟨y0, y1, y2, y3⟩ := Y.out
  generalize T * U = M at r1 t2 hTU HTUM HOKT ⊢
  clear ha hd hv hv2 hW1 hW2 hW3 b1 b2 b3 z1 z2 z3 hrow hrow2
  go_enter Try.func29, Try.ntmps29
  go_wp2_with fail
  rw [HW1.out, HW2.out, HW3.out]
  refine (l05Ok_ok _ _ X.out (HA.out _ BA.out) HV.out).mono ?_
  rintro e w4 ⟨rfl, b4⟩
  have B4 := Lib.hid (BA.out.trans (b4.mono BA.out.size))
  have Z4 := Lib.hid b4.size
  have HX4 := Lib.hid (fun W (h : Below w4.heap.size w4 W) => (X.out.below b4).below h)
  have HY4 := Lib.hid (fun W (h : Below w4.heap.size w4 W) => (Y.out.below b4).below h)
  have R4 := Lib.hid (R.out.fs (S := fun _ => False) (Fs.of_below b4) (fun h => h))
  clear b4 x0 x1 x2 x3 y0 y1 y2 y3
  obtain ⟨x0, x1, x2, x3⟩ := HX4.out _ (Below.refl _ _)
  obtain ⟨y0, y1, y2, y3⟩ := HY4.out _ (Below.refl _ _)
  go_wp2_with fail
  refine (l05Ok_ok _ _ (HY4.out _ (Below.refl _ _)) (HD.out _ B4.out) HV2.out).mono ?_
  rintro e w5 ⟨rfl, b5⟩
  have B5 := Lib.hid (B4.out.trans (b5.mono B4.out.size))
  have Z5 := Lib.hid (show w.heap.size + 1 + 1 + 1 ≤ w5.heap.size by have := b5.size; have := Z4.out; have := Z3.out; omega)
  have HX5 := Lib.hid (fun W (h : Below w5.heap.size w5 W) => HX4.out W (b5.trans (h.mono b5.size)))
  have HY5 := Lib.hid (fun W (h : Below w5.heap.size w5 W) => HY4.out W (b5.trans (h.mono b5.size)))
  have R5 := Lib.hid (R4.out.fs (S := fun _ => False) (Fs.of_below b5) (fun h => h))
  clear b5 x0 x1 x2 x3 y0 y1 y2 y3
  obtain ⟨x0, x1, x2, x3⟩ := HX5.out _ (Below.refl _ _)
  obtain ⟨y0, y1, y2, y3⟩ := HY5.out _ (Below.refl _ _)
  obtain ⟨W6, hW6⟩ : ∃ W6, W6 = w5.alloc (.cells #[.int .i64 n, .int .i64 M, .slice none 0 0] 26) := ⟨_, rfl⟩
  have b6 : Below w5.heap.size w5 W6 := by rw [hW6]; exact (Below.refl _ _).alloc (Nat.le_refl _) _
  have X6 := Lib.hid (show Box3 W6 w5.heap.size n M (.slice none 0 0) by rw [hW6]; exact Box3.newM w5 n M _)
  have B6 := Lib.hid (B5.out.trans (b6.mono B5.out.size))
  have Z6 := Lib.hid (show W6.heap.size = w5.heap.size + 1 by rw [hW6]; simp)
  have R6 := Lib.hid (R5.out.fs (S := fun _ => False) (Fs.of_below b6) (fun h => h))
  have HX := Lib.hid (fun W (h : Below w5.heap.size W6 W) => HX5.out W (b6.trans h))
  have HY := Lib.hid (fun W (h : Below w5.heap.size W6 W) => HY5.out W (b6.trans h))
  have HW6 := Lib.hid hW6.symm
  have B0 := Lib.hid (Below.refl w5.heap.size W6)
  clear b6 hW6
  go_upto_region 6 with (fail)
  rw [HW6.out]
  clear x0 x1 x2 x3 y0 y1 y2 y3 r1 r2 t1 t2 t3
  go_wp2
  go_loopw [7] (fun iv wr => ∃ (i : Nat) (v : Value), i ≤ ms.length ∧ iv = .int .i64 i ∧ Box3 wr w5.heap.size n M v ∧ OwnM wr (w5.heap.size + 1) v (thenM (ms.take i) ns) ∧ Below w5.heap.size W6 wr) (fun iv _ => ms.length - (intOf iv).toNat)
  case atStart => exact ⟨0, _, Nat.zero_le _, rfl, X6.out, OwnM.nil _ _, B0.out⟩
  case round =>
    clear B0
    obtain ⟨i, v, hi, rfl, hbox, hown, hbw⟩ := hrel
    have HBX := Lib.hid hbox
    have HO := Lib.hid hown
    have HBW := Lib.hid hbw
    have HBw := Lib.hid (B6.out.trans (hbw.mono (by have := Z5.out; omega)))
    have hzr : w5.heap.size + 1 ≤ wr.heap.size := by have := hbw.size; have := Z6.out; omega
    have i0 : (0 : Int) ≤ (i : Int) := by omega
    clear hbw
    obtain ⟨x0, x1, x2, x3⟩ := HX.out _ HBW.out
    by_cases him : i < ms.length
    · have i1 : (i : Int) < (ms.length : Int) := by omega
      obtain ⟨mb, mo, ra, rca, wt, tl, hae, hmb, hwt, htl, gm1, gm2, sm⟩ := (HA.out _ (Below.refl _ _)).atJ2 him
      subst hae
      have SX := Lib.hid (fun W (h : Below w.heap.size w W) => sm.below h)
      replace gm1 := (HBw.out.cell (p := ⟨mb, mo + i * 2, none⟩) (cell_lt gm1)).trans gm1
      replace gm2 := (HBw.out.cell (p := ⟨mb, mo + i * 2 + 1, none⟩) (cell_lt gm2)).trans gm2
      have hr := HROW.out _ (List.getElem_mem him)
      have hwb := HV.out.wt him
      rw [← htl, ← hwt] at hr
      rw [← hwt] at hwb
      have HR := Lib.hid hr
      have HWT := Lib.hid hwt
      have HTL := Lib.hid htl
      have htn : tl.length ≤ 6 := by have := hr.2.1; omega
      have GM := Lib.hid (fun W (h : Below w.heap.size w W) => show W.cell? ⟨mb, mo + i * 2, none⟩ = some (.int .i64 wt) ∧ W.cell? ⟨mb, mo + i * 2 + 1, none⟩ = some (.slice ra tl.length rca) from by
        obtain ⟨_, _, _, _, _, _, hae, _, h1, h2, g1, g2, _⟩ := (HA.out _ (Below.refl _ _)).atJ2 him
        have q1 := HBw.out.cell (p := ⟨mb, mo + i * 2, none⟩)
        exact ⟨(h.cell (p := ⟨mb, mo + i * 2, none⟩) hmb).trans ((HBw.out.cell (p := ⟨mb, mo + i * 2, none⟩) hmb).symm.trans gm1), (h.cell (p := ⟨mb, mo + i * 2 + 1, none⟩) hmb).trans ((HBw.out.cell (p := ⟨mb, mo + i * 2 + 1, none⟩) hmb).symm.trans gm2)⟩)
      have OA := Lib.hid (show OwnM wr (w5.heap.size + 1) v (thenP ms ns i 0) by rw [thenP_zero]; exact hown)
      obtain ⟨wo, rfl⟩ : ∃ wo : World, wo = wr := ⟨_, rfl⟩
      clear hr hwt htl sm hown hbox gm1 gm2
      go_wp2
      clear x0 x1 x2 x3
      go_loopw [8] (fun kv wk => ∃ (k : Nat) (v : Value), k ≤ ns.length ∧ kv = .int .i64 k ∧ Box3 wk w5.heap.size n M v ∧ OwnM wk (w5.heap.size + 1) v (thenP ms ns i k) ∧ Below w5.heap.size W6 wk) (fun kv _ => ns.length - (intOf kv).toNat)
      case atStart => exact ⟨0, v, Nat.zero_le _, rfl, HBX.out, OA.out, HBW.out⟩
      case round =>
        clear OA
        obtain ⟨k, v, hk, rfl, hbox, hown, hbw⟩ := hrel
        obtain ⟨wk, rfl⟩ : ∃ wk : World, wk = wr := ⟨_, rfl⟩
        have HBX2 := Lib.hid hbox
        have HO2 := Lib.hid hown
        have HBW2 := Lib.hid hbw
        have HBw2 := Lib.hid (B6.out.trans (hbw.mono (by have := Z5.out; omega)))
        have hzk : w5.heap.size + 1 ≤ wk.heap.size := by have := hbw.size; have := Z6.out; omega
        have k0 : (0 : Int) ≤ (k : Int) := by omega
        clear hbw
        obtain ⟨x0, x1, x2, x3⟩ := HX.out _ HBW2.out
        obtain ⟨y0, y1, y2, y3⟩ := HY.out _ HBW2.out
        by_cases hkm : k < ns.length
        · have k1 : (k : Int) < (ns.length : Int) := by omega
          obtain ⟨nb, no, rb, rcb, wu, tm, hbe, hnb2, hwu, htm, gn1, gn2, sn⟩ := (HD.out _ (Below.refl _ _)).atJ2 hkm
          subst hbe
          have SN := Lib.hid (fun W (h : Below w.heap.size w W) => sn.below h)
          have GN := Lib.hid (fun W (h : Below w.heap.size w W) => show W.cell? ⟨nb, no + k * 2, none⟩ = some (.int .i64 wu) ∧ W.cell? ⟨nb, no + k * 2 + 1, none⟩ = some (.slice rb tm.length rcb) from ⟨(h.cell (p := ⟨nb, no + k * 2, none⟩) (cell_lt gn1)).trans gn1, (h.cell (p := ⟨nb, no + k * 2 + 1, none⟩) (cell_lt gn2)).trans gn2⟩)
          clear gn1 gn2
          have hr2 := HROW2.out _ (List.getElem_mem hkm)
          have hwb2 := HV2.out.wt hkm
          have HSTEP := Lib.hid (show thenP ms ns i (k + 1) = thenP ms ns i k ++ [(wt * wu, rowT tl tm tl.length)] from by
            rw [thenP_succ him hkm, ← rowT_all, HWT.out, HTL.out, hwu, htm])
          rw [← htm, ← hwu] at hr2
          rw [← hwu] at hwb2
          have HR2 := Lib.hid hr2
          have htmn : tm.length ≤ 6 := by have := hr2.2.1; omega
          have hmul1 : 1 * 1 ≤ wt * wu := Int.mul_le_mul hwb.1 hwb2.1 (by omega) (by omega)
          have hmul2 : wt * wu ≤ 60 * 60 := Int.mul_le_mul (by omega) (by omega) (by omega) (by omega)
          have r3 : IntKind.i64.wrap (wt * wu) = wt * wu := IntWalk.i64_in _ (by omega)
          have htll := thenP_len (ms := ms) (ns := ns) him hk
          have hpl : (thenP ms ns i k).length < 16777216 := by have := HL.out; omega
          obtain ⟨gm1, _⟩ := GM.out _ HBw2.out
          obtain ⟨gn1, _⟩ := GN.out _ HBw2.out
          clear hr2 hwu htm sn hown hbox
          go_wp2_with fail
          refine wpX_start (fun W => W.cell? ⟨w.heap.size, 2, none⟩ = some (.slice (some ⟨mb, mo, none⟩) ms.length ca) ∧ W.cell? ⟨w.heap.size + 1, 2, none⟩ = some (.slice (some ⟨nb, no, none⟩) ns.length cd) ∧ W.cell? ⟨mb, mo + i * 2, none⟩ = some (.int .i64 wt) ∧ W.cell? ⟨nb, no + k * 2, none⟩ = some (.int .i64 wu)) [15] (by kernel_rfl) ?_
          have bd : Below wk.heap.size wk wk.drew := (Below.refl _ _).drew
          have CC := Lib.hid (fun V (h : Below wk.heap.size wk V) => show (fun W : World => W.cell? ⟨w.heap.size, 2, none⟩ = some (.slice (some ⟨mb, mo, none⟩) ms.length ca) ∧ W.cell? ⟨w.heap.size + 1, 2, none⟩ = some (.slice (some ⟨nb, no, none⟩) ns.length cd) ∧ W.cell? ⟨mb, mo + i * 2, none⟩ = some (.int .i64 wt) ∧ W.cell? ⟨nb, no + k * 2, none⟩ = some (.int .i64 wu)) V from ⟨(h.cell (p := ⟨w.heap.size, 2, none⟩) (cell_lt x3)).trans x3, (h.cell (p := ⟨w.heap.size + 1, 2, none⟩) (cell_lt y3)).trans y3, (h.cell (p := ⟨mb, mo + i * 2, none⟩) (cell_lt gm1)).trans gm1, (h.cell (p := ⟨nb, no + k * 2, none⟩) (cell_lt gn1)).trans gn1⟩)
          have hC := CC.out _ bd
          clear x0 x1 x2 x3 y0 y1 y2 y3 gm1 gn1
          refine wpX_free (i := 0) (v := ?_) rfl (by kernel_rfl) (fun _ _ _ h => h) rfl (fun w' => ?_) ?_
          rotate_left
          · go_simp; try with_reducible rfl
          try simp only [Act.put, List.getElem_toArray, List.getElem_cons_zero, List.getElem_cons_succ, List.setIfInBounds_toArray, List.set_cons_zero, List.set_cons_succ]
          refine wpX_load (i := 1) (v := ?_) rfl (by kernel_rfl) (fun _ _ _ h => h) hC rfl (fun w' hw' => ?_) ?_
          rotate_left
          · obtain ⟨k1, k2, k3, k4⟩ := hw'; go_simp; try with_reducible rfl
          try simp only [Act.put, List.getElem_toArray, List.getElem_cons_zero, List.getElem_cons_succ, List.setIfInBounds_toArray, List.set_cons_zero, List.set_cons_succ]
          refine wpX_free (i := 2) (v := ?_) rfl (by kernel_rfl) (fun _ _ _ h => h) rfl (fun w' => ?_) ?_
          rotate_left
          · go_simp; try with_reducible rfl
          try simp only [Act.put, List.getElem_toArray, List.getElem_cons_zero, List.getElem_cons_succ, List.setIfInBounds_toArray, List.set_cons_zero, List.set_cons_succ]
          refine wpX_free (i := 3) (v := ?_) rfl (by kernel_rfl) (fun _ _ _ h => h) rfl (fun w' => ?_) ?_
          rotate_left
          · go_simp; try with_reducible rfl
          try simp only [Act.put, List.getElem_toArray, List.getElem_cons_zero, List.getElem_cons_succ, List.setIfInBounds_toArray, List.set_cons_zero, List.set_cons_succ]
          refine wpX_free (i := 4) (v := ?_) rfl (by kernel_rfl) (fun _ _ _ h => h) rfl (fun w' => ?_) ?_
          rotate_left
          · go_simp; try with_reducible rfl
          try simp only [Act.put, List.getElem_toArray, List.getElem_cons_zero, List.getElem_cons_succ, List.setIfInBounds_toArray, List.set_cons_zero, List.set_cons_succ]
          refine wpX_load (i := 5) (v := ?_) rfl (by kernel_rfl) (fun _ _ _ h => h) hC rfl (fun w' hw' => ?_) ?_
          rotate_left
          · obtain ⟨k1, k2, k3, k4⟩ := hw'; go_simp; try with_reducible rfl
          try simp only [Act.put, List.getElem_toArray, List.getElem_cons_zero, List.getElem_cons_succ, List.setIfInBounds_toArray, List.set_cons_zero, List.set_cons_succ]
          refine wpX_free (i := 6) (v := ?_) rfl (by kernel_rfl) (fun _ _ _ h => h) rfl (fun w' => ?_) ?_
          rotate_left
          · go_simp; try with_reducible rfl
          try simp only [Act.put, List.getElem_toArray, List.getElem_cons_zero, List.getElem_cons_succ, List.setIfInBounds_toArray, List.set_cons_zero, List.set_cons_succ]
          refine wpX_load (i := 7) (v := ?_) rfl (by kernel_rfl) (fun _ _ _ h => h) hC rfl (fun w' hw' => ?_) ?_
          rotate_left
          · obtain ⟨k1, k2, k3, k4⟩ := hw'; go_simp; try with_reducible rfl
          try simp only [Act.put, List.getElem_toArray, List.getElem_cons_zero, List.getElem_cons_succ, List.setIfInBounds_toArray, List.set_cons_zero, List.set_cons_succ]
          refine wpX_free (i := 8) (v := ?_) rfl (by kernel_rfl) (fun _ _ _ h => h) rfl (fun w' => ?_) ?_
          rotate_left
          · go_simp; try with_reducible rfl
          try simp only [Act.put, List.getElem_toArray, List.getElem_cons_zero, List.getElem_cons_succ, List.setIfInBounds_toArray, List.set_cons_zero, List.set_cons_succ]
          refine wpX_free (i := 9) (v := ?_) rfl (by kernel_rfl) (fun _ _ _ h => h) rfl (fun w' => ?_) ?_
          rotate_left
          · go_simp; try with_reducible rfl
          try simp only [Act.put, List.getElem_toArray, List.getElem_cons_zero, List.getElem_cons_succ, List.setIfInBounds_toArray, List.set_cons_zero, List.set_cons_succ]
          refine wpX_free (i := 10) (v := ?_) rfl (by kernel_rfl) (fun _ _ _ h => h) rfl (fun w' => ?_) ?_
          rotate_left
          · go_simp; try with_reducible rfl
          try simp only [Act.put, List.getElem_toArray, List.getElem_cons_zero, List.getElem_cons_succ, List.setIfInBounds_toArray, List.set_cons_zero, List.set_cons_succ]
          refine wpX_load (i := 11) (v := ?_) rfl (by kernel_rfl) (fun _ _ _ h => h) hC rfl (fun w' hw' => ?_) ?_
          rotate_left
          · obtain ⟨k1, k2, k3, k4⟩ := hw'; go_simp; try with_reducible rfl
          try simp only [Act.put, List.getElem_toArray, List.getElem_cons_zero, List.getElem_cons_succ, List.setIfInBounds_toArray, List.set_cons_zero, List.set_cons_succ]
          refine wpX_free (i := 12) (v := ?_) rfl (by kernel_rfl) (fun _ _ _ h => h) rfl (fun w' => ?_) ?_
          rotate_left
          · go_simp; try with_reducible rfl
          try simp only [Act.put, List.getElem_toArray, List.getElem_cons_zero, List.getElem_cons_succ, List.setIfInBounds_toArray, List.set_cons_zero, List.set_cons_succ]
          refine wpX_free (i := 13) (v := ?_) rfl (by kernel_rfl) (fun _ _ _ h => h) rfl (fun w' => ?_) ?_
          rotate_left
          · go_simp; try with_reducible rfl
          try simp only [Act.put, List.getElem_toArray, List.getElem_cons_zero, List.getElem_cons_succ, List.setIfInBounds_toArray, List.set_cons_zero, List.set_cons_succ]
          refine wpX_one (i := 14) rfl (by kernel_rfl) rfl ?_
          intro K2 hK2
          go_simp
          refine hK2 _ _ (CC.out _ (bd.alloc (Nat.le_refl _) _)) ?_
          clear hK2 K2
          try simp only [Act.put, List.getElem_toArray, List.getElem_cons_zero, List.getElem_cons_succ, List.setIfInBounds_toArray, List.set_cons_zero, List.set_cons_succ]
          refine wpX_rest (t := [15]) (l := [_]) rfl (by kernel_rfl) (by kernel_rfl) ?_
          try simp only [List.getElem_toArray, List.getElem_cons_zero, List.getElem_cons_succ]
          change wpList _ _ _ _ _ (wk.drew.alloc (.cells #[.int .i64 0, .slice none 0 0] 43))
          generalize hwd : wk.drew = wq at bd ⊢
          have hsz : wq.heap.size = wk.heap.size := by rw [← hwd]; rfl
          rw [← hsz]
          obtain ⟨wc, hwc⟩ : ∃ wc, wc = wq.alloc (.cells #[.int .i64 (wt * wu), .slice none 0 0] 43) := ⟨_, rfl⟩
          have bC : Below wq.heap.size wq wc := by rw [hwc]; exact (Below.refl _ _).alloc (Nat.le_refl _) _
          have CZ := Lib.hid (show Box2 wc wq.heap.size (wt * wu) (.slice none 0 0) by rw [hwc]; exact Box2.new _ _ _)
          have HWC := Lib.hid hwc.symm
          have hzc1 : wq.heap.size + 1 ≤ wc.heap.size := by rw [hwc]; simp
          have hzb1 : wk.heap.size ≤ wq.heap.size := by omega
          have BKC := Lib.hid (bd.trans (bC.mono hzb1))
          clear hC bC hwc hwd hsz bd
          go_wp2
          rw [HWC.out]
          go_loopw [10] (fun jv wj => ∃ (j : Nat) (z : Value), j ≤ n ∧ jv = .int .i64 j ∧ Box2 wj wq.heap.size (wt * wu) z ∧ OwnI wj (wq.heap.size + 1) z (rowT tl tm j) ∧ Below wq.heap.size wc wj) (fun jv _ => n - (intOf jv).toNat)
          case atStart => exact ⟨0, _, Nat.zero_le _, rfl, CZ.out, by rw [rowT_zero]; exact World.ownsRow_nil _ _ _ _, Below.refl _ _⟩
          case round =>
            obtain ⟨j, z, hj, rfl, hbz, hoz, hbj⟩ := hrel
            have HBZ := Lib.hid hbz
            have HOZ := Lib.hid hoz
            have HBJ := Lib.hid hbj
            have HBK := Lib.hid (BKC.out.trans (hbj.mono (by omega)))
            have HBw3 := Lib.hid (HBw2.out.trans (HBK.out.mono HBw2.out.size))
            have HB3 := Lib.hid (HBW2.out.trans (HBK.out.mono (by omega)))
            have j0 : (0 : Int) ≤ (j : Int) := by omega
            obtain ⟨za, zn, zc, rfl, _⟩ := hoz.formJ
            have hzj : wq.heap.size + 1 ≤ wr.heap.size := by have := hbj.size; omega
            obtain ⟨x0, x1, x2, x3⟩ := HX.out _ HB3.out
            obtain ⟨y0, y1, y2, y3⟩ := HY.out _ HB3.out
            by_cases hjn : j < n
            · have j2 : (j : Int) < (n : Int) := by omega
              have hjt : j < tl.length := by have := HR.out.2.1; omega
              have j1 : (j : Int) < (tl.length : Int) := by omega
              obtain ⟨_, gm2⟩ := GM.out _ HBw3.out
              obtain ⟨_, gn2⟩ := GN.out _ HBw3.out
              obtain ⟨xb, xo, rfl, _, gx⟩ := (SX.out _ HBw3.out).at_ hjt
              have hy := HR.out.2.2 _ (List.getElem_mem hjt)
              have hst := fun (y : Nat) (h : tl[j] = (y : Int)) (h2 : y < tm.length) => rowT_succ (tm := tm) hjt h h2
              generalize tl[j] = y at gx hy hst
              obtain ⟨yn, rfl⟩ := Int.eq_ofNat_of_zero_le hy.1
              have hyn : yn < tm.length := by have := HR2.out.2.1; omega
              have hst := hst yn rfl hyn
              obtain ⟨tb, to2, rfl, _, gt⟩ := (SN.out _ HBw3.out).at_ hyn
              generalize tm[yn] = tz at gt hst
              have HST := Lib.hid hst
              have e1 := hbz.c.get 1 _ rfl
              have n0 : (0 : Int) ≤ (yn : Int) := by omega
              have n1 : (yn : Int) < (tm.length : Int) := by omega
              have hrl : (rowT tl tm j).length < 16777216 := by have := rowT_len tl tm j; omega
              clear hst hy hoz hbz hbj
              go_wp2_with fail
              refine wpX_start (fun W => W.cell? ⟨wq.heap.size, 1, none⟩ = some (.slice za zn zc) ∧ W.cell? ⟨w.heap.size + 1, 2, none⟩ = some (.slice (some ⟨nb, no, none⟩) ns.length cd) ∧ W.cell? ⟨nb, no + k * 2 + 1, none⟩ = some (.slice (some ⟨tb, to2, none⟩) tm.length rcb) ∧ W.cell? ⟨w.heap.size, 2, none⟩ = some (.slice (some ⟨mb, mo, none⟩) ms.length ca) ∧ W.cell? ⟨mb, mo + i * 2 + 1, none⟩ = some (.slice (some ⟨xb, xo, none⟩) tl.length rca) ∧ W.cell? ⟨xb, xo + j, none⟩ = some (.int .i64 yn) ∧ W.cell? ⟨tb, to2 + yn, none⟩ = some (.int .i64 tz)) [20, 21, 22] (by kernel_rfl) ?_
              have bd : Below wr.heap.size wr wr.drew := (Below.refl _ _).drew
              have CC := Lib.hid (fun V (h : Below wr.heap.size wr V) => show (fun W : World => W.cell? ⟨wq.heap.size, 1, none⟩ = some (.slice za zn zc) ∧ W.cell? ⟨w.heap.size + 1, 2, none⟩ = some (.slice (some ⟨nb, no, none⟩) ns.length cd) ∧ W.cell? ⟨nb, no + k * 2 + 1, none⟩ = some (.slice (some ⟨tb, to2, none⟩) tm.length rcb) ∧ W.cell? ⟨w.heap.size, 2, none⟩ = some (.slice (some ⟨mb, mo, none⟩) ms.length ca) ∧ W.cell? ⟨mb, mo + i * 2 + 1, none⟩ = some (.slice (some ⟨xb, xo, none⟩) tl.length rca) ∧ W.cell? ⟨xb, xo + j, none⟩ = some (.int .i64 yn) ∧ W.cell? ⟨tb, to2 + yn, none⟩ = some (.int .i64 tz)) V from ⟨(h.cell (p := ⟨wq.heap.size, 1, none⟩) (cell_lt e1)).trans e1, (h.cell (p := ⟨w.heap.size + 1, 2, none⟩) (cell_lt y3)).trans y3, (h.cell (p := ⟨nb, no + k * 2 + 1, none⟩) (cell_lt gn2)).trans gn2, (h.cell (p := ⟨w.heap.size, 2, none⟩) (cell_lt x3)).trans x3, (h.cell (p := ⟨mb, mo + i * 2 + 1, none⟩) (cell_lt gm2)).trans gm2, (h.cell (p := ⟨xb, xo + j, none⟩) (cell_lt gx)).trans gx, (h.cell (p := ⟨tb, to2 + yn, none⟩) (cell_lt gt)).trans gt⟩)
              have hC := CC.out _ bd
              clear e1 gt gx gm2 gn2 x0 x1 x2 x3 y0 y1 y2 y3
              refine wpX_free (i := 0) (v := ?_) rfl (by kernel_rfl) (fun _ _ _ h => h) rfl (fun w' => ?_) ?_
              rotate_left
              · go_simp; try with_reducible rfl
              try simp only [Act.put, List.getElem_toArray, List.getElem_cons_zero, List.getElem_cons_succ, List.setIfInBounds_toArray, List.set_cons_zero, List.set_cons_succ]
              refine wpX_load (i := 1) (v := ?_) rfl (by kernel_rfl) (fun _ _ _ h => h) hC rfl (fun w' hw' => ?_) ?_
              rotate_left
              · obtain ⟨k1, k2, k3, k4, k5, k6, k7⟩ := hw'; go_simp; try with_reducible rfl
              try simp only [Act.put, List.getElem_toArray, List.getElem_cons_zero, List.getElem_cons_succ, List.setIfInBounds_toArray, List.set_cons_zero, List.set_cons_succ]
              refine wpX_free (i := 2) (v := ?_) rfl (by kernel_rfl) (fun _ _ _ h => h) rfl (fun w' => ?_) ?_
              rotate_left
              · go_simp; try with_reducible rfl
              try simp only [Act.put, List.getElem_toArray, List.getElem_cons_zero, List.getElem_cons_succ, List.setIfInBounds_toArray, List.set_cons_zero, List.set_cons_succ]
              refine wpX_load (i := 3) (v := ?_) rfl (by kernel_rfl) (fun _ _ _ h => h) hC rfl (fun w' hw' => ?_) ?_
              rotate_left
              · obtain ⟨k1, k2, k3, k4, k5, k6, k7⟩ := hw'; go_simp; try with_reducible rfl
              try simp only [Act.put, List.getElem_toArray, List.getElem_cons_zero, List.getElem_cons_succ, List.setIfInBounds_toArray, List.set_cons_zero, List.set_cons_succ]
              refine wpX_free (i := 4) (v := ?_) rfl (by kernel_rfl) (fun _ _ _ h => h) rfl (fun w' => ?_) ?_
              rotate_left
              · go_simp; try with_reducible rfl
              try simp only [Act.put, List.getElem_toArray, List.getElem_cons_zero, List.getElem_cons_succ, List.setIfInBounds_toArray, List.set_cons_zero, List.set_cons_succ]
              refine wpX_free (i := 5) (v := ?_) rfl (by kernel_rfl) (fun _ _ _ h => h) rfl (fun w' => ?_) ?_
              rotate_left
              · go_simp; try with_reducible rfl
              try simp only [Act.put, List.getElem_toArray, List.getElem_cons_zero, List.getElem_cons_succ, List.setIfInBounds_toArray, List.set_cons_zero, List.set_cons_succ]
              refine wpX_free (i := 6) (v := ?_) rfl (by kernel_rfl) (fun _ _ _ h => h) rfl (fun w' => ?_) ?_
              rotate_left
              · go_simp; try with_reducible rfl
              try simp only [Act.put, List.getElem_toArray, List.getElem_cons_zero, List.getElem_cons_succ, List.setIfInBounds_toArray, List.set_cons_zero, List.set_cons_succ]
              refine wpX_load (i := 7) (v := ?_) rfl (by kernel_rfl) (fun _ _ _ h => h) hC rfl (fun w' hw' => ?_) ?_
              rotate_left
              · obtain ⟨k1, k2, k3, k4, k5, k6, k7⟩ := hw'; go_simp; try with_reducible rfl
              try simp only [Act.put, List.getElem_toArray, List.getElem_cons_zero, List.getElem_cons_succ, List.setIfInBounds_toArray, List.set_cons_zero, List.set_cons_succ]
              refine wpX_free (i := 8) (v := ?_) rfl (by kernel_rfl) (fun _ _ _ h => h) rfl (fun w' => ?_) ?_
              rotate_left
              · go_simp; try with_reducible rfl
              try simp only [Act.put, List.getElem_toArray, List.getElem_cons_zero, List.getElem_cons_succ, List.setIfInBounds_toArray, List.set_cons_zero, List.set_cons_succ]
              refine wpX_load (i := 9) (v := ?_) rfl (by kernel_rfl) (fun _ _ _ h => h) hC rfl (fun w' hw' => ?_) ?_
              rotate_left
              · obtain ⟨k1, k2, k3, k4, k5, k6, k7⟩ := hw'; go_simp; try with_reducible rfl
              try simp only [Act.put, List.getElem_toArray, List.getElem_cons_zero, List.getElem_cons_succ, List.setIfInBounds_toArray, List.set_cons_zero, List.set_cons_succ]
              refine wpX_free (i := 10) (v := ?_) rfl (by kernel_rfl) (fun _ _ _ h => h) rfl (fun w' => ?_) ?_
              rotate_left
              · go_simp; try with_reducible rfl
              try simp only [Act.put, List.getElem_toArray, List.getElem_cons_zero, List.getElem_cons_succ, List.setIfInBounds_toArray, List.set_cons_zero, List.set_cons_succ]
              refine wpX_free (i := 11) (v := ?_) rfl (by kernel_rfl) (fun _ _ _ h => h) rfl (fun w' => ?_) ?_
              rotate_left
              · go_simp; try with_reducible rfl
              try simp only [Act.put, List.getElem_toArray, List.getElem_cons_zero, List.getElem_cons_succ, List.setIfInBounds_toArray, List.set_cons_zero, List.set_cons_succ]
              refine wpX_free (i := 12) (v := ?_) rfl (by kernel_rfl) (fun _ _ _ h => h) rfl (fun w' => ?_) ?_
              rotate_left
              · go_simp; try with_reducible rfl
              try simp only [Act.put, List.getElem_toArray, List.getElem_cons_zero, List.getElem_cons_succ, List.setIfInBounds_toArray, List.set_cons_zero, List.set_cons_succ]
              refine wpX_load (i := 13) (v := ?_) rfl (by kernel_rfl) (fun _ _ _ h => h) hC rfl (fun w' hw' => ?_) ?_
              rotate_left
              · obtain ⟨k1, k2, k3, k4, k5, k6, k7⟩ := hw'; go_simp; try with_reducible rfl
              try simp only [Act.put, List.getElem_toArray, List.getElem_cons_zero, List.getElem_cons_succ, List.setIfInBounds_toArray, List.set_cons_zero, List.set_cons_succ]
              refine wpX_free (i := 14) (v := ?_) rfl (by kernel_rfl) (fun _ _ _ h => h) rfl (fun w' => ?_) ?_
              rotate_left
              · go_simp; try with_reducible rfl
              try simp only [Act.put, List.getElem_toArray, List.getElem_cons_zero, List.getElem_cons_succ, List.setIfInBounds_toArray, List.set_cons_zero, List.set_cons_succ]
              refine wpX_free (i := 15) (v := ?_) rfl (by kernel_rfl) (fun _ _ _ h => h) rfl (fun w' => ?_) ?_
              rotate_left
              · go_simp; try with_reducible rfl
              try simp only [Act.put, List.getElem_toArray, List.getElem_cons_zero, List.getElem_cons_succ, List.setIfInBounds_toArray, List.set_cons_zero, List.set_cons_succ]
              refine wpX_load (i := 16) (v := ?_) rfl (by kernel_rfl) (fun _ _ _ h => h) hC rfl (fun w' hw' => ?_) ?_
              rotate_left
              · obtain ⟨k1, k2, k3, k4, k5, k6, k7⟩ := hw'; go_simp; try with_reducible rfl
              try simp only [Act.put, List.getElem_toArray, List.getElem_cons_zero, List.getElem_cons_succ, List.setIfInBounds_toArray, List.set_cons_zero, List.set_cons_succ]
              refine wpX_free (i := 17) (v := ?_) rfl (by kernel_rfl) (fun _ _ _ h => h) rfl (fun w' => ?_) ?_
              rotate_left
              · go_simp; try with_reducible rfl
              try simp only [Act.put, List.getElem_toArray, List.getElem_cons_zero, List.getElem_cons_succ, List.setIfInBounds_toArray, List.set_cons_zero, List.set_cons_succ]
              refine wpX_load (i := 18) (v := ?_) rfl (by kernel_rfl) (fun _ _ _ h => h) hC rfl (fun w' hw' => ?_) ?_
              rotate_left
              · obtain ⟨k1, k2, k3, k4, k5, k6, k7⟩ := hw'; go_simp; try with_reducible rfl
              try simp only [Act.put, List.getElem_toArray, List.getElem_cons_zero, List.getElem_cons_succ, List.setIfInBounds_toArray, List.set_cons_zero, List.set_cons_succ]
              refine wpX_one (i := 19) rfl (by kernel_rfl) rfl ?_
              intro K2 hK2
              go_simp
              refine hK2 _ _ (CC.out _ (bd.alloc (Nat.le_refl _) _)) ?_
              clear hK2 K2
              try simp only [Act.put, List.getElem_toArray, List.getElem_cons_zero, List.getElem_cons_succ, List.setIfInBounds_toArray, List.set_cons_zero, List.set_cons_succ]
              refine wpX_rest (t := [20, 21, 22]) (l := [_, _, _]) rfl (by kernel_rfl) (by kernel_rfl) ?_
              try simp only [List.getElem_toArray, List.getElem_cons_zero, List.getElem_cons_succ]
              change wpList _ _ _ _ _ (wr.drew.alloc (.cells #[.int .i64 tz] 2))
              generalize hwd : wr.drew = ws at bd ⊢
              have hsz : ws.heap.size = wr.heap.size := by rw [← hwd]; rfl
              rw [← hsz]
              have oq := Lib.hid (HOZ.out.below bd)
              have BD := Lib.hid bd
              have hzq : wq.heap.size + 1 ≤ ws.heap.size := by omega
              clear hC bd hwd
              go_wp2_with (at_builtin; refine append_i64 _ tz _ _ rfl rfl rfl oq.out rfl hrl hzq ?_)
              intro v5 w5' o5 b5 z5
              rw [← HST.out] at o5
              have b5' : Below (wq.heap.size + 1) wr w5' := (BD.out.mono hzj).trans (((Below.refl ws.heap.size ws).alloc (Nat.le_refl _) _ |>.mono hzq).trans b5)
              have Z5' := Lib.hid (HBZ.out.fs (Fs.of_belowB b5') (by omega))
              have O5 := Lib.hid o5
              have B5' := Lib.hid (HBJ.out.trans (b5'.mono (by omega)))
              obtain ⟨va5, vn5, vc5, rfl, _⟩ := o5.formJ
              have e1 := Z5'.out.c.get 1 _ rfl
              have f1 := Z5'.out.f 1
              have el := Z5'.out.c.1
              clear o5 b5 z5 b5' BD oq
              go_wp2
              go_roundw
              case rel => exact ⟨j + 1, _, by omega, by go_num, Z5'.out.set _, O5.out.fs (Fs.set1 _ _ _ _) (fun k hk => by omega), B5'.out.setCell (by simp) _⟩
              case measure => simp [intOf]; omega
            · obtain rfl : j = n := by omega
              obtain ⟨va, vn, vc, rfl, _⟩ := HO2.out.formJ
              have BXK := Lib.hid (HBX2.out.fs (S := fun _ => False) (Fs.of_below HBK.out) (fun h => h))
              have HO3 := Lib.hid (HO2.out.below HBK.out)
              have HJT := Lib.hid (show j = tl.length from by have := HR.out.2.1; omega)
              have HU := Lib.hid (show OwnI wr (w5.heap.size + 1) (.slice za zn zc) (rowT tl tm tl.length) from by rw [← HJT.out]; exact HOZ.out.lower (by omega))
              have hbase : w5.heap.size + 1 ≤ wr.heap.size := by omega
              have c2 := BXK.out.c.get 2 _ rfl
              have e0 := HBZ.out.c.get 0 _ rfl
              have e1 := HBZ.out.c.get 1 _ rfl
              clear hoz hbz hbj
              go_wp2_with (at_builtin; refine append_mapS wr _ _ rfl rfl rfl HO3.out HU.out rfl rfl hpl hbase ?_)
              intro v7 w7 o7 f7 n7 b7
              rw [← HSTEP.out] at o7
              have X7 := Lib.hid (BXK.out.fs (Fs.of_belowB b7) (by omega))
              have O7 := Lib.hid o7
              have B7 := Lib.hid ((HBW2.out.trans (HBK.out.mono (by omega))).trans (b7.mono (by omega)))
              obtain ⟨va7, vn7, vc7, rfl, _⟩ := o7.formJ
              have g2 := X7.out.c.get 2 _ rfl
              have f2 := X7.out.f 2
              have gl := X7.out.c.1
              clear o7 f7 n7 b7 c2 e0 e1
              go_wp2
              go_roundw
              case rel => exact ⟨k + 1, _, by omega, by go_num, X7.out.set _, O7.out.set (by simp) _, B7.out.setCell (by simp) _⟩
              case measure => simp [intOf]; omega
        · obtain rfl : k = ns.length := by omega
          have HTP := Lib.hid (thenP_all (ns := ns) him)
          go_wp2
          go_roundw
          case rel => exact ⟨i + 1, _, by omega, by go_num, HBX2.out, by rw [← HTP.out]; exact HO2.out, HBW2.out⟩
          case measure => simp [intOf]; omega
    · obtain rfl : i = ms.length := by omega
      rw [List.take_length] at HO
      have bw := HBW
      have hm0 := HBX.out
      obtain ⟨va, vn, vc, rfl, _⟩ := HO.out.formJ
      have MB := Lib.hid (show MpAt wr w5.heap.size n M (.slice va vn vc) from ⟨hm0.c.1, hm0.c.get 0 _ rfl, hm0.c.get 1 _ rfl, hm0.c.get 2 _ rfl⟩)
      clear bw hm0 x0 x1 x2 x3 hbox hown
      obtain ⟨x0, x1, x2, x3⟩ := HX.out _ HBW.out
      go_wp2_with fail
      refine (l05Ok_ok _ _ MB.out HO.out.sl HOKT.out).mono ?_
      rintro e w8 ⟨rfl, b8⟩
      have HBX8 := Lib.hid (HBX.out.fs (S := fun _ => False) (Fs.of_below b8) (fun h => h))
      have HO8 := Lib.hid (HO.out.below b8)
      have HBW8 := Lib.hid (HBW.out.trans (b8.mono (by omega)))
      have HBw8 := Lib.hid (HBw.out.trans (b8.mono HBw.out.size))
      clear b8 HBX HO HBW HBw x0 x1 x2 x3
      have rb := R6.out.fs (S := fun k => w5.heap.size ≤ k) ⟨HBW8.out.os, HBW8.out.tape, HBW8.out.output, HBW8.out.size, fun k _ hk => HBW8.out.block k (by omega)⟩ (by have := Z5.out; omega)
      have k0 := HBX8.out.c.get 0 _ rfl
      have k1 := HBX8.out.c.get 1 _ rfl
      have k2 := HBX8.out.c.get 2 _ rfl
      have kl := HBX8.out.c.1
      have q0 := rb.c.get 0 _ rfl
      have q1 := rb.c.get 1 _ rfl
      have q2 := rb.c.get 2 _ rfl
      have f0 := rb.f 0
      have f1 := rb.f 1
      have f2 := rb.f 2
      have ql := rb.c.1
      have hzz := Z5.out
      clear rb
      go_wp2
      refine bodyPost_ret (v := .tuple #[.agg #[.int .i64 n, .int .i64 M, .slice va vn vc], .int .i64 0]) (by simp [results, Try.results29, go_sem, q0, q1, q2, ql]) rfl ⟨_, rfl, ?_, ?_⟩
      · exact OwnM.lower (OwnM.set (OwnM.set (OwnM.set HO8.out (by simp; omega) _) (by simp; omega) _) (by simp; omega) _) (by omega)
      · exact ((HBw8.out.setCell (by simp; omega) _).setCell (by simp; omega) _).setCell (by simp; omega) _
end Go.Proofs.Ytceobhmbnkheiaa
namespace Go.Proofs.Ytceobhmbnkheiaa
open Go.RowKit Go.Sort

set_option maxRecDepth 100000 in
set_option maxHeartbeats 16000000 in
theorem ImplThenMaps_any {u v : Value} {ms ns : List (Int × List Int)} (n T U : Nat) (w : World) (ha : SlM w u ms) (hd : SlM w v ns) (hv : mapsOk n T ms) (hv2 : mapsOk n U ns) (hTU : T * U ≤ 60) (hl : ms.length * ns.length ≤ 60) :
    Calls Try.prog 28 #[.agg #[.int .i64 n, .int .i64 T, u], .agg #[.int .i64 n, .int .i64 U, v]] w fun e w' => ∃ r, e = .returned (.tuple #[.agg #[.int .i64 n, .int .i64 ((T * U : Nat) : Int), r], .int .i64 0]) ∧ OwnM w' w.heap.size r (thenM ms ns) ∧ Below w.heap.size w w' := by
  have HA := Lib.hid (fun W (h : Below w.heap.size w W) => ha.below h)
  have HD := Lib.hid (fun W (h : Below w.heap.size w W) => hd.below h)
  obtain ⟨a, ca, rfl, hca, hca2⟩ := ha.form
  obtain ⟨d, cd, rfl, hcd, hcd2⟩ := hd.form
  unfold maxLen at hca2 hcd2
  have HV := Lib.hid hv
  have HV2 := Lib.hid hv2
  obtain ⟨⟨hn1, hn6⟩, ⟨ht1, ht60⟩, ⟨hl1, hl60⟩, hrow, _⟩ := id hv
  obtain ⟨_, ⟨hu1, hu60⟩, ⟨hm1, hm60⟩, hrow2, _⟩ := id hv2
  have HROW := Lib.hid hrow
  have HROW2 := Lib.hid hrow2
  obtain ⟨W1, hW1⟩ : ∃ W1, W1 = w.alloc (.cells #[.int .i64 n, .int .i64 T, .slice a ms.length ca] 26) := ⟨_, rfl⟩
  obtain ⟨W2, hW2⟩ : ∃ W2, W2 = W1.alloc (.cells #[.int .i64 n, .int .i64 U, .slice d ns.length cd] 26) := ⟨_, rfl⟩
  obtain ⟨W3, hW3⟩ : ∃ W3, W3 = W2.alloc (.cells #[.int .i64 0, .int .i64 0, .slice none 0 0] 26) := ⟨_, rfl⟩
  have z1 : W1.heap.size = w.heap.size + 1 := by rw [hW1]; simp
  have z2 : W2.heap.size = w.heap.size + 1 + 1 := by rw [hW2]; simp [z1]
  have z3 : W3.heap.size = w.heap.size + 1 + 1 + 1 := by rw [hW3]; simp [z2]
  have b1 : Below w.heap.size w W1 := by rw [hW1]; exact (Below.refl _ _).alloc (Nat.le_refl _) _
  have b2 : Below W1.heap.size W1 W2 := by rw [hW2]; exact (Below.refl _ _).alloc (Nat.le_refl _) _
  have b3 : Below W2.heap.size W2 W3 := by rw [hW3]; exact (Below.refl _ _).alloc (Nat.le_refl _) _
  have X := Lib.hid (show MpAt W3 w.heap.size n T (.slice a ms.length ca) from ((show MpAt W1 w.heap.size n T (.slice a ms.length ca) by rw [hW1]; exact MpAt.new w n T _).below b2).below b3)
  have Y := Lib.hid (show MpAt W3 (w.heap.size + 1) n U (.slice d ns.length cd) from (show MpAt W2 (w.heap.size + 1) n U (.slice d ns.length cd) by rw [hW2, ← z1]; exact MpAt.new W1 n U _).below b3)
  have R := Lib.hid (show Box3 W3 (w.heap.size + 1 + 1) 0 0 (.slice none 0 0) by rw [hW3, ← z2]; exact Box3.newM W2 0 0 _)
  have BA := Lib.hid ((b1.trans (b2.mono b1.size)).trans (b3.mono (by omega)))
  have HW1 := Lib.hid hW1.symm
  have HW2 := Lib.hid hW2.symm
  have HW3 := Lib.hid hW3.symm
  have Z3 := Lib.hid z3
  have HTUM := Lib.hid (rfl : T * U = T * U)
  have r1 : IntKind.i64.wrap ((T : Int) * (U : Int)) = ((T * U : Nat) : Int) := by rw [Int.natCast_mul, IntWalk.i64_in _ (by rw [← Int.natCast_mul]; omega)]
  have r2 : IntKind.i64.wrap ((ms.length : Int) * (ns.length : Int)) = ((ms.length * ns.length : Nat) : Int) := by rw [Int.natCast_mul, IntWalk.i64_in _ (by rw [← Int.natCast_mul]; omega)]
  have t1 : ((n : Int) != (n : Int)) = false := by simp
  have t2 : ¬ (60 : Int) < ((T * U : Nat) : Int) := by omega
  have t3 : ¬ (60 : Int) < ((ms.length * ns.length : Nat) : Int) := by omega
  have HL := Lib.hid hl
  obtain ⟨x0, x1, x2, x3⟩ := X.out
  obtain ⟨y0, y1, y2, y3⟩ := Y.out
  generalize T * U = M at r1 t2 hTU HTUM ⊢
  clear ha hd hv hv2 hW1 hW2 hW3 b1 b2 b3 z1 z2 z3 hrow hrow2
  go_enter Try.func28, Try.ntmps28
  go_wp2_with fail
  rw [HW1.out, HW2.out, HW3.out]
  refine (ValidMaps_ok _ (HA.out _ BA.out) HV.out).mono ?_
  rintro e w4 ⟨rfl, b4⟩
  have B4 := Lib.hid (BA.out.trans (b4.mono BA.out.size))
  have Z4 := Lib.hid b4.size
  have HX4 := Lib.hid (fun W (h : Below w4.heap.size w4 W) => (X.out.below b4).below h)
  have HY4 := Lib.hid (fun W (h : Below w4.heap.size w4 W) => (Y.out.below b4).below h)
  have R4 := Lib.hid (R.out.fs (S := fun _ => False) (Fs.of_below b4) (fun h => h))
  clear b4 x0 x1 x2 x3 y0 y1 y2 y3
  obtain ⟨x0, x1, x2, x3⟩ := HX4.out _ (Below.refl _ _)
  obtain ⟨y0, y1, y2, y3⟩ := HY4.out _ (Below.refl _ _)
  go_wp2_with fail
  refine (ValidMaps_ok _ (HD.out _ B4.out) HV2.out).mono ?_
  rintro e w5 ⟨rfl, b5⟩
  have B5 := Lib.hid (B4.out.trans (b5.mono B4.out.size))
  have Z5 := Lib.hid (show w.heap.size + 1 + 1 + 1 ≤ w5.heap.size by have := b5.size; have := Z4.out; have := Z3.out; omega)
  have HX5 := Lib.hid (fun W (h : Below w5.heap.size w5 W) => HX4.out W (b5.trans (h.mono b5.size)))
  have HY5 := Lib.hid (fun W (h : Below w5.heap.size w5 W) => HY4.out W (b5.trans (h.mono b5.size)))
  have R5 := Lib.hid (R4.out.fs (S := fun _ => False) (Fs.of_below b5) (fun h => h))
  clear b5 x0 x1 x2 x3 y0 y1 y2 y3
  obtain ⟨x0, x1, x2, x3⟩ := HX5.out _ (Below.refl _ _)
  obtain ⟨y0, y1, y2, y3⟩ := HY5.out _ (Below.refl _ _)
  obtain ⟨W6, hW6⟩ : ∃ W6, W6 = w5.alloc (.cells #[.int .i64 n, .int .i64 M, .slice none 0 0] 26) := ⟨_, rfl⟩
  have b6 : Below w5.heap.size w5 W6 := by rw [hW6]; exact (Below.refl _ _).alloc (Nat.le_refl _) _
  have X6 := Lib.hid (show Box3 W6 w5.heap.size n M (.slice none 0 0) by rw [hW6]; exact Box3.newM w5 n M _)
  have B6 := Lib.hid (B5.out.trans (b6.mono B5.out.size))
  have Z6 := Lib.hid (show W6.heap.size = w5.heap.size + 1 by rw [hW6]; simp)
  have R6 := Lib.hid (R5.out.fs (S := fun _ => False) (Fs.of_below b6) (fun h => h))
  have HX := Lib.hid (fun W (h : Below w5.heap.size W6 W) => HX5.out W (b6.trans h))
  have HY := Lib.hid (fun W (h : Below w5.heap.size W6 W) => HY5.out W (b6.trans h))
  have HW6 := Lib.hid hW6.symm
  have B0 := Lib.hid (Below.refl w5.heap.size W6)
  clear b6 hW6
  go_upto_region 8 with (fail)
  rw [HW6.out]
  clear x0 x1 x2 x3 y0 y1 y2 y3 r1 r2 t1 t2 t3
  obtain ⟨x0, x1, x2, x3⟩ := HX.out _ B0.out
  go_wp2
  clear x0 x1 x2 x3
  go_loopw [57] (fun iv wr => ∃ (i : Nat) (v : Value), i ≤ ms.length ∧ iv = .int .i64 i ∧ Box3 wr w5.heap.size n M v ∧ OwnM wr (w5.heap.size + 1) v (thenM (ms.take i) ns) ∧ Below w5.heap.size W6 wr) (fun iv _ => ms.length - (intOf iv).toNat)
  case atStart => exact ⟨0, _, Nat.zero_le _, rfl, X6.out, OwnM.nil _ _, B0.out⟩
  case round =>
    clear B0
    obtain ⟨i, v, hi, rfl, hbox, hown, hbw⟩ := hrel
    have HBX := Lib.hid hbox
    have HO := Lib.hid hown
    have HBW := Lib.hid hbw
    have HBw := Lib.hid (B6.out.trans (hbw.mono (by have := Z5.out; omega)))
    have hzr : w5.heap.size + 1 ≤ wr.heap.size := by have := hbw.size; have := Z6.out; omega
    have i0 : (0 : Int) ≤ (i : Int) := by omega
    clear hbw
    by_cases him : i < ms.length
    · have i1 : (i : Int) < (ms.length : Int) := by omega
      obtain ⟨mb, mo, ra, rca, wt, tl, hae, hmb, hwt, htl, gm1, gm2, sm⟩ := (HA.out _ (Below.refl _ _)).atJ2 him
      subst hae
      have SX := Lib.hid (fun W (h : Below w.heap.size w W) => sm.below h)
      replace gm1 := (HBw.out.cell (p := ⟨mb, mo + i * 2, none⟩) (cell_lt gm1)).trans gm1
      replace gm2 := (HBw.out.cell (p := ⟨mb, mo + i * 2 + 1, none⟩) (cell_lt gm2)).trans gm2
      have hr := HROW.out _ (List.getElem_mem him)
      have hwb := HV.out.wt him
      rw [← htl, ← hwt] at hr
      rw [← hwt] at hwb
      have HR := Lib.hid hr
      have HWT := Lib.hid hwt
      have HTL := Lib.hid htl
      have htn : tl.length ≤ 6 := by have := hr.2.1; omega
      obtain ⟨wa, hwa⟩ : ∃ wa, wa = wr.alloc (.cells #[.int .i64 wt, .slice ra tl.length rca] 43) := ⟨_, rfl⟩
      have bA : Below wr.heap.size wr wa := by rw [hwa]; exact (Below.refl _ _).alloc (Nat.le_refl _) _
      have CX := Lib.hid (show Box2 wa wr.heap.size wt (.slice ra tl.length rca) by rw [hwa]; exact Box2.new _ _ _)
      have HWA := Lib.hid hwa.symm
      have OA := Lib.hid (show OwnM wa (w5.heap.size + 1) v (thenP ms ns i 0) by rw [thenP_zero]; exact hown.below bA)
      have BXA := Lib.hid (hbox.fs (S := fun _ => False) (Fs.of_below bA) (fun h => h))
      have BAA := Lib.hid (HBW.out.trans (bA.mono (by omega)))
      have hza : wa.heap.size = wr.heap.size + 1 := by rw [hwa]; simp
      have HNB := Lib.hid (show v.ownBlock ≠ some wr.heap.size from fun e => by have := (hown.blk e).2; omega)
      obtain ⟨y0, y1, y2, y3⟩ := HY.out _ BAA.out
      obtain ⟨wo, rfl⟩ : ∃ wo : World, wo = wr := ⟨_, rfl⟩
      clear hr hwt htl sm bA hwa hown hbox
      go_upto_region 11 with (fail)
      rw [HWA.out]
      go_wp2
      clear y0 y1 y2 y3 gm1 gm2
      go_loopw [64] (fun kv wk => ∃ (k : Nat) (v : Value), k ≤ ns.length ∧ kv = .int .i64 k ∧ Box3 wk w5.heap.size n M v ∧ OwnM wk (w5.heap.size + 1) v (thenP ms ns i k) ∧ Box2 wk wo.heap.size wt (.slice ra tl.length rca) ∧ Hid (v.ownBlock ≠ some wo.heap.size) ∧ Below w5.heap.size W6 wk) (fun kv _ => ns.length - (intOf kv).toNat)
      case atStart => exact ⟨0, v, Nat.zero_le _, rfl, BXA.out, OA.out, CX.out, HNB.out, BAA.out⟩
      case round =>
        clear OA BXA BAA HNB CX
        obtain ⟨k, v, hk, rfl, hbox, hown, hbx, hnb, hbw⟩ := hrel
        obtain ⟨wk, rfl⟩ : ∃ wk : World, wk = wr := ⟨_, rfl⟩
        have HBX2 := Lib.hid hbox
        have HO2 := Lib.hid hown
        have HBW2 := Lib.hid hbw
        have HXB := Lib.hid hbx
        have HBw2 := Lib.hid (B6.out.trans (hbw.mono (by have := Z5.out; omega)))
        have hzk : wo.heap.size + 1 ≤ wk.heap.size := hbx.c.1
        have k0 : (0 : Int) ≤ (k : Int) := by omega
        clear hbw
        by_cases hkm : k < ns.length
        · have k1 : (k : Int) < (ns.length : Int) := by omega
          obtain ⟨nb, no, rb, rcb, wu, tm, hbe, hnb2, hwu, htm, gn1, gn2, sn⟩ := (HD.out _ (Below.refl _ _)).atJ2 hkm
          subst hbe
          have SN := Lib.hid (fun W (h : Below w.heap.size w W) => sn.below h)
          replace gn1 := (HBw2.out.cell (p := ⟨nb, no + k * 2, none⟩) (cell_lt gn1)).trans gn1
          replace gn2 := (HBw2.out.cell (p := ⟨nb, no + k * 2 + 1, none⟩) (cell_lt gn2)).trans gn2
          have hr2 := HROW2.out _ (List.getElem_mem hkm)
          have hwb2 := HV2.out.wt hkm
          have HSTEP := Lib.hid (show thenP ms ns i (k + 1) = thenP ms ns i k ++ [(wt * wu, rowT tl tm tl.length)] from by
            rw [thenP_succ him hkm, ← rowT_all, HWT.out, HTL.out, hwu, htm])
          rw [← htm, ← hwu] at hr2
          rw [← hwu] at hwb2
          have HR2 := Lib.hid hr2
          have htmn : tm.length ≤ 6 := by have := hr2.2.1; omega
          have hmul1 : 1 * 1 ≤ wt * wu := Int.mul_le_mul hwb.1 hwb2.1 (by omega) (by omega)
          have hmul2 : wt * wu ≤ 60 * 60 := Int.mul_le_mul (by omega) (by omega) (by omega) (by omega)
          have r3 : IntKind.i64.wrap (wt * wu) = wt * wu := IntWalk.i64_in _ (by omega)
          have htll := thenP_len (ms := ms) (ns := ns) him hk
          have hpl : (thenP ms ns i k).length < 16777216 := by have := HL.out; omega
          obtain ⟨wb, hwb'⟩ : ∃ wb, wb = wk.alloc (.cells #[.int .i64 wu, .slice rb tm.length rcb] 43) := ⟨_, rfl⟩
          have bB : Below wk.heap.size wk wb := by rw [hwb']; exact (Below.refl _ _).alloc (Nat.le_refl _) _
          have CY := Lib.hid (show Box2 wb wk.heap.size wu (.slice rb tm.length rcb) by rw [hwb']; exact Box2.new _ _ _)
          have HWB := Lib.hid hwb'.symm
          have hzb : wb.heap.size = wk.heap.size + 1 := by rw [hwb']; simp
          obtain ⟨wc, hwc⟩ : ∃ wc, wc = wb.alloc (.cells #[.int .i64 (wt * wu), .slice none 0 0] 43) := ⟨_, rfl⟩
          have bC : Below wb.heap.size wb wc := by rw [hwc]; exact (Below.refl _ _).alloc (Nat.le_refl _) _
          have CZ := Lib.hid (show Box2 wc wb.heap.size (wt * wu) (.slice none 0 0) by rw [hwc]; exact Box2.new _ _ _)
          have HWC := Lib.hid hwc.symm
          have hzc : wc.heap.size = wb.heap.size + 1 := by rw [hwc]; simp
          have BKC := Lib.hid (bB.trans (bC.mono (by omega)))
          have hzb1 : wk.heap.size < wb.heap.size := by omega
          have hzc1 : wb.heap.size + 1 ≤ wc.heap.size := by omega
          have CYC := Lib.hid (CY.out.below bC)
          have CXB := hbx.below bB
          have CXC := CXB.below bC
          have b0 := CXB.c.get 0 _ rfl
          have b1 := CY.out.c.get 0 _ rfl
          have d1 := CXC.c.get 1 _ rfl
          obtain ⟨y0, y1, y2, y3⟩ := HY.out _ HBW2.out
          clear hr2 hwu htm sn bB bC hwb' hwc hown hbox CXB CXC hzb hzc
          go_upto_region 14 with (fail)
          rw [HWB.out]
          go_upto_region 15 with (fail)
          rw [HWC.out]
          go_wp2
          clear y0 y1 y2 y3 gn1 gn2 b0 b1 d1
          go_loopw [77] (fun jv wj => ∃ (j : Nat) (z : Value), j ≤ tl.length ∧ jv = .int .i64 j ∧ Box2 wj wb.heap.size (wt * wu) z ∧ OwnI wj (wb.heap.size + 1) z (rowT tl tm j) ∧ Below wb.heap.size wc wj) (fun jv _ => tl.length - (intOf jv).toNat)
          case atStart => exact ⟨0, _, Nat.zero_le _, rfl, CZ.out, by rw [rowT_zero]; exact World.ownsRow_nil _ _ _ _, Below.refl _ _⟩
          case round =>
            obtain ⟨j, z, hj, rfl, hbz, hoz, hbj⟩ := hrel
            have HBZ := Lib.hid hbz
            have HOZ := Lib.hid hoz
            have HBJ := Lib.hid hbj
            have HBK := Lib.hid (BKC.out.trans (hbj.mono (by omega)))
            have HBw3 := Lib.hid (HBw2.out.trans (HBK.out.mono HBw2.out.size))
            have j0 : (0 : Int) ≤ (j : Int) := by omega
            obtain ⟨za, zn, zc, rfl, _⟩ := hoz.formJ
            have hzj : wb.heap.size + 1 ≤ wr.heap.size := by have := hbj.size; omega
            by_cases hjt : j < tl.length
            · have j1 : (j : Int) < (tl.length : Int) := by omega
              obtain ⟨xb, xo, rfl, _, gx⟩ := (SX.out _ HBw3.out).at_ hjt
              have hy := HR.out.2.2 _ (List.getElem_mem hjt)
              have hst := fun (y : Nat) (h : tl[j] = (y : Int)) (h2 : y < tm.length) => rowT_succ (tm := tm) hjt h h2
              generalize tl[j] = y at gx hy hst
              obtain ⟨yn, rfl⟩ := Int.eq_ofNat_of_zero_le hy.1
              have hyn : yn < tm.length := by have := HR2.out.2.1; omega
              have hst := hst yn rfl hyn
              obtain ⟨tb, to2, rfl, _, gt⟩ := (SN.out _ HBw3.out).at_ hyn
              generalize tm[yn] = tz at gt hst
              have HST := Lib.hid hst
              have e1 := hbz.c.get 1 _ rfl
              have e2 := (CYC.out.fs (S := fun g => wb.heap.size ≤ g) (Fs.of_belowB hbj) (by omega)).c.get 1 _ rfl
              have n0 : (0 : Int) ≤ (yn : Int) := by omega
              have n1 : (yn : Int) < (tm.length : Int) := by omega
              have hrl : (rowT tl tm j).length < 16777216 := by have := rowT_len tl tm j; omega
              clear hst hy hoz hbz hbj hnb hbx
              go_wp2_with fail
              refine wpX_start (fun W => W.cell? ⟨wb.heap.size, 1, none⟩ = some (.slice za zn zc) ∧ W.cell? ⟨wk.heap.size, 1, none⟩ = some (.slice (some ⟨tb, to2, none⟩) tm.length rcb) ∧ W.cell? ⟨tb, to2 + yn, none⟩ = some (.int .i64 tz)) [8, 9, 10] (by kernel_rfl) ?_
              have bd : Below wr.heap.size wr wr.drew := (Below.refl _ _).drew
              have CC := Lib.hid (fun V (h : Below wr.heap.size wr V) => show (fun W : World => W.cell? ⟨wb.heap.size, 1, none⟩ = some (.slice za zn zc) ∧ W.cell? ⟨wk.heap.size, 1, none⟩ = some (.slice (some ⟨tb, to2, none⟩) tm.length rcb) ∧ W.cell? ⟨tb, to2 + yn, none⟩ = some (.int .i64 tz)) V from ⟨(h.cell (p := ⟨wb.heap.size, 1, none⟩) (cell_lt e1)).trans e1, (h.cell (p := ⟨wk.heap.size, 1, none⟩) (cell_lt e2)).trans e2, (h.cell (p := ⟨tb, to2 + yn, none⟩) (cell_lt gt)).trans gt⟩)
              have hC := CC.out _ bd
              clear e1 e2 gt gx
              refine wpX_free (i := 0) (v := ?_) rfl (by kernel_rfl) (fun _ _ _ h => h) rfl (fun w' => ?_) ?_
              rotate_left
              · go_simp; try with_reducible rfl
              try simp only [Act.put, List.getElem_toArray, List.getElem_cons_zero, List.getElem_cons_succ, List.setIfInBounds_toArray, List.set_cons_zero, List.set_cons_succ]
              refine wpX_load (i := 1) (v := ?_) rfl (by kernel_rfl) (fun _ _ _ h => h) hC rfl (fun w' hw' => ?_) ?_
              rotate_left
              · obtain ⟨k1, k2, k3⟩ := hw'; go_simp; try with_reducible rfl
              try simp only [Act.put, List.getElem_toArray, List.getElem_cons_zero, List.getElem_cons_succ, List.setIfInBounds_toArray, List.set_cons_zero, List.set_cons_succ]
              refine wpX_free (i := 2) (v := ?_) rfl (by kernel_rfl) (fun _ _ _ h => h) rfl (fun w' => ?_) ?_
              rotate_left
              · go_simp; try with_reducible rfl
              try simp only [Act.put, List.getElem_toArray, List.getElem_cons_zero, List.getElem_cons_succ, List.setIfInBounds_toArray, List.set_cons_zero, List.set_cons_succ]
              refine wpX_load (i := 3) (v := ?_) rfl (by kernel_rfl) (fun _ _ _ h => h) hC rfl (fun w' hw' => ?_) ?_
              rotate_left
              · obtain ⟨k1, k2, k3⟩ := hw'; go_simp; try with_reducible rfl
              try simp only [Act.put, List.getElem_toArray, List.getElem_cons_zero, List.getElem_cons_succ, List.setIfInBounds_toArray, List.set_cons_zero, List.set_cons_succ]
              refine wpX_free (i := 4) (v := ?_) rfl (by kernel_rfl) (fun _ _ _ h => h) rfl (fun w' => ?_) ?_
              rotate_left
              · go_simp; try with_reducible rfl
              try simp only [Act.put, List.getElem_toArray, List.getElem_cons_zero, List.getElem_cons_succ, List.setIfInBounds_toArray, List.set_cons_zero, List.set_cons_succ]
              refine wpX_free (i := 5) (v := ?_) rfl (by kernel_rfl) (fun _ _ _ h => h) rfl (fun w' => ?_) ?_
              rotate_left
              · go_simp; try with_reducible rfl
              try simp only [Act.put, List.getElem_toArray, List.getElem_cons_zero, List.getElem_cons_succ, List.setIfInBounds_toArray, List.set_cons_zero, List.set_cons_succ]
              refine wpX_load (i := 6) (v := ?_) rfl (by kernel_rfl) (fun _ _ _ h => h) hC rfl (fun w' hw' => ?_) ?_
              rotate_left
              · obtain ⟨k1, k2, k3⟩ := hw'; go_simp; try with_reducible rfl
              try simp only [Act.put, List.getElem_toArray, List.getElem_cons_zero, List.getElem_cons_succ, List.setIfInBounds_toArray, List.set_cons_zero, List.set_cons_succ]
              refine wpX_one (i := 7) rfl (by kernel_rfl) rfl ?_
              intro K2 hK2
              go_simp
              refine hK2 _ _ (CC.out _ (bd.alloc (Nat.le_refl _) _)) ?_
              clear hK2 K2
              try simp only [Act.put, List.getElem_toArray, List.getElem_cons_zero, List.getElem_cons_succ, List.setIfInBounds_toArray, List.set_cons_zero, List.set_cons_succ]
              refine wpX_rest (t := [8, 9, 10]) (l := [_, _, _]) rfl (by kernel_rfl) (by kernel_rfl) ?_
              try simp only [List.getElem_toArray, List.getElem_cons_zero, List.getElem_cons_succ]
              change wpList _ _ _ _ _ (wr.drew.alloc (.cells #[.int .i64 tz] 2))
              generalize hwd : wr.drew = wq at bd ⊢
              have hsz : wq.heap.size = wr.heap.size := by rw [← hwd]; rfl
              rw [← hsz]
              have oq := Lib.hid (HOZ.out.below bd)
              have BD := Lib.hid bd
              have hzq : wb.heap.size + 1 ≤ wq.heap.size := by omega
              clear hC bd hwd
              go_wp2_with (at_builtin; refine append_i64 _ tz _ _ rfl rfl rfl oq.out rfl hrl hzq ?_)
              intro v5 w5' o5 b5 z5
              rw [← HST.out] at o5
              have b5' : Below (wb.heap.size + 1) wr w5' := (BD.out.mono hzj).trans (((Below.refl wq.heap.size wq).alloc (Nat.le_refl _) _ |>.mono hzq).trans b5)
              have Z5' := Lib.hid (HBZ.out.fs (Fs.of_belowB b5') (by omega))
              have O5 := Lib.hid o5
              have B5' := Lib.hid (HBJ.out.trans (b5'.mono (by omega)))
              obtain ⟨va5, vn5, vc5, rfl, _⟩ := o5.formJ
              have e1 := Z5'.out.c.get 1 _ rfl
              have f1 := Z5'.out.f 1
              have el := Z5'.out.c.1
              clear o5 b5 z5 b5' BD oq
              go_wp2
              go_roundw
              case rel => exact ⟨j + 1, _, by omega, by go_num, Z5'.out.set _, O5.out.fs (Fs.set1 _ _ _ _) (fun k hk => by omega), B5'.out.setCell (by simp) _⟩
              case measure => simp [intOf]; omega
            · obtain rfl : j = tl.length := by omega
              obtain ⟨va, vn, vc, rfl, _⟩ := HO2.out.formJ
              have BXK := Lib.hid (HBX2.out.fs (S := fun _ => False) (Fs.of_below HBK.out) (fun h => h))
              have HO3 := Lib.hid (HO2.out.below HBK.out)
              have HU := Lib.hid (HOZ.out.lower (base' := w5.heap.size + 1) (by omega))
              have hbase : w5.heap.size + 1 ≤ wr.heap.size := by omega
              have c2 := BXK.out.c.get 2 _ rfl
              have e0 := HBZ.out.c.get 0 _ rfl
              have e1 := HBZ.out.c.get 1 _ rfl
              have HNB := Lib.hid hnb.out
              have hzw : wo.heap.size < wr.heap.size := by omega
              clear hoz hbz hbj hnb hbx
              go_wp2_with (at_builtin; refine append_mapS wr _ _ rfl rfl rfl HO3.out HU.out rfl rfl hpl hbase ?_)
              intro v7 w7 o7 f7 n7 b7
              rw [← HSTEP.out] at o7
              have NB7 := Lib.hid (n7 _ hzw HNB.out)
              have XB7 := Lib.hid ((HXB.out.below HBK.out).fs f7 HNB.out)
              have X7 := Lib.hid (BXK.out.fs (Fs.of_belowB b7) (by omega))
              have O7 := Lib.hid o7
              have B7 := Lib.hid ((HBW2.out.trans (HBK.out.mono (by omega))).trans (b7.mono (by omega)))
              obtain ⟨va7, vn7, vc7, rfl, _⟩ := o7.formJ
              have g2 := X7.out.c.get 2 _ rfl
              have f2 := X7.out.f 2
              have gl := X7.out.c.1
              clear o7 f7 n7 b7 c2 e0 e1
              go_wp2
              go_roundw
              case rel => exact ⟨k + 1, _, by omega, by go_num, X7.out.set _, O7.out.set (by simp) _, XB7.out.fs (Fs.set1 _ _ _ _) (by omega), NB7, B7.out.setCell (by simp) _⟩
              case measure => simp [intOf]; omega
        · obtain rfl : k = ns.length := by omega
          have HTP := Lib.hid (thenP_all (ns := ns) him)
          go_wp2
          go_roundw
          case rel => exact ⟨i + 1, _, by omega, by go_num, HBX2.out, by rw [← HTP.out]; exact HO2.out, HBW2.out⟩
          case measure => simp [intOf]; omega
    · obtain rfl : i = ms.length := by omega
      rw [List.take_length] at HO
      have rb := R6.out.fs (S := fun k => w5.heap.size ≤ k) ⟨HBW.out.os, HBW.out.tape, HBW.out.output, HBW.out.size, fun k _ hk => HBW.out.block k (by omega)⟩ (by have := Z5.out; omega)
      obtain ⟨va, vn, vc, rfl, _⟩ := HO.out.formJ
      have k0 := HBX.out.c.get 0 _ rfl
      have k1 := HBX.out.c.get 1 _ rfl
      have k2 := HBX.out.c.get 2 _ rfl
      have kl := HBX.out.c.1
      have q0 := rb.c.get 0 _ rfl
      have q1 := rb.c.get 1 _ rfl
      have q2 := rb.c.get 2 _ rfl
      have f0 := rb.f 0
      have f1 := rb.f 1
      have f2 := rb.f 2
      have ql := rb.c.1
      have hzz := Z5.out
      clear rb hbox hown
      go_wp2
      refine bodyPost_ret (v := .tuple #[.agg #[.int .i64 n, .int .i64 M, .slice va vn vc], .int .i64 0]) (by simp [results, Try.results28, go_sem, q0, q1, q2, ql]) rfl ⟨_, rfl, ?_, ?_⟩
      · exact OwnM.lower (OwnM.set (OwnM.set (OwnM.set HO.out (by simp; omega) _) (by simp; omega) _) (by simp; omega) _) (by omega)
      · exact ((HBw.out.setCell (by simp; omega) _).setCell (by simp; omega) _).setCell (by simp; omega) _
end Go.Proofs.Ytceobhmbnkheiaa
