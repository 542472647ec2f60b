/-
  FnJournal: the law answers true for all texts of bytes.
-/
import Derived.Test.YtihjadffdjjogaaZRowFnJournal26
import Derived.Test.YtihjadffdjjogaaZRowFnJournal25
import Derived.Test.YtihjadffdjjogaaZRowFnJournal1
set_option linter.unusedVariables false
set_option linter.unusedSimpArgs false
namespace Go.Proofs.Ytihjadffdjjogaa
open Go.RowKit Go.Sort
theorem ext_take {T : ByteArray} {l : List UInt8} (h : T.data.toList = l) (y : Nat) : (T.extract 0 y).data.toList = l.take y := by
  rw [extract_eq, mkB_data, h]; simp
theorem ext_size (T : ByteArray) {y : Nat} (h : y ≤ T.size) : (T.extract 0 y).size = y := by
  have : (T.extract 0 y).size = (T.extract 0 y).data.toList.length := rfl
  rw [this, ext_take rfl, List.length_take]
  have : T.data.toList.length = T.size := rfl
  omega
theorem count_step (C : ByteArray) {i : Nat} (h : i < C.size) : (C.data.toList.take (i + 1)).count 10 = (C.data.toList.take i).count 10 + if C[i] = 10 then 1 else 0 := by
  have hl : i < C.data.toList.length := h
  rw [List.take_succ_eq_append_getElem hl, List.count_append]
  congr 1
  have e : C.data.toList[i] = C[i] := rfl
  rw [e]
  by_cases he : C[i] = 10
  · rw [if_pos he, he]; rfl
  · rw [if_neg he, List.count_singleton]; simp [he]
theorem Flat.Sl.take {α : Type} {F : Flat α} {w : World} {ad : Option Addr} {n c : Nat} {xs : List α} (h : F.Sl w (.slice ad n c) xs) {k : Nat} (hk : k ≤ xs.length) : F.Sl w (.slice ad k c) (xs.take k) := by
  obtain ⟨ad', c', he, h2, h3, h4⟩ := h
  simp only [Value.slice.injEq] at he
  obtain ⟨rfl, rfl, rfl⟩ := he
  have hl : (xs.take k).length = k := by simp; omega
  refine ⟨ad, c, by rw [hl], by omega, h3, fun j u hu => h4 j u ?_⟩
  rw [← List.take_append_drop k xs, F.encs_append, List.getElem?_append_left (List.getElem?_eq_some_iff.1 hu).1]
  exact hu
set_option maxRecDepth 100000 in
set_option maxHeartbeats 16000000 in
theorem FnJournal_walk {xs ys : List Int} (a0 a1 : Option Addr) (n0 n1 c0 c1 : Nat) (w : World) (hn0 : n0 ≤ maxLen) (hn1 : n1 ≤ maxLen) (hx : xs.length = n0) (hr : Rd w a0 (xs.map (.int .u8))) (hb : ∀ x ∈ xs, 0 ≤ x ∧ x < 256)
    (hx1 : ys.length = n1) (hr1 : Rd w a1 (ys.map (.int .u8))) (hb1 : ∀ x ∈ ys, 0 ≤ x ∧ x < 256) :
    Calls Try.prog 3 #[.slice a0 n0 c0, .slice a1 n1 c1] w fun e w' => e = .returned (.bool true) ∧ Below w.heap.size w w' := by
  have HR := Lib.hid (fun W (h : Below w.heap.size w W) => hr.below h)
  have HB := Lib.hid hb
  have HX := Lib.hid hx
  have HR1 := Lib.hid (fun W (h : Below w.heap.size w W) => hr1.below h)
  have HB1 := Lib.hid hb1
  have HX1 := Lib.hid hx1
  have HN0 := Lib.hid hn0
  have HN1 := Lib.hid hn1
  clear hr hb hx hr1 hb1 hx1 hn0 hn1
  generalize hd : a2L n0 n1 = d
  have HD := Lib.hid hd
  clear hd
  cases d
  case true =>
    go_enter Try.func3, Try.ntmps3
    go_wp2_with fail
    refine (a2Long_any a0 a1 n0 n1 c0 c1 _ HN0.out HN1.out).mono ?_
    rintro e w1 ⟨rfl, rfl⟩
    rw [HD.out]
    go_wp2
    go_ret
    exact ⟨rfl, Below.refl _ _⟩
  case false =>
      have h40 := Lib.hid (show n0 ≤ 3000 ∧ n1 ≤ 3000 by have := HD.out; unfold a2L at this; rw [decide_eq_false_iff_not] at this; omega)
      go_enter Try.func3, Try.ntmps3
      go_wp2_with fail
      refine (a2Long_any a0 a1 n0 n1 c0 c1 _ HN0.out HN1.out).mono ?_
      rintro e w1 ⟨rfl, rfl⟩
      rw [HD.out]
      clear HD
      go_wp2_with fail
      refine (A2Service_any a0 n0 c0 _ (by have := h40.out; omega) HX.out (HR.out _ (Below.refl _ _)) HB.out).mono ?_
      rintro e w1 ⟨m, t, bs, sm, wk, v, xss, rfl, hch, hbs, ⟨hsm1, hsm2⟩, ⟨hwk1, hwk2⟩, o1, b1⟩
      obtain ⟨⟨hm1, hm2⟩, ⟨ht1, ht2⟩, hml, _⟩ := chainOk_parts0 hch
      have HOK := Lib.hid (show serviceOk m t xss bs sm wk = true by
        unfold serviceOk
        rw [hch, inR_iff.2 ⟨by omega, by omega⟩, inR_iff.2 ⟨by omega, by omega⟩, inR_iff.2 ⟨by omega, by omega⟩]
        rfl)
      have S1 := Lib.hid o1.sl
      obtain ⟨va, vn, vc, rfl, hvn⟩ := o1.formJ
      obtain ⟨W2, hW2⟩ : ∃ W2, W2 = w1.alloc (svObj m t (.slice va vn vc) bs sm wk) := ⟨_, rfl⟩
      have b2 : Below w1.heap.size w1 W2 := by rw [hW2]; exact (Below.refl _ _).alloc (Nat.le_refl _) _
      have X2 := Lib.hid (show ServAt W2 w1.heap.size 0 m t (.slice va vn vc) bs sm wk by rw [hW2]; exact svBox w1 m t _ bs sm wk)
      have HA := Lib.hid (fun W (h : Below W2.heap.size W2 W) => (S1.out.below b2).below h)
      have SV := Lib.hid (show ∀ W, Below W2.heap.size W2 W → W.cell? ⟨w1.heap.size, 0, none⟩ = some (.int .i64 m) ∧ W.cell? ⟨w1.heap.size, 1, none⟩ = some (.int .i64 t) ∧ W.cell? ⟨w1.heap.size, 2, none⟩ = some (.slice va vn vc) ∧ W.cell? ⟨w1.heap.size, 3, none⟩ = some (.int .i64 bs) ∧ W.cell? ⟨w1.heap.size, 4, none⟩ = some (.int .i64 sm) ∧ W.cell? ⟨w1.heap.size, 5, none⟩ = some (.int .i64 wk) from fun W h => by
        obtain ⟨⟨_, p0, p1, p2⟩, p3, p4, p5⟩ := X2.out.below h
        simp only [Nat.zero_add] at p0 p1 p2 p3 p4 p5
        exact ⟨p0, p1, p2, p3, p4, p5⟩)
      have B2 := Lib.hid (b1.trans (b2.mono b1.size))
      have HW2 := Lib.hid (show w1.alloc (.cells #[.int .i64 m, .int .i64 t, .slice va vn vc, .int .i64 bs, .int .i64 sm, .int .i64 wk] 28) = W2 from hW2.symm)
      have hsz : w1.heap.size < W2.heap.size := by rw [hW2]; simp
      clear b1 b2 hch o1 hW2 X2 S1 hvn hml
      go_wp2_with fail
      rw [HW2.out]
      obtain ⟨p0, p1, p2, p3, p4, p5⟩ := SV.out W2 (Below.refl _ _)
      go_wp2_with fail
      refine (A2Records_any a1 n1 c1 m sm t bs wk W2 (by have := h40.out; omega) HX1.out (HR1.out _ B2.out) HB1.out (HA.out _ (Below.refl _ _)) HOK.out).mono ?_
      rintro e w3 ⟨v, rs, d, rfl, hl14, o3, hrk, hla, b3⟩
      have HRK := Lib.hid hrk
      have HLA := Lib.hid hla
      have B3 := Lib.hid b3
      have RS := Lib.hid (fun W (h : Below w3.heap.size w3 W) => o3.sl.below h)
      obtain ⟨ra, rc, rfl, hrc1, hrc2, _⟩ := id o3.sl
      unfold maxLen at hrc2
      have BJ := Lib.hid (B2.out.trans (b3.mono B2.out.size))
      have hz3 := b3.size
      clear hrk hla o3 b3 p0 p1 p2 p3 p4 p5
      obtain ⟨p0, p1, p2, p3, p4, p5⟩ := SV.out w3 B3.out
      go_wp2_with fail
      refine (ImplJournalText_any m t bs sm wk w3 (HA.out _ B3.out) (RS.out _ (Below.refl _ _)) (by omega)).mono ?_
      rintro e w4 ⟨rfl, b4⟩
      have hts := jText_size HOK.out (by omega) (by omega) HRK.out hl14
      have HTL := Lib.hid (jText_list HOK.out HRK.out)
      have HRW := Lib.hid (read_whole HOK.out (by omega) (by omega) HRK.out hl14)
      generalize hT : jTextB m t xss bs sm wk rs = T at hts HTL HRW
      have B4 := Lib.hid (B3.out.trans (b4.mono B3.out.size))
      have C4 := Lib.hid b4
      clear b4 hT p0 p1 p2 p3 p4 p5
      obtain ⟨p0, p1, p2, p3, p4, p5⟩ := SV.out w4 B4.out
      go_wp2_with fail
      refine (ImplReadJournal_any m t bs sm wk T w4 (HA.out _ B4.out) (by omega)).mono ?_
      rintro e w5 ⟨rv, rfl, o5, b5⟩
      rw [HRW.out] at o5 ⊢
      have B5 := Lib.hid (B4.out.trans (b5.mono B4.out.size))
      have C5 := Lib.hid (C4.out.trans (b5.mono C4.out.size))
      have RV := Lib.hid (fun W (h : Below w5.heap.size w5 W) => (show FRecord.Sl w5 rv rs from o5.sl).below h)
      obtain ⟨va5, vc5, rfl, _, _, _⟩ := id (show FRecord.Sl w5 rv rs from o5.sl)
      clear o5 b5 p0 p1 p2 p3 p4 p5
      obtain ⟨p0, p1, p2, p3, p4, p5⟩ := SV.out w5 B5.out
      unfold tupVI
      go_wp2_with fail
      refine (ImplDeskAfter_any m t bs sm wk w5 (HA.out _ B5.out) (RS.out _ C5.out)).mono ?_
      rintro e w6 ⟨vl, vr, rfl, od, b6⟩
      rw [deskR_ok HOK.out HRK.out HLA.out] at od ⊢
      obtain ⟨l, r, q⟩ := d
      have od : DeskO w6 w5.heap.size vl vr l r := od
      unfold deskV
      have B6 := Lib.hid (B5.out.trans (b6.mono B5.out.size))
      have C6 := Lib.hid (C5.out.trans (b6.mono C5.out.size))
      have R6 := Lib.hid b6
      obtain ⟨la, ln, lc, xa, xc, rfl, rfl⟩ := od.form
      have bd : Below w6.heap.size w6 (w6.alloc (.cells #[.slice la ln lc, .slice xa ln xc, .int .i64 q] 37)) := (Below.refl _ _).alloc (Nat.le_refl _) _
      have BD := Lib.hid (CellsAt.new w6 [.slice la ln lc, .slice xa ln xc, .int .i64 q] 37)
      have OD := Lib.hid (od.below bd)
      obtain ⟨W7, hW7⟩ : ∃ W7, W7 = w6.alloc (.cells #[.slice la ln lc, .slice xa ln xc, .int .i64 q] 37) := ⟨_, rfl⟩
      rw [show (w6.alloc (.cells ([.slice la ln lc, .slice xa ln xc, .int .i64 q] : List Value).toArray 37)) = W7 from hW7.symm] at BD
      rw [← hW7] at OD bd
      have HW7 := Lib.hid hW7.symm
      have B7 := Lib.hid (B6.out.trans (bd.mono B6.out.size))
      have C7 := Lib.hid (C6.out.trans (bd.mono C6.out.size))
      have R7 := Lib.hid (R6.out.trans (bd.mono R6.out.size))
      clear od b6 bd hW7 p0 p1 p2 p3 p4 p5
      obtain ⟨p0, p1, p2, p3, p4, p5⟩ := SV.out w6 B6.out
      have lz6 : w1.heap.size < w6.heap.size := by have := B6.out.size; omega
      have nz6 : ¬ w1.heap.size = w6.heap.size := Nat.ne_of_lt lz6
      have mz6 : ¬ w6.heap.size = w1.heap.size := fun h => nz6 h.symm
      go_wp2_with fail
      rw [HW7.out]
      refine (SpecDeskAfter_any m t bs sm wk W7 (HA.out _ B7.out) (RS.out _ C7.out) (by omega)).mono ?_
      rintro e w8 ⟨ul, ur, rfl, od8, b8⟩
      rw [deskR_ok HOK.out HRK.out HLA.out] at od8 ⊢
      have od8 : DeskO w8 W7.heap.size ul ur l r := od8
      unfold deskV
      obtain ⟨ma, mn, mc, ya, yc, rfl, rfl⟩ := od8.form
      have bd9 : Below w8.heap.size w8 (w8.alloc (.cells #[.slice ma mn mc, .slice ya mn yc, .int .i64 q] 37)) := (Below.refl _ _).alloc (Nat.le_refl _) _
      have BD9 := Lib.hid (CellsAt.new w8 [.slice ma mn mc, .slice ya mn yc, .int .i64 q] 37)
      obtain ⟨W9, hW9⟩ : ∃ W9, W9 = w8.alloc (.cells #[.slice ma mn mc, .slice ya mn yc, .int .i64 q] 37) := ⟨_, rfl⟩
      rw [show (w8.alloc (.cells ([.slice ma mn mc, .slice ya mn yc, .int .i64 q] : List Value).toArray 37)) = W9 from hW9.symm] at BD9
      rw [← hW9] at bd9
      have HW9 := Lib.hid hW9.symm
      have OD9 := Lib.hid (od8.below bd9)
      have R9 := Lib.hid (b8.trans (bd9.mono b8.size))
      have B9 := Lib.hid (B7.out.trans (R9.out.mono B7.out.size))
      have C9 := Lib.hid (C7.out.trans (R9.out.mono C7.out.size))
      have D9 := Lib.hid (R7.out.trans (R9.out.mono R7.out.size))
      have OD9' := Lib.hid (OD.out.below R9.out)
      have BD8 := BD.out.below b8
      obtain ⟨hz8, q0, q1, q2⟩ : (w6.heap.size < w8.heap.size) ∧ w8.cell? ⟨w6.heap.size, 0, none⟩ = some (.slice la ln lc) ∧ w8.cell? ⟨w6.heap.size, 1, none⟩ = some (.slice xa ln xc) ∧ w8.cell? ⟨w6.heap.size, 2, none⟩ = some (.int .i64 q) := ⟨BD8.1, BD8.get 0 _ rfl, BD8.get 1 _ rfl, BD8.get 2 _ rfl⟩
      have nz8 : ¬ w6.heap.size = w8.heap.size := Nat.ne_of_lt hz8
      have mz8 : ¬ w8.heap.size = w6.heap.size := fun h => nz8 h.symm
      clear od8 b8 bd9 hW9 BD8 p0 p1 p2 p3 p4 p5
      have hll : ((rs.length : Int) != (rs.length : Int)) = false := by simp
      go_wp2_with fail
      rw [HW9.out]
      refine (SameDesk_same q _ OD9'.out.1.sl OD9'.out.2.1.sl OD9.out.1.sl OD9.out.2.1.sl).mono ?_
      rintro e w10 ⟨rfl, b10⟩
      have B10 := Lib.hid (B9.out.trans (b10.mono B9.out.size))
      have C10 := Lib.hid (C9.out.trans (b10.mono C9.out.size))
      have D10 := Lib.hid (D9.out.trans (b10.mono D9.out.size))
      clear b10 q0 q1 q2
      go_wp2_with fail
      go_loopw [14] (fun i wr => ∃ k : Nat, k ≤ rs.length ∧ i = .int .i64 k ∧ Below w10.heap.size w10 wr) (fun i _ => rs.length - (intOf i).toNat)
      case atStart => exact ⟨0, Nat.zero_le _, rfl, Below.refl _ _⟩
      case round =>
        obtain ⟨k, hk, rfl, hbr⟩ := hrel
        have B11 := Lib.hid (B10.out.trans (hbr.mono B10.out.size))
        have C11 := Lib.hid (C10.out.trans (hbr.mono C10.out.size))
        have D11 := Lib.hid (D10.out.trans (hbr.mono D10.out.size))
        by_cases hlt : k < rs.length
        · obtain ⟨ba, oa, rfl, z0, c0, c1, c2⟩ := FRecord_at (RV.out _ D11.out) hlt
          obtain ⟨bb, ob, rfl, z1, e0, e1, e2⟩ := FRecord_at (RS.out _ C11.out) hlt
          have hx := HRK.out _ (List.getElem_mem hlt)
          generalize rs[k] = x at hx c0 c1 c2 e0 e1 e2
          obtain ⟨x0, x1, x2⟩ := x
          dsimp only at hx c0 c1 c2 e0 e1 e2
          have hsv : recSvOk m t xss bs sm wk x0 x1 x2 = true := by unfold recSvOk; rw [HOK.out, hx]; rfl
          have i1 : (k : Int) < (rs.length : Int) := by omega
          have i0 : (0 : Int) ≤ (k : Int) := by omega
          have s0 : (x0 != x0) = false := by simp
          have s1 : (x1 != x1) = false := by simp
          have s2 : (x2 != x2) = false := by simp
          obtain ⟨p0, p1, p2, p3, p4, p5⟩ := SV.out wr B11.out
          have kp0 := fun d os => cell_regrown p0 d os
          have kp1 := fun d os => cell_regrown p1 d os
          have kp2 := fun d os => cell_regrown p2 d os
          have kp3 := fun d os => cell_regrown p3 d os
          have kp4 := fun d os => cell_regrown p4 d os
          have kp5 := fun d os => cell_regrown p5 d os
          have kc0 := fun d os => cell_regrown c0 d os
          have kc1 := fun d os => cell_regrown c1 d os
          have kc2 := fun d os => cell_regrown c2 d os
          have ke0 := fun d os => cell_regrown e0 d os
          have ke1 := fun d os => cell_regrown e1 d os
          have ke2 := fun d os => cell_regrown e2 d os
          have KV := Lib.hid (fun W (h : Below wr.heap.size wr W) => show Calls Try.prog 12 #[.agg #[.int .i64 m, .int .i64 t, .slice va vn vc, .int .i64 bs, .int .i64 sm, .int .i64 wk], .agg #[.int .i64 x0, .int .i64 x1, .int .i64 x2]] W fun e w' => e = .returned (.bool true) ∧ Below W.heap.size W w' from by
            have h9 := ImplValidRecord_any m t bs sm wk x0 x1 x2 W (HA.out _ (B11.out.trans (h.mono B11.out.size)))
            rw [hsv] at h9
            exact h9)
          clear c0 c1 c2 e0 e1 e2 p0 p1 p2 p3 p4 p5 hx hsv
          go_wp2_with fail
          refine wp_region_quiet_below (by kernel_rfl) (by kernel_rfl) ?_
          repeat (first | go_big_quiet_skip | quiet_step (exact Calls.regrown_of (KV.out _ (below_regrown _ _ _))))
          refine wpQuiet_nil ?_
          intro _ hw'
          obtain ⟨⟨dq, osq⟩, hw''⟩ := hw'
          subst hw''
          have bq := hbr.trans ((below_regrown wr dq osq).mono hbr.size)
          generalize grow (redrawn wr dq) osq = wq at bq ⊢
          clear kp0 kp1 kp2 kp3 kp4 kp5 kc0 kc1 kc2 ke0 ke1 ke2 KV
          go_wp2
          go_roundw
          case rel => exact ⟨k + 1, by omega, by go_num, bq⟩
          case measure => simp [intOf]; omega
        · obtain rfl : k = rs.length := by omega
          clear hk hlt
          have hm238 : ((T.size : Int)) ≤ 238 := by omega
          have BW := Lib.hid (BJ.out.trans (C11.out.mono BJ.out.size))
          obtain ⟨p0, p1, p2, p3, p4, p5⟩ := SV.out wr B11.out
          go_wp2_with fail
          refine (a2At_any a0 n0 c0 0 (T.size + 1) _ rfl (by go_num) HN0.out HX.out (HR.out _ BW.out) HB.out (by decide) (by omega) (by omega)).mono ?_
          rintro e w12 ⟨y, rfl, hy, rfl⟩
          have y1 : (y : Int) ≤ (T.size : Int) := by omega
          go_wp2_with fail
          have hCT := ext_take HTL.out y
          have hCS := ext_size T (show y ≤ T.size by omega)
          generalize hCe : T.extract 0 y = C at hCT hCS ⊢
          have hh := read_torn HOK.out (by omega) (by omega) HRK.out y hCT (by omega)
          have hcl : C.data.toList.length = C.size := rfl
          have hct := List.count_le_length (a := (10 : UInt8)) (l := C.data.toList)
          generalize hcnt : C.data.toList.count 10 = cnt at hh hct
          have HRT := Lib.hid hh.1
          have hcr := hh.2
          have HCN := Lib.hid hcnt
          clear hh hcnt hCe hCT
          refine (ImplReadJournal_any m t bs sm wk C wr (HA.out _ B11.out) (by omega)).mono ?_
          rintro e w13 ⟨pv, rfl, o13, b13⟩
          rw [HRT.out] at o13 ⊢
          have o13s := o13.sl
          obtain ⟨pa, pc, hpv, _, _, _⟩ := id (show FRecord.Sl w13 pv (rs.take cnt) from o13s)
          rw [show (rs.take cnt).length = cnt by simp; omega] at hpv
          subst hpv
          have B13 := Lib.hid (B11.out.trans (b13.mono B11.out.size))
          have C13 := Lib.hid (C11.out.trans (b13.mono C11.out.size))
          have BW13 := Lib.hid (BW.out.trans (b13.mono BW.out.size))
          clear o13 o13s b13 p0 p1 p2 p3 p4 p5
          unfold tupVI
          go_wp2
          go_loopw [18, 19] (fun lv iv wr => ∃ i : Nat, i ≤ C.size ∧ iv = .int .i64 i ∧ lv = .int .i64 ((C.data.toList.take i).count 10 : Nat) ∧ Below w13.heap.size w13 wr) (fun _ iv _ => C.size - (intOf iv).toNat)
          case atStart => exact ⟨0, Nat.zero_le _, rfl, rfl, Below.refl _ _⟩
          case round =>
            obtain ⟨i, hi, rfl, rfl, hb2⟩ := hrel
            have hci := List.count_le_length (a := (10 : UInt8)) (l := C.data.toList.take i)
            rw [List.length_take] at hci
            by_cases hlt : i < C.size
            · have i1 : (i : Int) < (C.size : Int) := by omega
              have hst := count_step C hlt
              by_cases he : C[i] = 10
              · have ht : ((C[i].toNat : Int) == 10) = true := by rw [he]; rfl
                rw [if_pos he] at hst
                have HST := Lib.hid hst
                generalize (C.data.toList.take i).count 10 = z at hci HST ⊢
                clear hst he
                go_wp2
                go_roundw
                case rel => exact ⟨i + 1, by omega, by go_num, by rw [HST.out]; go_num, hb2⟩
                case measure => simp [intOf]; omega
              · have ht : ((C[i].toNat : Int) == 10) = false := by
                  have : ¬ C[i].toNat = 10 := fun h => he (UInt8.toNat_inj.1 (by rw [h]; rfl))
                  simp; omega
                rw [if_neg he] at hst
                have HST := Lib.hid hst
                generalize (C.data.toList.take i).count 10 = z at hci HST ⊢
                clear hst he
                go_wp2
                go_roundw
                case rel => exact ⟨i + 1, by omega, by go_num, by rw [HST.out]; go_num, hb2⟩
                case measure => simp [intOf]; omega
            · obtain rfl : i = C.size := by omega
              rw [show C.data.toList.take C.size = C.data.toList from List.take_of_length_le (Nat.le_of_eq hcl), HCN.out] at hci ⊢
              clear hi hlt hci
              have j0 : ((cnt : Int) != (cnt : Int)) = false := by simp
              have j1 : (cnt : Int) ≤ (rs.length : Int) := by omega
              have j2 : (cnt : Int) ≤ (rc : Int) := by omega
              have B14 := Lib.hid (B13.out.trans (hb2.mono B13.out.size))
              have C14 := Lib.hid (C13.out.trans (hb2.mono C13.out.size))
              have BW14 := Lib.hid (BW13.out.trans (hb2.mono BW13.out.size))
              obtain ⟨dd, hdd⟩ := learnAll_take HLA.out cnt
              have HDR := Lib.hid (deskR_ok (wk := wk) (bs := bs) (t := t) (xss := xss) HOK.out (fun x hx => HRK.out x (List.mem_of_mem_take hx)) hdd)
              clear hdd hb2
              go_wp2_with fail
              refine wpX_start (fun W => W.cell? ⟨w1.heap.size, 0, none⟩ = some (.int .i64 m) ∧ W.cell? ⟨w1.heap.size, 1, none⟩ = some (.int .i64 t) ∧ W.cell? ⟨w1.heap.size, 2, none⟩ = some (.slice va vn vc) ∧ W.cell? ⟨w1.heap.size, 3, none⟩ = some (.int .i64 bs) ∧ W.cell? ⟨w1.heap.size, 4, none⟩ = some (.int .i64 sm) ∧ W.cell? ⟨w1.heap.size, 5, none⟩ = some (.int .i64 wk)) [] (by kernel_rfl) ?_
              have hC := SV.out wr.drew (B14.out.trans ((Below.refl wr.heap.size wr).drew.mono B14.out.size))
              refine wpX_load (i := 0) (v := ?_) rfl (by kernel_rfl) (fun _ _ _ h => h) hC rfl (fun w' hw' => ?_) ?_
              rotate_left
              · obtain ⟨k1, k2, k3, k4, k5, k6⟩ := hw'; go_simp; try with_reducible rfl
              try simp only [Act.put, List.setIfInBounds_toArray, List.set_cons_zero, List.set_cons_succ]
              refine wpX_free (i := 1) (v := ?_) rfl (by kernel_rfl) (fun _ _ _ h => h) rfl (fun w' => ?_) ?_
              rotate_left
              · go_simp; try with_reducible rfl
              try simp only [Act.put, List.setIfInBounds_toArray, List.set_cons_zero, List.set_cons_succ]
              refine wpX_free (i := 2) (v := ?_) rfl (by kernel_rfl) (fun _ _ _ h => h) rfl (fun w' => ?_) ?_
              rotate_left
              · go_simp; try with_reducible rfl
              try simp only [Act.put, List.setIfInBounds_toArray, List.set_cons_zero, List.set_cons_succ]
              refine wpX_free (i := 3) (v := ?_) rfl (by kernel_rfl) (fun _ _ _ h => h) rfl (fun w' => ?_) ?_
              rotate_left
              · go_simp; try with_reducible rfl
              try simp only [Act.put, List.setIfInBounds_toArray, List.set_cons_zero, List.set_cons_succ]
              refine wpX_two (i := 4) (j := 8) rfl rfl (by kernel_rfl) rfl rfl ?_ ?_
              · intro K hK
                go_simp
                go_at_call 9
                refine (ImplDeskAfter_any m t bs sm wk _ (HA.out _ (B14.out.trans ((Below.refl wr.heap.size wr).drew.mono B14.out.size))) (Flat.Sl.take (RS.out _ (C14.out.trans ((Below.refl wr.heap.size wr).drew.mono C14.out.size))) (show cnt ≤ rs.length by omega))).mono ?_
                rintro e w15 ⟨zl, zr, rfl, od15, b15⟩
                rw [HDR.out] at od15 ⊢
                obtain ⟨da, dn, dc, ea, ec, rfl, rfl⟩ := od15.form
                have BS15 := Lib.hid (((Below.refl wr.heap.size wr).drew.trans b15))
                have hC := SV.out w15 (B14.out.trans (BS15.out.mono B14.out.size))
                refine hK _ _ hC ?_
                clear hK K
                unfold deskV
                try simp only [Act.put, List.setIfInBounds_toArray, List.set_cons_zero, List.set_cons_succ]
                refine wpX_free (i := 5) (v := ?_) rfl (by kernel_rfl) (fun _ _ _ h => h) rfl (fun w' => ?_) ?_
                rotate_left
                · go_simp; try with_reducible rfl
                try simp only [Act.put, List.setIfInBounds_toArray, List.set_cons_zero, List.set_cons_succ]
                refine wpX_free (i := 6) (v := ?_) rfl (by kernel_rfl) (fun _ _ _ h => h) rfl (fun w' => ?_) ?_
                rotate_left
                · go_simp; try with_reducible rfl
                try simp only [Act.put, List.setIfInBounds_toArray, List.set_cons_zero, List.set_cons_succ]
                refine wpX_free (i := 7) (v := ?_) rfl (by kernel_rfl) (fun _ _ _ h => h) rfl (fun w' => ?_) ?_
                rotate_left
                · go_simp; try with_reducible rfl
                try simp only [Act.put, List.setIfInBounds_toArray, List.set_cons_zero, List.set_cons_succ]
                refine wpX_one (i := 8) rfl (by kernel_rfl) rfl ?_
                intro K hK
                go_simp
                have BS16 := Lib.hid (BS15.out.alloc BS15.out.size (.cells #[.slice none 0 0, .slice none 0 0, .int .i64 0] 37))
                have hC := SV.out _ (B14.out.trans (BS16.out.mono B14.out.size))
                refine hK _ _ hC ?_
                clear hK K
                try simp only [Act.put, List.setIfInBounds_toArray, List.set_cons_zero, List.set_cons_succ]
                refine wpX_one (i := 9) rfl (by kernel_rfl) rfl ?_
                intro K hK
                go_simp
                have BS17 := Lib.hid (BS15.out.alloc BS15.out.size (.cells #[.slice da dn dc, .slice ea dn ec, .int .i64 dd.2.2] 37))
                have hC := SV.out _ (B14.out.trans (BS17.out.mono B14.out.size))
                refine hK _ _ hC ?_
                clear hK K
                try simp only [Act.put, List.setIfInBounds_toArray, List.set_cons_zero, List.set_cons_succ]
                refine wpX_free (i := 10) (v := ?_) rfl (by kernel_rfl) (fun _ _ _ h => h) rfl (fun w' => ?_) ?_
                rotate_left
                · go_simp; try with_reducible rfl
                try simp only [Act.put, List.setIfInBounds_toArray, List.set_cons_zero, List.set_cons_succ]
                refine wpX_rest (t := []) (l := []) rfl (by kernel_rfl) (by kernel_rfl) ?_
                clear hC
                go_wp2
                go_ret
                exact ⟨rfl, BW14.out.trans (BS17.out.mono BW14.out.size)⟩
              · intro K hK
                go_simp
                have BA := Lib.hid (show Below wr.heap.size wr (wr.alloc (.cells #[.slice none 0 0, .slice none 0 0, .int .i64 0] 37)).drew from ((Below.refl wr.heap.size wr).alloc (Nat.le_refl _) _).drew)
                have hC := SV.out _ (B14.out.trans (BA.out.mono B14.out.size))
                refine hK _ _ hC ?_
                clear hK K
                try simp only [Act.put, List.setIfInBounds_toArray, List.set_cons_zero, List.set_cons_succ]
                refine wpX_one (i := 4) rfl (by kernel_rfl) rfl ?_
                intro K hK
                go_simp
                go_at_call 9
                refine (ImplDeskAfter_any m t bs sm wk _ (HA.out _ (B14.out.trans (BA.out.mono B14.out.size))) (Flat.Sl.take (RS.out _ (C14.out.trans (BA.out.mono C14.out.size))) (show cnt ≤ rs.length by omega))).mono ?_
                rintro e w15 ⟨zl, zr, rfl, od15, b15⟩
                rw [HDR.out] at od15 ⊢
                obtain ⟨da, dn, dc, ea, ec, rfl, rfl⟩ := od15.form
                have BS15 := Lib.hid (BA.out.trans (b15.mono BA.out.size))
                have f0 := b15.frozen (p := ⟨wr.heap.size, 0, none⟩) (by simp)
                have f1 := b15.frozen (p := ⟨wr.heap.size, 1, none⟩) (by simp)
                have f2 := b15.frozen (p := ⟨wr.heap.size, 2, none⟩) (by simp)
                have g0 := b15.cell (p := ⟨wr.heap.size, 0, none⟩) (by simp)
                have g1 := b15.cell (p := ⟨wr.heap.size, 1, none⟩) (by simp)
                have g2 := b15.cell (p := ⟨wr.heap.size, 2, none⟩) (by simp)
                simp [go_sem] at f0 f1 f2 g0 g1 g2
                have hC := SV.out w15 (B14.out.trans (BS15.out.mono B14.out.size))
                refine hK _ _ hC ?_
                clear hK K
                unfold deskV
                try simp only [Act.put, List.setIfInBounds_toArray, List.set_cons_zero, List.set_cons_succ]
                refine wpX_free (i := 5) (v := ?_) rfl (by kernel_rfl) (fun _ _ _ h => h) rfl (fun w' => ?_) ?_
                rotate_left
                · go_simp; try with_reducible rfl
                try simp only [Act.put, List.setIfInBounds_toArray, List.set_cons_zero, List.set_cons_succ]
                refine wpX_free (i := 6) (v := ?_) rfl (by kernel_rfl) (fun _ _ _ h => h) rfl (fun w' => ?_) ?_
                rotate_left
                · go_simp; try with_reducible rfl
                try simp only [Act.put, List.setIfInBounds_toArray, List.set_cons_zero, List.set_cons_succ]
                refine wpX_free (i := 7) (v := ?_) rfl (by kernel_rfl) (fun _ _ _ h => h) rfl (fun w' => ?_) ?_
                rotate_left
                · go_simp; try with_reducible rfl
                try simp only [Act.put, List.setIfInBounds_toArray, List.set_cons_zero, List.set_cons_succ]
                refine wpX_one (i := 9) rfl (by kernel_rfl) rfl ?_
                intro K hK
                go_simp
                have BS17 := Lib.hid (((BS15.out.setCell (p := ⟨wr.heap.size, 0, none⟩) (Nat.le_refl _) (.slice da dn dc)).setCell (p := ⟨wr.heap.size, 1, none⟩) (Nat.le_refl _) (.slice ea dn ec)).setCell (p := ⟨wr.heap.size, 2, none⟩) (Nat.le_refl _) (.int .i64 dd.2.2))
                have hC := SV.out _ (B14.out.trans (BS17.out.mono B14.out.size))
                refine hK _ _ hC ?_
                clear hK K
                try simp only [Act.put, List.setIfInBounds_toArray, List.set_cons_zero, List.set_cons_succ]
                refine wpX_free (i := 10) (v := ?_) rfl (by kernel_rfl) (fun _ _ _ h => h) rfl (fun w' => ?_) ?_
                rotate_left
                · go_simp; try with_reducible rfl
                try simp only [Act.put, List.setIfInBounds_toArray, List.set_cons_zero, List.set_cons_succ]
                refine wpX_rest (t := []) (l := []) rfl (by kernel_rfl) (by kernel_rfl) ?_
                clear hC
                go_wp2
                go_ret
                exact ⟨rfl, BW14.out.trans (BS17.out.mono BW14.out.size)⟩
end Go.Proofs.Ytihjadffdjjogaa
