/-
  ReadDeed, the reference's.
-/
import Derived.Test.YtofpelmplcoegaaGreatZRowFnPlantScript12
set_option linter.unusedVariables false
set_option linter.unusedSimpArgs false
namespace Go.Proofs.YtofpelmplcoegaaGreat
open Go.RowKit Go.Sort
theorem beq_eq {a b : ByteArray} (h : (a.toList == b.toList) = true) : a = b := by
  have h2 : a.toList = b.toList := by simpa using h
  rw [ByteArray.toList_eq, ByteArray.toList_eq] at h2
  exact bext h2
theorem beq_ne {a b : ByteArray} (h : (a.toList == b.toList) = false) : ¬ a = b := by
  intro e; rw [e] at h; simp at h
theorem eq_of_length_one {α : Type} {L : List α} (h : L.length = 1) : L = [L[0]'(by omega)] := by
  match L, h with
  | [a], _ => rfl
set_option maxHeartbeats 8000000 in
theorem SpecReadDeed_any (s : ByteArray) (w : World) (hs : s.size ≤ 1048576) :
    Calls Tryz.prog 67 #[.string s] w fun e w' => e = .returned (tupD (deedR s)) ∧ Below w.heap.size w w' := by
  have hcl := cuts_lens s 32
  have hc1 := cuts_len s 32
  have hcs := hcl.2
  have hcl1 := hcl.1
  generalize hL : cuts s 32 = L at hc1 hcs hcl1
  have HL := Lib.hid hL
  have HSZ := Lib.hid hcs
  have bx : Below w.heap.size w (w.alloc (.cells #[.int .i64 0, .int .i64 0] 59)) := (Below.refl _ _).alloc (Nat.le_refl _) _
  clear hL hcl hcs
  go_enter Tryz.func67, Tryz.ntmps67
  go_wp2_with fail
  refine (l01Words_any s 32 _ hs).mono ?_
  rintro e w1 ⟨v1, rfl, o1, b1⟩
  rw [HL.out] at o1
  have hb1 := bx.trans (b1.mono bx.size)
  have q0 := b1.cell (p := ⟨w.heap.size, 0, none⟩) (by simp)
  have q1 := b1.cell (p := ⟨w.heap.size, 1, none⟩) (by simp)
  have qf0 := b1.frozen (p := ⟨w.heap.size, 0, none⟩) (by simp)
  have qf1 := b1.frozen (p := ⟨w.heap.size, 1, none⟩) (by simp)
  simp [go_sem] at q0 q1 qf0 qf1
  have z1 : w.heap.size < w1.heap.size := by have := b1.size; simp at this; omega
  have Q := Lib.hid (show w1.cell? ⟨w.heap.size, 0, none⟩ = some (.int .i64 0) ∧ w1.cell? ⟨w.heap.size, 1, none⟩ = some (.int .i64 0) ∧ w1.frozen? ⟨w.heap.size, 0, none⟩ = false ∧ w1.frozen? ⟨w.heap.size, 1, none⟩ = false from ⟨q0, q1, qf0, qf1⟩)
  have QW := Lib.hid (fun W (h : Below w1.heap.size w1 W) => show W.cell? ⟨w.heap.size, 0, none⟩ = some (.int .i64 0) ∧ W.cell? ⟨w.heap.size, 1, none⟩ = some (.int .i64 0) ∧ W.frozen? ⟨w.heap.size, 0, none⟩ = false ∧ W.frozen? ⟨w.heap.size, 1, none⟩ = false from
    ⟨by rw [h.cell (p := ⟨w.heap.size, 0, none⟩) z1]; exact Q.out.1, by rw [h.cell (p := ⟨w.heap.size, 1, none⟩) z1]; exact Q.out.2.1, by rw [h.frozen (p := ⟨w.heap.size, 0, none⟩) z1]; exact Q.out.2.2.1, by rw [h.frozen (p := ⟨w.heap.size, 1, none⟩) z1]; exact Q.out.2.2.2⟩)
  have HS := Lib.hid (fun W (h : Below w1.heap.size w1 W) => o1.sl.below h)
  obtain ⟨la, lc, rfl, lm1, lm2, _⟩ := id o1.sl
  unfold maxLen at lm2
  clear q0 q1 qf0 qf1 b1 bx o1
  go_wp2_with fail
  refine (l09Words_any _).mono ?_
  rintro e w2 ⟨rfl, tS, tB, b2, z2⟩
  have TS := Lib.hid tS
  have TB := Lib.hid tB
  have b2s := b2.size
  clear tS tB
  have e0 : (w2.alloc (.cells #[.int .i64 0, .int .i64 0] 59)).cell? ⟨w2.heap.size, 0, none⟩ = some (.int .i64 0) := by simp [go_sem]
  have e1 : (w2.alloc (.cells #[.int .i64 0, .int .i64 0] 59)).cell? ⟨w2.heap.size, 1, none⟩ = some (.int .i64 0) := by simp [go_sem]
  have E := Lib.hid (And.intro e0 e1)
  clear e0 e1
  obtain ⟨x, hx⟩ : ∃ x, x = L.getD 0 ⟨#[]⟩ := ⟨_, rfl⟩
  have hx0 : L[0]'(by omega) = x := by rw [hx]; simp [show 0 < L.length by omega]
  have HX := Lib.hid hx
  have HX0 := Lib.hid hx0
  clear hx hx0
  go_wp2
  go_loopw [8] (fun i wr => ∃ k : Nat, k ≤ 10 ∧ i = .int .i64 ((k : Int) + 1) ∧ w2.heap.size < wr.heap.size ∧ wr.cell? ⟨w2.heap.size, 0, none⟩ = some (.int .i64 (kindG x k)) ∧ wr.cell? ⟨w2.heap.size, 1, none⟩ = some (.int .i64 0) ∧ wr.frozen? ⟨w2.heap.size, 0, none⟩ = false ∧ wr.frozen? ⟨w2.heap.size, 1, none⟩ = false ∧ Below w2.heap.size w2 wr) (fun i _ => 11 - (intOf i).toNat)
  case atStart => exact ⟨0, by omega, rfl, by simp, E.out.1, E.out.2, by simp [go_sem], by simp [go_sem], (Below.refl _ _).alloc (Nat.le_refl _) _⟩
  case round =>
    obtain ⟨k, hk, rfl, hzr, d0, d1, df0, df1, hbr⟩ := hrel
    have hbl := b2.trans (hbr.mono b2.size)
    obtain ⟨bb, off, rfl, hbb, gc⟩ := FS_get (HS.out _ hbl) (i := 0) (by omega)
    rw [HX0.out] at gc
    simp only [Nat.add_zero] at gc
    by_cases hlt : k < 10
    · have gw := TS.out (k + 1) (by omega) (by omega)
      have gw2 := hbr.cell (p := ⟨w1.heap.size, k + 1, none⟩) (by show w1.heap.size < _; omega)
      rw [gw] at gw2
      simp only [Int.natCast_add, Int.natCast_one] at gw2
      have k1 := fun d os => cell_regrown gw2 d os
      have k2 := fun d os => cell_regrown gc d os
      have i0 : (0 : Int) ≤ (k : Int) + 1 := by omega
      have i1 : (k : Int) + 1 < 11 := by omega
      have i2 : (0 : Int) < (L.length : Int) := by omega
      have i2n : 0 < L.length := by omega
      have i3 : ((k : Int) + 1).toNat = k + 1 := by omega
      have hst : kindG x (k + 1) = if wordOf ((k : Int) + 1) = x then (k : Int) + 1 else kindG x k := rfl
      have HST := Lib.hid hst
      clear hst gw gw2 gc
      go_wp2_with fail
      refine wp_region_quiet_below (by kernel_rfl) (by kernel_rfl) ?_
      repeat (first | go_big_quiet_skip | quiet_step (fail))
      refine wpQuiet_nil ?_
      intro _ hw'
      obtain ⟨⟨dq, osq⟩, hw''⟩ := hw'
      subst hw''
      have bq0 := below_regrown wr dq osq
      have bq := hbr.trans (bq0.mono hbr.size)
      have c0 := cell_regrown d0 dq osq
      have c1 := cell_regrown d1 dq osq
      have cf0 := bq0.frozen (p := ⟨w2.heap.size, 0, none⟩) hzr
      have cf1 := bq0.frozen (p := ⟨w2.heap.size, 1, none⟩) hzr
      rw [df0] at cf0
      rw [df1] at cf1
      have hzq := bq0.size
      generalize grow (redrawn wr dq) osq = wq at bq c0 c1 cf0 cf1 hzq ⊢
      clear k1 k2 d0 d1 df0 df1 bq0 i3
      go_wp2
      · have he : wordOf ((k : Int) + 1) = x := beq_eq (by assumption)
        have HE := Lib.hid he
        clear he
        go_roundw
        case rel => exact ⟨k + 1, by omega, by go_num, by simp; omega, by rw [HST.out, if_pos HE.out]; simp [go_sem, c0], by simp [go_sem, c1], by simpa using cf0, by simpa using cf1, bq.setCell (Nat.le_refl _) _⟩
        case measure => simp [intOf]; omega
      · have he : ¬ wordOf ((k : Int) + 1) = x := beq_ne (by assumption)
        have HE := Lib.hid he
        clear he
        go_roundw
        case rel => exact ⟨k + 1, by omega, by go_num, by omega, by rw [HST.out, if_neg HE.out]; exact c0, c1, cf0, cf1, bq⟩
        case measure => simp [intOf]; omega
    · obtain rfl : k = 10 := by omega
      have hks := kindG_spec x 10
      generalize kindG x 10 = K at hks d0
      rcases hks with ⟨rfl, hno⟩ | ⟨hK1, hK2, hw⟩
      · have hr := deedR_kind0 HL.out hc1 (by rw [← HX.out]; exact hno)
        have HR := Lib.hid hr
        clear hr hno
        obtain ⟨r0, r1, rf0, rf1⟩ := QW.out _ hbl
        go_wp2
        refine bodyPost_ret (v := tupD (deedR s)) (by rw [HR.out]; simp [results, Tryz.results67, go_sem, tupD, r0, r1]) rfl ⟨rfl, ?_⟩
        exact ((hb1.trans (hbl.mono hb1.size)).setCell (Nat.le_refl _) _).setCell (Nat.le_refl _) _
      · obtain ⟨j, rfl⟩ := Int.eq_ofNat_of_zero_le (show 0 ≤ K by omega)
        have tb := TB.out j (by omega) (by omega)
        have tb2 := hbr.cell (p := ⟨w1.heap.size + 1, j, none⟩) (by show w1.heap.size + 1 < _; omega)
        rw [tb] at tb2
        have hj0 : ((j : Int) == 0) = false := by simp; omega
        have hji : (0 : Int) ≤ (j : Int) := by omega
        have hj11 : (j : Int) < 11 := by omega
        have HW := Lib.hid hw
        have HK := Lib.hid (show 1 ≤ (j : Int) ∧ (j : Int) ≤ 10 by omega)
        have HWL := Lib.hid (show wordOf j = L.getD 0 ⟨#[]⟩ by rw [← HX.out]; exact hw)
        clear hw tb
        generalize ht : toldOf j = t at tb2
        have HT := Lib.hid ht
        clear ht
        cases t
        · by_cases h1 : L.length = 1
          · have hl2 : ((L.length : Int) == 2) = false := by simp; omega
            have hl3 : (L.length : Int) ≤ 2 := by omega
            have hd := deedR_bare HL.out HK.out HWL.out HT.out (by rw [← HX.out, ← HX0.out]; exact eq_of_length_one h1)
            have HR := Lib.hid hd.1
            have HOK := Lib.hid hd.2
            have hn : numsG (L.drop 1) [] = ([], true) := by rw [List.drop_of_length_le (by omega)]; rfl
            have HN := Lib.hid hn
            clear hd hn h1
            go_wp2_with fail
            refine (l09Numbers_any 1 _ (HS.out _ hbl) (by omega) (by omega) (fun y hy => by have := HSZ.out y hy; omega)).mono ?_
            rintro e w3 ⟨v3, rfl, o3, b3⟩
            rw [HN.out] at o3 ⊢
            unfold tupVB
            obtain ⟨na, nc, rfl, _⟩ := id o3.sl
            have c0 := b3.cell (p := ⟨w2.heap.size, 0, none⟩) hzr
            have c1 := b3.cell (p := ⟨w2.heap.size, 1, none⟩) hzr
            rw [d0] at c0
            rw [d1] at c1
            have hb3 := hbl.trans (b3.mono (Nat.le_trans b2s hbr.size))
            clear d0 d1 df0 df1
            go_wp2_with fail
            refine (l09Deed_any _ _ _).mono ?_
            rintro e w4 ⟨rfl, b4⟩
            rw [HOK.out]
            have z3 := b3.size
            have g0 := b4.cell (p := ⟨w2.heap.size, 0, none⟩) (by show w2.heap.size < _; omega)
            have g1 := b4.cell (p := ⟨w2.heap.size, 1, none⟩) (by show w2.heap.size < _; omega)
            rw [c0] at g0
            rw [c1] at g1
            have hb4 := hb3.trans (b4.mono hb3.size)
            obtain ⟨r0, r1, rf0, rf1⟩ := QW.out _ hb4
            go_wp2
            refine bodyPost_ret (v := tupD (deedR s)) (by rw [HR.out]; simp [results, Tryz.results67, go_sem, tupD, r0, r1]) rfl ⟨rfl, ?_⟩
            exact ((hb1.trans (hb4.mono hb1.size)).setCell (Nat.le_refl _) _).setCell (Nat.le_refl _) _
          · have hr := deedR_len HL.out HK.out HWL.out (.inr ⟨HT.out, h1⟩)
            have HR := Lib.hid hr
            clear hr
            by_cases h2 : L.length = 2
            · have hl2 : ((L.length : Int) == 2) = true := by simp; omega
              clear h1 h2
              obtain ⟨r0, r1, rf0, rf1⟩ := QW.out _ hbl
              go_wp2
              refine bodyPost_ret (v := tupD (deedR s)) (by rw [HR.out]; simp [results, Tryz.results67, go_sem, tupD, r0, r1]) rfl ⟨rfl, ?_⟩
              exact ((hb1.trans (hbl.mono hb1.size)).setCell (Nat.le_refl _) _).setCell (Nat.le_refl _) _
            · have hl2 : ((L.length : Int) == 2) = false := by simp; omega
              have hl3 : (2 : Int) < (L.length : Int) := by omega
              clear h1 h2
              obtain ⟨r0, r1, rf0, rf1⟩ := QW.out _ hbl
              go_wp2
              refine bodyPost_ret (v := tupD (deedR s)) (by rw [HR.out]; simp [results, Tryz.results67, go_sem, tupD, r0, r1]) rfl ⟨rfl, ?_⟩
              exact ((hb1.trans (hbl.mono hb1.size)).setCell (Nat.le_refl _) _).setCell (Nat.le_refl _) _
        · by_cases h2 : L.length = 2
          · have hl2 : ((L.length : Int) == 2) = true := by simp; omega
            have hl3 : (L.length : Int) ≤ 2 := by omega
            obtain ⟨y, hy⟩ : ∃ y, L = [L.getD 0 ⟨#[]⟩, y] := by
              match L, h2 with
              | [a, b], _ => exact ⟨b, rfl⟩
            have hdr : L.drop 1 = [y] := by rw [hy]; rfl
            have hnr := numN_range y
            have hn : numsG (L.drop 1) [] = if numN y < 0 then ([], false) else ([numN y], true) := by rw [hdr]; rfl
            by_cases hneg : numN y < 0
            · have hr := deedR_bad HL.out HK.out HWL.out HT.out hy hneg
              rw [if_pos hneg] at hn
              have HR := Lib.hid hr
              have HN := Lib.hid hn
              clear hr hn hdr hy hneg h2 hnr
              go_wp2_with fail
              refine (l09Numbers_any 1 _ (HS.out _ hbl) (by omega) (by omega) (fun y hy => by have := HSZ.out y hy; omega)).mono ?_
              rintro e w3 ⟨v3, rfl, o3, b3⟩
              rw [HN.out] at o3 ⊢
              unfold tupVB
              obtain ⟨na, nc, rfl, _⟩ := id o3.sl
              have hb3 := hbl.trans (b3.mono (Nat.le_trans b2s hbr.size))
              clear d0 d1 df0 df1
              obtain ⟨r0, r1, rf0, rf1⟩ := QW.out _ hb3
              go_wp2
              refine bodyPost_ret (v := tupD (deedR s)) (by rw [HR.out]; simp [results, Tryz.results67, go_sem, tupD, r0, r1]) rfl ⟨rfl, ?_⟩
              exact ((hb1.trans (hb3.mono hb1.size)).setCell (Nat.le_refl _) _).setCell (Nat.le_refl _) _
            · have hr := deedR_told HL.out HK.out HWL.out HT.out hy (by omega)
              rw [if_neg hneg] at hn
              generalize numN y = n at hr hn hnr
              have hn1 := hnr.1
              have hn2 := hnr.2
              have HRR := Lib.hid hr
              have HN := Lib.hid hn
              clear hr hn hdr hy hneg h2 hnr
              go_wp2_with fail
              refine (l09Numbers_any 1 _ (HS.out _ hbl) (by omega) (by omega) (fun y hy => by have := HSZ.out y hy; omega)).mono ?_
              rintro e w3 ⟨v3, rfl, o3, b3⟩
              rw [HN.out] at o3 ⊢
              unfold tupVB
              obtain ⟨na, nc, rfl, _⟩ := id o3.sl
              obtain ⟨nb, noff, rfl, hnb, gn⟩ := o3.sl.at_ (k := 0) (by simp)
              simp only [Nat.add_zero, List.getElem_cons_zero] at gn
              have c0 := b3.cell (p := ⟨w2.heap.size, 0, none⟩) hzr
              have c1 := b3.cell (p := ⟨w2.heap.size, 1, none⟩) hzr
              have cf1 := b3.frozen (p := ⟨w2.heap.size, 1, none⟩) hzr
              rw [d0] at c0
              rw [d1] at c1
              rw [df1] at cf1
              have hb3 := hbl.trans (b3.mono (Nat.le_trans b2s hbr.size))
              have z3 := b3.size
              have bX : Below w1.heap.size w1 (w3.setCell ⟨w2.heap.size, 1, none⟩ (.int .i64 n)) := hb3.setCell b2s _
              clear d0 d1 df0 df1 o3
              generalize hV : deedOk j n = V at HRR
              have HV := Lib.hid hV
              clear hV
              cases V
              · have HR := Lib.hid (show deedR s = (0, 0, 5) by rw [HRR.out]; rfl)
                go_wp2_with fail
                refine (l09Deed_any _ _ _).mono ?_
                rintro e w4 ⟨rfl, b4⟩
                rw [HV.out]
                have hb4 := bX.trans (b4.mono bX.size)
                obtain ⟨r0, r1, rf0, rf1⟩ := QW.out _ hb4
                go_wp2
                refine bodyPost_ret (v := tupD (deedR s)) (by rw [HR.out]; simp [results, Tryz.results67, go_sem, tupD, r0, r1]) rfl ⟨rfl, ?_⟩
                exact ((hb1.trans (hb4.mono hb1.size)).setCell (Nat.le_refl _) _).setCell (Nat.le_refl _) _
              · have HR := Lib.hid (show deedR s = ((j : Int), n, (0 : Int)) by rw [HRR.out]; rfl)
                have x0 : (w3.setCell ⟨w2.heap.size, 1, none⟩ (.int .i64 n)).cell? ⟨w2.heap.size, 0, none⟩ = some (.int .i64 j) := by simp [go_sem, c0]
                have x1 : (w3.setCell ⟨w2.heap.size, 1, none⟩ (.int .i64 n)).cell? ⟨w2.heap.size, 1, none⟩ = some (.int .i64 n) := by simp [go_sem, c1]
                go_wp2_with fail
                refine (l09Deed_any _ _ _).mono ?_
                rintro e w4 ⟨rfl, b4⟩
                rw [HV.out]
                have g0 := b4.cell (p := ⟨w2.heap.size, 0, none⟩) (by simp; omega)
                have g1 := b4.cell (p := ⟨w2.heap.size, 1, none⟩) (by simp; omega)
                rw [x0] at g0
                rw [x1] at g1
                have hb4 := bX.trans (b4.mono bX.size)
                clear x0 x1 c0 c1
                obtain ⟨r0, r1, rf0, rf1⟩ := QW.out _ hb4
                go_wp2
                refine bodyPost_ret (v := tupD (deedR s)) (by rw [HR.out]; simp [results, Tryz.results67, go_sem, tupD, r0, r1]) rfl ⟨rfl, ?_⟩
                exact ((hb1.trans (hb4.mono hb1.size)).setCell (Nat.le_refl _) _).setCell (Nat.le_refl _) _
          · have hl2 : ((L.length : Int) == 2) = false := by simp; omega
            have hr := deedR_len HL.out HK.out HWL.out (.inl ⟨HT.out, h2⟩)
            have HR := Lib.hid hr
            clear hr h2
            obtain ⟨r0, r1, rf0, rf1⟩ := QW.out _ hbl
            go_wp2
            refine bodyPost_ret (v := tupD (deedR s)) (by rw [HR.out]; simp [results, Tryz.results67, go_sem, tupD, r0, r1]) rfl ⟨rfl, ?_⟩
            exact ((hb1.trans (hbl.mono hb1.size)).setCell (Nat.le_refl _) _).setCell (Nat.le_refl _) _
end Go.Proofs.YtofpelmplcoegaaGreat
