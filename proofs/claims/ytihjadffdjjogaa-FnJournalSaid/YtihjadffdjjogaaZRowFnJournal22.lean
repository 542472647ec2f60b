/-
  DeskAfter, both sides.
-/
import Derived.Test.YtihjadffdjjogaaZRowFnJournal21
set_option linter.unusedVariables false
set_option linter.unusedSimpArgs false
namespace Go.Proofs.Ytihjadffdjjogaa
open Go.RowKit Go.Sort
def deskR (s t : Int) (xss : List (List Int)) (bs sm wk : Int) (xs : List (Int × Int × Int)) : (List Int × List Int × Int) × Int :=
  if validRecsB s t xss bs sm wk xs = true then (match learnAll xs (List.replicate sm.toNat 0, List.replicate sm.toNat (-1), 0) with | some d => (d, 0) | none => (([], [], 0), 4)) else (([], [], 0), 1)
def DeskAftP (w : World) (R : (List Int × List Int × Int) × Int) (e : Ending) (w' : World) : Prop :=
  ∃ vl vr, e = .returned (.tuple #[deskV vl vr R.1.2.2, .int .i64 R.2]) ∧ DeskO w' w.heap.size vl vr R.1.1 R.1.2.1 ∧ Below w.heap.size w w'
theorem DeskAftP.no {w w' : World} {R : (List Int × List Int × Int) × Int} {c : Int} (hR : R = (([], [], 0), c)) (hb : Below w.heap.size w w') : DeskAftP w R (.returned (.tuple #[deskV (.slice none 0 0) (.slice none 0 0) 0, .int .i64 c])) w' := by
  subst hR
  exact ⟨_, _, rfl, DeskO.nil _ _, hb⟩
theorem recsOk_all {s sm : Int} {xs : List (Int × Int × Int)} (h : recsOk s sm xs = true) : ∀ x ∈ xs, recOk s sm x.1 x.2.1 x.2.2 = true := by
  intro x hx
  unfold recsOk at h
  simp only [Bool.not_eq_true', List.any_eq_false, Bool.not_eq_true'] at h
  have := h x hx
  simpa using this
theorem deskBox_facts (w : World) : ∀ W, Below (w.alloc (.cells #[.slice none 0 0, .slice none 0 0, .int .i64 0] 37)).heap.size (w.alloc (.cells #[.slice none 0 0, .slice none 0 0, .int .i64 0] 37)) W →
    (W.cell? ⟨w.heap.size, 0, none⟩ = some (.slice none 0 0) ∧ W.cell? ⟨w.heap.size, 1, none⟩ = some (.slice none 0 0) ∧ W.cell? ⟨w.heap.size, 2, none⟩ = some (.int .i64 0)) ∧ W.frozen? ⟨w.heap.size, 0, none⟩ = false ∧ W.frozen? ⟨w.heap.size, 1, none⟩ = false ∧ W.frozen? ⟨w.heap.size, 2, none⟩ = false := by
  intro W h
  have a0 := h.cell (p := ⟨w.heap.size, 0, none⟩) (by simp)
  have a1 := h.cell (p := ⟨w.heap.size, 1, none⟩) (by simp)
  have a2 := h.cell (p := ⟨w.heap.size, 2, none⟩) (by simp)
  have f0 := h.frozen (p := ⟨w.heap.size, 0, none⟩) (by simp)
  have f1 := h.frozen (p := ⟨w.heap.size, 1, none⟩) (by simp)
  have f2 := h.frozen (p := ⟨w.heap.size, 2, none⟩) (by simp)
  simp [go_sem] at a0 a1 a2 f0 f1 f2
  exact ⟨⟨a0, a1, a2⟩, f0, f1, f2⟩
theorem DeskO.form {w : World} {base : Nat} {vl vr : Value} {l r : List Int} (h : DeskO w base vl vr l r) : ∃ la n lc ra rc, vl = .slice la n lc ∧ vr = .slice ra n rc := by
  obtain ⟨la, lc, rfl, _⟩ := h.1.sl
  obtain ⟨ra, rc, rfl, _⟩ := h.2.1.sl
  rw [h.2.2.1]
  exact ⟨_, _, _, _, _, rfl, rfl⟩
set_option maxHeartbeats 4000000 in
theorem ImplDeskAfter_any {v rv : Value} {xss : List (List Int)} {xs : List (Int × Int × Int)} (s t bs sm wk : Int) (w : World) (ha : SlII w v xss) (hr : FRecord.Sl w rv xs) :
    Calls Try.prog 9 #[.agg #[.int .i64 s, .int .i64 t, v, .int .i64 bs, .int .i64 sm, .int .i64 wk], rv] w (DeskAftP w (deskR s t xss bs sm wk xs)) := by
  have HA := Lib.hid (fun W (h : Below w.heap.size w W) => ha.below h)
  have HR := Lib.hid (fun W (h : Below w.heap.size w W) => hr.below h)
  obtain ⟨a, ca, us, rfl, _, _, _, _, _⟩ := ha
  obtain ⟨ra, rc, rfl, _⟩ := hr
  have bx : Below w.heap.size w ((w.alloc (svObj s t (.slice a xss.length ca) bs sm wk)).alloc (.cells #[.slice none 0 0, .slice none 0 0, .int .i64 0] 37)) := ((Below.refl _ _).alloc (Nat.le_refl _) _).alloc (by simp) _
  have X := Lib.hid ((svBox w s t (.slice a xss.length ca) bs sm wk).below ((Below.refl _ _).alloc (Nat.le_refl _) (.cells #[.slice none 0 0, .slice none 0 0, .int .i64 0] 37)))
  have QW := Lib.hid (deskBox_facts (w.alloc (svObj s t (.slice a xss.length ca) bs sm wk)))
  generalize hv : validRecsB s t xss bs sm wk xs = V
  have HV := Lib.hid hv
  go_enter Try.func9, Try.ntmps9
  cases V
  · clear hv
    go_wp2_with fail
    refine (validRecords_any s t bs sm wk _ (HA.out _ bx) (HR.out _ bx)).mono ?_
    rintro e w1 ⟨rfl, b1⟩
    rw [HV.out]
    obtain ⟨⟨q0, q1, q2⟩, qf0, qf1, qf2⟩ := QW.out _ b1
    simp at q0 q1 q2 qf0 qf1 qf2
    go_wp2
    refine bodyPost_ret (v := .tuple #[deskV (.slice none 0 0) (.slice none 0 0) 0, .int .i64 1]) (by simp [results, Try.results9, go_sem, deskV, q0, q1, q2]) rfl (DeskAftP.no (by unfold deskR; rw [HV.out]; rfl) ?_)
    exact (((bx.trans (b1.mono bx.size)).setCell (by simp) _).setCell (by simp) _).setCell (by simp) _
  · have hv2 := hv
    unfold validRecsB at hv
    rw [Bool.and_eq_true] at hv
    obtain ⟨h1, h2, h3, h4, _⟩ := service_bds hv.1
    have HOK := Lib.hid (recsOk_all hv.2)
    obtain ⟨n, rfl⟩ := Int.eq_ofNat_of_zero_le (show 0 ≤ sm by omega)
    clear hv hv2
    go_wp2_with fail
    refine (validRecords_any s t bs n wk _ (HA.out _ bx) (HR.out _ bx)).mono ?_
    rintro e w1 ⟨rfl, b1⟩
    rw [HV.out]
    have hb1 := bx.trans (b1.mono bx.size)
    obtain ⟨⟨_, c0, c1, c2⟩, c3, c4, c5⟩ := X.out.below b1
    simp only [Nat.zero_add] at c0 c1 c2 c3 c4 c5
    have B1 := Lib.hid b1
    clear b1
    go_wp2_with fail
    refine (deskAfter_any s t bs wk _ (HR.out _ hb1) (by omega) (by omega) h2 HOK.out).mono ?_
    rintro e w2 ⟨res, vl, vr, hres, rfl, ho, b2⟩
    have bb := B1.out.trans (b2.mono B1.out.size)
    have hb2 := hb1.trans (b2.mono hb1.size)
    obtain ⟨⟨q0, q1, q2⟩, qf0, qf1, qf2⟩ := QW.out _ bb
    simp at q0 q1 q2 qf0 qf1 qf2
    have hz := bb.size
    simp at hz
    have hz' : w.heap.size + 1 < w2.heap.size := by omega
    have hz2 := hb1.size
    have hz3 := B1.out.size
    simp at hz3
    have HRES := Lib.hid hres
    obtain ⟨la, ln, lc, ra', rc', rfl, rfl⟩ := ho.form
    have HO := Lib.hid ho
    clear hres c0 c1 c2 c3 c4 c5 b2 ho
    unfold deskV
    cases res with
    | none =>
      go_wp2
      refine bodyPost_ret (v := .tuple #[deskV (.slice none 0 0) (.slice none 0 0) 0, .int .i64 4]) (by simp [results, Try.results9, go_sem, deskV, q0, q1, q2, hz']) rfl (DeskAftP.no (by unfold deskR; rw [HV.out, if_pos rfl, Int.toNat_natCast, ← HRES.out]) ?_)
      exact (((hb2.setCell (by simp) _).setCell (by simp) _).setCell (by simp) _).alloc (by simp; omega) _
    | some d =>
      obtain ⟨l, r, q⟩ := d
      go_wp2
      refine bodyPost_ret (v := .tuple #[deskV (.slice la ln lc) (.slice ra' ln rc') q, .int .i64 0]) (by simp [results, Try.results9, go_sem, deskV, q0, q1, q2, hz']) rfl ?_
      have hR : deskR s t xss bs n wk xs = ((l, r, q), 0) := by unfold deskR; rw [HV.out, if_pos rfl, Int.toNat_natCast, ← HRES.out]
      rw [hR]
      refine ⟨_, _, rfl, ?_, ?_⟩
      · exact ((((HO.out.setBelow (by simp; omega) _).setBelow (by simp; omega) _).setBelow (by simp; omega) _).below ((Below.refl _ _).alloc (Nat.le_refl _) _)).lower hz2
      · exact (((hb2.setCell (by simp) _).setCell (by simp) _).setCell (by simp) _).alloc (by simp; omega) _
set_option maxHeartbeats 4000000 in
theorem SpecDeskAfter_any {v rv : Value} {xss : List (List Int)} {xs : List (Int × Int × Int)} (s t bs sm wk : Int) (w : World) (ha : SlII w v xss) (hr : FRecord.Sl w rv xs) (hl : xs.length ≤ 1048576) :
    Calls Try.prog 10 #[.agg #[.int .i64 s, .int .i64 t, v, .int .i64 bs, .int .i64 sm, .int .i64 wk], rv] w (DeskAftP w (deskR s t xss bs sm wk xs)) := by
  have HA := Lib.hid (fun W (h : Below w.heap.size w W) => ha.below h)
  have HR := Lib.hid (fun W (h : Below w.heap.size w W) => hr.below h)
  obtain ⟨a, ca, us, rfl, _, _, _, _, _⟩ := ha
  obtain ⟨ra, rc, rfl, _⟩ := hr
  have bx : Below w.heap.size w ((w.alloc (svObj s t (.slice a xss.length ca) bs sm wk)).alloc (.cells #[.slice none 0 0, .slice none 0 0, .int .i64 0] 37)) := ((Below.refl _ _).alloc (Nat.le_refl _) _).alloc (by simp) _
  have X := Lib.hid ((svBox w s t (.slice a xss.length ca) bs sm wk).below ((Below.refl _ _).alloc (Nat.le_refl _) (.cells #[.slice none 0 0, .slice none 0 0, .int .i64 0] 37)))
  have QW := Lib.hid (deskBox_facts (w.alloc (svObj s t (.slice a xss.length ca) bs sm wk)))
  generalize hv : serviceOk s t xss bs sm wk = V
  have HV := Lib.hid hv
  go_enter Try.func10, Try.ntmps10
  cases V
  · clear hv
    go_wp2_with fail
    refine (l09Ok_any w.heap.size 0 s t bs sm wk _ X.out (HA.out _ bx)).mono ?_
    rintro e w1 ⟨rfl, b1⟩
    rw [HV.out]
    obtain ⟨⟨q0, q1, q2⟩, qf0, qf1, qf2⟩ := QW.out _ b1
    simp at q0 q1 q2 qf0 qf1 qf2
    go_wp2
    refine bodyPost_ret (v := .tuple #[deskV (.slice none 0 0) (.slice none 0 0) 0, .int .i64 1]) (by simp [results, Try.results10, go_sem, deskV, q0, q1, q2]) rfl (DeskAftP.no (by unfold deskR validRecsB; rw [HV.out]; rfl) ?_)
    exact (((bx.trans (b1.mono bx.size)).setCell (by simp) _).setCell (by simp) _).setCell (by simp) _
  · obtain ⟨h1, h2, h3, h4, _⟩ := service_bds hv
    obtain ⟨n, rfl⟩ := Int.eq_ofNat_of_zero_le (show 0 ≤ sm by omega)
    clear hv
    go_wp2_with fail
    refine (l09Ok_any w.heap.size 0 s t bs n wk _ X.out (HA.out _ bx)).mono ?_
    rintro e w1 ⟨rfl, b1⟩
    rw [HV.out]
    have hb1 := bx.trans (b1.mono bx.size)
    have X1 := Lib.hid (X.out.below b1)
    have B1 := Lib.hid b1
    clear b1
    go_wp2
    go_loopw [6] (fun i wr => ∃ (k : Nat), k ≤ xs.length ∧ i = .int .i64 k ∧ Hid ((xs.take k).any (fun x => !recOk s n x.1 x.2.1 x.2.2) = false) ∧ Below w1.heap.size w1 wr) (fun i _ => xs.length - (intOf i).toNat)
    case atStart => exact ⟨0, Nat.zero_le _, rfl, rfl, Below.refl _ _⟩
    case round =>
      obtain ⟨k, hk, rfl, hno, hbr⟩ := hrel
      have hbw := hb1.trans (hbr.mono hb1.size)
      by_cases hlt : k < xs.length
      · obtain ⟨b, off, rfl, hblk, c0, c1, c2⟩ := FRecord_at (HR.out _ hbw) hlt
        have i1 : (k : Int) < (xs.length : Int) := by omega
        generalize hp : recOk s n xs[k].1 xs[k].2.1 xs[k].2.2 = P
        have HP := Lib.hid hp
        clear hp
        go_wp2_with fail
        refine (l09Record_any w.heap.size 0 s t bs n wk xs[k].1 xs[k].2.1 xs[k].2.2 _ (X1.out.below hbr) h3 h4 h1 h2).mono ?_
        rintro e w3 ⟨rfl, b3⟩
        rw [HP.out]
        have hb3 := hbr.trans (b3.mono hbr.size)
        cases P
        · obtain ⟨⟨q0, q1, q2⟩, qf0, qf1, qf2⟩ := QW.out _ (B1.out.trans (hb3.mono B1.out.size))
          simp at q0 q1 q2 qf0 qf1 qf2
          go_wp2
          refine bodyPost_ret (v := .tuple #[deskV (.slice none 0 0) (.slice none 0 0) 0, .int .i64 1]) (by simp [results, Try.results10, go_sem, deskV, q0, q1, q2]) rfl (DeskAftP.no ?_ ?_)
          · unfold deskR validRecsB recsOk
            rw [HV.out, any_atR (k := k) hlt (by rw [HP.out]; rfl)]; rfl
          · exact (((hb1.trans (hb3.mono hb1.size)).setCell (by simp) _).setCell (by simp) _).setCell (by simp) _
        · have HNO := Lib.hid (any_takeR hno.out hlt (by rw [HP.out]; rfl))
          clear c0 c1 c2
          go_wp2
          go_roundw
          case rel => exact ⟨k + 1, by omega, by go_num, HNO, hb3⟩
          case measure => simp [intOf]; omega
      · obtain rfl : k = xs.length := by omega
        have hall : recsOk s n xs = true := by
          have h5 := hno.out
          rw [List.take_length] at h5
          unfold recsOk
          rw [h5]; rfl
        have HVV : Hid (validRecsB s t xss bs n wk xs = true) := by unfold Hid validRecsB; rw [HV.out, hall]; rfl
        have HOK := Lib.hid (recsOk_all hall)
        clear hall
        go_wp2_with fail
        refine (l09Desk_any s t bs wk _ (X1.out.below hbr) (HR.out _ hbw) (by omega) (by omega) h2 HOK.out).mono ?_
        rintro e w2 ⟨vl, vr, l, r, q, rfl, ho, b2, hd⟩
        have bb := (B1.out.trans (hbr.mono B1.out.size)).trans (b2.mono (Nat.le_trans B1.out.size hbr.size))
        have hb2 := hbw.trans (b2.mono hbw.size)
        obtain ⟨⟨q0, q1, q2⟩, qf0, qf1, qf2⟩ := QW.out _ bb
        simp at q0 q1 q2 qf0 qf1 qf2
        have hz := bb.size
        simp at hz
        have hz' : w.heap.size + 1 < w2.heap.size := by omega
        have hz2 := hbw.size
        have hz3 := B1.out.size
        have hz4 := hbr.size
        simp at hz3
        obtain ⟨la, ln, lc, ra', rc', rfl, rfl⟩ := ho.form
        have HO := Lib.hid ho
        have HD := Lib.hid hd
        clear b2 ho hd
        unfold deskV
        generalize hL : learnAll xs (List.replicate n 0, List.replicate n (-1), 0) = L
        have HL := Lib.hid hL
        clear hL
        cases L with
        | none =>
          go_wp2
          refine bodyPost_ret (v := .tuple #[deskV (.slice none 0 0) (.slice none 0 0) 0, .int .i64 4]) (by simp [results, Try.results10, go_sem, deskV, q0, q1, q2, hz']) rfl (DeskAftP.no (by unfold deskR; rw [HVV.out, if_pos rfl, Int.toNat_natCast, HL.out]) ?_)
          exact (((hb2.setCell (by simp) _).setCell (by simp) _).setCell (by simp) _).alloc (by simp; omega) _
        | some d =>
          have hR : deskR s t xss bs n wk xs = (d, 0) := by unfold deskR; rw [HVV.out, if_pos rfl, Int.toNat_natCast, HL.out]
          have hdd := HD.out d HL.out
          rw [hdd] at hR
          have HRR := Lib.hid hR
          clear hR hdd
          go_wp2
          refine bodyPost_ret (v := .tuple #[deskV (.slice la ln lc) (.slice ra' ln rc') q, .int .i64 0]) (by simp [results, Try.results10, go_sem, deskV, q0, q1, q2, hz']) rfl ?_
          rw [HRR.out]
          refine ⟨_, _, rfl, ?_, ?_⟩
          · exact ((((HO.out.setBelow (by simp; omega) _).setBelow (by simp; omega) _).setBelow (by simp; omega) _).below ((Below.refl _ _).alloc (Nat.le_refl _) _)).lower hz2
          · exact (((hb2.setCell (by simp) _).setCell (by simp) _).setCell (by simp) _).alloc (by simp; omega) _
end Go.Proofs.Ytihjadffdjjogaa
