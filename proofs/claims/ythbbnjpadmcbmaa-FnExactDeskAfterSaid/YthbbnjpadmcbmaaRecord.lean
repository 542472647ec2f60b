/-
  Which records are valid for a valid service.
-/
import Derived.Test.YthbbnjpadmcbmaaServiceOk
namespace Go.Proofs.Ythbbnjpadmcbmaa
open Go.RowKit Go.Sort
def recOk (st sm k s v : Int) : Bool := inR s 0 (sm - 1) && (if k = 1 then inR v 1 7 else if k = 2 then inR v 0 (st - 1) else if k = 3 then decide (v = 0) else false)

set_option maxHeartbeats 1000000 in
theorem l09Record_any {u : Value} (b o : Nat) (st t bs sm wk k s v : Int) (w : World) (hc : ServAt w b o st t u bs sm wk) (hs1 : 1 ≤ sm) (hs2 : sm ≤ 8) (ht1 : 1 ≤ st) (ht2 : st ≤ 6) :
    Calls Try.prog 67 #[.pointer (some ⟨b, o, none⟩), .agg #[.int .i64 k, .int .i64 s, .int .i64 v]] w fun e w' => e = .returned (.bool (recOk st sm k s v)) ∧ Below w.heap.size w w' := by
  have e1 : IntKind.i64.wrap (sm - 1) = sm - 1 := IntWalk.i64_in _ (by omega)
  have e2 : IntKind.i64.wrap (st - 1) = st - 1 := IntWalk.i64_in _ (by omega)
  have E1 := Lib.hid e1
  have E2 := Lib.hid e2
  clear e1 e2
  obtain ⟨⟨c00, c0, _, _⟩, _, c4, _⟩ := hc
  have bb : Below w.heap.size w (w.alloc (.cells #[.int .i64 k, .int .i64 s, .int .i64 v] 56)) := (Below.refl _ _).alloc (Nat.le_refl _) _
  have d0 := (bb.cell (p := ⟨b, o, none⟩) c00).trans c0
  have d4 := (bb.cell (p := ⟨b, o + 4, none⟩) c00).trans c4
  have r0 : (w.alloc (.cells #[.int .i64 k, .int .i64 s, .int .i64 v] 56)).cell? ⟨w.heap.size, 0, none⟩ = some (.int .i64 k) := by simp
  have r1 : (w.alloc (.cells #[.int .i64 k, .int .i64 s, .int .i64 v] 56)).cell? ⟨w.heap.size, 1, none⟩ = some (.int .i64 s) := by simp
  have r2 : (w.alloc (.cells #[.int .i64 k, .int .i64 s, .int .i64 v] 56)).cell? ⟨w.heap.size, 2, none⟩ = some (.int .i64 v) := by simp
  clear c0 c4
  have zz : w.heap.size < (w.alloc (.cells #[.int .i64 k, .int .i64 s, .int .i64 v] 56)).heap.size := by simp
  have D0 := Lib.hid d0
  have R0 := Lib.hid r0
  have R2 := Lib.hid r2
  have k1 := fun d os => cell_regrown d4 d os
  have k2 := fun d os => cell_regrown r1 d os
  clear d0 r0 r1 r2 d4
  by_cases hs : inR s 0 (sm - 1) = true
  · by_cases h1 : k = 1
    · subst h1
      have HD : Hid (recOk st sm 1 s v = inR v 1 7) := by unfold Hid recOk; rw [hs]; rfl
      go_enter Try.func67, Try.ntmps67
      go_wp2_with fail
      have e1 := E1.out
      have bw := Below.refl (w.alloc (.cells #[.int .i64 1, .int .i64 s, .int .i64 v] 56)).heap.size (w.alloc (.cells #[.int .i64 1, .int .i64 s, .int .i64 v] 56))
      refine wp_region_quiet_below (by kernel_rfl) (by kernel_rfl) ?_
      repeat (first | go_big_quiet_skip | quiet_step (exact Calls.regrown_of (l00In_b _ _ _ _)))
      refine wpQuiet_nil ?_
      intro _ hw'
      obtain ⟨⟨dq, osq⟩, hw''⟩ := hw'
      subst hw''
      have bq := bw.trans ((below_regrown (w.alloc (.cells #[.int .i64 1, .int .i64 s, .int .i64 v] 56)) dq osq).mono bw.size)
      generalize grow (redrawn (w.alloc (.cells #[.int .i64 1, .int .i64 s, .int .i64 v] 56)) dq) osq = wq at bq ⊢
      clear k1 k2 e1
      have r0 := (bq.cell (p := ⟨w.heap.size, 0, none⟩) zz).trans R0.out
      have r2 := (bq.cell (p := ⟨w.heap.size, 2, none⟩) zz).trans R2.out
      go_wp2_with (go_at_call 129; refine (l00In_any _ _ _ _).mono ?_; rintro e w' ⟨rfl, rfl⟩)
      go_ret
      exact ⟨rb HD.out.symm, bb.trans (bq.mono (by simp))⟩
    · by_cases h2 : k = 2
      · subst h2
        have HD : Hid (recOk st sm 2 s v = inR v 0 (st - 1)) := by unfold Hid recOk; rw [hs]; rfl
        go_enter Try.func67, Try.ntmps67
        go_wp2_with fail
        have e1 := E1.out
        have bw := Below.refl (w.alloc (.cells #[.int .i64 2, .int .i64 s, .int .i64 v] 56)).heap.size (w.alloc (.cells #[.int .i64 2, .int .i64 s, .int .i64 v] 56))
        refine wp_region_quiet_below (by kernel_rfl) (by kernel_rfl) ?_
        repeat (first | go_big_quiet_skip | quiet_step (exact Calls.regrown_of (l00In_b _ _ _ _)))
        refine wpQuiet_nil ?_
        intro _ hw'
        obtain ⟨⟨dq, osq⟩, hw''⟩ := hw'
        subst hw''
        have bq := bw.trans ((below_regrown (w.alloc (.cells #[.int .i64 2, .int .i64 s, .int .i64 v] 56)) dq osq).mono bw.size)
        generalize grow (redrawn (w.alloc (.cells #[.int .i64 2, .int .i64 s, .int .i64 v] 56)) dq) osq = wq at bq ⊢
        clear k1 k2 e1
        have r0 := (bq.cell (p := ⟨w.heap.size, 0, none⟩) zz).trans R0.out
        have r2 := (bq.cell (p := ⟨w.heap.size, 2, none⟩) zz).trans R2.out
        have d0 := (bq.cell (p := ⟨b, o, none⟩) (Nat.lt_of_lt_of_le c00 bb.size)).trans D0.out
        have k1 := fun d os => cell_regrown r2 d os
        have k2 := fun d os => cell_regrown d0 d os
        have e2 := E2.out
        go_wp2_with fail
        refine wp_region_quiet_below (by kernel_rfl) (by kernel_rfl) ?_
        repeat (first | go_big_quiet_skip | quiet_step (exact Calls.regrown_of (l00In_b _ _ _ _)))
        refine wpQuiet_nil ?_
        intro _ hw'
        obtain ⟨⟨dq, osq⟩, hw''⟩ := hw'
        subst hw''
        have bq2 := bq.trans ((below_regrown wq dq osq).mono bq.size)
        generalize grow (redrawn wq dq) osq = wq2 at bq2 ⊢
        go_wp2
        go_ret
        exact ⟨rb HD.out.symm, bb.trans (bq2.mono (by simp))⟩
      · by_cases h3 : k = 3
        · subst h3
          have HD : Hid (recOk st sm 3 s v = decide (v = 0)) := by unfold Hid recOk; rw [hs]; rfl
          go_enter Try.func67, Try.ntmps67
          go_wp2_with fail
          have e1 := E1.out
          have bw := Below.refl (w.alloc (.cells #[.int .i64 3, .int .i64 s, .int .i64 v] 56)).heap.size (w.alloc (.cells #[.int .i64 3, .int .i64 s, .int .i64 v] 56))
          refine wp_region_quiet_below (by kernel_rfl) (by kernel_rfl) ?_
          repeat (first | go_big_quiet_skip | quiet_step (exact Calls.regrown_of (l00In_b _ _ _ _)))
          refine wpQuiet_nil ?_
          intro _ hw'
          obtain ⟨⟨dq, osq⟩, hw''⟩ := hw'
          subst hw''
          have bq := bw.trans ((below_regrown (w.alloc (.cells #[.int .i64 3, .int .i64 s, .int .i64 v] 56)) dq osq).mono bw.size)
          generalize grow (redrawn (w.alloc (.cells #[.int .i64 3, .int .i64 s, .int .i64 v] 56)) dq) osq = wq at bq ⊢
          clear k1 k2 e1
          have r0 := (bq.cell (p := ⟨w.heap.size, 0, none⟩) zz).trans R0.out
          have r2 := (bq.cell (p := ⟨w.heap.size, 2, none⟩) zz).trans R2.out
          have t0 : (v == 0) = decide (v = 0) := by by_cases h : v = 0 <;> simp [h]
          go_wp2_with (go_at_call 129; refine (l00In_any _ _ _ _).mono ?_; rintro e w' ⟨rfl, rfl⟩)
          go_ret
          exact ⟨rb HD.out.symm, bb.trans (bq.mono (by simp))⟩
        · have HD : Hid (recOk st sm k s v = false) := by unfold Hid recOk; rw [if_neg h1, if_neg h2, if_neg h3]; simp
          have t1 : (k == 1) = false := by simp [h1]
          have t2 : (k == 2) = false := by simp [h2]
          have t3 : (k == 3) = false := by simp [h3]
          clear h1 h2 h3
          go_enter Try.func67, Try.ntmps67
          go_wp2_with fail
          have e1 := E1.out
          have bw := Below.refl (w.alloc (.cells #[.int .i64 k, .int .i64 s, .int .i64 v] 56)).heap.size (w.alloc (.cells #[.int .i64 k, .int .i64 s, .int .i64 v] 56))
          refine wp_region_quiet_below (by kernel_rfl) (by kernel_rfl) ?_
          repeat (first | go_big_quiet_skip | quiet_step (exact Calls.regrown_of (l00In_b _ _ _ _)))
          refine wpQuiet_nil ?_
          intro _ hw'
          obtain ⟨⟨dq, osq⟩, hw''⟩ := hw'
          subst hw''
          have bq := bw.trans ((below_regrown (w.alloc (.cells #[.int .i64 k, .int .i64 s, .int .i64 v] 56)) dq osq).mono bw.size)
          generalize grow (redrawn (w.alloc (.cells #[.int .i64 k, .int .i64 s, .int .i64 v] 56)) dq) osq = wq at bq ⊢
          clear k1 k2 e1
          have r0 := (bq.cell (p := ⟨w.heap.size, 0, none⟩) zz).trans R0.out
          have r2 := (bq.cell (p := ⟨w.heap.size, 2, none⟩) zz).trans R2.out
          go_wp2_with (go_at_call 129; refine (l00In_any _ _ _ _).mono ?_; rintro e w' ⟨rfl, rfl⟩)
          go_ret
          exact ⟨rbf HD.out, bb.trans (bq.mono (by simp))⟩
  · have hs' : inR s 0 (sm - 1) = false := by simpa using hs
    have HD : Hid (recOk st sm k s v = false) := by unfold Hid recOk; rw [hs']; rfl
    clear hs
    go_enter Try.func67, Try.ntmps67
    go_wp2_with fail
    have e1 := E1.out
    have bw := Below.refl (w.alloc (.cells #[.int .i64 k, .int .i64 s, .int .i64 v] 56)).heap.size (w.alloc (.cells #[.int .i64 k, .int .i64 s, .int .i64 v] 56))
    refine wp_region_quiet_below (by kernel_rfl) (by kernel_rfl) ?_
    repeat (first | go_big_quiet_skip | quiet_step (exact Calls.regrown_of (l00In_b _ _ _ _)))
    refine wpQuiet_nil ?_
    intro _ hw'
    obtain ⟨⟨dq, osq⟩, hw''⟩ := hw'
    subst hw''
    have bq := bw.trans ((below_regrown (w.alloc (.cells #[.int .i64 k, .int .i64 s, .int .i64 v] 56)) dq osq).mono bw.size)
    generalize grow (redrawn (w.alloc (.cells #[.int .i64 k, .int .i64 s, .int .i64 v] 56)) dq) osq = wq at bq ⊢
    clear k1 k2 e1
    have r0 := (bq.cell (p := ⟨w.heap.size, 0, none⟩) zz).trans R0.out
    have r2 := (bq.cell (p := ⟨w.heap.size, 2, none⟩) zz).trans R2.out
    go_wp2_with (go_at_call 129; refine (l00In_any _ _ _ _).mono ?_; rintro e w' ⟨rfl, rfl⟩)
    go_ret
    exact ⟨rbf HD.out, bb.trans (bq.mono (by simp))⟩

theorem isState_any {u : Value} (st t x : Int) (w : World) (h1 : 1 ≤ st) (h2 : st ≤ 1000) :
    Calls Try.prog 95 #[.agg #[.int .i64 st, .int .i64 t, u], .int .i64 x] w fun e w' => e = .returned (.bool (inR x 0 (st - 1))) ∧ Below w.heap.size w w' := by
  go_enter Try.func95, Try.ntmps95
  go_wp2_with (go_at_call 98; refine (inRange_any _ _ _ _).mono ?_; rintro e w' ⟨rfl, rfl⟩)
  go_ret
  exact ⟨rfl, (Below.refl _ _).alloc (Nat.le_refl _) _⟩
set_option maxHeartbeats 1000000 in
theorem validRecord_any {a : Option Addr} {n c : Nat} (st t bs sm wk k s v : Int) (w : World) (hs1 : 1 ≤ sm) (hs2 : sm ≤ 8) (ht1 : 1 ≤ st) (ht2 : st ≤ 6) :
    Calls Try.prog 84 #[.agg #[.int .i64 st, .int .i64 t, .slice a n c, .int .i64 bs, .int .i64 sm, .int .i64 wk], .agg #[.int .i64 k, .int .i64 s, .int .i64 v]] w fun e w' => e = .returned (.bool (recOk st sm k s v)) ∧ Below w.heap.size w w' := by
  have bb : Below w.heap.size w ((w.alloc (.cells #[.int .i64 st, .int .i64 t, .slice a n c, .int .i64 bs, .int .i64 sm, .int .i64 wk] 37)).alloc (.cells #[.int .i64 k, .int .i64 s, .int .i64 v] 56)) := ((Below.refl _ _).alloc (Nat.le_refl _) _).alloc (by simp) _
  by_cases hs : inR s 0 (sm - 1) = true
  · by_cases h1 : k = 1
    · subst h1
      have HD : Hid (recOk st sm 1 s v = inR v 1 7) := by unfold Hid recOk; rw [hs]; rfl
      go_enter Try.func84, Try.ntmps84
      go_wp2_with (go_at_call 98; refine (inRange_any _ _ _ _).mono ?_; rintro e w' ⟨rfl, rfl⟩)
      go_ret
      exact ⟨rb HD.out.symm, bb⟩
    · by_cases h2 : k = 2
      · subst h2
        have HD : Hid (recOk st sm 2 s v = inR v 0 (st - 1)) := by unfold Hid recOk; rw [hs]; rfl
        go_enter Try.func84, Try.ntmps84
        go_wp2_with (first
          | (go_at_call 98; refine (inRange_any _ _ _ _).mono ?_; rintro e w' ⟨rfl, rfl⟩)
          | (go_at_call 95; refine (isState_any st t v _ ht1 (by omega)).mono ?_; rintro e w1 ⟨rfl, b1⟩))
        go_ret
        exact ⟨rb HD.out.symm, bb.trans (b1.mono (by simp <;> omega))⟩
      · have t1 : (k == 1) = false := by simp [h1]
        have t2 : (k == 2) = false := by simp [h2]
        by_cases h3 : k = 3
        · subst h3
          have HD : Hid (recOk st sm 3 s v = decide (v = 0)) := by unfold Hid recOk; rw [hs]; rfl
          have t0 : (v == 0) = decide (v = 0) := by by_cases h : v = 0 <;> simp [h]
          clear h1 h2
          go_enter Try.func84, Try.ntmps84
          go_wp2_with (go_at_call 98; refine (inRange_any _ _ _ _).mono ?_; rintro e w' ⟨rfl, rfl⟩)
          go_ret
          exact ⟨rb HD.out.symm, bb⟩
        · have HD : Hid (recOk st sm k s v = false) := by unfold Hid recOk; rw [if_neg h1, if_neg h2, if_neg h3]; simp
          have t3 : (k == 3) = false := by simp [h3]
          clear h1 h2 h3
          go_enter Try.func84, Try.ntmps84
          go_wp2_with (go_at_call 98; refine (inRange_any _ _ _ _).mono ?_; rintro e w' ⟨rfl, rfl⟩)
          go_ret
          exact ⟨rbf HD.out, bb⟩
  · have hs' : inR s 0 (sm - 1) = false := by simpa using hs
    have HD : Hid (recOk st sm k s v = false) := by unfold Hid recOk; rw [hs']; rfl
    clear hs
    go_enter Try.func84, Try.ntmps84
    go_wp2_with (go_at_call 98; refine (inRange_any _ _ _ _).mono ?_; rintro e w' ⟨rfl, rfl⟩)
    go_ret
    exact ⟨rbf HD.out, bb⟩
theorem serviceOk_parts {s t : Int} {xss : List (List Int)} {bs sm wk : Int} (h : serviceOk s t xss bs sm wk = true) :
    chainOk s t xss = true ∧ (1 ≤ sm ∧ sm ≤ 8) ∧ (1 ≤ wk ∧ wk ≤ 4) ∧ (0 ≤ bs ∧ bs ≤ 999999992) := by
  unfold serviceOk at h
  rw [Bool.and_eq_true, Bool.and_eq_true, Bool.and_eq_true] at h
  exact ⟨h.1, inR_iff.1 h.2.1, inR_iff.1 h.2.2.1, inR_iff.1 h.2.2.2⟩
theorem chainOk_parts {s t : Int} {xss : List (List Int)} (h : chainOk s t xss = true) : (1 ≤ s ∧ s ≤ 6) ∧ (1 ≤ t ∧ t ≤ 60) ∧ (xss.length : Int) = s ∧ rowsOk s t xss = true := by
  unfold chainOk at h
  rw [Bool.and_eq_true, Bool.and_eq_true, Bool.and_eq_true] at h
  exact ⟨inR_iff.1 h.1, inR_iff.1 h.2.1, of_decide_eq_true h.2.2.1, h.2.2.2⟩
def recSvOk (s t : Int) (xss : List (List Int)) (bs sm wk k x v : Int) : Bool := serviceOk s t xss bs sm wk && recOk s sm k x v
set_option maxHeartbeats 400000 in
theorem ImplValidRecord_any {u : Value} {xss : List (List Int)} (s t bs sm wk k x v : Int) (w : World) (ha : SlII w u xss) :
    Calls Try.prog 32 #[.agg #[.int .i64 s, .int .i64 t, u, .int .i64 bs, .int .i64 sm, .int .i64 wk], .agg #[.int .i64 k, .int .i64 x, .int .i64 v]] w fun e w' => e = .returned (.bool (recSvOk s t xss bs sm wk k x v)) ∧ Below w.heap.size w w' := by
  have bb : Below w.heap.size w ((w.alloc (svObj s t u bs sm wk)).alloc (.cells #[.int .i64 k, .int .i64 x, .int .i64 v] 56)) := ((Below.refl _ _).alloc (Nat.le_refl _) _).alloc (by simp) _
  have K := Lib.hid (ImplValidService_any s t bs sm wk _ (ha.below bb))
  obtain ⟨a, ca, us, rfl, _, _, _, _, _⟩ := ha
  generalize hq : serviceOk s t xss bs sm wk = q at K
  cases q
  · have HD : Hid (recSvOk s t xss bs sm wk k x v = false) := by unfold Hid recSvOk; rw [hq]; rfl
    clear hq
    go_enter Try.func32, Try.ntmps32
    go_wp2_with fail
    refine (K.out).mono ?_
    rintro e w1 ⟨rfl, b1⟩
    go_wp2
    go_ret
    exact ⟨rbf HD.out, bb.trans (b1.mono (by simp <;> omega))⟩
  · have hp := serviceOk_parts hq
    have hcp := chainOk_parts hp.1
    have HD : Hid (recSvOk s t xss bs sm wk k x v = recOk s sm k x v) := by unfold Hid recSvOk; rw [hq]; rfl
    have hs1 : 1 ≤ s := hcp.1.1
    have hs2 : s ≤ 6 := hcp.1.2
    have hm1 : 1 ≤ sm := hp.2.1.1
    have hm2 : sm ≤ 8 := hp.2.1.2
    clear hq hp hcp
    go_enter Try.func32, Try.ntmps32
    go_wp2_with fail
    refine (K.out).mono ?_
    rintro e w1 ⟨rfl, b1⟩
    have r0 := b1.cell (p := ⟨w.heap.size + 1, 0, none⟩) (by simp <;> omega)
    have r1 := b1.cell (p := ⟨w.heap.size + 1, 1, none⟩) (by simp <;> omega)
    have r2 := b1.cell (p := ⟨w.heap.size + 1, 2, none⟩) (by simp <;> omega)
    have q0 := b1.cell (p := ⟨w.heap.size, 0, none⟩) (by simp <;> omega)
    have q1 := b1.cell (p := ⟨w.heap.size, 1, none⟩) (by simp <;> omega)
    have q2 := b1.cell (p := ⟨w.heap.size, 2, none⟩) (by simp <;> omega)
    have q3 := b1.cell (p := ⟨w.heap.size, 3, none⟩) (by simp <;> omega)
    have q4 := b1.cell (p := ⟨w.heap.size, 4, none⟩) (by simp <;> omega)
    have q5 := b1.cell (p := ⟨w.heap.size, 5, none⟩) (by simp <;> omega)
    simp [go_sem, svObj] at r0 r1 r2 q0 q1 q2 q3 q4 q5
    go_wp2_with fail
    refine (validRecord_any s t bs sm wk k x v _ hm1 hm2 hs1 hs2).mono ?_
    rintro e w2 ⟨rfl, b2⟩
    go_wp2
    go_ret
    exact ⟨rb HD.out.symm, bb.trans ((b1.mono (by simp <;> omega)).trans (b2.mono (by have := b1.size; simp at this; omega)))⟩

theorem toRecord_any (k s v : Int) (w : World) :
    Calls Try.prog 70 #[.agg #[.int .i64 k, .int .i64 s, .int .i64 v]] w fun e w' => e = .returned (.agg #[.int .i64 k, .int .i64 s, .int .i64 v]) ∧ Below w.heap.size w w' := by
  go_enter Try.func70, Try.ntmps70
  go_wp2
  refine bodyPost_ret (v := .agg #[.int .i64 k, .int .i64 s, .int .i64 v]) (by simp [results, Try.results70, go_sem]) rfl ⟨rfl, ?_⟩
  exact (((Below.refl _ _).alloc (Nat.le_refl _) _).alloc (by simp) _).alloc (by simp <;> omega) _
end Go.Proofs.Ythbbnjpadmcbmaa
