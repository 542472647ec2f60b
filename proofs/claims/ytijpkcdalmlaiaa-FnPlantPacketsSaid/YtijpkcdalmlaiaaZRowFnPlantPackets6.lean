/-
  SameGraph, both. With it: Which services are valid. Which records are valid for a valid service. Arguments of laws: boxed services. One step by a draw: the reference's and the program's. Small words for laws whose arguments are []int64. Marks written into what a law has handed in: what is made later, and what was there before, stays. Frames: what stays where some blocks alone are written; cells of a new block. Searches: plain laws. A search by impl.RunByDraws$1. A cell of a row of owned rows: what it holds, and what a store into it leaves. Graphs: copied, counted, compared.
-/
import Derived.Test.YtijpkcdalmlaiaaZRowFnPlantPackets5
set_option linter.unusedVariables false
set_option linter.unusedSimpArgs false
namespace Go.Proofs.Ytijpkcdalmlaiaa
open Go.RowKit Go.Sort
/-- six cells: a service -/
def ServAt (w : World) (b o : Nat) (s t : Int) (v : Value) (bs sm wk : Int) : Prop :=
  ChainAt w b o s t v ∧ w.cell? ⟨b, o + 3, none⟩ = some (.int .i64 bs) ∧ w.cell? ⟨b, o + 4, none⟩ = some (.int .i64 sm) ∧ w.cell? ⟨b, o + 5, none⟩ = some (.int .i64 wk)
theorem ServAt.below {w w' : World} {b o : Nat} {s t : Int} {v : Value} {bs sm wk : Int} (h : ServAt w b o s t v bs sm wk) (hb : Below w.heap.size w w') : ServAt w' b o s t v bs sm wk :=
  ⟨h.1.below hb, by rw [hb.cell (p := ⟨b, o + 3, none⟩) h.1.1]; exact h.2.1, by rw [hb.cell (p := ⟨b, o + 4, none⟩) h.1.1]; exact h.2.2.1, by rw [hb.cell (p := ⟨b, o + 5, none⟩) h.1.1]; exact h.2.2.2⟩
def svObj (s t : Int) (v : Value) (bs sm wk : Int) : Obj := .cells #[.int .i64 s, .int .i64 t, v, .int .i64 bs, .int .i64 sm, .int .i64 wk] 35
theorem svBox (w : World) (s t : Int) (v : Value) (bs sm wk : Int) : ServAt (w.alloc (svObj s t v bs sm wk)) w.heap.size 0 s t v bs sm wk := by
  unfold svObj ServAt ChainAt
  refine ⟨⟨by simp, ?_, ?_, ?_⟩, ?_, ?_, ?_⟩ <;> simp [go_sem]

set_option maxHeartbeats 1000000 in
theorem l09Ok_any {v : Value} {xss : List (List Int)} (b o : Nat) (s t bs sm wk : Int) (w : World) (hc : ServAt w b o s t v bs sm wk) (ha : SlII w v xss) :
    Calls Try.prog 55 #[.pointer (some ⟨b, o, none⟩)] w fun e w' => e = .returned (.bool (serviceOk s t xss bs sm wk)) ∧ Below w.heap.size w w' := by
  have K := l01Ok_any b o s t w hc.1 ha
  obtain ⟨c0, c3, c4, c5⟩ := hc
  have c00 := c0.1
  generalize hq : chainOk s t xss = q at K
  have HK := Lib.hid K
  have HQ := Lib.hid hq
  clear K hq c0 ha
  cases q
  · have HD : Hid (serviceOk s t xss bs sm wk = false) := by unfold Hid serviceOk; rw [HQ.out]; rfl
    go_enter Try.func55, Try.ntmps55
    go_wp2_with fail
    refine (HK.out).mono ?_
    rintro e w1 ⟨rfl, b1⟩
    have d3 := (b1.cell (p := ⟨b, o + 3, none⟩) c00).trans c3
    have d4 := (b1.cell (p := ⟨b, o + 4, none⟩) c00).trans c4
    have d5 := (b1.cell (p := ⟨b, o + 5, none⟩) c00).trans c5
    go_wp2_with (go_at_call 92; refine (l00In_any _ _ _ _).mono ?_; rintro e w' ⟨rfl, rfl⟩)
    go_ret
    exact ⟨rbf HD.out, b1⟩
  · by_cases h1 : inR sm 1 8 = true
    · by_cases h2 : inR wk 1 4 = true
      · generalize h3 : inR bs 0 999999992 = r
        have HR := Lib.hid h3
        have HD : Hid (serviceOk s t xss bs sm wk = r) := by unfold Hid serviceOk; rw [HQ.out, h1, h2, HR.out]; rfl
        clear h3
        go_enter Try.func55, Try.ntmps55
        go_wp2_with fail
        refine (HK.out).mono ?_
        rintro e w1 ⟨rfl, b1⟩
        have d3 := (b1.cell (p := ⟨b, o + 3, none⟩) c00).trans c3
        have d4 := (b1.cell (p := ⟨b, o + 4, none⟩) c00).trans c4
        have d5 := (b1.cell (p := ⟨b, o + 5, none⟩) c00).trans c5
        go_wp2_with (go_at_call 92; refine (l00In_any _ _ _ _).mono ?_; rintro e w' ⟨rfl, rfl⟩; try rw [HR.out])
        go_ret
        exact ⟨rb HD.out.symm, b1⟩
      · have h2' : inR wk 1 4 = false := by simpa using h2
        have HD : Hid (serviceOk s t xss bs sm wk = false) := by unfold Hid serviceOk; rw [h2']; simp
        clear h2
        go_enter Try.func55, Try.ntmps55
        go_wp2_with fail
        refine (HK.out).mono ?_
        rintro e w1 ⟨rfl, b1⟩
        have d3 := (b1.cell (p := ⟨b, o + 3, none⟩) c00).trans c3
        have d4 := (b1.cell (p := ⟨b, o + 4, none⟩) c00).trans c4
        have d5 := (b1.cell (p := ⟨b, o + 5, none⟩) c00).trans c5
        go_wp2_with (go_at_call 92; refine (l00In_any _ _ _ _).mono ?_; rintro e w' ⟨rfl, rfl⟩)
        go_ret
        exact ⟨rbf HD.out, b1⟩
    · have h1' : inR sm 1 8 = false := by simpa using h1
      have HD : Hid (serviceOk s t xss bs sm wk = false) := by unfold Hid serviceOk; rw [h1']; simp
      clear h1
      go_enter Try.func55, Try.ntmps55
      go_wp2_with fail
      refine (HK.out).mono ?_
      rintro e w1 ⟨rfl, b1⟩
      have d3 := (b1.cell (p := ⟨b, o + 3, none⟩) c00).trans c3
      have d4 := (b1.cell (p := ⟨b, o + 4, none⟩) c00).trans c4
      have d5 := (b1.cell (p := ⟨b, o + 5, none⟩) c00).trans c5
      go_wp2_with (go_at_call 92; refine (l00In_any _ _ _ _).mono ?_; rintro e w' ⟨rfl, rfl⟩)
      go_ret
      exact ⟨rbf HD.out, b1⟩

set_option maxHeartbeats 1000000 in
theorem ImplValidService_any {v : Value} {xss : List (List Int)} (s t bs sm wk : Int) (w : World) (ha : SlII w v xss) :
    Calls Try.prog 32 #[.agg #[.int .i64 s, .int .i64 t, v, .int .i64 bs, .int .i64 sm, .int .i64 wk]] w fun e w' => e = .returned (.bool (serviceOk s t xss bs sm wk)) ∧ Below w.heap.size w w' := by
  have bb : Below w.heap.size w (w.alloc (svObj s t v bs sm wk)) := (Below.refl _ _).alloc (Nat.le_refl _) _
  have hc := svBox w s t v bs sm wk
  have K := ValidChain_any s t _ (ha.below bb)
  obtain ⟨a, ca, us, rfl, _, _, _, _, _⟩ := ha
  obtain ⟨c0, c3, c4, c5⟩ := hc
  have c00 := c0.1
  generalize hq : chainOk s t xss = q at K
  have HK := Lib.hid K
  have HQ := Lib.hid hq
  clear K hq c0
  have C3 := Lib.hid c3
  have C4 := Lib.hid c4
  have C5 := Lib.hid c5
  clear c3 c4 c5
  cases q
  · have HD : Hid (serviceOk s t xss bs sm wk = false) := by unfold Hid serviceOk; rw [HQ.out]; rfl
    go_enter Try.func32, Try.ntmps32
    go_wp2_with fail
    refine (HK.out).mono ?_
    rintro e w1 ⟨rfl, b1⟩
    have d3 := (b1.cell (p := ⟨w.heap.size, 0 + 3, none⟩) c00).trans C3.out
    have d4 := (b1.cell (p := ⟨w.heap.size, 0 + 4, none⟩) c00).trans C4.out
    have d5 := (b1.cell (p := ⟨w.heap.size, 0 + 5, none⟩) c00).trans C5.out
    simp only [Nat.zero_add] at d3 d4 d5
    go_wp2_with (go_at_call 71; refine (inRange_any _ _ _ _).mono ?_; rintro e w' ⟨rfl, rfl⟩)
    go_ret
    exact ⟨rbf HD.out, bb.trans (b1.mono (by simp))⟩
  · by_cases h1 : inR sm 1 8 = true
    · by_cases h2 : inR wk 1 4 = true
      · generalize h3 : inR bs 0 999999992 = r
        have HR := Lib.hid h3
        have HD : Hid (serviceOk s t xss bs sm wk = r) := by unfold Hid serviceOk; rw [HQ.out, h1, h2, HR.out]; rfl
        clear h3
        go_enter Try.func32, Try.ntmps32
        go_wp2_with fail
        refine (HK.out).mono ?_
        rintro e w1 ⟨rfl, b1⟩
        have d3 := (b1.cell (p := ⟨w.heap.size, 0 + 3, none⟩) c00).trans C3.out
        have d4 := (b1.cell (p := ⟨w.heap.size, 0 + 4, none⟩) c00).trans C4.out
        have d5 := (b1.cell (p := ⟨w.heap.size, 0 + 5, none⟩) c00).trans C5.out
        simp only [Nat.zero_add] at d3 d4 d5
        go_wp2_with (go_at_call 71; refine (inRange_any _ _ _ _).mono ?_; rintro e w' ⟨rfl, rfl⟩; try rw [HR.out])
        go_ret
        exact ⟨rb HD.out.symm, bb.trans (b1.mono (by simp))⟩
      · have h2' : inR wk 1 4 = false := by simpa using h2
        have HD : Hid (serviceOk s t xss bs sm wk = false) := by unfold Hid serviceOk; rw [h2']; simp
        clear h2
        go_enter Try.func32, Try.ntmps32
        go_wp2_with fail
        refine (HK.out).mono ?_
        rintro e w1 ⟨rfl, b1⟩
        have d3 := (b1.cell (p := ⟨w.heap.size, 0 + 3, none⟩) c00).trans C3.out
        have d4 := (b1.cell (p := ⟨w.heap.size, 0 + 4, none⟩) c00).trans C4.out
        have d5 := (b1.cell (p := ⟨w.heap.size, 0 + 5, none⟩) c00).trans C5.out
        simp only [Nat.zero_add] at d3 d4 d5
        go_wp2_with (go_at_call 71; refine (inRange_any _ _ _ _).mono ?_; rintro e w' ⟨rfl, rfl⟩)
        go_ret
        exact ⟨rbf HD.out, bb.trans (b1.mono (by simp))⟩
    · have h1' : inR sm 1 8 = false := by simpa using h1
      have HD : Hid (serviceOk s t xss bs sm wk = false) := by unfold Hid serviceOk; rw [h1']; simp
      clear h1
      go_enter Try.func32, Try.ntmps32
      go_wp2_with fail
      refine (HK.out).mono ?_
      rintro e w1 ⟨rfl, b1⟩
      have d3 := (b1.cell (p := ⟨w.heap.size, 0 + 3, none⟩) c00).trans C3.out
      have d4 := (b1.cell (p := ⟨w.heap.size, 0 + 4, none⟩) c00).trans C4.out
      have d5 := (b1.cell (p := ⟨w.heap.size, 0 + 5, none⟩) c00).trans C5.out
      simp only [Nat.zero_add] at d3 d4 d5
      go_wp2_with (go_at_call 71; refine (inRange_any _ _ _ _).mono ?_; rintro e w' ⟨rfl, rfl⟩)
      go_ret
      exact ⟨rbf HD.out, bb.trans (b1.mono (by simp))⟩
end Go.Proofs.Ytijpkcdalmlaiaa
namespace Go.Proofs.Ytijpkcdalmlaiaa
open Go.RowKit Go.Sort
def recOk (st sm k s v : Int) : Bool := inR s 0 (sm - 1) && (if k = 1 then inR v 1 7 else if k = 2 then inR v 0 (st - 1) else if k = 3 then decide (v = 0) else false)

set_option maxHeartbeats 1000000 in
theorem l09Record_any {u : Value} (b o : Nat) (st t bs sm wk k s v : Int) (w : World) (hc : ServAt w b o st t u bs sm wk) (hs1 : 1 ≤ sm) (hs2 : sm ≤ 8) (ht1 : 1 ≤ st) (ht2 : st ≤ 6) :
    Calls Try.prog 133 #[.pointer (some ⟨b, o, none⟩), .agg #[.int .i64 k, .int .i64 s, .int .i64 v]] w fun e w' => e = .returned (.bool (recOk st sm k s v)) ∧ Below w.heap.size w w' := by
  have e1 : IntKind.i64.wrap (sm - 1) = sm - 1 := IntWalk.i64_in _ (by omega)
  have e2 : IntKind.i64.wrap (st - 1) = st - 1 := IntWalk.i64_in _ (by omega)
  have E1 := Lib.hid e1
  have E2 := Lib.hid e2
  clear e1 e2
  obtain ⟨⟨c00, c0, _, _⟩, _, c4, _⟩ := hc
  have bb : Below w.heap.size w (w.alloc (.cells #[.int .i64 k, .int .i64 s, .int .i64 v] 121)) := (Below.refl _ _).alloc (Nat.le_refl _) _
  have d0 := (bb.cell (p := ⟨b, o, none⟩) c00).trans c0
  have d4 := (bb.cell (p := ⟨b, o + 4, none⟩) c00).trans c4
  have r0 : (w.alloc (.cells #[.int .i64 k, .int .i64 s, .int .i64 v] 121)).cell? ⟨w.heap.size, 0, none⟩ = some (.int .i64 k) := by simp
  have r1 : (w.alloc (.cells #[.int .i64 k, .int .i64 s, .int .i64 v] 121)).cell? ⟨w.heap.size, 1, none⟩ = some (.int .i64 s) := by simp
  have r2 : (w.alloc (.cells #[.int .i64 k, .int .i64 s, .int .i64 v] 121)).cell? ⟨w.heap.size, 2, none⟩ = some (.int .i64 v) := by simp
  clear c0 c4
  have zz : w.heap.size < (w.alloc (.cells #[.int .i64 k, .int .i64 s, .int .i64 v] 121)).heap.size := by simp
  have D0 := Lib.hid d0
  have R0 := Lib.hid r0
  have R2 := Lib.hid r2
  have k1 := fun d os => cell_regrown d4 d os
  have k2 := fun d os => cell_regrown r1 d os
  clear d0 r0 r1 r2 d4
  by_cases hs : inR s 0 (sm - 1) = true
  · by_cases h1 : k = 1
    · subst h1
      have HD : Hid (recOk st sm 1 s v = inR v 1 7) := by unfold Hid recOk; rw [hs]; rfl
      go_enter Try.func133, Try.ntmps133
      go_wp2_with fail
      have e1 := E1.out
      have bw := Below.refl (w.alloc (.cells #[.int .i64 1, .int .i64 s, .int .i64 v] 121)).heap.size (w.alloc (.cells #[.int .i64 1, .int .i64 s, .int .i64 v] 121))
      refine wp_region_quiet_below (by kernel_rfl) (by kernel_rfl) ?_
      repeat (first | go_big_quiet_skip | quiet_step (exact Calls.regrown_of (l00In_b _ _ _ _)))
      refine wpQuiet_nil ?_
      intro _ hw'
      obtain ⟨⟨dq, osq⟩, hw''⟩ := hw'
      subst hw''
      have bq := bw.trans ((below_regrown (w.alloc (.cells #[.int .i64 1, .int .i64 s, .int .i64 v] 121)) dq osq).mono bw.size)
      generalize grow (redrawn (w.alloc (.cells #[.int .i64 1, .int .i64 s, .int .i64 v] 121)) dq) osq = wq at bq ⊢
      clear k1 k2 e1
      have r0 := (bq.cell (p := ⟨w.heap.size, 0, none⟩) zz).trans R0.out
      have r2 := (bq.cell (p := ⟨w.heap.size, 2, none⟩) zz).trans R2.out
      go_wp2_with (go_at_call 92; refine (l00In_any _ _ _ _).mono ?_; rintro e w' ⟨rfl, rfl⟩)
      go_ret
      exact ⟨rb HD.out.symm, bb.trans (bq.mono (by simp))⟩
    · by_cases h2 : k = 2
      · subst h2
        have HD : Hid (recOk st sm 2 s v = inR v 0 (st - 1)) := by unfold Hid recOk; rw [hs]; rfl
        go_enter Try.func133, Try.ntmps133
        go_wp2_with fail
        have e1 := E1.out
        have bw := Below.refl (w.alloc (.cells #[.int .i64 2, .int .i64 s, .int .i64 v] 121)).heap.size (w.alloc (.cells #[.int .i64 2, .int .i64 s, .int .i64 v] 121))
        refine wp_region_quiet_below (by kernel_rfl) (by kernel_rfl) ?_
        repeat (first | go_big_quiet_skip | quiet_step (exact Calls.regrown_of (l00In_b _ _ _ _)))
        refine wpQuiet_nil ?_
        intro _ hw'
        obtain ⟨⟨dq, osq⟩, hw''⟩ := hw'
        subst hw''
        have bq := bw.trans ((below_regrown (w.alloc (.cells #[.int .i64 2, .int .i64 s, .int .i64 v] 121)) dq osq).mono bw.size)
        generalize grow (redrawn (w.alloc (.cells #[.int .i64 2, .int .i64 s, .int .i64 v] 121)) dq) osq = wq at bq ⊢
        clear k1 k2 e1
        have r0 := (bq.cell (p := ⟨w.heap.size, 0, none⟩) zz).trans R0.out
        have r2 := (bq.cell (p := ⟨w.heap.size, 2, none⟩) zz).trans R2.out
        have d0 := (bq.cell (p := ⟨b, o, none⟩) (Nat.lt_of_lt_of_le c00 bb.size)).trans D0.out
        have k1 := fun d os => cell_regrown r2 d os
        have k2 := fun d os => cell_regrown d0 d os
        have e2 := E2.out
        go_wp2_with fail
        refine wp_region_quiet_below (by kernel_rfl) (by kernel_rfl) ?_
        repeat (first | go_big_quiet_skip | quiet_step (exact Calls.regrown_of (l00In_b _ _ _ _)))
        refine wpQuiet_nil ?_
        intro _ hw'
        obtain ⟨⟨dq, osq⟩, hw''⟩ := hw'
        subst hw''
        have bq2 := bq.trans ((below_regrown wq dq osq).mono bq.size)
        generalize grow (redrawn wq dq) osq = wq2 at bq2 ⊢
        go_wp2
        go_ret
        exact ⟨rb HD.out.symm, bb.trans (bq2.mono (by simp))⟩
      · by_cases h3 : k = 3
        · subst h3
          have HD : Hid (recOk st sm 3 s v = decide (v = 0)) := by unfold Hid recOk; rw [hs]; rfl
          go_enter Try.func133, Try.ntmps133
          go_wp2_with fail
          have e1 := E1.out
          have bw := Below.refl (w.alloc (.cells #[.int .i64 3, .int .i64 s, .int .i64 v] 121)).heap.size (w.alloc (.cells #[.int .i64 3, .int .i64 s, .int .i64 v] 121))
          refine wp_region_quiet_below (by kernel_rfl) (by kernel_rfl) ?_
          repeat (first | go_big_quiet_skip | quiet_step (exact Calls.regrown_of (l00In_b _ _ _ _)))
          refine wpQuiet_nil ?_
          intro _ hw'
          obtain ⟨⟨dq, osq⟩, hw''⟩ := hw'
          subst hw''
          have bq := bw.trans ((below_regrown (w.alloc (.cells #[.int .i64 3, .int .i64 s, .int .i64 v] 121)) dq osq).mono bw.size)
          generalize grow (redrawn (w.alloc (.cells #[.int .i64 3, .int .i64 s, .int .i64 v] 121)) dq) osq = wq at bq ⊢
          clear k1 k2 e1
          have r0 := (bq.cell (p := ⟨w.heap.size, 0, none⟩) zz).trans R0.out
          have r2 := (bq.cell (p := ⟨w.heap.size, 2, none⟩) zz).trans R2.out
          have t0 : (v == 0) = decide (v = 0) := by by_cases h : v = 0 <;> simp [h]
          go_wp2_with (go_at_call 92; refine (l00In_any _ _ _ _).mono ?_; rintro e w' ⟨rfl, rfl⟩)
          go_ret
          exact ⟨rb HD.out.symm, bb.trans (bq.mono (by simp))⟩
        · have HD : Hid (recOk st sm k s v = false) := by unfold Hid recOk; rw [if_neg h1, if_neg h2, if_neg h3]; simp
          have t1 : (k == 1) = false := by simp [h1]
          have t2 : (k == 2) = false := by simp [h2]
          have t3 : (k == 3) = false := by simp [h3]
          clear h1 h2 h3
          go_enter Try.func133, Try.ntmps133
          go_wp2_with fail
          have e1 := E1.out
          have bw := Below.refl (w.alloc (.cells #[.int .i64 k, .int .i64 s, .int .i64 v] 121)).heap.size (w.alloc (.cells #[.int .i64 k, .int .i64 s, .int .i64 v] 121))
          refine wp_region_quiet_below (by kernel_rfl) (by kernel_rfl) ?_
          repeat (first | go_big_quiet_skip | quiet_step (exact Calls.regrown_of (l00In_b _ _ _ _)))
          refine wpQuiet_nil ?_
          intro _ hw'
          obtain ⟨⟨dq, osq⟩, hw''⟩ := hw'
          subst hw''
          have bq := bw.trans ((below_regrown (w.alloc (.cells #[.int .i64 k, .int .i64 s, .int .i64 v] 121)) dq osq).mono bw.size)
          generalize grow (redrawn (w.alloc (.cells #[.int .i64 k, .int .i64 s, .int .i64 v] 121)) dq) osq = wq at bq ⊢
          clear k1 k2 e1
          have r0 := (bq.cell (p := ⟨w.heap.size, 0, none⟩) zz).trans R0.out
          have r2 := (bq.cell (p := ⟨w.heap.size, 2, none⟩) zz).trans R2.out
          go_wp2_with (go_at_call 92; refine (l00In_any _ _ _ _).mono ?_; rintro e w' ⟨rfl, rfl⟩)
          go_ret
          exact ⟨rbf HD.out, bb.trans (bq.mono (by simp))⟩
  · have hs' : inR s 0 (sm - 1) = false := by simpa using hs
    have HD : Hid (recOk st sm k s v = false) := by unfold Hid recOk; rw [hs']; rfl
    clear hs
    go_enter Try.func133, Try.ntmps133
    go_wp2_with fail
    have e1 := E1.out
    have bw := Below.refl (w.alloc (.cells #[.int .i64 k, .int .i64 s, .int .i64 v] 121)).heap.size (w.alloc (.cells #[.int .i64 k, .int .i64 s, .int .i64 v] 121))
    refine wp_region_quiet_below (by kernel_rfl) (by kernel_rfl) ?_
    repeat (first | go_big_quiet_skip | quiet_step (exact Calls.regrown_of (l00In_b _ _ _ _)))
    refine wpQuiet_nil ?_
    intro _ hw'
    obtain ⟨⟨dq, osq⟩, hw''⟩ := hw'
    subst hw''
    have bq := bw.trans ((below_regrown (w.alloc (.cells #[.int .i64 k, .int .i64 s, .int .i64 v] 121)) dq osq).mono bw.size)
    generalize grow (redrawn (w.alloc (.cells #[.int .i64 k, .int .i64 s, .int .i64 v] 121)) dq) osq = wq at bq ⊢
    clear k1 k2 e1
    have r0 := (bq.cell (p := ⟨w.heap.size, 0, none⟩) zz).trans R0.out
    have r2 := (bq.cell (p := ⟨w.heap.size, 2, none⟩) zz).trans R2.out
    go_wp2_with (go_at_call 92; refine (l00In_any _ _ _ _).mono ?_; rintro e w' ⟨rfl, rfl⟩)
    go_ret
    exact ⟨rbf HD.out, bb.trans (bq.mono (by simp))⟩

theorem serviceOk_parts {s t : Int} {xss : List (List Int)} {bs sm wk : Int} (h : serviceOk s t xss bs sm wk = true) :
    chainOk s t xss = true ∧ (1 ≤ sm ∧ sm ≤ 8) ∧ (1 ≤ wk ∧ wk ≤ 4) ∧ (0 ≤ bs ∧ bs ≤ 999999992) := by
  unfold serviceOk at h
  rw [Bool.and_eq_true, Bool.and_eq_true, Bool.and_eq_true] at h
  exact ⟨h.1, inR_iff.1 h.2.1, inR_iff.1 h.2.2.1, inR_iff.1 h.2.2.2⟩
theorem chainOk_parts {s t : Int} {xss : List (List Int)} (h : chainOk s t xss = true) : (1 ≤ s ∧ s ≤ 6) ∧ (1 ≤ t ∧ t ≤ 60) ∧ (xss.length : Int) = s ∧ rowsOk s t xss = true := by
  unfold chainOk at h
  rw [Bool.and_eq_true, Bool.and_eq_true, Bool.and_eq_true] at h
  exact ⟨inR_iff.1 h.1, inR_iff.1 h.2.1, of_decide_eq_true h.2.2.1, h.2.2.2⟩
def recSvOk (s t : Int) (xss : List (List Int)) (bs sm wk k x v : Int) : Bool := serviceOk s t xss bs sm wk && recOk s sm k x v
end Go.Proofs.Ytijpkcdalmlaiaa
namespace Go.Proofs.Ytijpkcdalmlaiaa
open Go.RowKit Go.Sort
/-- six cells of a service given as an argument -/
def argObj (s t : Int) (v : Value) (bs sm wk : Int) : Obj := .cells #[.int .i64 s, .int .i64 t, v, .int .i64 bs, .int .i64 sm, .int .i64 wk] 26
theorem argBox (w : World) (s t : Int) (v : Value) (bs sm wk : Int) : ServAt (w.alloc (argObj s t v bs sm wk)) w.heap.size 0 s t v bs sm wk := by
  unfold argObj ServAt ChainAt
  refine ⟨⟨by simp, ?_, ?_, ?_⟩, ?_, ?_, ?_⟩ <;> simp [go_sem]
theorem szII_ok {xss : List (List Int)} {l1 : Int} (h : szII 1048576 xss = l1) (hl : ¬ l1 < 0) : xss.length ≤ 1048576 ∧ ∀ r ∈ xss, r.length ≤ 1048576 := by
  have := szII_nonneg (l := 1048576) (xss := xss) (by rw [h]; omega)
  exact ⟨by omega, fun r hr => by have := this.2.2 r hr; omega⟩
end Go.Proofs.Ytijpkcdalmlaiaa
namespace Go.Proofs.Ytijpkcdalmlaiaa
open Go.RowKit Go.Sort
/-- from index k on, with sum q so far -/
def toFrom : List Int → Int → Int → Nat → Option Nat
  | [], _, _, _ => none
  | x :: r, d, q, k => if d < q + x then some k else toFrom r d (q + x) (k + 1)
def toOf (r : List Int) (d : Int) : Option Nat := toFrom r d 0 0
theorem toFrom_lt : ∀ (r : List Int) (d q : Int) (k : Nat), d < q + r.sum → r ≠ [] → (∀ x ∈ r, 0 ≤ x) → ∃ i, toFrom r d q k = some i ∧ k ≤ i ∧ i < k + r.length
  | [], _, _, _, _, h, _ => absurd rfl h
  | x :: r, d, q, k, hd, _, hx => by
    unfold toFrom
    by_cases h : d < q + x
    · exact ⟨k, by rw [if_pos h], Nat.le_refl _, by simp⟩
    · rw [if_neg h]
      rw [List.sum_cons] at hd
      cases r with
      | nil => simp at hd; omega
      | cons y r =>
        obtain ⟨i, h1, h2, h3⟩ := toFrom_lt (y :: r) d (q + x) (k + 1) (by omega) (by simp) (fun z hz => hx z (by simp [hz]))
        exact ⟨i, h1, by omega, by simp at h3 ⊢; omega⟩
theorem toOf_step {r : List Int} {d : Int} {j : Nat} (hj : j < r.length) : toFrom (r.drop j) d (r.take j).sum j = if d < (r.take j).sum + r[j] then some j else toFrom (r.drop (j + 1)) d (r.take (j + 1)).sum (j + 1) := by
  rw [List.drop_eq_getElem_cons hj]
  have : (r.take (j + 1)).sum = (r.take j).sum + r[j] := sum_succ hj
  rw [this]
  rfl
/-- the row is right for a total -/
def RowB (r : List Int) : Prop := r.length ≤ 6 ∧ ∀ x ∈ r, 0 ≤ x ∧ x ≤ 60
theorem RowB.sum {r : List Int} (h : RowB r) (j : Nat) : 0 ≤ (r.take j).sum ∧ (r.take j).sum ≤ 1000 := by
  have hin : inAll (r.take j) 60 = true := by
    unfold inAll
    rw [List.all_eq_true]
    intro x hx
    have := h.2 x (List.mem_of_mem_take hx)
    exact inR_iff.2 this
  have h2 := inAll_sum (t := 60) (by omega) hin
  have h3 : (r.take j).length ≤ 6 := by rw [List.length_take]; have := h.1; omega
  omega
theorem chainOk_parts0 {s t : Int} {xss : List (List Int)} (h : chainOk s t xss = true) : (1 ≤ s ∧ s ≤ 6) ∧ (1 ≤ t ∧ t ≤ 60) ∧ (xss.length : Int) = s ∧ rowsOk s t xss = true := by
  unfold chainOk at h
  rw [Bool.and_eq_true, Bool.and_eq_true, Bool.and_eq_true] at h
  exact ⟨inR_iff.1 h.1, inR_iff.1 h.2.1, of_decide_eq_true h.2.2.1, h.2.2.2⟩
theorem rowB_of {s t : Int} {xss : List (List Int)} (h : chainOk s t xss = true) {k : Nat} (hk : k < xss.length) : RowB xss[k] ∧ (xss[k].length : Int) = s ∧ xss[k].sum = t := by
  unfold chainOk at h
  rw [Bool.and_eq_true, Bool.and_eq_true, Bool.and_eq_true] at h
  have hs := inR_iff.1 h.1
  have ht := inR_iff.1 h.2.1
  have hr := h.2.2.2
  unfold rowsOk at hr
  rw [List.all_eq_true] at hr
  have := hr _ (List.getElem_mem hk)
  unfold rowOk at this
  rw [Bool.and_eq_true, Bool.and_eq_true] at this
  have hl := of_decide_eq_true this.1
  have ha := this.2.1
  unfold inAll at ha
  rw [List.all_eq_true] at ha
  refine ⟨⟨by omega, fun x hx => ?_⟩, hl, of_decide_eq_true this.2.2⟩
  have := inR_iff.1 (ha x hx)
  omega

set_option maxHeartbeats 1000000 in
theorem l01To_any {v : Value} {xss : List (List Int)} (b o : Nat) (s t d : Int) (k : Nat) (w : World) (hc : ChainAt w b o s t v) (ha : SlII w v xss) (hk : k < xss.length) (hB : RowB xss[k]) (hls : (xss[k].length : Int) = s) :
    Calls Try.prog 142 #[.pointer (some ⟨b, o, none⟩), .int .i64 k, .int .i64 d] w fun e w' => e = .returned (.int .i64 (((toOf xss[k] d).map Int.ofNat).getD 0)) ∧ w = w' := by
  obtain ⟨a, ca, us, rfl, hca, hca', hul, hrd, hrow⟩ := ha
  obtain ⟨x, ba, oa, rfl, hrowk⟩ := SlII.rowAt hul hrd hrow hk
  generalize hr : xss[k] = r at hrowk hB hls
  obtain ⟨g0, ga, ra, rc, rfl, hrc, hrc', hrr⟩ := hrowk
  obtain ⟨c00, c0, _, c2⟩ := hc
  unfold maxLen at hca' hrc'
  have i1 : (k : Int) < (xss.length : Int) := by omega
  have hr6 : r.length ≤ 6 := hB.1
  have HB := Lib.hid hB
  have HL := Lib.hid hls
  clear hr hul hrd hrow hca hca' hrc hB hls
  go_enter Try.func142, Try.ntmps142
  go_wp2
  go_loopw [7, 8] (fun q i wr => ∃ j : Nat, j ≤ r.length ∧ i = .int .i64 j ∧ q = .int .i64 (r.take j).sum ∧ toOf r d = toFrom (r.drop j) d (r.take j).sum j ∧ wr = w) (fun _ i _ => r.length - (intOf i).toNat)
  case atStart => exact ⟨0, Nat.zero_le _, rfl, rfl, rfl, rfl⟩
  case round =>
    obtain ⟨j, hj, rfl, rfl, hto, rfl⟩ := hrel
    have HT := Lib.hid hto
    clear hto
    have hs0 := (HB.out.sum j).1
    have hs1 := (HB.out.sum j).2
    have hls := HL.out
    by_cases hjt : j < r.length
    · have hjs : (j : Int) < s := by omega
      obtain ⟨rb, ro, rfl, gr⟩ := hrr.one (i64s_get hjt)
      have hx := HB.out.2 r[j] (List.getElem_mem hjt)
      have hx0 : 0 ≤ r[j] := hx.1
      have hx1 : r[j] ≤ 60 := hx.2
      have hst := toOf_step (d := d) hjt
      have HST := Lib.hid hst
      have i3 : (j : Int) < (r.length : Int) := by omega
      clear hls hx hst
      by_cases hd : d < (r.take j).sum + r[j]
      · go_wp2
        go_ret
        exact ⟨ri (by rw [HT.out, HST.out, if_pos hd]; rfl), rfl⟩
      · go_wp2
        go_roundw
        case rel => exact ⟨j + 1, by omega, by go_num, vi (sum_succ hjt).symm, by rw [HT.out, HST.out, if_neg (by omega)], trivial⟩
        case measure => simp [intOf]; omega
    · have hjs : ¬ (j : Int) < s := by omega
      obtain rfl : j = r.length := by omega
      clear hls
      go_wp2
      go_ret
      exact ⟨ri (by rw [HT.out]; simp [toFrom]), rfl⟩

set_option maxHeartbeats 1000000 in
theorem stepByDraw_any {v : Value} {xss : List (List Int)} (s t d : Int) (k : Nat) (w : World) (ha : SlII w v xss) (hk : k < xss.length) (hB : RowB xss[k]) :
    Calls Try.prog 139 #[.agg #[.int .i64 s, .int .i64 t, v], .int .i64 k, .int .i64 d] w fun e w' => e = .returned (.int .i64 (((toOf xss[k] d).map Int.ofNat).getD (-1))) ∧ Below w.heap.size w w' := by
  obtain ⟨a, ca, us, rfl, hca, hca', hul, hrd, hrow⟩ := ha
  obtain ⟨x, ba, oa, rfl, hrowk⟩ := SlII.rowAt hul hrd hrow hk
  generalize hr : xss[k] = r at hrowk hB
  obtain ⟨ra, rc, rfl, hrc, hrc', _⟩ := id hrowk.2.2
  have bb : Below w.heap.size w (w.alloc (chObj s t (.slice (some ⟨ba, oa, none⟩) xss.length ca))) := chBelow _ _ _ _
  obtain ⟨g0, ga, ra', rc', he, _, _, hrr⟩ := hrowk.below bb
  simp at he
  obtain ⟨rfl, rfl⟩ := he
  unfold maxLen at hca' hrc'
  have i1 : (k : Int) < (xss.length : Int) := by omega
  have hr6 : r.length ≤ 6 := hB.1
  have HB := Lib.hid hB
  have HBB := Lib.hid bb
  clear hr hul hrd hrow hca hca' hrc hB hrowk bb
  have GA := Lib.hid ga
  go_enter Try.func139, Try.ntmps139
  unfold chObj at ga
  go_wp2
  clear ga
  go_loopw [7, 16] (fun q i wr => ∃ j : Nat, j ≤ r.length ∧ i = .int .i64 j ∧ q = .int .i64 (r.take j).sum ∧ toOf r d = toFrom (r.drop j) d (r.take j).sum j ∧ wr = w.alloc (chObj s t (.slice (some ⟨ba, oa, none⟩) xss.length ca))) (fun _ i _ => r.length - (intOf i).toNat)
  case atStart => exact ⟨0, Nat.zero_le _, rfl, rfl, rfl, rfl⟩
  case round =>
    obtain ⟨j, hj, rfl, rfl, hto, rfl⟩ := hrel
    have HT := Lib.hid hto
    clear hto
    have hs0 := (HB.out.sum j).1
    have hs1 := (HB.out.sum j).2
    by_cases hjt : j < r.length
    · obtain ⟨rb, ro, rfl, gr⟩ := hrr.one (i64s_get hjt)
      have hx := HB.out.2 r[j] (List.getElem_mem hjt)
      have hx0 : 0 ≤ r[j] := hx.1
      have hx1 : r[j] ≤ 60 := hx.2
      have hst := toOf_step (d := d) hjt
      have HST := Lib.hid hst
      have i3 : (j : Int) < (r.length : Int) := by omega
      clear hx hst
      by_cases hd : d < (r.take j).sum + r[j]
      · go_wp2
        go_ret
        exact ⟨ri (by rw [HT.out, HST.out, if_pos hd]; rfl), HBB.out⟩
      · go_wp2
        go_roundw
        case rel => exact ⟨j + 1, by omega, by go_num, vi (sum_succ hjt).symm, by rw [HT.out, HST.out, if_neg (by omega)], trivial⟩
        case measure => simp [intOf]; omega
    · obtain rfl : j = r.length := by omega
      go_wp2
      go_ret
      exact ⟨ri (by rw [HT.out]; simp [toFrom]), HBB.out⟩

def upTo (n : Nat) : List Int := (List.range n).map fun (i : Nat) => (i : Int)
theorem upTo_succ (n : Nat) : upTo (n + 1) = upTo n ++ [(n : Int)] := by simp [upTo, List.range_succ]
theorem upTo_length (n : Nat) : (upTo n).length = n := by simp [upTo]

set_option maxHeartbeats 400000 in
theorem l02All_any (n : Nat) (w : World) (hn : n ≤ 1000) :
    Calls Try.prog 141 #[.int .i64 n] w fun e w' => ∃ v, e = .returned v ∧ OwnI w' w.heap.size v (upTo n) ∧ Below w.heap.size w w' := by
  go_enter Try.func141, Try.ntmps141
  go_wp2
  go_loopw [3, 4] (fun v i wr => ∃ k : Nat, k ≤ n ∧ i = .int .i64 k ∧ OwnI wr w.heap.size v (upTo k) ∧ Below w.heap.size w wr) (fun _ i _ => n - (intOf i).toNat)
  case atStart => exact ⟨0, Nat.zero_le _, rfl, OwnI.empty _ (Nat.le_refl _), (Below.refl _ _).alloc (Nat.le_refl _) _⟩
  case round =>
    obtain ⟨k, hk, rfl, hown, hbw⟩ := hrel
    by_cases hlt : k < n
    · have hsz := hbw.size
      have hl := upTo_length k
      go_wp2_with (at_builtin; refine append_i64 _ _ _ _ rfl rfl rfl hown rfl (by omega) (by omega) ?_)
      intro v' w1 hown1 hb1 hsz1
      rw [← upTo_succ] at hown1
      have hb2 := (hbw.alloc hsz _).trans hb1
      clear hown hb1
      go_wp2
      go_roundw
      case rel => exact ⟨k + 1, by omega, by go_num, hown1, hb2⟩
      case measure => simp [intOf]; omega
    · obtain rfl : k = n := by omega
      go_wp2
      go_ret
      exact ⟨_, rfl, hown, hbw⟩

set_option maxHeartbeats 400000 in
theorem everyState_any (n : Nat) (w : World) (hn : n ≤ 1000) :
    Calls Try.prog 138 #[.int .i64 n] w fun e w' => ∃ v, e = .returned v ∧ OwnI w' w.heap.size v (upTo n) ∧ Below w.heap.size w w' := by
  go_enter Try.func138, Try.ntmps138
  go_wp2
  go_loopw [3, 7] (fun v i wr => ∃ k : Nat, k ≤ n ∧ i = .int .i64 k ∧ OwnI wr w.heap.size v (upTo k) ∧ Below w.heap.size w wr) (fun _ i _ => n - (intOf i).toNat)
  case atStart => exact ⟨0, Nat.zero_le _, rfl, OwnI.empty _ (Nat.le_refl _), (Below.refl _ _).alloc (Nat.le_refl _) _⟩
  case round =>
    obtain ⟨k, hk, rfl, hown, hbw⟩ := hrel
    by_cases hlt : k < n
    · have hsz := hbw.size
      have hl := upTo_length k
      go_wp2_with (at_builtin; refine append_i64 _ _ _ _ rfl rfl rfl hown rfl (by omega) (by omega) ?_)
      intro v' w1 hown1 hb1 hsz1
      rw [← upTo_succ] at hown1
      have hb2 := (hbw.alloc hsz _).trans hb1
      clear hown hb1
      go_wp2
      go_roundw
      case rel => exact ⟨k + 1, by omega, by go_num, hown1, hb2⟩
      case measure => simp [intOf]; omega
    · obtain rfl : k = n := by omega
      go_wp2
      go_ret
      exact ⟨_, rfl, hown, hbw⟩
end Go.Proofs.Ytijpkcdalmlaiaa
namespace Go.Proofs.Ytijpkcdalmlaiaa
open Go.RowKit
theorem eqInt64S_refl {u v : Value} {xs : List Int} (w : World) (ha : SlI w u xs) (hb : SlI w v xs) :
    Calls Try.prog 15 #[u, v] w fun e w' => e = .returned (.bool true) ∧ Below w.heap.size w w' :=
  (eqInt64S_any w ha hb).mono fun e w' ⟨h, hb⟩ => ⟨by rw [h]; simp, hb⟩
theorem eqInt64SS_refl {u v : Value} {xs : List (List Int)} (w : World) (ha : SlII w u xs) (hb : SlII w v xs) :
    Calls Try.prog 82 #[u, v] w fun e w' => e = .returned (.bool true) ∧ Below w.heap.size w w' :=
  (eqInt64SS_any w ha hb).mono fun e w' ⟨h, hb⟩ => ⟨by rw [h]; simp, hb⟩
end Go.Proofs.Ytijpkcdalmlaiaa
namespace Go.Proofs.Ytijpkcdalmlaiaa
open Go.RowKit Go.Sort
/-- all but blocks from lo to hi stays -/
structure Mid (lo hi : Nat) (w w' : World) : Prop where
  os : w'.os = w.os
  tape : w'.tape = w.tape
  output : w'.output = w.output
  size : w.heap.size ≤ w'.heap.size
  block : ∀ k, k < w.heap.size → (k < lo ∨ hi ≤ k) → w'.heap[k]? = w.heap[k]?
theorem Mid.refl (lo hi : Nat) (w : World) : Mid lo hi w w := ⟨rfl, rfl, rfl, Nat.le_refl _, fun _ _ _ => rfl⟩
theorem Mid.trans {lo hi : Nat} {a b c : World} (h : Mid lo hi a b) (k : Mid lo hi b c) : Mid lo hi a c :=
  ⟨k.os.trans h.os, k.tape.trans h.tape, k.output.trans h.output, Nat.le_trans h.size k.size, fun i hi' hx => (k.block i (Nat.lt_of_lt_of_le hi' h.size) hx).trans (h.block i hi' hx)⟩
theorem Mid.below {lo hi : Nat} {w w' : World} (h : Mid lo hi w w') (hlo : lo ≤ w.heap.size) : Below lo w w' := ⟨h.os, h.tape, h.output, h.size, fun k hk => h.block k (Nat.lt_of_lt_of_le hk hlo) (.inl hk)⟩
theorem Mid.of_below {lo hi : Nat} {w w' : World} (h : Below w.heap.size w w') : Mid lo hi w w' := ⟨h.os, h.tape, h.output, h.size, fun k hk _ => h.block k hk⟩
theorem Mid.of_grown {lo hi : Nat} {w w' : World} {row : Option Nat} (h : w.grownBy w' row) (hr : ∀ g, row = some g → lo ≤ g ∧ g < hi) : Mid lo hi w w' :=
  ⟨h.os, h.tape, h.output, h.size, fun k hk hx => h.block k hk (by
    intro e
    have := hr k e.symm
    omega)⟩
theorem ownsRow_mid {w w' : World} {lo hi base e size n : Nat} {v : Value} {xs : List Value} (h : w.ownsRow base e size v n xs) (hm : Mid lo hi w w') (hb : hi ≤ base) : w'.ownsRow base e size v n xs := by
  refine ⟨h.1, ?_⟩
  rcases h.2 with h2 | ⟨g, cap, cur, h1, h2, h3, h4⟩
  · exact .inl h2
  · refine .inr ⟨g, cap, cur, h1, h2, ?_, h4⟩
    rw [hm.block g (Array.getElem?_eq_some_iff.1 h3).1 (.inr (by omega))]; exact h3
def sumL (xss : List (List Int)) : Nat := (xss.map List.length).sum
theorem sumL_take {xss : List (List Int)} {k : Nat} (h : k < xss.length) : sumL (xss.take (k + 1)) = sumL (xss.take k) + xss[k].length := by
  unfold sumL; rw [List.take_succ_eq_append_getElem h, List.map_append, List.sum_append]; simp
theorem sumL_le (xss : List (List Int)) (k : Nat) : sumL (xss.take k) ≤ sumL xss := by
  unfold sumL
  conv => rhs; rw [← List.take_append_drop k xss]
  rw [List.map_append, List.sum_append]; omega
theorem szRows_sum : ∀ {xss : List (List Int)} {l : Int}, 0 ≤ szRows l xss → (sumL xss : Int) ≤ l
  | [], l, h => by simpa [sumL, szRows] using h
  | r :: rs, l, h => by
    unfold szRows at h
    by_cases h1 : sz1 l r.length < 0
    · rw [if_pos h1] at h; omega
    · rw [if_neg h1] at h
      have h2 := szRows_sum h
      have h5 : sz1 l r.length = l - r.length := by unfold sz1 at h1 ⊢; split <;> simp_all
      rw [h5] at h2
      have : sumL (r :: rs) = r.length + sumL rs := by simp [sumL]
      omega
theorem szII_sum {xss : List (List Int)} {l l1 : Int} (h : szII l xss = l1) (hl : ¬ l1 < 0) (hb : l ≤ 1048576) : sumL xss ≤ 1048576 := by
  unfold szII at h
  split at h
  · omega
  · have := szRows_sum (xss := xss) (l := l - xss.length) (by omega)
    omega
/-- rows whose blocks lie below B -/
def OwnIIB (w : World) (base B : Nat) (v : Value) (xss : List (List Int)) : Prop :=
  ∃ vs, w.ownsRow base 30 1 v xss.length vs ∧ Rows2 w base vs xss ∧ ∀ (i : Nat) (u : Value) (g : Nat), vs[i]? = some u → u.ownBlock = some g → g < B
theorem OwnII.b {w : World} {base : Nat} {v : Value} {xss : List (List Int)} (h : OwnII w base v xss) : OwnIIB w base w.heap.size v xss := by
  obtain ⟨vs, h1, h2⟩ := h
  exact ⟨vs, h1, h2, fun i u g hu hg => (h2.lt i u g hu hg).2⟩
theorem OwnIIB.below {w w' : World} {base B : Nat} {v : Value} {xss : List (List Int)} (h : OwnIIB w base B v xss) (hb : Below w.heap.size w w') : OwnIIB w' base B v xss := by
  obtain ⟨vs, h1, h2, h3⟩ := h
  exact ⟨vs, ownsRow_below h1 hb, h2.below hb, h3⟩
theorem OwnIIB.ii {w : World} {base B : Nat} {v : Value} {xss : List (List Int)} (h : OwnIIB w base B v xss) : OwnII w base v xss := by
  obtain ⟨vs, h1, h2, _⟩ := h
  exact ⟨vs, h1, h2⟩
theorem OwnIIB.sl {w : World} {base B : Nat} {v : Value} {xss : List (List Int)} (h : OwnIIB w base B v xss) : SlII w v xss := h.ii.sl
set_option maxHeartbeats 1000000 in
theorem markInt64SS_any {v : Value} {xss : List (List Int)} (m : Int) (base B : Nat) (w : World) (hm0 : 0 ≤ m) (hm : m + sumL xss ≤ 1000000000000) (ha : OwnIIB w base B v xss) :
    Calls Try.prog 83 #[v, .int .i64 m] w fun e w' => e = .returned (.int .i64 (m + sumL xss)) ∧ Mid base B w w' := by
  obtain ⟨vs, h1, h2, h3⟩ := ha
  obtain ⟨ad, c, rfl, hc1, hc2, _⟩ := ownsRow_rd h1
  unfold maxLen at hc2
  have HV := Lib.hid h2
  have HB := Lib.hid h3
  clear h2 h3
  go_enter Try.func83, Try.ntmps83
  go_wp2
  go_loopw [1, 5] (fun q i wr => ∃ (k : Nat) (Q : Int), k ≤ xss.length ∧ i = .int .i64 k ∧ q = .int .i64 Q ∧ Hid (Q = m + sumL (xss.take k)) ∧ 0 ≤ Q ∧ Q ≤ 1000000000000 ∧ wr.ownsRow base 30 1 (.slice ad xss.length c) xss.length vs ∧ Hid (∀ (i : Nat) (u : Value) (xs : List Int), k ≤ i → vs[i]? = some u → xss[i]? = some xs → OwnI wr base u xs) ∧ Mid base B w wr) (fun _ i _ => xss.length - (intOf i).toNat)
  case atStart => exact ⟨0, m, Nat.zero_le _, rfl, rfl, by simp [Hid, sumL], hm0, by omega, h1, (fun i u xs _ hu hx => HV.out.2.1 i u xs hu hx), Mid.refl _ _ _⟩
  case round =>
    clear h1
    obtain ⟨k, Q, hk, rfl, rfl, hQ, hQ0, hQ1, hown, hrows, hmid⟩ := hrel
    by_cases hlt : k < xss.length
    · have hvl : k < vs.length := by rw [HV.out.1]; exact hlt
      obtain ⟨ad', c', he, _, _, hrd⟩ := ownsRow_rd hown
      simp at he
      obtain ⟨rfl, rfl⟩ := he
      obtain ⟨b, off, rfl, hcell⟩ := hrd.one (List.getElem?_eq_getElem hvl)
      have hu := hrows.out k vs[k] xss[k] (Nat.le_refl _) (List.getElem?_eq_getElem hvl) (List.getElem?_eq_getElem hlt)
      have hle := sumL_le xss (k + 1)
      have hst := sumL_take hlt
      have i1 : (k : Int) < (xss.length : Int) := by omega
      have hbq : Q + xss[k].length ≤ 1000000000000 := by have := hQ.out; omega
      have HST := Lib.hid hst
      have hvk : vs[k]? = some vs[k] := List.getElem?_eq_getElem hvl
      generalize vs[k] = u at hcell hu hvk
      obtain ⟨ua, uc, rfl, _⟩ := id hu.sl
      have HVK := Lib.hid hvk
      clear hst hle hvk
      go_wp2_with fail
      refine (markInt64S_any Q base _ hQ0 hbq hu).mono ?_
      rintro e w2 ⟨rfl, o2, g2⟩
      have hrow : Mid base B wr w2 := Mid.of_grown g2 (fun g hg => ⟨(hu.lt g hg).1, HB.out k _ g HVK.out hg⟩)
      have own2 : w2.ownsRow base 30 1 (.slice (some ⟨b, off, none⟩) xss.length c) xss.length vs := World.ownsRow.kept hown g2 (by
        cases hb : (Value.slice (some ⟨b, off, none⟩) xss.length c).ownBlock with
        | none => exact .inl rfl
        | some g => exact .inr (fun e => hu.apart hown e.symm hb))
      have rows2 : Hid (∀ (i : Nat) (u : Value) (xs : List Int), k + 1 ≤ i → vs[i]? = some u → xss[i]? = some xs → OwnI w2 base u xs) := by
        intro i u' xs' hi hu' hx'
        have h5 := hrows.out i u' xs' (by omega) hu' hx'
        refine h5.kept g2 ?_
        cases hb : u'.ownBlock with
        | none => exact .inl rfl
        | some g => exact .inr (fun e => HV.out.2.2 i k u' _ g (by omega) hu' HVK.out hb e.symm)
      have hm2 := hmid.trans hrow
      clear hown hrows hu o2 g2 hmid
      go_wp2
      go_roundw
      case rel => exact ⟨k + 1, Q + xss[k].length, by omega, by go_num, rfl, by have := hQ.out; have := HST.out; unfold Hid; omega, by omega, by omega, own2, rows2, hm2⟩
      case measure => simp [intOf]; omega
    · obtain rfl : k = xss.length := by omega
      go_wp2
      go_ret
      exact ⟨ri (by rw [hQ.out, List.take_length]), hmid⟩

set_option maxHeartbeats 400000 in
theorem markChain_any {v : Value} {xss : List (List Int)} (s t m : Int) (base B : Nat) (w : World) (hm0 : 0 ≤ m) (hm : m + sumL xss ≤ 1000000000000) (ha : OwnIIB w base B v xss) :
    Calls Try.prog 49 #[.agg #[.int .i64 s, .int .i64 t, v], .int .i64 m] w fun e w' => e = .returned (.int .i64 (m + sumL xss)) ∧ Mid base B w w' := by
  obtain ⟨a, ca, us, rfl, _⟩ := id ha.ii.sl
  have bx : Below w.heap.size w (w.alloc (chObj s t (.slice a xss.length ca))) := chBelow w s t _
  have hb := ha.below bx
  clear ha
  go_enter Try.func49, Try.ntmps49
  go_wp2_with fail
  refine (markInt64SS_any m base B _ hm0 hm hb).mono ?_
  rintro e w2 ⟨rfl, m2⟩
  go_wp2
  go_ret
  exact ⟨rfl, (Mid.of_below bx).trans m2⟩

set_option maxHeartbeats 400000 in
theorem markService_any {v : Value} {xss : List (List Int)} (s t bs sm wk m : Int) (base B : Nat) (w : World) (hm0 : 0 ≤ m) (hm : m + sumL xss ≤ 1000000000000) (ha : OwnIIB w base B v xss) :
    Calls Try.prog 18 #[.agg #[.int .i64 s, .int .i64 t, v, .int .i64 bs, .int .i64 sm, .int .i64 wk], .int .i64 m] w fun e w' => e = .returned (.int .i64 (m + sumL xss)) ∧ Mid base B w w' := by
  obtain ⟨a, ca, us, rfl, _⟩ := id ha.ii.sl
  have bx : Below w.heap.size w (w.alloc (svObj s t (.slice a xss.length ca) bs sm wk)) := (Below.refl _ _).alloc (Nat.le_refl _) _
  have hb := ha.below bx
  clear ha
  go_enter Try.func18, Try.ntmps18
  go_wp2_with fail
  refine (markChain_any s t m base B _ hm0 hm hb).mono ?_
  rintro e w2 ⟨rfl, m2⟩
  go_wp2
  go_ret
  exact ⟨rfl, (Mid.of_below bx).trans m2⟩
end Go.Proofs.Ytijpkcdalmlaiaa
namespace Go.Proofs.Ytijpkcdalmlaiaa
open Go.RowKit Go.Sort
/-- the first cells of a block -/
def CellsAt (w : World) (b : Nat) (vs : List Value) : Prop := b < w.heap.size ∧ ∀ i u, vs[i]? = some u → w.cell? ⟨b, i, none⟩ = some u
theorem CellsAt.new (w : World) (vs : List Value) (T : Nat) : CellsAt (w.alloc (.cells vs.toArray T)) w.heap.size vs := by
  refine ⟨by simp, fun i u h => ?_⟩
  simp [go_sem, h]
theorem CellsAt.new' (w : World) (vs : List Value) (T : Nat) {b : Nat} (hb : b = w.heap.size) : CellsAt (w.alloc (.cells vs.toArray T)) b vs := by
  subst hb; exact CellsAt.new w vs T
theorem CellsAt.below {w w' : World} {b : Nat} {vs : List Value} (h : CellsAt w b vs) (hb : Below w.heap.size w w') : CellsAt w' b vs :=
  ⟨Nat.lt_of_lt_of_le h.1 hb.size, fun i u hu => by rw [hb.cell (p := ⟨b, i, none⟩) h.1]; exact h.2 i u hu⟩
theorem CellsAt.get {w : World} {b : Nat} {vs : List Value} (h : CellsAt w b vs) (i : Nat) (u : Value) (hu : vs[i]? = some u) : w.cell? ⟨b, i, none⟩ = some u := h.2 i u hu
/-- all blocks but those of S stay -/
structure Fs (S : Nat → Prop) (w w' : World) : Prop where
  os : w'.os = w.os
  tape : w'.tape = w.tape
  output : w'.output = w.output
  size : w.heap.size ≤ w'.heap.size
  block : ∀ k, k < w.heap.size → ¬ S k → w'.heap[k]? = w.heap[k]?
theorem Fs.trans {S : Nat → Prop} {a b c : World} (h : Fs S a b) (k : Fs S b c) : Fs S a c :=
  ⟨k.os.trans h.os, k.tape.trans h.tape, k.output.trans h.output, Nat.le_trans h.size k.size, fun i hi hx => (k.block i (Nat.lt_of_lt_of_le hi h.size) hx).trans (h.block i hi hx)⟩
theorem Fs.of_below {S : Nat → Prop} {w w' : World} (h : Below w.heap.size w w') : Fs S w w' := ⟨h.os, h.tape, h.output, h.size, fun k hk _ => h.block k hk⟩
theorem Fs.below {S : Nat → Prop} {w w' : World} (h : Fs S w w') {B : Nat} (hB : B ≤ w.heap.size) (hS : ∀ k, S k → B ≤ k) : Below B w w' :=
  ⟨h.os, h.tape, h.output, h.size, fun k hk => h.block k (Nat.lt_of_lt_of_le hk hB) (fun hs => by have := hS k hs; omega)⟩
theorem Fs.of_mid {lo hi : Nat} {w w' : World} (h : Mid lo hi w w') : Fs (fun k => lo ≤ k ∧ k < hi) w w' := ⟨h.os, h.tape, h.output, h.size, fun k hk hx => h.block k hk (by omega)⟩
theorem Fs.of_grown {S : Nat → Prop} {w w' : World} {row : Option Nat} (h : w.grownBy w' row) (hr : ∀ g, row = some g → S g) : Fs S w w' :=
  ⟨h.os, h.tape, h.output, h.size, fun k hk hx => h.block k hk (fun e => hx (hr k e.symm))⟩
theorem Fs.cell {S : Nat → Prop} {w w' : World} (h : Fs S w w') {p : Addr} (hp : p.block < w.heap.size) (hn : ¬ S p.block) : w'.cell? p = w.cell? p :=
  World.cell?_of_block (h.block p.block hp hn)
theorem Fs.mono {S T : Nat → Prop} {w w' : World} (h : Fs S w w') (hST : ∀ k, S k → T k) : Fs T w w' :=
  ⟨h.os, h.tape, h.output, h.size, fun k hk hx => h.block k hk (fun hs => hx (hST k hs))⟩
theorem CellsAt.fs {S : Nat → Prop} {w w' : World} {b : Nat} {vs : List Value} (h : CellsAt w b vs) (hf : Fs S w w') (hS : ¬ S b) : CellsAt w' b vs :=
  ⟨Nat.lt_of_lt_of_le h.1 hf.size, fun i u hu => by rw [hf.cell (p := ⟨b, i, none⟩) h.1 hS]; exact h.2 i u hu⟩
theorem ownsRow_fs {S : Nat → Prop} {w w' : World} {base e size n : Nat} {v : Value} {xs : List Value} (h : w.ownsRow base e size v n xs) (hf : Fs S w w') (hS : ∀ k, S k → k < base) : w'.ownsRow base e size v n xs := by
  refine ⟨h.1, ?_⟩
  rcases h.2 with h2 | ⟨g, cap, cur, h1, h2, h3, h4⟩
  · exact .inl h2
  · refine .inr ⟨g, cap, cur, h1, h2, ?_, h4⟩
    rw [hf.block g (Array.getElem?_eq_some_iff.1 h3).1 (fun hs => by have := hS g hs; omega)]; exact h3
theorem OwnI.fs {S : Nat → Prop} {w w' : World} {base : Nat} {v : Value} {xs : List Int} (h : OwnI w base v xs) (hf : Fs S w w') (hS : ∀ k, S k → k < base) : OwnI w' base v xs := ownsRow_fs h hf hS
theorem OwnII.fs {S : Nat → Prop} {w w' : World} {base : Nat} {v : Value} {xss : List (List Int)} (h : OwnII w base v xss) (hf : Fs S w w') (hS : ∀ k, S k → k < base) : OwnII w' base v xss := by
  obtain ⟨vs, h1, h2⟩ := h
  exact ⟨vs, ownsRow_fs h1 hf hS, h2.1, fun i u xs hu hx => ownsRow_fs (h2.2.1 i u xs hu hx) hf hS, h2.2.2⟩
end Go.Proofs.Ytijpkcdalmlaiaa
namespace Go.Proofs.Ytijpkcdalmlaiaa
open Go.RowKit Go.Sort
def ixP (p : Int → Bool) : List Int → Nat → Int
  | [], _ => -1
  | x :: r, k => if p x = true then (k : Int) else ixP p r (k + 1)
theorem ixP_any (p : Int → Bool) : ∀ (l : List Int) (k : Nat), decide (0 ≤ ixP p l k) = l.any p
  | [], k => by simp [ixP]
  | x :: r, k => by
    unfold ixP
    by_cases h : p x = true
    · rw [if_pos h]; simp [h]
    · rw [if_neg h, ixP_any p r (k + 1)]; simp [h]
theorem ixP_step {p : Int → Bool} {l : List Int} {k : Nat} (h : k < l.length) : ixP p (l.drop k) k = if p l[k] = true then (k : Int) else ixP p (l.drop (k + 1)) (k + 1) := by
  rw [List.drop_eq_getElem_cons h]; rfl
theorem ixP_bd (p : Int → Bool) : ∀ (l : List Int) (k : Nat), -1 ≤ ixP p l k ∧ ixP p l k < k + l.length
  | [], k => by simp [ixP]; omega
  | x :: r, k => by
    unfold ixP
    have := ixP_bd p r (k + 1)
    split
    · simp; omega
    · simp at this ⊢; omega

def ixRow (p : List Int → Bool) : List (List Int) → Nat → Int
  | [], _ => -1
  | x :: r, k => if p x = true then (k : Int) else ixRow p r (k + 1)
theorem ixRow_any (p : List Int → Bool) : ∀ (l : List (List Int)) (k : Nat), decide (0 ≤ ixRow p l k) = l.any p
  | [], k => by simp [ixRow]
  | x :: r, k => by
    unfold ixRow
    by_cases h : p x = true
    · rw [if_pos h]; simp [h]
    · rw [if_neg h, ixRow_any p r (k + 1)]; simp [h]
theorem ixRow_step {p : List Int → Bool} {l : List (List Int)} {k : Nat} (h : k < l.length) : ixRow p (l.drop k) k = if p l[k] = true then (k : Int) else ixRow p (l.drop (k + 1)) (k + 1) := by
  rw [List.drop_eq_getElem_cons h]; rfl
theorem ixRow_bd (p : List Int → Bool) : ∀ (l : List (List Int)) (k : Nat), -1 ≤ ixRow p l k ∧ ixRow p l k < k + l.length
  | [], k => by simp [ixRow]; omega
  | x :: r, k => by
    unfold ixRow
    have := ixRow_bd p r (k + 1)
    split
    · simp; omega
    · simp at this ⊢; omega
end Go.Proofs.Ytijpkcdalmlaiaa
namespace Go.Proofs.Ytijpkcdalmlaiaa
open Go.RowKit Go.Sort
end Go.Proofs.Ytijpkcdalmlaiaa
namespace Go.Proofs.Ytijpkcdalmlaiaa
open Go.RowKit Go.Sort
theorem ownsRow_set_other {w : World} {base e size n : Nat} {v : Value} {xs : List Value} (h : w.ownsRow base e size v n xs) {a : Addr} (ha : v.ownBlock ≠ some a.block) (u : Value) : (w.setCell a u).ownsRow base e size v n xs := by
  refine ⟨h.1, ?_⟩
  rcases h.2 with h2 | ⟨g, cap, cur, rfl, h2, h3, h4⟩
  · exact .inl h2
  · refine .inr ⟨g, cap, cur, rfl, h2, ?_, h4⟩
    rw [heap_setCell_other w a g u (fun e => ha (by simp [Value.ownBlock, e]))]; exact h3
theorem ownsRow_fs1 {w w' : World} {base e size n : Nat} {v : Value} {xs : List Value} (h : w.ownsRow base e size v n xs) {r : Nat} (hf : Fs (fun k => k = r) w w') (ha : v.ownBlock ≠ some r) : w'.ownsRow base e size v n xs := by
  refine ⟨h.1, ?_⟩
  rcases h.2 with h2 | ⟨g, cap, cur, rfl, h2, h3, h4⟩
  · exact .inl h2
  · refine .inr ⟨g, cap, cur, rfl, h2, ?_, h4⟩
    rw [hf.block g (Array.getElem?_eq_some_iff.1 h3).1 (fun e => ha (by simp [Value.ownBlock, e]))]; exact h3
theorem Fs.cut {S T : Nat → Prop} {w w' : World} (h : Fs S w w') (hS : ∀ k, k < w.heap.size → S k → T k) : Fs T w w' := ⟨h.os, h.tape, h.output, h.size, fun k hk hx => h.block k hk (fun hs => hx (hS k hk hs))⟩
theorem Fs.then {S T R : Nat → Prop} {w w1 w2 : World} (h : Fs S w w1) (h2 : Fs T w1 w2) (hS : ∀ k, k < w.heap.size → S k → R k) (hT : ∀ k, k < w.heap.size → T k → R k) : Fs R w w2 :=
  ⟨h2.os.trans h.os, h2.tape.trans h.tape, h2.output.trans h.output, Nat.le_trans h.size h2.size, fun k hk hx => (h2.block k (Nat.lt_of_lt_of_le hk h.size) (fun ht => hx (hT k hk ht))).trans (h.block k hk (fun hs => hx (hS k hk hs)))⟩
theorem OwnIIB.cellAt {w : World} {base B : Nat} {v : Value} {xss : List (List Int)} (h : OwnIIB w base B v xss) {i j : Nat} (hi : i < xss.length) (hj : j < xss[i].length) :
    ∃ gv c g rc, v = .slice (some ⟨gv, 0, none⟩) xss.length c ∧ w.cell? ⟨gv, i, none⟩ = some (.slice (some ⟨g, 0, none⟩) xss[i].length rc) ∧ w.cell? ⟨g, j, none⟩ = some (.int .i64 xss[i][j]) ∧ w.frozen? ⟨g, j, none⟩ = false ∧
      base ≤ g ∧ g < w.heap.size ∧ base ≤ gv ∧ gv < w.heap.size ∧ ∀ x, OwnIIB (w.setCell ⟨g, j, none⟩ (.int .i64 x)) base B v (xss.set i (xss[i].set j x)) := by
  obtain ⟨vs, h1, h2, h3⟩ := h
  have hvl : i < vs.length := by rw [h2.1]; exact hi
  have hvi : vs[i]? = some vs[i] := List.getElem?_eq_getElem hvl
  have hu := h2.2.1 i vs[i] xss[i] hvi (List.getElem?_eq_getElem hi)
  rcases hu.forms with ⟨_, e⟩ | ⟨g, rc, e, hg1, hg2, _⟩
  · simp [e] at hj
  rcases id h1.2 with ⟨_, h0⟩ | ⟨gv, c, cur, hv, hgv, hcur, _⟩
  · omega
  subst hv
  obtain ⟨ad', c', he, _, _, hrd⟩ := ownsRow_rd h1
  simp at he
  obtain ⟨rfl, rfl⟩ := he
  obtain ⟨b, off, he, hcell⟩ := hrd.one hvi
  simp at he
  obtain ⟨rfl, rfl⟩ := he
  rw [e] at hcell hu hvi
  have hne : (Value.slice (some ⟨gv, 0, none⟩) xss.length c).ownBlock ≠ some g := hu.apart h1 rfl
  refine ⟨gv, c, g, rc, rfl, by simpa using hcell, hu.cell hj, hu.free j, hg1, hg2, hgv, (Array.getElem?_eq_some_iff.1 hcur).1, fun x => ⟨vs, ?_, ⟨by simp [h2.1], fun k u xs hk hx => ?_, h2.2.2⟩, h3⟩⟩
  · rw [List.length_set]; exact ownsRow_set_other h1 hne _
  · by_cases hki : k = i
    · subst hki
      rw [hvi] at hk
      cases hk
      rw [List.getElem?_set_self hi] at hx
      cases hx
      exact hu.set j x
    · rw [List.getElem?_set_ne (Ne.symm hki)] at hx
      exact ownsRow_set_other (h2.2.1 k u xs hk hx) (h2.2.2 i k _ u g (Ne.symm hki) hvi hk rfl) _
theorem OwnII.cellAt {w : World} {base : Nat} {v : Value} {xss : List (List Int)} (h : OwnII w base v xss) {i j : Nat} (hi : i < xss.length) (hj : j < xss[i].length) :
    ∃ gv c g rc, v = .slice (some ⟨gv, 0, none⟩) xss.length c ∧ w.cell? ⟨gv, i, none⟩ = some (.slice (some ⟨g, 0, none⟩) xss[i].length rc) ∧ w.cell? ⟨g, j, none⟩ = some (.int .i64 xss[i][j]) ∧ w.frozen? ⟨g, j, none⟩ = false ∧
      base ≤ g ∧ g < w.heap.size ∧ base ≤ gv ∧ gv < w.heap.size ∧ ∀ x, OwnII (w.setCell ⟨g, j, none⟩ (.int .i64 x)) base v (xss.set i (xss[i].set j x)) := by
  obtain ⟨gv, c, g, rc, h1, h2, h3, h4, h5, h6, h7, h8, h9⟩ := h.b.cellAt hi hj
  exact ⟨gv, c, g, rc, h1, h2, h3, h4, h5, h6, h7, h8, fun x => (h9 x).ii⟩
/-- a row of owned rows: itself owned; what it becomes, the rows become -/
theorem OwnIIB.rowAt {w : World} {base B : Nat} {v : Value} {xss : List (List Int)} (h : OwnIIB w base B v xss) {i : Nat} (hi : i < xss.length) (hj : 0 < xss[i].length) :
    ∃ gv c g rc, v = .slice (some ⟨gv, 0, none⟩) xss.length c ∧ w.cell? ⟨gv, i, none⟩ = some (.slice (some ⟨g, 0, none⟩) xss[i].length rc) ∧ OwnI w base (.slice (some ⟨g, 0, none⟩) xss[i].length rc) xss[i] ∧
      base ≤ g ∧ g < w.heap.size ∧ g < B ∧ base ≤ gv ∧ gv < w.heap.size ∧ gv ≠ g ∧ ∀ w' r', Fs (fun k => k = g) w w' → OwnI w' base (.slice (some ⟨g, 0, none⟩) xss[i].length rc) r' → OwnIIB w' base B v (xss.set i r') := by
  obtain ⟨vs, h1, h2, h3⟩ := h
  have hvl : i < vs.length := by rw [h2.1]; exact hi
  have hvi : vs[i]? = some vs[i] := List.getElem?_eq_getElem hvl
  have hu := h2.2.1 i vs[i] xss[i] hvi (List.getElem?_eq_getElem hi)
  rcases hu.forms with ⟨_, e⟩ | ⟨g, rc, e, hg1, hg2, _⟩
  · simp [e] at hj
  rcases id h1.2 with ⟨_, h0⟩ | ⟨gv, c, cur, hv, hgv, hcur, _⟩
  · omega
  subst hv
  obtain ⟨ad', c', he, _, _, hrd⟩ := ownsRow_rd h1
  simp at he
  obtain ⟨rfl, rfl⟩ := he
  obtain ⟨b, off, he, hcell⟩ := hrd.one hvi
  simp at he
  obtain ⟨rfl, rfl⟩ := he
  rw [e] at hcell hu hvi
  have hne : (Value.slice (some ⟨gv, 0, none⟩) xss.length c).ownBlock ≠ some g := hu.apart h1 rfl
  refine ⟨gv, c, g, rc, rfl, by simpa using hcell, hu, hg1, hg2, h3 i _ g hvi rfl, hgv, (Array.getElem?_eq_some_iff.1 hcur).1, fun e => hne (by simp [Value.ownBlock, e]), fun w' r' hf ho => ⟨vs, ?_, ⟨by simp [h2.1], fun k u xs hk hx => ?_, h2.2.2⟩, h3⟩⟩
  · rw [List.length_set]; exact ownsRow_fs1 h1 hf hne
  · by_cases hki : k = i
    · subst hki
      rw [hvi] at hk
      cases hk
      rw [List.getElem?_set_self hi] at hx
      cases hx
      exact ho
    · rw [List.getElem?_set_ne (Ne.symm hki)] at hx
      exact ownsRow_fs1 (h2.2.1 k u xs hk hx) hf (h2.2.2 i k _ u g (Ne.symm hki) hvi hk rfl)
theorem OwnIIB.rowOf {w : World} {base B gv n c : Nat} {xss : List (List Int)} (h : OwnIIB w base B (.slice (some ⟨gv, 0, none⟩) n c) xss) {i : Nat} {r : List Int} (hr : xss[i]? = some r) (hrl : r.length = n) (hn : 0 < n) :
    ∃ g rc, w.cell? ⟨gv, i, none⟩ = some (.slice (some ⟨g, 0, none⟩) n rc) ∧ OwnI w base (.slice (some ⟨g, 0, none⟩) n rc) r ∧
      base ≤ g ∧ g < B ∧ gv ≠ g ∧ ∀ w' r', Fs (fun k => k = g) w w' → OwnI w' base (.slice (some ⟨g, 0, none⟩) n rc) r' → OwnIIB w' base B (.slice (some ⟨gv, 0, none⟩) n c) (xss.set i r') := by
  obtain ⟨hi, rfl⟩ := List.getElem?_eq_some_iff.1 hr
  obtain ⟨gv', c', g, rc, he, h2, h3, h4, _, h5, _, _, h8, h9⟩ := h.rowAt hi (by omega)
  simp only [Value.slice.injEq, Option.some.injEq, Addr.mk.injEq] at he
  obtain ⟨⟨rfl, _⟩, _, rfl⟩ := he
  rw [hrl] at h2 h3
  refine ⟨g, rc, h2, h3, h4, h5, h8, fun w' r' hf ho => h9 w' r' hf (by rw [hrl]; exact ho)⟩
end Go.Proofs.Ytijpkcdalmlaiaa
namespace Go.Proofs.Ytijpkcdalmlaiaa
open Go.RowKit Go.Sort
def graphV (n : Int) (v : Value) : Value := .agg #[.int .i64 n, v]
end Go.Proofs.Ytijpkcdalmlaiaa
namespace Go.Proofs.Ytijpkcdalmlaiaa
open Go.RowKit Go.Sort
set_option maxHeartbeats 400000 in
theorem l00Same_any {u v : Value} {xs ys : List Int} (w : World) (ha : SlI w u xs) (hb : SlI w v ys) :
    Calls Try.prog 75 #[u, v] w fun e w' => e = .returned (.bool (decide (xs = ys))) ∧ Below w.heap.size w w' := by
  obtain ⟨a, ca, rfl, hca, hca', ha⟩ := ha
  obtain ⟨b, cb, rfl, hcb, hcb', hb⟩ := hb
  unfold maxLen at hca' hcb'
  have hm : xs.length ≤ 9223372036854775807 := by omega
  have hn : ys.length ≤ 9223372036854775807 := by omega
  clear hca hca' hcb hcb'
  by_cases hl : xs.length = ys.length
  · have HL := Lib.hid hl
    clear hl
    have h1 : ((xs.length : Int) != (ys.length : Int)) = false := by simp [HL.out]
    go_enter Try.func75, Try.ntmps75
    go_wp2
    go_loopw [5] (fun i wr => ∃ k : Nat, k ≤ xs.length ∧ i = .int .i64 k ∧ xs.take k = ys.take k ∧ Below w.heap.size w wr) (fun i _ => xs.length - (intOf i).toNat)
    case atStart => exact ⟨0, Nat.zero_le _, rfl, rfl, Below.refl _ _⟩
    case round =>
      obtain ⟨k, hk, rfl, ht, hbw⟩ := hrel
      have ha' := ha.below hbw
      have hb' := hb.below hbw
      clear ha hb
      have HT := Lib.hid ht
      clear ht
      by_cases hlt : k < xs.length
      · have hj : k < ys.length := by rw [← HL.out]; exact hlt
        obtain ⟨ba, oa, rfl, ga⟩ := ha'.one (i64s_get hlt)
        obtain ⟨bb, ob, rfl, gb⟩ := hb'.one (i64s_get hj)
        clear ha' hb'
        go_wp2_with fail
        go_quiet (fail)
        go_wp2
        · go_ret
          have hx : (xs[k] != ys[k]) = true := by assumption
          have hne : ¬ xs[k] = ys[k] := by simpa using hx
          exact ⟨rb (by simp [ne_of_get hlt hj hne]), below_drewN hbw _⟩
        · have hx : (xs[k] != ys[k]) = false := by assumption
          have he : xs[k] = ys[k] := by simpa using hx
          go_roundw
          case rel => exact ⟨k + 1, by omega, by go_num, take_eq_succ HT.out hlt hj he, below_drewN hbw _⟩
          case measure => simp [intOf]; omega
      · have ht := HT.out
        go_wp2
        go_ret
        exact ⟨rb (by symm; simp; rw [List.take_of_length_le (by omega), List.take_of_length_le (by rw [← HL.out]; omega)] at ht; exact ht), hbw⟩
  · have h1 : ((xs.length : Int) != (ys.length : Int)) = true := by simp; omega
    have HL := Lib.hid hl
    clear hl
    go_enter Try.func75, Try.ntmps75
    go_wp2
    go_ret
    exact ⟨rb (by symm; simp; intro h; exact HL.out (by rw [h])), Below.refl _ _⟩

end Go.Proofs.Ytijpkcdalmlaiaa
