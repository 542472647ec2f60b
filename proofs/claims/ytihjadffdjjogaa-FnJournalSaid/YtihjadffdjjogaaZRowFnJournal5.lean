/-
  SameGraph, both. With it: A cell of a row of owned rows: what it holds, and what a store into it leaves. Which records are valid for a valid service. Graphs: copied, counted, compared.
-/
import Derived.Test.YtihjadffdjjogaaZRowFnJournal4
set_option linter.unusedVariables false
set_option linter.unusedSimpArgs false
namespace Go.Proofs.Ytihjadffdjjogaa
open Go.RowKit Go.Sort
theorem ownsRow_set_other {w : World} {base e size n : Nat} {v : Value} {xs : List Value} (h : w.ownsRow base e size v n xs) {a : Addr} (ha : v.ownBlock ≠ some a.block) (u : Value) : (w.setCell a u).ownsRow base e size v n xs := by
  refine ⟨h.1, ?_⟩
  rcases h.2 with h2 | ⟨g, cap, cur, rfl, h2, h3, h4⟩
  · exact .inl h2
  · refine .inr ⟨g, cap, cur, rfl, h2, ?_, h4⟩
    rw [heap_setCell_other w a g u (fun e => ha (by simp [Value.ownBlock, e]))]; exact h3
theorem ownsRow_fs1 {w w' : World} {base e size n : Nat} {v : Value} {xs : List Value} (h : w.ownsRow base e size v n xs) {r : Nat} (hf : Fs (fun k => k = r) w w') (ha : v.ownBlock ≠ some r) : w'.ownsRow base e size v n xs := by
  refine ⟨h.1, ?_⟩
  rcases h.2 with h2 | ⟨g, cap, cur, rfl, h2, h3, h4⟩
  · exact .inl h2
  · refine .inr ⟨g, cap, cur, rfl, h2, ?_, h4⟩
    rw [hf.block g (Array.getElem?_eq_some_iff.1 h3).1 (fun e => ha (by simp [Value.ownBlock, e]))]; exact h3
theorem Fs.cut {S T : Nat → Prop} {w w' : World} (h : Fs S w w') (hS : ∀ k, k < w.heap.size → S k → T k) : Fs T w w' := ⟨h.os, h.tape, h.output, h.size, fun k hk hx => h.block k hk (fun hs => hx (hS k hk hs))⟩
theorem Fs.then {S T R : Nat → Prop} {w w1 w2 : World} (h : Fs S w w1) (h2 : Fs T w1 w2) (hS : ∀ k, k < w.heap.size → S k → R k) (hT : ∀ k, k < w.heap.size → T k → R k) : Fs R w w2 :=
  ⟨h2.os.trans h.os, h2.tape.trans h.tape, h2.output.trans h.output, Nat.le_trans h.size h2.size, fun k hk hx => (h2.block k (Nat.lt_of_lt_of_le hk h.size) (fun ht => hx (hT k hk ht))).trans (h.block k hk (fun hs => hx (hS k hk hs)))⟩
theorem OwnIIB.cellAt {w : World} {base B : Nat} {v : Value} {xss : List (List Int)} (h : OwnIIB w base B v xss) {i j : Nat} (hi : i < xss.length) (hj : j < xss[i].length) :
    ∃ gv c g rc, v = .slice (some ⟨gv, 0, none⟩) xss.length c ∧ w.cell? ⟨gv, i, none⟩ = some (.slice (some ⟨g, 0, none⟩) xss[i].length rc) ∧ w.cell? ⟨g, j, none⟩ = some (.int .i64 xss[i][j]) ∧ w.frozen? ⟨g, j, none⟩ = false ∧
      base ≤ g ∧ g < w.heap.size ∧ base ≤ gv ∧ gv < w.heap.size ∧ ∀ x, OwnIIB (w.setCell ⟨g, j, none⟩ (.int .i64 x)) base B v (xss.set i (xss[i].set j x)) := by
  obtain ⟨vs, h1, h2, h3⟩ := h
  have hvl : i < vs.length := by rw [h2.1]; exact hi
  have hvi : vs[i]? = some vs[i] := List.getElem?_eq_getElem hvl
  have hu := h2.2.1 i vs[i] xss[i] hvi (List.getElem?_eq_getElem hi)
  rcases hu.forms with ⟨_, e⟩ | ⟨g, rc, e, hg1, hg2, _⟩
  · simp [e] at hj
  rcases id h1.2 with ⟨_, h0⟩ | ⟨gv, c, cur, hv, hgv, hcur, _⟩
  · omega
  subst hv
  obtain ⟨ad', c', he, _, _, hrd⟩ := ownsRow_rd h1
  simp at he
  obtain ⟨rfl, rfl⟩ := he
  obtain ⟨b, off, he, hcell⟩ := hrd.one hvi
  simp at he
  obtain ⟨rfl, rfl⟩ := he
  rw [e] at hcell hu hvi
  have hne : (Value.slice (some ⟨gv, 0, none⟩) xss.length c).ownBlock ≠ some g := hu.apart h1 rfl
  refine ⟨gv, c, g, rc, rfl, by simpa using hcell, hu.cell hj, hu.free j, hg1, hg2, hgv, (Array.getElem?_eq_some_iff.1 hcur).1, fun x => ⟨vs, ?_, ⟨by simp [h2.1], fun k u xs hk hx => ?_, h2.2.2⟩, h3⟩⟩
  · rw [List.length_set]; exact ownsRow_set_other h1 hne _
  · by_cases hki : k = i
    · subst hki
      rw [hvi] at hk
      cases hk
      rw [List.getElem?_set_self hi] at hx
      cases hx
      exact hu.set j x
    · rw [List.getElem?_set_ne (Ne.symm hki)] at hx
      exact ownsRow_set_other (h2.2.1 k u xs hk hx) (h2.2.2 i k _ u g (Ne.symm hki) hvi hk rfl) _
theorem OwnII.cellAt {w : World} {base : Nat} {v : Value} {xss : List (List Int)} (h : OwnII w base v xss) {i j : Nat} (hi : i < xss.length) (hj : j < xss[i].length) :
    ∃ gv c g rc, v = .slice (some ⟨gv, 0, none⟩) xss.length c ∧ w.cell? ⟨gv, i, none⟩ = some (.slice (some ⟨g, 0, none⟩) xss[i].length rc) ∧ w.cell? ⟨g, j, none⟩ = some (.int .i64 xss[i][j]) ∧ w.frozen? ⟨g, j, none⟩ = false ∧
      base ≤ g ∧ g < w.heap.size ∧ base ≤ gv ∧ gv < w.heap.size ∧ ∀ x, OwnII (w.setCell ⟨g, j, none⟩ (.int .i64 x)) base v (xss.set i (xss[i].set j x)) := by
  obtain ⟨gv, c, g, rc, h1, h2, h3, h4, h5, h6, h7, h8, h9⟩ := h.b.cellAt hi hj
  exact ⟨gv, c, g, rc, h1, h2, h3, h4, h5, h6, h7, h8, fun x => (h9 x).ii⟩
/-- a row of owned rows: itself owned; what it becomes, the rows become -/
theorem OwnIIB.rowAt {w : World} {base B : Nat} {v : Value} {xss : List (List Int)} (h : OwnIIB w base B v xss) {i : Nat} (hi : i < xss.length) (hj : 0 < xss[i].length) :
    ∃ gv c g rc, v = .slice (some ⟨gv, 0, none⟩) xss.length c ∧ w.cell? ⟨gv, i, none⟩ = some (.slice (some ⟨g, 0, none⟩) xss[i].length rc) ∧ OwnI w base (.slice (some ⟨g, 0, none⟩) xss[i].length rc) xss[i] ∧
      base ≤ g ∧ g < w.heap.size ∧ g < B ∧ base ≤ gv ∧ gv < w.heap.size ∧ gv ≠ g ∧ ∀ w' r', Fs (fun k => k = g) w w' → OwnI w' base (.slice (some ⟨g, 0, none⟩) xss[i].length rc) r' → OwnIIB w' base B v (xss.set i r') := by
  obtain ⟨vs, h1, h2, h3⟩ := h
  have hvl : i < vs.length := by rw [h2.1]; exact hi
  have hvi : vs[i]? = some vs[i] := List.getElem?_eq_getElem hvl
  have hu := h2.2.1 i vs[i] xss[i] hvi (List.getElem?_eq_getElem hi)
  rcases hu.forms with ⟨_, e⟩ | ⟨g, rc, e, hg1, hg2, _⟩
  · simp [e] at hj
  rcases id h1.2 with ⟨_, h0⟩ | ⟨gv, c, cur, hv, hgv, hcur, _⟩
  · omega
  subst hv
  obtain ⟨ad', c', he, _, _, hrd⟩ := ownsRow_rd h1
  simp at he
  obtain ⟨rfl, rfl⟩ := he
  obtain ⟨b, off, he, hcell⟩ := hrd.one hvi
  simp at he
  obtain ⟨rfl, rfl⟩ := he
  rw [e] at hcell hu hvi
  have hne : (Value.slice (some ⟨gv, 0, none⟩) xss.length c).ownBlock ≠ some g := hu.apart h1 rfl
  refine ⟨gv, c, g, rc, rfl, by simpa using hcell, hu, hg1, hg2, h3 i _ g hvi rfl, hgv, (Array.getElem?_eq_some_iff.1 hcur).1, fun e => hne (by simp [Value.ownBlock, e]), fun w' r' hf ho => ⟨vs, ?_, ⟨by simp [h2.1], fun k u xs hk hx => ?_, h2.2.2⟩, h3⟩⟩
  · rw [List.length_set]; exact ownsRow_fs1 h1 hf hne
  · by_cases hki : k = i
    · subst hki
      rw [hvi] at hk
      cases hk
      rw [List.getElem?_set_self hi] at hx
      cases hx
      exact ho
    · rw [List.getElem?_set_ne (Ne.symm hki)] at hx
      exact ownsRow_fs1 (h2.2.1 k u xs hk hx) hf (h2.2.2 i k _ u g (Ne.symm hki) hvi hk rfl)
theorem OwnIIB.rowOf {w : World} {base B gv n c : Nat} {xss : List (List Int)} (h : OwnIIB w base B (.slice (some ⟨gv, 0, none⟩) n c) xss) {i : Nat} {r : List Int} (hr : xss[i]? = some r) (hrl : r.length = n) (hn : 0 < n) :
    ∃ g rc, w.cell? ⟨gv, i, none⟩ = some (.slice (some ⟨g, 0, none⟩) n rc) ∧ OwnI w base (.slice (some ⟨g, 0, none⟩) n rc) r ∧
      base ≤ g ∧ g < B ∧ gv ≠ g ∧ ∀ w' r', Fs (fun k => k = g) w w' → OwnI w' base (.slice (some ⟨g, 0, none⟩) n rc) r' → OwnIIB w' base B (.slice (some ⟨gv, 0, none⟩) n c) (xss.set i r') := by
  obtain ⟨hi, rfl⟩ := List.getElem?_eq_some_iff.1 hr
  obtain ⟨gv', c', g, rc, he, h2, h3, h4, _, h5, _, _, h8, h9⟩ := h.rowAt hi (by omega)
  simp only [Value.slice.injEq, Option.some.injEq, Addr.mk.injEq] at he
  obtain ⟨⟨rfl, _⟩, _, rfl⟩ := he
  rw [hrl] at h2 h3
  refine ⟨g, rc, h2, h3, h4, h5, h8, fun w' r' hf ho => h9 w' r' hf (by rw [hrl]; exact ho)⟩
end Go.Proofs.Ytihjadffdjjogaa
namespace Go.Proofs.Ytihjadffdjjogaa
open Go.RowKit Go.Sort
def recOk (st sm k s v : Int) : Bool := inR s 0 (sm - 1) && (if k = 1 then inR v 1 7 else if k = 2 then inR v 0 (st - 1) else if k = 3 then decide (v = 0) else false)

set_option maxHeartbeats 1000000 in
theorem l09Record_any {u : Value} (b o : Nat) (st t bs sm wk k s v : Int) (w : World) (hc : ServAt w b o st t u bs sm wk) (hs1 : 1 ≤ sm) (hs2 : sm ≤ 8) (ht1 : 1 ≤ st) (ht2 : st ≤ 6) :
    Calls Try.prog 18 #[.pointer (some ⟨b, o, none⟩), .agg #[.int .i64 k, .int .i64 s, .int .i64 v]] w fun e w' => e = .returned (.bool (recOk st sm k s v)) ∧ Below w.heap.size w w' := by
  have e1 : IntKind.i64.wrap (sm - 1) = sm - 1 := IntWalk.i64_in _ (by omega)
  have e2 : IntKind.i64.wrap (st - 1) = st - 1 := IntWalk.i64_in _ (by omega)
  have E1 := Lib.hid e1
  have E2 := Lib.hid e2
  clear e1 e2
  obtain ⟨⟨c00, c0, _, _⟩, _, c4, _⟩ := hc
  have bb : Below w.heap.size w (w.alloc (.cells #[.int .i64 k, .int .i64 s, .int .i64 v] 42)) := (Below.refl _ _).alloc (Nat.le_refl _) _
  have d0 := (bb.cell (p := ⟨b, o, none⟩) c00).trans c0
  have d4 := (bb.cell (p := ⟨b, o + 4, none⟩) c00).trans c4
  have r0 : (w.alloc (.cells #[.int .i64 k, .int .i64 s, .int .i64 v] 42)).cell? ⟨w.heap.size, 0, none⟩ = some (.int .i64 k) := by simp
  have r1 : (w.alloc (.cells #[.int .i64 k, .int .i64 s, .int .i64 v] 42)).cell? ⟨w.heap.size, 1, none⟩ = some (.int .i64 s) := by simp
  have r2 : (w.alloc (.cells #[.int .i64 k, .int .i64 s, .int .i64 v] 42)).cell? ⟨w.heap.size, 2, none⟩ = some (.int .i64 v) := by simp
  clear c0 c4
  have zz : w.heap.size < (w.alloc (.cells #[.int .i64 k, .int .i64 s, .int .i64 v] 42)).heap.size := by simp
  have D0 := Lib.hid d0
  have R0 := Lib.hid r0
  have R2 := Lib.hid r2
  have k1 := fun d os => cell_regrown d4 d os
  have k2 := fun d os => cell_regrown r1 d os
  clear d0 r0 r1 r2 d4
  by_cases hs : inR s 0 (sm - 1) = true
  · by_cases h1 : k = 1
    · subst h1
      have HD : Hid (recOk st sm 1 s v = inR v 1 7) := by unfold Hid recOk; rw [hs]; rfl
      go_enter Try.func18, Try.ntmps18
      go_wp2_with fail
      have e1 := E1.out
      have bw := Below.refl (w.alloc (.cells #[.int .i64 1, .int .i64 s, .int .i64 v] 42)).heap.size (w.alloc (.cells #[.int .i64 1, .int .i64 s, .int .i64 v] 42))
      refine wp_region_quiet_below (by kernel_rfl) (by kernel_rfl) ?_
      repeat (first | go_big_quiet_skip | quiet_step (exact Calls.regrown_of (l00In_b _ _ _ _)))
      refine wpQuiet_nil ?_
      intro _ hw'
      obtain ⟨⟨dq, osq⟩, hw''⟩ := hw'
      subst hw''
      have bq := bw.trans ((below_regrown (w.alloc (.cells #[.int .i64 1, .int .i64 s, .int .i64 v] 42)) dq osq).mono bw.size)
      generalize grow (redrawn (w.alloc (.cells #[.int .i64 1, .int .i64 s, .int .i64 v] 42)) dq) osq = wq at bq ⊢
      clear k1 k2 e1
      have r0 := (bq.cell (p := ⟨w.heap.size, 0, none⟩) zz).trans R0.out
      have r2 := (bq.cell (p := ⟨w.heap.size, 2, none⟩) zz).trans R2.out
      go_wp2_with (go_at_call 35; refine (l00In_any _ _ _ _).mono ?_; rintro e w' ⟨rfl, rfl⟩)
      go_ret
      exact ⟨rb HD.out.symm, bb.trans (bq.mono (by simp))⟩
    · by_cases h2 : k = 2
      · subst h2
        have HD : Hid (recOk st sm 2 s v = inR v 0 (st - 1)) := by unfold Hid recOk; rw [hs]; rfl
        go_enter Try.func18, Try.ntmps18
        go_wp2_with fail
        have e1 := E1.out
        have bw := Below.refl (w.alloc (.cells #[.int .i64 2, .int .i64 s, .int .i64 v] 42)).heap.size (w.alloc (.cells #[.int .i64 2, .int .i64 s, .int .i64 v] 42))
        refine wp_region_quiet_below (by kernel_rfl) (by kernel_rfl) ?_
        repeat (first | go_big_quiet_skip | quiet_step (exact Calls.regrown_of (l00In_b _ _ _ _)))
        refine wpQuiet_nil ?_
        intro _ hw'
        obtain ⟨⟨dq, osq⟩, hw''⟩ := hw'
        subst hw''
        have bq := bw.trans ((below_regrown (w.alloc (.cells #[.int .i64 2, .int .i64 s, .int .i64 v] 42)) dq osq).mono bw.size)
        generalize grow (redrawn (w.alloc (.cells #[.int .i64 2, .int .i64 s, .int .i64 v] 42)) dq) osq = wq at bq ⊢
        clear k1 k2 e1
        have r0 := (bq.cell (p := ⟨w.heap.size, 0, none⟩) zz).trans R0.out
        have r2 := (bq.cell (p := ⟨w.heap.size, 2, none⟩) zz).trans R2.out
        have d0 := (bq.cell (p := ⟨b, o, none⟩) (Nat.lt_of_lt_of_le c00 bb.size)).trans D0.out
        have k1 := fun d os => cell_regrown r2 d os
        have k2 := fun d os => cell_regrown d0 d os
        have e2 := E2.out
        go_wp2_with fail
        refine wp_region_quiet_below (by kernel_rfl) (by kernel_rfl) ?_
        repeat (first | go_big_quiet_skip | quiet_step (exact Calls.regrown_of (l00In_b _ _ _ _)))
        refine wpQuiet_nil ?_
        intro _ hw'
        obtain ⟨⟨dq, osq⟩, hw''⟩ := hw'
        subst hw''
        have bq2 := bq.trans ((below_regrown wq dq osq).mono bq.size)
        generalize grow (redrawn wq dq) osq = wq2 at bq2 ⊢
        go_wp2
        go_ret
        exact ⟨rb HD.out.symm, bb.trans (bq2.mono (by simp))⟩
      · by_cases h3 : k = 3
        · subst h3
          have HD : Hid (recOk st sm 3 s v = decide (v = 0)) := by unfold Hid recOk; rw [hs]; rfl
          go_enter Try.func18, Try.ntmps18
          go_wp2_with fail
          have e1 := E1.out
          have bw := Below.refl (w.alloc (.cells #[.int .i64 3, .int .i64 s, .int .i64 v] 42)).heap.size (w.alloc (.cells #[.int .i64 3, .int .i64 s, .int .i64 v] 42))
          refine wp_region_quiet_below (by kernel_rfl) (by kernel_rfl) ?_
          repeat (first | go_big_quiet_skip | quiet_step (exact Calls.regrown_of (l00In_b _ _ _ _)))
          refine wpQuiet_nil ?_
          intro _ hw'
          obtain ⟨⟨dq, osq⟩, hw''⟩ := hw'
          subst hw''
          have bq := bw.trans ((below_regrown (w.alloc (.cells #[.int .i64 3, .int .i64 s, .int .i64 v] 42)) dq osq).mono bw.size)
          generalize grow (redrawn (w.alloc (.cells #[.int .i64 3, .int .i64 s, .int .i64 v] 42)) dq) osq = wq at bq ⊢
          clear k1 k2 e1
          have r0 := (bq.cell (p := ⟨w.heap.size, 0, none⟩) zz).trans R0.out
          have r2 := (bq.cell (p := ⟨w.heap.size, 2, none⟩) zz).trans R2.out
          have t0 : (v == 0) = decide (v = 0) := by by_cases h : v = 0 <;> simp [h]
          go_wp2_with (go_at_call 35; refine (l00In_any _ _ _ _).mono ?_; rintro e w' ⟨rfl, rfl⟩)
          go_ret
          exact ⟨rb HD.out.symm, bb.trans (bq.mono (by simp))⟩
        · have HD : Hid (recOk st sm k s v = false) := by unfold Hid recOk; rw [if_neg h1, if_neg h2, if_neg h3]; simp
          have t1 : (k == 1) = false := by simp [h1]
          have t2 : (k == 2) = false := by simp [h2]
          have t3 : (k == 3) = false := by simp [h3]
          clear h1 h2 h3
          go_enter Try.func18, Try.ntmps18
          go_wp2_with fail
          have e1 := E1.out
          have bw := Below.refl (w.alloc (.cells #[.int .i64 k, .int .i64 s, .int .i64 v] 42)).heap.size (w.alloc (.cells #[.int .i64 k, .int .i64 s, .int .i64 v] 42))
          refine wp_region_quiet_below (by kernel_rfl) (by kernel_rfl) ?_
          repeat (first | go_big_quiet_skip | quiet_step (exact Calls.regrown_of (l00In_b _ _ _ _)))
          refine wpQuiet_nil ?_
          intro _ hw'
          obtain ⟨⟨dq, osq⟩, hw''⟩ := hw'
          subst hw''
          have bq := bw.trans ((below_regrown (w.alloc (.cells #[.int .i64 k, .int .i64 s, .int .i64 v] 42)) dq osq).mono bw.size)
          generalize grow (redrawn (w.alloc (.cells #[.int .i64 k, .int .i64 s, .int .i64 v] 42)) dq) osq = wq at bq ⊢
          clear k1 k2 e1
          have r0 := (bq.cell (p := ⟨w.heap.size, 0, none⟩) zz).trans R0.out
          have r2 := (bq.cell (p := ⟨w.heap.size, 2, none⟩) zz).trans R2.out
          go_wp2_with (go_at_call 35; refine (l00In_any _ _ _ _).mono ?_; rintro e w' ⟨rfl, rfl⟩)
          go_ret
          exact ⟨rbf HD.out, bb.trans (bq.mono (by simp))⟩
  · have hs' : inR s 0 (sm - 1) = false := by simpa using hs
    have HD : Hid (recOk st sm k s v = false) := by unfold Hid recOk; rw [hs']; rfl
    clear hs
    go_enter Try.func18, Try.ntmps18
    go_wp2_with fail
    have e1 := E1.out
    have bw := Below.refl (w.alloc (.cells #[.int .i64 k, .int .i64 s, .int .i64 v] 42)).heap.size (w.alloc (.cells #[.int .i64 k, .int .i64 s, .int .i64 v] 42))
    refine wp_region_quiet_below (by kernel_rfl) (by kernel_rfl) ?_
    repeat (first | go_big_quiet_skip | quiet_step (exact Calls.regrown_of (l00In_b _ _ _ _)))
    refine wpQuiet_nil ?_
    intro _ hw'
    obtain ⟨⟨dq, osq⟩, hw''⟩ := hw'
    subst hw''
    have bq := bw.trans ((below_regrown (w.alloc (.cells #[.int .i64 k, .int .i64 s, .int .i64 v] 42)) dq osq).mono bw.size)
    generalize grow (redrawn (w.alloc (.cells #[.int .i64 k, .int .i64 s, .int .i64 v] 42)) dq) osq = wq at bq ⊢
    clear k1 k2 e1
    have r0 := (bq.cell (p := ⟨w.heap.size, 0, none⟩) zz).trans R0.out
    have r2 := (bq.cell (p := ⟨w.heap.size, 2, none⟩) zz).trans R2.out
    go_wp2_with (go_at_call 35; refine (l00In_any _ _ _ _).mono ?_; rintro e w' ⟨rfl, rfl⟩)
    go_ret
    exact ⟨rbf HD.out, bb.trans (bq.mono (by simp))⟩

theorem isState_any {u : Value} (st t x : Int) (w : World) (h1 : 1 ≤ st) (h2 : st ≤ 1000) :
    Calls Try.prog 43 #[.agg #[.int .i64 st, .int .i64 t, u], .int .i64 x] w fun e w' => e = .returned (.bool (inR x 0 (st - 1))) ∧ Below w.heap.size w w' := by
  go_enter Try.func43, Try.ntmps43
  go_wp2_with (go_at_call 41; refine (inRange_any _ _ _ _).mono ?_; rintro e w' ⟨rfl, rfl⟩)
  go_ret
  exact ⟨rfl, (Below.refl _ _).alloc (Nat.le_refl _) _⟩
set_option maxHeartbeats 1000000 in
theorem validRecord_any {a : Option Addr} {n c : Nat} (st t bs sm wk k s v : Int) (w : World) (hs1 : 1 ≤ sm) (hs2 : sm ≤ 8) (ht1 : 1 ≤ st) (ht2 : st ≤ 6) :
    Calls Try.prog 25 #[.agg #[.int .i64 st, .int .i64 t, .slice a n c, .int .i64 bs, .int .i64 sm, .int .i64 wk], .agg #[.int .i64 k, .int .i64 s, .int .i64 v]] w fun e w' => e = .returned (.bool (recOk st sm k s v)) ∧ Below w.heap.size w w' := by
  have bb : Below w.heap.size w ((w.alloc (.cells #[.int .i64 st, .int .i64 t, .slice a n c, .int .i64 bs, .int .i64 sm, .int .i64 wk] 28)).alloc (.cells #[.int .i64 k, .int .i64 s, .int .i64 v] 42)) := ((Below.refl _ _).alloc (Nat.le_refl _) _).alloc (by simp) _
  by_cases hs : inR s 0 (sm - 1) = true
  · by_cases h1 : k = 1
    · subst h1
      have HD : Hid (recOk st sm 1 s v = inR v 1 7) := by unfold Hid recOk; rw [hs]; rfl
      go_enter Try.func25, Try.ntmps25
      go_wp2_with (go_at_call 41; refine (inRange_any _ _ _ _).mono ?_; rintro e w' ⟨rfl, rfl⟩)
      go_ret
      exact ⟨rb HD.out.symm, bb⟩
    · by_cases h2 : k = 2
      · subst h2
        have HD : Hid (recOk st sm 2 s v = inR v 0 (st - 1)) := by unfold Hid recOk; rw [hs]; rfl
        go_enter Try.func25, Try.ntmps25
        go_wp2_with (first
          | (go_at_call 41; refine (inRange_any _ _ _ _).mono ?_; rintro e w' ⟨rfl, rfl⟩)
          | (go_at_call 43; refine (isState_any st t v _ ht1 (by omega)).mono ?_; rintro e w1 ⟨rfl, b1⟩))
        go_ret
        exact ⟨rb HD.out.symm, bb.trans (b1.mono (by simp <;> omega))⟩
      · have t1 : (k == 1) = false := by simp [h1]
        have t2 : (k == 2) = false := by simp [h2]
        by_cases h3 : k = 3
        · subst h3
          have HD : Hid (recOk st sm 3 s v = decide (v = 0)) := by unfold Hid recOk; rw [hs]; rfl
          have t0 : (v == 0) = decide (v = 0) := by by_cases h : v = 0 <;> simp [h]
          clear h1 h2
          go_enter Try.func25, Try.ntmps25
          go_wp2_with (go_at_call 41; refine (inRange_any _ _ _ _).mono ?_; rintro e w' ⟨rfl, rfl⟩)
          go_ret
          exact ⟨rb HD.out.symm, bb⟩
        · have HD : Hid (recOk st sm k s v = false) := by unfold Hid recOk; rw [if_neg h1, if_neg h2, if_neg h3]; simp
          have t3 : (k == 3) = false := by simp [h3]
          clear h1 h2 h3
          go_enter Try.func25, Try.ntmps25
          go_wp2_with (go_at_call 41; refine (inRange_any _ _ _ _).mono ?_; rintro e w' ⟨rfl, rfl⟩)
          go_ret
          exact ⟨rbf HD.out, bb⟩
  · have hs' : inR s 0 (sm - 1) = false := by simpa using hs
    have HD : Hid (recOk st sm k s v = false) := by unfold Hid recOk; rw [hs']; rfl
    clear hs
    go_enter Try.func25, Try.ntmps25
    go_wp2_with (go_at_call 41; refine (inRange_any _ _ _ _).mono ?_; rintro e w' ⟨rfl, rfl⟩)
    go_ret
    exact ⟨rbf HD.out, bb⟩
theorem serviceOk_parts {s t : Int} {xss : List (List Int)} {bs sm wk : Int} (h : serviceOk s t xss bs sm wk = true) :
    chainOk s t xss = true ∧ (1 ≤ sm ∧ sm ≤ 8) ∧ (1 ≤ wk ∧ wk ≤ 4) ∧ (0 ≤ bs ∧ bs ≤ 999999992) := by
  unfold serviceOk at h
  rw [Bool.and_eq_true, Bool.and_eq_true, Bool.and_eq_true] at h
  exact ⟨h.1, inR_iff.1 h.2.1, inR_iff.1 h.2.2.1, inR_iff.1 h.2.2.2⟩
theorem chainOk_parts {s t : Int} {xss : List (List Int)} (h : chainOk s t xss = true) : (1 ≤ s ∧ s ≤ 6) ∧ (1 ≤ t ∧ t ≤ 60) ∧ (xss.length : Int) = s ∧ rowsOk s t xss = true := by
  unfold chainOk at h
  rw [Bool.and_eq_true, Bool.and_eq_true, Bool.and_eq_true] at h
  exact ⟨inR_iff.1 h.1, inR_iff.1 h.2.1, of_decide_eq_true h.2.2.1, h.2.2.2⟩
def recSvOk (s t : Int) (xss : List (List Int)) (bs sm wk k x v : Int) : Bool := serviceOk s t xss bs sm wk && recOk s sm k x v
set_option maxHeartbeats 400000 in
theorem ImplValidRecord_any {u : Value} {xss : List (List Int)} (s t bs sm wk k x v : Int) (w : World) (ha : SlII w u xss) :
    Calls Try.prog 12 #[.agg #[.int .i64 s, .int .i64 t, u, .int .i64 bs, .int .i64 sm, .int .i64 wk], .agg #[.int .i64 k, .int .i64 x, .int .i64 v]] w fun e w' => e = .returned (.bool (recSvOk s t xss bs sm wk k x v)) ∧ Below w.heap.size w w' := by
  have bb : Below w.heap.size w ((w.alloc (svObj s t u bs sm wk)).alloc (.cells #[.int .i64 k, .int .i64 x, .int .i64 v] 42)) := ((Below.refl _ _).alloc (Nat.le_refl _) _).alloc (by simp) _
  have K := Lib.hid (ImplValidService_any s t bs sm wk _ (ha.below bb))
  obtain ⟨a, ca, us, rfl, _, _, _, _, _⟩ := ha
  generalize hq : serviceOk s t xss bs sm wk = q at K
  cases q
  · have HD : Hid (recSvOk s t xss bs sm wk k x v = false) := by unfold Hid recSvOk; rw [hq]; rfl
    clear hq
    go_enter Try.func12, Try.ntmps12
    go_wp2_with fail
    refine (K.out).mono ?_
    rintro e w1 ⟨rfl, b1⟩
    go_wp2
    go_ret
    exact ⟨rbf HD.out, bb.trans (b1.mono (by simp <;> omega))⟩
  · have hp := serviceOk_parts hq
    have hcp := chainOk_parts hp.1
    have HD : Hid (recSvOk s t xss bs sm wk k x v = recOk s sm k x v) := by unfold Hid recSvOk; rw [hq]; rfl
    have hs1 : 1 ≤ s := hcp.1.1
    have hs2 : s ≤ 6 := hcp.1.2
    have hm1 : 1 ≤ sm := hp.2.1.1
    have hm2 : sm ≤ 8 := hp.2.1.2
    clear hq hp hcp
    go_enter Try.func12, Try.ntmps12
    go_wp2_with fail
    refine (K.out).mono ?_
    rintro e w1 ⟨rfl, b1⟩
    have r0 := b1.cell (p := ⟨w.heap.size + 1, 0, none⟩) (by simp <;> omega)
    have r1 := b1.cell (p := ⟨w.heap.size + 1, 1, none⟩) (by simp <;> omega)
    have r2 := b1.cell (p := ⟨w.heap.size + 1, 2, none⟩) (by simp <;> omega)
    have q0 := b1.cell (p := ⟨w.heap.size, 0, none⟩) (by simp <;> omega)
    have q1 := b1.cell (p := ⟨w.heap.size, 1, none⟩) (by simp <;> omega)
    have q2 := b1.cell (p := ⟨w.heap.size, 2, none⟩) (by simp <;> omega)
    have q3 := b1.cell (p := ⟨w.heap.size, 3, none⟩) (by simp <;> omega)
    have q4 := b1.cell (p := ⟨w.heap.size, 4, none⟩) (by simp <;> omega)
    have q5 := b1.cell (p := ⟨w.heap.size, 5, none⟩) (by simp <;> omega)
    simp [go_sem, svObj] at r0 r1 r2 q0 q1 q2 q3 q4 q5
    go_wp2_with fail
    refine (validRecord_any s t bs sm wk k x v _ hm1 hm2 hs1 hs2).mono ?_
    rintro e w2 ⟨rfl, b2⟩
    go_wp2
    go_ret
    exact ⟨rb HD.out.symm, bb.trans ((b1.mono (by simp <;> omega)).trans (b2.mono (by have := b1.size; simp at this; omega)))⟩
end Go.Proofs.Ytihjadffdjjogaa
namespace Go.Proofs.Ytihjadffdjjogaa
open Go.RowKit Go.Sort
def graphV (n : Int) (v : Value) : Value := .agg #[.int .i64 n, v]
end Go.Proofs.Ytihjadffdjjogaa
namespace Go.Proofs.Ytihjadffdjjogaa
open Go.RowKit Go.Sort
set_option maxHeartbeats 400000 in
theorem l00Same_any {u v : Value} {xs ys : List Int} (w : World) (ha : SlI w u xs) (hb : SlI w v ys) :
    Calls Try.prog 29 #[u, v] w fun e w' => e = .returned (.bool (decide (xs = ys))) ∧ Below w.heap.size w w' := by
  obtain ⟨a, ca, rfl, hca, hca', ha⟩ := ha
  obtain ⟨b, cb, rfl, hcb, hcb', hb⟩ := hb
  unfold maxLen at hca' hcb'
  have hm : xs.length ≤ 9223372036854775807 := by omega
  have hn : ys.length ≤ 9223372036854775807 := by omega
  clear hca hca' hcb hcb'
  by_cases hl : xs.length = ys.length
  · have HL := Lib.hid hl
    clear hl
    have h1 : ((xs.length : Int) != (ys.length : Int)) = false := by simp [HL.out]
    go_enter Try.func29, Try.ntmps29
    go_wp2
    go_loopw [5] (fun i wr => ∃ k : Nat, k ≤ xs.length ∧ i = .int .i64 k ∧ xs.take k = ys.take k ∧ Below w.heap.size w wr) (fun i _ => xs.length - (intOf i).toNat)
    case atStart => exact ⟨0, Nat.zero_le _, rfl, rfl, Below.refl _ _⟩
    case round =>
      obtain ⟨k, hk, rfl, ht, hbw⟩ := hrel
      have ha' := ha.below hbw
      have hb' := hb.below hbw
      clear ha hb
      have HT := Lib.hid ht
      clear ht
      by_cases hlt : k < xs.length
      · have hj : k < ys.length := by rw [← HL.out]; exact hlt
        obtain ⟨ba, oa, rfl, ga⟩ := ha'.one (i64s_get hlt)
        obtain ⟨bb, ob, rfl, gb⟩ := hb'.one (i64s_get hj)
        clear ha' hb'
        go_wp2_with fail
        go_quiet (fail)
        go_wp2
        · go_ret
          have hx : (xs[k] != ys[k]) = true := by assumption
          have hne : ¬ xs[k] = ys[k] := by simpa using hx
          exact ⟨rb (by simp [ne_of_get hlt hj hne]), below_drewN hbw _⟩
        · have hx : (xs[k] != ys[k]) = false := by assumption
          have he : xs[k] = ys[k] := by simpa using hx
          go_roundw
          case rel => exact ⟨k + 1, by omega, by go_num, take_eq_succ HT.out hlt hj he, below_drewN hbw _⟩
          case measure => simp [intOf]; omega
      · have ht := HT.out
        go_wp2
        go_ret
        exact ⟨rb (by symm; simp; rw [List.take_of_length_le (by omega), List.take_of_length_le (by rw [← HL.out]; omega)] at ht; exact ht), hbw⟩
  · have h1 : ((xs.length : Int) != (ys.length : Int)) = true := by simp; omega
    have HL := Lib.hid hl
    clear hl
    go_enter Try.func29, Try.ntmps29
    go_wp2
    go_ret
    exact ⟨rb (by symm; simp; intro h; exact HL.out (by rw [h])), Below.refl _ _⟩

end Go.Proofs.Ytihjadffdjjogaa
