/-
  LineGraph, both sides.
-/
import Derived.Test.YtbhhihaaiiaagaaLine
namespace Go.Proofs.Ytbhhihaaiiaagaa
open Go.RowKit Go.Sort
/-- the box of a graph's copy and the cell of the result -/
structure Two (w : World) (k : Nat) (n : Int) (v r : Value) (m : Int) : Prop where
  a : CellsAt w k [.int .i64 n, v]
  l : LineB w (k + 1) m r
  f0 : w.frozen? ⟨k + 1, 0, none⟩ = false
theorem Two.new (w : World) (n : Int) (v : Value) : Two ((w.alloc (.cells #[.int .i64 n, v] 29)).alloc (.cells #[.int .i64 0, .slice none 0 0] 29)) w.heap.size n v (.slice none 0 0) 0 := by
  have z1 : (w.alloc (.cells #[.int .i64 n, v] 29)).heap.size = w.heap.size + 1 := by simp
  refine ⟨(CellsAt.new w [.int .i64 n, v] 29).below ((Below.refl _ _).alloc (Nat.le_refl _) _), ?_, ?_⟩
  · rw [← z1]; exact ⟨CellsAt.new' _ _ _ rfl, frozen_new⟩
  · rw [← z1]; exact frozen_new
theorem Two.below {w w' : World} {k B : Nat} {n m : Int} {v r : Value} (h : Two w k n v r m) (hb : Below B w w') (hB : k + 2 ≤ B) : Two w' k n v r m :=
  ⟨⟨Nat.lt_of_lt_of_le h.a.1 hb.size, fun i u hu => by rw [hb.cell (p := ⟨k, i, none⟩) (by simp; omega)]; exact h.a.2 i u hu⟩, h.l.below hb (by omega), frozen_of_below (p := ⟨k + 1, 0, none⟩) hb (by simp; omega) h.f0⟩
theorem Two.size {w : World} {k : Nat} {n m : Int} {v r : Value} (h : Two w k n v r m) : k + 2 ≤ w.heap.size := h.l.c.1
theorem graphAt_of {w : World} {b : Nat} {n : Int} {v : Value} (h : CellsAt w b [.int .i64 n, v]) : GraphAt w b 0 n v :=
  ⟨h.1, h.get 0 _ rfl, h.get 1 _ rfl⟩
set_option maxHeartbeats 4000000 in
theorem ImplLineGraph_any {v : Value} {es : List (List Int)} (n : Int) (w : World) (ha : SlII w v es) :
    Calls Try.prog 19 #[.agg #[.int .i64 n, v]] w (FreshGC w (lineR n es)) := by
  have HA := Lib.hid (fun W (h : Below w.heap.size w W) => ha.below h)
  obtain ⟨a, ca, us, rfl, hca, hca', _⟩ := ha
  have T0 := Two.new w n (.slice a es.length ca)
  have b0 : Below w.heap.size w ((w.alloc (.cells #[.int .i64 n, .slice a es.length ca] 29)).alloc (.cells #[.int .i64 0, .slice none 0 0] 29)) := ((Below.refl _ _).alloc (Nat.le_refl _) _).alloc (by simp) _
  generalize hW2 : (w.alloc (.cells #[.int .i64 n, .slice a es.length ca] 29)).alloc (.cells #[.int .i64 0, .slice none 0 0] 29) = W2 at T0 b0
  have HW2 := Lib.hid hW2
  have TT := Lib.hid T0
  have B0 := Lib.hid b0
  generalize hR : lineR n es = R
  have HR := Lib.hid hR
  unfold lineR at hR
  generalize hg : graphOk n es = g at hR
  have HG := Lib.hid hg
  have HRR := Lib.hid hR
  have a0 := T0.a.get 0 _ rfl
  have a1 := T0.a.get 1 _ rfl
  clear hW2 T0 b0 hR hg
  skip
  go_enter Try.func19, Try.ntmps19
  go_upto_region 1 with (fail)
  rw [HW2.out]
  go_wp2_with fail
  refine (ImplValidGraph_any n _ (HA.out _ B0.out)).mono ?_
  rintro e w2 ⟨rfl, b2⟩
  rw [HG.out]
  have T1 := TT.out.below b2 TT.out.size
  have B1 := Lib.hid (B0.out.trans (b2.mono B0.out.size))
  clear a0 a1 b2
  cases g
  · obtain ⟨_, tl, f0⟩ := T1
    have f1 := tl.f
    have q0 := tl.c.get 0 _ rfl
    have q1 := tl.c.get 1 _ rfl
    have zr := tl.c.1
    clear tl
    go_wp2
    refine bodyPost_ret (v := .tuple #[.agg #[.int .i64 0, .slice none 0 0], .int .i64 1]) (by simp [results, Try.results19, go_sem, q0, q1, zr]) rfl ?_
    rw [← HRR.out]
    simp only [Bool.false_eq_true, if_false]
    exact ⟨_, rfl, OwnII.nil _ _, (B1.out.setCell (by simp) _).setCell (by simp) _⟩
  · have a0 := T1.a.get 0 _ rfl
    have a1 := T1.a.get 1 _ rfl
    by_cases h0 : es.length = 0
    · have t0 : ((es.length : Int) == 0) = true := by rw [h0]; rfl
      have H0 := Lib.hid h0
      obtain ⟨_, tl, f0⟩ := T1
      have f1 := tl.f
      have q0 := tl.c.get 0 _ rfl
      have q1 := tl.c.get 1 _ rfl
      have zr := tl.c.1
      clear tl
      go_wp2
      refine bodyPost_ret (v := .tuple #[.agg #[.int .i64 0, .slice none 0 0], .int .i64 4]) (by simp [results, Try.results19, go_sem, q0, q1, zr]) rfl ?_
      rw [← HRR.out]
      simp only [if_true, H0.out]
      exact ⟨_, rfl, OwnII.nil _ _, (B1.out.setCell (by simp) _).setCell (by simp) _⟩
    · have t0 : ((es.length : Int) == 0) = false := by rw [beq_eq_false_iff_ne]; omega
      have H0 := Lib.hid h0
      by_cases h5 : 5 < es.length
      · have t5 : (5 : Int) < (es.length : Int) := by omega
        have H5 := Lib.hid h5
        obtain ⟨_, tl, f0⟩ := T1
        have f1 := tl.f
        have q0 := tl.c.get 0 _ rfl
        have q1 := tl.c.get 1 _ rfl
        have zr := tl.c.1
        clear tl
        go_wp2
        refine bodyPost_ret (v := .tuple #[.agg #[.int .i64 0, .slice none 0 0], .int .i64 3]) (by simp [results, Try.results19, go_sem, q0, q1, zr]) rfl ?_
        rw [← HRR.out]
        simp only [if_true, H0.out, if_false, H5.out]
        exact ⟨_, rfl, OwnII.nil _ _, (B1.out.setCell (by simp) _).setCell (by simp) _⟩
      · have t5 : ¬ (5 : Int) < (es.length : Int) := by omega
        have H5 := Lib.hid h5
        obtain ⟨m, hnm, _, _, hE, hl⟩ := graphOk_all HG.out
        have HE := Lib.hid hE
        have T1H := Lib.hid T1
        clear hE hnm T1
        go_wp2_with fail
        refine (lineGraph_any m n _ (HA.out _ B1.out) HE.out hl).mono ?_
        rintro e w3 ⟨r, rfl, or, b3⟩
        obtain ⟨_, tl, f0⟩ := T1H.out.below b3 T1H.out.size
        have f1 := tl.f
        have q0 := tl.c.get 0 _ rfl
        have q1 := tl.c.get 1 _ rfl
        have zr := tl.c.1
        obtain ⟨oa, on, oc, rfl, _⟩ := or.form
        have B2 := Lib.hid (B1.out.trans (b3.mono B1.out.size))
        have OR := Lib.hid or
        have hz := T1H.out.size
        clear tl or b3 a0 a1
        go_wp2
        refine bodyPost_ret (v := .tuple #[.agg #[.int .i64 es.length, .slice oa on oc], .int .i64 0]) (by simp [results, Try.results19, go_sem, q0, q1, zr]) rfl ?_
        rw [← HRR.out]
        simp only [if_true, H0.out, if_false, H5.out]
        exact ⟨_, rfl, ((OR.out.setLow (by simp; omega) _).setLow (by simp; omega) _).lower B1.out.size, (B2.out.setCell (by simp) _).setCell (by simp) _⟩
theorem l00Has_q {u : Value} {xs : List Int} {x : Int} {q : Bool} (h : decide (x ∈ xs) = q) (w : World) (ha : SlI w u xs) :
    Calls Try.prog 32 #[u, .int .i64 x] w fun e w' => e = .returned (.bool q) ∧ Below w.heap.size w w' :=
  (l00Has_any x w ha).mono fun e w' ⟨h1, h2⟩ => ⟨by rw [h1, h], by rw [h2]; exact Below.refl _ _⟩
set_option maxRecDepth 100000 in
set_option maxHeartbeats 8000000 in
theorem SpecLineGraph_any {v : Value} {es : List (List Int)} (n : Int) (w : World) (ha : SlII w v es) :
    Calls Try.prog 20 #[.agg #[.int .i64 n, v]] w (FreshGC w (lineR n es)) := by
  have HA := Lib.hid (fun W (h : Below w.heap.size w W) => ha.below h)
  obtain ⟨a, ca, us, rfl, hca, hca', hul, hrd, hrow⟩ := ha
  unfold maxLen at hca'
  have HG2 := Lib.hid (fun W (h : Below w.heap.size w W) => And.intro (hrd.below h) (fun i hi u hu => (hrow i hi u hu).below h))
  have HU := Lib.hid hul
  clear hrd hrow hul
  have T0 := Two.new w n (.slice a es.length ca)
  have b0 : Below w.heap.size w ((w.alloc (.cells #[.int .i64 n, .slice a es.length ca] 29)).alloc (.cells #[.int .i64 0, .slice none 0 0] 29)) := ((Below.refl _ _).alloc (Nat.le_refl _) _).alloc (by simp) _
  generalize hW2 : (w.alloc (.cells #[.int .i64 n, .slice a es.length ca] 29)).alloc (.cells #[.int .i64 0, .slice none 0 0] 29) = W2 at T0 b0
  have HW2 := Lib.hid hW2
  have TT := Lib.hid T0
  have B0 := Lib.hid b0
  generalize hR : lineR n es = R
  have HR := Lib.hid hR
  unfold lineR at hR
  generalize hg : graphOk n es = g at hR
  have HG := Lib.hid hg
  have HRR := Lib.hid hR
  have a0 := T0.a.get 0 _ rfl
  have a1 := T0.a.get 1 _ rfl
  clear hW2 T0 b0 hR hg
  go_enter Try.func20, Try.ntmps20
  go_upto_region 1 with (fail)
  rw [HW2.out]
  go_wp2_with fail
  refine (l08Ok_any w.heap.size 0 n _ (graphAt_of TT.out.a) (HA.out _ B0.out)).mono ?_
  rintro e w2 ⟨rfl, b2⟩
  rw [HG.out]
  have T1 := TT.out.below b2 TT.out.size
  have B1 := Lib.hid (B0.out.trans (b2.mono B0.out.size))
  clear a0 a1 b2
  cases g
  · obtain ⟨_, tl, f0⟩ := T1
    have f1 := tl.f
    have q0 := tl.c.get 0 _ rfl
    have q1 := tl.c.get 1 _ rfl
    have zr := tl.c.1
    clear tl
    go_wp2
    refine bodyPost_ret (v := .tuple #[.agg #[.int .i64 0, .slice none 0 0], .int .i64 1]) (by simp [results, Try.results20, go_sem, q0, q1, zr]) rfl ?_
    rw [← HRR.out]
    simp only [Bool.false_eq_true, if_false]
    exact ⟨_, rfl, OwnII.nil _ _, (B1.out.setCell (by simp) _).setCell (by simp) _⟩
  · have a0 := T1.a.get 0 _ rfl
    have a1 := T1.a.get 1 _ rfl
    by_cases h0 : es.length = 0
    · have t0 : ((es.length : Int) == 0) = true := by rw [h0]; rfl
      have H0 := Lib.hid h0
      obtain ⟨_, tl, f0⟩ := T1
      have f1 := tl.f
      have q0 := tl.c.get 0 _ rfl
      have q1 := tl.c.get 1 _ rfl
      have zr := tl.c.1
      clear tl
      go_wp2
      refine bodyPost_ret (v := .tuple #[.agg #[.int .i64 0, .slice none 0 0], .int .i64 4]) (by simp [results, Try.results20, go_sem, q0, q1, zr]) rfl ?_
      rw [← HRR.out]
      simp only [if_true, H0.out]
      exact ⟨_, rfl, OwnII.nil _ _, (B1.out.setCell (by simp) _).setCell (by simp) _⟩
    · have t0 : ((es.length : Int) == 0) = false := by rw [beq_eq_false_iff_ne]; omega
      have H0 := Lib.hid h0
      by_cases h5 : 5 < es.length
      · have t5 : (5 : Int) < (es.length : Int) := by omega
        have H5 := Lib.hid h5
        obtain ⟨_, tl, f0⟩ := T1
        have f1 := tl.f
        have q0 := tl.c.get 0 _ rfl
        have q1 := tl.c.get 1 _ rfl
        have zr := tl.c.1
        clear tl
        go_wp2
        refine bodyPost_ret (v := .tuple #[.agg #[.int .i64 0, .slice none 0 0], .int .i64 3]) (by simp [results, Try.results20, go_sem, q0, q1, zr]) rfl ?_
        rw [← HRR.out]
        simp only [if_true, H0.out, if_false, H5.out]
        exact ⟨_, rfl, OwnII.nil _ _, (B1.out.setCell (by simp) _).setCell (by simp) _⟩
      · have t5 : ¬ (5 : Int) < (es.length : Int) := by omega
        have H5 := Lib.hid h5
        obtain ⟨m, hnm, _, _, hE, hl⟩ := graphOk_all HG.out
        have HE := Lib.hid hE
        have T1H := Lib.hid T1
        have a1f := T1.a
        clear hE hnm T1
        obtain ⟨W3, hW3⟩ : ∃ W3, W3 = w2.alloc (.cells #[.int .i64 es.length, .slice none 0 0] 29) := ⟨_, rfl⟩
        have b3 : Below w2.heap.size w2 W3 := by rw [hW3]; exact (Below.refl _ _).alloc (by omega) _
        have k3 : LineB W3 w2.heap.size es.length (.slice none 0 0) := by rw [hW3]; exact ⟨CellsAt.new' _ _ _ rfl, frozen_new⟩
        have HW3 := Lib.hid hW3
        have B3 := Lib.hid b3
        have K3 := Lib.hid k3
        have O0 := Lib.hid (show OwnII W3 (w2.heap.size + 1) (.slice none 0 0) (allE es 0) from OwnII.nil _ _)
        have hzz := T1H.out.size
        have hz1 := B1.out.size
        clear hW3 b3 k3
        go_wp2
        rw [← HW3.out]
        clear a0 a1 a1f
        go_loopw [5, 6] (fun i _ wr => ∃ (k : Nat) (v : Value), k ≤ es.length ∧ i = .int .i64 k ∧ LineB wr w2.heap.size es.length v ∧ OwnII wr (w2.heap.size + 1) v (allE es k) ∧ Below w2.heap.size W3 wr) (fun i _ _ => es.length - (intOf i).toNat)
        case atStart => exact ⟨0, _, Nat.zero_le _, rfl, K3.out, O0.out, Below.refl _ _⟩
        case round =>
          obtain ⟨k, v, hk, rfl, hline, hown, hbr⟩ := hrel
          have x0 := hline.c.get 0 _ rfl
          have x1 := hline.c.get 1 _ rfl
          have hb2 := B3.out.trans hbr
          by_cases hlt : k < es.length
          · have i1 : (k : Int) < (es.length : Int) := by omega
            have i0 : (0 : Int) ≤ (k : Int) := by omega
            have HL := Lib.hid hline
            have HO := Lib.hid hown
            have HBR := Lib.hid hbr
            have ak := allE_len es k
            have akk : k * es.length ≤ 24 * 25 := Nat.mul_le_mul (by omega) hl
            have AK := Lib.hid (Nat.le_trans ak akk)
            clear hline hown hbr ak akk hb2
            go_wp2
            go_loopw [6] (fun j wr => ∃ (q : Nat) (v' : Value), k + 1 ≤ q ∧ q ≤ es.length ∧ j = .int .i64 q ∧ LineB wr w2.heap.size es.length v' ∧ OwnII wr (w2.heap.size + 1) v' (allE es k ++ rowE es k q) ∧ Below w2.heap.size W3 wr) (fun j _ => es.length - (intOf j).toNat)
            case atStart => exact ⟨k + 1, _, Nat.le_refl _, by omega, by go_num, HL.out, by rw [rowE_start, List.append_nil]; exact HO.out, HBR.out⟩
            case round =>
              clear x0 x1 HL HO HBR
              obtain ⟨q, v', hkq, hql, rfl, hline, hown, hbr⟩ := hrel
              have x0 := hline.c.get 0 _ rfl
              have x1 := hline.c.get 1 _ rfl
              have hb2 := B3.out.trans hbr
              have hbw := B1.out.trans (hb2.mono hz1)
              have k1 := T1H.out.below hb2 hzz
              have c0 := k1.a.get 0 _ rfl
              have c1 := k1.a.get 1 _ rfl
              have HL := Lib.hid hline
              have HO := Lib.hid hown
              have HBR := Lib.hid hbr
              clear k1
              by_cases hqt : q < es.length
              · obtain ⟨x, b, off, rfl, gk, sx⟩ := SlII.row HU.out (HG2.out _ hbw).1 (HG2.out _ hbw).2 hlt
                obtain ⟨y, b', off', he', gq, sy⟩ := SlII.row HU.out (HG2.out _ hbw).1 (HG2.out _ hbw).2 hqt
                simp only [Option.some.injEq, Addr.mk.injEq] at he'
                obtain ⟨rfl, rfl, _⟩ := he'
                obtain ⟨e0, e1, he, _, _⟩ := HE.out es[q] (List.getElem_mem hqt)
                rw [he] at sy
                have hsh : shareL (es.getD k []) (es.getD q []) = (decide ((e0 : Int) ∈ es[k]) || decide ((e1 : Int) ∈ es[k])) := by rw [getD_at hlt, getD_at hqt, he]; rfl
                generalize hd1 : decide ((e0 : Int) ∈ es[k]) = d1 at hsh
                generalize hd2 : decide ((e1 : Int) ∈ es[k]) = d2 at hsh
                have H1 := Lib.hid hd1
                have H2 := Lib.hid hd2
                have HSH := Lib.hid hsh
                have SX := Lib.hid sx
                have i2 : (q : Int) < (es.length : Int) := by omega
                have i3 : (0 : Int) ≤ (q : Int) := by omega
                obtain ⟨xa, xc, rfl, _⟩ := id sx
                obtain ⟨ya, yc, hye, _, _, ur⟩ := sy
                simp only [List.length_cons, List.length_nil, Nat.zero_add] at hye
                subst hye
                obtain ⟨eb, eo, rfl, g0⟩ := ur.one (i64s_get (j := 0) (by simp))
                obtain ⟨eb', eo', he2, g1⟩ := ur.one (i64s_get (j := 1) (by simp))
                simp only [Option.some.injEq, Addr.mk.injEq] at he2
                obtain ⟨rfl, rfl, _⟩ := he2
                simp only [Nat.add_zero, List.getElem_cons_zero, List.getElem_cons_succ] at g0 g1
                have kc0 := fun d os => cell_regrown c0 d os
                have kc1 := fun d os => cell_regrown c1 d os
                have kgk := fun d os => cell_regrown gk d os
                have kgq := fun d os => cell_regrown gq d os
                have kg0 := fun d os => cell_regrown g0 d os
                have kg1 := fun d os => cell_regrown g1 d os
                have hlw := hline.c.1
                have HLW := Lib.hid hlw
                clear hsh hd1 hd2 he hline hown hbr ur sx hb2
                cases d1 <;> cases d2
                all_goals
                  go_wp2_with fail
                  refine wp_region_quiet_below (by kernel_rfl) (by kernel_rfl) ?_
                  repeat (first | go_big_quiet_skip | quiet_step (first | (with_reducible exact Calls.regrown_of (l00Has_q H1.out _ (SX.out.below (below_regrown _ _ _)))) | (with_reducible exact Calls.regrown_of (l00Has_q H2.out _ (SX.out.below (below_regrown _ _ _))))))
                  refine wpQuiet_nil ?_
                  intro _ hw'
                  obtain ⟨⟨dq, osq⟩, hw''⟩ := hw'
                  subst hw''
                  have bq0 := below_regrown wr dq osq
                  generalize grow (redrawn wr dq) osq = wq at bq0 ⊢
                  have HL2 := Lib.hid (HL.out.below bq0 HLW.out)
                  have HO2 := Lib.hid (HO.out.below bq0)
                  have HB2 := Lib.hid (HBR.out.trans (bq0.mono (by have := HLW.out; omega)))
                  have hzq := HL2.out.c.1
                  have p0 := HL2.out.c.get 0 _ rfl
                  have p1 := HL2.out.c.get 1 _ rfl
                  clear kc0 kc1 kgk kgq kg0 kg1 g0 g1 gk gq c0 c1 bq0 hbw x0 x1
                  first
                    | (have hno := Lib.hid (rowE_no (HSH.out.trans (show (false || false) = false from rfl)))
                       go_wp2
                       go_roundw
                       case rel => exact ⟨q + 1, _, by omega, by omega, by go_num, HL2.out, by rw [hno.out]; exact HO2.out, HB2.out⟩
                       case measure => simp [intOf]; omega)
                    | (have hrl := rowE_len es k q
                       have HLN := Lib.hid (show (allE es k ++ rowE es k q).length < 16777216 by have := AK.out; rw [List.length_append]; omega)
                       clear hrl
                       go_wp2_with (at_builtin; refine append_row wq _ _ _ rfl rfl rfl HO2.out ((Below.refl _ _).alloc (Nat.le_refl _) _) (OwnI.two wq (Nat.le_refl _) (k : Int) (q : Int)) (by simp [go_sem]) HLN.out (by omega) ?_)
                       intro v5 w5 o5 b5 z5
                       have hb5 : Below (w2.heap.size + 1) wq w5 := ((((Below.refl wq.heap.size wq).alloc (Nat.le_refl _) _).alloc (by simp) _).mono (by omega)).trans b5
                       have l5 := HL2.out.below hb5 (by omega)
                       have f5 := l5.f
                       have r5 := l5.c.get 1 _ rfl
                       have r50 := l5.c.get 0 _ rfl
                       have s5 := l5.c.1
                       obtain ⟨oa, on, oc, rfl, _⟩ := o5.form
                       rw [← rowE_yes (by omega) (HSH.out.trans (by simp))] at o5
                       have L5 := Lib.hid l5
                       have O5 := Lib.hid o5
                       have B5 := Lib.hid (HB2.out.trans (hb5.mono (by omega)))
                       clear l5 o5 hb5 b5 p0 p1 z5
                       go_wp2
                       go_roundw
                       case rel => exact ⟨q + 1, _, by omega, by omega, by go_num, L5.out.set _, O5.out.setLow (by simp) _, B5.out.setCell (by simp) _⟩
                       case measure => simp [intOf]; omega)
              · obtain rfl : q = es.length := by omega
                rw [← allE_succ] at hown
                have HO2 := Lib.hid hown
                clear hline hown hbr
                go_wp2
                go_roundw
                case rel => exact ⟨k + 1, _, by omega, by go_num, HL.out, HO2.out, HBR.out⟩
                case measure => simp [intOf]; omega
          · obtain rfl : k = es.length := by omega
            obtain ⟨_, tl, f0⟩ := T1H.out.below hb2 hzz
            have f1 := tl.f
            have q0 := tl.c.get 0 _ rfl
            have q1 := tl.c.get 1 _ rfl
            have zr := tl.c.1
            obtain ⟨oa, on, oc, rfl, _⟩ := hown.form
            have HO := Lib.hid hown
            have HB2 := Lib.hid (B1.out.trans (hb2.mono hz1))
            clear tl hown hline hbr hb2
            go_wp2
            refine bodyPost_ret (v := .tuple #[.agg #[.int .i64 es.length, .slice oa on oc], .int .i64 0]) (by simp [results, Try.results20, go_sem, q0, q1, zr]) rfl ?_
            rw [← HRR.out]
            simp only [if_true, H0.out, if_false, H5.out]
            exact ⟨_, rfl, ((HO.out.setLow (by simp; omega) _).setLow (by simp; omega) _).lower (by omega), (HB2.out.setCell (by simp) _).setCell (by simp) _⟩
end Go.Proofs.Ytbhhihaaiiaagaa
