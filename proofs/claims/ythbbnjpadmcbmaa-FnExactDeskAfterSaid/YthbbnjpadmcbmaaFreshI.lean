/-
  A desk at first, the program's: both lists grow in one statement, in whatever order.
-/
import Derived.Test.YthbbnjpadmcbmaaFresh
namespace Go.Proofs.Ythbbnjpadmcbmaa
open Go.RowKit Go.Sort
theorem step_append2 {ops : Array Oper} {o : Oper} {a : Act} {K : Act → World → Prop} {Q : Exit → Act → World → Prop} {E : Prop} {w : World} {w0 : World} (hgd : o.guard = none) (s x : Operand)
    (ho : o.op = .call { callee := .builtin .append, args := #[s, x], argTypes := #[30, 30] })
    {base : Nat} {v : Value} {xs : List Int} {y : Int} {g : Nat} (hbw : Below w0.heap.size w0 w) (hs : a.eval s = v) (hown : OwnI w0 base v xs) (hx : a.eval x = .slice (some ⟨g, 0, none⟩) 1 1) (hc : w.cell? ⟨g, 0, none⟩ = some (.int .i64 y)) (hlen : xs.length ≤ 1000) (hbase : base ≤ w0.heap.size)
    (h : ∀ v' w', Below w0.heap.size w0 w → OwnI w base v xs → OwnI w' base v' (xs ++ [y]) → w.grownBy w' v.ownBlock → K (a.put o.dst v') w') : if Region.wanted o (yielded ops a.tmps) = true then Oper.wp Try.prog o a w K Q else E :=
  step_append1 w hgd s x ho hs (hown.below hbw) hx hc hlen (Nat.le_trans hbase hbw.size) (fun v' w' h1 h2 => h v' w' hbw (hown.below hbw) h1 h2)
set_option maxHeartbeats 8000000 in
theorem newDesk_any {a : Option Addr} {c m n : Nat} (s t bs wk : Int) (w : World) (hn : n ≤ 100) :
    Calls Try.prog 133 #[.agg #[.int .i64 s, .int .i64 t, .slice a m c, .int .i64 bs, .int .i64 n, .int .i64 wk]] w (FreshP w n) := by
  have bS : Below w.heap.size w (w.alloc (.cells #[.int .i64 s, .int .i64 t, .slice a m c, .int .i64 bs, .int .i64 n, .int .i64 wk] 37)) := (Below.refl _ _).alloc (Nat.le_refl _) _
  have XS := svBox w s t (.slice a m c) bs n wk
  have bA : Below w.heap.size w ((w.alloc (.cells #[.int .i64 s, .int .i64 t, .slice a m c, .int .i64 bs, .int .i64 n, .int .i64 wk] 37)).alloc (.cells #[.slice none 0 0, .slice none 0 0, .int .i64 0] 32)) := bS.alloc bS.size _
  have HSV := Lib.hid (fun W (h : Below ((w.alloc (.cells #[.int .i64 s, .int .i64 t, .slice a m c, .int .i64 bs, .int .i64 n, .int .i64 wk] 37)).alloc (.cells #[.slice none 0 0, .slice none 0 0, .int .i64 0] 32)).heap.size ((w.alloc (.cells #[.int .i64 s, .int .i64 t, .slice a m c, .int .i64 bs, .int .i64 n, .int .i64 wk] 37)).alloc (.cells #[.slice none 0 0, .slice none 0 0, .int .i64 0] 32)) W) => (XS.below ((Below.refl _ _).alloc (Nat.le_refl _) (.cells #[.slice none 0 0, .slice none 0 0, .int .i64 0] 32))).below h)
  have hbx : Box (((w.alloc (.cells #[.int .i64 s, .int .i64 t, .slice a m c, .int .i64 bs, .int .i64 n, .int .i64 wk] 37)).alloc (.cells #[.slice none 0 0, .slice none 0 0, .int .i64 0] 32)).alloc (.cells #[.slice none 0 0, .slice none 0 0, .int .i64 0] 32)) (w.heap.size + 2) (.slice none 0 0) (.slice none 0 0) := by
    refine ⟨by simp, ?_, ?_, ?_, ?_, ?_⟩ <;> simp [go_sem]
  have HBX := Lib.hid hbx
  have QW := Lib.hid (fun W (h : Below ((w.alloc (.cells #[.int .i64 s, .int .i64 t, .slice a m c, .int .i64 bs, .int .i64 n, .int .i64 wk] 37)).alloc (.cells #[.slice none 0 0, .slice none 0 0, .int .i64 0] 32)).heap.size ((w.alloc (.cells #[.int .i64 s, .int .i64 t, .slice a m c, .int .i64 bs, .int .i64 n, .int .i64 wk] 37)).alloc (.cells #[.slice none 0 0, .slice none 0 0, .int .i64 0] 32)) W) =>
    show (W.cell? ⟨w.heap.size + 1, 0, none⟩ = some (.slice none 0 0) ∧ W.cell? ⟨w.heap.size + 1, 1, none⟩ = some (.slice none 0 0) ∧ W.cell? ⟨w.heap.size + 1, 2, none⟩ = some (.int .i64 0)) ∧ W.frozen? ⟨w.heap.size + 1, 0, none⟩ = false ∧ W.frozen? ⟨w.heap.size + 1, 1, none⟩ = false ∧ W.frozen? ⟨w.heap.size + 1, 2, none⟩ = false from by
      have a0 := h.cell (p := ⟨w.heap.size + 1, 0, none⟩) (by simp)
      have a1 := h.cell (p := ⟨w.heap.size + 1, 1, none⟩) (by simp)
      have a2 := h.cell (p := ⟨w.heap.size + 1, 2, none⟩) (by simp)
      have f0 := h.frozen (p := ⟨w.heap.size + 1, 0, none⟩) (by simp)
      have f1 := h.frozen (p := ⟨w.heap.size + 1, 1, none⟩) (by simp)
      have f2 := h.frozen (p := ⟨w.heap.size + 1, 2, none⟩) (by simp)
      simp [go_sem] at a0 a1 a2 f0 f1 f2
      exact ⟨⟨a0, a1, a2⟩, f0, f1, f2⟩)
  clear hbx XS bS
  go_enter Try.func133, Try.ntmps133
  go_wp2
  go_loopw [7] (fun i wr => ∃ (k : Nat) (vl vr : Value), k ≤ n ∧ i = .int .i64 k ∧ Box wr (w.heap.size + 2) vl vr ∧ Pair wr (w.heap.size + 3) k vl vr ∧ Below ((w.alloc (.cells #[.int .i64 s, .int .i64 t, .slice a m c, .int .i64 bs, .int .i64 n, .int .i64 wk] 37)).alloc (.cells #[.slice none 0 0, .slice none 0 0, .int .i64 0] 32)).heap.size ((w.alloc (.cells #[.int .i64 s, .int .i64 t, .slice a m c, .int .i64 bs, .int .i64 n, .int .i64 wk] 37)).alloc (.cells #[.slice none 0 0, .slice none 0 0, .int .i64 0] 32)) wr) (fun i _ => n - (intOf i).toNat)
  case atStart => exact ⟨0, _, _, Nat.zero_le _, rfl, HBX.out, ⟨OwnI.nil _ _, OwnI.nil _ _, fun _ => ⟨rfl, rfl⟩⟩, (Below.refl _ _).alloc (Nat.le_refl _) _⟩
  case round =>
    obtain ⟨k, vl, vr, hk, rfl, hbox, hpair, hbr⟩ := hrel
    obtain ⟨zl, x0, x1, x2, xf0, xf1⟩ := id hbox
    obtain ⟨la, lc, rfl⟩ := rep_form' hpair.ol
    obtain ⟨ra, rc, rfl⟩ := rep_form' hpair.or_
    by_cases hlt : k < n
    · have i1 : (k : Int) < (n : Int) := by omega
      have HP := Lib.hid hpair
      have HB := Lib.hid hbox
      have HBR := Lib.hid hbr
      have hz : w.heap.size + 3 ≤ wr.heap.size := by omega
      have zl' : w.heap.size + 1 < wr.heap.size := by omega
      have hzb : w.heap.size + 2 < w.heap.size + 3 := by omega
      have hzz : ((w.alloc (.cells #[.int .i64 s, .int .i64 t, .slice a m c, .int .i64 bs, .int .i64 n, .int .i64 wk] 37)).alloc (.cells #[.slice none 0 0, .slice none 0 0, .int .i64 0] 32)).heap.size ≤ w.heap.size + 3 := by simp
      have hln : (List.replicate k (0 : Int)).length ≤ 1000 := by simp; omega
      have hln2 : (List.replicate k (-1 : Int)).length ≤ 1000 := by simp; omega
      have HL0 := Lib.hid hln
      have HL1 := Lib.hid hln2
      clear hln hln2 hpair hbox hbr
      go_wp2_with fail
      go_region_law? (first
        | (refine step_append2 (w0 := wr) rfl (.tmp 10) (.tmp 11) rfl (y := 0) (base := w.heap.size + 3) (g := wr.heap.size) (by (repeat (first | exact Below.refl _ _ | refine Below.drew ?_ | refine Below.alloc ?_ (by simp) _))) (by first | (simp [Act.eval, Act.put]; done) | fail) HP.out.ol (by first | (simp [Act.eval, Act.put]; done) | fail) (by first | (simp [go_sem]; done) | fail) HL0.out (by omega) ?_; intro v1 w1 bA1 q1 o1 g1; rw [rep_snoc] at o1; have bl1 := (bA1.mono hz).trans (q1.grown g1 (Nat.le_trans hz bA1.size)); have hw1 := HBR.out.trans (bl1.mono hzz); have bx1 := HB.out.below hzb bl1; have hz1 := Nat.le_trans hz bl1.size; have r1 := (HP.out.below bA1).step1 g1; have gz := Nat.le_trans bA1.size g1.size; obtain ⟨ga, gc, rfl⟩ := rep_form o1; obtain ⟨zl1, y0, y1, y2, yf0, yf1⟩ := id bx1; have zl1' : w.heap.size + 1 < w1.heap.size := Nat.lt_of_lt_of_le (Nat.lt_succ_self _) (Nat.le_of_lt zl1))
        | (refine step_append2 (w0 := wr) rfl (.tmp 10) (.tmp 11) rfl (y := 0) (base := w.heap.size + 3) (g := wr.heap.size + 1) (by (repeat (first | exact Below.refl _ _ | refine Below.drew ?_ | refine Below.alloc ?_ (by simp) _))) (by first | (simp [Act.eval, Act.put]; done) | fail) HP.out.ol (by first | (simp [Act.eval, Act.put]; done) | fail) (by first | (simp [go_sem]; done) | fail) HL0.out (by omega) ?_; intro v1 w1 bA1 q1 o1 g1; rw [rep_snoc] at o1; have bl1 := (bA1.mono hz).trans (q1.grown g1 (Nat.le_trans hz bA1.size)); have hw1 := HBR.out.trans (bl1.mono hzz); have bx1 := HB.out.below hzb bl1; have hz1 := Nat.le_trans hz bl1.size; have r1 := (HP.out.below bA1).step1 g1; have gz := Nat.le_trans bA1.size g1.size; obtain ⟨ga, gc, rfl⟩ := rep_form o1; obtain ⟨zl1, y0, y1, y2, yf0, yf1⟩ := id bx1; have zl1' : w.heap.size + 1 < w1.heap.size := Nat.lt_of_lt_of_le (Nat.lt_succ_self _) (Nat.le_of_lt zl1))
        | (refine step_append2 (w0 := w1) rfl (.tmp 14) (.tmp 15) rfl (y := -1) (g := w1.heap.size) (base := w.heap.size + 3) (xs := List.replicate k (-1)) (by (repeat (first | exact Below.refl _ _ | refine Below.drew ?_ | refine Below.alloc ?_ (by simp) _))) (by first | (simp [Act.eval, Act.put]; done) | fail) r1 (by first | (simp [Act.eval, Act.put]; done) | fail) (by first | (simp [go_sem]; done) | fail) HL1.out (by omega) ?_; intro v2 w2 bB1 q2 o2 g2; rw [rep_snoc] at o2; have p2 := Pair.step2 (o1.below bB1) q2 (fun h => (HP.out.nil h).2) g2 o2; have bl2 := (bB1.mono hz1).trans (q2.grown g2 (Nat.le_trans hz1 bB1.size)); have bx2 := bx1.below hzb bl2; have hw2 := hw1.trans (bl2.mono hzz); have hz2 := Nat.le_trans hz1 bl2.size; obtain ⟨gb, gd, rfl⟩ := rep_form o2; obtain ⟨zl2, t0, t1, t2, tf0, tf1⟩ := id bx2)
        | (refine step_append2 (w0 := w1) rfl (.tmp 14) (.tmp 15) rfl (y := -1) (g := wr.heap.size) (base := w.heap.size + 3) (xs := List.replicate k (-1)) (by (repeat (first | exact Below.refl _ _ | refine Below.drew ?_ | refine Below.alloc ?_ (by simp) _))) (by first | (simp [Act.eval, Act.put]; done) | fail) r1 (by first | (simp [Act.eval, Act.put]; done) | fail) (by (try simp [go_sem]); rw [grown_cell g1 (g := wr.heap.size) (by first | (simp; done) | (simp; omega)) (by intro e; have := ((HP.out.below bA1).lt).1 _ e.symm; have := HP.out.lt.1 _ e.symm; omega)]; first | (simp [go_sem]; done) | fail) HL1.out (by omega) ?_; intro v2 w2 bB1 q2 o2 g2; rw [rep_snoc] at o2; have p2 := Pair.step2 (o1.below bB1) q2 (fun h => (HP.out.nil h).2) g2 o2; have bl2 := (bB1.mono hz1).trans (q2.grown g2 (Nat.le_trans hz1 bB1.size)); have bx2 := bx1.below hzb bl2; have hw2 := hw1.trans (bl2.mono hzz); have hz2 := Nat.le_trans hz1 bl2.size; obtain ⟨gb, gd, rfl⟩ := rep_form o2; obtain ⟨zl2, t0, t1, t2, tf0, tf1⟩ := id bx2)
        | (refine step_append2 (w0 := w1) rfl (.tmp 14) (.tmp 15) rfl (y := -1) (g := wr.heap.size + 1) (base := w.heap.size + 3) (xs := List.replicate k (-1)) (by (repeat (first | exact Below.refl _ _ | refine Below.drew ?_ | refine Below.alloc ?_ (by simp) _))) (by first | (simp [Act.eval, Act.put]; done) | fail) r1 (by first | (simp [Act.eval, Act.put]; done) | fail) (by (try simp [go_sem]); rw [grown_cell g1 (g := wr.heap.size + 1) (by first | (simp; done) | (simp; omega)) (by intro e; have := ((HP.out.below bA1).lt).1 _ e.symm; have := HP.out.lt.1 _ e.symm; omega)]; first | (simp [go_sem]; done) | fail) HL1.out (by omega) ?_; intro v2 w2 bB1 q2 o2 g2; rw [rep_snoc] at o2; have p2 := Pair.step2 (o1.below bB1) q2 (fun h => (HP.out.nil h).2) g2 o2; have bl2 := (bB1.mono hz1).trans (q2.grown g2 (Nat.le_trans hz1 bB1.size)); have bx2 := bx1.below hzb bl2; have hw2 := hw1.trans (bl2.mono hzz); have hz2 := Nat.le_trans hz1 bl2.size; obtain ⟨gb, gd, rfl⟩ := rep_form o2; obtain ⟨zl2, t0, t1, t2, tf0, tf1⟩ := id bx2)
        | fail "no arm")
      all_goals
        go_wp2
        go_roundw
        case rel => exact ⟨k + 1, _, _, by omega, by go_num, (bx2.set0 _).set1 _, (p2.setBelow (by simp) _).setBelow (by simp) _, (hw2.setCell (by simp) _).setCell (by simp) _⟩
        case measure => simp [intOf]; omega
    · obtain rfl : k = n := by omega
      obtain ⟨⟨q0, q1, q2⟩, qf0, qf1, qf2⟩ := QW.out _ hbr
      go_wp2
      refine bodyPost_ret (v := deskV (.slice la k lc) (.slice ra k rc) 0) (by simp [results, Try.results133, go_sem, deskV, q0, q1, q2]) rfl ⟨_, _, rfl, ?_, ?_⟩
      · exact (((hpair.setBelow (by simp) _).setBelow (by simp) _).setBelow (by simp) _).lower (by omega)
      · exact ((((bA.trans (hbr.mono bA.size))).setCell (by simp) _).setCell (by simp) _).setCell (by simp) _
end Go.Proofs.Ythbbnjpadmcbmaa
