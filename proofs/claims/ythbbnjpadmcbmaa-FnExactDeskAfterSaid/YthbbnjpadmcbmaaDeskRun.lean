/-
  A desk's run over a journal: the program's deskAfter.
-/
import Derived.Test.YthbbnjpadmcbmaaDeskLaw
namespace Go.Proofs.Ythbbnjpadmcbmaa
open Go.RowKit Go.Sort
theorem DeskIs.of_pair {w : World} {B n : Nat} {vl vr : Value} (h : Pair w B n vl vr) (hn : 1 ≤ n) : ∃ gl cl gr cr, vl = .slice (some ⟨gl, 0, none⟩) n cl ∧ vr = .slice (some ⟨gr, 0, none⟩) n cr ∧ gl ≠ gr ∧ B ≤ gl ∧ B ≤ gr ∧ gl < w.heap.size ∧ gr < w.heap.size ∧
    DeskIs (w.alloc (.cells #[vl, vr, .int .i64 0] 32)) B w.heap.size 0 gl cl gr cr (List.replicate n 0) (List.replicate n (-1)) 0 := by
  obtain ⟨k, rfl⟩ : ∃ k, n = k + 1 := ⟨n - 1, by omega⟩
  obtain ⟨gl, cl, rfl⟩ := rep_form h.ol
  obtain ⟨gr, cr, rfl⟩ := rep_form h.or_
  have l1 := h.lt.1 gl rfl
  have l2 := h.lt.2 gr rfl
  have hne : gl ≠ gr := fun e => h.ne (g := gl) rfl (by simp [Value.ownBlock, e])
  have ba : Below w.heap.size w (w.alloc (.cells #[.slice (some ⟨gl, 0, none⟩) (k + 1) cl, .slice (some ⟨gr, 0, none⟩) (k + 1) cr, .int .i64 0] 32)) := (Below.refl _ _).alloc (Nat.le_refl _) _
  refine ⟨gl, cl, gr, cr, rfl, rfl, hne, l1.1, l2.1, l1.2, l2.2, ⟨?_, ?_, ?_, by simp, hne, by omega, by omega⟩⟩
  · unfold DeskAt
    simp only [List.length_replicate]
    refine ⟨by simp, ?_, ?_, ?_, ?_⟩ <;> simp [go_sem]
  · simp only [List.length_replicate]; exact h.ol.below ba
  · simp only [List.length_replicate]; exact h.or_.below ba
set_option maxHeartbeats 8000000 in
theorem deskAfter_any {a : Option Addr} {c m n : Nat} {rv : Value} {xs : List (Int × Int × Int)} (s t bs wk : Int) (w : World) (hr : FRecord.Sl w rv xs) (hn1 : 1 ≤ n) (hn : n ≤ 8) (hs6 : s ≤ 6) (hok : ∀ x ∈ xs, recOk s n x.1 x.2.1 x.2.2 = true) :
    Calls Try.prog 72 #[.agg #[.int .i64 s, .int .i64 t, .slice a m c, .int .i64 bs, .int .i64 n, .int .i64 wk], rv] w (DeskRunP w n xs) := by
  have HR := Lib.hid (fun W (h : Below w.heap.size w W) => hr.below h)
  obtain ⟨ra, rc, rfl, hrc, hrc', _⟩ := hr
  unfold maxLen at hrc'
  have bA : Below w.heap.size w ((w.alloc (.cells #[.int .i64 s, .int .i64 t, .slice a m c, .int .i64 bs, .int .i64 n, .int .i64 wk] 37)).alloc (.cells #[.slice none 0 0, .slice none 0 0, .int .i64 0] 32)) := ((Below.refl _ _).alloc (Nat.le_refl _) _).alloc (by simp) _
  have QW := Lib.hid (fun W (h : Below ((w.alloc (.cells #[.int .i64 s, .int .i64 t, .slice a m c, .int .i64 bs, .int .i64 n, .int .i64 wk] 37)).alloc (.cells #[.slice none 0 0, .slice none 0 0, .int .i64 0] 32)).heap.size ((w.alloc (.cells #[.int .i64 s, .int .i64 t, .slice a m c, .int .i64 bs, .int .i64 n, .int .i64 wk] 37)).alloc (.cells #[.slice none 0 0, .slice none 0 0, .int .i64 0] 32)) W) =>
    show (W.cell? ⟨w.heap.size + 1, 0, none⟩ = some (.slice none 0 0) ∧ W.cell? ⟨w.heap.size + 1, 1, none⟩ = some (.slice none 0 0) ∧ W.cell? ⟨w.heap.size + 1, 2, none⟩ = some (.int .i64 0)) ∧ W.frozen? ⟨w.heap.size + 1, 0, none⟩ = false ∧ W.frozen? ⟨w.heap.size + 1, 1, none⟩ = false ∧ W.frozen? ⟨w.heap.size + 1, 2, none⟩ = false from by
      have a0 := h.cell (p := ⟨w.heap.size + 1, 0, none⟩) (by simp)
      have a1 := h.cell (p := ⟨w.heap.size + 1, 1, none⟩) (by simp)
      have a2 := h.cell (p := ⟨w.heap.size + 1, 2, none⟩) (by simp)
      have f0 := h.frozen (p := ⟨w.heap.size + 1, 0, none⟩) (by simp)
      have f1 := h.frozen (p := ⟨w.heap.size + 1, 1, none⟩) (by simp)
      have f2 := h.frozen (p := ⟨w.heap.size + 1, 2, none⟩) (by simp)
      simp [go_sem] at a0 a1 a2 f0 f1 f2
      exact ⟨⟨a0, a1, a2⟩, f0, f1, f2⟩)
  have HOK := Lib.hid hok
  clear hok
  go_enter Try.func72, Try.ntmps72
  go_wp2_with fail
  refine (newDesk_any s t bs wk _ (by omega)).mono ?_
  rintro e w1 ⟨vl, vr, rfl, p1, b1⟩
  obtain ⟨gl, cl, gr, cr, rfl, rfl, hne, hl1, hr1, hl2, hr2, hd⟩ := DeskIs.of_pair p1 hn1
  have zb := b1.size
  have hb1 := b1
  simp at hl1 hr1 zb
  have HD := Lib.hid hd
  unfold deskV
  clear p1 hd b1
  go_wp2
  go_loopw [13] (fun i wr => ∃ (k : Nat) (l r : List Int) (q : Int), k ≤ xs.length ∧ i = .int .i64 k ∧ Hid (learnAll xs (List.replicate n 0, List.replicate n (-1), 0) = learnAll (xs.drop k) (l, r, q)) ∧ DeskOk n (l, r, q) ∧ DeskIs wr (w.heap.size + 2) w1.heap.size 0 gl cl gr cr l r q ∧ Below ((w.alloc (.cells #[.int .i64 s, .int .i64 t, .slice a m c, .int .i64 bs, .int .i64 n, .int .i64 wk] 37)).alloc (.cells #[.slice none 0 0, .slice none 0 0, .int .i64 0] 32)).heap.size ((w.alloc (.cells #[.int .i64 s, .int .i64 t, .slice a m c, .int .i64 bs, .int .i64 n, .int .i64 wk] 37)).alloc (.cells #[.slice none 0 0, .slice none 0 0, .int .i64 0] 32)) wr) (fun i _ => xs.length - (intOf i).toNat)
  case atStart => exact ⟨0, _, _, _, Nat.zero_le _, rfl, rfl, deskOk_new n, by simpa using HD.out, hb1.alloc (by simp; omega) _⟩
  case round =>
    obtain ⟨k, l, r, q, hk, rfl, hrd, hdk, hds, hbr⟩ := hrel
    by_cases hlt : k < xs.length
    · have i1 : (k : Int) < (xs.length : Int) := by omega
      obtain ⟨ba, oa, rfl, z0, c0, c1, c2⟩ := FRecord_at (HR.out _ (bA.trans (hbr.mono bA.size))) hlt
      have hx := HOK.out _ (List.getElem_mem hlt)
      generalize hxe : xs[k] = x at hx c0 c1 c2
      obtain ⟨x0, x1, x2⟩ := x
      obtain ⟨hkind, j, v, e1, e2, _, _⟩ := recOk_nat hx (by omega) hs6
      dsimp only at e1 e2 hkind c0 c1 c2 hx
      subst e1
      subst e2
      have hr3 := Lib.hid hxe
      obtain ⟨k1, k2, k3, k4, k5⟩ := id hdk
      have hxr := inR_iff.1 (by unfold recOk at hx; rw [Bool.and_eq_true] at hx; exact hx.1)
      replace k1 : l.length = n := k1
      replace k2 : r.length = n := k2
      replace k5 : q ≤ (n : Int) := k5
      have hjn : j < l.length := by omega
      have brec : Below wr.heap.size wr (wr.alloc (.cells #[.int .i64 x0, .int .i64 j, .int .i64 v] 56)) := (Below.refl _ _).alloc (Nat.le_refl _) _
      have hd2 := Lib.hid (hds.below brec)
      clear hxe hds
      go_wp2_with fail
      refine (learn_any x0 q v _ hkind hd2.out hjn (by omega) (fun y hy => by have := k3 y hy; omega) k4 (by omega)).mono ?_
      rintro e w3 ⟨rfl, hfr, hdk3⟩
      have hb3 : Below ((w.alloc (.cells #[.int .i64 s, .int .i64 t, .slice a m c, .int .i64 bs, .int .i64 n, .int .i64 wk] 37)).alloc (.cells #[.slice none 0 0, .slice none 0 0, .int .i64 0] 32)).heap.size ((w.alloc (.cells #[.int .i64 s, .int .i64 t, .slice a m c, .int .i64 bs, .int .i64 n, .int .i64 wk] 37)).alloc (.cells #[.slice none 0 0, .slice none 0 0, .int .i64 0] 32)) w3 := (hbr.trans (brec.mono hbr.size)).trans (hfr.below (by have := hbr.size; simp at this ⊢; omega) (fun y hy => by simp; rcases hy with rfl | rfl | rfl <;> omega))
      obtain ⟨⟨q0, q1, q2⟩, qf0, qf1, qf2⟩ := QW.out _ hb3
      cases hf : learnF l r q x0 j v with
      | none =>
        have hll := learnAll_none hlt (show learn3 (l, r, q) xs[k] = none by rw [hr3.out]; exact hf)
        rw [hf] at hdk3
        have hd4 := Lib.hid (hdk3 l r q rfl)
        have HLL := Lib.hid (hrd.out.trans hll)
        have HF := Lib.hid hf
        clear hf hdk3 hfr hll
        go_wp2
        refine bodyPost_ret (v := .tuple #[deskV (.slice none 0 0) (.slice none 0 0) 0, .bool false]) (by simp [results, Try.results72, go_sem, deskV, q0, q1, q2]) rfl ⟨none, .slice none 0 0, .slice none 0 0, HLL.out.symm, rfl, DeskO.nil _ _, ?_⟩
        exact (((bA.trans (hb3.mono bA.size)).setCell (by simp) _).setCell (by simp) _).setCell (by simp) _
      | some d =>
        obtain ⟨l', r', q'⟩ := d
        have hll := learnAll_some hlt (show learn3 (l, r, q) xs[k] = some (l', r', q') by rw [hr3.out]; exact hf)
        have hdk' := learn3_ok hdk (x := (x0, (j : Int), (v : Int))) hx hf
        rw [hf] at hdk3
        have hd4 := Lib.hid (hdk3 l' r' q' rfl)
        have HLL := Lib.hid (hrd.out.trans hll)
        clear hf hdk3 hfr hll
        go_wp2
        go_roundw
        case rel => exact ⟨k + 1, l', r', q', by omega, by go_num, HLL, hdk', hd4.out, hb3⟩
        case measure => simp [intOf]; omega
    · obtain rfl : k = xs.length := by omega
      obtain ⟨k1, k2, _, _, _⟩ := hdk
      replace k1 : l.length = n := k1
      obtain ⟨_, d0, d1, d2, _⟩ := id hds.at_
      simp only [Nat.zero_add] at d0 d1 d2
      rw [k1] at d0 d1
      obtain ⟨⟨q0, q1, q2⟩, qf0, qf1, qf2⟩ := QW.out _ hbr
      have ho := hds.out.lower (base' := w.heap.size + 2) (by omega)
      rw [k1] at ho
      have HO := Lib.hid ho
      have K1 := Lib.hid k1
      clear k1 k2 hds ho
      go_wp2
      refine bodyPost_ret (v := .tuple #[deskV (.slice (some ⟨gl, 0, none⟩) n cl) (.slice (some ⟨gr, 0, none⟩) n cr) q, .bool true]) (by simp [results, Try.results72, go_sem, deskV, q0, q1, q2]) rfl ⟨some (l, r, q), _, _, ?_, rfl, ?_, ?_⟩
      · rw [hrd.out]; simp [learnAll]
      · exact (((HO.out.setBelow (by simp) _).setBelow (by simp) _).setBelow (by simp) _).lower (by omega)
      · exact (((bA.trans (hbr.mono bA.size)).setCell (by simp) _).setCell (by simp) _).setCell (by simp) _
end Go.Proofs.Ythbbnjpadmcbmaa
