/-
  A plant's value is read. With it: The program's plant in the beginning. The program's codes of deeds. The program's RefusedDeed. The program's after and HandedOut. PlantAfter, the program's.
-/
import Derived.Test.YtijpkcdalmlaiaaZRowFnPlantPackets31
import Derived.Test.YtijpkcdalmlaiaaZRowFnPlantPackets23
import Derived.Test.YtijpkcdalmlaiaaZRowFnPlantPackets22
set_option linter.unusedVariables false
set_option linter.unusedSimpArgs false
namespace Go.Proofs.Ytijpkcdalmlaiaa
open Go.RowKit Go.Sort
/-- a plant's value: its parts -/
structure PlV (w : World) (B : Nat → Prop) (S : PS) (vl vr ve vh vw vo : Value) : Prop where
  own : ∀ (i : Nat) (c : Ch), (parts S vl vr ve vh vw vo)[i]? = some c → c.own w
  sep : Sep (blk (parts S vl vr ve vh vw vo))
  inB : ∀ (j g : Nat), (blk (parts S vl vr ve vh vw vo))[j]? = some (some g) → B g
  len : S.r.length = S.l.length
  pos : 0 < S.l.length
theorem PlV.below {w w' : World} {B : Nat → Prop} {S : PS} {vl vr ve vh vw vo : Value} (h : PlV w B S vl vr ve vh vw vo) (hb : Below w.heap.size w w') : PlV w' B S vl vr ve vh vw vo :=
  ⟨fun i c hc => ownsRow_below (h.own i c hc) hb, h.sep, h.inB, h.len, h.pos⟩
theorem PlV.mono {w : World} {B B' : Nat → Prop} {S : PS} {vl vr ve vh vw vo : Value} (h : PlV w B S vl vr ve vh vw vo) (hB : ∀ k, B k → B' k) : PlV w B' S vl vr ve vh vw vo := ⟨h.own, h.sep, fun j g hj => hB g (h.inB j g hj), h.len, h.pos⟩
theorem PlV.lt {w : World} {B : Nat → Prop} {S : PS} {vl vr ve vh vw vo : Value} (h : PlV w B S vl vr ve vh vw vo) (j g : Nat) (hj : (blk (parts S vl vr ve vh vw vo))[j]? = some (some g)) : g < w.heap.size := by
  rw [blk, List.getElem?_map] at hj
  cases hc : (parts S vl vr ve vh vw vo)[j]? with
  | none => rw [hc] at hj; simp at hj
  | some c => rw [hc] at hj; simp at hj; exact (World.ownsRow.lt (h.own j c hc) g hj).2
theorem PlIs.val {w : World} {b o : Nat} {B : Nat → Prop} {S : PS} {vl vr ve vh vw vo : Value} (h : PlIs w b o B S vl vr ve vh vw vo) : PlV w B S vl vr ve vh vw vo :=
  ⟨h.hold.own, fun i j g hi hj => by have := h.hold.sep (i + 1) (j + 1) g (by simpa using hi) (by simpa using hj); omega, fun j g hj => h.inB (j + 1) g (by simpa using hj), h.len, h.pos⟩
theorem PlV.box {w : World} {B : Nat → Prop} {S : PS} {vl vr ve vh vw vo : Value} (h : PlV w B S vl vr ve vh vw vo) : PlIs (w.alloc (.cells #[vl, vr, .int .i64 S.q, ve, .int .i64 S.sy, vh, vw, vo] 61)) w.heap.size 0 (Bm B w.heap.size) S vl vr ve vh vw vo := by
  have ba : Below w.heap.size w (w.alloc (.cells #[vl, vr, .int .i64 S.q, ve, .int .i64 S.sy, vh, vw, vo] 61)) := (Below.refl _ _).alloc (Nat.le_refl _) _
  refine ⟨fun i u hu => ?_, fun i => by simp [go_sem], ⟨by simp, fun i c hc => ownsRow_below (h.own i c hc) ba, ?_⟩, ?_, h.len, h.pos⟩
  · rw [Nat.zero_add]
    exact (CellsAt.new w (slots S vl vr ve vh vw vo) 61).get i u hu
  · intro i j g hi hj
    cases i with
    | zero =>
      cases j with
      | zero => rfl
      | succ j =>
        simp at hi
        have := h.lt j g (by simpa using hj)
        omega
    | succ i =>
      cases j with
      | zero =>
        simp at hj
        have := h.lt i g (by simpa using hi)
        omega
      | succ j => have := h.sep i j g (by simpa using hi) (by simpa using hj); omega
  · intro j g hj
    cases j with
    | zero => simp at hj; exact .inr (by omega)
    | succ j => exact .inl (h.inB j g (by simpa using hj))
theorem PlV.fs {T : Nat → Prop} {w w' : World} {B : Nat → Prop} {S : PS} {vl vr ve vh vw vo : Value} (h : PlV w B S vl vr ve vh vw vo) (hf : Fs T w w') (hT : ∀ k, B k → ¬ T k) : PlV w' B S vl vr ve vh vw vo := by
  refine ⟨fun i c hc => ?_, h.sep, h.inB, h.len, h.pos⟩
  refine ⟨(h.own i c hc).1, ?_⟩
  rcases (h.own i c hc).2 with h2 | ⟨g, cap, cur, h1, h2, h3, h4⟩
  · exact .inl h2
  · refine .inr ⟨g, cap, cur, h1, h2, ?_, h4⟩
    have hn : ¬ T g := hT g (h.inB i g (by simp [blk, hc, h1, Value.ownBlock]))
    rw [hf.block g (Array.getElem?_eq_some_iff.1 h3).1 hn]; exact h3
theorem wp_make_hands {o : Oper} {a : Act} {K : Act → World → Prop} {Q : Exit → Act → World → Prop} (w : World) (l c : Operand) (hop : o.op = Op.makeSlice 58 l c) (n : Nat) {kl kc : IntKind} (hl : a.eval l = .int kl (n : Int)) (hc : a.eval c = .int kc (n : Int)) (hn : n ≤ 16777216)
    (hK : ∀ w', FHand.Own w' w.heap.size (.slice (some ⟨w.heap.size, 0, none⟩) n n) (List.replicate n noHand) → Below w.heap.size w w' → w.heap.size < w'.heap.size → K (a.put o.dst (.slice (some ⟨w.heap.size, 0, none⟩) n n)) w') : Oper.wp Try.prog o a w K Q := by
  obtain ⟨i0, hi, hz0, hz1, hz2⟩ := info_parts FHand.inf
  obtain ⟨w', hrun, r1, r2⟩ := run_make_full (P := Try.prog) w w.heap.size 58 123 i0 FHand.z FHand.size FHand.und hi hz0 hz1 kl kc n (by rw [hz2]; show 24 * n ≤ _; omega) (by simp [maxLen]; omega) (Nat.le_refl _)
  rw [FHand_made] at r1
  unfold Oper.wp execOp
  simp only [hop, hl, hc, Sem.run_bind, hrun, Sem.run_pure, Result.andThen_ok]
  exact hK w' (by unfold Flat.Own; rw [List.length_replicate]; exact r1) ((Below.refl _ _).grown r2 (Nat.le_refl _) (by simp)) (r1.lt w.heap.size rfl).2
theorem newS_val {w : World} {B n wk : Nat} {vl vr vh : Value} (hp : Pair w B n vl vr) (hh : FHand.Own w B vh (List.replicate wk noHand)) (hne : ∀ g, vh.ownBlock = some g → vl.ownBlock ≠ some g ∧ vr.ownBlock ≠ some g) (hn : 1 ≤ n) : PlV w (fun k => B ≤ k) (newS n wk) vl vr (.slice none 0 0) vh (.slice none 0 0) (.slice none 0 0) := by
  refine ⟨fun i c hc => ?_, fun i j g hi hj => ?_, fun j g hj => ?_, by simp [newS], by simp [newS]; omega⟩
  · match i, hc with
    | 0, hc => simp [parts] at hc; subst hc; have h := hp.ol.lower (Nat.zero_le _); rw [← FI_own] at h; exact h
    | 1, hc => simp [parts] at hc; subst hc; have h := hp.or_.lower (Nat.zero_le _); rw [← FI_own] at h; exact h
    | 2, hc => simp [parts] at hc; subst hc; exact Flat.Own.nil _ _
    | 3, hc => simp [parts] at hc; subst hc; exact Flat.Own.lower hh (Nat.zero_le _)
    | 4, hc => simp [parts] at hc; subst hc; exact Flat.Own.nil _ _
    | 5, hc => simp [parts] at hc; subst hc; exact Flat.Own.nil _ _
  · have hlr : ∀ g, vl.ownBlock = some g → vr.ownBlock ≠ some g := fun g hg => hp.ne hg
    have e : blk (parts (newS n wk) vl vr (.slice none 0 0) vh (.slice none 0 0) (.slice none 0 0)) = [vl.ownBlock, vr.ownBlock, none, vh.ownBlock, none, none] := rfl
    rw [e] at hi hj
    match i, j, hi, hj with
    | 0, 0, _, _ => rfl
    | 1, 1, _, _ => rfl
    | 3, 3, _, _ => rfl
    | 0, 1, hi, hj => simp at hi hj; exact absurd hj (hlr g hi)
    | 1, 0, hi, hj => simp at hi hj; exact absurd hi (hlr g hj)
    | 0, 3, hi, hj => simp at hi hj; exact absurd hi (hne g hj).1
    | 3, 0, hi, hj => simp at hi hj; exact absurd hj (hne g hi).1
    | 1, 3, hi, hj => simp at hi hj; exact absurd hi (hne g hj).2
    | 3, 1, hi, hj => simp at hi hj; exact absurd hj (hne g hi).2
    | 2, _, hi, _ => simp at hi
    | 4, _, hi, _ => simp at hi
    | 5, _, hi, _ => simp at hi
    | _, 2, _, hj => simp at hj
    | _, 4, _, hj => simp at hj
    | _, 5, _, hj => simp at hj
    | i + 6, _, hi, _ => simp at hi
    | _, j + 6, _, hj => simp at hj
  · have e : blk (parts (newS n wk) vl vr (.slice none 0 0) vh (.slice none 0 0) (.slice none 0 0)) = [vl.ownBlock, vr.ownBlock, none, vh.ownBlock, none, none] := rfl
    rw [e] at hj
    match j, hj with
    | 0, hj => simp at hj; exact (hp.lt.1 g hj).1
    | 1, hj => simp at hj; exact (hp.lt.2 g hj).1
    | 2, hj => simp at hj
    | 3, hj => simp at hj; exact (World.ownsRow.lt (show w.ownsRow B FHand.E FHand.size vh _ _ from hh) g hj).1
    | 4, hj => simp at hj
    | 5, hj => simp at hj
    | j + 6, hj => simp at hj

set_option maxRecDepth 100000 in
set_option maxHeartbeats 4000000 in
theorem newPlant_any {ad : Option Addr} {m c sm wk : Nat} (n t bs : Int) (w : World) (hs : 1 ≤ sm ∧ sm ≤ 8) (hwk : 1 ≤ wk ∧ wk ≤ 4) :
    Calls Try.prog 63 #[.agg #[.int .i64 n, .int .i64 t, .slice ad m c, .int .i64 bs, .int .i64 sm, .int .i64 wk]] w fun e w' => ∃ vl vr vh, e = .returned (.agg #[vl, vr, .int .i64 0, .slice none 0 0, .int .i64 0, vh, .slice none 0 0, .slice none 0 0]) ∧ PlV w' (fun k => w.heap.size ≤ k) (newS sm wk) vl vr (.slice none 0 0) vh (.slice none 0 0) (.slice none 0 0) ∧ Below w.heap.size w w' := by
  have bA : Below w.heap.size w (w.alloc (.cells #[.int .i64 n, .int .i64 t, .slice ad m c, .int .i64 bs, .int .i64 sm, .int .i64 wk] 35)) := (Below.refl _ _).alloc (Nat.le_refl _) _
  have KA := CellsAt.new w [.int .i64 n, .int .i64 t, .slice ad m c, .int .i64 bs, .int .i64 sm, .int .i64 wk] 35
  have bB : Below (w.alloc (.cells #[.int .i64 n, .int .i64 t, .slice ad m c, .int .i64 bs, .int .i64 sm, .int .i64 wk] 35)).heap.size (w.alloc (.cells #[.int .i64 n, .int .i64 t, .slice ad m c, .int .i64 bs, .int .i64 sm, .int .i64 wk] 35)) ((w.alloc (.cells #[.int .i64 n, .int .i64 t, .slice ad m c, .int .i64 bs, .int .i64 sm, .int .i64 wk] 35)).alloc (.cells #[.slice none 0 0, .slice none 0 0, .int .i64 0, .slice none 0 0, .int .i64 0, .slice none 0 0, .slice none 0 0, .slice none 0 0] 61)) := (Below.refl _ _).alloc (Nat.le_refl _) _
  obtain ⟨W2, hW2⟩ : ∃ W2, W2 = (w.alloc (.cells #[.int .i64 n, .int .i64 t, .slice ad m c, .int .i64 bs, .int .i64 sm, .int .i64 wk] 35)).alloc (.cells #[.slice none 0 0, .slice none 0 0, .int .i64 0, .slice none 0 0, .int .i64 0, .slice none 0 0, .slice none 0 0, .slice none 0 0] 61) := ⟨_, rfl⟩
  have K1 := Lib.hid (show CellsAt W2 w.heap.size [.int .i64 n, .int .i64 t, .slice ad m c, .int .i64 bs, .int .i64 sm, .int .i64 wk] by rw [hW2]; exact KA.below bB)
  have QW := Lib.hid (show ∀ W, Below W2.heap.size W2 W → ∀ i : Nat, i < 8 → (∃ u, W.cell? ⟨w.heap.size + 1, i, none⟩ = some u) ∧ W.frozen? ⟨w.heap.size + 1, i, none⟩ = false from fun W h i hi => by
    rw [hW2] at h
    have a1 := h.cell (p := ⟨w.heap.size + 1, i, none⟩) (by simp)
    have a2 := h.frozen (p := ⟨w.heap.size + 1, i, none⟩) (by simp)
    rw [a1, a2]
    match i, hi with
    | 0, _ => simp [go_sem]
    | 1, _ => simp [go_sem]
    | 2, _ => simp [go_sem]
    | 3, _ => simp [go_sem]
    | 4, _ => simp [go_sem]
    | 5, _ => simp [go_sem]
    | 6, _ => simp [go_sem]
    | 7, _ => simp [go_sem])
  rw [← hW2] at bB
  have b2 := Lib.hid (bA.trans (bB.mono bA.size))
  have HZ := Lib.hid (show W2.heap.size = w.heap.size + 2 by rw [hW2]; simp)
  have HW2 := Lib.hid hW2.symm
  have CW := Lib.hid (show ∀ W, Below W2.heap.size W2 W → (W.cell? ⟨w.heap.size, 0, none⟩ = some (.int .i64 n) ∧ W.cell? ⟨w.heap.size, 1, none⟩ = some (.int .i64 t) ∧ W.cell? ⟨w.heap.size, 2, none⟩ = some (.slice ad m c) ∧ W.cell? ⟨w.heap.size, 3, none⟩ = some (.int .i64 bs) ∧ W.cell? ⟨w.heap.size, 4, none⟩ = some (.int .i64 sm) ∧ W.cell? ⟨w.heap.size, 5, none⟩ = some (.int .i64 wk)) from fun W h => ⟨(K1.out.below h).get 0 _ rfl, (K1.out.below h).get 1 _ rfl, (K1.out.below h).get 2 _ rfl, (K1.out.below h).get 3 _ rfl, (K1.out.below h).get 4 _ rfl, (K1.out.below h).get 5 _ rfl⟩)
  clear bA KA bB hW2
  go_enter Try.func63, Try.ntmps63
  go_wp2_with fail
  rw [HW2.out]
  refine wpX_start (fun W => W.cell? ⟨w.heap.size, 0, none⟩ = some (.int .i64 n) ∧ W.cell? ⟨w.heap.size, 1, none⟩ = some (.int .i64 t) ∧ W.cell? ⟨w.heap.size, 2, none⟩ = some (.slice ad m c) ∧ W.cell? ⟨w.heap.size, 3, none⟩ = some (.int .i64 bs) ∧ W.cell? ⟨w.heap.size, 4, none⟩ = some (.int .i64 sm) ∧ W.cell? ⟨w.heap.size, 5, none⟩ = some (.int .i64 wk)) [6] (by kernel_rfl) ?_
  have hC := CW.out W2.drew (Below.refl W2.heap.size W2).drew
  refine wpX_load (i := 0) (v := ?_) rfl (by kernel_rfl) (fun _ _ _ h => h) hC rfl (fun w' hw' => ?_) ?_
  rotate_left
  · obtain ⟨k1, k2, k3, k4, k5, k6⟩ := hw'; go_simp; try with_reducible rfl
  try simp only [Act.put, List.setIfInBounds_toArray, List.set_cons_zero, List.set_cons_succ]
  refine wpX_free (i := 2) (v := ?_) rfl (by kernel_rfl) (fun _ _ _ h => h) rfl (fun w' => ?_) ?_
  rotate_left
  · go_simp; try with_reducible rfl
  try simp only [Act.put, List.setIfInBounds_toArray, List.set_cons_zero, List.set_cons_succ]
  refine wpX_load (i := 3) (v := ?_) rfl (by kernel_rfl) (fun _ _ _ h => h) hC rfl (fun w' hw' => ?_) ?_
  rotate_left
  · obtain ⟨k1, k2, k3, k4, k5, k6⟩ := hw'; go_simp; try with_reducible rfl
  try simp only [Act.put, List.setIfInBounds_toArray, List.set_cons_zero, List.set_cons_succ]
  refine wpX_two (i := 1) (j := 4) rfl rfl (by kernel_rfl) rfl rfl ?_ ?_
  · intro K hK
    go_simp
    go_at_call 103
    refine (newDesk_any n t bs wk _ (by omega)).mono ?_
    rintro e w3 ⟨vl, vr, rfl, p, b3⟩
    have b30 := (Below.refl W2.heap.size W2).drew.trans b3
    have hC := CW.out w3 b30
    refine hK _ _ hC ?_
    clear hK K
    unfold deskV
    try simp only [Act.put, List.setIfInBounds_toArray, List.set_cons_zero, List.set_cons_succ]
    refine wpX_one (i := 4) rfl (by kernel_rfl) rfl ?_
    intro K hK
    refine wp_make_hands w3 (.tmp 6) (.tmp 6) rfl wk rfl rfl (by omega) ?_
    intro w4 hh b4 hlt
    have bq := b30.trans (b4.mono b30.size)
    have hC := CW.out w4 bq
    refine hK _ _ hC ?_
    clear hK K
    have hne : ∀ g, (Value.slice (some ⟨w3.heap.size, 0, none⟩) wk wk).ownBlock = some g → vl.ownBlock ≠ some g ∧ vr.ownBlock ≠ some g := fun g hg => by
      simp only [Value.ownBlock, Option.some.injEq] at hg
      exact ⟨fun h => by have := (p.lt.1 g h).2; omega, fun h => by have := (p.lt.2 g h).2; omega⟩
    have p := (p.below b4).lower (B' := W2.heap.size) (Nat.le_refl _)
    have hh := Flat.Own.lower hh (base' := W2.heap.size) b30.size
    try simp only [Act.put, List.setIfInBounds_toArray, List.set_cons_zero, List.set_cons_succ]
    refine wpX_free (i := 5) (v := ?_) rfl (by kernel_rfl) (fun _ _ _ h => h) rfl (fun w' => ?_) ?_
    rotate_left
    · go_simp; try with_reducible rfl
    try simp only [Act.put, List.setIfInBounds_toArray, List.set_cons_zero, List.set_cons_succ]
    refine wpX_rest (t := [6]) (l := [_]) rfl (by kernel_rfl) (by kernel_rfl) ?_
    clear hC
    obtain ⟨gl, cl, gr, cr, rfl, rfl, hgne, _⟩ := DeskIs.of_pair p hs.1
    have HV := Lib.hid (newS_val p hh hne hs.1)
    obtain ⟨⟨u0, e0⟩, f0⟩ := QW.out _ bq 0 (by decide)
    obtain ⟨⟨u1, e1⟩, f1⟩ := QW.out _ bq 1 (by decide)
    obtain ⟨⟨u2, e2⟩, f2⟩ := QW.out _ bq 2 (by decide)
    obtain ⟨⟨u3, e3⟩, f3⟩ := QW.out _ bq 3 (by decide)
    obtain ⟨⟨u4, e4⟩, f4⟩ := QW.out _ bq 4 (by decide)
    obtain ⟨⟨u5, e5⟩, f5⟩ := QW.out _ bq 5 (by decide)
    obtain ⟨⟨u6, e6⟩, f6⟩ := QW.out _ bq 6 (by decide)
    obtain ⟨⟨u7, e7⟩, f7⟩ := QW.out _ bq 7 (by decide)
    have BQ := Lib.hid bq
    have zq := bq.size
    clear p hh hne bq
    go_wp2
    refine bodyPost_ret (v := .agg #[.slice (some ⟨gl, 0, none⟩) sm cl, .slice (some ⟨gr, 0, none⟩) sm cr, .int .i64 0, .slice none 0 0, .int .i64 0, .slice (some ⟨w3.heap.size, 0, none⟩) wk wk, .slice none 0 0, .slice none 0 0]) (by simp [results, Try.results63, go_sem, e0, e1, e2, e3, e4, e5, e6, e7]) rfl ⟨_, _, _, rfl, ?_, ?_⟩
    · refine (HV.out.fs (T := fun k => k = w.heap.size + 1) ?_ (fun k hk h => by have := HZ.out; omega)).mono (fun k hk => by have := HZ.out; omega)
      repeat (refine Fs.set (S := fun k => k = w.heap.size + 1) ?_ rfl _)
      exact Fs.refl _ _
    · repeat (refine Below.setCell ?_ (by simp) _)
      exact b2.out.trans (BQ.out.mono b2.out.size)
  · intro K hK
    refine wp_make_hands W2.drew (.tmp 6) (.tmp 6) rfl wk rfl rfl (by omega) ?_
    intro w3 hh b3 hlt
    have b30 := (Below.refl W2.heap.size W2).drew.trans b3
    have hC := CW.out w3 b30
    refine hK _ _ hC ?_
    clear hK K
    try simp only [Act.put, List.setIfInBounds_toArray, List.set_cons_zero, List.set_cons_succ]
    refine wpX_one (i := 1) rfl (by kernel_rfl) rfl ?_
    intro K hK
    go_simp
    go_at_call 103
    refine (newDesk_any n t bs wk _ (by omega)).mono ?_
    rintro e w4 ⟨vl, vr, rfl, p, b4⟩
    have bq := b30.trans (b4.mono b30.size)
    have hC := CW.out w4 bq
    refine hK _ _ hC ?_
    clear hK K
    have hne : ∀ g, (Value.slice (some ⟨W2.drew.heap.size, 0, none⟩) wk wk).ownBlock = some g → vl.ownBlock ≠ some g ∧ vr.ownBlock ≠ some g := fun g hg => by
      simp only [Value.ownBlock, Option.some.injEq] at hg
      exact ⟨fun h => by have := (p.lt.1 g h).1; omega, fun h => by have := (p.lt.2 g h).1; omega⟩
    have p := p.lower (B' := W2.heap.size) b30.size
    have hh := hh.below b4
    unfold deskV
    try simp only [Act.put, List.setIfInBounds_toArray, List.set_cons_zero, List.set_cons_succ]
    refine wpX_free (i := 5) (v := ?_) rfl (by kernel_rfl) (fun _ _ _ h => h) rfl (fun w' => ?_) ?_
    rotate_left
    · go_simp; try with_reducible rfl
    try simp only [Act.put, List.setIfInBounds_toArray, List.set_cons_zero, List.set_cons_succ]
    refine wpX_rest (t := [6]) (l := [_]) rfl (by kernel_rfl) (by kernel_rfl) ?_
    clear hC
    obtain ⟨gl, cl, gr, cr, rfl, rfl, hgne, _⟩ := DeskIs.of_pair p hs.1
    have HV := Lib.hid (newS_val p hh hne hs.1)
    obtain ⟨⟨u0, e0⟩, f0⟩ := QW.out _ bq 0 (by decide)
    obtain ⟨⟨u1, e1⟩, f1⟩ := QW.out _ bq 1 (by decide)
    obtain ⟨⟨u2, e2⟩, f2⟩ := QW.out _ bq 2 (by decide)
    obtain ⟨⟨u3, e3⟩, f3⟩ := QW.out _ bq 3 (by decide)
    obtain ⟨⟨u4, e4⟩, f4⟩ := QW.out _ bq 4 (by decide)
    obtain ⟨⟨u5, e5⟩, f5⟩ := QW.out _ bq 5 (by decide)
    obtain ⟨⟨u6, e6⟩, f6⟩ := QW.out _ bq 6 (by decide)
    obtain ⟨⟨u7, e7⟩, f7⟩ := QW.out _ bq 7 (by decide)
    have BQ := Lib.hid bq
    have zq := bq.size
    clear p hh hne bq
    go_wp2
    refine bodyPost_ret (v := .agg #[.slice (some ⟨gl, 0, none⟩) sm cl, .slice (some ⟨gr, 0, none⟩) sm cr, .int .i64 0, .slice none 0 0, .int .i64 0, .slice (some ⟨W2.drew.heap.size, 0, none⟩) wk wk, .slice none 0 0, .slice none 0 0]) (by simp [results, Try.results63, go_sem, e0, e1, e2, e3, e4, e5, e6, e7]) rfl ⟨_, _, _, rfl, ?_, ?_⟩
    · refine (HV.out.fs (T := fun k => k = w.heap.size + 1) ?_ (fun k hk h => by have := HZ.out; omega)).mono (fun k hk => by have := HZ.out; omega)
      repeat (refine Fs.set (S := fun k => k = w.heap.size + 1) ?_ rfl _)
      exact Fs.refl _ _
    · repeat (refine Below.setCell ?_ (by simp) _)
      exact b2.out.trans (BQ.out.mono b2.out.size)
end Go.Proofs.Ytijpkcdalmlaiaa
namespace Go.Proofs.Ytijpkcdalmlaiaa
open Go.RowKit Go.Sort

theorem deedsCode_any {u : Value} {xss : List (List Int)} {ds : List (Int × Int)} {rv : Value} (n t bs sm wk : Int) (w : World) (ha : SlII w u xss) (hr : FDeed.Sl w rv ds) :
    Calls Try.prog 45 #[.agg #[.int .i64 n, .int .i64 t, u, .int .i64 bs, .int .i64 sm, .int .i64 wk], rv] w fun e w' => e = .returned (.int .i64 (dcode n t xss bs sm wk ds)) ∧ Below w.heap.size w w' := by
  have HA := Lib.hid (fun W (h : Below w.heap.size w W) => ha.below h)
  have HR := Lib.hid (fun W (h : Below w.heap.size w W) => hr.below h)
  obtain ⟨ra, rc, rfl, hrc, hrc2, _⟩ := id hr
  obtain ⟨a, ca, us, rfl, _⟩ := id ha
  unfold maxLen at hrc2
  have bx : Below w.heap.size w (w.alloc (svObj n t (.slice a xss.length ca) bs sm wk)) := (Below.refl _ _).alloc (Nat.le_refl _) _
  have K := Lib.hid (ImplValidService_any n t bs sm wk _ (ha.below bx))
  generalize hq : serviceOk n t xss bs sm wk = Q at K
  have HQ := Lib.hid hq
  generalize hd : ds.any (fun d => !deedOk d.1 d.2) = D
  have HD := Lib.hid hd
  clear hq hd ha hr
  cases Q
  · have HC := Lib.hid (show dcode n t xss bs sm wk ds = 1 by unfold dcode; rw [HQ.out]; rfl)
    go_enter Try.func45, Try.ntmps45
    go_wp2_with fail
    refine K.out.mono ?_
    rintro e w1 ⟨rfl, b1⟩
    go_wp2
    go_ret
    exact ⟨ri HC.out.symm, bx.trans (b1.mono bx.size)⟩
  · cases D
    · have HC := Lib.hid (show dcode n t xss bs sm wk ds = if 400 < ds.length then 2 else 0 by unfold dcode deedsOk; rw [HQ.out, HD.out]; rfl)
      by_cases h4 : 400 < ds.length
      · have HC := Lib.hid (HC.out.trans (if_pos h4))
        have i4 : (400 : Int) < (ds.length : Int) := by omega
        go_enter Try.func45, Try.ntmps45
        go_wp2_with fail
        refine K.out.mono ?_
        rintro e w1 ⟨rfl, b1⟩
        have hb1 := bx.trans (b1.mono bx.size)
        go_wp2_with fail
        refine (ContainsFuncD_any (fun d => !deedOk d.1 d.2) _ (HR.out _ hb1) (fun W x _ _ => deedClosure_any x W)).mono ?_
        rintro e w2 ⟨rfl, b2⟩
        rw [HD.out]
        have hb2 := hb1.trans (b2.mono hb1.size)
        go_wp2
        go_ret
        exact ⟨ri HC.out.symm, hb2⟩
      · have HC := Lib.hid (HC.out.trans (if_neg h4))
        have i4 : (ds.length : Int) ≤ (400 : Int) := by omega
        go_enter Try.func45, Try.ntmps45
        go_wp2_with fail
        refine K.out.mono ?_
        rintro e w1 ⟨rfl, b1⟩
        have hb1 := bx.trans (b1.mono bx.size)
        go_wp2_with fail
        refine (ContainsFuncD_any (fun d => !deedOk d.1 d.2) _ (HR.out _ hb1) (fun W x _ _ => deedClosure_any x W)).mono ?_
        rintro e w2 ⟨rfl, b2⟩
        rw [HD.out]
        have hb2 := hb1.trans (b2.mono hb1.size)
        go_wp2
        go_ret
        exact ⟨ri HC.out.symm, hb2⟩
    · have HC := Lib.hid (show dcode n t xss bs sm wk ds = 1 by unfold dcode deedsOk; rw [HQ.out, HD.out]; rfl)
      go_enter Try.func45, Try.ntmps45
      go_wp2_with fail
      refine K.out.mono ?_
      rintro e w1 ⟨rfl, b1⟩
      have hb1 := bx.trans (b1.mono bx.size)
      go_wp2_with fail
      refine (ContainsFuncD_any (fun d => !deedOk d.1 d.2) _ (HR.out _ hb1) (fun W x _ _ => deedClosure_any x W)).mono ?_
      rintro e w2 ⟨rfl, b2⟩
      rw [HD.out]
      have hb2 := hb1.trans (b2.mono hb1.size)
      go_wp2
      go_ret
      exact ⟨ri HC.out.symm, hb2⟩
end Go.Proofs.Ytijpkcdalmlaiaa
namespace Go.Proofs.Ytijpkcdalmlaiaa
open Go.RowKit Go.Sort
def tupRD (r : Int × Int × Int) : Value := .tuple #[.int .i64 r.1, .int .i64 r.2.1, .int .i64 r.2.2]
theorem doP_cases {b : Nat} {B : Nat → Prop} {R : Int × PS} {w : World} {e : Ending} {w' : World} (h : DoP b B R w e w') : e = .returned (.int .i64 R.1) ∧ (∃ vl vr ve vh vw vo, PlIs w' b 0 (Bm B w.heap.size) R.2 vl vr ve vh vw vo) ∧ Fs B w w' := h

set_option maxRecDepth 100000 in
set_option maxHeartbeats 4000000 in
theorem ImplRefusedDeed_any {u : Value} {xss : List (List Int)} {ds : List (Int × Int)} {rv : Value} (n t bs sm wk : Int) (w : World) (ha : SlII w u xss) (hr : FDeed.Sl w rv ds) :
    Calls Try.prog 31 #[.agg #[.int .i64 n, .int .i64 t, u, .int .i64 bs, .int .i64 sm, .int .i64 wk], rv] w fun e w' => e = .returned (tupRD (refR n t xss bs sm wk ds)) ∧ Below w.heap.size w w' := by
  have HA := Lib.hid (fun W (h : Below w.heap.size w W) => ha.below h)
  have HR := Lib.hid (fun W (h : Below w.heap.size w W) => hr.below h)
  obtain ⟨ra, rc, rfl, hrc, hrc2, _⟩ := id hr
  obtain ⟨a, ca, us, rfl, _⟩ := id ha
  unfold maxLen at hrc2
  have bx : Below w.heap.size w (w.alloc (.cells #[.int .i64 n, .int .i64 t, .slice a xss.length ca, .int .i64 bs, .int .i64 sm, .int .i64 wk] 35)) := (Below.refl _ _).alloc (Nat.le_refl _) _
  have KX := Lib.hid (CellsAt.new w [.int .i64 n, .int .i64 t, .slice a xss.length ca, .int .i64 bs, .int .i64 sm, .int .i64 wk] 35)
  have K := Lib.hid (deedsCode_any n t bs sm wk _ (ha.below bx) (hr.below bx))
  generalize hq : dcode n t xss bs sm wk ds = q at K
  have HQ := Lib.hid hq
  by_cases h0 : q = 0
  · subst h0
    obtain ⟨hok, hall, hlen⟩ := dcode_zero hq
    obtain ⟨n', sm', wk', rfl, rfl, rfl, hs, hwk, hn6⟩ := servOk_nat hok
    obtain ⟨hch, _, _, hbs⟩ := serviceOk_parts hok
    have HF := Lib.hid (show refR n' t xss bs sm' wk' ds = firstBad (codesS t xss bs sm' wk' ds (newS sm' wk')) 0 by unfold refR; rw [if_pos HQ.out, Int.toNat_natCast, Int.toNat_natCast])
    have HALL := Lib.hid hall
    have HCH := Lib.hid hch
    have t0 : ((0 : Int) != 0) = false := rfl
    clear hq ha hr hall hch HQ
    go_enter Try.func31, Try.ntmps31
    go_wp2_with fail
    refine K.out.mono ?_
    rintro e w1 ⟨rfl, b1⟩
    have B1 := Lib.hid (bx.trans (b1.mono bx.size))
    have K1 := Lib.hid (KX.out.below b1)
    have k0 := K1.out.get 0 _ rfl
    have k1 := K1.out.get 1 _ rfl
    have k2 := K1.out.get 2 _ rfl
    have k3 := K1.out.get 3 _ rfl
    have k4 := K1.out.get 4 _ rfl
    have k5 := K1.out.get 5 _ rfl
    clear bx b1 K KX
    go_wp2_with fail
    refine (newPlant_any n' t bs w1 hs hwk).mono ?_
    rintro e w2 ⟨vl, vr, vh, rfl, pv, b2⟩
    obtain ⟨va0, vn0, vc0, rfl⟩ : ∃ x y z, vl = .slice x y z := by
      have h := pv.own 0 _ rfl
      obtain ⟨x, z, h1, _⟩ := ownsRow_rd h
      exact ⟨x, _, z, h1⟩
    obtain ⟨vr0, rn0, rc0, rfl⟩ : ∃ x y z, vr = .slice x y z := by
      have h := pv.own 1 _ rfl
      obtain ⟨x, z, h1, _⟩ := ownsRow_rd h
      exact ⟨x, _, z, h1⟩
    obtain ⟨vh0, hn0, hc0, rfl⟩ : ∃ x y z, vh = .slice x y z := by
      have h := pv.own 3 _ rfl
      obtain ⟨x, z, h1, _⟩ := ownsRow_rd h
      exact ⟨x, _, z, h1⟩
    have P3 := pv.box
    have b3 : Below w2.heap.size w2 (w2.alloc (.cells #[.slice va0 vn0 vc0, .slice vr0 rn0 rc0, .int .i64 0, .slice none 0 0, .int .i64 0, .slice vh0 hn0 hc0, .slice none 0 0, .slice none 0 0] 61)) := (Below.refl _ _).alloc (Nat.le_refl _) _
    obtain ⟨W3, hW3⟩ : ∃ W3, W3 = w2.alloc (.cells #[.slice va0 vn0 vc0, .slice vr0 rn0 rc0, .int .i64 0, .slice none 0 0, .int .i64 0, .slice vh0 hn0 hc0, .slice none 0 0, .slice none 0 0] 61) := ⟨_, rfl⟩
    have P3 := Lib.hid (show PlIs W3 w2.heap.size 0 (fun k => w1.heap.size ≤ k) (newS sm' wk') (.slice va0 vn0 vc0) (.slice vr0 rn0 rc0) (.slice none 0 0) (.slice vh0 hn0 hc0) (.slice none 0 0) (.slice none 0 0) from by
      rw [hW3]
      exact P3.mono (fun k hk => hk.elim (fun h => h) (fun h => Nat.le_trans b2.size h)))
    rw [← hW3] at b3
    have b13 : Below w1.heap.size w1 W3 := b2.trans (b3.mono b2.size)
    have B13 := Lib.hid b13
    have HW3 := Lib.hid hW3.symm
    clear k0 k1 k2 k3 k4 k5 pv b2 b3 hW3 b13
    go_wp2
    rw [HW3.out]
    go_loopw [22] (fun i wr => ∃ k : Nat, k ≤ ds.length ∧ i = .int .i64 k ∧ Hid (firstBad (codesS t xss bs sm' wk' ds (newS sm' wk')) 0 = firstBad ((codesS t xss bs sm' wk' ds (newS sm' wk')).drop k) k) ∧ (∃ vl vr ve vh vw vo, PlIs wr w2.heap.size 0 (fun k => w1.heap.size ≤ k) (afterS t xss bs sm' wk' (ds.take k) (newS sm' wk')) vl vr ve vh vw vo) ∧ Below w1.heap.size w1 wr) (fun i _ => ds.length - (intOf i).toNat)
    case atStart => exact ⟨0, Nat.zero_le _, rfl, rfl, ⟨_, _, _, _, _, _, P3.out⟩, B13.out⟩
    case round =>
      obtain ⟨k, hk, rfl, hfb, ⟨vl, vr, ve, vh, vw, vo, hp⟩, hb⟩ := hrel
      have HB := Lib.hid (B1.out.trans (hb.mono B1.out.size))
      by_cases hlt : k < ds.length
      · obtain ⟨db, do', rfl, _, c0, c1⟩ := FDeed_at (HR.out _ HB.out) hlt
        have hd := HALL.out _ (List.getElem_mem hlt)
        have i1 : (k : Int) < (ds.length : Int) := by omega
        have hcl : k < (codesS t xss bs sm' wk' ds (newS sm' wk')).length := by rw [codesS_len]; exact hlt
        have hst := firstBad_step hcl
        rw [codesS_get hlt] at hst
        have has := afterS_succ (t := t) (xss := xss) (bs := bs) (sm := sm') (wk := wk') hlt (newS sm' wk')
        have hI := afterS_inv (n := n') (bs := bs) (wk := wk') HCH.out hs.1 (ds.take k) (newS sm' wk') (fun d h => HALL.out d (List.mem_of_mem_take h)) (PInv.new hs.1)
        generalize ds[k] = d at c0 c1 hd hst has
        obtain ⟨dk, da⟩ := d
        dsimp only at c0 c1 hd
        have KW := Lib.hid (K1.out.below hb)
        have bd : Below wr.heap.size wr (wr.alloc (.cells #[.int .i64 dk, .int .i64 da] 68)) := (Below.refl _ _).alloc (Nat.le_refl _) _
        have HD := Lib.hid (PlDo_any t bs (wr.alloc (.cells #[.int .i64 dk, .int .i64 da] 68)) (hp.below bd) hI hs hwk ((HA.out _ HB.out).below bd) HCH.out hbs dk da hd)
        generalize afterS t xss bs sm' wk' (ds.take k) (newS sm' wk') = Sk at HD has hst
        generalize hR : doS t xss bs sm' wk' (dk, da) Sk = R at HD has hst
        obtain ⟨c, Sn⟩ := R
        have HST := Lib.hid hst
        have HAS := Lib.hid has
        have HBR := Lib.hid hb
        have HBD := Lib.hid bd
        have lz : w.heap.size < wr.heap.size := KW.out.1
        have nz : ¬ w.heap.size = wr.heap.size := Nat.ne_of_lt lz
        have mz : ¬ wr.heap.size = w.heap.size := fun h => nz h.symm
        have k0 := KW.out.get 0 _ rfl
        have k1 := KW.out.get 1 _ rfl
        have k2 := KW.out.get 2 _ rfl
        have k3 := KW.out.get 3 _ rfl
        have k4 := KW.out.get 4 _ rfl
        have k5 := KW.out.get 5 _ rfl
        clear hst has hp hI hR hb bd hcl
        go_wp2_with fail
        refine HD.out.mono ?_
        intro e w4 h
        obtain ⟨rfl, ⟨vl', vr', ve', vh', vw', vo', P4⟩, F4⟩ := h
        have hb4 : Below w1.heap.size w1 w4 := (HBR.out.trans (HBD.out.mono HBR.out.size)).trans (F4.below (HBR.out.trans (HBD.out.mono HBR.out.size)).size (fun k h => h))
        have P4 := Lib.hid (P4.mono (B' := fun k => w1.heap.size ≤ k) (fun k hk => hk.elim (fun h => h) (fun h => Nat.le_trans (HBR.out.trans (HBD.out.mono HBR.out.size)).size h)))
        have HB4 := Lib.hid hb4
        clear k0 k1 k2 k3 k4 k5 lz nz mz c0 c1 F4 hb4
        by_cases hc : c = 0
        · have tc : (c != 0) = false := by simp [hc]
          have HN := Lib.hid (hfb.out.trans (HST.out.trans (if_pos hc)))
          clear hc
          go_wp2
          go_roundw
          case rel => exact ⟨k + 1, by omega, by go_num, HN, ⟨_, _, _, _, _, _, by rw [HAS.out]; exact P4.out⟩, HB4.out⟩
          case measure => simp [intOf]; omega
        · have tc : (c != 0) = true := by simp [hc]
          have HN := Lib.hid (hfb.out.trans (HST.out.trans (if_neg hc)))
          clear hc
          go_wp2
          refine bodyPost_ret (v := .tuple #[.int .i64 k, .int .i64 c, .int .i64 0]) (by simp [results, Try.results31, go_sem]) rfl ?_
          exact ⟨by rw [HF.out, HN.out]; rfl, B1.out.trans (HB4.out.mono B1.out.size)⟩
      · obtain rfl : k = ds.length := by omega
        have HN := Lib.hid (hfb.out.trans (by rw [List.drop_eq_nil_of_le (by rw [codesS_len]; exact Nat.le_refl _)]; rfl : _ = ((0 : Int), (0 : Int), (6 : Int))))
        clear hfb hp
        go_wp2
        refine bodyPost_ret (v := .tuple #[.int .i64 0, .int .i64 0, .int .i64 6]) (by simp [results, Try.results31, go_sem]) rfl ?_
        exact ⟨by rw [HF.out, HN.out]; rfl, HB.out⟩
  · have HF := Lib.hid (show refR n t xss bs sm wk ds = (0, 0, q) by unfold refR; rw [HQ.out, if_neg h0])
    have t0 : (q != 0) = true := by simp [h0]
    clear hq h0
    go_enter Try.func31, Try.ntmps31
    go_wp2_with fail
    refine K.out.mono ?_
    rintro e w1 ⟨rfl, b1⟩
    go_wp2
    refine bodyPost_ret (v := .tuple #[.int .i64 0, .int .i64 0, .int .i64 q]) (by simp [results, Try.results31, go_sem]) rfl ?_
    exact ⟨by rw [HF.out]; rfl, bx.trans (b1.mono bx.size)⟩
end Go.Proofs.Ytijpkcdalmlaiaa
namespace Go.Proofs.Ytijpkcdalmlaiaa
open Go.RowKit Go.Sort
theorem Flat.Own.raise {α : Type} {F : Flat α} {w : World} {b m : Nat} {v : Value} {xs : List α} (h : F.Own w b v xs) (hm : ∀ g, v.ownBlock = some g → m ≤ g) : F.Own w m v xs := by
  refine ⟨h.1, ?_⟩
  rcases h.2 with h2 | ⟨g, cap, cur, h1, h2, h3, h4⟩
  · exact .inl h2
  · exact .inr ⟨g, cap, cur, h1, hm g (by rw [h1]; rfl), h3, h4⟩
theorem PlV.out {w : World} {m : Nat} {S : PS} {vl vr ve vh vw vo : Value} (h : PlV w (fun k => m ≤ k) S vl vr ve vh vw vo) : OwnI w m vo S.out := by
  have h1 : FI.Own w 0 vo S.out := h.own 5 _ rfl
  rw [← FI_own]
  exact Flat.Own.raise h1 (fun g hg => h.inB 5 g (by show some vo.ownBlock = _; rw [hg]))
/-- a plant as a value -/
def plV (S : PS) (vl vr ve vh vw vo : Value) : Value := .agg #[vl, vr, .int .i64 S.q, ve, .int .i64 S.sy, vh, vw, vo]

set_option maxRecDepth 100000 in
set_option maxHeartbeats 4000000 in
theorem after_any {u : Value} {xss : List (List Int)} {ds : List (Int × Int)} {rv : Value} (n t bs sm wk : Int) (w : World) (ha : SlII w u xss) (hr : FDeed.Sl w rv ds) (hok : serviceOk n t xss bs sm wk = true) (hall : ∀ d ∈ ds, deedOk d.1 d.2 = true) :
    Calls Try.prog 46 #[.agg #[.int .i64 n, .int .i64 t, u, .int .i64 bs, .int .i64 sm, .int .i64 wk], rv] w fun e w' => ∃ vl vr ve vh vw vo, e = .returned (.tuple #[plV (afterS t xss bs sm.toNat wk.toNat ds (newS sm.toNat wk.toNat)) vl vr ve vh vw vo, .int .i64 (doneS (codesS t xss bs sm.toNat wk.toNat ds (newS sm.toNat wk.toNat)))]) ∧ PlV w' (fun k => w.heap.size ≤ k) (afterS t xss bs sm.toNat wk.toNat ds (newS sm.toNat wk.toNat)) vl vr ve vh vw vo ∧ Below w.heap.size w w' := by
  have HA := Lib.hid (fun W (h : Below w.heap.size w W) => ha.below h)
  have HR := Lib.hid (fun W (h : Below w.heap.size w W) => hr.below h)
  obtain ⟨ra, rc, rfl, hrc, hrc2, _⟩ := id hr
  obtain ⟨a, ca, us, rfl, _⟩ := id ha
  unfold maxLen at hrc2
  have bA : Below w.heap.size w (w.alloc (.cells #[.int .i64 n, .int .i64 t, .slice a xss.length ca, .int .i64 bs, .int .i64 sm, .int .i64 wk] 35)) := (Below.refl _ _).alloc (Nat.le_refl _) _
  have KA := CellsAt.new w [.int .i64 n, .int .i64 t, .slice a xss.length ca, .int .i64 bs, .int .i64 sm, .int .i64 wk] 35
  have bB : Below (w.alloc (.cells #[.int .i64 n, .int .i64 t, .slice a xss.length ca, .int .i64 bs, .int .i64 sm, .int .i64 wk] 35)).heap.size (w.alloc (.cells #[.int .i64 n, .int .i64 t, .slice a xss.length ca, .int .i64 bs, .int .i64 sm, .int .i64 wk] 35)) ((w.alloc (.cells #[.int .i64 n, .int .i64 t, .slice a xss.length ca, .int .i64 bs, .int .i64 sm, .int .i64 wk] 35)).alloc (.cells #[.slice none 0 0, .slice none 0 0, .int .i64 0, .slice none 0 0, .int .i64 0, .slice none 0 0, .slice none 0 0, .slice none 0 0] 61)) := (Below.refl _ _).alloc (Nat.le_refl _) _
  obtain ⟨W2, hW2⟩ : ∃ W2, W2 = (w.alloc (.cells #[.int .i64 n, .int .i64 t, .slice a xss.length ca, .int .i64 bs, .int .i64 sm, .int .i64 wk] 35)).alloc (.cells #[.slice none 0 0, .slice none 0 0, .int .i64 0, .slice none 0 0, .int .i64 0, .slice none 0 0, .slice none 0 0, .slice none 0 0] 61) := ⟨_, rfl⟩
  have K1 := Lib.hid (show CellsAt W2 w.heap.size [.int .i64 n, .int .i64 t, .slice a xss.length ca, .int .i64 bs, .int .i64 sm, .int .i64 wk] by rw [hW2]; exact KA.below bB)
  have QW := Lib.hid (show ∀ W, Below W2.heap.size W2 W → ∀ i : Nat, i < 8 → (∃ u, W.cell? ⟨w.heap.size + 1, i, none⟩ = some u) ∧ W.frozen? ⟨w.heap.size + 1, i, none⟩ = false from fun W h i hi => by
    rw [hW2] at h
    have a1 := h.cell (p := ⟨w.heap.size + 1, i, none⟩) (by simp)
    have a2 := h.frozen (p := ⟨w.heap.size + 1, i, none⟩) (by simp)
    rw [a1, a2]
    match i, hi with
    | 0, _ => simp [go_sem]
    | 1, _ => simp [go_sem]
    | 2, _ => simp [go_sem]
    | 3, _ => simp [go_sem]
    | 4, _ => simp [go_sem]
    | 5, _ => simp [go_sem]
    | 6, _ => simp [go_sem]
    | 7, _ => simp [go_sem])
  rw [← hW2] at bB
  have B1 := Lib.hid (bA.trans (bB.mono bA.size))
  have HZ := Lib.hid (show W2.heap.size = w.heap.size + 2 by rw [hW2]; simp)
  have HW2 := Lib.hid hW2.symm
  obtain ⟨n', sm', wk', rfl, rfl, rfl, hs, hwk, hn6⟩ := servOk_nat hok
  obtain ⟨hch, _, _, hbs⟩ := serviceOk_parts hok
  rw [Int.toNat_natCast, Int.toNat_natCast]
  have HALL := Lib.hid hall
  have HCH := Lib.hid hch
  clear ha hr hall hch hok bA bB KA hW2
  go_enter Try.func46, Try.ntmps46
  have k0 := K1.out.get 0 _ rfl
  have k1 := K1.out.get 1 _ rfl
  have k2 := K1.out.get 2 _ rfl
  have k3 := K1.out.get 3 _ rfl
  have k4 := K1.out.get 4 _ rfl
  have k5 := K1.out.get 5 _ rfl
  go_upto_region 1 with (fail)
  rw [HW2.out]
  go_wp2_with fail
  refine (newPlant_any n' t bs W2 hs hwk).mono ?_
  rintro e w2 ⟨vl, vr, vh, rfl, pv, b2⟩
  obtain ⟨va0, vn0, vc0, rfl⟩ : ∃ x y z, vl = .slice x y z := by
    have h := pv.own 0 _ rfl
    obtain ⟨x, z, h1, _⟩ := ownsRow_rd h
    exact ⟨x, _, z, h1⟩
  obtain ⟨vr0, rn0, rc0, rfl⟩ : ∃ x y z, vr = .slice x y z := by
    have h := pv.own 1 _ rfl
    obtain ⟨x, z, h1, _⟩ := ownsRow_rd h
    exact ⟨x, _, z, h1⟩
  obtain ⟨vh0, hn0, hc0, rfl⟩ : ∃ x y z, vh = .slice x y z := by
    have h := pv.own 3 _ rfl
    obtain ⟨x, z, h1, _⟩ := ownsRow_rd h
    exact ⟨x, _, z, h1⟩
  have P3 := pv.box
  have b3 : Below w2.heap.size w2 (w2.alloc (.cells #[.slice va0 vn0 vc0, .slice vr0 rn0 rc0, .int .i64 0, .slice none 0 0, .int .i64 0, .slice vh0 hn0 hc0, .slice none 0 0, .slice none 0 0] 61)) := (Below.refl _ _).alloc (Nat.le_refl _) _
  obtain ⟨W3, hW3⟩ : ∃ W3, W3 = w2.alloc (.cells #[.slice va0 vn0 vc0, .slice vr0 rn0 rc0, .int .i64 0, .slice none 0 0, .int .i64 0, .slice vh0 hn0 hc0, .slice none 0 0, .slice none 0 0] 61) := ⟨_, rfl⟩
  have P3 := Lib.hid (show PlIs W3 w2.heap.size 0 (fun k => W2.heap.size ≤ k) (newS sm' wk') (.slice va0 vn0 vc0) (.slice vr0 rn0 rc0) (.slice none 0 0) (.slice vh0 hn0 hc0) (.slice none 0 0) (.slice none 0 0) from by
    rw [hW3]
    exact P3.mono (fun k hk => hk.elim (fun h => h) (fun h => Nat.le_trans b2.size h)))
  rw [← hW3] at b3
  have b13 : Below W2.heap.size W2 W3 := b2.trans (b3.mono b2.size)
  have B13 := Lib.hid b13
  have HW3 := Lib.hid hW3.symm
  clear k0 k1 k2 k3 k4 k5 pv b2 b3 hW3 b13
  go_wp2
  rw [HW3.out]
  go_loopw [7, 14] (fun c i wr => ∃ k : Nat, k ≤ ds.length ∧ i = .int .i64 k ∧ c = .int .i64 (doneS (codesS t xss bs sm' wk' (ds.take k) (newS sm' wk'))) ∧ (∃ vl vr ve vh vw vo, PlIs wr w2.heap.size 0 (fun k => W2.heap.size ≤ k) (afterS t xss bs sm' wk' (ds.take k) (newS sm' wk')) vl vr ve vh vw vo) ∧ Below W2.heap.size W2 wr) (fun _ i _ => ds.length - (intOf i).toNat)
  case atStart => exact ⟨0, Nat.zero_le _, rfl, rfl, ⟨_, _, _, _, _, _, P3.out⟩, B13.out⟩
  case round =>
    obtain ⟨k, hk, rfl, rfl, ⟨vl, vr, ve, vh, vw, vo, hp⟩, hb⟩ := hrel
    have HB := Lib.hid (B1.out.trans (hb.mono B1.out.size))
    by_cases hlt : k < ds.length
    · obtain ⟨db, do', rfl, _, c0, c1⟩ := FDeed_at (HR.out _ HB.out) hlt
      have hd := HALL.out _ (List.getElem_mem hlt)
      have i1 : (k : Int) < (ds.length : Int) := by omega
      have has := afterS_succ (t := t) (xss := xss) (bs := bs) (sm := sm') (wk := wk') hlt (newS sm' wk')
      have hcs := codesS_succ (t := t) (xss := xss) (bs := bs) (sm := sm') (wk := wk') hlt (newS sm' wk')
      have hI := afterS_inv (n := n') (bs := bs) (wk := wk') HCH.out hs.1 (ds.take k) (newS sm' wk') (fun d h => HALL.out d (List.mem_of_mem_take h)) (PInv.new hs.1)
      have hdl := doneS_le (codesS t xss bs sm' wk' (ds.take k) (newS sm' wk'))
      rw [codesS_len, List.length_take] at hdl
      have hdl : doneS (codesS t xss bs sm' wk' (ds.take k) (newS sm' wk')) ≤ k := by omega
      generalize ds[k] = d at c0 c1 hd has hcs
      obtain ⟨dk, da⟩ := d
      dsimp only at c0 c1 hd
      have KW := Lib.hid (K1.out.below hb)
      have bd : Below wr.heap.size wr (wr.alloc (.cells #[.int .i64 dk, .int .i64 da] 68)) := (Below.refl _ _).alloc (Nat.le_refl _) _
      have HD := Lib.hid (PlDo_any t bs (wr.alloc (.cells #[.int .i64 dk, .int .i64 da] 68)) (hp.below bd) hI hs hwk ((HA.out _ HB.out).below bd) HCH.out hbs dk da hd)
      generalize afterS t xss bs sm' wk' (ds.take k) (newS sm' wk') = Sk at HD has hcs
      generalize codesS t xss bs sm' wk' (ds.take k) (newS sm' wk') = Ck at hcs hdl ⊢
      generalize hR : doS t xss bs sm' wk' (dk, da) Sk = R at HD has hcs
      obtain ⟨c, Sn⟩ := R
      have hdn : doneS (codesS t xss bs sm' wk' (ds.take (k + 1)) (newS sm' wk')) = doneS Ck + if c = 0 then 1 else 0 := by rw [hcs, doneS_snoc]
      have HDN := Lib.hid hdn
      have HAS := Lib.hid has
      have HBR := Lib.hid hb
      have HBD := Lib.hid bd
      have lz : w.heap.size < wr.heap.size := KW.out.1
      have nz : ¬ w.heap.size = wr.heap.size := Nat.ne_of_lt lz
      have mz : ¬ wr.heap.size = w.heap.size := fun h => nz h.symm
      generalize doneS Ck = D at HDN hdl ⊢
      have k0 := KW.out.get 0 _ rfl
      have k1 := KW.out.get 1 _ rfl
      have k2 := KW.out.get 2 _ rfl
      have k3 := KW.out.get 3 _ rfl
      have k4 := KW.out.get 4 _ rfl
      have k5 := KW.out.get 5 _ rfl
      clear has hcs hdn hp hI hR hb bd
      go_wp2_with fail
      refine HD.out.mono ?_
      intro e w4 h
      obtain ⟨rfl, ⟨vl', vr', ve', vh', vw', vo', P4⟩, F4⟩ := h
      have hb4 : Below W2.heap.size W2 w4 := (HBR.out.trans (HBD.out.mono HBR.out.size)).trans (F4.below (HBR.out.trans (HBD.out.mono HBR.out.size)).size (fun k h => h))
      have P4 := Lib.hid (P4.mono (B' := fun k => W2.heap.size ≤ k) (fun k hk => hk.elim (fun h => h) (fun h => Nat.le_trans (HBR.out.trans (HBD.out.mono HBR.out.size)).size h)))
      have HB4 := Lib.hid hb4
      clear k0 k1 k2 k3 k4 k5 lz nz mz c0 c1 F4 hb4
      by_cases hc : c = 0
      · have tc : (c == 0) = true := by simp [hc]
        have HN := Lib.hid (HDN.out.trans (by rw [if_pos hc]))
        clear hc HDN
        go_wp2
        go_roundw
        case rel => exact ⟨k + 1, by omega, by go_num, by rw [HN.out]; go_num, ⟨_, _, _, _, _, _, by rw [HAS.out]; exact P4.out⟩, HB4.out⟩
        case measure => simp [intOf]; omega
      · have tc : (c == 0) = false := by simp [hc]
        have HN := Lib.hid (HDN.out.trans (by rw [if_neg hc]))
        clear hc HDN
        go_wp2
        go_roundw
        case rel => exact ⟨k + 1, by omega, by go_num, by rw [HN.out, Nat.add_zero], ⟨_, _, _, _, _, _, by rw [HAS.out]; exact P4.out⟩, HB4.out⟩
        case measure => simp [intOf]; omega
    · obtain rfl : k = ds.length := by omega
      rw [List.take_length] at hp ⊢
      generalize hsk : afterS t xss bs sm' wk' ds (newS sm' wk') = Sk at hp ⊢
      generalize hdk : doneS (codesS t xss bs sm' wk' ds (newS sm' wk')) = D
      have HSK := Lib.hid hsk
      have HDK := Lib.hid hdk
      clear hsk hdk
      have PV := Lib.hid hp.val
      have ⟨⟨g0, g1, g2, g3⟩, g4, g5, g6, g7⟩ := hp.get
      obtain ⟨⟨u0, e0⟩, f0⟩ := QW.out _ hb 0 (by decide)
      obtain ⟨⟨u1, e1⟩, f1⟩ := QW.out _ hb 1 (by decide)
      obtain ⟨⟨u2, e2⟩, f2⟩ := QW.out _ hb 2 (by decide)
      obtain ⟨⟨u3, e3⟩, f3⟩ := QW.out _ hb 3 (by decide)
      obtain ⟨⟨u4, e4⟩, f4⟩ := QW.out _ hb 4 (by decide)
      obtain ⟨⟨u5, e5⟩, f5⟩ := QW.out _ hb 5 (by decide)
      obtain ⟨⟨u6, e6⟩, f6⟩ := QW.out _ hb 6 (by decide)
      obtain ⟨⟨u7, e7⟩, f7⟩ := QW.out _ hb 7 (by decide)
      obtain ⟨x0, y0, z0, rfl⟩ : ∃ x y z, vl = .slice x y z := by
        obtain ⟨x, z, h1, _⟩ := ownsRow_rd (PV.out.own 0 _ rfl)
        exact ⟨x, _, z, h1⟩
      obtain ⟨x1, y1, z1, rfl⟩ : ∃ x y z, vr = .slice x y z := by
        obtain ⟨x, z, h1, _⟩ := ownsRow_rd (PV.out.own 1 _ rfl)
        exact ⟨x, _, z, h1⟩
      obtain ⟨x3, y3, z3, rfl⟩ : ∃ x y z, ve = .slice x y z := by
        obtain ⟨x, z, h1, _⟩ := ownsRow_rd (PV.out.own 2 _ rfl)
        exact ⟨x, _, z, h1⟩
      obtain ⟨x5, y5, z5, rfl⟩ : ∃ x y z, vh = .slice x y z := by
        obtain ⟨x, z, h1, _⟩ := ownsRow_rd (PV.out.own 3 _ rfl)
        exact ⟨x, _, z, h1⟩
      obtain ⟨x6, y6, z6, rfl⟩ : ∃ x y z, vw = .slice x y z := by
        obtain ⟨x, z, h1, _⟩ := ownsRow_rd (PV.out.own 4 _ rfl)
        exact ⟨x, _, z, h1⟩
      obtain ⟨x7, y7, z7, rfl⟩ : ∃ x y z, vo = .slice x y z := by
        obtain ⟨x, z, h1, _⟩ := ownsRow_rd (PV.out.own 5 _ rfl)
        exact ⟨x, _, z, h1⟩
      generalize hq : Sk.q = Q at g2
      generalize hy : Sk.sy = Y at g4
      have HQ := Lib.hid hq
      have HY := Lib.hid hy
      clear hp hq hy
      go_wp2
      refine bodyPost_ret (v := .tuple #[.agg #[.slice x0 y0 z0, .slice x1 y1 z1, .int .i64 Q, .slice x3 y3 z3, .int .i64 Y, .slice x5 y5 z5, .slice x6 y6 z6, .slice x7 y7 z7], .int .i64 D]) (by simp [results, Try.results46, go_sem, e0, e1, e2, e3, e4, e5, e6, e7]) rfl ⟨_, _, _, _, _, _, by unfold plV; rw [HSK.out, HDK.out, HQ.out, HY.out], ?_, ?_⟩
      · rw [HSK.out]
        refine (PV.out.fs (T := fun k => k = w.heap.size + 1) ?_ (fun k hk h => by have := HZ.out; omega)).mono (fun k hk => by have := HZ.out; omega)
        repeat (refine Fs.set (S := fun k => k = w.heap.size + 1) ?_ rfl _)
        exact Fs.refl _ _
      · repeat (refine Below.setCell ?_ (by simp) _)
        exact HB.out

set_option maxRecDepth 100000 in
set_option maxHeartbeats 4000000 in
theorem ImplHandedOut_any {u : Value} {xss : List (List Int)} {ds : List (Int × Int)} {rv : Value} (n t bs sm wk : Int) (w : World) (ha : SlII w u xss) (hr : FDeed.Sl w rv ds) :
    Calls Try.prog 14 #[.agg #[.int .i64 n, .int .i64 t, u, .int .i64 bs, .int .i64 sm, .int .i64 wk], rv] w fun e w' => ∃ v, e = .returned (.tuple #[v, .int .i64 (handR n t xss bs sm wk ds).2]) ∧ OwnI w' w.heap.size v (handR n t xss bs sm wk ds).1 ∧ Below w.heap.size w w' := by
  have HA := Lib.hid (fun W (h : Below w.heap.size w W) => ha.below h)
  have HR := Lib.hid (fun W (h : Below w.heap.size w W) => hr.below h)
  obtain ⟨ra, rc, rfl, hrc, hrc2, _⟩ := id hr
  obtain ⟨a, ca, us, rfl, _⟩ := id ha
  unfold maxLen at hrc2
  have bx : Below w.heap.size w (w.alloc (.cells #[.int .i64 n, .int .i64 t, .slice a xss.length ca, .int .i64 bs, .int .i64 sm, .int .i64 wk] 35)) := (Below.refl _ _).alloc (Nat.le_refl _) _
  have KX := Lib.hid (CellsAt.new w [.int .i64 n, .int .i64 t, .slice a xss.length ca, .int .i64 bs, .int .i64 sm, .int .i64 wk] 35)
  have K := Lib.hid (deedsCode_any n t bs sm wk _ (ha.below bx) (hr.below bx))
  generalize hq : dcode n t xss bs sm wk ds = q at K
  have HQ := Lib.hid hq
  by_cases h0 : q = 0
  · subst h0
    obtain ⟨hok, hall, hlen⟩ := dcode_zero hq
    have HF := Lib.hid (show handR n t xss bs sm wk ds = ((afterS t xss bs sm.toNat wk.toNat ds (newS sm.toNat wk.toNat)).out, 0) by unfold handR; rw [if_pos HQ.out])
    have HALL := Lib.hid hall
    have t0 : ((0 : Int) != 0) = false := rfl
    clear hq ha hr hall HQ
    go_enter Try.func14, Try.ntmps14
    go_wp2_with fail
    refine K.out.mono ?_
    rintro e w1 ⟨rfl, b1⟩
    have B1 := Lib.hid (bx.trans (b1.mono bx.size))
    have K1 := Lib.hid (KX.out.below b1)
    have k0 := K1.out.get 0 _ rfl
    have k1 := K1.out.get 1 _ rfl
    have k2 := K1.out.get 2 _ rfl
    have k3 := K1.out.get 3 _ rfl
    have k4 := K1.out.get 4 _ rfl
    have k5 := K1.out.get 5 _ rfl
    clear bx b1 K KX
    go_wp2_with fail
    refine (after_any n t bs sm wk w1 (HA.out _ B1.out) (HR.out _ B1.out) hok HALL.out).mono ?_
    rintro e w2 ⟨vl, vr, ve, vh, vw, vo, rfl, pv, b2⟩
    generalize afterS t xss bs sm.toNat wk.toNat ds (newS sm.toNat wk.toNat) = Sk at pv HF
    generalize codesS t xss bs sm.toNat wk.toNat ds (newS sm.toNat wk.toNat) = Ck
    generalize doneS Ck = D
    obtain ⟨x0, y0, z0, rfl⟩ : ∃ x y z, vl = .slice x y z := by
      obtain ⟨x, z, h1, _⟩ := ownsRow_rd (pv.own 0 _ rfl)
      exact ⟨x, _, z, h1⟩
    obtain ⟨x1, y1, z1, rfl⟩ : ∃ x y z, vr = .slice x y z := by
      obtain ⟨x, z, h1, _⟩ := ownsRow_rd (pv.own 1 _ rfl)
      exact ⟨x, _, z, h1⟩
    obtain ⟨x3, y3, z3, rfl⟩ : ∃ x y z, ve = .slice x y z := by
      obtain ⟨x, z, h1, _⟩ := ownsRow_rd (pv.own 2 _ rfl)
      exact ⟨x, _, z, h1⟩
    obtain ⟨x5, y5, z5, rfl⟩ : ∃ x y z, vh = .slice x y z := by
      obtain ⟨x, z, h1, _⟩ := ownsRow_rd (pv.own 3 _ rfl)
      exact ⟨x, _, z, h1⟩
    obtain ⟨x6, y6, z6, rfl⟩ : ∃ x y z, vw = .slice x y z := by
      obtain ⟨x, z, h1, _⟩ := ownsRow_rd (pv.own 4 _ rfl)
      exact ⟨x, _, z, h1⟩
    obtain ⟨x7, y7, z7, rfl⟩ : ∃ x y z, vo = .slice x y z := by
      obtain ⟨x, z, h1, _⟩ := ownsRow_rd (pv.own 5 _ rfl)
      exact ⟨x, _, z, h1⟩
    have O := Lib.hid (show OwnI w2 w1.heap.size (.slice x7 y7 z7) Sk.out from pv.out)
    unfold plV
    generalize Sk.q = Q
    generalize Sk.sy = Y
    have B2 := Lib.hid (B1.out.trans (b2.mono B1.out.size))
    have b2w := b2
    clear k0 k1 k2 k3 k4 k5 pv b2
    go_wp2
    refine bodyPost_ret (v := .tuple #[.slice x7 y7 z7, .int .i64 0]) (by simp [results, Try.results14, go_sem]) rfl ⟨_, by rw [HF.out], ?_, ?_⟩
    · rw [HF.out]
      exact (O.out.below ((Below.refl _ _).alloc (Nat.le_refl _) _)).lower B1.out.size
    · exact B2.out.alloc B2.out.size _
  · have HF := Lib.hid (show handR n t xss bs sm wk ds = ([], q) by unfold handR; rw [HQ.out, if_neg h0])
    have t0 : (q != 0) = true := by simp [h0]
    clear hq h0
    go_enter Try.func14, Try.ntmps14
    go_wp2_with fail
    refine K.out.mono ?_
    rintro e w1 ⟨rfl, b1⟩
    go_wp2
    refine bodyPost_ret (v := .tuple #[.slice none 0 0, .int .i64 q]) (by simp [results, Try.results14, go_sem]) rfl ⟨_, by rw [HF.out], ?_, bx.trans (b1.mono bx.size)⟩
    rw [HF.out]
    exact OwnI.nil _ _
end Go.Proofs.Ytijpkcdalmlaiaa
namespace Go.Proofs.Ytijpkcdalmlaiaa
open Go.RowKit Go.Sort
/-- the plant after deeds, from the beginning -/
def plS (t : Int) (xss : List (List Int)) (bs sm wk : Int) (ds : List (Int × Int)) : PS := afterS t xss bs sm.toNat wk.toNat ds (newS sm.toNat wk.toNat)
def plC (t : Int) (xss : List (List Int)) (bs sm wk : Int) (ds : List (Int × Int)) : List Int := codesS t xss bs sm.toNat wk.toNat ds (newS sm.toNat wk.toNat)
def PlRes (w w' : World) (S : PS) (d : Int) (e : Ending) : Prop := ∃ vl vr ve vh vw vo, e = .returned (.tuple #[plV S vl vr ve vh vw vo, .int .i64 d, .int .i64 0]) ∧ PlV w' (fun k => w.heap.size ≤ k) S vl vr ve vh vw vo ∧ Below w.heap.size w w'
def noPlant : Value := .agg #[.slice none 0 0, .slice none 0 0, .int .i64 0, .slice none 0 0, .int .i64 0, .slice none 0 0, .slice none 0 0, .slice none 0 0]

set_option maxRecDepth 100000 in
set_option maxHeartbeats 4000000 in
theorem ImplPlantAfter_ok {u : Value} {xss : List (List Int)} {ds : List (Int × Int)} {rv : Value} (n t bs sm wk : Int) (w : World) (ha : SlII w u xss) (hr : FDeed.Sl w rv ds) (h0 : dcode n t xss bs sm wk ds = 0) :
    Calls Try.prog 30 #[.agg #[.int .i64 n, .int .i64 t, u, .int .i64 bs, .int .i64 sm, .int .i64 wk], rv] w fun e w' => PlRes w w' (plS t xss bs sm wk ds) (doneS (plC t xss bs sm wk ds)) e := by
  have HA := Lib.hid (fun W (h : Below w.heap.size w W) => ha.below h)
  have HR := Lib.hid (fun W (h : Below w.heap.size w W) => hr.below h)
  obtain ⟨ra, rc, rfl, hrc, hrc2, _⟩ := id hr
  obtain ⟨a, ca, us, rfl, _⟩ := id ha
  unfold maxLen at hrc2
  have bA : Below w.heap.size w (w.alloc (.cells #[.int .i64 n, .int .i64 t, .slice a xss.length ca, .int .i64 bs, .int .i64 sm, .int .i64 wk] 35)) := (Below.refl _ _).alloc (Nat.le_refl _) _
  have KA := CellsAt.new w [.int .i64 n, .int .i64 t, .slice a xss.length ca, .int .i64 bs, .int .i64 sm, .int .i64 wk] 35
  have bB : Below (w.alloc (.cells #[.int .i64 n, .int .i64 t, .slice a xss.length ca, .int .i64 bs, .int .i64 sm, .int .i64 wk] 35)).heap.size (w.alloc (.cells #[.int .i64 n, .int .i64 t, .slice a xss.length ca, .int .i64 bs, .int .i64 sm, .int .i64 wk] 35)) ((w.alloc (.cells #[.int .i64 n, .int .i64 t, .slice a xss.length ca, .int .i64 bs, .int .i64 sm, .int .i64 wk] 35)).alloc (.cells #[.slice none 0 0, .slice none 0 0, .int .i64 0, .slice none 0 0, .int .i64 0, .slice none 0 0, .slice none 0 0, .slice none 0 0] 61)) := (Below.refl _ _).alloc (Nat.le_refl _) _
  obtain ⟨W2, hW2⟩ : ∃ W2, W2 = (w.alloc (.cells #[.int .i64 n, .int .i64 t, .slice a xss.length ca, .int .i64 bs, .int .i64 sm, .int .i64 wk] 35)).alloc (.cells #[.slice none 0 0, .slice none 0 0, .int .i64 0, .slice none 0 0, .int .i64 0, .slice none 0 0, .slice none 0 0, .slice none 0 0] 61) := ⟨_, rfl⟩
  have K1 := Lib.hid (show CellsAt W2 w.heap.size [.int .i64 n, .int .i64 t, .slice a xss.length ca, .int .i64 bs, .int .i64 sm, .int .i64 wk] by rw [hW2]; exact KA.below bB)
  have QW := Lib.hid (show ∀ W, Below W2.heap.size W2 W → ∀ i : Nat, i < 8 → (∃ u, W.cell? ⟨w.heap.size + 1, i, none⟩ = some u) ∧ W.frozen? ⟨w.heap.size + 1, i, none⟩ = false from fun W h i hi => by
    rw [hW2] at h
    have a1 := h.cell (p := ⟨w.heap.size + 1, i, none⟩) (by simp)
    have a2 := h.frozen (p := ⟨w.heap.size + 1, i, none⟩) (by simp)
    rw [a1, a2]
    match i, hi with
    | 0, _ => simp [go_sem]
    | 1, _ => simp [go_sem]
    | 2, _ => simp [go_sem]
    | 3, _ => simp [go_sem]
    | 4, _ => simp [go_sem]
    | 5, _ => simp [go_sem]
    | 6, _ => simp [go_sem]
    | 7, _ => simp [go_sem])
  rw [← hW2] at bB
  have B1 := Lib.hid (bA.trans (bB.mono bA.size))
  have HZ := Lib.hid (show W2.heap.size = w.heap.size + 2 by rw [hW2]; simp)
  have HW2 := Lib.hid hW2.symm
  have K := Lib.hid (deedsCode_any n t bs sm wk W2 (HA.out _ B1.out) (HR.out _ B1.out))
  rw [h0] at K
  obtain ⟨hok, hall, hlen⟩ := dcode_zero h0
  have t0 : ((0 : Int) != 0) = false := rfl
  have HALL := Lib.hid hall
  have HOK := Lib.hid hok
  clear ha hr hall hok bA bB KA hW2 h0
  go_enter Try.func30, Try.ntmps30
  have k0 := K1.out.get 0 _ rfl
  have k1 := K1.out.get 1 _ rfl
  have k2 := K1.out.get 2 _ rfl
  have k3 := K1.out.get 3 _ rfl
  have k4 := K1.out.get 4 _ rfl
  have k5 := K1.out.get 5 _ rfl
  go_upto_region 1 with (fail)
  rw [HW2.out]
  go_wp2_with fail
  refine K.out.mono ?_
  rintro e w1 ⟨rfl, b1⟩
  have K3 := Lib.hid (K1.out.below b1)
  have BB1 := Lib.hid b1
  have BW1 := Lib.hid (B1.out.trans (b1.mono B1.out.size))
  clear k0 k1 k2 k3 k4 k5 K b1
  have k0 := K3.out.get 0 _ rfl
  have k1 := K3.out.get 1 _ rfl
  have k2 := K3.out.get 2 _ rfl
  have k3 := K3.out.get 3 _ rfl
  have k4 := K3.out.get 4 _ rfl
  have k5 := K3.out.get 5 _ rfl
  go_wp2_with fail
  refine (after_any n t bs sm wk w1 (HA.out _ BW1.out) (HR.out _ BW1.out) HOK.out HALL.out).mono ?_
  rintro e w2 ⟨vl, vr, ve, vh, vw, vo, rfl, pv, b2⟩
  have HS := Lib.hid (show plS t xss bs sm wk ds = afterS t xss bs sm.toNat wk.toNat ds (newS sm.toNat wk.toNat) from rfl)
  have HC := Lib.hid (show plC t xss bs sm wk ds = codesS t xss bs sm.toNat wk.toNat ds (newS sm.toNat wk.toNat) from rfl)
  generalize afterS t xss bs sm.toNat wk.toNat ds (newS sm.toNat wk.toNat) = Sk at pv HS
  generalize codesS t xss bs sm.toNat wk.toNat ds (newS sm.toNat wk.toNat) = Ck at HC
  have HD := Lib.hid (show doneS (plC t xss bs sm wk ds) = doneS Ck by rw [HC.out])
  generalize doneS Ck = D at HD
  obtain ⟨x0, y0, z0, rfl⟩ : ∃ x y z, vl = .slice x y z := by
    obtain ⟨x, z, h1, _⟩ := ownsRow_rd (pv.own 0 _ rfl)
    exact ⟨x, _, z, h1⟩
  obtain ⟨x1, y1, z1, rfl⟩ : ∃ x y z, vr = .slice x y z := by
    obtain ⟨x, z, h1, _⟩ := ownsRow_rd (pv.own 1 _ rfl)
    exact ⟨x, _, z, h1⟩
  obtain ⟨x3, y3, z3, rfl⟩ : ∃ x y z, ve = .slice x y z := by
    obtain ⟨x, z, h1, _⟩ := ownsRow_rd (pv.own 2 _ rfl)
    exact ⟨x, _, z, h1⟩
  obtain ⟨x5, y5, z5, rfl⟩ : ∃ x y z, vh = .slice x y z := by
    obtain ⟨x, z, h1, _⟩ := ownsRow_rd (pv.own 3 _ rfl)
    exact ⟨x, _, z, h1⟩
  obtain ⟨x6, y6, z6, rfl⟩ : ∃ x y z, vw = .slice x y z := by
    obtain ⟨x, z, h1, _⟩ := ownsRow_rd (pv.own 4 _ rfl)
    exact ⟨x, _, z, h1⟩
  obtain ⟨x7, y7, z7, rfl⟩ : ∃ x y z, vo = .slice x y z := by
    obtain ⟨x, z, h1, _⟩ := ownsRow_rd (pv.own 5 _ rfl)
    exact ⟨x, _, z, h1⟩
  have PV := Lib.hid pv
  have BB2 := Lib.hid (BB1.out.trans (b2.mono BB1.out.size))
  obtain ⟨⟨u0, e0⟩, f0⟩ := QW.out _ BB2.out 0 (by decide)
  obtain ⟨⟨u1, e1⟩, f1⟩ := QW.out _ BB2.out 1 (by decide)
  obtain ⟨⟨u2, e2⟩, f2⟩ := QW.out _ BB2.out 2 (by decide)
  obtain ⟨⟨u3, e3⟩, f3⟩ := QW.out _ BB2.out 3 (by decide)
  obtain ⟨⟨u4, e4⟩, f4⟩ := QW.out _ BB2.out 4 (by decide)
  obtain ⟨⟨u5, e5⟩, f5⟩ := QW.out _ BB2.out 5 (by decide)
  obtain ⟨⟨u6, e6⟩, f6⟩ := QW.out _ BB2.out 6 (by decide)
  obtain ⟨⟨u7, e7⟩, f7⟩ := QW.out _ BB2.out 7 (by decide)
  have B3 := Lib.hid (BW1.out.trans (b2.mono BW1.out.size))
  have ba : Below w2.heap.size w2 (w2.alloc (.cells #[.slice x0 y0 z0, .slice x1 y1 z1, .int .i64 Sk.q, .slice x3 y3 z3, .int .i64 Sk.sy, .slice x5 y5 z5, .slice x6 y6 z6, .slice x7 y7 z7] 61)) := (Below.refl _ _).alloc (Nat.le_refl _) _
  have lz : w.heap.size + 1 < w2.heap.size := by have := HZ.out; have := BB2.out.size; omega
  have nz : ¬ w.heap.size + 1 = w2.heap.size := Nat.ne_of_lt lz
  have mz : ¬ w2.heap.size = w.heap.size + 1 := fun h => nz h.symm
  have HZ1 := Lib.hid BB1.out.size
  unfold plV
  clear k0 k1 k2 k3 k4 k5 pv b2 ba
  go_wp2
  refine bodyPost_ret (v := .tuple #[.agg #[.slice x0 y0 z0, .slice x1 y1 z1, .int .i64 Sk.q, .slice x3 y3 z3, .int .i64 Sk.sy, .slice x5 y5 z5, .slice x6 y6 z6, .slice x7 y7 z7], .int .i64 D, .int .i64 0]) (by simp [results, Try.results30, go_sem, e0, e1, e2, e3, e4, e5, e6, e7, lz, nz, mz]) rfl ⟨_, _, _, _, _, _, by unfold plV; rw [HS.out, HD.out], ?_, ?_⟩
  · rw [HS.out]
    refine (PV.out.fs (T := fun k => k = w.heap.size + 1) ?_ (fun k hk h => by have := HZ.out; have := HZ1.out; omega)).mono (fun k hk => by have := HZ.out; have := HZ1.out; omega)
    refine Fs.trans ?_ (Fs.of_below (w' := World.alloc _ _) ((Below.refl _ _).alloc (Nat.le_refl _) _))
    iterate 8 (refine Fs.set (S := fun k => k = w.heap.size + 1) ?_ rfl _)
    exact Fs.refl _ _
  · refine Below.alloc ?_ (by have := B3.out.size; simpa using this) _
    iterate 8 (refine Below.setCell ?_ (by simp) _)
    exact B3.out
end Go.Proofs.Ytijpkcdalmlaiaa
namespace Go.Proofs.Ytijpkcdalmlaiaa
open Go.RowKit Go.Sort
/-- a plant's value is read -/
structure PlRd (w : World) (S : PS) (vl vr ve vh vw vo : Value) : Prop where
  fl : SlI w vl S.l
  fr : SlI w vr S.r
  fe : FRecord.Sl w ve S.recs
  fh : FHand.Sl w vh S.hands
  fw : FPacket.Sl w vw S.wire
  fo : SlI w vo S.out
theorem PlRd.below {w w' : World} {S : PS} {vl vr ve vh vw vo : Value} (h : PlRd w S vl vr ve vh vw vo) (hb : Below w.heap.size w w') : PlRd w' S vl vr ve vh vw vo :=
  ⟨h.fl.below hb, h.fr.below hb, h.fe.below hb, h.fh.below hb, h.fw.below hb, h.fo.below hb⟩
theorem PlV.rd {w : World} {B : Nat → Prop} {S : PS} {vl vr ve vh vw vo : Value} (h : PlV w B S vl vr ve vh vw vo) : PlRd w S vl vr ve vh vw vo := by
  have h0 : FI.Own w 0 vl S.l := h.own 0 _ rfl
  have h1 : FI.Own w 0 vr S.r := h.own 1 _ rfl
  have h2 : FRecord.Own w 0 ve S.recs := h.own 2 _ rfl
  have h3 : FHand.Own w 0 vh S.hands := h.own 3 _ rfl
  have h4 : FPacket.Own w 0 vw S.wire := h.own 4 _ rfl
  have h5 : FI.Own w 0 vo S.out := h.own 5 _ rfl
  rw [FI_own] at h0 h1 h5
  exact ⟨h0.sl, h1.sl, h2.sl, h3.sl, h4.sl, h5.sl⟩
theorem PlRd.form {w : World} {S : PS} {vl vr ve vh vw vo : Value} (h : PlRd w S vl vr ve vh vw vo) : ∃ l0 l1 r0 r1 e0 e1 h0 h1 w0 w1 o0 o1, vl = .slice l0 S.l.length l1 ∧ vr = .slice r0 S.r.length r1 ∧ ve = .slice e0 S.recs.length e1 ∧ vh = .slice h0 S.hands.length h1 ∧ vw = .slice w0 S.wire.length w1 ∧ vo = .slice o0 S.out.length o1 := by
  obtain ⟨l0, l1, e1, _⟩ := h.fl
  obtain ⟨r0, r1, e2, _⟩ := h.fr
  obtain ⟨x0, x1, e3, _⟩ := h.fe
  obtain ⟨h0, h1, e4, _⟩ := h.fh
  obtain ⟨w0, w1, e5, _⟩ := h.fw
  obtain ⟨o0, o1, e6, _⟩ := h.fo
  exact ⟨_, _, _, _, _, _, _, _, _, _, _, _, e1, e2, e3, e4, e5, e6⟩
end Go.Proofs.Ytijpkcdalmlaiaa
