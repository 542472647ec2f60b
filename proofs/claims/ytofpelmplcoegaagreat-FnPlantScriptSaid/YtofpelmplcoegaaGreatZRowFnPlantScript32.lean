/-
  The reference's plant: the desk made anew, workers' deeds. With it: The reference's plant: a record is written. The reference's plant: packets are sent, the next sample, a sample is handed out.
-/
import Derived.Test.YtofpelmplcoegaaGreatZRowFnPlantScript31
import Derived.Test.YtofpelmplcoegaaGreatZRowFnPlantScript19
import Derived.Test.YtofpelmplcoegaaGreatZRowFnPlantScript28
import Derived.Test.YtofpelmplcoegaaGreatZRowFnPlantScript23
set_option linter.unusedVariables false
set_option linter.unusedSimpArgs false
namespace Go.Proofs.YtofpelmplcoegaaGreat
open Go.RowKit Go.Sort

set_option maxRecDepth 100000 in
set_option maxHeartbeats 4000000 in
theorem RnWrite_any {b sb : Nat} {B : Nat → Prop} {S : PS} {vl vr ve vh vw vo : Value} {sm j : Nat} (k v : Int) (w : World) (P : RunIs w b sb B S vl vr ve vh vw vo) (hD : PlOk sm S) (hk : k = 1 ∨ k = 2 ∨ k = 3) (hj : j < sm) :
    Calls Tryz.prog 124 #[.pointer (some ⟨b, 0, none⟩), .agg #[.int .i64 k, .int .i64 j, .int .i64 v]] w fun e w' => e = .returned (.tuple #[]) ∧ ∃ ve', RunIs w' b sb (Bm B w.heap.size) (writeS S (k, j, v)) vl vr ve' vh vw vo ∧ Fs B w w' := by
  obtain ⟨hd, hs1, hs8, hrl, _, _⟩ := hD
  obtain ⟨d1, d2, d3, d4, d5⟩ := hd
  obtain ⟨gl, cl, gr, cr, rfl, rfl, _⟩ := P.desk
  obtain ⟨ea, ec, rfl, _, _⟩ := P.oe.shape
  have b1 : Below w.heap.size w (w.alloc (.cells #[.int .i64 k, .int .i64 j, .int .i64 v] 118)) := (Below.refl _ _).alloc (Nat.le_refl _) _
  have R1 := Lib.hid (Box3v.new w (.int .i64 k) (.int .i64 j) (.int .i64 v) 118)
  obtain ⟨W1, hW1⟩ : ∃ W1, W1 = w.alloc (.cells #[.int .i64 k, .int .i64 j, .int .i64 v] 118) := ⟨_, rfl⟩
  rw [← hW1] at b1 R1
  have HZ1 := Lib.hid (show W1.heap.size = w.heap.size + 1 by rw [hW1]; simp)
  have P1 := Lib.hid (P.below b1)
  have HB := Lib.hid P.ownB
  have HL := Lib.hid P.ownLt
  have HE := Lib.hid (P.row (i := 2) rfl)
  have F1 := Lib.hid (Fs.of_below (S := B) b1)
  have hbl := P.blt
  obtain ⟨W2, hW2⟩ : ∃ W2, W2 = (W1.alloc (.cells #[.int .i64 k, .int .i64 j, .int .i64 v] 118)).drew := ⟨_, rfl⟩
  have b2 : Below W1.heap.size W1 W2 := by rw [hW2]; exact ((Below.refl _ _).alloc (Nat.le_refl _) _).drew
  have P2 := Lib.hid (P1.out.below b2)
  have R2 := Lib.hid (R1.out.below b2)
  have F2 := Lib.hid (F1.out.trans (Fs.of_below b2))
  have RD := Lib.hid (show Rd W2 (some ⟨W1.heap.size, 0, none⟩) (FRecord.encs [(k, (j : Int), v)]) by
    rw [hW2]
    exact (rd_new W1 #[.int .i64 k, .int .i64 j, .int .i64 v] 118).below (Below.refl _ _).drew)
  have CW := Lib.hid (show ∀ W, Below W1.heap.size W1 W → (W.cell? ⟨b, 4, none⟩ = some (.slice ea S.recs.length ec) ∧ W.cell? ⟨w.heap.size, 0, none⟩ = some (.int .i64 k) ∧ W.cell? ⟨w.heap.size, 1, none⟩ = some (.int .i64 j) ∧ W.cell? ⟨w.heap.size, 2, none⟩ = some (.int .i64 v)) from fun W h => by
    obtain ⟨⟨_, _, _, _, q3⟩, _⟩ := (P1.out.below h).get
    obtain ⟨_, r0, r1, r2⟩ := R1.out.below h
    exact ⟨q3, r0, r1, r2⟩)
  have hz2 : W1.heap.size < W2.heap.size := by rw [hW2]; simp
  have HZ2 := Lib.hid (show w.heap.size ≤ W2.heap.size by have := HZ1.out; omega)
  have HW1 := Lib.hid hW1.symm
  have HW2 := Lib.hid hW2.symm
  have hln : S.recs.length + [(k, (j : Int), v)].length ≤ 16777216 := by simp; omega
  clear P b1 b2 hW1 hW2
  go_enter Tryz.func124, Tryz.ntmps124
  go_wp2_with fail
  rw [HW1.out]
  refine wpX_start (fun W => W.cell? ⟨b, 4, none⟩ = some (.slice ea S.recs.length ec) ∧ W.cell? ⟨w.heap.size, 0, none⟩ = some (.int .i64 k) ∧ W.cell? ⟨w.heap.size, 1, none⟩ = some (.int .i64 j) ∧ W.cell? ⟨w.heap.size, 2, none⟩ = some (.int .i64 v)) [8, 9, 10, 11, 12] (by kernel_rfl) ?_
  have hC := CW.out W1.drew (Below.refl W1.heap.size W1).drew
  refine wpX_free (i := 0) (v := ?_) rfl (by kernel_rfl) (fun _ _ _ h => h) rfl (fun w' => ?_) ?_
  rotate_left
  · go_simp; try with_reducible rfl
  try simp only [Act.put, List.setIfInBounds_toArray, List.set_cons_zero, List.set_cons_succ]
  refine wpX_free (i := 1) (v := ?_) rfl (by kernel_rfl) (fun _ _ _ h => h) rfl (fun w' => ?_) ?_
  rotate_left
  · go_simp; try with_reducible rfl
  try simp only [Act.put, List.setIfInBounds_toArray, List.set_cons_zero, List.set_cons_succ]
  refine wpX_free (i := 2) (v := ?_) rfl (by kernel_rfl) (fun _ _ _ h => h) rfl (fun w' => ?_) ?_
  rotate_left
  · go_simp; try with_reducible rfl
  try simp only [Act.put, List.setIfInBounds_toArray, List.set_cons_zero, List.set_cons_succ]
  refine wpX_free (i := 3) (v := ?_) rfl (by kernel_rfl) (fun _ _ _ h => h) rfl (fun w' => ?_) ?_
  rotate_left
  · go_simp; try with_reducible rfl
  try simp only [Act.put, List.setIfInBounds_toArray, List.set_cons_zero, List.set_cons_succ]
  refine wpX_free (i := 4) (v := ?_) rfl (by kernel_rfl) (fun _ _ _ h => h) rfl (fun w' => ?_) ?_
  rotate_left
  · go_simp; try with_reducible rfl
  try simp only [Act.put, List.setIfInBounds_toArray, List.set_cons_zero, List.set_cons_succ]
  refine wpX_load (i := 5) (v := ?_) rfl (by kernel_rfl) (fun _ _ _ h => h) hC rfl (fun w' hw' => ?_) ?_
  rotate_left
  · obtain ⟨k1, k2, k3, k4⟩ := hw'; go_simp; try with_reducible rfl
  try simp only [Act.put, List.setIfInBounds_toArray, List.set_cons_zero, List.set_cons_succ]
  refine wpX_load (i := 6) (v := ?_) rfl (by kernel_rfl) (fun _ _ _ h => h) hC rfl (fun w' hw' => ?_) ?_
  rotate_left
  · obtain ⟨k1, k2, k3, k4⟩ := hw'; go_simp; try with_reducible rfl
  try simp only [Act.put, List.setIfInBounds_toArray, List.set_cons_zero, List.set_cons_succ]
  refine wpX_one (i := 7) rfl (by kernel_rfl) rfl ?_
  intro K hK
  go_simp
  rw [HW2.out]
  have hC := CW.out W2 (by rw [← HW2.out]; exact ((Below.refl _ _).alloc (Nat.le_refl _) _).drew)
  refine hK _ _ hC ?_
  clear hK K
  try simp only [Act.put, List.setIfInBounds_toArray, List.set_cons_zero, List.set_cons_succ]
  refine wpX_rest (t := [8, 9, 10, 11, 12]) (l := [_, _, _, _, _]) rfl (by kernel_rfl) (by kernel_rfl) ?_
  clear hC
  refine Flat.append_at FRecord W2 (.tmp 9) (.tmp 11) rfl rfl (base := 0) (v := .slice ea S.recs.length ec) (xs := S.recs) (ys := [(k, (j : Int), v)]) rfl P2.out.oe rfl RD.out hln (Nat.zero_le _) ?_
  intro v' w4 o4 g4 at4
  obtain ⟨na, nc, hv', _, _⟩ := o4.shape
  simp only [List.length_append, List.length_cons, List.length_nil, Nat.zero_add] at hv'
  have e4 := grown_at g4 P2.out.hold.lt (P2.out.hold.ne_box (i := 2) rfl) 4
  have c4 := e4.1.trans P2.out.get.1.2.2.2.2
  have f4 := e4.2.trans (P2.out.fz 4)
  have P4 := P2.out.part (S' := { S with recs := S.recs ++ [(k, (j : Int), v)] }) 2 3 (c' := FRecord.ch v' (S.recs ++ [(k, (j : Int), v)])) rfl rfl rfl (by decide) g4 o4 (m := w.heap.size) HZ2.out (at_of at4) P2.out.len P2.out.pos
  have F4 := F2.out.trans ((Fs.of_grown (S := B) g4 (fun k hk => HB.out k (P2.out.row (i := 2) rfl k hk))).set (a := ⟨b, 1 + 3, none⟩) (HB.out b ⟨0, rfl⟩) v')
  have R4 := R2.out.fs ((Fs.of_grown (S := OwnB b S (.slice (some ⟨gl, 0, none⟩) S.l.length cl) (.slice (some ⟨gr, 0, none⟩) S.l.length cr) (.slice ea S.recs.length ec) vh vw vo) g4 HE.out).set (a := ⟨b, 1 + 3, none⟩) ⟨0, rfl⟩ v') (fun h => Nat.lt_irrefl _ (HL.out _ h))
  subst hv'
  have P4 := Lib.hid P4
  have F4 := Lib.hid F4
  clear o4 g4 at4 e4
  obtain ⟨W4, hW4⟩ : ∃ W4, W4 = w4.setCell ⟨b, 4, none⟩ (.slice na (S.recs.length + 1) nc) := ⟨_, rfl⟩
  have P5 := Lib.hid (show RunIs W4 b sb (Bm B w.heap.size) { S with recs := S.recs ++ [(k, (j : Int), v)] } (.slice (some ⟨gl, 0, none⟩) S.l.length cl) (.slice (some ⟨gr, 0, none⟩) S.l.length cr) (.slice na (S.recs.length + 1) nc) vh vw vo by rw [hW4]; exact P4.out)
  have R5 := Lib.hid (show Box3v W4 w.heap.size (.int .i64 k) (.int .i64 j) (.int .i64 v) by rw [hW4]; exact R4)
  have F5 := Lib.hid (show Fs B w W4 by rw [hW4]; exact F4.out)
  have HW4 := Lib.hid hW4.symm
  clear hW4 P4 F4 R4
  go_wp2_with fail
  rw [HW4.out]
  refine wpX_start (fun W => W.cell? ⟨w.heap.size, 0, none⟩ = some (.int .i64 k) ∧ W.cell? ⟨w.heap.size, 1, none⟩ = some (.int .i64 j) ∧ W.cell? ⟨w.heap.size, 2, none⟩ = some (.int .i64 v)) [5] (by kernel_rfl) ?_
  have hC := (R5.out.below (Below.refl W4.heap.size W4).drew).2
  refine wpX_free (i := 0) (v := ?_) rfl (by kernel_rfl) (fun _ _ _ h => h) rfl (fun w' => ?_) ?_
  rotate_left
  · go_simp; try with_reducible rfl
  try simp only [Act.put, List.setIfInBounds_toArray, List.set_cons_zero, List.set_cons_succ]
  refine wpX_free (i := 1) (v := ?_) rfl (by kernel_rfl) (fun _ _ _ h => h) rfl (fun w' => ?_) ?_
  rotate_left
  · go_simp; try with_reducible rfl
  try simp only [Act.put, List.setIfInBounds_toArray, List.set_cons_zero, List.set_cons_succ]
  refine wpX_free (i := 2) (v := ?_) rfl (by kernel_rfl) (fun _ _ _ h => h) rfl (fun w' => ?_) ?_
  rotate_left
  · go_simp; try with_reducible rfl
  try simp only [Act.put, List.setIfInBounds_toArray, List.set_cons_zero, List.set_cons_succ]
  refine wpX_free (i := 3) (v := ?_) rfl (by kernel_rfl) (fun _ _ _ h => h) rfl (fun w' => ?_) ?_
  rotate_left
  · go_simp; try with_reducible rfl
  try simp only [Act.put, List.setIfInBounds_toArray, List.set_cons_zero, List.set_cons_succ]
  refine wpX_load (i := 4) (v := ?_) rfl (by kernel_rfl) (fun _ _ _ h => h) hC rfl (fun w' hw' => ?_) ?_
  rotate_left
  · obtain ⟨k1, k2, k3⟩ := hw'; go_simp; try with_reducible rfl
  try simp only [Act.put, List.setIfInBounds_toArray, List.set_cons_zero, List.set_cons_succ]
  refine wpX_rest (t := [5]) (l := [_]) rfl (by kernel_rfl) (by kernel_rfl) ?_
  clear hC
  have P6 := Lib.hid (P5.out.below (Below.refl W4.heap.size W4).drew)
  go_wp2_with fail
  refine (l09Learn_any k S.q v _ hk P6.out.toPlIs.deskO (show j < S.l.length by rw [show S.l.length = sm from d1]; exact hj) (show S.l.length ≤ 1000000 by rw [show S.l.length = sm from d1]; omega) (fun y hy => by have := d3 y hy; omega) d4 (Int.le_trans d5 (by omega))).mono ?_
  intro e w6 hL
  obtain ⟨⟨t, rfl⟩, P7, F7⟩ := P6.out.learn hL
  have P7 := Lib.hid P7
  have F7 := Lib.hid ((F5.out.trans (Fs.of_below (Below.refl W4.heap.size W4).drew)).bm F7 (Nat.le_refl _))
  clear hL
  go_wp2
  exact bodyPost_end (v := .tuple #[]) (by simp [results, Tryz.results124, go_sem]) rfl ⟨rfl, _, P7.out, F7.out⟩
end Go.Proofs.YtofpelmplcoegaaGreat
namespace Go.Proofs.YtofpelmplcoegaaGreat
open Go.RowKit Go.Sort

set_option maxRecDepth 100000 in
set_option maxHeartbeats 4000000 in
theorem RnSend_any {b sb : Nat} {B : Nat → Prop} {S : PS} {vl vr ve vh vw vo : Value} (x0 : Bool) (x1 x2 x3 : Int) (x4 : Bool) (x5 : Int) (w : World) (P : RunIs w b sb B S vl vr ve vh vw vo) (hwl : S.wire.length ≤ 12) :
    Calls Tryz.prog 130 #[.pointer (some ⟨b, 0, none⟩), .agg #[.bool x0, .int .i64 x1, .int .i64 x2, .int .i64 x3, .bool x4, .int .i64 x5]] w (DoR b sb B (sendS S (x0, x1, x2, x3, x4, x5)) w) := by
  have b1 : Below w.heap.size w (w.alloc (.cells #[.bool x0, .int .i64 x1, .int .i64 x2, .int .i64 x3, .bool x4, .int .i64 x5] 124)) := (Below.refl _ _).alloc (Nat.le_refl _) _
  have K1 := Lib.hid (CellsAt.new w [.bool x0, .int .i64 x1, .int .i64 x2, .int .i64 x3, .bool x4, .int .i64 x5] 124)
  obtain ⟨W1, hW1⟩ : ∃ W1, W1 = w.alloc (.cells #[.bool x0, .int .i64 x1, .int .i64 x2, .int .i64 x3, .bool x4, .int .i64 x5] 124) := ⟨_, rfl⟩
  rw [show (w.alloc (.cells ([.bool x0, .int .i64 x1, .int .i64 x2, .int .i64 x3, .bool x4, .int .i64 x5] : List Value).toArray 124)) = W1 from hW1.symm] at K1
  rw [← hW1] at b1
  have P1 := Lib.hid (P.below b1)
  have B1 := Lib.hid b1
  have HB := Lib.hid P.ownB
  have HL := Lib.hid P.ownLt
  have F1 := Lib.hid (Fs.of_below (S := B) b1)
  have HZ1 := Lib.hid (show W1.heap.size = w.heap.size + 1 by rw [hW1]; simp)
  have HW1 := Lib.hid hW1.symm
  obtain ⟨wa, wc, rfl, _, _⟩ := P.ow.shape
  have hbl := P1.out.blt
  have q7 := P1.out.get.2.2.2.1
  clear P b1 hW1
  by_cases h12 : S.wire.length = 12
  · have t12 : ((S.wire.length : Int) == 12) = true := by rw [beq_iff_eq]; omega
    have HR := Lib.hid (show sendS S (x0, x1, x2, x3, x4, x5) = (3, S) by unfold sendS; rw [if_pos h12])
    have lb : b < w.heap.size := HL.out b ⟨0, rfl⟩
    have nb : ¬ b = w.heap.size := Nat.ne_of_lt lb
    have bn : ¬ w.heap.size = b := fun h => nb h.symm
    rw [← HW1.out] at q7
    simp [go_sem, nb, bn, lb] at q7
    clear h12
    go_enter Tryz.func130, Tryz.ntmps130
    go_wp2
    rw [HW1.out]
    go_ret
    exact DoR.mk HR.out (P1.out.mono (fun k hk => .inl hk)) F1.out
  · have t12 : ((S.wire.length : Int) == 12) = false := by rw [beq_eq_false_iff_ne]; omega
    have HR := Lib.hid (show sendS S (x0, x1, x2, x3, x4, x5) = (0, { S with wire := S.wire ++ [(x0, x1, x2, x3, x4, x5)] }) by unfold sendS; rw [if_neg h12])
    have lb : b < w.heap.size := HL.out b ⟨0, rfl⟩
    have nb : ¬ b = w.heap.size := Nat.ne_of_lt lb
    have bn : ¬ w.heap.size = b := fun h => nb h.symm
    rw [← HW1.out] at q7
    simp [go_sem, nb, bn, lb] at q7
    have hln : S.wire.length + [(x0, x1, x2, x3, x4, x5)].length ≤ 16777216 := by simp; omega
    clear h12
    go_enter Tryz.func130, Tryz.ntmps130
    go_wp2_with fail
    rw [HW1.out]
    clear q7
    obtain ⟨W2, hW2⟩ : ∃ W2, W2 = (W1.alloc (.cells #[.bool x0, .int .i64 x1, .int .i64 x2, .int .i64 x3, .bool x4, .int .i64 x5] 124)).drew := ⟨_, rfl⟩
    have b2 : Below W1.heap.size W1 W2 := by rw [hW2]; exact ((Below.refl _ _).alloc (Nat.le_refl _) _).drew
    have P2 := Lib.hid (P1.out.below b2)
    have F2 := Lib.hid (F1.out.trans (Fs.of_below b2))
    have HZ2 := Lib.hid (show w.heap.size ≤ W2.heap.size by have := b2.size; have := HZ1.out; omega)
    have RD := Lib.hid (show Rd W2 (some ⟨W1.heap.size, 0, none⟩) (FPacket.encs [(x0, x1, x2, x3, x4, x5)]) by
      rw [hW2]
      exact (rd_new W1 #[.bool x0, .int .i64 x1, .int .i64 x2, .int .i64 x3, .bool x4, .int .i64 x5] 124).below (Below.refl _ _).drew)
    have CW := Lib.hid (show ∀ W, Below W1.heap.size W1 W → (W.cell? ⟨b, 7, none⟩ = some (.slice wa S.wire.length wc) ∧ W.cell? ⟨w.heap.size, 0, none⟩ = some (.bool x0) ∧ W.cell? ⟨w.heap.size, 1, none⟩ = some (.int .i64 x1) ∧ W.cell? ⟨w.heap.size, 2, none⟩ = some (.int .i64 x2) ∧ W.cell? ⟨w.heap.size, 3, none⟩ = some (.int .i64 x3) ∧ W.cell? ⟨w.heap.size, 4, none⟩ = some (.bool x4) ∧ W.cell? ⟨w.heap.size, 5, none⟩ = some (.int .i64 x5)) from fun W h => ⟨(P1.out.below h).get.2.2.2.1, (K1.out.below h).get 0 _ rfl, (K1.out.below h).get 1 _ rfl, (K1.out.below h).get 2 _ rfl, (K1.out.below h).get 3 _ rfl, (K1.out.below h).get 4 _ rfl, (K1.out.below h).get 5 _ rfl⟩)
    have HW2 := Lib.hid hW2.symm
    have B2 := Lib.hid b2
    clear b2 hW2
    refine wpX_start (fun W => W.cell? ⟨b, 7, none⟩ = some (.slice wa S.wire.length wc) ∧ W.cell? ⟨w.heap.size, 0, none⟩ = some (.bool x0) ∧ W.cell? ⟨w.heap.size, 1, none⟩ = some (.int .i64 x1) ∧ W.cell? ⟨w.heap.size, 2, none⟩ = some (.int .i64 x2) ∧ W.cell? ⟨w.heap.size, 3, none⟩ = some (.int .i64 x3) ∧ W.cell? ⟨w.heap.size, 4, none⟩ = some (.bool x4) ∧ W.cell? ⟨w.heap.size, 5, none⟩ = some (.int .i64 x5)) [8, 9, 10, 11, 12] (by kernel_rfl) ?_
    have hC := CW.out W1.drew (Below.refl W1.heap.size W1).drew
    refine wpX_free (i := 0) (v := ?_) rfl (by kernel_rfl) (fun _ _ _ h => h) rfl (fun w' => ?_) ?_
    rotate_left
    · go_simp; try with_reducible rfl
    try simp only [Act.put, List.setIfInBounds_toArray, List.set_cons_zero, List.set_cons_succ]
    refine wpX_free (i := 1) (v := ?_) rfl (by kernel_rfl) (fun _ _ _ h => h) rfl (fun w' => ?_) ?_
    rotate_left
    · go_simp; try with_reducible rfl
    try simp only [Act.put, List.setIfInBounds_toArray, List.set_cons_zero, List.set_cons_succ]
    refine wpX_free (i := 2) (v := ?_) rfl (by kernel_rfl) (fun _ _ _ h => h) rfl (fun w' => ?_) ?_
    rotate_left
    · go_simp; try with_reducible rfl
    try simp only [Act.put, List.setIfInBounds_toArray, List.set_cons_zero, List.set_cons_succ]
    refine wpX_free (i := 3) (v := ?_) rfl (by kernel_rfl) (fun _ _ _ h => h) rfl (fun w' => ?_) ?_
    rotate_left
    · go_simp; try with_reducible rfl
    try simp only [Act.put, List.setIfInBounds_toArray, List.set_cons_zero, List.set_cons_succ]
    refine wpX_free (i := 4) (v := ?_) rfl (by kernel_rfl) (fun _ _ _ h => h) rfl (fun w' => ?_) ?_
    rotate_left
    · go_simp; try with_reducible rfl
    try simp only [Act.put, List.setIfInBounds_toArray, List.set_cons_zero, List.set_cons_succ]
    refine wpX_load (i := 5) (v := ?_) rfl (by kernel_rfl) (fun _ _ _ h => h) hC rfl (fun w' hw' => ?_) ?_
    rotate_left
    · obtain ⟨k1, k2, k3, k4, k5, k6, k7⟩ := hw'; go_simp; try with_reducible rfl
    try simp only [Act.put, List.setIfInBounds_toArray, List.set_cons_zero, List.set_cons_succ]
    refine wpX_load (i := 6) (v := ?_) rfl (by kernel_rfl) (fun _ _ _ h => h) hC rfl (fun w' hw' => ?_) ?_
    rotate_left
    · obtain ⟨k1, k2, k3, k4, k5, k6, k7⟩ := hw'; go_simp; try with_reducible rfl
    try simp only [Act.put, List.setIfInBounds_toArray, List.set_cons_zero, List.set_cons_succ]
    refine wpX_one (i := 7) rfl (by kernel_rfl) rfl ?_
    intro K hK
    go_simp
    rw [HW2.out]
    have hC := CW.out W2 B2.out
    refine hK _ _ hC ?_
    clear hK K
    try simp only [Act.put, List.setIfInBounds_toArray, List.set_cons_zero, List.set_cons_succ]
    refine wpX_rest (t := [8, 9, 10, 11, 12]) (l := [_, _, _, _, _]) rfl (by kernel_rfl) (by kernel_rfl) ?_
    clear hC
    refine Flat.append_at FPacket W2 (.tmp 17) (.tmp 19) rfl rfl (base := 0) (v := .slice wa S.wire.length wc) (xs := S.wire) (ys := [(x0, x1, x2, x3, x4, x5)]) rfl P2.out.ow rfl RD.out hln (Nat.zero_le _) ?_
    intro v' w4 o4 g4 at4
    obtain ⟨na, nc, hv', _, _⟩ := o4.shape
    simp only [List.length_append, List.length_cons, List.length_nil, Nat.zero_add] at hv'
    have e4 := grown_at g4 P2.out.hold.lt (P2.out.hold.ne_box (i := 4) rfl) 7
    have c4 := e4.1.trans P2.out.get.2.2.2.1
    have f4 := e4.2.trans (P2.out.fz 7)
    have P4 := P2.out.part (S' := { S with wire := S.wire ++ [(x0, x1, x2, x3, x4, x5)] }) 4 6 (c' := FPacket.ch v' (S.wire ++ [(x0, x1, x2, x3, x4, x5)])) rfl rfl rfl (by decide) g4 o4 (m := w.heap.size) HZ2.out (at_of at4) P2.out.len P2.out.pos
    have F4 := F2.out.trans ((Fs.of_grown (S := B) g4 (fun k hk => HB.out k (P2.out.row (i := 4) rfl k hk))).set (a := ⟨b, 1 + 6, none⟩) (HB.out b ⟨0, rfl⟩) v')
    subst hv'
    have P4 := Lib.hid P4
    have F4 := Lib.hid F4
    clear o4 g4 at4 e4
    go_wp2
    go_ret
    exact DoR.mk HR.out P4.out F4.out
set_option maxRecDepth 100000 in
set_option maxHeartbeats 4000000 in
theorem RnNext_any {b sb n sm wk : Nat} {t bs : Int} {sv : Value} {xss : List (List Int)} {M : Nat} {B : Nat → Prop} {S : PS} {vl vr ve vh vw vo : Value} (w : World) (P : RunIs w b sb B S vl vr ve vh vw vo) (V : SvF M w sb n t sv xss bs sm wk) (hsm : S.l.length = sm) (hs8 : sm ≤ 8) :
    Calls Tryz.prog 129 #[.pointer (some ⟨b, 0, none⟩)] w fun e w' => e = .returned (.int .i64 (nextS S.l S.r sm)) ∧ Below w.heap.size w w' := by
  subst hsm
  have HP := Lib.hid (fun W (h : Below w.heap.size w W) => P.below h)
  have HV := Lib.hid (fun W (h : Below w.heap.size w W) => servCells (V.get W (h.mono V.le)).1)
  have HLR := Lib.hid (show S.r.length = S.l.length from P.len)
  obtain ⟨gl, cl, gr, cr, rfl, rfl, _⟩ := P.desk
  clear P V
  go_enter Tryz.func129, Tryz.ntmps129
  go_wp2
  go_loopw [3, 4] (fun best i wr => ∃ k : Nat, k ≤ S.l.length ∧ i = .int .i64 k ∧ best = .int .i64 (nextS S.l S.r k) ∧ Below w.heap.size w wr) (fun _ i _ => S.l.length - (intOf i).toNat)
  case atStart => exact ⟨0, Nat.zero_le _, rfl, rfl, Below.refl _ _⟩
  case round =>
    obtain ⟨k, hk, rfl, rfl, hbw⟩ := hrel
    obtain ⟨⟨q0, c0, c1, _, _⟩, _⟩ := (HP.out _ hbw).get
    obtain ⟨_, _, _, _, s4, _⟩ := HV.out _ hbw
    by_cases hlt : k < S.l.length
    · have hrk : k < S.r.length := by rw [HLR.out]; exact hlt
      have cr := (HP.out _ hbw).or_.cell hrk
      have cl := (HP.out _ hbw).ol.cell hlt
      have i0 : (0 : Int) ≤ (k : Int) := by omega
      have i1 : (k : Int) < (S.l.length : Int) := by omega
      have gr : S.r.getD k 0 = S.r[k] := by simp [hrk]
      have gl : S.l.getD k 0 = S.l[k] := by simp [hlt]
      obtain ⟨x, hx⟩ : ∃ x, S.r[k] = x := ⟨_, rfl⟩
      obtain ⟨y, hy⟩ : ∃ y, S.l[k] = y := ⟨_, rfl⟩
      rw [hx] at cr gr
      rw [hy] at cl gl
      have HYE := Lib.hid (nextS_yes (l := S.l) (r := S.r) (k := k))
      have HNO := Lib.hid (nextS_no (l := S.l) (r := S.r) (k := k))
      rw [gr, gl] at HYE HNO
      have hin := nextS_in S.l S.r k
      have HBW := Lib.hid hbw
      generalize nextS S.l S.r k = bst at hin HYE HNO ⊢
      have kc0 := fun d os => cell_regrown c0 d os
      have kc1 := fun d os => cell_regrown c1 d os
      have kcr := fun d os => cell_regrown cr d os
      have kcl := fun d os => cell_regrown cl d os
      clear hx hy gr gl
      by_cases h1 : x = -1
      · have t1 : (x == (-1 : Int)) = true := by simp [h1]
        by_cases h2 : bst < 0
        · have HQ := Lib.hid (HYE.out ⟨h1, .inl h2⟩)
          clear HYE HNO h1
          go_wp2_with fail
          refine wp_region_quiet_below (by kernel_rfl) (by kernel_rfl) ?_
          repeat (first | go_big_quiet_skip | quiet_step (fail))
          refine wpQuiet_nil ?_
          intro _ hw'
          obtain ⟨⟨dq, osq⟩, hw''⟩ := hw'
          subst hw''
          have bq := hbw.trans ((below_regrown wr dq osq).mono hbw.size)
          generalize grow (redrawn wr dq) osq = wq at bq ⊢
          clear kc0 kc1 kcr kcl
          go_wp2
          go_roundw
          case rel => exact ⟨k + 1, by omega, by go_num, by rw [HQ.out], bq⟩
          case measure => simp [intOf]; omega
        · obtain ⟨m, rfl⟩ : ∃ m : Nat, bst = (m : Int) := ⟨bst.toNat, by omega⟩
          have hm : m < S.l.length := by omega
          have cm := (HP.out _ hbw).ol.cell hm
          have gm : S.l.getD m 0 = S.l[m] := by simp [hm]
          obtain ⟨z, hz⟩ : ∃ z, S.l[m] = z := ⟨_, rfl⟩
          rw [hz] at cm gm
          rw [Int.toNat_natCast, gm] at HYE HNO
          have j0 : (0 : Int) ≤ (m : Int) := by omega
          have j1 : (m : Int) < (S.l.length : Int) := by omega
          have kcm := fun d os => cell_regrown cm d os
          clear hz gm hin
          by_cases h3 : y < z
          · have HQ := Lib.hid (HYE.out ⟨h1, .inr h3⟩)
            clear HYE HNO h1
            go_wp2_with fail
            refine wp_region_quiet_below (by kernel_rfl) (by kernel_rfl) ?_
            repeat (first | go_big_quiet_skip | quiet_step (fail))
            refine wpQuiet_nil ?_
            intro _ hw'
            obtain ⟨⟨dq, osq⟩, hw''⟩ := hw'
            subst hw''
            have bq := hbw.trans ((below_regrown wr dq osq).mono hbw.size)
            generalize grow (redrawn wr dq) osq = wq at bq ⊢
            clear kc0 kc1 kcr kcl
            go_wp2
            go_roundw
            case rel => exact ⟨k + 1, by omega, by go_num, by rw [HQ.out], bq⟩
            case measure => simp [intOf]; omega
          · have HQ := Lib.hid (HNO.out (fun h => h.2.elim h2 h3))
            clear HYE HNO h1
            go_wp2_with fail
            refine wp_region_quiet_below (by kernel_rfl) (by kernel_rfl) ?_
            repeat (first | go_big_quiet_skip | quiet_step (fail))
            refine wpQuiet_nil ?_
            intro _ hw'
            obtain ⟨⟨dq, osq⟩, hw''⟩ := hw'
            subst hw''
            have bq := hbw.trans ((below_regrown wr dq osq).mono hbw.size)
            generalize grow (redrawn wr dq) osq = wq at bq ⊢
            clear kc0 kc1 kcr kcl
            go_wp2
            go_roundw
            case rel => exact ⟨k + 1, by omega, by go_num, by rw [HQ.out], bq⟩
            case measure => simp [intOf]; omega
      · have t1 : (x == (-1 : Int)) = false := by simp [h1]
        have HQ := Lib.hid (HNO.out (fun h => h1 h.1))
        clear HYE HNO h1
        go_wp2_with fail
        refine wp_region_quiet_below (by kernel_rfl) (by kernel_rfl) ?_
        repeat (first | go_big_quiet_skip | quiet_step (fail))
        refine wpQuiet_nil ?_
        intro _ hw'
        obtain ⟨⟨dq, osq⟩, hw''⟩ := hw'
        subst hw''
        have bq := hbw.trans ((below_regrown wr dq osq).mono hbw.size)
        generalize grow (redrawn wr dq) osq = wq at bq ⊢
        clear kc0 kc1 kcr kcl
        go_wp2
        go_roundw
        case rel => exact ⟨k + 1, by omega, by go_num, by rw [HQ.out], bq⟩
        case measure => simp [intOf]; omega
    · obtain rfl : k = S.l.length := by omega
      go_wp2
      go_ret
      exact ⟨rfl, hbw⟩
set_option maxRecDepth 100000 in
set_option maxHeartbeats 4000000 in
theorem RnOut_any {b sb sm wk n : Nat} {t bs : Int} {sv : Value} {xss : List (List Int)} {M : Nat} {B : Nat → Prop} {S : PS} {vl vr ve vh vw vo : Value} (w : World) (P : RunIs w b sb B S vl vr ve vh vw vo) (V : SvF M w sb n t sv xss bs sm wk) (hI : PInv n sm wk S) (hs : 1 ≤ sm ∧ sm ≤ 8) :
    Calls Tryz.prog 105 #[.pointer (some ⟨b, 0, none⟩)] w (DoR b sb B (outS sm S) w) := by
  obtain ⟨hs1, hs8⟩ := hs
  have HD := Lib.hid (hI.plOk hs1 hs8)
  obtain ⟨d1, d2, d3, d4, d5⟩ := hI.desk.ok
  replace d1 : S.l.length = sm := d1
  replace d4 : 0 ≤ S.q := d4
  replace d5 : S.q ≤ (sm : Int) := d5
  have hol : (S.out.length : Int) = S.q := hI.outs
  have hrl := hI.len
  have HPO := Lib.hid (hI.plOk' hs1 hs8)
  have HB := Lib.hid P.ownB
  have HL := Lib.hid P.ownLt
  obtain ⟨j, hj⟩ : ∃ j : Nat, S.q = (j : Int) := ⟨S.q.toNat, by omega⟩
  obtain ⟨gl, cl, gr, cr, rfl, rfl, _⟩ := P.desk
  obtain ⟨oa, oc, rfl, _, _⟩ := P.toPlIs.oo'.shape
  obtain ⟨⟨q0, _, q1, q2, _⟩, _, _, _, q7⟩ := P.get
  obtain ⟨_, _, _, _, s4, _⟩ := servCells V.now.1
  rw [hj] at q2
  have P0 := Lib.hid P
  have D1 := Lib.hid d1
  have hbl := P.blt
  have RL := Lib.hid (show S.r.length = S.l.length from P.len)
  clear P hI V
  by_cases he : S.q = (sm : Int)
  · have t1 : ((j : Int) == (sm : Int)) = true := by rw [beq_iff_eq]; omega
    have HR := Lib.hid (show outS sm S = (4, S) by unfold outS; rw [if_pos (.inl he)])
    clear he d1 d2 d3 d4 d5 hol hj
    go_enter Tryz.func105, Tryz.ntmps105
    go_wp2
    go_ret
    exact DoR.mk HR.out (P0.out.mono (fun k hk => .inl hk)) (Fs.refl _ _)
  · have hjl : j < S.l.length := by omega
    have hjr : j < S.r.length := by rw [RL.out]; exact hjl
    have t1 : ((j : Int) == (sm : Int)) = false := by rw [beq_eq_false_iff_ne]; omega
    have y0 := P0.out.or_.cell hjr
    have GY := Lib.hid (show S.r.getD S.q.toNat 0 = S.r[j] by rw [hj, Int.toNat_natCast]; simp [hjr])
    generalize S.r[j] = y at y0 GY
    have i0 : (0 : Int) ≤ (j : Int) := by omega
    have i1 : (j : Int) < (S.l.length : Int) := by omega
    have Y0 := Lib.hid y0
    have HJ := Lib.hid hj
    by_cases hy : y = -1
    · have t2 : (y == (-1 : Int)) = true := by simp [hy]
      have HR := Lib.hid (show outS sm S = (4, S) by unfold outS; rw [if_pos (.inr (GY.out.trans hy))])
      clear he d1 d2 d3 d4 d5 hol hj hy
      go_enter Tryz.func105, Tryz.ntmps105
      go_wp2
      go_ret
      exact DoR.mk HR.out (P0.out.mono (fun k hk => .inl hk)) (Fs.refl _ _)
    · have t2 : (y == (-1 : Int)) = false := by simp [hy]
      have HR := Lib.hid (show outS sm S = (0, (fun T : PS => { T with sy := T.recs.length }) (writeS { S with out := S.out ++ [y] } (3, (j : Int), 0))) by
        unfold outS; rw [if_neg (fun h => h.elim he (fun h => hy (GY.out.symm.trans h))), GY.out, HJ.out])
      have hln : S.out.length + [y].length ≤ 16777216 := by simp; omega
      have hjs : j < sm := by omega
      have HPO := Lib.hid (HPO.out (S.out ++ [y]) (by simp; omega))
      clear he d1 d2 d3 d4 d5 hol hj hy
      go_enter Tryz.func105, Tryz.ntmps105
      go_wp2_with fail
      clear q0 s4 q1 q2 q7 y0
      have b1 : Below w.heap.size w (w.alloc (.cells #[.int .i64 y] 2)).drew := ((Below.refl _ _).alloc (Nat.le_refl _) _).drew
      obtain ⟨W1, hW1⟩ : ∃ W1, W1 = (w.alloc (.cells #[.int .i64 y] 2)).drew := ⟨_, rfl⟩
      rw [← hW1] at b1
      have P1 := Lib.hid (P0.out.below b1)
      have F1 := Lib.hid (Fs.of_below (S := B) b1)
      have HZ1 := Lib.hid b1.size
      have RD := Lib.hid (show Rd W1 (some ⟨w.heap.size, 0, none⟩) (FI.encs [y]) by
        rw [hW1]
        exact (rd_new w #[.int .i64 y] 2).below (Below.refl _ _).drew)
      have CW := Lib.hid (show ∀ W, Below w.heap.size w W → (W.cell? ⟨b, 8, none⟩ = some (.slice oa S.out.length oc) ∧ W.cell? ⟨b, 2, none⟩ = some (.slice (some ⟨gr, 0, none⟩) S.l.length cr) ∧ W.cell? ⟨gr, j, none⟩ = some (.int .i64 y)) from fun W h => by
        obtain ⟨⟨_, _, q1, _, _⟩, _, _, _, q7⟩ := (P0.out.below h).get
        exact ⟨q7, q1, (h.cell (p := ⟨gr, j, none⟩) (cell_lt Y0.out)).trans Y0.out⟩)
      have HW1 := Lib.hid hW1.symm
      have B1 := Lib.hid b1
      clear b1 hW1
      refine wpX_start (fun W => W.cell? ⟨b, 8, none⟩ = some (.slice oa S.out.length oc) ∧ W.cell? ⟨b, 2, none⟩ = some (.slice (some ⟨gr, 0, none⟩) S.l.length cr) ∧ W.cell? ⟨gr, j, none⟩ = some (.int .i64 y)) [16, 17, 18, 19, 20] (by kernel_rfl) ?_
      have hC := CW.out w.drew (Below.refl w.heap.size w).drew
      refine wpX_free (i := 0) (v := ?_) rfl (by kernel_rfl) (fun _ _ _ h => h) rfl (fun w' => ?_) ?_
      rotate_left
      · go_simp; try with_reducible rfl
      try simp only [Act.put, List.setIfInBounds_toArray, List.set_cons_zero, List.set_cons_succ]
      refine wpX_free (i := 1) (v := ?_) rfl (by kernel_rfl) (fun _ _ _ h => h) rfl (fun w' => ?_) ?_
      rotate_left
      · go_simp; try with_reducible rfl
      try simp only [Act.put, List.setIfInBounds_toArray, List.set_cons_zero, List.set_cons_succ]
      refine wpX_free (i := 2) (v := ?_) rfl (by kernel_rfl) (fun _ _ _ h => h) rfl (fun w' => ?_) ?_
      rotate_left
      · go_simp; try with_reducible rfl
      try simp only [Act.put, List.setIfInBounds_toArray, List.set_cons_zero, List.set_cons_succ]
      refine wpX_free (i := 3) (v := ?_) rfl (by kernel_rfl) (fun _ _ _ h => h) rfl (fun w' => ?_) ?_
      rotate_left
      · go_simp; try with_reducible rfl
      try simp only [Act.put, List.setIfInBounds_toArray, List.set_cons_zero, List.set_cons_succ]
      refine wpX_free (i := 4) (v := ?_) rfl (by kernel_rfl) (fun _ _ _ h => h) rfl (fun w' => ?_) ?_
      rotate_left
      · go_simp; try with_reducible rfl
      try simp only [Act.put, List.setIfInBounds_toArray, List.set_cons_zero, List.set_cons_succ]
      refine wpX_load (i := 5) (v := ?_) rfl (by kernel_rfl) (fun _ _ _ h => h) hC rfl (fun w' hw' => ?_) ?_
      rotate_left
      · obtain ⟨k1, k2, k3⟩ := hw'; go_simp; try with_reducible rfl
      try simp only [Act.put, List.setIfInBounds_toArray, List.set_cons_zero, List.set_cons_succ]
      refine wpX_free (i := 6) (v := ?_) rfl (by kernel_rfl) (fun _ _ _ h => h) rfl (fun w' => ?_) ?_
      rotate_left
      · go_simp; try with_reducible rfl
      try simp only [Act.put, List.setIfInBounds_toArray, List.set_cons_zero, List.set_cons_succ]
      refine wpX_free (i := 7) (v := ?_) rfl (by kernel_rfl) (fun _ _ _ h => h) rfl (fun w' => ?_) ?_
      rotate_left
      · go_simp; try with_reducible rfl
      try simp only [Act.put, List.setIfInBounds_toArray, List.set_cons_zero, List.set_cons_succ]
      refine wpX_free (i := 8) (v := ?_) rfl (by kernel_rfl) (fun _ _ _ h => h) rfl (fun w' => ?_) ?_
      rotate_left
      · go_simp; try with_reducible rfl
      try simp only [Act.put, List.setIfInBounds_toArray, List.set_cons_zero, List.set_cons_succ]
      refine wpX_free (i := 9) (v := ?_) rfl (by kernel_rfl) (fun _ _ _ h => h) rfl (fun w' => ?_) ?_
      rotate_left
      · go_simp; try with_reducible rfl
      try simp only [Act.put, List.setIfInBounds_toArray, List.set_cons_zero, List.set_cons_succ]
      refine wpX_free (i := 10) (v := ?_) rfl (by kernel_rfl) (fun _ _ _ h => h) rfl (fun w' => ?_) ?_
      rotate_left
      · go_simp; try with_reducible rfl
      try simp only [Act.put, List.setIfInBounds_toArray, List.set_cons_zero, List.set_cons_succ]
      refine wpX_load (i := 11) (v := ?_) rfl (by kernel_rfl) (fun _ _ _ h => h) hC rfl (fun w' hw' => ?_) ?_
      rotate_left
      · obtain ⟨k1, k2, k3⟩ := hw'; go_simp; try with_reducible rfl
      try simp only [Act.put, List.setIfInBounds_toArray, List.set_cons_zero, List.set_cons_succ]
      refine wpX_free (i := 12) (v := ?_) rfl (by kernel_rfl) (fun _ _ _ h => h) rfl (fun w' => ?_) ?_
      rotate_left
      · go_simp; try with_reducible rfl
      try simp only [Act.put, List.setIfInBounds_toArray, List.set_cons_zero, List.set_cons_succ]
      refine wpX_free (i := 13) (v := ?_) rfl (by kernel_rfl) (fun _ _ _ h => h) rfl (fun w' => ?_) ?_
      rotate_left
      · go_simp; try with_reducible rfl
      try simp only [Act.put, List.setIfInBounds_toArray, List.set_cons_zero, List.set_cons_succ]
      refine wpX_load (i := 14) (v := ?_) rfl (by kernel_rfl) (fun _ _ _ h => h) hC rfl (fun w' hw' => ?_) ?_
      rotate_left
      · obtain ⟨k1, k2, k3⟩ := hw'; go_simp; try with_reducible rfl
      try simp only [Act.put, List.setIfInBounds_toArray, List.set_cons_zero, List.set_cons_succ]
      refine wpX_one (i := 15) rfl (by kernel_rfl) rfl ?_
      intro K hK
      go_simp
      rw [HW1.out]
      have hC := CW.out W1 B1.out
      refine hK _ _ hC ?_
      clear hK K
      try simp only [Act.put, List.setIfInBounds_toArray, List.set_cons_zero, List.set_cons_succ]
      refine wpX_rest (t := [16, 17, 18, 19, 20]) (l := [_, _, _, _, _]) rfl (by kernel_rfl) (by kernel_rfl) ?_
      clear hC
      refine Flat.append_at FI W1 (.tmp 36) (.tmp 46) rfl rfl (base := 0) (v := .slice oa S.out.length oc) (xs := S.out) (ys := [y]) rfl P1.out.toPlIs.oo' rfl RD.out hln (Nat.zero_le _) ?_
      intro v' w4 o4 g4 at4
      obtain ⟨na, nc, hv', _, _⟩ := o4.shape
      simp only [List.length_append, List.length_cons, List.length_nil, Nat.zero_add] at hv'
      have e4 := grown_at g4 P1.out.hold.lt (P1.out.hold.ne_box (i := 5) rfl) 8
      have c4 := e4.1.trans P1.out.get.2.2.2.2
      have f4 := e4.2.trans (P1.out.fz 8)
      have P4 := P1.out.part (S' := { S with out := S.out ++ [y] }) 5 7 (c' := FI.ch v' (S.out ++ [y])) rfl rfl rfl (by decide) g4 o4 (m := w.heap.size) HZ1.out (at_of at4) P1.out.len P1.out.pos
      have F4 := F1.out.trans ((Fs.of_grown (S := B) g4 (fun k hk => HB.out k (P1.out.row (i := 5) rfl k hk))).set (a := ⟨b, 1 + 7, none⟩) (HB.out b ⟨0, rfl⟩) v')
      subst hv'
      have P4 := Lib.hid P4
      have F4 := Lib.hid F4
      clear o4 g4 at4 e4
      obtain ⟨W5, hW5⟩ : ∃ W5, W5 = w4.setCell ⟨b, 8, none⟩ (.slice na (S.out.length + 1) nc) := ⟨_, rfl⟩
      have P5 := Lib.hid (show RunIs W5 b sb (Bm B w.heap.size) { S with out := S.out ++ [y] } (.slice (some ⟨gl, 0, none⟩) S.l.length cl) (.slice (some ⟨gr, 0, none⟩) S.l.length cr) ve vh vw (.slice na (S.out.length + 1) nc) by rw [hW5]; exact P4.out)
      have F5 := Lib.hid (show Fs B w W5 by rw [hW5]; exact F4.out)
      have HW5 := Lib.hid hW5.symm
      clear hW5 P4 F4
      go_wp2_with fail
      rw [HW5.out]
      refine (RnWrite_any 3 0 _ P5.out HPO.out (by omega) hjs).mono ?_
      rintro e w6 ⟨rfl, ve6, P6, F6⟩
      have P6 := Lib.hid (P6.mono (Bm.bm (n := w.heap.size) (Nat.le_refl _) (by have := F5.out.size; omega)))
      have F6 := Lib.hid (F5.out.bm F6 (Nat.le_refl _))
      generalize writeS { S with out := S.out ++ [y] } (3, (j : Int), 0) = T at HR P6
      obtain ⟨ea, ec, rfl, _, _⟩ := P6.out.oe.shape
      have q3 := P6.out.get.1.2.2.2.2
      have f4 := P6.out.fz 5
      have q4 := P6.out.get.2.1
      have P7 := Lib.hid (P6.out.number T.recs.length)
      have F7 := Lib.hid (F6.out.set (a := ⟨b, 1 + 4, none⟩) (HB.out b ⟨0, rfl⟩) (.int .i64 T.recs.length))
      go_wp2
      go_ret
      exact DoR.mk HR.out P7.out F7.out
end Go.Proofs.YtofpelmplcoegaaGreat
namespace Go.Proofs.YtofpelmplcoegaaGreat
open Go.RowKit Go.Sort

set_option maxRecDepth 100000 in
set_option maxHeartbeats 4000000 in
theorem RnBack_any {b sb sm wk n : Nat} {t bs : Int} {sv : Value} {xss : List (List Int)} {M : Nat} {B : Nat → Prop} {S : PS} {vl vr ve vh vw vo : Value} {rv : Value} {rs : List (Int × Int × Int)} {l r : List Int} {q : Int} (w : World) (P : RunIs w b sb B S vl vr ve vh vw vo) (V : SvF M w sb n t sv xss bs sm wk) (hB : ∀ k, B k → M ≤ k) (hr : ∀ W, Fs (fun k => k = b) w W → FRecord.Sl W rv rs) (hla : learnAll rs (newD sm) = some (l, r, q)) (hok : ∀ x ∈ rs, recOk n sm x.1 x.2.1 x.2.2 = true) (hs : 1 ≤ sm ∧ sm ≤ 8) (hn6 : n ≤ 6) :
    Calls Tryz.prog 106 #[.pointer (some ⟨b, 0, none⟩), rv] w fun e w' => e = .returned (.tuple #[]) ∧ (∃ vl vr ve vh vw vo, RunIs w' b sb (Bm B w.heap.size) { S with recs := rs, sy := rs.length, l := l, r := r, q := q } vl vr ve vh vw vo) ∧ Fs B w w' := by
  have HB := Lib.hid P.ownB
  have HL := Lib.hid P.ownLt
  have hrl := hist_len hok hla
  have HLA := Lib.hid hla
  have HOK := Lib.hid hok
  have hdg := (learnAll_g (deskG_new n sm) hok hla).ok
  have hl0 : l.length = sm := hdg.1
  have hr0 : r.length = sm := hdg.2.1
  have HRS := Lib.hid hr
  have s0 := hr w (Fs.refl _ _)
  obtain ⟨ra, rc, hrv, hrc, hrc2, hrd⟩ := id s0
  subst hrv
  have own0 := Flat.Own.empty (F := FRecord) w (base := w.heap.size) (Nat.le_refl _)
  have bE : Below w.heap.size w (w.alloc (.cells #[] 118)) := (Below.refl _ _).alloc (Nat.le_refl _) _
  have hrd2 := hrd.below bE
  have P0 := Lib.hid P
  have HV := Lib.hid V
  have HBM := Lib.hid hB
  have hbl := P.blt
  have hln : ([] : List (Int × Int × Int)).length + rs.length ≤ 16777216 := by simp; omega
  have hbs : w.heap.size ≤ (w.alloc (.cells #[] 118)).heap.size := by simp
  unfold maxLen at hrc2
  clear P V hB hr hla hok hdg s0 hrd
  go_enter Tryz.func106, Tryz.ntmps106
  go_wp2_with (at_builtin; refine Flat.append FRecord _ _ _ rfl rfl rfl own0 rfl hrd2 hln hbs ?_)
  intro v' w2 o2 g2 b2

  have bA : Below w.heap.size w w2 := bE.trans b2
  obtain ⟨na, nc, hv', _, _⟩ := o2.shape
  have gA := grown_of_below bA ve.ownBlock
  have e2 := grown_at gA P0.out.hold.lt (P0.out.hold.ne_box (i := 2) rfl) 4
  have c4 := e2.1.trans P0.out.get.1.2.2.2.2
  have f4 := e2.2.trans (P0.out.fz 4)
  have f5 := (grown_at gA P0.out.hold.lt (P0.out.hold.ne_box (i := 2) rfl) 5).2.trans (P0.out.fz 5)
  have c5 := (grown_at gA P0.out.hold.lt (P0.out.hold.ne_box (i := 2) rfl) 5).1.trans P0.out.get.2.1
  have c0 := (grown_at gA P0.out.hold.lt (P0.out.hold.ne_box (i := 2) rfl) 0).1.trans P0.out.c0
  have P3 := P0.out.part (S' := { S with recs := rs }) 2 3 (c' := FRecord.ch v' rs) rfl rfl rfl (by decide) gA (Flat.Own.lower o2 (Nat.zero_le _)) (m := w.heap.size) (Nat.le_refl _) (fun x hx => .inr (World.ownsRow.lt o2 x hx).1) P0.out.len P0.out.pos
  have P4 := P3.number rs.length
  subst hv'
  have Fb : Fs (fun k => k = b) w ((w2.setCell ⟨b, 1 + 3, none⟩ (.slice na rs.length nc)).setCell ⟨b, 1 + 4, none⟩ (.int .i64 rs.length)) := Fs.set (S := fun k => k = b) (Fs.set (S := fun k => k = b) (Fs.of_below bA) (a := ⟨b, 1 + 3, none⟩) rfl _) (a := ⟨b, 1 + 4, none⟩) rfl _
  obtain ⟨W3, hW3⟩ : ∃ W3, W3 = (w2.setCell ⟨b, 4, none⟩ (.slice na rs.length nc)).setCell ⟨b, 5, none⟩ (.int .i64 rs.length) := ⟨_, rfl⟩
  have P5 := Lib.hid (show RunIs W3 b sb (Bm B w.heap.size) { S with recs := rs, sy := rs.length } vl vr (.slice na rs.length nc) vh vw vo by rw [hW3]; exact P4)
  have F5 := Lib.hid (show Fs (fun k => k = b) w W3 by rw [hW3]; exact Fb)
  have FB5 := Lib.hid (F5.out.mono (T := B) (fun k hk => by subst hk; exact HB.out k ⟨0, rfl⟩))
  have V5 := Lib.hid (HV.out.fs FB5.out HBM.out)
  have HW3 := Lib.hid hW3.symm
  clear P3 P4 Fb gA e2 o2 g2 b2 bA hW3
  go_wp2_with fail
  rw [HW3.out]
  refine (l09Desk_any n t bs wk _ V5.out.now.1 (HRS.out _ F5.out) hs.1 hs.2 (by omega) HOK.out).mono ?_
  rintro e w4 ⟨vl', vr', l', r', q', rfl, od4, b4, hd⟩
  have hd := hd _ HLA.out
  simp only [Prod.mk.injEq] at hd
  obtain ⟨rfl, rfl, rfl⟩ := hd
  have PN := Lib.hid (P5.out.newDesk q b4 od4 (by rw [hl0]; omega))
  have F6 := Lib.hid (FB5.out.bm (Fs.set3b (B := Bm B w.heap.size) (i := 1 + 0) (j := 1 + 1) (k := 1 + 2) (Fs.of_below b4) (.inl (HB.out b ⟨0, rfl⟩)) vl' vr' (.int .i64 q)) (Nat.le_refl _))
  obtain ⟨da, dn, dc, xa, xc, hvl, hvr⟩ := od4.form
  have e4 := (P5.out.below b4)
  have g1 := e4.fz 1
  have g2 := e4.fz 2
  have g3 := e4.fz 3
  obtain ⟨⟨_, q1, q2, q3, _⟩, _⟩ := e4.get
  subst hvl hvr
  unfold deskV
  clear od4 b4 e4
  go_wp2
  exact bodyPost_end (v := .tuple #[]) (by simp [results, Tryz.results106, go_sem]) rfl ⟨rfl, ⟨_, _, _, _, _, _, PN.out.mono (fun k hk => Bm.bm (n := w.heap.size) (Nat.le_refl _) FB5.out.size k hk)⟩, F6.out⟩
set_option maxRecDepth 100000 in
set_option maxHeartbeats 4000000 in
theorem RnWorker_10 {b sb sm wk n : Nat} {t bs : Int} {sv : Value} {xss : List (List Int)} {M : Nat} {B : Nat → Prop} {S : PS} {vl vr ve vh vw vo : Value} {a : Nat} (w : World) (P : RunIs w b sb B S vl vr ve vh vw vo) (V : SvF M w sb n t sv xss bs sm wk) (hB : ∀ k, B k → M ≤ k) (hI : PInv n sm wk S) (hs : 1 ≤ sm ∧ sm ≤ 8) (hwk : 1 ≤ wk ∧ wk ≤ 4) (hch : chainOk n t xss = true) (hbs : 0 ≤ bs ∧ bs ≤ 999999992) (ha : a ≤ 999) :
    Calls Tryz.prog 108 #[.pointer (some ⟨b, 0, none⟩), .agg #[.int .i64 10, .int .i64 a]] w (DoR b sb B (if (wk : Int) ≤ a then (2, S) else (0, handOff a S)) w) := by
  have HBM := Lib.hid hB
  have HIN := Lib.hid hI
  have b1 : Below w.heap.size w (w.alloc (.cells #[.int .i64 10, .int .i64 a] 59)) := (Below.refl _ _).alloc (Nat.le_refl _) _
  have K1 := Lib.hid (CellsAt.new w [.int .i64 10, .int .i64 a] 59)
  obtain ⟨W1, hW1⟩ : ∃ W1, W1 = w.alloc (.cells #[.int .i64 10, .int .i64 a] 59) := ⟨_, rfl⟩
  rw [show (w.alloc (.cells ([.int .i64 10, .int .i64 a] : List Value).toArray 59)) = W1 from hW1.symm] at K1
  rw [← hW1] at b1
  have P1 := Lib.hid (P.below b1)
  have B1 := Lib.hid b1
  have HB := Lib.hid P.ownB
  have HL := Lib.hid P.ownLt
  have F1 := Lib.hid (Fs.of_below (S := B) b1)
  have HZ1 := Lib.hid (show W1.heap.size = w.heap.size + 1 by rw [hW1]; simp)
  have HW1 := Lib.hid hW1.symm
  have V1 := Lib.hid (V.fs F1.out hB)
  have hbl := P1.out.blt
  have HHL := Lib.hid hI.hl
  have k0 := K1.out.get 0 _ rfl
  have k1 := K1.out.get 1 _ rfl
  have q0 := P1.out.c0
  obtain ⟨_, _, _, _, _, s5⟩ := servCells V1.out.now.1
  have kk1 := fun d os => cell_regrown k1 d os
  have kq0 := fun d os => cell_regrown q0 d os
  have ks5 := fun d os => cell_regrown s5 d os
  clear P b1 hW1 hI V hB k1 q0 s5
  by_cases hr : (wk : Int) ≤ a
  · rw [if_pos hr]
    go_enter Tryz.func108, Tryz.ntmps108
    go_wp2_with fail
    rw [HW1.out]
    refine wp_region_quiet_below (by kernel_rfl) (by kernel_rfl) ?_
    repeat (first | go_big_quiet_skip | quiet_step (fail))
    refine wpQuiet_nil ?_
    intro _ hw'
    obtain ⟨⟨dq, osq⟩, hw''⟩ := hw'
    subst hw''
    have bq := below_regrown W1 dq osq
    generalize grow (redrawn W1 dq) osq = wq at bq ⊢
    clear kk1 kq0 ks5 k0
    go_wp2
    go_ret
    exact DoR.mk rfl ((P1.out.below bq).mono (fun k hk => .inl hk)) (F1.out.trans (Fs.of_below bq))
  · rw [if_neg hr]
    have hal : a < S.hands.length := by rw [HHL.out]; omega
    have hle : (a : Int) < (wk : Int) := by omega
    clear hr
    go_enter Tryz.func108, Tryz.ntmps108
    go_wp2_with fail
    rw [HW1.out]
    refine wp_region_quiet_below (by kernel_rfl) (by kernel_rfl) ?_
    repeat (first | go_big_quiet_skip | quiet_step (fail))
    refine wpQuiet_nil ?_
    intro _ hw'
    obtain ⟨⟨dq, osq⟩, hw''⟩ := hw'
    subst hw''
    have bq := below_regrown W1 dq osq
    generalize grow (redrawn W1 dq) osq = wq at bq ⊢
    have P2 := Lib.hid (P1.out.below bq)
    have F2 := Lib.hid (F1.out.trans (Fs.of_below bq))
    have K2 := Lib.hid (K1.out.below bq)
    have V2 := Lib.hid (V1.out.fs (Fs.of_below (S := B) bq) HBM.out)
    have HZ2 := Lib.hid (show w.heap.size ≤ wq.heap.size by have := bq.size; have := HZ1.out; omega)
    have hk0 := K2.out.get 0 _ rfl
    clear kk1 kq0 ks5 k0 bq
    obtain ⟨g, hcp, rfl, _⟩ := P2.out.oh.form (by omega)
    have a0 : (0 : Int) ≤ (a : Int) := by omega
    have a1 : (a : Int) < (S.hands.length : Int) := by omega
    have CW := Lib.hid (show ∀ W, Below wq.heap.size wq W → (W.cell? ⟨b, 6, none⟩ = some (.slice (some ⟨g, 0, none⟩) S.hands.length hcp) ∧ W.cell? ⟨w.heap.size, 1, none⟩ = some (.int .i64 a)) from fun W h => ⟨(P2.out.below h).get.2.2.1, (K2.out.below h).get 1 _ rfl⟩)
    go_wp2_with fail
    refine wpX_start (fun W => W.cell? ⟨b, 6, none⟩ = some (.slice (some ⟨g, 0, none⟩) S.hands.length hcp) ∧ W.cell? ⟨w.heap.size, 1, none⟩ = some (.int .i64 a)) [9] (by kernel_rfl) ?_
    have hC := CW.out wq.drew (Below.refl wq.heap.size wq).drew
    refine wpX_free (i := 0) (v := ?_) rfl (by kernel_rfl) (fun _ _ _ h => h) rfl (fun w' => ?_) ?_
    rotate_left
    · go_simp; try with_reducible rfl
    try simp only [Act.put, List.setIfInBounds_toArray, List.set_cons_zero, List.set_cons_succ]
    refine wpX_free (i := 1) (v := ?_) rfl (by kernel_rfl) (fun _ _ _ h => h) rfl (fun w' => ?_) ?_
    rotate_left
    · go_simp; try with_reducible rfl
    try simp only [Act.put, List.setIfInBounds_toArray, List.set_cons_zero, List.set_cons_succ]
    refine wpX_free (i := 2) (v := ?_) rfl (by kernel_rfl) (fun _ _ _ h => h) rfl (fun w' => ?_) ?_
    rotate_left
    · go_simp; try with_reducible rfl
    try simp only [Act.put, List.setIfInBounds_toArray, List.set_cons_zero, List.set_cons_succ]
    refine wpX_free (i := 3) (v := ?_) rfl (by kernel_rfl) (fun _ _ _ h => h) rfl (fun w' => ?_) ?_
    rotate_left
    · go_simp; try with_reducible rfl
    try simp only [Act.put, List.setIfInBounds_toArray, List.set_cons_zero, List.set_cons_succ]
    refine wpX_load (i := 4) (v := ?_) rfl (by kernel_rfl) (fun _ _ _ h => h) hC rfl (fun w' hw' => ?_) ?_
    rotate_left
    · obtain ⟨k1, k2⟩ := hw'; go_simp; try with_reducible rfl
    try simp only [Act.put, List.setIfInBounds_toArray, List.set_cons_zero, List.set_cons_succ]
    refine wpX_free (i := 5) (v := ?_) rfl (by kernel_rfl) (fun _ _ _ h => h) rfl (fun w' => ?_) ?_
    rotate_left
    · go_simp; try with_reducible rfl
    try simp only [Act.put, List.setIfInBounds_toArray, List.set_cons_zero, List.set_cons_succ]
    refine wpX_load (i := 6) (v := ?_) rfl (by kernel_rfl) (fun _ _ _ h => h) hC rfl (fun w' hw' => ?_) ?_
    rotate_left
    · obtain ⟨k1, k2⟩ := hw'; go_simp; try with_reducible rfl
    try simp only [Act.put, List.setIfInBounds_toArray, List.set_cons_zero, List.set_cons_succ]
    refine wpX_free (i := 7) (v := ?_) rfl (by kernel_rfl) (fun _ _ _ h => h) rfl (fun w' => ?_) ?_
    rotate_left
    · go_simp; try with_reducible rfl
    try simp only [Act.put, List.setIfInBounds_toArray, List.set_cons_zero, List.set_cons_succ]
    refine wpX_free (i := 8) (v := ?_) rfl (by kernel_rfl) (fun _ _ _ h => h) rfl (fun w' => ?_) ?_
    rotate_left
    · go_simp; try with_reducible rfl
    try simp only [Act.put, List.setIfInBounds_toArray, List.set_cons_zero, List.set_cons_succ]
    refine wpX_rest (t := [9]) (l := [_]) rfl (by kernel_rfl) (by kernel_rfl) ?_
    clear hC
    have P3 := P2.out
    have hp := P3.toPlIs.oh
    have f0 := hp.free (a * 3)
    have f1 := hp.free (a * 3 + 1)
    have f2 := hp.free (a * 3 + 2)
    have hq := FHand_cell hp hal
    have y0 := hq.1
    have y1 := hq.2.1
    have y2 := hq.2.2
    clear hq
    have PN := P3.part0 (S' := handOff a S) 3 (c' := FHand.ch (.slice (some ⟨g, 0, none⟩) S.hands.length hcp) (S.hands.set a noHand)) rfl rfl rfl (w2 := ((wq.setCell ⟨g, a * 3, none⟩ (.bool false)).setCell ⟨g, a * 3 + 1, none⟩ (.int .i64 0)).setCell ⟨g, a * 3 + 2, none⟩ (.int .i64 0)) (grown_set3 _ g _ _ _ _ _ _) (FHand.set_cells hp a noHand hal) rfl P3.len P3.pos
    have FY := Fs.of_grown (S := B) (grown_set3 wq g (a * 3) (a * 3 + 1) (a * 3 + 2) (.bool false) (.int .i64 0) (.int .i64 0)) (fun k hk => P3.inB 4 k (by rw [← hk]; rfl))
    have FY := F2.out.trans FY
    have PN := Lib.hid (PN.below (Below.refl _ _).drew)
    have FY := Lib.hid (FY.trans (Fs.of_below (Below.refl _ _).drew))
    clear P3 hp
    go_wp2
    go_ret
    exact DoR.mk rfl (PN.out.mono (fun k hk => .inl hk)) FY.out
set_option maxRecDepth 100000 in
set_option maxHeartbeats 4000000 in
theorem RnWorker_1 {b sb sm wk n : Nat} {t bs : Int} {sv : Value} {xss : List (List Int)} {M : Nat} {B : Nat → Prop} {S : PS} {vl vr ve vh vw vo : Value} {a : Nat} (w : World) (P : RunIs w b sb B S vl vr ve vh vw vo) (V : SvF M w sb n t sv xss bs sm wk) (hB : ∀ k, B k → M ≤ k) (hI : PInv n sm wk S) (hs : 1 ≤ sm ∧ sm ≤ 8) (hwk : 1 ≤ wk ∧ wk ≤ 4) (hch : chainOk n t xss = true) (hbs : 0 ≤ bs ∧ bs ≤ 999999992) (ha : a ≤ 999) :
    Calls Tryz.prog 108 #[.pointer (some ⟨b, 0, none⟩), .agg #[.int .i64 1, .int .i64 a]] w (DoR b sb B (giveS sm wk a S) w) := by
  have HBM := Lib.hid hB
  have HIN := Lib.hid hI
  have b1 : Below w.heap.size w (w.alloc (.cells #[.int .i64 1, .int .i64 a] 59)) := (Below.refl _ _).alloc (Nat.le_refl _) _
  have K1 := Lib.hid (CellsAt.new w [.int .i64 1, .int .i64 a] 59)
  obtain ⟨W1, hW1⟩ : ∃ W1, W1 = w.alloc (.cells #[.int .i64 1, .int .i64 a] 59) := ⟨_, rfl⟩
  rw [show (w.alloc (.cells ([.int .i64 1, .int .i64 a] : List Value).toArray 59)) = W1 from hW1.symm] at K1
  rw [← hW1] at b1
  have P1 := Lib.hid (P.below b1)
  have B1 := Lib.hid b1
  have HB := Lib.hid P.ownB
  have HL := Lib.hid P.ownLt
  have F1 := Lib.hid (Fs.of_below (S := B) b1)
  have HZ1 := Lib.hid (show W1.heap.size = w.heap.size + 1 by rw [hW1]; simp)
  have HW1 := Lib.hid hW1.symm
  have V1 := Lib.hid (V.fs F1.out hB)
  have hbl := P1.out.blt
  have HHL := Lib.hid hI.hl
  have k0 := K1.out.get 0 _ rfl
  have k1 := K1.out.get 1 _ rfl
  have q0 := P1.out.c0
  obtain ⟨_, _, _, _, _, s5⟩ := servCells V1.out.now.1
  have kk1 := fun d os => cell_regrown k1 d os
  have kq0 := fun d os => cell_regrown q0 d os
  have ks5 := fun d os => cell_regrown s5 d os
  clear P b1 hW1 hI V hB k1 q0 s5
  by_cases hr : (wk : Int) ≤ a
  · rw [show giveS sm wk a S = (2, S) by unfold giveS; rw [if_pos hr]]
    go_enter Tryz.func108, Tryz.ntmps108
    go_wp2_with fail
    rw [HW1.out]
    refine wp_region_quiet_below (by kernel_rfl) (by kernel_rfl) ?_
    repeat (first | go_big_quiet_skip | quiet_step (fail))
    refine wpQuiet_nil ?_
    intro _ hw'
    obtain ⟨⟨dq, osq⟩, hw''⟩ := hw'
    subst hw''
    have bq := below_regrown W1 dq osq
    generalize grow (redrawn W1 dq) osq = wq at bq ⊢
    clear kk1 kq0 ks5 k0
    go_wp2
    go_ret
    exact DoR.mk rfl ((P1.out.below bq).mono (fun k hk => .inl hk)) (F1.out.trans (Fs.of_below bq))
  · have HR := Lib.hid (show giveS sm wk a S = if nextS S.l S.r sm < 0 then (4, S) else sendS S (false, (a : Int), nextS S.l S.r sm, S.l.getD (nextS S.l S.r sm).toNat 0, false, 0) by unfold giveS; rw [if_neg hr])
    have hal : a < S.hands.length := by rw [HHL.out]; omega
    have hle : (a : Int) < (wk : Int) := by omega
    clear hr
    go_enter Tryz.func108, Tryz.ntmps108
    go_wp2_with fail
    rw [HW1.out]
    refine wp_region_quiet_below (by kernel_rfl) (by kernel_rfl) ?_
    repeat (first | go_big_quiet_skip | quiet_step (fail))
    refine wpQuiet_nil ?_
    intro _ hw'
    obtain ⟨⟨dq, osq⟩, hw''⟩ := hw'
    subst hw''
    have bq := below_regrown W1 dq osq
    generalize grow (redrawn W1 dq) osq = wq at bq ⊢
    have P2 := Lib.hid (P1.out.below bq)
    have F2 := Lib.hid (F1.out.trans (Fs.of_below bq))
    have K2 := Lib.hid (K1.out.below bq)
    have V2 := Lib.hid (V1.out.fs (Fs.of_below (S := B) bq) HBM.out)
    have HZ2 := Lib.hid (show w.heap.size ≤ wq.heap.size by have := bq.size; have := HZ1.out; omega)
    have hk0 := K2.out.get 0 _ rfl
    clear kk1 kq0 ks5 k0 bq
    obtain ⟨gl, cl, gr, cr, rfl, rfl, _⟩ := P2.out.desk
    have hdl : S.l.length = sm := HIN.out.desk.ok.1
    have HDL := Lib.hid hdl
    have hnx := nextS_in S.l S.r sm
    clear hdl
    go_wp2_with fail
    refine (RnNext_any _ P2.out V2.out HDL.out (by omega)).mono ?_
    rintro e w3 ⟨rfl, b3⟩
    generalize hz : nextS S.l S.r sm = z at hnx HR ⊢
    clear hz
    have P3 := Lib.hid (P2.out.below b3)
    have F3 := Lib.hid (F2.out.trans (Fs.of_below b3))
    have K3 := Lib.hid (K2.out.below b3)
    have HZ3 := Lib.hid (Nat.le_trans HZ2.out b3.size)
    clear b3 hk0
    by_cases hz : z < 0
    · have HR := Lib.hid (HR.out.trans (if_pos hz))
      go_wp2
      go_ret
      exact DoR.mk HR.out (P3.out.mono (fun k hk => .inl hk)) F3.out
    · have HR := Lib.hid (HR.out.trans (if_neg hz))
      obtain ⟨x, rfl⟩ : ∃ x : Nat, z = (x : Int) := ⟨z.toNat, by omega⟩
      have hx : x < S.l.length := by rw [HDL.out]; omega
      have y0 := P3.out.ol.cell hx
      have HY := Lib.hid (show S.l.getD (x : Int).toNat 0 = S.l[x] by rw [Int.toNat_natCast]; simp [hx])
      generalize S.l[x] = y at y0 HY
      rw [HY.out] at HR
      have x0 : (0 : Int) ≤ (x : Int) := by omega
      have x1 : (x : Int) < (S.l.length : Int) := by omega
      have Y0 := Lib.hid y0
      have CW := Lib.hid (show ∀ W, Below w3.heap.size w3 W → (W.cell? ⟨w.heap.size, 1, none⟩ = some (.int .i64 a) ∧ W.cell? ⟨b, 1, none⟩ = some (.slice (some ⟨gl, 0, none⟩) S.l.length cl) ∧ W.cell? ⟨gl, x, none⟩ = some (.int .i64 y)) from fun W h => ⟨(K3.out.below h).get 1 _ rfl, (P3.out.below h).get.1.2.1, (h.cell (p := ⟨gl, x, none⟩) (cell_lt Y0.out)).trans Y0.out⟩)
      clear hz hnx y0
      go_wp2_with fail
      refine wpX_start (fun W => W.cell? ⟨w.heap.size, 1, none⟩ = some (.int .i64 a) ∧ W.cell? ⟨b, 1, none⟩ = some (.slice (some ⟨gl, 0, none⟩) S.l.length cl) ∧ W.cell? ⟨gl, x, none⟩ = some (.int .i64 y)) [14, 15] (by kernel_rfl) ?_
      have hC := CW.out w3.drew (Below.refl w3.heap.size w3).drew
      refine wpX_free (i := 0) (v := ?_) rfl (by kernel_rfl) (fun _ _ _ h => h) rfl (fun w' => ?_) ?_
      rotate_left
      · go_simp; try with_reducible rfl
      try simp only [Act.put, List.setIfInBounds_toArray, List.set_cons_zero, List.set_cons_succ]
      refine wpX_free (i := 1) (v := ?_) rfl (by kernel_rfl) (fun _ _ _ h => h) rfl (fun w' => ?_) ?_
      rotate_left
      · go_simp; try with_reducible rfl
      try simp only [Act.put, List.setIfInBounds_toArray, List.set_cons_zero, List.set_cons_succ]
      refine wpX_load (i := 2) (v := ?_) rfl (by kernel_rfl) (fun _ _ _ h => h) hC rfl (fun w' hw' => ?_) ?_
      rotate_left
      · obtain ⟨k1, k2, k3⟩ := hw'; go_simp; try with_reducible rfl
      try simp only [Act.put, List.setIfInBounds_toArray, List.set_cons_zero, List.set_cons_succ]
      refine wpX_free (i := 3) (v := ?_) rfl (by kernel_rfl) (fun _ _ _ h => h) rfl (fun w' => ?_) ?_
      rotate_left
      · go_simp; try with_reducible rfl
      try simp only [Act.put, List.setIfInBounds_toArray, List.set_cons_zero, List.set_cons_succ]
      refine wpX_free (i := 4) (v := ?_) rfl (by kernel_rfl) (fun _ _ _ h => h) rfl (fun w' => ?_) ?_
      rotate_left
      · go_simp; try with_reducible rfl
      try simp only [Act.put, List.setIfInBounds_toArray, List.set_cons_zero, List.set_cons_succ]
      refine wpX_free (i := 5) (v := ?_) rfl (by kernel_rfl) (fun _ _ _ h => h) rfl (fun w' => ?_) ?_
      rotate_left
      · go_simp; try with_reducible rfl
      try simp only [Act.put, List.setIfInBounds_toArray, List.set_cons_zero, List.set_cons_succ]
      refine wpX_free (i := 6) (v := ?_) rfl (by kernel_rfl) (fun _ _ _ h => h) rfl (fun w' => ?_) ?_
      rotate_left
      · go_simp; try with_reducible rfl
      try simp only [Act.put, List.setIfInBounds_toArray, List.set_cons_zero, List.set_cons_succ]
      refine wpX_free (i := 7) (v := ?_) rfl (by kernel_rfl) (fun _ _ _ h => h) rfl (fun w' => ?_) ?_
      rotate_left
      · go_simp; try with_reducible rfl
      try simp only [Act.put, List.setIfInBounds_toArray, List.set_cons_zero, List.set_cons_succ]
      refine wpX_free (i := 8) (v := ?_) rfl (by kernel_rfl) (fun _ _ _ h => h) rfl (fun w' => ?_) ?_
      rotate_left
      · go_simp; try with_reducible rfl
      try simp only [Act.put, List.setIfInBounds_toArray, List.set_cons_zero, List.set_cons_succ]
      refine wpX_load (i := 9) (v := ?_) rfl (by kernel_rfl) (fun _ _ _ h => h) hC rfl (fun w' hw' => ?_) ?_
      rotate_left
      · obtain ⟨k1, k2, k3⟩ := hw'; go_simp; try with_reducible rfl
      try simp only [Act.put, List.setIfInBounds_toArray, List.set_cons_zero, List.set_cons_succ]
      refine wpX_free (i := 10) (v := ?_) rfl (by kernel_rfl) (fun _ _ _ h => h) rfl (fun w' => ?_) ?_
      rotate_left
      · go_simp; try with_reducible rfl
      try simp only [Act.put, List.setIfInBounds_toArray, List.set_cons_zero, List.set_cons_succ]
      refine wpX_free (i := 11) (v := ?_) rfl (by kernel_rfl) (fun _ _ _ h => h) rfl (fun w' => ?_) ?_
      rotate_left
      · go_simp; try with_reducible rfl
      try simp only [Act.put, List.setIfInBounds_toArray, List.set_cons_zero, List.set_cons_succ]
      refine wpX_load (i := 12) (v := ?_) rfl (by kernel_rfl) (fun _ _ _ h => h) hC rfl (fun w' hw' => ?_) ?_
      rotate_left
      · obtain ⟨k1, k2, k3⟩ := hw'; go_simp; try with_reducible rfl
      try simp only [Act.put, List.setIfInBounds_toArray, List.set_cons_zero, List.set_cons_succ]
      refine wpX_free (i := 13) (v := ?_) rfl (by kernel_rfl) (fun _ _ _ h => h) rfl (fun w' => ?_) ?_
      rotate_left
      · go_simp; try with_reducible rfl
      try simp only [Act.put, List.setIfInBounds_toArray, List.set_cons_zero, List.set_cons_succ]
      refine wpX_rest (t := [14, 15]) (l := [_, _]) rfl (by kernel_rfl) (by kernel_rfl) ?_
      clear hC
      have P4 := Lib.hid (P3.out.below (Below.refl w3.heap.size w3).drew)
      have F4 := Lib.hid (F3.out.trans (Fs.of_below (Below.refl w3.heap.size w3).drew))
      go_wp2_with fail
      refine (RnSend_any false a x y false 0 _ P4.out HIN.out.wl).mono ?_
      intro e w5 h
      obtain ⟨rfl, h9⟩ := h.up F4.out
      have HP := Lib.hid h9
      clear h h9
      go_wp2
      go_ret
      rw [HR.out]
      exact ⟨rfl, HP.out⟩
end Go.Proofs.YtofpelmplcoegaaGreat
