/-
  The reference's plant: deeds with packets.
-/
import Derived.Test.YtijpkcdalmlaiaaZRowFnPlantPackets34
set_option linter.unusedVariables false
set_option linter.unusedSimpArgs false
namespace Go.Proofs.Ytijpkcdalmlaiaa
open Go.RowKit Go.Sort
theorem own_fs {α : Type} {F : Flat α} {T : Nat → Prop} {w w' : World} {base : Nat} {v : Value} {xs : List α} (h : F.Own w base v xs) (hf : Fs T w w') (hT : ∀ g, v.ownBlock = some g → ¬ T g) : F.Own w' base v xs := by
  refine ⟨h.1, ?_⟩
  rcases h.2 with h2 | ⟨g, cap, cur, h1, h2, h3, h4⟩
  · exact .inl h2
  · refine .inr ⟨g, cap, cur, h1, h2, ?_, h4⟩
    rw [hf.block g (Array.getElem?_eq_some_iff.1 h3).1 (hT g (by rw [h1]; rfl))]; exact h3
theorem come_wire (pk : Pk) (S : PS) : (comeS pk S).wire = S.wire := by
  unfold comeS writeS learnS
  repeat' split
  all_goals rfl
theorem come_erase (pk : Pk) (S : PS) (ws : List Pk) : comeS pk { S with wire := ws } = { comeS pk S with wire := ws } := by
  unfold comeS writeS learnS
  dsimp only
  repeat' split
  all_goals first | rfl | (simp_all)
/-- what stands behind the first ones -/
theorem Flat.Own.drop {α : Type} {F : Flat α} {w : World} {base g c : Nat} {xs : List α} (h : F.Own w base (.slice (some ⟨g, 0, none⟩) xs.length c) xs) (k : Nat) (hk : k ≤ xs.length) :
    ∃ ad, (if c = k then some (⟨g, 0, none⟩ : Addr) else some ⟨g, k * F.size, none⟩) = some ad ∧ Rd w (some ad) (F.encs (xs.drop k)) := by
  have hlt := (World.ownsRow.lt (show w.ownsRow base F.E F.size (.slice (some ⟨g, 0, none⟩) xs.length c) xs.length (F.encs xs) from h) g rfl).2
  by_cases hc : c = k
  · refine ⟨_, if_pos hc, ?_⟩
    have := h.sl.len_of
    rw [List.drop_eq_nil_of_le (by omega)]
    exact Rd.nil _ _
  · refine ⟨_, if_neg hc, fun j u hu => ⟨g, k * F.size, rfl, hlt, ?_⟩⟩
    have hj := (List.getElem?_eq_some_iff.1 hu).1
    rw [F.encs_length, List.length_drop] at hj
    have e : F.encs xs = F.encs (xs.take k) ++ F.encs (xs.drop k) := by rw [← F.encs_append, List.take_append_drop]
    have hl : (F.encs (xs.take k)).length = k * F.size := by rw [F.encs_length, List.length_take, Nat.min_eq_left hk]
    have hm : k * F.size + (xs.length - k) * F.size = xs.length * F.size := by rw [← Nat.add_mul]; congr 1; omega
    rw [World.ownsRow.cellAt (show w.ownsRow base F.E F.size (.slice (some ⟨g, 0, none⟩) xs.length c) xs.length (F.encs xs) from h) _ (by omega), e, List.getElem?_append_right (by omega), hl, Nat.add_sub_cancel_left]
    exact hu
theorem RunIs.own' {w : World} {b sb : Nat} {B : Nat → Prop} {S : PS} {vl vr ve vh vw vo : Value} (h : RunIs w b sb B S vl vr ve vh vw vo) : RunIs w b sb (OwnB b S vl vr ve vh vw vo) S vl vr ve vh vw vo := ⟨h.toPlIs.own, h.c0⟩

set_option maxRecDepth 100000 in
set_option maxHeartbeats 4000000 in
theorem RnWire_4 {b sb sm wk n : Nat} {t bs : Int} {sv : Value} {xss : List (List Int)} {M : Nat} {B : Nat → Prop} {S : PS} {vl vr ve vh vw vo : Value} {a : Nat} (w : World) (P : RunIs w b sb B S vl vr ve vh vw vo) (hI : PInv n sm wk S) (hs : 1 ≤ sm ∧ sm ≤ 8) (ha : a ≤ 999) :
    Calls Try.prog 98 #[.pointer (some ⟨b, 0, none⟩), .agg #[.int .i64 4, .int .i64 a]] w (DoR b sb B (wireS 4 a S) w) := by
  have HIN := Lib.hid hI
  have HPO := Lib.hid (hI.plOk hs.1 hs.2)
  have b1 : Below w.heap.size w (w.alloc (.cells #[.int .i64 4, .int .i64 a] 68)) := (Below.refl _ _).alloc (Nat.le_refl _) _
  have K1 := Lib.hid (CellsAt.new w [.int .i64 4, .int .i64 a] 68)
  obtain ⟨W1, hW1⟩ : ∃ W1, W1 = w.alloc (.cells #[.int .i64 4, .int .i64 a] 68) := ⟨_, rfl⟩
  rw [show (w.alloc (.cells ([.int .i64 4, .int .i64 a] : List Value).toArray 68)) = W1 from hW1.symm] at K1
  rw [← hW1] at b1
  have P1 := Lib.hid (P.below b1)
  have B1 := Lib.hid b1
  have HB := Lib.hid P.ownB
  have HL := Lib.hid P.ownLt
  have F1 := Lib.hid (Fs.of_below (S := B) b1)
  have HZ1 := Lib.hid (show W1.heap.size = w.heap.size + 1 by rw [hW1]; simp)
  have HW1 := Lib.hid hW1.symm
  have hbl := P1.out.blt
  have k0 := K1.out.get 0 _ rfl
  have k1 := K1.out.get 1 _ rfl
  have HWL := Lib.hid hI.wl
  obtain ⟨wa0, wc0, hvw, _, _⟩ := P1.out.ow.shape
  have q7 := P1.out.get.2.2.2.1
  rw [hvw] at q7
  have kk1 := fun d os => cell_regrown k1 d os
  have kq7 := fun d os => cell_regrown q7 d os
  clear P b1 hW1 hI k1 q7
  by_cases hr : (S.wire.length : Int) ≤ a
  · rw [show wireS 4 a S = (2, S) by unfold wireS; rw [if_pos hr]]
    go_enter Try.func98, Try.ntmps98
    go_wp2_with fail
    rw [HW1.out]
    refine wp_region_quiet_below (by kernel_rfl) (by kernel_rfl) ?_
    repeat (first | go_big_quiet_skip | quiet_step (fail))
    refine wpQuiet_nil ?_
    intro _ hw'
    obtain ⟨⟨dq, osq⟩, hw''⟩ := hw'
    subst hw''
    have bq := below_regrown W1 dq osq
    generalize grow (redrawn W1 dq) osq = wq at bq ⊢
    clear kk1 kq7 k0
    go_wp2
    go_ret
    exact DoR.mk rfl ((P1.out.below bq).mono (fun k hk => .inl hk)) (F1.out.trans (Fs.of_below bq))
  · have hal : a < S.wire.length := by omega
    have GX : S.wire.getD a noPk = S.wire[a] := by simp [hal]
    have hpk := HIN.out.wire _ (List.getElem_mem hal)
    obtain ⟨g, wc, hvg, hglt⟩ := P1.out.ow.form (by omega)
    rw [hvg] at hvw
    simp only [Value.slice.injEq] at hvw
    obtain ⟨rfl, _, rfl⟩ := hvw
    subst hvg
    obtain ⟨b0, o0, he, _, e0, e1, e2, e3, e4, e5⟩ := FPacket_at P1.out.ow.sl hal
    simp only [Option.some.injEq, Addr.mk.injEq] at he
    obtain ⟨rfl, rfl, _⟩ := he
    simp only [Nat.zero_add] at e0 e1 e2 e3 e4 e5
    generalize hx : S.wire[a] = x at GX hpk e0 e1 e2 e3 e4 e5
    obtain ⟨x0, x1, x2, x3, x4, x5⟩ := x
    dsimp only at e0 e1 e2 e3 e4 e5
    have HR := Lib.hid (show wireS 4 a S = (0, comeS (x0, x1, x2, x3, x4, x5) S) by
      unfold wireS; rw [if_neg hr, Int.toNat_natCast, GX]; rfl)
    have hlt : (a : Int) < (S.wire.length : Int) := by omega
    have a0 : (0 : Int) ≤ (a : Int) := by omega
    have HPK := Lib.hid hpk
    have HAL := Lib.hid hal
    clear hr hx GX hpk
    go_enter Try.func98, Try.ntmps98
    go_wp2_with fail
    rw [HW1.out]
    refine wp_region_quiet_below (by kernel_rfl) (by kernel_rfl) ?_
    repeat (first | go_big_quiet_skip | quiet_step (fail))
    refine wpQuiet_nil ?_
    intro _ hw'
    obtain ⟨⟨dq, osq⟩, hw''⟩ := hw'
    subst hw''
    have bq := below_regrown W1 dq osq
    generalize grow (redrawn W1 dq) osq = wq at bq ⊢
    have P2 := Lib.hid (P1.out.below bq)
    have F2 := Lib.hid (F1.out.trans (Fs.of_below bq))
    have K2 := Lib.hid (K1.out.below bq)
    have HZ2 := Lib.hid (show w.heap.size ≤ wq.heap.size by have := bq.size; have := HZ1.out; omega)
    have CW := Lib.hid (show ∀ W, Below wq.heap.size wq W → (W.cell? ⟨b, 7, none⟩ = some (.slice (some ⟨g, 0, none⟩) S.wire.length wc) ∧ W.cell? ⟨w.heap.size, 1, none⟩ = some (.int .i64 a) ∧ W.cell? ⟨g, a * 6, none⟩ = some (.bool x0) ∧ W.cell? ⟨g, a * 6 + 1, none⟩ = some (.int .i64 x1) ∧ W.cell? ⟨g, a * 6 + 2, none⟩ = some (.int .i64 x2) ∧ W.cell? ⟨g, a * 6 + 3, none⟩ = some (.int .i64 x3) ∧ W.cell? ⟨g, a * 6 + 4, none⟩ = some (.bool x4) ∧ W.cell? ⟨g, a * 6 + 5, none⟩ = some (.int .i64 x5)) from fun W h => by
      have bb := bq.trans (h.mono bq.size)
      exact ⟨(P2.out.below h).get.2.2.2.1, (K2.out.below h).get 1 _ rfl, (bb.cell (p := ⟨g, a * 6, none⟩) hglt).trans e0, (bb.cell (p := ⟨g, a * 6 + 1, none⟩) hglt).trans e1, (bb.cell (p := ⟨g, a * 6 + 2, none⟩) hglt).trans e2, (bb.cell (p := ⟨g, a * 6 + 3, none⟩) hglt).trans e3, (bb.cell (p := ⟨g, a * 6 + 4, none⟩) hglt).trans e4, (bb.cell (p := ⟨g, a * 6 + 5, none⟩) hglt).trans e5⟩)
    have hk0 := K2.out.get 0 _ rfl
    clear kk1 kq7 k0 bq e0 e1 e2 e3 e4 e5
    go_wp2_with fail
    refine wpX_start (fun W => W.cell? ⟨b, 7, none⟩ = some (.slice (some ⟨g, 0, none⟩) S.wire.length wc) ∧ W.cell? ⟨w.heap.size, 1, none⟩ = some (.int .i64 a) ∧ W.cell? ⟨g, a * 6, none⟩ = some (.bool x0) ∧ W.cell? ⟨g, a * 6 + 1, none⟩ = some (.int .i64 x1) ∧ W.cell? ⟨g, a * 6 + 2, none⟩ = some (.int .i64 x2) ∧ W.cell? ⟨g, a * 6 + 3, none⟩ = some (.int .i64 x3) ∧ W.cell? ⟨g, a * 6 + 4, none⟩ = some (.bool x4) ∧ W.cell? ⟨g, a * 6 + 5, none⟩ = some (.int .i64 x5)) [10] (by kernel_rfl) ?_
    have hC := CW.out wq.drew (Below.refl wq.heap.size wq).drew
    refine wpX_free (i := 0) (v := ?_) rfl (by kernel_rfl) (fun _ _ _ h => h) rfl (fun w' => ?_) ?_
    rotate_left
    · go_simp; try with_reducible rfl
    try simp only [Act.put, List.setIfInBounds_toArray, List.set_cons_zero, List.set_cons_succ]
    refine wpX_free (i := 1) (v := ?_) rfl (by kernel_rfl) (fun _ _ _ h => h) rfl (fun w' => ?_) ?_
    rotate_left
    · go_simp; try with_reducible rfl
    try simp only [Act.put, List.setIfInBounds_toArray, List.set_cons_zero, List.set_cons_succ]
    refine wpX_free (i := 2) (v := ?_) rfl (by kernel_rfl) (fun _ _ _ h => h) rfl (fun w' => ?_) ?_
    rotate_left
    · go_simp; try with_reducible rfl
    try simp only [Act.put, List.setIfInBounds_toArray, List.set_cons_zero, List.set_cons_succ]
    refine wpX_free (i := 3) (v := ?_) rfl (by kernel_rfl) (fun _ _ _ h => h) rfl (fun w' => ?_) ?_
    rotate_left
    · go_simp; try with_reducible rfl
    try simp only [Act.put, List.setIfInBounds_toArray, List.set_cons_zero, List.set_cons_succ]
    refine wpX_free (i := 4) (v := ?_) rfl (by kernel_rfl) (fun _ _ _ h => h) rfl (fun w' => ?_) ?_
    rotate_left
    · go_simp; try with_reducible rfl
    try simp only [Act.put, List.setIfInBounds_toArray, List.set_cons_zero, List.set_cons_succ]
    refine wpX_load (i := 5) (v := ?_) rfl (by kernel_rfl) (fun _ _ _ h => h) hC rfl (fun w' hw' => ?_) ?_
    rotate_left
    · obtain ⟨k1, k2, k3, k4, k5, k6, k7, k8⟩ := hw'; go_simp; try with_reducible rfl
    try simp only [Act.put, List.setIfInBounds_toArray, List.set_cons_zero, List.set_cons_succ]
    refine wpX_free (i := 6) (v := ?_) rfl (by kernel_rfl) (fun _ _ _ h => h) rfl (fun w' => ?_) ?_
    rotate_left
    · go_simp; try with_reducible rfl
    try simp only [Act.put, List.setIfInBounds_toArray, List.set_cons_zero, List.set_cons_succ]
    refine wpX_load (i := 7) (v := ?_) rfl (by kernel_rfl) (fun _ _ _ h => h) hC rfl (fun w' hw' => ?_) ?_
    rotate_left
    · obtain ⟨k1, k2, k3, k4, k5, k6, k7, k8⟩ := hw'; go_simp; try with_reducible rfl
    try simp only [Act.put, List.setIfInBounds_toArray, List.set_cons_zero, List.set_cons_succ]
    refine wpX_free (i := 8) (v := ?_) rfl (by kernel_rfl) (fun _ _ _ h => h) rfl (fun w' => ?_) ?_
    rotate_left
    · go_simp; try with_reducible rfl
    try simp only [Act.put, List.setIfInBounds_toArray, List.set_cons_zero, List.set_cons_succ]
    refine wpX_load (i := 9) (v := ?_) rfl (by kernel_rfl) (fun _ _ _ h => h) hC rfl (fun w' hw' => ?_) ?_
    rotate_left
    · obtain ⟨k1, k2, k3, k4, k5, k6, k7, k8⟩ := hw'; go_simp; try with_reducible rfl
    try simp only [Act.put, List.setIfInBounds_toArray, List.set_cons_zero, List.set_cons_succ]
    refine wpX_rest (t := [10]) (l := [_]) rfl (by kernel_rfl) (by kernel_rfl) ?_
    clear hC hk0
    have P3 := Lib.hid (P2.out.below (Below.refl wq.heap.size wq).drew)
    have F3 := Lib.hid (F2.out.trans (Fs.of_below (Below.refl wq.heap.size wq).drew))
    have K3 := Lib.hid (K2.out.below (Below.refl wq.heap.size wq).drew)
    have HOB := Lib.hid P3.out.toPlIs.ownB
    have HOL := Lib.hid (show ¬ OwnB b S vl vr ve vh (.slice (some ⟨g, 0, none⟩) S.wire.length wc) vo w.heap.size from fun h => by have := HL.out w.heap.size h; omega)
    have PO := Lib.hid P3.out.own'
    go_wp2_with fail
    refine (RnCome_any (x0, x1, x2, x3, x4, x5) _ PO.out HPO.out HPK.out HIN.out.hl).mono ?_
    rintro e w4 ⟨rfl, ve4, P4, F4⟩
    have K4 := Lib.hid (K3.out.fs F4 HOL.out)
    have P4 := Lib.hid (P4.mono (B' := Bm B w.heap.size) (fun k hk => hk.elim (fun h => .inl (HOB.out k h)) (fun h => .inr (Nat.le_trans HZ2.out h))))
    have F4 := Lib.hid (F3.out.trans (F4.mono HOB.out))
    have HW4 := Lib.hid (come_wire (x0, x1, x2, x3, x4, x5) S)
    have hk4 := K4.out.get 0 _ rfl
    have HZ4 := Lib.hid (show w.heap.size ≤ w4.heap.size from F4.out.size)
    go_wp2
    go_ret
    exact DoR.mk HR.out P4.out F4.out
set_option maxRecDepth 100000 in
set_option maxHeartbeats 4000000 in
theorem RnWire_5 {b sb sm wk n : Nat} {t bs : Int} {sv : Value} {xss : List (List Int)} {M : Nat} {B : Nat → Prop} {S : PS} {vl vr ve vh vw vo : Value} {a : Nat} (w : World) (P : RunIs w b sb B S vl vr ve vh vw vo) (hI : PInv n sm wk S) (hs : 1 ≤ sm ∧ sm ≤ 8) (ha : a ≤ 999) :
    Calls Try.prog 98 #[.pointer (some ⟨b, 0, none⟩), .agg #[.int .i64 5, .int .i64 a]] w (DoR b sb B (wireS 5 a S) w) := by
  have HIN := Lib.hid hI
  have HPO := Lib.hid (hI.plOk hs.1 hs.2)
  have b1 : Below w.heap.size w (w.alloc (.cells #[.int .i64 5, .int .i64 a] 68)) := (Below.refl _ _).alloc (Nat.le_refl _) _
  have K1 := Lib.hid (CellsAt.new w [.int .i64 5, .int .i64 a] 68)
  obtain ⟨W1, hW1⟩ : ∃ W1, W1 = w.alloc (.cells #[.int .i64 5, .int .i64 a] 68) := ⟨_, rfl⟩
  rw [show (w.alloc (.cells ([.int .i64 5, .int .i64 a] : List Value).toArray 68)) = W1 from hW1.symm] at K1
  rw [← hW1] at b1
  have P1 := Lib.hid (P.below b1)
  have B1 := Lib.hid b1
  have HB := Lib.hid P.ownB
  have HL := Lib.hid P.ownLt
  have F1 := Lib.hid (Fs.of_below (S := B) b1)
  have HZ1 := Lib.hid (show W1.heap.size = w.heap.size + 1 by rw [hW1]; simp)
  have HW1 := Lib.hid hW1.symm
  have hbl := P1.out.blt
  have k0 := K1.out.get 0 _ rfl
  have k1 := K1.out.get 1 _ rfl
  have HWL := Lib.hid hI.wl
  obtain ⟨wa0, wc0, hvw, _, _⟩ := P1.out.ow.shape
  have q7 := P1.out.get.2.2.2.1
  rw [hvw] at q7
  have kk1 := fun d os => cell_regrown k1 d os
  have kq7 := fun d os => cell_regrown q7 d os
  clear P b1 hW1 hI k1 q7
  by_cases hr : (S.wire.length : Int) ≤ a
  · rw [show wireS 5 a S = (2, S) by unfold wireS; rw [if_pos hr]]
    go_enter Try.func98, Try.ntmps98
    go_wp2_with fail
    rw [HW1.out]
    refine wp_region_quiet_below (by kernel_rfl) (by kernel_rfl) ?_
    repeat (first | go_big_quiet_skip | quiet_step (fail))
    refine wpQuiet_nil ?_
    intro _ hw'
    obtain ⟨⟨dq, osq⟩, hw''⟩ := hw'
    subst hw''
    have bq := below_regrown W1 dq osq
    generalize grow (redrawn W1 dq) osq = wq at bq ⊢
    clear kk1 kq7 k0
    go_wp2
    go_ret
    exact DoR.mk rfl ((P1.out.below bq).mono (fun k hk => .inl hk)) (F1.out.trans (Fs.of_below bq))
  · have hal : a < S.wire.length := by omega
    have GX : S.wire.getD a noPk = S.wire[a] := by simp [hal]
    have hpk := HIN.out.wire _ (List.getElem_mem hal)
    obtain ⟨g, wc, hvg, hglt⟩ := P1.out.ow.form (by omega)
    rw [hvg] at hvw
    simp only [Value.slice.injEq] at hvw
    obtain ⟨rfl, _, rfl⟩ := hvw
    subst hvg
    obtain ⟨b0, o0, he, _, e0, e1, e2, e3, e4, e5⟩ := FPacket_at P1.out.ow.sl hal
    simp only [Option.some.injEq, Addr.mk.injEq] at he
    obtain ⟨rfl, rfl, _⟩ := he
    simp only [Nat.zero_add] at e0 e1 e2 e3 e4 e5
    generalize hx : S.wire[a] = x at GX hpk e0 e1 e2 e3 e4 e5
    obtain ⟨x0, x1, x2, x3, x4, x5⟩ := x
    dsimp only at e0 e1 e2 e3 e4 e5
    have HR := Lib.hid (show wireS 5 a S = (0, { S with wire := S.wire.eraseIdx a }) by
      unfold wireS; rw [if_neg hr, Int.toNat_natCast, GX]; rfl)
    have hlt : (a : Int) < (S.wire.length : Int) := by omega
    have a0 : (0 : Int) ≤ (a : Int) := by omega
    have HPK := Lib.hid hpk
    have HAL := Lib.hid hal
    clear hr hx GX hpk
    go_enter Try.func98, Try.ntmps98
    go_wp2_with fail
    rw [HW1.out]
    refine wp_region_quiet_below (by kernel_rfl) (by kernel_rfl) ?_
    repeat (first | go_big_quiet_skip | quiet_step (fail))
    refine wpQuiet_nil ?_
    intro _ hw'
    obtain ⟨⟨dq, osq⟩, hw''⟩ := hw'
    subst hw''
    have bq := below_regrown W1 dq osq
    generalize grow (redrawn W1 dq) osq = wq at bq ⊢
    have P2 := Lib.hid (P1.out.below bq)
    have F2 := Lib.hid (F1.out.trans (Fs.of_below bq))
    have K2 := Lib.hid (K1.out.below bq)
    have HZ2 := Lib.hid (show w.heap.size ≤ wq.heap.size by have := bq.size; have := HZ1.out; omega)
    have CW := Lib.hid (show ∀ W, Below wq.heap.size wq W → (W.cell? ⟨b, 7, none⟩ = some (.slice (some ⟨g, 0, none⟩) S.wire.length wc) ∧ W.cell? ⟨w.heap.size, 1, none⟩ = some (.int .i64 a) ∧ W.cell? ⟨g, a * 6, none⟩ = some (.bool x0) ∧ W.cell? ⟨g, a * 6 + 1, none⟩ = some (.int .i64 x1) ∧ W.cell? ⟨g, a * 6 + 2, none⟩ = some (.int .i64 x2) ∧ W.cell? ⟨g, a * 6 + 3, none⟩ = some (.int .i64 x3) ∧ W.cell? ⟨g, a * 6 + 4, none⟩ = some (.bool x4) ∧ W.cell? ⟨g, a * 6 + 5, none⟩ = some (.int .i64 x5)) from fun W h => by
      have bb := bq.trans (h.mono bq.size)
      exact ⟨(P2.out.below h).get.2.2.2.1, (K2.out.below h).get 1 _ rfl, (bb.cell (p := ⟨g, a * 6, none⟩) hglt).trans e0, (bb.cell (p := ⟨g, a * 6 + 1, none⟩) hglt).trans e1, (bb.cell (p := ⟨g, a * 6 + 2, none⟩) hglt).trans e2, (bb.cell (p := ⟨g, a * 6 + 3, none⟩) hglt).trans e3, (bb.cell (p := ⟨g, a * 6 + 4, none⟩) hglt).trans e4, (bb.cell (p := ⟨g, a * 6 + 5, none⟩) hglt).trans e5⟩)
    have hk0 := K2.out.get 0 _ rfl
    clear kk1 kq7 k0 bq e0 e1 e2 e3 e4 e5
    go_wp2_with fail
    have HW4 := Lib.hid (rfl : S.wire = S.wire)
    have HZ4 := HZ2
    have C6H := Lib.hid (show ∀ W, Below wq.heap.size wq W → (W.cell? ⟨b, 7, none⟩ = some (.slice (some ⟨g, 0, none⟩) S.wire.length wc) ∧ W.cell? ⟨w.heap.size, 1, none⟩ = some (.int .i64 a)) from fun W h => ⟨(P2.out.below h).get.2.2.2.1, (K2.out.below h).get 1 _ rfl⟩)
    have hwr : IntKind.i64.wrap ((a : Int) + 1) = (a : Int) + 1 := IntWalk.i64_in _ (by omega)
    have OWW := Lib.hid (fun W (h : Below wq.heap.size wq W) => show FPacket.Own W 0 (.slice (some ⟨g, 0, none⟩) S.wire.length wc) S.wire from by have h9 := (P2.out.below h).toPlIs.ow; rw [HW4.out] at h9; exact h9)
    have hwc := (OWW.out wq (Below.refl _ _)).sl.len_of
    have c1 : (a : Int) + 1 ≤ (S.wire.length : Int) := by omega
    have c2 : (S.wire.length : Int) ≤ (wc : Int) := by omega
    have c3 : (0 : Int) ≤ (a : Int) + 1 := by omega
    have c4 : (a : Int) ≤ (wc : Int) := by omega
    have c5 : ((a : Int) + 1).toNat = a + 1 := by omega
    obtain ⟨ad, had, hrd⟩ := (OWW.out wq (Below.refl _ _)).drop (a + 1) (by omega)
    have HAD := Lib.hid (show (if wc = a + 1 then some (⟨g, 0, none⟩ : Addr) else some ⟨g, (a + 1) * 6, none⟩) = some ad from had)
    have HRD := Lib.hid hrd
    have HWLN := HWL.out
    clear had hrd hwc
    go_wp2_with fail
    refine wpX_start (fun W => W.cell? ⟨b, 7, none⟩ = some (.slice (some ⟨g, 0, none⟩) S.wire.length wc) ∧ W.cell? ⟨w.heap.size, 1, none⟩ = some (.int .i64 a)) [] (by kernel_rfl) ?_
    have hC := C6H.out wq.drew (Below.refl wq.heap.size wq).drew
    refine wpX_free (i := 1) (v := ?_) rfl (by kernel_rfl) (fun _ _ _ h => h) rfl (fun w' => ?_) ?_
    rotate_left
    · go_simp; try with_reducible rfl
    try simp only [Act.put, List.setIfInBounds_toArray, List.set_cons_zero, List.set_cons_succ]
    refine wpX_free (i := 2) (v := ?_) rfl (by kernel_rfl) (fun _ _ _ h => h) rfl (fun w' => ?_) ?_
    rotate_left
    · go_simp; try with_reducible rfl
    try simp only [Act.put, List.setIfInBounds_toArray, List.set_cons_zero, List.set_cons_succ]
    refine wpX_free (i := 3) (v := ?_) rfl (by kernel_rfl) (fun _ _ _ h => h) rfl (fun w' => ?_) ?_
    rotate_left
    · go_simp; try with_reducible rfl
    try simp only [Act.put, List.setIfInBounds_toArray, List.set_cons_zero, List.set_cons_succ]
    refine wpX_free (i := 4) (v := ?_) rfl (by kernel_rfl) (fun _ _ _ h => h) rfl (fun w' => ?_) ?_
    rotate_left
    · go_simp; try with_reducible rfl
    try simp only [Act.put, List.setIfInBounds_toArray, List.set_cons_zero, List.set_cons_succ]
    refine wpX_load (i := 5) (v := ?_) rfl (by kernel_rfl) (fun _ _ _ h => h) hC rfl (fun w' hw' => ?_) ?_
    rotate_left
    · obtain ⟨k1, k2⟩ := hw'; go_simp; try with_reducible rfl
    try simp only [Act.put, List.setIfInBounds_toArray, List.set_cons_zero, List.set_cons_succ]
    refine wpX_free (i := 6) (v := ?_) rfl (by kernel_rfl) (fun _ _ _ h => h) rfl (fun w' => ?_) ?_
    rotate_left
    · go_simp; try with_reducible rfl
    try simp only [Act.put, List.setIfInBounds_toArray, List.set_cons_zero, List.set_cons_succ]
    refine wpX_load (i := 7) (v := ?_) rfl (by kernel_rfl) (fun _ _ _ h => h) hC rfl (fun w' hw' => ?_) ?_
    rotate_left
    · obtain ⟨k1, k2⟩ := hw'; go_simp; try with_reducible rfl
    try simp only [Act.put, List.setIfInBounds_toArray, List.set_cons_zero, List.set_cons_succ]
    refine wpX_free (i := 8) (v := ?_) rfl (by kernel_rfl) (fun _ _ _ h => h) rfl (fun w' => ?_) ?_
    rotate_left
    · go_simp; try with_reducible rfl
    try simp only [Act.put, List.setIfInBounds_toArray, List.set_cons_zero, List.set_cons_succ]
    refine wpX_free (i := 9) (v := ?_) rfl (by kernel_rfl) (fun _ _ _ h => h) rfl (fun w' => ?_) ?_
    rotate_left
    · go_simp; try with_reducible rfl
    try simp only [Act.put, List.setIfInBounds_toArray, List.set_cons_zero, List.set_cons_succ]
    refine wpX_one (i := 0) rfl (by kernel_rfl) rfl ?_
    intro K hK
    go_simp
    refine hK _ _ (C6H.out _ (by (repeat (first | exact Below.refl _ _ | refine Below.drew ?_ | refine Below.alloc ?_ (by simp) _)))) ?_
    have hb6 : Below wq.heap.size wq (wq.alloc (.cells #[] 125)).drew := ((Below.refl _ _).alloc (Nat.le_refl _) _).drew
    clear hK K
    try simp only [Act.put, List.setIfInBounds_toArray, List.set_cons_zero, List.set_cons_succ]
    refine wpX_one (i := 10) rfl (by kernel_rfl) rfl ?_
    intro K hK
    rw [HAD.out]
    refine Flat.wpApp FPacket (wq.alloc (.cells #[] 125)).drew (.tmp 32) (.tmp 41) rfl (base := wq.heap.size) (v := .slice (some ⟨wq.heap.size, 0, none⟩) 0 0) (xs := []) (ys := S.wire.drop (a + 1)) rfl ((Flat.Own.empty (F := FPacket) wq (Nat.le_refl _)).below (Below.refl _ _).drew) (ad := some ad) (c := wc - (a + 1)) (by rw [List.length_drop]; rfl) (HRD.out.below hb6) (by simp; omega) hb6.size ?_
    intro v6 w6 o6 g6
    have b6 : Below wq.heap.size wq w6 := hb6.trans ((Below.refl _ _).grown g6 hb6.size (fun k hk => by simp [Value.ownBlock] at hk; omega))
    have hC := C6H.out w6 b6
    refine hK _ _ hC ?_
    clear hK K g6
    rw [List.nil_append] at o6
    obtain ⟨ra, rc, hv6, _, _⟩ := o6.shape
    have HV6 := Lib.hid hv6
    subst hv6
    try simp only [Act.put, List.setIfInBounds_toArray, List.set_cons_zero, List.set_cons_succ]
    refine wpX_free (i := 11) (v := ?_) rfl (by kernel_rfl) (fun _ _ _ h => h) rfl (fun w' => ?_) ?_
    rotate_left
    · go_simp; try with_reducible rfl
    try simp only [Act.put, List.setIfInBounds_toArray, List.set_cons_zero, List.set_cons_succ]
    refine wpX_rest (t := []) (l := []) rfl (by kernel_rfl) (by kernel_rfl) ?_
    clear hC
    have P6 := Lib.hid (P2.out.below b6)
    have F6 := Lib.hid (F2.out.trans (Fs.of_below b6))
    have K6 := Lib.hid (K2.out.below b6)
    have O6 := Lib.hid o6
    have HZ6 := Lib.hid (Nat.le_trans HZ4.out b6.size)
    have OW6 := Lib.hid (fun W (h : Below w6.heap.size w6 W) => OWW.out W (b6.trans (h.mono b6.size)))
    have C7H := Lib.hid (show ∀ W, Below w6.heap.size w6 W → (W.cell? ⟨b, 7, none⟩ = some (.slice (some ⟨g, 0, none⟩) S.wire.length wc) ∧ W.cell? ⟨w.heap.size, 1, none⟩ = some (.int .i64 a)) from fun W h => C6H.out W (b6.trans (h.mono b6.size)))
    clear o6 b6 hb6
    go_wp2_with fail
    refine wpX_start (fun W => W.cell? ⟨b, 7, none⟩ = some (.slice (some ⟨g, 0, none⟩) S.wire.length wc) ∧ W.cell? ⟨w.heap.size, 1, none⟩ = some (.int .i64 a)) [16] (by kernel_rfl) ?_
    have hC := C7H.out w6.drew (Below.refl w6.heap.size w6).drew
    refine wpX_free (i := 0) (v := ?_) rfl (by kernel_rfl) (fun _ _ _ h => h) rfl (fun w' => ?_) ?_
    rotate_left
    · go_simp; try with_reducible rfl
    try simp only [Act.put, List.setIfInBounds_toArray, List.set_cons_zero, List.set_cons_succ]
    refine wpX_free (i := 2) (v := ?_) rfl (by kernel_rfl) (fun _ _ _ h => h) rfl (fun w' => ?_) ?_
    rotate_left
    · go_simp; try with_reducible rfl
    try simp only [Act.put, List.setIfInBounds_toArray, List.set_cons_zero, List.set_cons_succ]
    refine wpX_free (i := 3) (v := ?_) rfl (by kernel_rfl) (fun _ _ _ h => h) rfl (fun w' => ?_) ?_
    rotate_left
    · go_simp; try with_reducible rfl
    try simp only [Act.put, List.setIfInBounds_toArray, List.set_cons_zero, List.set_cons_succ]
    refine wpX_free (i := 4) (v := ?_) rfl (by kernel_rfl) (fun _ _ _ h => h) rfl (fun w' => ?_) ?_
    rotate_left
    · go_simp; try with_reducible rfl
    try simp only [Act.put, List.setIfInBounds_toArray, List.set_cons_zero, List.set_cons_succ]
    refine wpX_free (i := 5) (v := ?_) rfl (by kernel_rfl) (fun _ _ _ h => h) rfl (fun w' => ?_) ?_
    rotate_left
    · go_simp; try with_reducible rfl
    try simp only [Act.put, List.setIfInBounds_toArray, List.set_cons_zero, List.set_cons_succ]
    refine wpX_load (i := 6) (v := ?_) rfl (by kernel_rfl) (fun _ _ _ h => h) hC rfl (fun w' hw' => ?_) ?_
    rotate_left
    · obtain ⟨k1, k2⟩ := hw'; go_simp; try with_reducible rfl
    try simp only [Act.put, List.setIfInBounds_toArray, List.set_cons_zero, List.set_cons_succ]
    refine wpX_free (i := 7) (v := ?_) rfl (by kernel_rfl) (fun _ _ _ h => h) rfl (fun w' => ?_) ?_
    rotate_left
    · go_simp; try with_reducible rfl
    try simp only [Act.put, List.setIfInBounds_toArray, List.set_cons_zero, List.set_cons_succ]
    refine wpX_load (i := 8) (v := ?_) rfl (by kernel_rfl) (fun _ _ _ h => h) hC rfl (fun w' hw' => ?_) ?_
    rotate_left
    · obtain ⟨k1, k2⟩ := hw'; go_simp; try with_reducible rfl
    try simp only [Act.put, List.setIfInBounds_toArray, List.set_cons_zero, List.set_cons_succ]
    refine wpX_free (i := 9) (v := ?_) rfl (by kernel_rfl) (fun _ _ _ h => h) rfl (fun w' => ?_) ?_
    rotate_left
    · go_simp; try with_reducible rfl
    try simp only [Act.put, List.setIfInBounds_toArray, List.set_cons_zero, List.set_cons_succ]
    refine wpX_free (i := 11) (v := ?_) rfl (by kernel_rfl) (fun _ _ _ h => h) rfl (fun w' => ?_) ?_
    rotate_left
    · go_simp; try with_reducible rfl
    try simp only [Act.put, List.setIfInBounds_toArray, List.set_cons_zero, List.set_cons_succ]
    refine wpX_one (i := 1) rfl (by kernel_rfl) rfl ?_
    intro K hK
    go_simp
    refine hK _ _ (C7H.out _ (by (repeat (first | exact Below.refl _ _ | refine Below.drew ?_ | refine Below.alloc ?_ (by simp) _)))) ?_
    have hb7 : Below w6.heap.size w6 (w6.alloc (.cells #[] 125)).drew := ((Below.refl _ _).alloc (Nat.le_refl _) _).drew
    clear hK K
    try simp only [Act.put, List.setIfInBounds_toArray, List.set_cons_zero, List.set_cons_succ]
    refine wpX_one (i := 10) rfl (by kernel_rfl) rfl ?_
    intro K hK
    refine Flat.wpApp FPacket (w6.alloc (.cells #[] 125)).drew (.tmp 44) (.tmp 52) rfl (base := w6.heap.size) (v := .slice (some ⟨w6.heap.size, 0, none⟩) 0 0) (xs := []) (ys := S.wire.take a) rfl ((Flat.Own.empty (F := FPacket) w6 (Nat.le_refl _)).below (Below.refl _ _).drew) (ad := some ⟨g, 0, none⟩) (c := wc) (by rw [List.length_take, Nat.min_eq_left (Nat.le_of_lt HAL.out)]; rfl) (by
      obtain ⟨_, _, he, _, _, h⟩ := (Flat.Sl.take' (OW6.out _ hb7).sl (Nat.le_of_lt HAL.out))
      simp only [Value.slice.injEq] at he
      obtain ⟨rfl, _, _⟩ := he
      exact h) (by simp; omega) hb7.size ?_
    intro v7 w7 o7 g7
    have b7 : Below w6.heap.size w6 w7 := hb7.trans ((Below.refl _ _).grown g7 hb7.size (fun k hk => by simp [Value.ownBlock] at hk; omega))
    have hC := C7H.out w7 b7
    refine hK _ _ hC ?_
    clear hK K g7
    rw [List.nil_append] at o7
    try simp only [Act.put, List.setIfInBounds_toArray, List.set_cons_zero, List.set_cons_succ]
    refine wpX_one (i := 12) rfl (by kernel_rfl) rfl ?_
    intro K hK
    refine Flat.wpApp FPacket w7 (.tmp 53) (.tmp 54) rfl (base := w6.heap.size) (v := v7) (xs := S.wire.take a) (ys := S.wire.drop (a + 1)) rfl o7 (ad := ra) (c := rc) (by first | (rw [List.length_drop]; rfl) | rfl) (by
      obtain ⟨_, _, he, _, _, h⟩ := (O6.out.below b7).sl
      simp only [Value.slice.injEq] at he
      obtain ⟨rfl, _, _⟩ := he
      exact h) (by simp; omega) b7.size ?_
    intro v8 w8 o8 g8
    have b8 : Below w6.heap.size w6 w8 := b7.trans ((Below.refl _ _).grown g8 b7.size (fun k hk => (World.ownsRow.lt o7 k hk).1))
    have hC := C7H.out w8 b8
    refine hK _ _ hC ?_
    clear hK K g8
    rw [show S.wire.take a ++ S.wire.drop (a + 1) = S.wire.eraseIdx a from (List.eraseIdx_eq_take_drop_succ _ _).symm] at o8
    try simp only [Act.put, List.setIfInBounds_toArray, List.set_cons_zero, List.set_cons_succ]
    refine wpX_free (i := 13) (v := ?_) rfl (by kernel_rfl) (fun _ _ _ h => h) rfl (fun w' => ?_) ?_
    rotate_left
    · go_simp; try with_reducible rfl
    try simp only [Act.put, List.setIfInBounds_toArray, List.set_cons_zero, List.set_cons_succ]
    refine wpX_free (i := 14) (v := ?_) rfl (by kernel_rfl) (fun _ _ _ h => h) rfl (fun w' => ?_) ?_
    rotate_left
    · go_simp; try with_reducible rfl
    try simp only [Act.put, List.setIfInBounds_toArray, List.set_cons_zero, List.set_cons_succ]
    refine wpX_free (i := 15) (v := ?_) rfl (by kernel_rfl) (fun _ _ _ h => h) rfl (fun w' => ?_) ?_
    rotate_left
    · go_simp; try with_reducible rfl
    try simp only [Act.put, List.setIfInBounds_toArray, List.set_cons_zero, List.set_cons_succ]
    refine wpX_rest (t := [16]) (l := [_]) rfl (by kernel_rfl) (by kernel_rfl) ?_
    clear hC
    obtain ⟨na, nc, hv8, _, _⟩ := o8.shape
    have g9 := grown_of_below b8 (Value.slice (some ⟨g, 0, none⟩) S.wire.length wc).ownBlock
    have n9 := grown_at g9 P6.out.hold.lt (P6.out.hold.ne_box (i := 4) rfl) 7
    have c9 := n9.1.trans P6.out.get.2.2.2.1
    have f9 := n9.2.trans (P6.out.fz 7)
    have P9 := P6.out.part (S' := { S with wire := S.wire.eraseIdx a }) 4 6 (c' := FPacket.ch v8 (S.wire.eraseIdx a)) rfl rfl rfl (by decide) g9 (Flat.Own.lower o8 (Nat.zero_le _)) (m := w.heap.size) HZ6.out (fun x hx => .inr (World.ownsRow.lt o8 x hx).1) P6.out.len P6.out.pos
    have F9 := (F6.out.trans (Fs.of_below b8)).set (a := ⟨b, 1 + 6, none⟩) (HB.out b ⟨0, rfl⟩) v8
    subst hv8
    have P9 := Lib.hid (P9.mono (B' := Bm B w.heap.size) (fun k hk => by exact hk))
    have F9 := Lib.hid F9
    clear o8 o7 b7 b8 g9 n9 hb7
    go_wp2
    go_ret
    exact DoR.mk HR.out P9.out F9.out
set_option maxRecDepth 100000 in
set_option maxHeartbeats 4000000 in
theorem RnWire_3 {b sb sm wk n : Nat} {t bs : Int} {sv : Value} {xss : List (List Int)} {M : Nat} {B : Nat → Prop} {S : PS} {vl vr ve vh vw vo : Value} {a : Nat} (w : World) (P : RunIs w b sb B S vl vr ve vh vw vo) (hI : PInv n sm wk S) (hs : 1 ≤ sm ∧ sm ≤ 8) (ha : a ≤ 999) :
    Calls Try.prog 98 #[.pointer (some ⟨b, 0, none⟩), .agg #[.int .i64 3, .int .i64 a]] w (DoR b sb B (wireS 3 a S) w) := by
  have HIN := Lib.hid hI
  have HPO := Lib.hid (hI.plOk hs.1 hs.2)
  have b1 : Below w.heap.size w (w.alloc (.cells #[.int .i64 3, .int .i64 a] 68)) := (Below.refl _ _).alloc (Nat.le_refl _) _
  have K1 := Lib.hid (CellsAt.new w [.int .i64 3, .int .i64 a] 68)
  obtain ⟨W1, hW1⟩ : ∃ W1, W1 = w.alloc (.cells #[.int .i64 3, .int .i64 a] 68) := ⟨_, rfl⟩
  rw [show (w.alloc (.cells ([.int .i64 3, .int .i64 a] : List Value).toArray 68)) = W1 from hW1.symm] at K1
  rw [← hW1] at b1
  have P1 := Lib.hid (P.below b1)
  have B1 := Lib.hid b1
  have HB := Lib.hid P.ownB
  have HL := Lib.hid P.ownLt
  have F1 := Lib.hid (Fs.of_below (S := B) b1)
  have HZ1 := Lib.hid (show W1.heap.size = w.heap.size + 1 by rw [hW1]; simp)
  have HW1 := Lib.hid hW1.symm
  have hbl := P1.out.blt
  have k0 := K1.out.get 0 _ rfl
  have k1 := K1.out.get 1 _ rfl
  have HWL := Lib.hid hI.wl
  obtain ⟨wa0, wc0, hvw, _, _⟩ := P1.out.ow.shape
  have q7 := P1.out.get.2.2.2.1
  rw [hvw] at q7
  have kk1 := fun d os => cell_regrown k1 d os
  have kq7 := fun d os => cell_regrown q7 d os
  clear P b1 hW1 hI k1 q7
  by_cases hr : (S.wire.length : Int) ≤ a
  · rw [show wireS 3 a S = (2, S) by unfold wireS; rw [if_pos hr]]
    go_enter Try.func98, Try.ntmps98
    go_wp2_with fail
    rw [HW1.out]
    refine wp_region_quiet_below (by kernel_rfl) (by kernel_rfl) ?_
    repeat (first | go_big_quiet_skip | quiet_step (fail))
    refine wpQuiet_nil ?_
    intro _ hw'
    obtain ⟨⟨dq, osq⟩, hw''⟩ := hw'
    subst hw''
    have bq := below_regrown W1 dq osq
    generalize grow (redrawn W1 dq) osq = wq at bq ⊢
    clear kk1 kq7 k0
    go_wp2
    go_ret
    exact DoR.mk rfl ((P1.out.below bq).mono (fun k hk => .inl hk)) (F1.out.trans (Fs.of_below bq))
  · have hal : a < S.wire.length := by omega
    have GX : S.wire.getD a noPk = S.wire[a] := by simp [hal]
    have hpk := HIN.out.wire _ (List.getElem_mem hal)
    obtain ⟨g, wc, hvg, hglt⟩ := P1.out.ow.form (by omega)
    rw [hvg] at hvw
    simp only [Value.slice.injEq] at hvw
    obtain ⟨rfl, _, rfl⟩ := hvw
    subst hvg
    obtain ⟨b0, o0, he, _, e0, e1, e2, e3, e4, e5⟩ := FPacket_at P1.out.ow.sl hal
    simp only [Option.some.injEq, Addr.mk.injEq] at he
    obtain ⟨rfl, rfl, _⟩ := he
    simp only [Nat.zero_add] at e0 e1 e2 e3 e4 e5
    generalize hx : S.wire[a] = x at GX hpk e0 e1 e2 e3 e4 e5
    obtain ⟨x0, x1, x2, x3, x4, x5⟩ := x
    dsimp only at e0 e1 e2 e3 e4 e5
    have HR := Lib.hid (show wireS 3 a S = (0, { comeS (x0, x1, x2, x3, x4, x5) S with wire := S.wire.eraseIdx a }) by
      unfold wireS; rw [if_neg hr, Int.toNat_natCast, GX]; exact congrArg (fun T => ((0 : Int), T)) (come_erase _ S _))
    have hlt : (a : Int) < (S.wire.length : Int) := by omega
    have a0 : (0 : Int) ≤ (a : Int) := by omega
    have HPK := Lib.hid hpk
    have HAL := Lib.hid hal
    clear hr hx GX hpk
    go_enter Try.func98, Try.ntmps98
    go_wp2_with fail
    rw [HW1.out]
    refine wp_region_quiet_below (by kernel_rfl) (by kernel_rfl) ?_
    repeat (first | go_big_quiet_skip | quiet_step (fail))
    refine wpQuiet_nil ?_
    intro _ hw'
    obtain ⟨⟨dq, osq⟩, hw''⟩ := hw'
    subst hw''
    have bq := below_regrown W1 dq osq
    generalize grow (redrawn W1 dq) osq = wq at bq ⊢
    have P2 := Lib.hid (P1.out.below bq)
    have F2 := Lib.hid (F1.out.trans (Fs.of_below bq))
    have K2 := Lib.hid (K1.out.below bq)
    have HZ2 := Lib.hid (show w.heap.size ≤ wq.heap.size by have := bq.size; have := HZ1.out; omega)
    have CW := Lib.hid (show ∀ W, Below wq.heap.size wq W → (W.cell? ⟨b, 7, none⟩ = some (.slice (some ⟨g, 0, none⟩) S.wire.length wc) ∧ W.cell? ⟨w.heap.size, 1, none⟩ = some (.int .i64 a) ∧ W.cell? ⟨g, a * 6, none⟩ = some (.bool x0) ∧ W.cell? ⟨g, a * 6 + 1, none⟩ = some (.int .i64 x1) ∧ W.cell? ⟨g, a * 6 + 2, none⟩ = some (.int .i64 x2) ∧ W.cell? ⟨g, a * 6 + 3, none⟩ = some (.int .i64 x3) ∧ W.cell? ⟨g, a * 6 + 4, none⟩ = some (.bool x4) ∧ W.cell? ⟨g, a * 6 + 5, none⟩ = some (.int .i64 x5)) from fun W h => by
      have bb := bq.trans (h.mono bq.size)
      exact ⟨(P2.out.below h).get.2.2.2.1, (K2.out.below h).get 1 _ rfl, (bb.cell (p := ⟨g, a * 6, none⟩) hglt).trans e0, (bb.cell (p := ⟨g, a * 6 + 1, none⟩) hglt).trans e1, (bb.cell (p := ⟨g, a * 6 + 2, none⟩) hglt).trans e2, (bb.cell (p := ⟨g, a * 6 + 3, none⟩) hglt).trans e3, (bb.cell (p := ⟨g, a * 6 + 4, none⟩) hglt).trans e4, (bb.cell (p := ⟨g, a * 6 + 5, none⟩) hglt).trans e5⟩)
    have hk0 := K2.out.get 0 _ rfl
    clear kk1 kq7 k0 bq e0 e1 e2 e3 e4 e5
    go_wp2_with fail
    refine wpX_start (fun W => W.cell? ⟨b, 7, none⟩ = some (.slice (some ⟨g, 0, none⟩) S.wire.length wc) ∧ W.cell? ⟨w.heap.size, 1, none⟩ = some (.int .i64 a) ∧ W.cell? ⟨g, a * 6, none⟩ = some (.bool x0) ∧ W.cell? ⟨g, a * 6 + 1, none⟩ = some (.int .i64 x1) ∧ W.cell? ⟨g, a * 6 + 2, none⟩ = some (.int .i64 x2) ∧ W.cell? ⟨g, a * 6 + 3, none⟩ = some (.int .i64 x3) ∧ W.cell? ⟨g, a * 6 + 4, none⟩ = some (.bool x4) ∧ W.cell? ⟨g, a * 6 + 5, none⟩ = some (.int .i64 x5)) [10] (by kernel_rfl) ?_
    have hC := CW.out wq.drew (Below.refl wq.heap.size wq).drew
    refine wpX_free (i := 0) (v := ?_) rfl (by kernel_rfl) (fun _ _ _ h => h) rfl (fun w' => ?_) ?_
    rotate_left
    · go_simp; try with_reducible rfl
    try simp only [Act.put, List.setIfInBounds_toArray, List.set_cons_zero, List.set_cons_succ]
    refine wpX_free (i := 1) (v := ?_) rfl (by kernel_rfl) (fun _ _ _ h => h) rfl (fun w' => ?_) ?_
    rotate_left
    · go_simp; try with_reducible rfl
    try simp only [Act.put, List.setIfInBounds_toArray, List.set_cons_zero, List.set_cons_succ]
    refine wpX_free (i := 2) (v := ?_) rfl (by kernel_rfl) (fun _ _ _ h => h) rfl (fun w' => ?_) ?_
    rotate_left
    · go_simp; try with_reducible rfl
    try simp only [Act.put, List.setIfInBounds_toArray, List.set_cons_zero, List.set_cons_succ]
    refine wpX_free (i := 3) (v := ?_) rfl (by kernel_rfl) (fun _ _ _ h => h) rfl (fun w' => ?_) ?_
    rotate_left
    · go_simp; try with_reducible rfl
    try simp only [Act.put, List.setIfInBounds_toArray, List.set_cons_zero, List.set_cons_succ]
    refine wpX_free (i := 4) (v := ?_) rfl (by kernel_rfl) (fun _ _ _ h => h) rfl (fun w' => ?_) ?_
    rotate_left
    · go_simp; try with_reducible rfl
    try simp only [Act.put, List.setIfInBounds_toArray, List.set_cons_zero, List.set_cons_succ]
    refine wpX_load (i := 5) (v := ?_) rfl (by kernel_rfl) (fun _ _ _ h => h) hC rfl (fun w' hw' => ?_) ?_
    rotate_left
    · obtain ⟨k1, k2, k3, k4, k5, k6, k7, k8⟩ := hw'; go_simp; try with_reducible rfl
    try simp only [Act.put, List.setIfInBounds_toArray, List.set_cons_zero, List.set_cons_succ]
    refine wpX_free (i := 6) (v := ?_) rfl (by kernel_rfl) (fun _ _ _ h => h) rfl (fun w' => ?_) ?_
    rotate_left
    · go_simp; try with_reducible rfl
    try simp only [Act.put, List.setIfInBounds_toArray, List.set_cons_zero, List.set_cons_succ]
    refine wpX_load (i := 7) (v := ?_) rfl (by kernel_rfl) (fun _ _ _ h => h) hC rfl (fun w' hw' => ?_) ?_
    rotate_left
    · obtain ⟨k1, k2, k3, k4, k5, k6, k7, k8⟩ := hw'; go_simp; try with_reducible rfl
    try simp only [Act.put, List.setIfInBounds_toArray, List.set_cons_zero, List.set_cons_succ]
    refine wpX_free (i := 8) (v := ?_) rfl (by kernel_rfl) (fun _ _ _ h => h) rfl (fun w' => ?_) ?_
    rotate_left
    · go_simp; try with_reducible rfl
    try simp only [Act.put, List.setIfInBounds_toArray, List.set_cons_zero, List.set_cons_succ]
    refine wpX_load (i := 9) (v := ?_) rfl (by kernel_rfl) (fun _ _ _ h => h) hC rfl (fun w' hw' => ?_) ?_
    rotate_left
    · obtain ⟨k1, k2, k3, k4, k5, k6, k7, k8⟩ := hw'; go_simp; try with_reducible rfl
    try simp only [Act.put, List.setIfInBounds_toArray, List.set_cons_zero, List.set_cons_succ]
    refine wpX_rest (t := [10]) (l := [_]) rfl (by kernel_rfl) (by kernel_rfl) ?_
    clear hC hk0
    have P3 := Lib.hid (P2.out.below (Below.refl wq.heap.size wq).drew)
    have F3 := Lib.hid (F2.out.trans (Fs.of_below (Below.refl wq.heap.size wq).drew))
    have K3 := Lib.hid (K2.out.below (Below.refl wq.heap.size wq).drew)
    have HOB := Lib.hid P3.out.toPlIs.ownB
    have HOL := Lib.hid (show ¬ OwnB b S vl vr ve vh (.slice (some ⟨g, 0, none⟩) S.wire.length wc) vo w.heap.size from fun h => by have := HL.out w.heap.size h; omega)
    have PO := Lib.hid P3.out.own'
    go_wp2_with fail
    refine (RnCome_any (x0, x1, x2, x3, x4, x5) _ PO.out HPO.out HPK.out HIN.out.hl).mono ?_
    rintro e w4 ⟨rfl, ve4, P4, F4⟩
    have K4 := Lib.hid (K3.out.fs F4 HOL.out)
    have P4 := Lib.hid (P4.mono (B' := Bm B w.heap.size) (fun k hk => hk.elim (fun h => .inl (HOB.out k h)) (fun h => .inr (Nat.le_trans HZ2.out h))))
    have F4 := Lib.hid (F3.out.trans (F4.mono HOB.out))
    have HW4 := Lib.hid (come_wire (x0, x1, x2, x3, x4, x5) S)
    have hk4 := K4.out.get 0 _ rfl
    have HZ4 := Lib.hid (show w.heap.size ≤ w4.heap.size from F4.out.size)
    generalize comeS (x0, x1, x2, x3, x4, x5) S = S4 at P4 HW4 HR
    have C6H := Lib.hid (show ∀ W, Below w4.heap.size w4 W → (W.cell? ⟨b, 7, none⟩ = some (.slice (some ⟨g, 0, none⟩) S.wire.length wc) ∧ W.cell? ⟨w.heap.size, 1, none⟩ = some (.int .i64 a)) from fun W h => ⟨(P4.out.below h).get.2.2.2.1, (K4.out.below h).get 1 _ rfl⟩)
    have hwr : IntKind.i64.wrap ((a : Int) + 1) = (a : Int) + 1 := IntWalk.i64_in _ (by omega)
    have OWW := Lib.hid (fun W (h : Below w4.heap.size w4 W) => show FPacket.Own W 0 (.slice (some ⟨g, 0, none⟩) S.wire.length wc) S.wire from by have h9 := (P4.out.below h).toPlIs.ow; rw [HW4.out] at h9; exact h9)
    have hwc := (OWW.out w4 (Below.refl _ _)).sl.len_of
    have c1 : (a : Int) + 1 ≤ (S.wire.length : Int) := by omega
    have c2 : (S.wire.length : Int) ≤ (wc : Int) := by omega
    have c3 : (0 : Int) ≤ (a : Int) + 1 := by omega
    have c4 : (a : Int) ≤ (wc : Int) := by omega
    have c5 : ((a : Int) + 1).toNat = a + 1 := by omega
    obtain ⟨ad, had, hrd⟩ := (OWW.out w4 (Below.refl _ _)).drop (a + 1) (by omega)
    have HAD := Lib.hid (show (if wc = a + 1 then some (⟨g, 0, none⟩ : Addr) else some ⟨g, (a + 1) * 6, none⟩) = some ad from had)
    have HRD := Lib.hid hrd
    have HWLN := HWL.out
    clear had hrd hwc
    go_wp2_with fail
    refine wpX_start (fun W => W.cell? ⟨b, 7, none⟩ = some (.slice (some ⟨g, 0, none⟩) S.wire.length wc) ∧ W.cell? ⟨w.heap.size, 1, none⟩ = some (.int .i64 a)) [] (by kernel_rfl) ?_
    have hC := C6H.out w4.drew (Below.refl w4.heap.size w4).drew
    refine wpX_free (i := 1) (v := ?_) rfl (by kernel_rfl) (fun _ _ _ h => h) rfl (fun w' => ?_) ?_
    rotate_left
    · go_simp; try with_reducible rfl
    try simp only [Act.put, List.setIfInBounds_toArray, List.set_cons_zero, List.set_cons_succ]
    refine wpX_free (i := 2) (v := ?_) rfl (by kernel_rfl) (fun _ _ _ h => h) rfl (fun w' => ?_) ?_
    rotate_left
    · go_simp; try with_reducible rfl
    try simp only [Act.put, List.setIfInBounds_toArray, List.set_cons_zero, List.set_cons_succ]
    refine wpX_free (i := 3) (v := ?_) rfl (by kernel_rfl) (fun _ _ _ h => h) rfl (fun w' => ?_) ?_
    rotate_left
    · go_simp; try with_reducible rfl
    try simp only [Act.put, List.setIfInBounds_toArray, List.set_cons_zero, List.set_cons_succ]
    refine wpX_free (i := 4) (v := ?_) rfl (by kernel_rfl) (fun _ _ _ h => h) rfl (fun w' => ?_) ?_
    rotate_left
    · go_simp; try with_reducible rfl
    try simp only [Act.put, List.setIfInBounds_toArray, List.set_cons_zero, List.set_cons_succ]
    refine wpX_load (i := 5) (v := ?_) rfl (by kernel_rfl) (fun _ _ _ h => h) hC rfl (fun w' hw' => ?_) ?_
    rotate_left
    · obtain ⟨k1, k2⟩ := hw'; go_simp; try with_reducible rfl
    try simp only [Act.put, List.setIfInBounds_toArray, List.set_cons_zero, List.set_cons_succ]
    refine wpX_free (i := 6) (v := ?_) rfl (by kernel_rfl) (fun _ _ _ h => h) rfl (fun w' => ?_) ?_
    rotate_left
    · go_simp; try with_reducible rfl
    try simp only [Act.put, List.setIfInBounds_toArray, List.set_cons_zero, List.set_cons_succ]
    refine wpX_load (i := 7) (v := ?_) rfl (by kernel_rfl) (fun _ _ _ h => h) hC rfl (fun w' hw' => ?_) ?_
    rotate_left
    · obtain ⟨k1, k2⟩ := hw'; go_simp; try with_reducible rfl
    try simp only [Act.put, List.setIfInBounds_toArray, List.set_cons_zero, List.set_cons_succ]
    refine wpX_free (i := 8) (v := ?_) rfl (by kernel_rfl) (fun _ _ _ h => h) rfl (fun w' => ?_) ?_
    rotate_left
    · go_simp; try with_reducible rfl
    try simp only [Act.put, List.setIfInBounds_toArray, List.set_cons_zero, List.set_cons_succ]
    refine wpX_free (i := 9) (v := ?_) rfl (by kernel_rfl) (fun _ _ _ h => h) rfl (fun w' => ?_) ?_
    rotate_left
    · go_simp; try with_reducible rfl
    try simp only [Act.put, List.setIfInBounds_toArray, List.set_cons_zero, List.set_cons_succ]
    refine wpX_one (i := 0) rfl (by kernel_rfl) rfl ?_
    intro K hK
    go_simp
    refine hK _ _ (C6H.out _ (by (repeat (first | exact Below.refl _ _ | refine Below.drew ?_ | refine Below.alloc ?_ (by simp) _)))) ?_
    have hb6 : Below w4.heap.size w4 (w4.alloc (.cells #[] 125)).drew := ((Below.refl _ _).alloc (Nat.le_refl _) _).drew
    clear hK K
    try simp only [Act.put, List.setIfInBounds_toArray, List.set_cons_zero, List.set_cons_succ]
    refine wpX_one (i := 10) rfl (by kernel_rfl) rfl ?_
    intro K hK
    rw [HAD.out]
    refine Flat.wpApp FPacket (w4.alloc (.cells #[] 125)).drew (.tmp 32) (.tmp 41) rfl (base := w4.heap.size) (v := .slice (some ⟨w4.heap.size, 0, none⟩) 0 0) (xs := []) (ys := S.wire.drop (a + 1)) rfl ((Flat.Own.empty (F := FPacket) w4 (Nat.le_refl _)).below (Below.refl _ _).drew) (ad := some ad) (c := wc - (a + 1)) (by rw [List.length_drop]; rfl) (HRD.out.below hb6) (by simp; omega) hb6.size ?_
    intro v6 w6 o6 g6
    have b6 : Below w4.heap.size w4 w6 := hb6.trans ((Below.refl _ _).grown g6 hb6.size (fun k hk => by simp [Value.ownBlock] at hk; omega))
    have hC := C6H.out w6 b6
    refine hK _ _ hC ?_
    clear hK K g6
    rw [List.nil_append] at o6
    obtain ⟨ra, rc, hv6, _, _⟩ := o6.shape
    have HV6 := Lib.hid hv6
    subst hv6
    try simp only [Act.put, List.setIfInBounds_toArray, List.set_cons_zero, List.set_cons_succ]
    refine wpX_free (i := 11) (v := ?_) rfl (by kernel_rfl) (fun _ _ _ h => h) rfl (fun w' => ?_) ?_
    rotate_left
    · go_simp; try with_reducible rfl
    try simp only [Act.put, List.setIfInBounds_toArray, List.set_cons_zero, List.set_cons_succ]
    refine wpX_rest (t := []) (l := []) rfl (by kernel_rfl) (by kernel_rfl) ?_
    clear hC
    have P6 := Lib.hid (P4.out.below b6)
    have F6 := Lib.hid (F4.out.trans (Fs.of_below b6))
    have K6 := Lib.hid (K4.out.below b6)
    have O6 := Lib.hid o6
    have HZ6 := Lib.hid (Nat.le_trans HZ4.out b6.size)
    have OW6 := Lib.hid (fun W (h : Below w6.heap.size w6 W) => OWW.out W (b6.trans (h.mono b6.size)))
    have C7H := Lib.hid (show ∀ W, Below w6.heap.size w6 W → (W.cell? ⟨b, 7, none⟩ = some (.slice (some ⟨g, 0, none⟩) S.wire.length wc) ∧ W.cell? ⟨w.heap.size, 1, none⟩ = some (.int .i64 a)) from fun W h => C6H.out W (b6.trans (h.mono b6.size)))
    clear o6 b6 hb6
    go_wp2_with fail
    refine wpX_start (fun W => W.cell? ⟨b, 7, none⟩ = some (.slice (some ⟨g, 0, none⟩) S.wire.length wc) ∧ W.cell? ⟨w.heap.size, 1, none⟩ = some (.int .i64 a)) [16] (by kernel_rfl) ?_
    have hC := C7H.out w6.drew (Below.refl w6.heap.size w6).drew
    refine wpX_free (i := 0) (v := ?_) rfl (by kernel_rfl) (fun _ _ _ h => h) rfl (fun w' => ?_) ?_
    rotate_left
    · go_simp; try with_reducible rfl
    try simp only [Act.put, List.setIfInBounds_toArray, List.set_cons_zero, List.set_cons_succ]
    refine wpX_free (i := 2) (v := ?_) rfl (by kernel_rfl) (fun _ _ _ h => h) rfl (fun w' => ?_) ?_
    rotate_left
    · go_simp; try with_reducible rfl
    try simp only [Act.put, List.setIfInBounds_toArray, List.set_cons_zero, List.set_cons_succ]
    refine wpX_free (i := 3) (v := ?_) rfl (by kernel_rfl) (fun _ _ _ h => h) rfl (fun w' => ?_) ?_
    rotate_left
    · go_simp; try with_reducible rfl
    try simp only [Act.put, List.setIfInBounds_toArray, List.set_cons_zero, List.set_cons_succ]
    refine wpX_free (i := 4) (v := ?_) rfl (by kernel_rfl) (fun _ _ _ h => h) rfl (fun w' => ?_) ?_
    rotate_left
    · go_simp; try with_reducible rfl
    try simp only [Act.put, List.setIfInBounds_toArray, List.set_cons_zero, List.set_cons_succ]
    refine wpX_free (i := 5) (v := ?_) rfl (by kernel_rfl) (fun _ _ _ h => h) rfl (fun w' => ?_) ?_
    rotate_left
    · go_simp; try with_reducible rfl
    try simp only [Act.put, List.setIfInBounds_toArray, List.set_cons_zero, List.set_cons_succ]
    refine wpX_load (i := 6) (v := ?_) rfl (by kernel_rfl) (fun _ _ _ h => h) hC rfl (fun w' hw' => ?_) ?_
    rotate_left
    · obtain ⟨k1, k2⟩ := hw'; go_simp; try with_reducible rfl
    try simp only [Act.put, List.setIfInBounds_toArray, List.set_cons_zero, List.set_cons_succ]
    refine wpX_free (i := 7) (v := ?_) rfl (by kernel_rfl) (fun _ _ _ h => h) rfl (fun w' => ?_) ?_
    rotate_left
    · go_simp; try with_reducible rfl
    try simp only [Act.put, List.setIfInBounds_toArray, List.set_cons_zero, List.set_cons_succ]
    refine wpX_load (i := 8) (v := ?_) rfl (by kernel_rfl) (fun _ _ _ h => h) hC rfl (fun w' hw' => ?_) ?_
    rotate_left
    · obtain ⟨k1, k2⟩ := hw'; go_simp; try with_reducible rfl
    try simp only [Act.put, List.setIfInBounds_toArray, List.set_cons_zero, List.set_cons_succ]
    refine wpX_free (i := 9) (v := ?_) rfl (by kernel_rfl) (fun _ _ _ h => h) rfl (fun w' => ?_) ?_
    rotate_left
    · go_simp; try with_reducible rfl
    try simp only [Act.put, List.setIfInBounds_toArray, List.set_cons_zero, List.set_cons_succ]
    refine wpX_free (i := 11) (v := ?_) rfl (by kernel_rfl) (fun _ _ _ h => h) rfl (fun w' => ?_) ?_
    rotate_left
    · go_simp; try with_reducible rfl
    try simp only [Act.put, List.setIfInBounds_toArray, List.set_cons_zero, List.set_cons_succ]
    refine wpX_one (i := 1) rfl (by kernel_rfl) rfl ?_
    intro K hK
    go_simp
    refine hK _ _ (C7H.out _ (by (repeat (first | exact Below.refl _ _ | refine Below.drew ?_ | refine Below.alloc ?_ (by simp) _)))) ?_
    have hb7 : Below w6.heap.size w6 (w6.alloc (.cells #[] 125)).drew := ((Below.refl _ _).alloc (Nat.le_refl _) _).drew
    clear hK K
    try simp only [Act.put, List.setIfInBounds_toArray, List.set_cons_zero, List.set_cons_succ]
    refine wpX_one (i := 10) rfl (by kernel_rfl) rfl ?_
    intro K hK
    refine Flat.wpApp FPacket (w6.alloc (.cells #[] 125)).drew (.tmp 44) (.tmp 52) rfl (base := w6.heap.size) (v := .slice (some ⟨w6.heap.size, 0, none⟩) 0 0) (xs := []) (ys := S.wire.take a) rfl ((Flat.Own.empty (F := FPacket) w6 (Nat.le_refl _)).below (Below.refl _ _).drew) (ad := some ⟨g, 0, none⟩) (c := wc) (by rw [List.length_take, Nat.min_eq_left (Nat.le_of_lt HAL.out)]; rfl) (by
      obtain ⟨_, _, he, _, _, h⟩ := (Flat.Sl.take' (OW6.out _ hb7).sl (Nat.le_of_lt HAL.out))
      simp only [Value.slice.injEq] at he
      obtain ⟨rfl, _, _⟩ := he
      exact h) (by simp; omega) hb7.size ?_
    intro v7 w7 o7 g7
    have b7 : Below w6.heap.size w6 w7 := hb7.trans ((Below.refl _ _).grown g7 hb7.size (fun k hk => by simp [Value.ownBlock] at hk; omega))
    have hC := C7H.out w7 b7
    refine hK _ _ hC ?_
    clear hK K g7
    rw [List.nil_append] at o7
    try simp only [Act.put, List.setIfInBounds_toArray, List.set_cons_zero, List.set_cons_succ]
    refine wpX_one (i := 12) rfl (by kernel_rfl) rfl ?_
    intro K hK
    refine Flat.wpApp FPacket w7 (.tmp 53) (.tmp 54) rfl (base := w6.heap.size) (v := v7) (xs := S.wire.take a) (ys := S.wire.drop (a + 1)) rfl o7 (ad := ra) (c := rc) (by first | (rw [List.length_drop]; rfl) | rfl) (by
      obtain ⟨_, _, he, _, _, h⟩ := (O6.out.below b7).sl
      simp only [Value.slice.injEq] at he
      obtain ⟨rfl, _, _⟩ := he
      exact h) (by simp; omega) b7.size ?_
    intro v8 w8 o8 g8
    have b8 : Below w6.heap.size w6 w8 := b7.trans ((Below.refl _ _).grown g8 b7.size (fun k hk => (World.ownsRow.lt o7 k hk).1))
    have hC := C7H.out w8 b8
    refine hK _ _ hC ?_
    clear hK K g8
    rw [show S.wire.take a ++ S.wire.drop (a + 1) = S.wire.eraseIdx a from (List.eraseIdx_eq_take_drop_succ _ _).symm] at o8
    try simp only [Act.put, List.setIfInBounds_toArray, List.set_cons_zero, List.set_cons_succ]
    refine wpX_free (i := 13) (v := ?_) rfl (by kernel_rfl) (fun _ _ _ h => h) rfl (fun w' => ?_) ?_
    rotate_left
    · go_simp; try with_reducible rfl
    try simp only [Act.put, List.setIfInBounds_toArray, List.set_cons_zero, List.set_cons_succ]
    refine wpX_free (i := 14) (v := ?_) rfl (by kernel_rfl) (fun _ _ _ h => h) rfl (fun w' => ?_) ?_
    rotate_left
    · go_simp; try with_reducible rfl
    try simp only [Act.put, List.setIfInBounds_toArray, List.set_cons_zero, List.set_cons_succ]
    refine wpX_free (i := 15) (v := ?_) rfl (by kernel_rfl) (fun _ _ _ h => h) rfl (fun w' => ?_) ?_
    rotate_left
    · go_simp; try with_reducible rfl
    try simp only [Act.put, List.setIfInBounds_toArray, List.set_cons_zero, List.set_cons_succ]
    refine wpX_rest (t := [16]) (l := [_]) rfl (by kernel_rfl) (by kernel_rfl) ?_
    clear hC
    obtain ⟨na, nc, hv8, _, _⟩ := o8.shape
    have g9 := grown_of_below b8 (Value.slice (some ⟨g, 0, none⟩) S.wire.length wc).ownBlock
    have n9 := grown_at g9 P6.out.hold.lt (P6.out.hold.ne_box (i := 4) rfl) 7
    have c9 := n9.1.trans P6.out.get.2.2.2.1
    have f9 := n9.2.trans (P6.out.fz 7)
    have P9 := P6.out.part (S' := { S4 with wire := S.wire.eraseIdx a }) 4 6 (c' := FPacket.ch v8 (S.wire.eraseIdx a)) rfl rfl rfl (by decide) g9 (Flat.Own.lower o8 (Nat.zero_le _)) (m := w.heap.size) HZ6.out (fun x hx => .inr (World.ownsRow.lt o8 x hx).1) P6.out.len P6.out.pos
    have F9 := (F6.out.trans (Fs.of_below b8)).set (a := ⟨b, 1 + 6, none⟩) (HB.out b ⟨0, rfl⟩) v8
    subst hv8
    have P9 := Lib.hid (P9.mono (B' := Bm B w.heap.size) (fun k hk => by exact Bm.bm (Nat.le_refl _) (Nat.le_refl _) k hk))
    have F9 := Lib.hid F9
    clear o8 o7 b7 b8 g9 n9 hb7
    go_wp2
    go_ret
    exact DoR.mk HR.out P9.out F9.out
end Go.Proofs.Ytijpkcdalmlaiaa
