/-
  The program's plant: deeds with packets.
-/
import Derived.Test.YtijpkcdalmlaiaaZRowFnPlantPackets30
set_option linter.unusedVariables false
set_option linter.unusedSimpArgs false
namespace Go.Proofs.Ytijpkcdalmlaiaa
open Go.RowKit Go.Sort

set_option maxRecDepth 100000 in
set_option maxHeartbeats 4000000 in
theorem PlDo_4 {ad : Option Addr} {xss : List (List Int)} {m c b sm wk n a : Nat} {B : Nat → Prop} {S : PS} {vl vr ve vh vw vo : Value} (t bs : Int) (w : World) (P : PlIs w b 0 B S vl vr ve vh vw vo) (hI : PInv n sm wk S) (hs : 1 ≤ sm ∧ sm ≤ 8) (hwk : 1 ≤ wk ∧ wk ≤ 4) (hc : SlII w (.slice ad m c) xss) (hch : chainOk n t xss = true) (hbs : 0 ≤ bs ∧ bs ≤ 999999992) (ha : a ≤ 999) :
    Calls Try.prog 53 #[.pointer (some ⟨b, 0, none⟩), .agg #[.int .i64 n, .int .i64 t, .slice ad m c, .int .i64 bs, .int .i64 sm, .int .i64 wk], .agg #[.int .i64 4, .int .i64 a]] w (DoP b B (doS t xss bs sm wk (4, (a : Int)) S) w) := by
  rw [show doS t xss bs sm wk (4, (a : Int)) S = wireS 4 a S by unfold doS; simp]
  have HIN := Lib.hid hI
  have HPO := Lib.hid (hI.plOk hs.1 hs.2)
  have hn6 : n ≤ 6 := by have := (chainOk_parts0 hch).1; omega
  have HB := Lib.hid P.ownB
  have HL := Lib.hid P.ownLt
  have bA : Below w.heap.size w (w.alloc (.cells #[.int .i64 n, .int .i64 t, .slice ad m c, .int .i64 bs, .int .i64 sm, .int .i64 wk] 35)) := (Below.refl _ _).alloc (Nat.le_refl _) _
  have KA := CellsAt.new w [.int .i64 n, .int .i64 t, .slice ad m c, .int .i64 bs, .int .i64 sm, .int .i64 wk] 35
  have bB : Below (w.alloc (.cells #[.int .i64 n, .int .i64 t, .slice ad m c, .int .i64 bs, .int .i64 sm, .int .i64 wk] 35)).heap.size (w.alloc (.cells #[.int .i64 n, .int .i64 t, .slice ad m c, .int .i64 bs, .int .i64 sm, .int .i64 wk] 35)) ((w.alloc (.cells #[.int .i64 n, .int .i64 t, .slice ad m c, .int .i64 bs, .int .i64 sm, .int .i64 wk] 35)).alloc (.cells #[.int .i64 4, .int .i64 a] 68)) := (Below.refl _ _).alloc (Nat.le_refl _) _
  obtain ⟨W2, hW2⟩ : ∃ W2, W2 = (w.alloc (.cells #[.int .i64 n, .int .i64 t, .slice ad m c, .int .i64 bs, .int .i64 sm, .int .i64 wk] 35)).alloc (.cells #[.int .i64 4, .int .i64 a] 68) := ⟨_, rfl⟩
  have K1 := Lib.hid (show CellsAt W2 w.heap.size [.int .i64 n, .int .i64 t, .slice ad m c, .int .i64 bs, .int .i64 sm, .int .i64 wk] by rw [hW2]; exact KA.below bB)
  have K2 := Lib.hid (show CellsAt W2 (w.heap.size + 1) [.int .i64 4, .int .i64 a] by rw [hW2]; exact CellsAt.new' (w.alloc (.cells #[.int .i64 n, .int .i64 t, .slice ad m c, .int .i64 bs, .int .i64 sm, .int .i64 wk] 35)) [.int .i64 4, .int .i64 a] 68 (by simp))
  rw [← hW2] at bB
  have b2 : Below w.heap.size w W2 := bA.trans (bB.mono bA.size)
  have P2 := Lib.hid (P.below b2)
  have F2 := Lib.hid (Fs.of_below (S := B) b2)
  have HZ2 := Lib.hid b2.size
  have HS2 := Lib.hid (show w.heap.size + 2 = W2.heap.size by rw [hW2]; simp)
  have HC := Lib.hid (hc.below b2)
  have HW2 := Lib.hid hW2.symm
  have hbl := P2.out.blt
  clear P hI bA bB KA b2 hc hW2
  have HWL := Lib.hid HIN.out.wl
  have hwl := HWL.out
  have HX := Lib.hid (fun W (h : Below W2.heap.size W2 W) => hasIndexP_any (a : Int) S.wire.length W (by omega))
  have k1 := K2.out.get 1 _ rfl
  have q6 := P2.out.get.2.2.2.1
  by_cases hr : (S.wire.length : Int) ≤ a
  · rw [show wireS 4 a S = (2, S) by unfold wireS; rw [if_pos hr]]
    obtain ⟨wa, wc, rfl, _, _⟩ := P2.out.ow.shape
    have HI := Lib.hid (show inR (a : Int) 0 ((S.wire.length : Int) - 1) = false from inR_false.2 (by omega))
    have HX := Lib.hid (fun W (h : Below W2.heap.size W2 W) => HI.out ▸ HX.out W h)
    have kk1 := fun d os => cell_regrown k1 d os
    have kq6 := fun d os => cell_regrown q6 d os
    clear hr k1 q6
    go_enter Try.func53, Try.ntmps53
    go_wp2_with fail
    rw [HW2.out]
    refine wp_region_quiet_below (by kernel_rfl) (by kernel_rfl) ?_
    repeat (first | go_big_quiet_skip | quiet_step (exact Calls.regrown_of (HX.out _ (below_regrown _ _ _))))
    refine wpQuiet_nil ?_
    intro _ hw'
    obtain ⟨⟨dq, osq⟩, hw''⟩ := hw'
    subst hw''
    have bq := below_regrown W2 dq osq
    generalize grow (redrawn W2 dq) osq = wq at bq ⊢
    clear kk1 kq6
    go_wp2
    go_ret
    exact DoP.mk rfl ((P2.out.below bq).mono (fun k hk => .inl hk)) (F2.out.trans (Fs.of_below bq))
  · have hal : a < S.wire.length := by omega
    have GX : S.wire.getD a noPk = S.wire[a] := by simp [hal]
    have hpk := HIN.out.wire _ (List.getElem_mem hal)
    obtain ⟨g, wc, rfl, hg⟩ := P2.out.ow.form (by omega)
    obtain ⟨b0, o0, he, _, e0, e1, e2, e3, e4, e5⟩ := FPacket_at P2.out.ow.sl hal
    simp only [Option.some.injEq, Addr.mk.injEq] at he
    obtain ⟨rfl, rfl, _⟩ := he
    simp only [Nat.zero_add] at e0 e1 e2 e3 e4 e5
    generalize hx : S.wire[a] = x at GX hpk e0 e1 e2 e3 e4 e5
    obtain ⟨x0, x1, x2, x3, x4, x5⟩ := x
    dsimp only at e0 e1 e2 e3 e4 e5
    rw [show wireS 4 a S = (0, comeS (x0, x1, x2, x3, x4, x5) S) by unfold wireS; rw [if_neg hr, Int.toNat_natCast, GX]; rfl]
    have HI := Lib.hid (show inR (a : Int) 0 ((S.wire.length : Int) - 1) = true from inR_iff.2 ⟨by omega, by omega⟩)
    have HX := Lib.hid (fun W (h : Below W2.heap.size W2 W) => HI.out ▸ HX.out W h)
    have a0 : (0 : Int) ≤ (a : Int) := by omega
    have a1 : (a : Int) < (S.wire.length : Int) := by omega
    have HPK := Lib.hid hpk
    have HAL := Lib.hid hal
    have CW := Lib.hid (show ∀ W, Below W2.heap.size W2 W → (W.cell? ⟨b, 6, none⟩ = some (.slice (some ⟨g, 0, none⟩) S.wire.length wc) ∧ W.cell? ⟨w.heap.size + 1, 1, none⟩ = some (.int .i64 a) ∧ W.cell? ⟨g, a * 6, none⟩ = some (.bool x0) ∧ W.cell? ⟨g, a * 6 + 1, none⟩ = some (.int .i64 x1) ∧ W.cell? ⟨g, a * 6 + 2, none⟩ = some (.int .i64 x2) ∧ W.cell? ⟨g, a * 6 + 3, none⟩ = some (.int .i64 x3) ∧ W.cell? ⟨g, a * 6 + 4, none⟩ = some (.bool x4) ∧ W.cell? ⟨g, a * 6 + 5, none⟩ = some (.int .i64 x5)) from fun W h => by
      have hg2 : g < W2.heap.size := cell_lt e0
      exact ⟨(P2.out.below h).get.2.2.2.1, (K2.out.below h).get 1 _ rfl, (h.cell (p := ⟨g, a * 6, none⟩) hg2).trans e0, (h.cell (p := ⟨g, a * 6 + 1, none⟩) hg2).trans e1, (h.cell (p := ⟨g, a * 6 + 2, none⟩) hg2).trans e2, (h.cell (p := ⟨g, a * 6 + 3, none⟩) hg2).trans e3, (h.cell (p := ⟨g, a * 6 + 4, none⟩) hg2).trans e4, (h.cell (p := ⟨g, a * 6 + 5, none⟩) hg2).trans e5⟩)
    have kk1 := fun d os => cell_regrown k1 d os
    have kq6 := fun d os => cell_regrown q6 d os
    clear hr k1 q6 hx GX hpk e0 e1 e2 e3 e4 e5
    go_enter Try.func53, Try.ntmps53
    go_wp2_with fail
    rw [HW2.out]
    refine wp_region_quiet_below (by kernel_rfl) (by kernel_rfl) ?_
    repeat (first | go_big_quiet_skip | quiet_step (exact Calls.regrown_of (HX.out _ (below_regrown _ _ _))))
    refine wpQuiet_nil ?_
    intro _ hw'
    obtain ⟨⟨dq, osq⟩, hw''⟩ := hw'
    subst hw''
    have bq := below_regrown W2 dq osq
    generalize grow (redrawn W2 dq) osq = wq at bq ⊢
    have BQ := Lib.hid bq
    have P3 := Lib.hid (P2.out.below bq)
    have F3 := Lib.hid (F2.out.trans (Fs.of_below bq))
    have K3 := Lib.hid (K2.out.below bq)
    have CQ := Lib.hid (fun W (h : Below wq.heap.size wq W) => CW.out W (BQ.out.trans (h.mono BQ.out.size)))
    have HZQ := Lib.hid (show w.heap.size + 2 ≤ wq.heap.size by have := bq.size; have := HS2.out; omega)
    clear kk1 kq6 bq CW
    go_wp2_with fail
    refine wpX_start (fun W => W.cell? ⟨b, 6, none⟩ = some (.slice (some ⟨g, 0, none⟩) S.wire.length wc) ∧ W.cell? ⟨w.heap.size + 1, 1, none⟩ = some (.int .i64 a) ∧ W.cell? ⟨g, a * 6, none⟩ = some (.bool x0) ∧ W.cell? ⟨g, a * 6 + 1, none⟩ = some (.int .i64 x1) ∧ W.cell? ⟨g, a * 6 + 2, none⟩ = some (.int .i64 x2) ∧ W.cell? ⟨g, a * 6 + 3, none⟩ = some (.int .i64 x3) ∧ W.cell? ⟨g, a * 6 + 4, none⟩ = some (.bool x4) ∧ W.cell? ⟨g, a * 6 + 5, none⟩ = some (.int .i64 x5)) [] (by kernel_rfl) ?_
    have hC := CQ.out wq.drew (Below.refl wq.heap.size wq).drew
    refine wpX_free (i := 0) (v := ?_) rfl (by kernel_rfl) (fun _ _ _ h => h) rfl (fun w' => ?_) ?_
    rotate_left
    · go_simp; try with_reducible rfl
    try simp only [Act.put, List.setIfInBounds_toArray, List.set_cons_zero, List.set_cons_succ]
    refine wpX_free (i := 1) (v := ?_) rfl (by kernel_rfl) (fun _ _ _ h => h) rfl (fun w' => ?_) ?_
    rotate_left
    · go_simp; try with_reducible rfl
    try simp only [Act.put, List.setIfInBounds_toArray, List.set_cons_zero, List.set_cons_succ]
    refine wpX_free (i := 2) (v := ?_) rfl (by kernel_rfl) (fun _ _ _ h => h) rfl (fun w' => ?_) ?_
    rotate_left
    · go_simp; try with_reducible rfl
    try simp only [Act.put, List.setIfInBounds_toArray, List.set_cons_zero, List.set_cons_succ]
    refine wpX_load (i := 3) (v := ?_) rfl (by kernel_rfl) (fun _ _ _ h => h) hC rfl (fun w' hw' => ?_) ?_
    rotate_left
    · obtain ⟨k1, k2, k3, k4, k5, k6, k7, k8⟩ := hw'; go_simp; try with_reducible rfl
    try simp only [Act.put, List.setIfInBounds_toArray, List.set_cons_zero, List.set_cons_succ]
    refine wpX_free (i := 4) (v := ?_) rfl (by kernel_rfl) (fun _ _ _ h => h) rfl (fun w' => ?_) ?_
    rotate_left
    · go_simp; try with_reducible rfl
    try simp only [Act.put, List.setIfInBounds_toArray, List.set_cons_zero, List.set_cons_succ]
    refine wpX_load (i := 5) (v := ?_) rfl (by kernel_rfl) (fun _ _ _ h => h) hC rfl (fun w' hw' => ?_) ?_
    rotate_left
    · obtain ⟨k1, k2, k3, k4, k5, k6, k7, k8⟩ := hw'; go_simp; try with_reducible rfl
    try simp only [Act.put, List.setIfInBounds_toArray, List.set_cons_zero, List.set_cons_succ]
    refine wpX_free (i := 6) (v := ?_) rfl (by kernel_rfl) (fun _ _ _ h => h) rfl (fun w' => ?_) ?_
    rotate_left
    · go_simp; try with_reducible rfl
    try simp only [Act.put, List.setIfInBounds_toArray, List.set_cons_zero, List.set_cons_succ]
    refine wpX_load (i := 7) (v := ?_) rfl (by kernel_rfl) (fun _ _ _ h => h) hC rfl (fun w' hw' => ?_) ?_
    rotate_left
    · obtain ⟨k1, k2, k3, k4, k5, k6, k7, k8⟩ := hw'; go_simp; try with_reducible rfl
    try simp only [Act.put, List.setIfInBounds_toArray, List.set_cons_zero, List.set_cons_succ]
    refine wpX_one (i := 8) rfl (by kernel_rfl) rfl ?_
    intro K hK
    go_simp
    refine hK _ _ (CQ.out _ (by (repeat (first | exact Below.refl _ _ | refine Below.drew ?_ | refine Below.alloc ?_ (by simp) _)))) ?_
    have hC := CQ.out _ (show Below wq.heap.size wq (wq.alloc (.cells #[.bool false, .int .i64 0, .int .i64 0, .int .i64 0, .bool false, .int .i64 0] 125)).drew from ((Below.refl _ _).alloc (Nat.le_refl _) _).drew)
    clear hK K
    try simp only [Act.put, List.setIfInBounds_toArray, List.set_cons_zero, List.set_cons_succ]
    refine wpX_one (i := 9) rfl (by kernel_rfl) rfl ?_
    intro K hK
    go_simp
    refine hK _ _ (CQ.out _ (by (repeat (first | exact Below.refl _ _ | refine Below.drew ?_ | refine Below.alloc ?_ (by simp) _)))) ?_
    have hC := CQ.out _ (show Below wq.heap.size wq (wq.alloc (.cells #[.bool x0, .int .i64 x1, .int .i64 x2, .int .i64 x3, .bool x4, .int .i64 x5] 125)).drew from ((Below.refl _ _).alloc (Nat.le_refl _) _).drew)
    clear hK K
    try simp only [Act.put, List.setIfInBounds_toArray, List.set_cons_zero, List.set_cons_succ]
    refine wpX_rest (t := []) (l := []) rfl (by kernel_rfl) (by kernel_rfl) ?_
    clear hC
    obtain ⟨W5, hW5⟩ : ∃ W5, W5 = (wq.alloc (.cells #[.bool x0, .int .i64 x1, .int .i64 x2, .int .i64 x3, .bool x4, .int .i64 x5] 125)).drew := ⟨_, rfl⟩
    have b5 : Below wq.heap.size wq W5 := by rw [hW5]; exact ((Below.refl _ _).alloc (Nat.le_refl _) _).drew
    have P5 := Lib.hid (P3.out.below b5)
    have F5 := Lib.hid (F3.out.trans (Fs.of_below b5))
    have KD5 := Lib.hid (K3.out.below b5)
    have KP5 := Lib.hid (show CellsAt W5 wq.heap.size [.bool x0, .int .i64 x1, .int .i64 x2, .int .i64 x3, .bool x4, .int .i64 x5] by rw [hW5]; exact (CellsAt.new wq [.bool x0, .int .i64 x1, .int .i64 x2, .int .i64 x3, .bool x4, .int .i64 x5] 125).below (Below.refl _ _).drew)
    have HZ5 := Lib.hid (show w.heap.size + 2 ≤ W5.heap.size from Nat.le_trans HZQ.out b5.size)
    have HW5 := Lib.hid hW5.symm
    clear b5 hW5
    rw [HW5.out]
    have hkd0 := KD5.out.get 0 _ rfl
    have hkd1 := KD5.out.get 1 _ rfl
    have y0 := KP5.out.get 0 _ rfl
    have y1 := KP5.out.get 1 _ rfl
    have y2 := KP5.out.get 2 _ rfl
    have y3 := KP5.out.get 3 _ rfl
    have y4 := KP5.out.get 4 _ rfl
    have y5 := KP5.out.get 5 _ rfl
    go_wp2_with fail
    refine (PlCome_any (x0, x1, x2, x3, x4, x5) _ P5.out HPO.out HPK.out HIN.out.hl).mono ?_
    rintro e w8 ⟨rfl, ve8, P8, F8⟩
    have P8 := Lib.hid (P8.mono (Bm.mono F5.out.size))
    have F8 := Lib.hid (F5.out.trans F8)
    go_wp2
    go_ret
    exact DoP.mk rfl P8.out F8.out
set_option maxRecDepth 100000 in
set_option maxHeartbeats 4000000 in
theorem PlDo_3 {ad : Option Addr} {xss : List (List Int)} {m c b sm wk n a : Nat} {B : Nat → Prop} {S : PS} {vl vr ve vh vw vo : Value} (t bs : Int) (w : World) (P : PlIs w b 0 B S vl vr ve vh vw vo) (hI : PInv n sm wk S) (hs : 1 ≤ sm ∧ sm ≤ 8) (hwk : 1 ≤ wk ∧ wk ≤ 4) (hc : SlII w (.slice ad m c) xss) (hch : chainOk n t xss = true) (hbs : 0 ≤ bs ∧ bs ≤ 999999992) (ha : a ≤ 999) :
    Calls Try.prog 53 #[.pointer (some ⟨b, 0, none⟩), .agg #[.int .i64 n, .int .i64 t, .slice ad m c, .int .i64 bs, .int .i64 sm, .int .i64 wk], .agg #[.int .i64 3, .int .i64 a]] w (DoP b B (doS t xss bs sm wk (3, (a : Int)) S) w) := by
  rw [show doS t xss bs sm wk (3, (a : Int)) S = wireS 3 a S by unfold doS; simp]
  have HIN := Lib.hid hI
  have HPO := Lib.hid (hI.plOk hs.1 hs.2)
  have hn6 : n ≤ 6 := by have := (chainOk_parts0 hch).1; omega
  have HB := Lib.hid P.ownB
  have HL := Lib.hid P.ownLt
  have bA : Below w.heap.size w (w.alloc (.cells #[.int .i64 n, .int .i64 t, .slice ad m c, .int .i64 bs, .int .i64 sm, .int .i64 wk] 35)) := (Below.refl _ _).alloc (Nat.le_refl _) _
  have KA := CellsAt.new w [.int .i64 n, .int .i64 t, .slice ad m c, .int .i64 bs, .int .i64 sm, .int .i64 wk] 35
  have bB : Below (w.alloc (.cells #[.int .i64 n, .int .i64 t, .slice ad m c, .int .i64 bs, .int .i64 sm, .int .i64 wk] 35)).heap.size (w.alloc (.cells #[.int .i64 n, .int .i64 t, .slice ad m c, .int .i64 bs, .int .i64 sm, .int .i64 wk] 35)) ((w.alloc (.cells #[.int .i64 n, .int .i64 t, .slice ad m c, .int .i64 bs, .int .i64 sm, .int .i64 wk] 35)).alloc (.cells #[.int .i64 3, .int .i64 a] 68)) := (Below.refl _ _).alloc (Nat.le_refl _) _
  obtain ⟨W2, hW2⟩ : ∃ W2, W2 = (w.alloc (.cells #[.int .i64 n, .int .i64 t, .slice ad m c, .int .i64 bs, .int .i64 sm, .int .i64 wk] 35)).alloc (.cells #[.int .i64 3, .int .i64 a] 68) := ⟨_, rfl⟩
  have K1 := Lib.hid (show CellsAt W2 w.heap.size [.int .i64 n, .int .i64 t, .slice ad m c, .int .i64 bs, .int .i64 sm, .int .i64 wk] by rw [hW2]; exact KA.below bB)
  have K2 := Lib.hid (show CellsAt W2 (w.heap.size + 1) [.int .i64 3, .int .i64 a] by rw [hW2]; exact CellsAt.new' (w.alloc (.cells #[.int .i64 n, .int .i64 t, .slice ad m c, .int .i64 bs, .int .i64 sm, .int .i64 wk] 35)) [.int .i64 3, .int .i64 a] 68 (by simp))
  rw [← hW2] at bB
  have b2 : Below w.heap.size w W2 := bA.trans (bB.mono bA.size)
  have P2 := Lib.hid (P.below b2)
  have F2 := Lib.hid (Fs.of_below (S := B) b2)
  have HZ2 := Lib.hid b2.size
  have HS2 := Lib.hid (show w.heap.size + 2 = W2.heap.size by rw [hW2]; simp)
  have HC := Lib.hid (hc.below b2)
  have HW2 := Lib.hid hW2.symm
  have hbl := P2.out.blt
  clear P hI bA bB KA b2 hc hW2
  have HWL := Lib.hid HIN.out.wl
  have hwl := HWL.out
  have HX := Lib.hid (fun W (h : Below W2.heap.size W2 W) => hasIndexP_any (a : Int) S.wire.length W (by omega))
  have k1 := K2.out.get 1 _ rfl
  have q6 := P2.out.get.2.2.2.1
  by_cases hr : (S.wire.length : Int) ≤ a
  · rw [show wireS 3 a S = (2, S) by unfold wireS; rw [if_pos hr]]
    obtain ⟨wa, wc, rfl, _, _⟩ := P2.out.ow.shape
    have HI := Lib.hid (show inR (a : Int) 0 ((S.wire.length : Int) - 1) = false from inR_false.2 (by omega))
    have HX := Lib.hid (fun W (h : Below W2.heap.size W2 W) => HI.out ▸ HX.out W h)
    have kk1 := fun d os => cell_regrown k1 d os
    have kq6 := fun d os => cell_regrown q6 d os
    clear hr k1 q6
    go_enter Try.func53, Try.ntmps53
    go_wp2_with fail
    rw [HW2.out]
    refine wp_region_quiet_below (by kernel_rfl) (by kernel_rfl) ?_
    repeat (first | go_big_quiet_skip | quiet_step (exact Calls.regrown_of (HX.out _ (below_regrown _ _ _))))
    refine wpQuiet_nil ?_
    intro _ hw'
    obtain ⟨⟨dq, osq⟩, hw''⟩ := hw'
    subst hw''
    have bq := below_regrown W2 dq osq
    generalize grow (redrawn W2 dq) osq = wq at bq ⊢
    clear kk1 kq6
    go_wp2
    go_ret
    exact DoP.mk rfl ((P2.out.below bq).mono (fun k hk => .inl hk)) (F2.out.trans (Fs.of_below bq))
  · have hal : a < S.wire.length := by omega
    have GX : S.wire.getD a noPk = S.wire[a] := by simp [hal]
    have hpk := HIN.out.wire _ (List.getElem_mem hal)
    obtain ⟨g, wc, rfl, hg⟩ := P2.out.ow.form (by omega)
    obtain ⟨b0, o0, he, _, e0, e1, e2, e3, e4, e5⟩ := FPacket_at P2.out.ow.sl hal
    simp only [Option.some.injEq, Addr.mk.injEq] at he
    obtain ⟨rfl, rfl, _⟩ := he
    simp only [Nat.zero_add] at e0 e1 e2 e3 e4 e5
    generalize hx : S.wire[a] = x at GX hpk e0 e1 e2 e3 e4 e5
    obtain ⟨x0, x1, x2, x3, x4, x5⟩ := x
    dsimp only at e0 e1 e2 e3 e4 e5
    rw [show wireS 3 a S = (0, comeS (x0, x1, x2, x3, x4, x5) { S with wire := S.wire.eraseIdx a }) by unfold wireS; rw [if_neg hr, Int.toNat_natCast, GX]; rfl]
    have HI := Lib.hid (show inR (a : Int) 0 ((S.wire.length : Int) - 1) = true from inR_iff.2 ⟨by omega, by omega⟩)
    have HX := Lib.hid (fun W (h : Below W2.heap.size W2 W) => HI.out ▸ HX.out W h)
    have a0 : (0 : Int) ≤ (a : Int) := by omega
    have a1 : (a : Int) < (S.wire.length : Int) := by omega
    have HPK := Lib.hid hpk
    have HAL := Lib.hid hal
    have CW := Lib.hid (show ∀ W, Below W2.heap.size W2 W → (W.cell? ⟨b, 6, none⟩ = some (.slice (some ⟨g, 0, none⟩) S.wire.length wc) ∧ W.cell? ⟨w.heap.size + 1, 1, none⟩ = some (.int .i64 a) ∧ W.cell? ⟨g, a * 6, none⟩ = some (.bool x0) ∧ W.cell? ⟨g, a * 6 + 1, none⟩ = some (.int .i64 x1) ∧ W.cell? ⟨g, a * 6 + 2, none⟩ = some (.int .i64 x2) ∧ W.cell? ⟨g, a * 6 + 3, none⟩ = some (.int .i64 x3) ∧ W.cell? ⟨g, a * 6 + 4, none⟩ = some (.bool x4) ∧ W.cell? ⟨g, a * 6 + 5, none⟩ = some (.int .i64 x5)) from fun W h => by
      have hg2 : g < W2.heap.size := cell_lt e0
      exact ⟨(P2.out.below h).get.2.2.2.1, (K2.out.below h).get 1 _ rfl, (h.cell (p := ⟨g, a * 6, none⟩) hg2).trans e0, (h.cell (p := ⟨g, a * 6 + 1, none⟩) hg2).trans e1, (h.cell (p := ⟨g, a * 6 + 2, none⟩) hg2).trans e2, (h.cell (p := ⟨g, a * 6 + 3, none⟩) hg2).trans e3, (h.cell (p := ⟨g, a * 6 + 4, none⟩) hg2).trans e4, (h.cell (p := ⟨g, a * 6 + 5, none⟩) hg2).trans e5⟩)
    have kk1 := fun d os => cell_regrown k1 d os
    have kq6 := fun d os => cell_regrown q6 d os
    clear hr k1 q6 hx GX hpk e0 e1 e2 e3 e4 e5
    go_enter Try.func53, Try.ntmps53
    go_wp2_with fail
    rw [HW2.out]
    refine wp_region_quiet_below (by kernel_rfl) (by kernel_rfl) ?_
    repeat (first | go_big_quiet_skip | quiet_step (exact Calls.regrown_of (HX.out _ (below_regrown _ _ _))))
    refine wpQuiet_nil ?_
    intro _ hw'
    obtain ⟨⟨dq, osq⟩, hw''⟩ := hw'
    subst hw''
    have bq := below_regrown W2 dq osq
    generalize grow (redrawn W2 dq) osq = wq at bq ⊢
    have BQ := Lib.hid bq
    have P3 := Lib.hid (P2.out.below bq)
    have F3 := Lib.hid (F2.out.trans (Fs.of_below bq))
    have K3 := Lib.hid (K2.out.below bq)
    have CQ := Lib.hid (fun W (h : Below wq.heap.size wq W) => CW.out W (BQ.out.trans (h.mono BQ.out.size)))
    have HZQ := Lib.hid (show w.heap.size + 2 ≤ wq.heap.size by have := bq.size; have := HS2.out; omega)
    clear kk1 kq6 bq CW
    go_wp2_with fail
    refine wpX_start (fun W => W.cell? ⟨b, 6, none⟩ = some (.slice (some ⟨g, 0, none⟩) S.wire.length wc) ∧ W.cell? ⟨w.heap.size + 1, 1, none⟩ = some (.int .i64 a) ∧ W.cell? ⟨g, a * 6, none⟩ = some (.bool x0) ∧ W.cell? ⟨g, a * 6 + 1, none⟩ = some (.int .i64 x1) ∧ W.cell? ⟨g, a * 6 + 2, none⟩ = some (.int .i64 x2) ∧ W.cell? ⟨g, a * 6 + 3, none⟩ = some (.int .i64 x3) ∧ W.cell? ⟨g, a * 6 + 4, none⟩ = some (.bool x4) ∧ W.cell? ⟨g, a * 6 + 5, none⟩ = some (.int .i64 x5)) [] (by kernel_rfl) ?_
    have hC := CQ.out wq.drew (Below.refl wq.heap.size wq).drew
    refine wpX_free (i := 0) (v := ?_) rfl (by kernel_rfl) (fun _ _ _ h => h) rfl (fun w' => ?_) ?_
    rotate_left
    · go_simp; try with_reducible rfl
    try simp only [Act.put, List.setIfInBounds_toArray, List.set_cons_zero, List.set_cons_succ]
    refine wpX_free (i := 1) (v := ?_) rfl (by kernel_rfl) (fun _ _ _ h => h) rfl (fun w' => ?_) ?_
    rotate_left
    · go_simp; try with_reducible rfl
    try simp only [Act.put, List.setIfInBounds_toArray, List.set_cons_zero, List.set_cons_succ]
    refine wpX_free (i := 2) (v := ?_) rfl (by kernel_rfl) (fun _ _ _ h => h) rfl (fun w' => ?_) ?_
    rotate_left
    · go_simp; try with_reducible rfl
    try simp only [Act.put, List.setIfInBounds_toArray, List.set_cons_zero, List.set_cons_succ]
    refine wpX_load (i := 3) (v := ?_) rfl (by kernel_rfl) (fun _ _ _ h => h) hC rfl (fun w' hw' => ?_) ?_
    rotate_left
    · obtain ⟨k1, k2, k3, k4, k5, k6, k7, k8⟩ := hw'; go_simp; try with_reducible rfl
    try simp only [Act.put, List.setIfInBounds_toArray, List.set_cons_zero, List.set_cons_succ]
    refine wpX_free (i := 4) (v := ?_) rfl (by kernel_rfl) (fun _ _ _ h => h) rfl (fun w' => ?_) ?_
    rotate_left
    · go_simp; try with_reducible rfl
    try simp only [Act.put, List.setIfInBounds_toArray, List.set_cons_zero, List.set_cons_succ]
    refine wpX_load (i := 5) (v := ?_) rfl (by kernel_rfl) (fun _ _ _ h => h) hC rfl (fun w' hw' => ?_) ?_
    rotate_left
    · obtain ⟨k1, k2, k3, k4, k5, k6, k7, k8⟩ := hw'; go_simp; try with_reducible rfl
    try simp only [Act.put, List.setIfInBounds_toArray, List.set_cons_zero, List.set_cons_succ]
    refine wpX_free (i := 6) (v := ?_) rfl (by kernel_rfl) (fun _ _ _ h => h) rfl (fun w' => ?_) ?_
    rotate_left
    · go_simp; try with_reducible rfl
    try simp only [Act.put, List.setIfInBounds_toArray, List.set_cons_zero, List.set_cons_succ]
    refine wpX_load (i := 7) (v := ?_) rfl (by kernel_rfl) (fun _ _ _ h => h) hC rfl (fun w' hw' => ?_) ?_
    rotate_left
    · obtain ⟨k1, k2, k3, k4, k5, k6, k7, k8⟩ := hw'; go_simp; try with_reducible rfl
    try simp only [Act.put, List.setIfInBounds_toArray, List.set_cons_zero, List.set_cons_succ]
    refine wpX_one (i := 8) rfl (by kernel_rfl) rfl ?_
    intro K hK
    go_simp
    refine hK _ _ (CQ.out _ (by (repeat (first | exact Below.refl _ _ | refine Below.drew ?_ | refine Below.alloc ?_ (by simp) _)))) ?_
    have hC := CQ.out _ (show Below wq.heap.size wq (wq.alloc (.cells #[.bool false, .int .i64 0, .int .i64 0, .int .i64 0, .bool false, .int .i64 0] 125)).drew from ((Below.refl _ _).alloc (Nat.le_refl _) _).drew)
    clear hK K
    try simp only [Act.put, List.setIfInBounds_toArray, List.set_cons_zero, List.set_cons_succ]
    refine wpX_one (i := 9) rfl (by kernel_rfl) rfl ?_
    intro K hK
    go_simp
    refine hK _ _ (CQ.out _ (by (repeat (first | exact Below.refl _ _ | refine Below.drew ?_ | refine Below.alloc ?_ (by simp) _)))) ?_
    have hC := CQ.out _ (show Below wq.heap.size wq (wq.alloc (.cells #[.bool x0, .int .i64 x1, .int .i64 x2, .int .i64 x3, .bool x4, .int .i64 x5] 125)).drew from ((Below.refl _ _).alloc (Nat.le_refl _) _).drew)
    clear hK K
    try simp only [Act.put, List.setIfInBounds_toArray, List.set_cons_zero, List.set_cons_succ]
    refine wpX_rest (t := []) (l := []) rfl (by kernel_rfl) (by kernel_rfl) ?_
    clear hC
    obtain ⟨W5, hW5⟩ : ∃ W5, W5 = (wq.alloc (.cells #[.bool x0, .int .i64 x1, .int .i64 x2, .int .i64 x3, .bool x4, .int .i64 x5] 125)).drew := ⟨_, rfl⟩
    have b5 : Below wq.heap.size wq W5 := by rw [hW5]; exact ((Below.refl _ _).alloc (Nat.le_refl _) _).drew
    have P5 := Lib.hid (P3.out.below b5)
    have F5 := Lib.hid (F3.out.trans (Fs.of_below b5))
    have KD5 := Lib.hid (K3.out.below b5)
    have KP5 := Lib.hid (show CellsAt W5 wq.heap.size [.bool x0, .int .i64 x1, .int .i64 x2, .int .i64 x3, .bool x4, .int .i64 x5] by rw [hW5]; exact (CellsAt.new wq [.bool x0, .int .i64 x1, .int .i64 x2, .int .i64 x3, .bool x4, .int .i64 x5] 125).below (Below.refl _ _).drew)
    have HZ5 := Lib.hid (show w.heap.size + 2 ≤ W5.heap.size from Nat.le_trans HZQ.out b5.size)
    have HW5 := Lib.hid hW5.symm
    clear b5 hW5
    rw [HW5.out]
    have hkd0 := KD5.out.get 0 _ rfl
    have hkd1 := KD5.out.get 1 _ rfl
    have CD := Lib.hid (show ∀ W, Below W5.heap.size W5 W → (W.cell? ⟨b, 6, none⟩ = some (.slice (some ⟨g, 0, none⟩) S.wire.length wc) ∧ W.cell? ⟨w.heap.size + 1, 1, none⟩ = some (.int .i64 a)) from fun W h => ⟨(P5.out.below h).get.2.2.2.1, (KD5.out.below h).get 1 _ rfl⟩)
    have gb : ¬ g = b := fun e => P5.out.hold.ne_box (i := 4) rfl (by rw [e]; rfl)
    have gd : ¬ g = w.heap.size + 1 := fun e => by
      have := HL.out g ⟨5, rfl⟩
      omega
    have gp : ¬ g = wq.heap.size := fun e => by
      have := HL.out g ⟨5, rfl⟩
      have := HZQ.out
      omega
    have hwr : IntKind.i64.wrap ((a : Int) + 1) = (a : Int) + 1 := IntWalk.i64_in _ (by omega)
    go_wp2_with fail
    refine wpX_start (fun W => W.cell? ⟨b, 6, none⟩ = some (.slice (some ⟨g, 0, none⟩) S.wire.length wc) ∧ W.cell? ⟨w.heap.size + 1, 1, none⟩ = some (.int .i64 a)) [13] (by kernel_rfl) ?_
    have hC := CD.out W5.drew (Below.refl W5.heap.size W5).drew
    refine wpX_free (i := 0) (v := ?_) rfl (by kernel_rfl) (fun _ _ _ h => h) rfl (fun w' => ?_) ?_
    rotate_left
    · go_simp; try with_reducible rfl
    try simp only [Act.put, List.setIfInBounds_toArray, List.set_cons_zero, List.set_cons_succ]
    refine wpX_free (i := 1) (v := ?_) rfl (by kernel_rfl) (fun _ _ _ h => h) rfl (fun w' => ?_) ?_
    rotate_left
    · go_simp; try with_reducible rfl
    try simp only [Act.put, List.setIfInBounds_toArray, List.set_cons_zero, List.set_cons_succ]
    refine wpX_free (i := 2) (v := ?_) rfl (by kernel_rfl) (fun _ _ _ h => h) rfl (fun w' => ?_) ?_
    rotate_left
    · go_simp; try with_reducible rfl
    try simp only [Act.put, List.setIfInBounds_toArray, List.set_cons_zero, List.set_cons_succ]
    refine wpX_free (i := 3) (v := ?_) rfl (by kernel_rfl) (fun _ _ _ h => h) rfl (fun w' => ?_) ?_
    rotate_left
    · go_simp; try with_reducible rfl
    try simp only [Act.put, List.setIfInBounds_toArray, List.set_cons_zero, List.set_cons_succ]
    refine wpX_load (i := 4) (v := ?_) rfl (by kernel_rfl) (fun _ _ _ h => h) hC rfl (fun w' hw' => ?_) ?_
    rotate_left
    · obtain ⟨k1, k2⟩ := hw'; go_simp; try with_reducible rfl
    try simp only [Act.put, List.setIfInBounds_toArray, List.set_cons_zero, List.set_cons_succ]
    refine wpX_free (i := 5) (v := ?_) rfl (by kernel_rfl) (fun _ _ _ h => h) rfl (fun w' => ?_) ?_
    rotate_left
    · go_simp; try with_reducible rfl
    try simp only [Act.put, List.setIfInBounds_toArray, List.set_cons_zero, List.set_cons_succ]
    refine wpX_load (i := 6) (v := ?_) rfl (by kernel_rfl) (fun _ _ _ h => h) hC rfl (fun w' hw' => ?_) ?_
    rotate_left
    · obtain ⟨k1, k2⟩ := hw'; go_simp; try with_reducible rfl
    try simp only [Act.put, List.setIfInBounds_toArray, List.set_cons_zero, List.set_cons_succ]
    refine wpX_free (i := 7) (v := ?_) rfl (by kernel_rfl) (fun _ _ _ h => h) rfl (fun w' => ?_) ?_
    rotate_left
    · go_simp; try with_reducible rfl
    try simp only [Act.put, List.setIfInBounds_toArray, List.set_cons_zero, List.set_cons_succ]
    refine wpX_load (i := 8) (v := ?_) rfl (by kernel_rfl) (fun _ _ _ h => h) hC rfl (fun w' hw' => ?_) ?_
    rotate_left
    · obtain ⟨k1, k2⟩ := hw'; go_simp; try with_reducible rfl
    try simp only [Act.put, List.setIfInBounds_toArray, List.set_cons_zero, List.set_cons_succ]
    refine wpX_free (i := 9) (v := ?_) rfl (by kernel_rfl) (fun _ _ _ h => h) rfl (fun w' => ?_) ?_
    rotate_left
    · go_simp; try with_reducible rfl
    try simp only [Act.put, List.setIfInBounds_toArray, List.set_cons_zero, List.set_cons_succ]
    refine wpX_one (i := 10) rfl (by kernel_rfl) rfl ?_
    intro K hK
    go_simp
    go_at_call 87
    refine (DeleteW_any 0 _ (P5.out.below (Below.refl W5.heap.size W5).drew).ow HAL.out (by have := HWL.out; omega)).mono ?_
    rintro e w6 ⟨rfl, o6, g6⟩
    have PD := P5.out.below (Below.refl W5.heap.size W5).drew
    have n6 := grown_at g6 PD.hold.lt (PD.hold.ne_box (i := 4) rfl) 6
    have hC : w6.cell? ⟨b, 6, none⟩ = some (.slice (some ⟨g, 0, none⟩) S.wire.length wc) ∧ w6.cell? ⟨w.heap.size + 1, 1, none⟩ = some (.int .i64 a) := by
      refine ⟨n6.1.trans PD.get.2.2.2.1, ?_⟩
      have h1 := (KD5.out.below (Below.refl W5.heap.size W5).drew)
      exact (grown_at g6 h1.1 (by simp; exact gd) 1).1.trans (h1.get 1 _ rfl)
    have f6 := n6.2.trans (PD.fz 6)
    have c6 := hC.1
    have P6 := PD.part (S' := { S with wire := S.wire.eraseIdx a }) 4 6 (c' := FPacket.ch (.slice (some ⟨g, 0, none⟩) (S.wire.length - 1) wc) (S.wire.eraseIdx a)) rfl rfl rfl (by decide) g6 o6 (m := w.heap.size) (by have := HZ5.out; show w.heap.size ≤ W5.heap.size; omega) (fun x hx => .inl hx) PD.len PD.pos
    have F6 := ((F5.out.trans (Fs.of_below (Below.refl W5.heap.size W5).drew)).trans (Fs.of_grown (S := B) g6 (fun k hk => HB.out k ⟨5, by rw [← hk]; rfl⟩))).set (a := ⟨b, 0 + 6, none⟩) (HB.out b ⟨0, rfl⟩) (.slice (some ⟨g, 0, none⟩) (S.wire.length - 1) wc)
    have KP6 := ((KP5.out.below (Below.refl W5.heap.size W5).drew).fs (S := fun k => some g = some k) (Fs.of_grown g6 (fun k hk => hk)) (fun h => gp (Option.some.inj h)))
    refine hK _ _ hC ?_
    clear hK K
    have P6 := Lib.hid P6
    have F6 := Lib.hid F6
    have KP6 := Lib.hid (KP6.fs (S := fun k => k = b) (Fs.set (S := fun k => k = b) (Fs.refl _ _) (a := ⟨b, 0 + 6, none⟩) rfl (.slice (some ⟨g, 0, none⟩) (S.wire.length - 1) wc)) (fun h => by have := HL.out b ⟨0, rfl⟩; have := HZQ.out; omega))
    have KD6 := Lib.hid (((KD5.out.below (Below.refl W5.heap.size W5).drew).fs (S := fun k => some g = some k) (Fs.of_grown g6 (fun k hk => hk)) (fun h => gd (Option.some.inj h))).fs (S := fun k => k = b) (Fs.set (S := fun k => k = b) (Fs.refl _ _) (a := ⟨b, 0 + 6, none⟩) rfl (.slice (some ⟨g, 0, none⟩) (S.wire.length - 1) wc)) (fun h => by have := HL.out b ⟨0, rfl⟩; omega))
    clear n6 o6 g6 PD
    try simp only [Act.put, List.setIfInBounds_toArray, List.set_cons_zero, List.set_cons_succ]
    refine wpX_free (i := 11) (v := ?_) rfl (by kernel_rfl) (fun _ _ _ h => h) rfl (fun w' => ?_) ?_
    rotate_left
    · go_simp; try with_reducible rfl
    try simp only [Act.put, List.setIfInBounds_toArray, List.set_cons_zero, List.set_cons_succ]
    refine wpX_free (i := 12) (v := ?_) rfl (by kernel_rfl) (fun _ _ _ h => h) rfl (fun w' => ?_) ?_
    rotate_left
    · go_simp; try with_reducible rfl
    try simp only [Act.put, List.setIfInBounds_toArray, List.set_cons_zero, List.set_cons_succ]
    refine wpX_rest (t := [13]) (l := [_]) rfl (by kernel_rfl) (by kernel_rfl) ?_
    clear hC
    obtain ⟨W7, hW7⟩ : ∃ W7, W7 = w6.setCell ⟨b, 6, none⟩ (.slice (some ⟨g, 0, none⟩) (S.wire.length - 1) wc) := ⟨_, rfl⟩
    have P7 := Lib.hid (show PlIs W7 b 0 (Bm B w.heap.size) { S with wire := S.wire.eraseIdx a } vl vr ve vh (.slice (some ⟨g, 0, none⟩) (S.wire.length - 1) wc) vo by rw [hW7]; exact P6.out)
    have F7 := Lib.hid (show Fs B w W7 by rw [hW7]; exact F6.out)
    have KP7 := Lib.hid (show CellsAt W7 wq.heap.size [.bool x0, .int .i64 x1, .int .i64 x2, .int .i64 x3, .bool x4, .int .i64 x5] by rw [hW7]; exact KP6.out)
    have KD7 := Lib.hid (show CellsAt W7 (w.heap.size + 1) [.int .i64 3, .int .i64 a] by rw [hW7]; exact KD6.out)
    have HW7 := Lib.hid hW7.symm
    have z7 := KD6.out.get 0 _ rfl
    clear hW7 P6 F6 KP6 hkd0 hkd1
    have bk : ¬ b = wq.heap.size := fun h => by have := HL.out b ⟨0, rfl⟩; have := HZQ.out; omega
    have kb : ¬ wq.heap.size = b := fun h => bk h.symm
    have bd : ¬ b = w.heap.size + 1 := fun h => by have := HL.out b ⟨0, rfl⟩; omega
    have db : ¬ w.heap.size + 1 = b := fun h => bd h.symm
    have y0 := KP7.out.get 0 _ rfl
    have y1 := KP7.out.get 1 _ rfl
    have y2 := KP7.out.get 2 _ rfl
    have y3 := KP7.out.get 3 _ rfl
    have y4 := KP7.out.get 4 _ rfl
    have y5 := KP7.out.get 5 _ rfl
    rw [← HW7.out] at y0 y1 y2 y3 y4 y5
    simp [go_sem, bk, kb, bd, db] at y0 y1 y2 y3 y4 y5 z7
    go_wp2_with fail
    rw [HW7.out]
    refine (PlCome_any (x0, x1, x2, x3, x4, x5) _ P7.out (by obtain ⟨a1, a2, a3, a4, a5, a6⟩ := HPO.out; exact ⟨a1, a2, a3, a4, a5, Nat.le_trans (List.length_eraseIdx_le _ _) a6⟩) HPK.out (show S.hands.length = wk from HIN.out.hl)).mono ?_
    rintro e w8 ⟨rfl, ve8, P8, F8⟩
    have P8 := Lib.hid (P8.mono (Bm.bm (n := w.heap.size) (Nat.le_refl _) (by have := F7.out.size; omega)))
    have F8 := Lib.hid (F7.out.bm F8 (Nat.le_refl _))
    go_wp2
    go_ret
    exact DoP.mk rfl P8.out F8.out
set_option maxRecDepth 100000 in
set_option maxHeartbeats 4000000 in
theorem PlDo_5 {ad : Option Addr} {xss : List (List Int)} {m c b sm wk n a : Nat} {B : Nat → Prop} {S : PS} {vl vr ve vh vw vo : Value} (t bs : Int) (w : World) (P : PlIs w b 0 B S vl vr ve vh vw vo) (hI : PInv n sm wk S) (hs : 1 ≤ sm ∧ sm ≤ 8) (hwk : 1 ≤ wk ∧ wk ≤ 4) (hc : SlII w (.slice ad m c) xss) (hch : chainOk n t xss = true) (hbs : 0 ≤ bs ∧ bs ≤ 999999992) (ha : a ≤ 999) :
    Calls Try.prog 53 #[.pointer (some ⟨b, 0, none⟩), .agg #[.int .i64 n, .int .i64 t, .slice ad m c, .int .i64 bs, .int .i64 sm, .int .i64 wk], .agg #[.int .i64 5, .int .i64 a]] w (DoP b B (doS t xss bs sm wk (5, (a : Int)) S) w) := by
  rw [show doS t xss bs sm wk (5, (a : Int)) S = wireS 5 a S by unfold doS; simp]
  have HIN := Lib.hid hI
  have HPO := Lib.hid (hI.plOk hs.1 hs.2)
  have hn6 : n ≤ 6 := by have := (chainOk_parts0 hch).1; omega
  have HB := Lib.hid P.ownB
  have HL := Lib.hid P.ownLt
  have bA : Below w.heap.size w (w.alloc (.cells #[.int .i64 n, .int .i64 t, .slice ad m c, .int .i64 bs, .int .i64 sm, .int .i64 wk] 35)) := (Below.refl _ _).alloc (Nat.le_refl _) _
  have KA := CellsAt.new w [.int .i64 n, .int .i64 t, .slice ad m c, .int .i64 bs, .int .i64 sm, .int .i64 wk] 35
  have bB : Below (w.alloc (.cells #[.int .i64 n, .int .i64 t, .slice ad m c, .int .i64 bs, .int .i64 sm, .int .i64 wk] 35)).heap.size (w.alloc (.cells #[.int .i64 n, .int .i64 t, .slice ad m c, .int .i64 bs, .int .i64 sm, .int .i64 wk] 35)) ((w.alloc (.cells #[.int .i64 n, .int .i64 t, .slice ad m c, .int .i64 bs, .int .i64 sm, .int .i64 wk] 35)).alloc (.cells #[.int .i64 5, .int .i64 a] 68)) := (Below.refl _ _).alloc (Nat.le_refl _) _
  obtain ⟨W2, hW2⟩ : ∃ W2, W2 = (w.alloc (.cells #[.int .i64 n, .int .i64 t, .slice ad m c, .int .i64 bs, .int .i64 sm, .int .i64 wk] 35)).alloc (.cells #[.int .i64 5, .int .i64 a] 68) := ⟨_, rfl⟩
  have K1 := Lib.hid (show CellsAt W2 w.heap.size [.int .i64 n, .int .i64 t, .slice ad m c, .int .i64 bs, .int .i64 sm, .int .i64 wk] by rw [hW2]; exact KA.below bB)
  have K2 := Lib.hid (show CellsAt W2 (w.heap.size + 1) [.int .i64 5, .int .i64 a] by rw [hW2]; exact CellsAt.new' (w.alloc (.cells #[.int .i64 n, .int .i64 t, .slice ad m c, .int .i64 bs, .int .i64 sm, .int .i64 wk] 35)) [.int .i64 5, .int .i64 a] 68 (by simp))
  rw [← hW2] at bB
  have b2 : Below w.heap.size w W2 := bA.trans (bB.mono bA.size)
  have P2 := Lib.hid (P.below b2)
  have F2 := Lib.hid (Fs.of_below (S := B) b2)
  have HZ2 := Lib.hid b2.size
  have HS2 := Lib.hid (show w.heap.size + 2 = W2.heap.size by rw [hW2]; simp)
  have HC := Lib.hid (hc.below b2)
  have HW2 := Lib.hid hW2.symm
  have hbl := P2.out.blt
  clear P hI bA bB KA b2 hc hW2
  have HWL := Lib.hid HIN.out.wl
  have hwl := HWL.out
  have HX := Lib.hid (fun W (h : Below W2.heap.size W2 W) => hasIndexP_any (a : Int) S.wire.length W (by omega))
  have k1 := K2.out.get 1 _ rfl
  have q6 := P2.out.get.2.2.2.1
  by_cases hr : (S.wire.length : Int) ≤ a
  · rw [show wireS 5 a S = (2, S) by unfold wireS; rw [if_pos hr]]
    obtain ⟨wa, wc, rfl, _, _⟩ := P2.out.ow.shape
    have HI := Lib.hid (show inR (a : Int) 0 ((S.wire.length : Int) - 1) = false from inR_false.2 (by omega))
    have HX := Lib.hid (fun W (h : Below W2.heap.size W2 W) => HI.out ▸ HX.out W h)
    have kk1 := fun d os => cell_regrown k1 d os
    have kq6 := fun d os => cell_regrown q6 d os
    clear hr k1 q6
    go_enter Try.func53, Try.ntmps53
    go_wp2_with fail
    rw [HW2.out]
    refine wp_region_quiet_below (by kernel_rfl) (by kernel_rfl) ?_
    repeat (first | go_big_quiet_skip | quiet_step (exact Calls.regrown_of (HX.out _ (below_regrown _ _ _))))
    refine wpQuiet_nil ?_
    intro _ hw'
    obtain ⟨⟨dq, osq⟩, hw''⟩ := hw'
    subst hw''
    have bq := below_regrown W2 dq osq
    generalize grow (redrawn W2 dq) osq = wq at bq ⊢
    clear kk1 kq6
    go_wp2
    go_ret
    exact DoP.mk rfl ((P2.out.below bq).mono (fun k hk => .inl hk)) (F2.out.trans (Fs.of_below bq))
  · have hal : a < S.wire.length := by omega
    have GX : S.wire.getD a noPk = S.wire[a] := by simp [hal]
    have hpk := HIN.out.wire _ (List.getElem_mem hal)
    obtain ⟨g, wc, rfl, hg⟩ := P2.out.ow.form (by omega)
    obtain ⟨b0, o0, he, _, e0, e1, e2, e3, e4, e5⟩ := FPacket_at P2.out.ow.sl hal
    simp only [Option.some.injEq, Addr.mk.injEq] at he
    obtain ⟨rfl, rfl, _⟩ := he
    simp only [Nat.zero_add] at e0 e1 e2 e3 e4 e5
    generalize hx : S.wire[a] = x at GX hpk e0 e1 e2 e3 e4 e5
    obtain ⟨x0, x1, x2, x3, x4, x5⟩ := x
    dsimp only at e0 e1 e2 e3 e4 e5
    rw [show wireS 5 a S = (0, { S with wire := S.wire.eraseIdx a }) by unfold wireS; rw [if_neg hr, Int.toNat_natCast, GX]; rfl]
    have HI := Lib.hid (show inR (a : Int) 0 ((S.wire.length : Int) - 1) = true from inR_iff.2 ⟨by omega, by omega⟩)
    have HX := Lib.hid (fun W (h : Below W2.heap.size W2 W) => HI.out ▸ HX.out W h)
    have a0 : (0 : Int) ≤ (a : Int) := by omega
    have a1 : (a : Int) < (S.wire.length : Int) := by omega
    have HPK := Lib.hid hpk
    have HAL := Lib.hid hal
    have CW := Lib.hid (show ∀ W, Below W2.heap.size W2 W → (W.cell? ⟨b, 6, none⟩ = some (.slice (some ⟨g, 0, none⟩) S.wire.length wc) ∧ W.cell? ⟨w.heap.size + 1, 1, none⟩ = some (.int .i64 a) ∧ W.cell? ⟨g, a * 6, none⟩ = some (.bool x0) ∧ W.cell? ⟨g, a * 6 + 1, none⟩ = some (.int .i64 x1) ∧ W.cell? ⟨g, a * 6 + 2, none⟩ = some (.int .i64 x2) ∧ W.cell? ⟨g, a * 6 + 3, none⟩ = some (.int .i64 x3) ∧ W.cell? ⟨g, a * 6 + 4, none⟩ = some (.bool x4) ∧ W.cell? ⟨g, a * 6 + 5, none⟩ = some (.int .i64 x5)) from fun W h => by
      have hg2 : g < W2.heap.size := cell_lt e0
      exact ⟨(P2.out.below h).get.2.2.2.1, (K2.out.below h).get 1 _ rfl, (h.cell (p := ⟨g, a * 6, none⟩) hg2).trans e0, (h.cell (p := ⟨g, a * 6 + 1, none⟩) hg2).trans e1, (h.cell (p := ⟨g, a * 6 + 2, none⟩) hg2).trans e2, (h.cell (p := ⟨g, a * 6 + 3, none⟩) hg2).trans e3, (h.cell (p := ⟨g, a * 6 + 4, none⟩) hg2).trans e4, (h.cell (p := ⟨g, a * 6 + 5, none⟩) hg2).trans e5⟩)
    have kk1 := fun d os => cell_regrown k1 d os
    have kq6 := fun d os => cell_regrown q6 d os
    clear hr k1 q6 hx GX hpk e0 e1 e2 e3 e4 e5
    go_enter Try.func53, Try.ntmps53
    go_wp2_with fail
    rw [HW2.out]
    refine wp_region_quiet_below (by kernel_rfl) (by kernel_rfl) ?_
    repeat (first | go_big_quiet_skip | quiet_step (exact Calls.regrown_of (HX.out _ (below_regrown _ _ _))))
    refine wpQuiet_nil ?_
    intro _ hw'
    obtain ⟨⟨dq, osq⟩, hw''⟩ := hw'
    subst hw''
    have bq := below_regrown W2 dq osq
    generalize grow (redrawn W2 dq) osq = wq at bq ⊢
    have BQ := Lib.hid bq
    have P3 := Lib.hid (P2.out.below bq)
    have F3 := Lib.hid (F2.out.trans (Fs.of_below bq))
    have K3 := Lib.hid (K2.out.below bq)
    have CQ := Lib.hid (fun W (h : Below wq.heap.size wq W) => CW.out W (BQ.out.trans (h.mono BQ.out.size)))
    have HZQ := Lib.hid (show w.heap.size + 2 ≤ wq.heap.size by have := bq.size; have := HS2.out; omega)
    clear kk1 kq6 bq CW
    go_wp2_with fail
    refine wpX_start (fun W => W.cell? ⟨b, 6, none⟩ = some (.slice (some ⟨g, 0, none⟩) S.wire.length wc) ∧ W.cell? ⟨w.heap.size + 1, 1, none⟩ = some (.int .i64 a) ∧ W.cell? ⟨g, a * 6, none⟩ = some (.bool x0) ∧ W.cell? ⟨g, a * 6 + 1, none⟩ = some (.int .i64 x1) ∧ W.cell? ⟨g, a * 6 + 2, none⟩ = some (.int .i64 x2) ∧ W.cell? ⟨g, a * 6 + 3, none⟩ = some (.int .i64 x3) ∧ W.cell? ⟨g, a * 6 + 4, none⟩ = some (.bool x4) ∧ W.cell? ⟨g, a * 6 + 5, none⟩ = some (.int .i64 x5)) [] (by kernel_rfl) ?_
    have hC := CQ.out wq.drew (Below.refl wq.heap.size wq).drew
    refine wpX_free (i := 0) (v := ?_) rfl (by kernel_rfl) (fun _ _ _ h => h) rfl (fun w' => ?_) ?_
    rotate_left
    · go_simp; try with_reducible rfl
    try simp only [Act.put, List.setIfInBounds_toArray, List.set_cons_zero, List.set_cons_succ]
    refine wpX_free (i := 1) (v := ?_) rfl (by kernel_rfl) (fun _ _ _ h => h) rfl (fun w' => ?_) ?_
    rotate_left
    · go_simp; try with_reducible rfl
    try simp only [Act.put, List.setIfInBounds_toArray, List.set_cons_zero, List.set_cons_succ]
    refine wpX_free (i := 2) (v := ?_) rfl (by kernel_rfl) (fun _ _ _ h => h) rfl (fun w' => ?_) ?_
    rotate_left
    · go_simp; try with_reducible rfl
    try simp only [Act.put, List.setIfInBounds_toArray, List.set_cons_zero, List.set_cons_succ]
    refine wpX_load (i := 3) (v := ?_) rfl (by kernel_rfl) (fun _ _ _ h => h) hC rfl (fun w' hw' => ?_) ?_
    rotate_left
    · obtain ⟨k1, k2, k3, k4, k5, k6, k7, k8⟩ := hw'; go_simp; try with_reducible rfl
    try simp only [Act.put, List.setIfInBounds_toArray, List.set_cons_zero, List.set_cons_succ]
    refine wpX_free (i := 4) (v := ?_) rfl (by kernel_rfl) (fun _ _ _ h => h) rfl (fun w' => ?_) ?_
    rotate_left
    · go_simp; try with_reducible rfl
    try simp only [Act.put, List.setIfInBounds_toArray, List.set_cons_zero, List.set_cons_succ]
    refine wpX_load (i := 5) (v := ?_) rfl (by kernel_rfl) (fun _ _ _ h => h) hC rfl (fun w' hw' => ?_) ?_
    rotate_left
    · obtain ⟨k1, k2, k3, k4, k5, k6, k7, k8⟩ := hw'; go_simp; try with_reducible rfl
    try simp only [Act.put, List.setIfInBounds_toArray, List.set_cons_zero, List.set_cons_succ]
    refine wpX_free (i := 6) (v := ?_) rfl (by kernel_rfl) (fun _ _ _ h => h) rfl (fun w' => ?_) ?_
    rotate_left
    · go_simp; try with_reducible rfl
    try simp only [Act.put, List.setIfInBounds_toArray, List.set_cons_zero, List.set_cons_succ]
    refine wpX_load (i := 7) (v := ?_) rfl (by kernel_rfl) (fun _ _ _ h => h) hC rfl (fun w' hw' => ?_) ?_
    rotate_left
    · obtain ⟨k1, k2, k3, k4, k5, k6, k7, k8⟩ := hw'; go_simp; try with_reducible rfl
    try simp only [Act.put, List.setIfInBounds_toArray, List.set_cons_zero, List.set_cons_succ]
    refine wpX_one (i := 8) rfl (by kernel_rfl) rfl ?_
    intro K hK
    go_simp
    refine hK _ _ (CQ.out _ (by (repeat (first | exact Below.refl _ _ | refine Below.drew ?_ | refine Below.alloc ?_ (by simp) _)))) ?_
    have hC := CQ.out _ (show Below wq.heap.size wq (wq.alloc (.cells #[.bool false, .int .i64 0, .int .i64 0, .int .i64 0, .bool false, .int .i64 0] 125)).drew from ((Below.refl _ _).alloc (Nat.le_refl _) _).drew)
    clear hK K
    try simp only [Act.put, List.setIfInBounds_toArray, List.set_cons_zero, List.set_cons_succ]
    refine wpX_one (i := 9) rfl (by kernel_rfl) rfl ?_
    intro K hK
    go_simp
    refine hK _ _ (CQ.out _ (by (repeat (first | exact Below.refl _ _ | refine Below.drew ?_ | refine Below.alloc ?_ (by simp) _)))) ?_
    have hC := CQ.out _ (show Below wq.heap.size wq (wq.alloc (.cells #[.bool x0, .int .i64 x1, .int .i64 x2, .int .i64 x3, .bool x4, .int .i64 x5] 125)).drew from ((Below.refl _ _).alloc (Nat.le_refl _) _).drew)
    clear hK K
    try simp only [Act.put, List.setIfInBounds_toArray, List.set_cons_zero, List.set_cons_succ]
    refine wpX_rest (t := []) (l := []) rfl (by kernel_rfl) (by kernel_rfl) ?_
    clear hC
    obtain ⟨W5, hW5⟩ : ∃ W5, W5 = (wq.alloc (.cells #[.bool x0, .int .i64 x1, .int .i64 x2, .int .i64 x3, .bool x4, .int .i64 x5] 125)).drew := ⟨_, rfl⟩
    have b5 : Below wq.heap.size wq W5 := by rw [hW5]; exact ((Below.refl _ _).alloc (Nat.le_refl _) _).drew
    have P5 := Lib.hid (P3.out.below b5)
    have F5 := Lib.hid (F3.out.trans (Fs.of_below b5))
    have KD5 := Lib.hid (K3.out.below b5)
    have KP5 := Lib.hid (show CellsAt W5 wq.heap.size [.bool x0, .int .i64 x1, .int .i64 x2, .int .i64 x3, .bool x4, .int .i64 x5] by rw [hW5]; exact (CellsAt.new wq [.bool x0, .int .i64 x1, .int .i64 x2, .int .i64 x3, .bool x4, .int .i64 x5] 125).below (Below.refl _ _).drew)
    have HZ5 := Lib.hid (show w.heap.size + 2 ≤ W5.heap.size from Nat.le_trans HZQ.out b5.size)
    have HW5 := Lib.hid hW5.symm
    clear b5 hW5
    rw [HW5.out]
    have hkd0 := KD5.out.get 0 _ rfl
    have hkd1 := KD5.out.get 1 _ rfl
    have CD := Lib.hid (show ∀ W, Below W5.heap.size W5 W → (W.cell? ⟨b, 6, none⟩ = some (.slice (some ⟨g, 0, none⟩) S.wire.length wc) ∧ W.cell? ⟨w.heap.size + 1, 1, none⟩ = some (.int .i64 a)) from fun W h => ⟨(P5.out.below h).get.2.2.2.1, (KD5.out.below h).get 1 _ rfl⟩)
    have gb : ¬ g = b := fun e => P5.out.hold.ne_box (i := 4) rfl (by rw [e]; rfl)
    have gd : ¬ g = w.heap.size + 1 := fun e => by
      have := HL.out g ⟨5, rfl⟩
      omega
    have gp : ¬ g = wq.heap.size := fun e => by
      have := HL.out g ⟨5, rfl⟩
      have := HZQ.out
      omega
    have hwr : IntKind.i64.wrap ((a : Int) + 1) = (a : Int) + 1 := IntWalk.i64_in _ (by omega)
    go_wp2_with fail
    refine wpX_start (fun W => W.cell? ⟨b, 6, none⟩ = some (.slice (some ⟨g, 0, none⟩) S.wire.length wc) ∧ W.cell? ⟨w.heap.size + 1, 1, none⟩ = some (.int .i64 a)) [13] (by kernel_rfl) ?_
    have hC := CD.out W5.drew (Below.refl W5.heap.size W5).drew
    refine wpX_free (i := 0) (v := ?_) rfl (by kernel_rfl) (fun _ _ _ h => h) rfl (fun w' => ?_) ?_
    rotate_left
    · go_simp; try with_reducible rfl
    try simp only [Act.put, List.setIfInBounds_toArray, List.set_cons_zero, List.set_cons_succ]
    refine wpX_free (i := 1) (v := ?_) rfl (by kernel_rfl) (fun _ _ _ h => h) rfl (fun w' => ?_) ?_
    rotate_left
    · go_simp; try with_reducible rfl
    try simp only [Act.put, List.setIfInBounds_toArray, List.set_cons_zero, List.set_cons_succ]
    refine wpX_free (i := 2) (v := ?_) rfl (by kernel_rfl) (fun _ _ _ h => h) rfl (fun w' => ?_) ?_
    rotate_left
    · go_simp; try with_reducible rfl
    try simp only [Act.put, List.setIfInBounds_toArray, List.set_cons_zero, List.set_cons_succ]
    refine wpX_free (i := 3) (v := ?_) rfl (by kernel_rfl) (fun _ _ _ h => h) rfl (fun w' => ?_) ?_
    rotate_left
    · go_simp; try with_reducible rfl
    try simp only [Act.put, List.setIfInBounds_toArray, List.set_cons_zero, List.set_cons_succ]
    refine wpX_load (i := 4) (v := ?_) rfl (by kernel_rfl) (fun _ _ _ h => h) hC rfl (fun w' hw' => ?_) ?_
    rotate_left
    · obtain ⟨k1, k2⟩ := hw'; go_simp; try with_reducible rfl
    try simp only [Act.put, List.setIfInBounds_toArray, List.set_cons_zero, List.set_cons_succ]
    refine wpX_free (i := 5) (v := ?_) rfl (by kernel_rfl) (fun _ _ _ h => h) rfl (fun w' => ?_) ?_
    rotate_left
    · go_simp; try with_reducible rfl
    try simp only [Act.put, List.setIfInBounds_toArray, List.set_cons_zero, List.set_cons_succ]
    refine wpX_load (i := 6) (v := ?_) rfl (by kernel_rfl) (fun _ _ _ h => h) hC rfl (fun w' hw' => ?_) ?_
    rotate_left
    · obtain ⟨k1, k2⟩ := hw'; go_simp; try with_reducible rfl
    try simp only [Act.put, List.setIfInBounds_toArray, List.set_cons_zero, List.set_cons_succ]
    refine wpX_free (i := 7) (v := ?_) rfl (by kernel_rfl) (fun _ _ _ h => h) rfl (fun w' => ?_) ?_
    rotate_left
    · go_simp; try with_reducible rfl
    try simp only [Act.put, List.setIfInBounds_toArray, List.set_cons_zero, List.set_cons_succ]
    refine wpX_load (i := 8) (v := ?_) rfl (by kernel_rfl) (fun _ _ _ h => h) hC rfl (fun w' hw' => ?_) ?_
    rotate_left
    · obtain ⟨k1, k2⟩ := hw'; go_simp; try with_reducible rfl
    try simp only [Act.put, List.setIfInBounds_toArray, List.set_cons_zero, List.set_cons_succ]
    refine wpX_free (i := 9) (v := ?_) rfl (by kernel_rfl) (fun _ _ _ h => h) rfl (fun w' => ?_) ?_
    rotate_left
    · go_simp; try with_reducible rfl
    try simp only [Act.put, List.setIfInBounds_toArray, List.set_cons_zero, List.set_cons_succ]
    refine wpX_one (i := 10) rfl (by kernel_rfl) rfl ?_
    intro K hK
    go_simp
    go_at_call 87
    refine (DeleteW_any 0 _ (P5.out.below (Below.refl W5.heap.size W5).drew).ow HAL.out (by have := HWL.out; omega)).mono ?_
    rintro e w6 ⟨rfl, o6, g6⟩
    have PD := P5.out.below (Below.refl W5.heap.size W5).drew
    have n6 := grown_at g6 PD.hold.lt (PD.hold.ne_box (i := 4) rfl) 6
    have hC : w6.cell? ⟨b, 6, none⟩ = some (.slice (some ⟨g, 0, none⟩) S.wire.length wc) ∧ w6.cell? ⟨w.heap.size + 1, 1, none⟩ = some (.int .i64 a) := by
      refine ⟨n6.1.trans PD.get.2.2.2.1, ?_⟩
      have h1 := (KD5.out.below (Below.refl W5.heap.size W5).drew)
      exact (grown_at g6 h1.1 (by simp; exact gd) 1).1.trans (h1.get 1 _ rfl)
    have f6 := n6.2.trans (PD.fz 6)
    have c6 := hC.1
    have P6 := PD.part (S' := { S with wire := S.wire.eraseIdx a }) 4 6 (c' := FPacket.ch (.slice (some ⟨g, 0, none⟩) (S.wire.length - 1) wc) (S.wire.eraseIdx a)) rfl rfl rfl (by decide) g6 o6 (m := w.heap.size) (by have := HZ5.out; show w.heap.size ≤ W5.heap.size; omega) (fun x hx => .inl hx) PD.len PD.pos
    have F6 := ((F5.out.trans (Fs.of_below (Below.refl W5.heap.size W5).drew)).trans (Fs.of_grown (S := B) g6 (fun k hk => HB.out k ⟨5, by rw [← hk]; rfl⟩))).set (a := ⟨b, 0 + 6, none⟩) (HB.out b ⟨0, rfl⟩) (.slice (some ⟨g, 0, none⟩) (S.wire.length - 1) wc)
    have KP6 := ((KP5.out.below (Below.refl W5.heap.size W5).drew).fs (S := fun k => some g = some k) (Fs.of_grown g6 (fun k hk => hk)) (fun h => gp (Option.some.inj h)))
    refine hK _ _ hC ?_
    clear hK K
    have P6 := Lib.hid P6
    have F6 := Lib.hid F6
    have KP6 := Lib.hid (KP6.fs (S := fun k => k = b) (Fs.set (S := fun k => k = b) (Fs.refl _ _) (a := ⟨b, 0 + 6, none⟩) rfl (.slice (some ⟨g, 0, none⟩) (S.wire.length - 1) wc)) (fun h => by have := HL.out b ⟨0, rfl⟩; have := HZQ.out; omega))
    have KD6 := Lib.hid (((KD5.out.below (Below.refl W5.heap.size W5).drew).fs (S := fun k => some g = some k) (Fs.of_grown g6 (fun k hk => hk)) (fun h => gd (Option.some.inj h))).fs (S := fun k => k = b) (Fs.set (S := fun k => k = b) (Fs.refl _ _) (a := ⟨b, 0 + 6, none⟩) rfl (.slice (some ⟨g, 0, none⟩) (S.wire.length - 1) wc)) (fun h => by have := HL.out b ⟨0, rfl⟩; omega))
    clear n6 o6 g6 PD
    try simp only [Act.put, List.setIfInBounds_toArray, List.set_cons_zero, List.set_cons_succ]
    refine wpX_free (i := 11) (v := ?_) rfl (by kernel_rfl) (fun _ _ _ h => h) rfl (fun w' => ?_) ?_
    rotate_left
    · go_simp; try with_reducible rfl
    try simp only [Act.put, List.setIfInBounds_toArray, List.set_cons_zero, List.set_cons_succ]
    refine wpX_free (i := 12) (v := ?_) rfl (by kernel_rfl) (fun _ _ _ h => h) rfl (fun w' => ?_) ?_
    rotate_left
    · go_simp; try with_reducible rfl
    try simp only [Act.put, List.setIfInBounds_toArray, List.set_cons_zero, List.set_cons_succ]
    refine wpX_rest (t := [13]) (l := [_]) rfl (by kernel_rfl) (by kernel_rfl) ?_
    clear hC
    obtain ⟨W7, hW7⟩ : ∃ W7, W7 = w6.setCell ⟨b, 6, none⟩ (.slice (some ⟨g, 0, none⟩) (S.wire.length - 1) wc) := ⟨_, rfl⟩
    have P7 := Lib.hid (show PlIs W7 b 0 (Bm B w.heap.size) { S with wire := S.wire.eraseIdx a } vl vr ve vh (.slice (some ⟨g, 0, none⟩) (S.wire.length - 1) wc) vo by rw [hW7]; exact P6.out)
    have F7 := Lib.hid (show Fs B w W7 by rw [hW7]; exact F6.out)
    have KP7 := Lib.hid (show CellsAt W7 wq.heap.size [.bool x0, .int .i64 x1, .int .i64 x2, .int .i64 x3, .bool x4, .int .i64 x5] by rw [hW7]; exact KP6.out)
    have KD7 := Lib.hid (show CellsAt W7 (w.heap.size + 1) [.int .i64 5, .int .i64 a] by rw [hW7]; exact KD6.out)
    have HW7 := Lib.hid hW7.symm
    have z7 := KD6.out.get 0 _ rfl
    clear hW7 P6 F6 KP6 hkd0 hkd1
    simp [go_sem] at z7
    go_wp2
    rw [HW7.out]
    go_ret
    exact DoP.mk rfl P7.out F7.out
/-- a valid deed is done -/
theorem PlDo_any {ad : Option Addr} {xss : List (List Int)} {m c b sm wk n : Nat} {B : Nat → Prop} {S : PS} {vl vr ve vh vw vo : Value} (t bs : Int) (w : World) (P : PlIs w b 0 B S vl vr ve vh vw vo) (hI : PInv n sm wk S) (hs : 1 ≤ sm ∧ sm ≤ 8) (hwk : 1 ≤ wk ∧ wk ≤ 4) (hc : SlII w (.slice ad m c) xss) (hch : chainOk n t xss = true) (hbs : 0 ≤ bs ∧ bs ≤ 999999992) (k a0 : Int) (hd : deedOk k a0 = true) :
    Calls Try.prog 53 #[.pointer (some ⟨b, 0, none⟩), .agg #[.int .i64 n, .int .i64 t, .slice ad m c, .int .i64 bs, .int .i64 sm, .int .i64 wk], .agg #[.int .i64 k, .int .i64 a0]] w (DoP b B (doS t xss bs sm wk (k, a0) S) w) := by
  unfold deedOk at hd
  rw [Bool.and_eq_true, Bool.and_eq_true] at hd
  obtain ⟨hk, h1, _⟩ := hd
  obtain ⟨h2, h3⟩ := inR_iff.1 h1
  obtain ⟨a, rfl⟩ := Int.eq_ofNat_of_zero_le h2
  have ha : a ≤ 999 := by omega
  rcases kind_cases hk with rfl | rfl | rfl | rfl | rfl | rfl | rfl | rfl | rfl | rfl
  · exact PlDo_1 t bs w P hI hs hwk hc hch hbs ha
  · exact PlDo_2 t bs w P hI hs hwk hc hch hbs ha
  · exact PlDo_3 t bs w P hI hs hwk hc hch hbs ha
  · exact PlDo_4 t bs w P hI hs hwk hc hch hbs ha
  · exact PlDo_5 t bs w P hI hs hwk hc hch hbs ha
  · exact PlDo_6 t bs w P hI hs hwk hc hch hbs ha
  · exact PlDo_7 t bs w P hI hs hwk hc hch hbs ha
  · exact PlDo_8 t bs w P hI hs hwk hc hch hbs ha
  · exact PlDo_9 t bs w P hI hs hwk hc hch hbs ha
  · exact PlDo_10 t bs w P hI hs hwk hc hch hbs ha
end Go.Proofs.Ytijpkcdalmlaiaa
