/-
  The program's plant: deeds, but those with packets. With it: The program's plant: a sample is handed out. The program's plant: a crash.
-/
import Derived.Test.YtijpkcdalmlaiaaZRowFnPlantPackets29
import Derived.Test.YtijpkcdalmlaiaaZRowFnPlantPackets23
set_option linter.unusedVariables false
set_option linter.unusedSimpArgs false
namespace Go.Proofs.Ytijpkcdalmlaiaa
open Go.RowKit Go.Sort

set_option maxRecDepth 100000 in
set_option maxHeartbeats 4000000 in
theorem PlOut_any {b sm wk n : Nat} {B : Nat → Prop} {S : PS} {vl vr ve vh vw vo : Value} (w : World) (P : PlIs w b 0 B S vl vr ve vh vw vo) (hI : PInv n sm wk S) (hs : 1 ≤ sm ∧ sm ≤ 8) :
    Calls Try.prog 89 #[.pointer (some ⟨b, 0, none⟩)] w (DoP b B (outS sm S) w) := by
  obtain ⟨hs1, hs8⟩ := hs
  have HD := Lib.hid (hI.plOk hs1 hs8)
  obtain ⟨d1, d2, d3, d4, d5⟩ := hI.desk.ok
  replace d1 : S.l.length = sm := d1
  replace d4 : 0 ≤ S.q := d4
  replace d5 : S.q ≤ (sm : Int) := d5
  have hol : (S.out.length : Int) = S.q := hI.outs
  have hrl := hI.len
  have HOK := Lib.hid (hI.plOk' hs1 hs8)
  have HB := Lib.hid P.ownB
  have HL := Lib.hid P.ownLt
  obtain ⟨j, hj⟩ : ∃ j : Nat, S.q = (j : Int) := ⟨S.q.toNat, by omega⟩
  obtain ⟨gl, cl, gr, cr, rfl, rfl, _⟩ := P.desk
  obtain ⟨oa, oc, rfl, _, _⟩ := P.oo'.shape
  obtain ⟨⟨_, q1, q2, _⟩, _, _, _, q7⟩ := P.get
  rw [hj] at q2
  have P0 := Lib.hid P
  have D1 := Lib.hid d1
  have hbl := P.blt
  have RL := Lib.hid (show S.r.length = S.l.length from P.len)
  clear P hI
  by_cases he : S.q = (sm : Int)
  · have t1 : ((j : Int) == (S.l.length : Int)) = true := by rw [beq_iff_eq, d1]; omega
    have HR := Lib.hid (show outS sm S = (4, S) by unfold outS; rw [if_pos (.inl he)])
    clear he d1 d2 d3 d4 d5 hol hj
    go_enter Try.func89, Try.ntmps89
    go_wp2
    go_ret
    exact DoP.mk HR.out (P0.out.mono (fun k hk => .inl hk)) (Fs.refl _ _)
  · have hjl : j < S.l.length := by omega
    have hjr : j < S.r.length := by rw [RL.out]; exact hjl
    have t1 : ((j : Int) == (S.l.length : Int)) = false := by rw [beq_eq_false_iff_ne]; omega
    have y0 := P0.out.or_.cell hjr
    have GY := Lib.hid (show S.r.getD S.q.toNat 0 = S.r[j] by rw [hj, Int.toNat_natCast]; simp [hjr])
    generalize S.r[j] = y at y0 GY
    have i0 : (0 : Int) ≤ (j : Int) := by omega
    have i1 : (j : Int) < (S.l.length : Int) := by omega
    have Y0 := Lib.hid y0
    have HJ := Lib.hid hj
    by_cases hy : y = -1
    · have t2 : (y == (-1 : Int)) = true := by simp [hy]
      have HR := Lib.hid (show outS sm S = (4, S) by unfold outS; rw [if_pos (.inr (GY.out.trans hy))])
      clear he d1 d2 d3 d4 d5 hol hj hy
      go_enter Try.func89, Try.ntmps89
      go_wp2
      go_ret
      exact DoP.mk HR.out (P0.out.mono (fun k hk => .inl hk)) (Fs.refl _ _)
    · have t2 : (y == (-1 : Int)) = false := by simp [hy]
      have HR := Lib.hid (show outS sm S = (0, (fun T : PS => { T with sy := T.recs.length }) (writeS { S with out := S.out ++ [y] } (3, (j : Int), 0))) by
        unfold outS; rw [if_neg (fun h => h.elim he (fun h => hy (GY.out.symm.trans h))), GY.out, HJ.out])
      have hln : S.out.length + [y].length ≤ 16777216 := by simp; omega
      have hjs : j < sm := by omega
      have HPO := Lib.hid (HOK.out (S.out ++ [y]) (by simp; omega))
      clear he d1 d2 d3 d4 d5 hol hj hy
      go_enter Try.func89, Try.ntmps89
      go_wp2_with fail
      clear q1 q2 q7 y0
      have b1 : Below w.heap.size w (w.alloc (.cells #[.int .i64 y] 2)).drew := ((Below.refl _ _).alloc (Nat.le_refl _) _).drew
      obtain ⟨W1, hW1⟩ : ∃ W1, W1 = (w.alloc (.cells #[.int .i64 y] 2)).drew := ⟨_, rfl⟩
      rw [← hW1] at b1
      have P1 := Lib.hid (P0.out.below b1)
      have F1 := Lib.hid (Fs.of_below (S := B) b1)
      have HZ1 := Lib.hid b1.size
      have RD := Lib.hid (show Rd W1 (some ⟨w.heap.size, 0, none⟩) (FI.encs [y]) by
        rw [hW1]
        exact (rd_new w #[.int .i64 y] 2).below (Below.refl _ _).drew)
      have CW := Lib.hid (show ∀ W, Below w.heap.size w W → (W.cell? ⟨b, 7, none⟩ = some (.slice oa S.out.length oc) ∧ W.cell? ⟨b, 1, none⟩ = some (.slice (some ⟨gr, 0, none⟩) S.l.length cr) ∧ W.cell? ⟨gr, j, none⟩ = some (.int .i64 y)) from fun W h => by
        obtain ⟨⟨_, q1, _, _⟩, _, _, _, q7⟩ := (P0.out.below h).get
        exact ⟨q7, q1, (h.cell (p := ⟨gr, j, none⟩) (cell_lt Y0.out)).trans Y0.out⟩)
      have HW1 := Lib.hid hW1.symm
      have B1 := Lib.hid b1
      clear b1 hW1
      refine wpX_start (fun W => W.cell? ⟨b, 7, none⟩ = some (.slice oa S.out.length oc) ∧ W.cell? ⟨b, 1, none⟩ = some (.slice (some ⟨gr, 0, none⟩) S.l.length cr) ∧ W.cell? ⟨gr, j, none⟩ = some (.int .i64 y)) [14, 15, 16, 17] (by kernel_rfl) ?_
      have hC := CW.out w.drew (Below.refl w.heap.size w).drew
      refine wpX_free (i := 0) (v := ?_) rfl (by kernel_rfl) (fun _ _ _ h => h) rfl (fun w' => ?_) ?_
      rotate_left
      · go_simp; try with_reducible rfl
      try simp only [Act.put, List.setIfInBounds_toArray, List.set_cons_zero, List.set_cons_succ]
      refine wpX_free (i := 1) (v := ?_) rfl (by kernel_rfl) (fun _ _ _ h => h) rfl (fun w' => ?_) ?_
      rotate_left
      · go_simp; try with_reducible rfl
      try simp only [Act.put, List.setIfInBounds_toArray, List.set_cons_zero, List.set_cons_succ]
      refine wpX_free (i := 2) (v := ?_) rfl (by kernel_rfl) (fun _ _ _ h => h) rfl (fun w' => ?_) ?_
      rotate_left
      · go_simp; try with_reducible rfl
      try simp only [Act.put, List.setIfInBounds_toArray, List.set_cons_zero, List.set_cons_succ]
      refine wpX_free (i := 3) (v := ?_) rfl (by kernel_rfl) (fun _ _ _ h => h) rfl (fun w' => ?_) ?_
      rotate_left
      · go_simp; try with_reducible rfl
      try simp only [Act.put, List.setIfInBounds_toArray, List.set_cons_zero, List.set_cons_succ]
      refine wpX_load (i := 4) (v := ?_) rfl (by kernel_rfl) (fun _ _ _ h => h) hC rfl (fun w' hw' => ?_) ?_
      rotate_left
      · obtain ⟨k1, k2, k3⟩ := hw'; go_simp; try with_reducible rfl
      try simp only [Act.put, List.setIfInBounds_toArray, List.set_cons_zero, List.set_cons_succ]
      refine wpX_free (i := 5) (v := ?_) rfl (by kernel_rfl) (fun _ _ _ h => h) rfl (fun w' => ?_) ?_
      rotate_left
      · go_simp; try with_reducible rfl
      try simp only [Act.put, List.setIfInBounds_toArray, List.set_cons_zero, List.set_cons_succ]
      refine wpX_free (i := 6) (v := ?_) rfl (by kernel_rfl) (fun _ _ _ h => h) rfl (fun w' => ?_) ?_
      rotate_left
      · go_simp; try with_reducible rfl
      try simp only [Act.put, List.setIfInBounds_toArray, List.set_cons_zero, List.set_cons_succ]
      refine wpX_free (i := 7) (v := ?_) rfl (by kernel_rfl) (fun _ _ _ h => h) rfl (fun w' => ?_) ?_
      rotate_left
      · go_simp; try with_reducible rfl
      try simp only [Act.put, List.setIfInBounds_toArray, List.set_cons_zero, List.set_cons_succ]
      refine wpX_free (i := 8) (v := ?_) rfl (by kernel_rfl) (fun _ _ _ h => h) rfl (fun w' => ?_) ?_
      rotate_left
      · go_simp; try with_reducible rfl
      try simp only [Act.put, List.setIfInBounds_toArray, List.set_cons_zero, List.set_cons_succ]
      refine wpX_load (i := 9) (v := ?_) rfl (by kernel_rfl) (fun _ _ _ h => h) hC rfl (fun w' hw' => ?_) ?_
      rotate_left
      · obtain ⟨k1, k2, k3⟩ := hw'; go_simp; try with_reducible rfl
      try simp only [Act.put, List.setIfInBounds_toArray, List.set_cons_zero, List.set_cons_succ]
      refine wpX_free (i := 10) (v := ?_) rfl (by kernel_rfl) (fun _ _ _ h => h) rfl (fun w' => ?_) ?_
      rotate_left
      · go_simp; try with_reducible rfl
      try simp only [Act.put, List.setIfInBounds_toArray, List.set_cons_zero, List.set_cons_succ]
      refine wpX_free (i := 11) (v := ?_) rfl (by kernel_rfl) (fun _ _ _ h => h) rfl (fun w' => ?_) ?_
      rotate_left
      · go_simp; try with_reducible rfl
      try simp only [Act.put, List.setIfInBounds_toArray, List.set_cons_zero, List.set_cons_succ]
      refine wpX_load (i := 12) (v := ?_) rfl (by kernel_rfl) (fun _ _ _ h => h) hC rfl (fun w' hw' => ?_) ?_
      rotate_left
      · obtain ⟨k1, k2, k3⟩ := hw'; go_simp; try with_reducible rfl
      try simp only [Act.put, List.setIfInBounds_toArray, List.set_cons_zero, List.set_cons_succ]
      refine wpX_one (i := 13) rfl (by kernel_rfl) rfl ?_
      intro K hK
      go_simp
      rw [HW1.out]
      have hC := CW.out W1 B1.out
      refine hK _ _ hC ?_
      clear hK K
      try simp only [Act.put, List.setIfInBounds_toArray, List.set_cons_zero, List.set_cons_succ]
      refine wpX_rest (t := [14, 15, 16, 17]) (l := [_, _, _, _]) rfl (by kernel_rfl) (by kernel_rfl) ?_
      clear hC
      refine Flat.append_at FI W1 (.tmp 32) (.tmp 41) rfl rfl (base := 0) (v := .slice oa S.out.length oc) (xs := S.out) (ys := [y]) rfl P1.out.oo' rfl RD.out hln (Nat.zero_le _) ?_
      intro v' w4 o4 g4 at4
      obtain ⟨na, nc, hv', _, _⟩ := o4.shape
      simp only [List.length_append, List.length_cons, List.length_nil, Nat.zero_add] at hv'
      have e4 := grown_at g4 P1.out.hold.lt (P1.out.hold.ne_box (i := 5) rfl) 7
      have c4 := e4.1.trans P1.out.get.2.2.2.2
      have f4 := e4.2.trans (P1.out.fz 7)
      have P4 := P1.out.part (S' := { S with out := S.out ++ [y] }) 5 7 (c' := FI.ch v' (S.out ++ [y])) rfl rfl rfl (by decide) g4 o4 (m := w.heap.size) HZ1.out (at_of at4) P1.out.len P1.out.pos
      have F4 := F1.out.trans ((Fs.of_grown (S := B) g4 (fun k hk => HB.out k (P1.out.row (i := 5) rfl k hk))).set (a := ⟨b, 0 + 7, none⟩) (HB.out b ⟨0, rfl⟩) v')
      subst hv'
      have P4 := Lib.hid P4
      have F4 := Lib.hid F4
      clear o4 g4 at4 e4
      obtain ⟨W5, hW5⟩ : ∃ W5, W5 = w4.setCell ⟨b, 7, none⟩ (.slice na (S.out.length + 1) nc) := ⟨_, rfl⟩
      have P5 := Lib.hid (show PlIs W5 b 0 (Bm B w.heap.size) { S with out := S.out ++ [y] } (.slice (some ⟨gl, 0, none⟩) S.l.length cl) (.slice (some ⟨gr, 0, none⟩) S.l.length cr) ve vh vw (.slice na (S.out.length + 1) nc) by rw [hW5]; exact P4.out)
      have F5 := Lib.hid (show Fs B w W5 by rw [hW5]; exact F4.out)
      have q25 := P4.out.get.1.2.2.1
      have HW5 := Lib.hid hW5.symm
      clear hW5 P4 F4
      go_wp2_with fail
      rw [HW5.out]
      refine (PlWrite_any 3 0 _ P5.out HPO.out (by omega) hjs).mono ?_
      rintro e w6 ⟨rfl, ve6, P6, F6⟩
      have P6 := Lib.hid (P6.mono (Bm.bm (n := w.heap.size) (Nat.le_refl _) (by have := F5.out.size; omega)))
      have F6 := Lib.hid (F5.out.bm F6 (Nat.le_refl _))
      generalize writeS { S with out := S.out ++ [y] } (3, (j : Int), 0) = T at HR P6
      obtain ⟨ea, ec, rfl, _, _⟩ := P6.out.oe.shape
      have q3 := P6.out.get.1.2.2.2
      have f4 := P6.out.fz 4
      have q4 := P6.out.get.2.1
      have P7 := Lib.hid (P6.out.number T.recs.length)
      have F7 := Lib.hid (F6.out.set (a := ⟨b, 0 + 4, none⟩) (HB.out b ⟨0, rfl⟩) (.int .i64 T.recs.length))
      go_wp2
      go_ret
      exact DoP.mk HR.out P7.out F7.out
end Go.Proofs.Ytijpkcdalmlaiaa
namespace Go.Proofs.Ytijpkcdalmlaiaa
open Go.RowKit Go.Sort

set_option maxRecDepth 100000 in
set_option maxHeartbeats 4000000 in
theorem PlCrash_any {ad : Option Addr} {m c b sm wk n : Nat} {B : Nat → Prop} {S : PS} {vl vr ve vh vw vo : Value} (t bs : Int) (w : World) (P : PlIs w b 0 B S vl vr ve vh vw vo) (hI : PInv n sm wk S) (hs : 1 ≤ sm ∧ sm ≤ 8) (hn : n ≤ 6) :
    Calls Try.prog 90 #[.pointer (some ⟨b, 0, none⟩), .agg #[.int .i64 n, .int .i64 t, .slice ad m c, .int .i64 bs, .int .i64 sm, .int .i64 wk]] w fun e w' => e = .returned (.tuple #[]) ∧ (∃ vl vr ve vh vw vo, PlIs w' b 0 (Bm B w.heap.size) (crashS sm S) vl vr ve vh vw vo) ∧ Fs B w w' := by
  obtain ⟨hs1, hs8⟩ := hs
  have hrl := hI.len
  have hsy := hI.sy
  have hrec := Lib.hid hI.recs
  obtain ⟨_, l0, r0, hla, hcr⟩ := hI.crash
  have HLA := Lib.hid hla
  have HR := Lib.hid hcr
  have hdg := (learnAll_g (deskG_new n sm) (fun x hx => hI.recs x (List.mem_of_mem_take hx)) hla).ok
  have hl0 : l0.length = sm := hdg.1
  have hr0 : r0.length = sm := hdg.2.1
  have b1 : Below w.heap.size w (w.alloc (.cells #[.int .i64 n, .int .i64 t, .slice ad m c, .int .i64 bs, .int .i64 sm, .int .i64 wk] 35)) := (Below.refl _ _).alloc (Nat.le_refl _) _
  have K1 := Lib.hid (CellsAt.new w [.int .i64 n, .int .i64 t, .slice ad m c, .int .i64 bs, .int .i64 sm, .int .i64 wk] 35)
  obtain ⟨W1, hW1⟩ : ∃ W1, W1 = w.alloc (.cells #[.int .i64 n, .int .i64 t, .slice ad m c, .int .i64 bs, .int .i64 sm, .int .i64 wk] 35) := ⟨_, rfl⟩
  rw [show (w.alloc (.cells ([.int .i64 n, .int .i64 t, .slice ad m c, .int .i64 bs, .int .i64 sm, .int .i64 wk] : List Value).toArray 35)) = W1 from hW1.symm] at K1
  rw [← hW1] at b1
  have P1 := Lib.hid (P.below b1)
  have B1 := Lib.hid b1
  have HB := Lib.hid P.ownB
  have HL := Lib.hid P.ownLt
  have F1 := Lib.hid (Fs.of_below (S := B) b1)
  have HZ1 := Lib.hid (show W1.heap.size = w.heap.size + 1 by rw [hW1]; simp)
  have HW1 := Lib.hid hW1.symm
  obtain ⟨ea, ec, rfl, hec, hec2⟩ := P.oe.shape
  have P0 := Lib.hid P
  have hbl := P1.out.blt
  have s0 : (0 : Int) ≤ (S.sy : Int) := by omega
  have s1 : (S.sy : Int) ≤ (ec : Int) := by omega
  have CW := Lib.hid (show ∀ W, Below W1.heap.size W1 W → (W.cell? ⟨b, 3, none⟩ = some (.slice ea S.recs.length ec) ∧ W.cell? ⟨b, 4, none⟩ = some (.int .i64 S.sy)) from fun W h => by
    obtain ⟨⟨_, _, _, q3⟩, q4, _⟩ := (P1.out.below h).get
    exact ⟨q3, q4⟩)
  have HT := Lib.hid (show (S.recs.take S.sy).length = S.sy by simp; omega)
  have HSY := Lib.hid hsy
  clear P b1 hW1 hI hla hcr hdg hsy
  go_enter Try.func90, Try.ntmps90
  go_wp2_with fail
  rw [HW1.out]
  refine wpX_start (fun W => W.cell? ⟨b, 3, none⟩ = some (.slice ea S.recs.length ec) ∧ W.cell? ⟨b, 4, none⟩ = some (.int .i64 S.sy)) [10, 11, 12, 13] (by kernel_rfl) ?_
  have hC := CW.out W1.drew (Below.refl W1.heap.size W1).drew
  refine wpX_free (i := 0) (v := ?_) rfl (by kernel_rfl) (fun _ _ _ h => h) rfl (fun w' => ?_) ?_
  rotate_left
  · go_simp; try with_reducible rfl
  try simp only [Act.put, List.setIfInBounds_toArray, List.set_cons_zero, List.set_cons_succ]
  refine wpX_free (i := 1) (v := ?_) rfl (by kernel_rfl) (fun _ _ _ h => h) rfl (fun w' => ?_) ?_
  rotate_left
  · go_simp; try with_reducible rfl
  try simp only [Act.put, List.setIfInBounds_toArray, List.set_cons_zero, List.set_cons_succ]
  refine wpX_free (i := 2) (v := ?_) rfl (by kernel_rfl) (fun _ _ _ h => h) rfl (fun w' => ?_) ?_
  rotate_left
  · go_simp; try with_reducible rfl
  try simp only [Act.put, List.setIfInBounds_toArray, List.set_cons_zero, List.set_cons_succ]
  refine wpX_free (i := 3) (v := ?_) rfl (by kernel_rfl) (fun _ _ _ h => h) rfl (fun w' => ?_) ?_
  rotate_left
  · go_simp; try with_reducible rfl
  try simp only [Act.put, List.setIfInBounds_toArray, List.set_cons_zero, List.set_cons_succ]
  refine wpX_load (i := 4) (v := ?_) rfl (by kernel_rfl) (fun _ _ _ h => h) hC rfl (fun w' hw' => ?_) ?_
  rotate_left
  · obtain ⟨k1, k2⟩ := hw'; go_simp; try with_reducible rfl
  try simp only [Act.put, List.setIfInBounds_toArray, List.set_cons_zero, List.set_cons_succ]
  refine wpX_free (i := 5) (v := ?_) rfl (by kernel_rfl) (fun _ _ _ h => h) rfl (fun w' => ?_) ?_
  rotate_left
  · go_simp; try with_reducible rfl
  try simp only [Act.put, List.setIfInBounds_toArray, List.set_cons_zero, List.set_cons_succ]
  refine wpX_free (i := 6) (v := ?_) rfl (by kernel_rfl) (fun _ _ _ h => h) rfl (fun w' => ?_) ?_
  rotate_left
  · go_simp; try with_reducible rfl
  try simp only [Act.put, List.setIfInBounds_toArray, List.set_cons_zero, List.set_cons_succ]
  refine wpX_free (i := 7) (v := ?_) rfl (by kernel_rfl) (fun _ _ _ h => h) rfl (fun w' => ?_) ?_
  rotate_left
  · go_simp; try with_reducible rfl
  try simp only [Act.put, List.setIfInBounds_toArray, List.set_cons_zero, List.set_cons_succ]
  refine wpX_load (i := 8) (v := ?_) rfl (by kernel_rfl) (fun _ _ _ h => h) hC rfl (fun w' hw' => ?_) ?_
  rotate_left
  · obtain ⟨k1, k2⟩ := hw'; go_simp; try with_reducible rfl
  try simp only [Act.put, List.setIfInBounds_toArray, List.set_cons_zero, List.set_cons_succ]
  refine wpX_free (i := 9) (v := ?_) rfl (by kernel_rfl) (fun _ _ _ h => h) rfl (fun w' => ?_) ?_
  rotate_left
  · go_simp; try with_reducible rfl
  try simp only [Act.put, List.setIfInBounds_toArray, List.set_cons_zero, List.set_cons_succ]
  refine wpX_rest (t := [10, 11, 12, 13]) (l := [_, _, _, _]) rfl (by kernel_rfl) (by kernel_rfl) ?_
  clear hC
  have P1d := Lib.hid (P1.out.below (Below.refl W1.heap.size W1).drew)
  go_wp2_with fail
  refine (CloneR_any _ (Flat.Sl.take' P1d.out.oe.sl HSY.out) (by rw [HT.out]; have := HSY.out; omega)).mono ?_
  rintro e w2 ⟨v', rfl, o2, b2⟩
  obtain ⟨na, nc, hv', _, _⟩ := o2.shape
  rw [HT.out] at hv'
  have g2 := grown_of_below b2 (Value.slice ea S.recs.length ec).ownBlock
  have e2 := grown_at g2 P1d.out.hold.lt (P1d.out.hold.ne_box (i := 2) rfl) 3
  have c3 := e2.1.trans P1d.out.get.1.2.2.2
  have f3 := e2.2.trans (P1d.out.fz 3)
  have P2 := P1d.out.part (S' := { S with recs := S.recs.take S.sy }) 2 3 (c' := FRecord.ch v' (S.recs.take S.sy)) rfl rfl rfl (by decide) g2 (Flat.Own.lower o2 (Nat.zero_le _)) (m := w.heap.size) (by have := HZ1.out; show w.heap.size ≤ W1.heap.size; omega) (fun x hx => .inr (World.ownsRow.lt o2 x hx).1) P1d.out.len P1d.out.pos
  have F2 := (F1.out.trans ((Fs.of_below (S := B) (Below.refl W1.heap.size W1).drew).trans (Fs.of_below b2))).set (a := ⟨b, 0 + 3, none⟩) (HB.out b ⟨0, rfl⟩) v'
  subst hv'
  have K2 := K1.out.below ((Below.refl W1.heap.size W1).drew.trans b2)
  obtain ⟨W3, hW3⟩ : ∃ W3, W3 = w2.setCell ⟨b, 3, none⟩ (.slice na S.sy nc) := ⟨_, rfl⟩
  have P3 := Lib.hid (show PlIs W3 b 0 (Bm B w.heap.size) { S with recs := S.recs.take S.sy } vl vr (.slice na S.sy nc) vh vw vo by rw [hW3]; exact P2)
  have F3 := Lib.hid (show Fs B w W3 by rw [hW3]; exact F2)
  have K3 := Lib.hid (show CellsAt W3 w.heap.size [.int .i64 n, .int .i64 t, .slice ad m c, .int .i64 bs, .int .i64 sm, .int .i64 wk] by
    rw [hW3]
    exact K2.fs (S := fun k => k = b) (Fs.set (S := fun k => k = b) (Fs.refl _ _) (a := ⟨b, 3, none⟩) rfl _) (fun h => by have := HL.out b ⟨0, rfl⟩; omega))
  have HW3 := Lib.hid hW3.symm
  clear P2 F2 K2 g2 e2 o2 b2 hW3
  go_wp2_with fail
  rw [HW3.out]
  have CW := Lib.hid (show ∀ W, Below W3.heap.size W3 W → (W.cell? ⟨b, 3, none⟩ = some (.slice na S.sy nc) ∧ W.cell? ⟨w.heap.size, 0, none⟩ = some (.int .i64 n) ∧ W.cell? ⟨w.heap.size, 1, none⟩ = some (.int .i64 t) ∧ W.cell? ⟨w.heap.size, 2, none⟩ = some (.slice ad m c) ∧ W.cell? ⟨w.heap.size, 3, none⟩ = some (.int .i64 bs) ∧ W.cell? ⟨w.heap.size, 4, none⟩ = some (.int .i64 sm) ∧ W.cell? ⟨w.heap.size, 5, none⟩ = some (.int .i64 wk)) from fun W h => by
    obtain ⟨⟨_, _, _, q3⟩, _⟩ := (P3.out.below h).get
    have kk := K3.out.below h
    exact ⟨q3, kk.get 0 _ rfl, kk.get 1 _ rfl, kk.get 2 _ rfl, kk.get 3 _ rfl, kk.get 4 _ rfl, kk.get 5 _ rfl⟩)
  refine wpX_start (fun W => W.cell? ⟨b, 3, none⟩ = some (.slice na S.sy nc) ∧ W.cell? ⟨w.heap.size, 0, none⟩ = some (.int .i64 n) ∧ W.cell? ⟨w.heap.size, 1, none⟩ = some (.int .i64 t) ∧ W.cell? ⟨w.heap.size, 2, none⟩ = some (.slice ad m c) ∧ W.cell? ⟨w.heap.size, 3, none⟩ = some (.int .i64 bs) ∧ W.cell? ⟨w.heap.size, 4, none⟩ = some (.int .i64 sm) ∧ W.cell? ⟨w.heap.size, 5, none⟩ = some (.int .i64 wk)) [12] (by kernel_rfl) ?_
  have hC := CW.out W3.drew (Below.refl W3.heap.size W3).drew
  refine wpX_free (i := 0) (v := ?_) rfl (by kernel_rfl) (fun _ _ _ h => h) rfl (fun w' => ?_) ?_
  rotate_left
  · go_simp; try with_reducible rfl
  try simp only [Act.put, List.setIfInBounds_toArray, List.set_cons_zero, List.set_cons_succ]
  refine wpX_load (i := 1) (v := ?_) rfl (by kernel_rfl) (fun _ _ _ h => h) hC rfl (fun w' hw' => ?_) ?_
  rotate_left
  · obtain ⟨k1, k2, k3, k4, k5, k6, k7⟩ := hw'; go_simp; try with_reducible rfl
  try simp only [Act.put, List.setIfInBounds_toArray, List.set_cons_zero, List.set_cons_succ]
  refine wpX_free (i := 2) (v := ?_) rfl (by kernel_rfl) (fun _ _ _ h => h) rfl (fun w' => ?_) ?_
  rotate_left
  · go_simp; try with_reducible rfl
  try simp only [Act.put, List.setIfInBounds_toArray, List.set_cons_zero, List.set_cons_succ]
  refine wpX_free (i := 3) (v := ?_) rfl (by kernel_rfl) (fun _ _ _ h => h) rfl (fun w' => ?_) ?_
  rotate_left
  · go_simp; try with_reducible rfl
  try simp only [Act.put, List.setIfInBounds_toArray, List.set_cons_zero, List.set_cons_succ]
  refine wpX_free (i := 4) (v := ?_) rfl (by kernel_rfl) (fun _ _ _ h => h) rfl (fun w' => ?_) ?_
  rotate_left
  · go_simp; try with_reducible rfl
  try simp only [Act.put, List.setIfInBounds_toArray, List.set_cons_zero, List.set_cons_succ]
  refine wpX_load (i := 5) (v := ?_) rfl (by kernel_rfl) (fun _ _ _ h => h) hC rfl (fun w' hw' => ?_) ?_
  rotate_left
  · obtain ⟨k1, k2, k3, k4, k5, k6, k7⟩ := hw'; go_simp; try with_reducible rfl
  try simp only [Act.put, List.setIfInBounds_toArray, List.set_cons_zero, List.set_cons_succ]
  refine wpX_one (i := 6) rfl (by kernel_rfl) rfl ?_
  intro K hK
  go_simp
  go_at_call 115
  refine (deskAfter_any (xs := S.recs.take S.sy) n t bs wk _ (P3.out.below (Below.refl W3.heap.size W3).drew).oe.sl hs1 hs8 (by omega) (fun x hx => hrec.out x (List.mem_of_mem_take hx))).mono ?_
  rintro e w4 ⟨res, vl', vr', hres, rfl, od4, b4⟩
  rw [show (List.replicate sm (0 : Int), List.replicate sm (-1 : Int), (0 : Int)) = newD sm from rfl, HLA.out] at hres
  subst hres
  have b5 := (Below.refl W3.heap.size W3).drew.trans b4
  have hC := CW.out w4 b5
  refine hK _ _ hC ?_
  clear hK K
  have od4 : DeskO w4 W3.heap.size vl' vr' l0 r0 := od4
  obtain ⟨da, dn, dc, xa, xc, hvl, hvr⟩ := od4.form
  have PN := Lib.hid (P3.out.newDesk S.q b5 od4 (by rw [hl0]; omega))
  have F4 := Lib.hid (F3.out.bm ((Fs.set3b (B := Bm B w.heap.size) (i := 0 + 0) (j := 0 + 1) (k := 0 + 2) (Fs.of_below b5) (.inl (HB.out b ⟨0, rfl⟩)) vl' vr' (.int .i64 S.q))) (Nat.le_refl _))
  have e4 := (P3.out.below b5)
  have g0 := e4.fz 0
  have g1 := e4.fz 1
  have g2 := e4.fz 2
  obtain ⟨⟨q0, q1, q2, _⟩, _⟩ := e4.get
  subst hvl hvr
  unfold deskV
  simp only [Option.getD_some, Option.isSome_some]
  clear od4 b4 b5 e4
  try simp only [Act.put, List.setIfInBounds_toArray, List.set_cons_zero, List.set_cons_succ]
  refine wpX_free (i := 7) (v := ?_) rfl (by kernel_rfl) (fun _ _ _ h => h) rfl (fun w' => ?_) ?_
  rotate_left
  · go_simp; try with_reducible rfl
  try simp only [Act.put, List.setIfInBounds_toArray, List.set_cons_zero, List.set_cons_succ]
  refine wpX_free (i := 8) (v := ?_) rfl (by kernel_rfl) (fun _ _ _ h => h) rfl (fun w' => ?_) ?_
  rotate_left
  · go_simp; try with_reducible rfl
  try simp only [Act.put, List.setIfInBounds_toArray, List.set_cons_zero, List.set_cons_succ]
  refine wpX_free (i := 9) (v := ?_) rfl (by kernel_rfl) (fun _ _ _ h => h) rfl (fun w' => ?_) ?_
  rotate_left
  · go_simp; try with_reducible rfl
  try simp only [Act.put, List.setIfInBounds_toArray, List.set_cons_zero, List.set_cons_succ]
  refine wpX_free (i := 10) (v := ?_) rfl (by kernel_rfl) (fun _ _ _ h => h) rfl (fun w' => ?_) ?_
  rotate_left
  · go_simp; try with_reducible rfl
  try simp only [Act.put, List.setIfInBounds_toArray, List.set_cons_zero, List.set_cons_succ]
  refine wpX_free (i := 11) (v := ?_) rfl (by kernel_rfl) (fun _ _ _ h => h) rfl (fun w' => ?_) ?_
  rotate_left
  · go_simp; try with_reducible rfl
  try simp only [Act.put, List.setIfInBounds_toArray, List.set_cons_zero, List.set_cons_succ]
  refine wpX_rest (t := [12]) (l := [_]) rfl (by kernel_rfl) (by kernel_rfl) ?_
  clear hC
  go_wp2
  exact bodyPost_end (v := .tuple #[]) (by simp [results, Try.results90, go_sem]) rfl ⟨rfl, ⟨_, _, _, _, _, _, by rw [HR.out]; exact PN.out.mono (fun k hk => Bm.bm (n := w.heap.size) (Nat.le_refl _) (by have := F3.out.size; omega) k hk)⟩, F4.out⟩
end Go.Proofs.Ytijpkcdalmlaiaa
namespace Go.Proofs.Ytijpkcdalmlaiaa
open Go.RowKit Go.Sort

theorem DoP.up {b : Nat} {B : Nat → Prop} {R : Int × PS} {w W w' : World} {e : Ending} (h : DoP b B R W e w') (F : Fs B w W) : DoP b B R w e w' := by
  obtain ⟨h1, ⟨vl, vr, ve, vh, vw, vo, h2⟩, h3⟩ := h
  exact ⟨h1, ⟨vl, vr, ve, vh, vw, vo, h2.mono (Bm.mono F.size)⟩, F.trans h3⟩
theorem hasIndexP_any (x : Int) (n : Nat) (w : World) (hn : n ≤ 1000) :
    Calls Try.prog 86 #[.int .i64 x, .int .i64 n] w fun e w' => e = .returned (.bool (inR x 0 ((n : Int) - 1))) ∧ Below w.heap.size w w' := by
  have hw : IntKind.i64.wrap ((n : Int) - 1) = (n : Int) - 1 := IntWalk.i64_in _ (by omega)
  go_enter Try.func86, Try.ntmps86
  go_wp2_with (go_at_call 71; refine (inRange_any _ _ _ _).mono ?_; rintro e w' ⟨rfl, rfl⟩)
  go_ret
  exact ⟨rfl, Below.refl _ _⟩
set_option maxRecDepth 100000 in
set_option maxHeartbeats 4000000 in
theorem PlDo_1 {ad : Option Addr} {xss : List (List Int)} {m c b sm wk n a : Nat} {B : Nat → Prop} {S : PS} {vl vr ve vh vw vo : Value} (t bs : Int) (w : World) (P : PlIs w b 0 B S vl vr ve vh vw vo) (hI : PInv n sm wk S) (hs : 1 ≤ sm ∧ sm ≤ 8) (hwk : 1 ≤ wk ∧ wk ≤ 4) (hc : SlII w (.slice ad m c) xss) (hch : chainOk n t xss = true) (hbs : 0 ≤ bs ∧ bs ≤ 999999992) (ha : a ≤ 999) :
    Calls Try.prog 53 #[.pointer (some ⟨b, 0, none⟩), .agg #[.int .i64 n, .int .i64 t, .slice ad m c, .int .i64 bs, .int .i64 sm, .int .i64 wk], .agg #[.int .i64 1, .int .i64 a]] w (DoP b B (doS t xss bs sm wk (1, (a : Int)) S) w) := by
  rw [show doS t xss bs sm wk (1, (a : Int)) S = giveS sm wk a S by unfold doS; simp]
  have HIN := Lib.hid hI
  have HPO := Lib.hid (hI.plOk hs.1 hs.2)
  have hn6 : n ≤ 6 := by have := (chainOk_parts0 hch).1; omega
  have HB := Lib.hid P.ownB
  have HL := Lib.hid P.ownLt
  have bA : Below w.heap.size w (w.alloc (.cells #[.int .i64 n, .int .i64 t, .slice ad m c, .int .i64 bs, .int .i64 sm, .int .i64 wk] 35)) := (Below.refl _ _).alloc (Nat.le_refl _) _
  have KA := CellsAt.new w [.int .i64 n, .int .i64 t, .slice ad m c, .int .i64 bs, .int .i64 sm, .int .i64 wk] 35
  have bB : Below (w.alloc (.cells #[.int .i64 n, .int .i64 t, .slice ad m c, .int .i64 bs, .int .i64 sm, .int .i64 wk] 35)).heap.size (w.alloc (.cells #[.int .i64 n, .int .i64 t, .slice ad m c, .int .i64 bs, .int .i64 sm, .int .i64 wk] 35)) ((w.alloc (.cells #[.int .i64 n, .int .i64 t, .slice ad m c, .int .i64 bs, .int .i64 sm, .int .i64 wk] 35)).alloc (.cells #[.int .i64 1, .int .i64 a] 68)) := (Below.refl _ _).alloc (Nat.le_refl _) _
  obtain ⟨W2, hW2⟩ : ∃ W2, W2 = (w.alloc (.cells #[.int .i64 n, .int .i64 t, .slice ad m c, .int .i64 bs, .int .i64 sm, .int .i64 wk] 35)).alloc (.cells #[.int .i64 1, .int .i64 a] 68) := ⟨_, rfl⟩
  have K1 := Lib.hid (show CellsAt W2 w.heap.size [.int .i64 n, .int .i64 t, .slice ad m c, .int .i64 bs, .int .i64 sm, .int .i64 wk] by rw [hW2]; exact KA.below bB)
  have K2 := Lib.hid (show CellsAt W2 (w.heap.size + 1) [.int .i64 1, .int .i64 a] by rw [hW2]; exact CellsAt.new' (w.alloc (.cells #[.int .i64 n, .int .i64 t, .slice ad m c, .int .i64 bs, .int .i64 sm, .int .i64 wk] 35)) [.int .i64 1, .int .i64 a] 68 (by simp))
  rw [← hW2] at bB
  have b2 : Below w.heap.size w W2 := bA.trans (bB.mono bA.size)
  have P2 := Lib.hid (P.below b2)
  have F2 := Lib.hid (Fs.of_below (S := B) b2)
  have HZ2 := Lib.hid b2.size
  have HS2 := Lib.hid (show w.heap.size + 2 = W2.heap.size by rw [hW2]; simp)
  have HC := Lib.hid (hc.below b2)
  have HW2 := Lib.hid hW2.symm
  have hbl := P2.out.blt
  clear P hI bA bB KA b2 hc hW2
  go_enter Try.func53, Try.ntmps53
  go_wp2_with fail
  rw [HW2.out]
  refine (PlGive_any n t bs W2 P2.out HPO.out hwk ha).mono ?_
  intro e w3 h
  obtain ⟨rfl, h9⟩ := h.up F2.out
  have HP := Lib.hid h9
  clear h h9
  go_wp2
  go_ret
  exact ⟨rfl, HP.out⟩
set_option maxRecDepth 100000 in
set_option maxHeartbeats 4000000 in
theorem PlDo_2 {ad : Option Addr} {xss : List (List Int)} {m c b sm wk n a : Nat} {B : Nat → Prop} {S : PS} {vl vr ve vh vw vo : Value} (t bs : Int) (w : World) (P : PlIs w b 0 B S vl vr ve vh vw vo) (hI : PInv n sm wk S) (hs : 1 ≤ sm ∧ sm ≤ 8) (hwk : 1 ≤ wk ∧ wk ≤ 4) (hc : SlII w (.slice ad m c) xss) (hch : chainOk n t xss = true) (hbs : 0 ≤ bs ∧ bs ≤ 999999992) (ha : a ≤ 999) :
    Calls Try.prog 53 #[.pointer (some ⟨b, 0, none⟩), .agg #[.int .i64 n, .int .i64 t, .slice ad m c, .int .i64 bs, .int .i64 sm, .int .i64 wk], .agg #[.int .i64 2, .int .i64 a]] w (DoP b B (doS t xss bs sm wk (2, (a : Int)) S) w) := by
  rw [show doS t xss bs sm wk (2, (a : Int)) S = workS t xss bs wk a S by unfold doS; simp]
  have HIN := Lib.hid hI
  have HPO := Lib.hid (hI.plOk hs.1 hs.2)
  have hn6 : n ≤ 6 := by have := (chainOk_parts0 hch).1; omega
  have HB := Lib.hid P.ownB
  have HL := Lib.hid P.ownLt
  have bA : Below w.heap.size w (w.alloc (.cells #[.int .i64 n, .int .i64 t, .slice ad m c, .int .i64 bs, .int .i64 sm, .int .i64 wk] 35)) := (Below.refl _ _).alloc (Nat.le_refl _) _
  have KA := CellsAt.new w [.int .i64 n, .int .i64 t, .slice ad m c, .int .i64 bs, .int .i64 sm, .int .i64 wk] 35
  have bB : Below (w.alloc (.cells #[.int .i64 n, .int .i64 t, .slice ad m c, .int .i64 bs, .int .i64 sm, .int .i64 wk] 35)).heap.size (w.alloc (.cells #[.int .i64 n, .int .i64 t, .slice ad m c, .int .i64 bs, .int .i64 sm, .int .i64 wk] 35)) ((w.alloc (.cells #[.int .i64 n, .int .i64 t, .slice ad m c, .int .i64 bs, .int .i64 sm, .int .i64 wk] 35)).alloc (.cells #[.int .i64 2, .int .i64 a] 68)) := (Below.refl _ _).alloc (Nat.le_refl _) _
  obtain ⟨W2, hW2⟩ : ∃ W2, W2 = (w.alloc (.cells #[.int .i64 n, .int .i64 t, .slice ad m c, .int .i64 bs, .int .i64 sm, .int .i64 wk] 35)).alloc (.cells #[.int .i64 2, .int .i64 a] 68) := ⟨_, rfl⟩
  have K1 := Lib.hid (show CellsAt W2 w.heap.size [.int .i64 n, .int .i64 t, .slice ad m c, .int .i64 bs, .int .i64 sm, .int .i64 wk] by rw [hW2]; exact KA.below bB)
  have K2 := Lib.hid (show CellsAt W2 (w.heap.size + 1) [.int .i64 2, .int .i64 a] by rw [hW2]; exact CellsAt.new' (w.alloc (.cells #[.int .i64 n, .int .i64 t, .slice ad m c, .int .i64 bs, .int .i64 sm, .int .i64 wk] 35)) [.int .i64 2, .int .i64 a] 68 (by simp))
  rw [← hW2] at bB
  have b2 : Below w.heap.size w W2 := bA.trans (bB.mono bA.size)
  have P2 := Lib.hid (P.below b2)
  have F2 := Lib.hid (Fs.of_below (S := B) b2)
  have HZ2 := Lib.hid b2.size
  have HS2 := Lib.hid (show w.heap.size + 2 = W2.heap.size by rw [hW2]; simp)
  have HC := Lib.hid (hc.below b2)
  have HW2 := Lib.hid hW2.symm
  have hbl := P2.out.blt
  clear P hI bA bB KA b2 hc hW2
  go_enter Try.func53, Try.ntmps53
  go_wp2_with fail
  rw [HW2.out]
  refine (PlWork_any t bs W2 P2.out HIN.out hs hwk ha HC.out hch hbs).mono ?_
  intro e w3 h
  obtain ⟨rfl, h9⟩ := h.up F2.out
  have HP := Lib.hid h9
  clear h h9
  go_wp2
  go_ret
  exact ⟨rfl, HP.out⟩
set_option maxRecDepth 100000 in
set_option maxHeartbeats 4000000 in
theorem PlDo_7 {ad : Option Addr} {xss : List (List Int)} {m c b sm wk n a : Nat} {B : Nat → Prop} {S : PS} {vl vr ve vh vw vo : Value} (t bs : Int) (w : World) (P : PlIs w b 0 B S vl vr ve vh vw vo) (hI : PInv n sm wk S) (hs : 1 ≤ sm ∧ sm ≤ 8) (hwk : 1 ≤ wk ∧ wk ≤ 4) (hc : SlII w (.slice ad m c) xss) (hch : chainOk n t xss = true) (hbs : 0 ≤ bs ∧ bs ≤ 999999992) (ha : a ≤ 999) :
    Calls Try.prog 53 #[.pointer (some ⟨b, 0, none⟩), .agg #[.int .i64 n, .int .i64 t, .slice ad m c, .int .i64 bs, .int .i64 sm, .int .i64 wk], .agg #[.int .i64 7, .int .i64 a]] w (DoP b B (doS t xss bs sm wk (7, (a : Int)) S) w) := by
  rw [show doS t xss bs sm wk (7, (a : Int)) S = outS sm S by unfold doS; simp]
  have HIN := Lib.hid hI
  have HPO := Lib.hid (hI.plOk hs.1 hs.2)
  have hn6 : n ≤ 6 := by have := (chainOk_parts0 hch).1; omega
  have HB := Lib.hid P.ownB
  have HL := Lib.hid P.ownLt
  have bA : Below w.heap.size w (w.alloc (.cells #[.int .i64 n, .int .i64 t, .slice ad m c, .int .i64 bs, .int .i64 sm, .int .i64 wk] 35)) := (Below.refl _ _).alloc (Nat.le_refl _) _
  have KA := CellsAt.new w [.int .i64 n, .int .i64 t, .slice ad m c, .int .i64 bs, .int .i64 sm, .int .i64 wk] 35
  have bB : Below (w.alloc (.cells #[.int .i64 n, .int .i64 t, .slice ad m c, .int .i64 bs, .int .i64 sm, .int .i64 wk] 35)).heap.size (w.alloc (.cells #[.int .i64 n, .int .i64 t, .slice ad m c, .int .i64 bs, .int .i64 sm, .int .i64 wk] 35)) ((w.alloc (.cells #[.int .i64 n, .int .i64 t, .slice ad m c, .int .i64 bs, .int .i64 sm, .int .i64 wk] 35)).alloc (.cells #[.int .i64 7, .int .i64 a] 68)) := (Below.refl _ _).alloc (Nat.le_refl _) _
  obtain ⟨W2, hW2⟩ : ∃ W2, W2 = (w.alloc (.cells #[.int .i64 n, .int .i64 t, .slice ad m c, .int .i64 bs, .int .i64 sm, .int .i64 wk] 35)).alloc (.cells #[.int .i64 7, .int .i64 a] 68) := ⟨_, rfl⟩
  have K1 := Lib.hid (show CellsAt W2 w.heap.size [.int .i64 n, .int .i64 t, .slice ad m c, .int .i64 bs, .int .i64 sm, .int .i64 wk] by rw [hW2]; exact KA.below bB)
  have K2 := Lib.hid (show CellsAt W2 (w.heap.size + 1) [.int .i64 7, .int .i64 a] by rw [hW2]; exact CellsAt.new' (w.alloc (.cells #[.int .i64 n, .int .i64 t, .slice ad m c, .int .i64 bs, .int .i64 sm, .int .i64 wk] 35)) [.int .i64 7, .int .i64 a] 68 (by simp))
  rw [← hW2] at bB
  have b2 : Below w.heap.size w W2 := bA.trans (bB.mono bA.size)
  have P2 := Lib.hid (P.below b2)
  have F2 := Lib.hid (Fs.of_below (S := B) b2)
  have HZ2 := Lib.hid b2.size
  have HS2 := Lib.hid (show w.heap.size + 2 = W2.heap.size by rw [hW2]; simp)
  have HC := Lib.hid (hc.below b2)
  have HW2 := Lib.hid hW2.symm
  have hbl := P2.out.blt
  clear P hI bA bB KA b2 hc hW2
  go_enter Try.func53, Try.ntmps53
  go_wp2_with fail
  rw [HW2.out]
  refine (PlOut_any W2 P2.out HIN.out hs).mono ?_
  intro e w3 h
  obtain ⟨rfl, h9⟩ := h.up F2.out
  have HP := Lib.hid h9
  clear h h9
  go_wp2
  go_ret
  exact ⟨rfl, HP.out⟩
set_option maxRecDepth 100000 in
set_option maxHeartbeats 4000000 in
theorem PlDo_6 {ad : Option Addr} {xss : List (List Int)} {m c b sm wk n a : Nat} {B : Nat → Prop} {S : PS} {vl vr ve vh vw vo : Value} (t bs : Int) (w : World) (P : PlIs w b 0 B S vl vr ve vh vw vo) (hI : PInv n sm wk S) (hs : 1 ≤ sm ∧ sm ≤ 8) (hwk : 1 ≤ wk ∧ wk ≤ 4) (hc : SlII w (.slice ad m c) xss) (hch : chainOk n t xss = true) (hbs : 0 ≤ bs ∧ bs ≤ 999999992) (ha : a ≤ 999) :
    Calls Try.prog 53 #[.pointer (some ⟨b, 0, none⟩), .agg #[.int .i64 n, .int .i64 t, .slice ad m c, .int .i64 bs, .int .i64 sm, .int .i64 wk], .agg #[.int .i64 6, .int .i64 a]] w (DoP b B (doS t xss bs sm wk (6, (a : Int)) S) w) := by
  rw [show doS t xss bs sm wk (6, (a : Int)) S = (0, { S with sy := S.recs.length }) by unfold doS; simp]
  have HIN := Lib.hid hI
  have HPO := Lib.hid (hI.plOk hs.1 hs.2)
  have hn6 : n ≤ 6 := by have := (chainOk_parts0 hch).1; omega
  have HB := Lib.hid P.ownB
  have HL := Lib.hid P.ownLt
  have bA : Below w.heap.size w (w.alloc (.cells #[.int .i64 n, .int .i64 t, .slice ad m c, .int .i64 bs, .int .i64 sm, .int .i64 wk] 35)) := (Below.refl _ _).alloc (Nat.le_refl _) _
  have KA := CellsAt.new w [.int .i64 n, .int .i64 t, .slice ad m c, .int .i64 bs, .int .i64 sm, .int .i64 wk] 35
  have bB : Below (w.alloc (.cells #[.int .i64 n, .int .i64 t, .slice ad m c, .int .i64 bs, .int .i64 sm, .int .i64 wk] 35)).heap.size (w.alloc (.cells #[.int .i64 n, .int .i64 t, .slice ad m c, .int .i64 bs, .int .i64 sm, .int .i64 wk] 35)) ((w.alloc (.cells #[.int .i64 n, .int .i64 t, .slice ad m c, .int .i64 bs, .int .i64 sm, .int .i64 wk] 35)).alloc (.cells #[.int .i64 6, .int .i64 a] 68)) := (Below.refl _ _).alloc (Nat.le_refl _) _
  obtain ⟨W2, hW2⟩ : ∃ W2, W2 = (w.alloc (.cells #[.int .i64 n, .int .i64 t, .slice ad m c, .int .i64 bs, .int .i64 sm, .int .i64 wk] 35)).alloc (.cells #[.int .i64 6, .int .i64 a] 68) := ⟨_, rfl⟩
  have K1 := Lib.hid (show CellsAt W2 w.heap.size [.int .i64 n, .int .i64 t, .slice ad m c, .int .i64 bs, .int .i64 sm, .int .i64 wk] by rw [hW2]; exact KA.below bB)
  have K2 := Lib.hid (show CellsAt W2 (w.heap.size + 1) [.int .i64 6, .int .i64 a] by rw [hW2]; exact CellsAt.new' (w.alloc (.cells #[.int .i64 n, .int .i64 t, .slice ad m c, .int .i64 bs, .int .i64 sm, .int .i64 wk] 35)) [.int .i64 6, .int .i64 a] 68 (by simp))
  rw [← hW2] at bB
  have b2 : Below w.heap.size w W2 := bA.trans (bB.mono bA.size)
  have P2 := Lib.hid (P.below b2)
  have F2 := Lib.hid (Fs.of_below (S := B) b2)
  have HZ2 := Lib.hid b2.size
  have HS2 := Lib.hid (show w.heap.size + 2 = W2.heap.size by rw [hW2]; simp)
  have HC := Lib.hid (hc.below b2)
  have HW2 := Lib.hid hW2.symm
  have hbl := P2.out.blt
  clear P hI bA bB KA b2 hc hW2
  obtain ⟨ea, ec, rfl, _, _⟩ := P2.out.oe.shape
  have P3 := Lib.hid (P2.out.number S.recs.length)
  have F3 := Lib.hid (F2.out.set (a := ⟨b, 0 + 4, none⟩) (HB.out b ⟨0, rfl⟩) (.int .i64 S.recs.length))
  obtain ⟨⟨_, _, _, q3⟩, q4, _⟩ := P2.out.get
  have f4 := P2.out.fz 4
  go_enter Try.func53, Try.ntmps53
  go_upto_region 17 with (fail)
  rw [HW2.out]
  go_wp2
  go_ret
  exact DoP.mk rfl (P3.out.mono (fun k hk => .inl hk)) F3.out
set_option maxRecDepth 100000 in
set_option maxHeartbeats 4000000 in
theorem PlDo_8 {ad : Option Addr} {xss : List (List Int)} {m c b sm wk n a : Nat} {B : Nat → Prop} {S : PS} {vl vr ve vh vw vo : Value} (t bs : Int) (w : World) (P : PlIs w b 0 B S vl vr ve vh vw vo) (hI : PInv n sm wk S) (hs : 1 ≤ sm ∧ sm ≤ 8) (hwk : 1 ≤ wk ∧ wk ≤ 4) (hc : SlII w (.slice ad m c) xss) (hch : chainOk n t xss = true) (hbs : 0 ≤ bs ∧ bs ≤ 999999992) (ha : a ≤ 999) :
    Calls Try.prog 53 #[.pointer (some ⟨b, 0, none⟩), .agg #[.int .i64 n, .int .i64 t, .slice ad m c, .int .i64 bs, .int .i64 sm, .int .i64 wk], .agg #[.int .i64 8, .int .i64 a]] w (DoP b B (doS t xss bs sm wk (8, (a : Int)) S) w) := by
  rw [show doS t xss bs sm wk (8, (a : Int)) S = (0, crashS sm S) by unfold doS; simp]
  have HIN := Lib.hid hI
  have HPO := Lib.hid (hI.plOk hs.1 hs.2)
  have hn6 : n ≤ 6 := by have := (chainOk_parts0 hch).1; omega
  have HB := Lib.hid P.ownB
  have HL := Lib.hid P.ownLt
  have bA : Below w.heap.size w (w.alloc (.cells #[.int .i64 n, .int .i64 t, .slice ad m c, .int .i64 bs, .int .i64 sm, .int .i64 wk] 35)) := (Below.refl _ _).alloc (Nat.le_refl _) _
  have KA := CellsAt.new w [.int .i64 n, .int .i64 t, .slice ad m c, .int .i64 bs, .int .i64 sm, .int .i64 wk] 35
  have bB : Below (w.alloc (.cells #[.int .i64 n, .int .i64 t, .slice ad m c, .int .i64 bs, .int .i64 sm, .int .i64 wk] 35)).heap.size (w.alloc (.cells #[.int .i64 n, .int .i64 t, .slice ad m c, .int .i64 bs, .int .i64 sm, .int .i64 wk] 35)) ((w.alloc (.cells #[.int .i64 n, .int .i64 t, .slice ad m c, .int .i64 bs, .int .i64 sm, .int .i64 wk] 35)).alloc (.cells #[.int .i64 8, .int .i64 a] 68)) := (Below.refl _ _).alloc (Nat.le_refl _) _
  obtain ⟨W2, hW2⟩ : ∃ W2, W2 = (w.alloc (.cells #[.int .i64 n, .int .i64 t, .slice ad m c, .int .i64 bs, .int .i64 sm, .int .i64 wk] 35)).alloc (.cells #[.int .i64 8, .int .i64 a] 68) := ⟨_, rfl⟩
  have K1 := Lib.hid (show CellsAt W2 w.heap.size [.int .i64 n, .int .i64 t, .slice ad m c, .int .i64 bs, .int .i64 sm, .int .i64 wk] by rw [hW2]; exact KA.below bB)
  have K2 := Lib.hid (show CellsAt W2 (w.heap.size + 1) [.int .i64 8, .int .i64 a] by rw [hW2]; exact CellsAt.new' (w.alloc (.cells #[.int .i64 n, .int .i64 t, .slice ad m c, .int .i64 bs, .int .i64 sm, .int .i64 wk] 35)) [.int .i64 8, .int .i64 a] 68 (by simp))
  rw [← hW2] at bB
  have b2 : Below w.heap.size w W2 := bA.trans (bB.mono bA.size)
  have P2 := Lib.hid (P.below b2)
  have F2 := Lib.hid (Fs.of_below (S := B) b2)
  have HZ2 := Lib.hid b2.size
  have HS2 := Lib.hid (show w.heap.size + 2 = W2.heap.size by rw [hW2]; simp)
  have HC := Lib.hid (hc.below b2)
  have HW2 := Lib.hid hW2.symm
  have hbl := P2.out.blt
  clear P hI bA bB KA b2 hc hW2
  go_enter Try.func53, Try.ntmps53
  go_wp2_with fail
  rw [HW2.out]
  refine (PlCrash_any t bs _ P2.out HIN.out hs hn6).mono ?_
  rintro e w3 ⟨rfl, ⟨_, _, _, _, _, _, P3⟩, F3⟩
  have P3 := Lib.hid (P3.mono (Bm.mono F2.out.size))
  have F3 := Lib.hid (F2.out.trans F3)
  go_wp2
  go_ret
  exact DoP.mk rfl P3.out F3.out
set_option maxRecDepth 100000 in
set_option maxHeartbeats 4000000 in
theorem PlDo_9 {ad : Option Addr} {xss : List (List Int)} {m c b sm wk n a : Nat} {B : Nat → Prop} {S : PS} {vl vr ve vh vw vo : Value} (t bs : Int) (w : World) (P : PlIs w b 0 B S vl vr ve vh vw vo) (hI : PInv n sm wk S) (hs : 1 ≤ sm ∧ sm ≤ 8) (hwk : 1 ≤ wk ∧ wk ≤ 4) (hc : SlII w (.slice ad m c) xss) (hch : chainOk n t xss = true) (hbs : 0 ≤ bs ∧ bs ≤ 999999992) (ha : a ≤ 999) :
    Calls Try.prog 53 #[.pointer (some ⟨b, 0, none⟩), .agg #[.int .i64 n, .int .i64 t, .slice ad m c, .int .i64 bs, .int .i64 sm, .int .i64 wk], .agg #[.int .i64 9, .int .i64 a]] w (DoP b B (doS t xss bs sm wk (9, (a : Int)) S) w) := by
  rw [show doS t xss bs sm wk (9, (a : Int)) S = if S.sy = S.recs.length then (4, S) else (0, crashS sm S) by unfold doS; simp]
  have HIN := Lib.hid hI
  have HPO := Lib.hid (hI.plOk hs.1 hs.2)
  have hn6 : n ≤ 6 := by have := (chainOk_parts0 hch).1; omega
  have HB := Lib.hid P.ownB
  have HL := Lib.hid P.ownLt
  have bA : Below w.heap.size w (w.alloc (.cells #[.int .i64 n, .int .i64 t, .slice ad m c, .int .i64 bs, .int .i64 sm, .int .i64 wk] 35)) := (Below.refl _ _).alloc (Nat.le_refl _) _
  have KA := CellsAt.new w [.int .i64 n, .int .i64 t, .slice ad m c, .int .i64 bs, .int .i64 sm, .int .i64 wk] 35
  have bB : Below (w.alloc (.cells #[.int .i64 n, .int .i64 t, .slice ad m c, .int .i64 bs, .int .i64 sm, .int .i64 wk] 35)).heap.size (w.alloc (.cells #[.int .i64 n, .int .i64 t, .slice ad m c, .int .i64 bs, .int .i64 sm, .int .i64 wk] 35)) ((w.alloc (.cells #[.int .i64 n, .int .i64 t, .slice ad m c, .int .i64 bs, .int .i64 sm, .int .i64 wk] 35)).alloc (.cells #[.int .i64 9, .int .i64 a] 68)) := (Below.refl _ _).alloc (Nat.le_refl _) _
  obtain ⟨W2, hW2⟩ : ∃ W2, W2 = (w.alloc (.cells #[.int .i64 n, .int .i64 t, .slice ad m c, .int .i64 bs, .int .i64 sm, .int .i64 wk] 35)).alloc (.cells #[.int .i64 9, .int .i64 a] 68) := ⟨_, rfl⟩
  have K1 := Lib.hid (show CellsAt W2 w.heap.size [.int .i64 n, .int .i64 t, .slice ad m c, .int .i64 bs, .int .i64 sm, .int .i64 wk] by rw [hW2]; exact KA.below bB)
  have K2 := Lib.hid (show CellsAt W2 (w.heap.size + 1) [.int .i64 9, .int .i64 a] by rw [hW2]; exact CellsAt.new' (w.alloc (.cells #[.int .i64 n, .int .i64 t, .slice ad m c, .int .i64 bs, .int .i64 sm, .int .i64 wk] 35)) [.int .i64 9, .int .i64 a] 68 (by simp))
  rw [← hW2] at bB
  have b2 : Below w.heap.size w W2 := bA.trans (bB.mono bA.size)
  have P2 := Lib.hid (P.below b2)
  have F2 := Lib.hid (Fs.of_below (S := B) b2)
  have HZ2 := Lib.hid b2.size
  have HS2 := Lib.hid (show w.heap.size + 2 = W2.heap.size by rw [hW2]; simp)
  have HC := Lib.hid (hc.below b2)
  have HW2 := Lib.hid hW2.symm
  have hbl := P2.out.blt
  clear P hI bA bB KA b2 hc hW2
  obtain ⟨ea, ec, rfl, _, _⟩ := P2.out.oe.shape
  obtain ⟨⟨_, _, _, q3⟩, q4, _⟩ := P2.out.get
  have kq3 := fun d os => cell_regrown q3 d os
  have kq4 := fun d os => cell_regrown q4 d os
  by_cases h : S.sy = S.recs.length
  · have t1 : ((S.sy : Int) == (S.recs.length : Int)) = true := by rw [beq_iff_eq, h]
    rw [if_pos h]
    clear h
    go_enter Try.func53, Try.ntmps53
    go_wp2_with fail
    rw [HW2.out]
    refine wp_region_quiet_below (by kernel_rfl) (by kernel_rfl) ?_
    repeat (first | go_big_quiet_skip | quiet_step (fail))
    refine wpQuiet_nil ?_
    intro _ hw'
    obtain ⟨⟨dq, osq⟩, hw''⟩ := hw'
    subst hw''
    have bq := below_regrown W2 dq osq
    generalize grow (redrawn W2 dq) osq = wq at bq ⊢
    clear kq3 kq4 q3 q4
    go_wp2
    go_ret
    exact DoP.mk rfl ((P2.out.below bq).mono (fun k hk => .inl hk)) (F2.out.trans (Fs.of_below bq))
  · have t1 : ((S.sy : Int) == (S.recs.length : Int)) = false := by rw [beq_eq_false_iff_ne]; omega
    rw [if_neg h]
    clear h
    go_enter Try.func53, Try.ntmps53
    go_wp2_with fail
    rw [HW2.out]
    refine wp_region_quiet_below (by kernel_rfl) (by kernel_rfl) ?_
    repeat (first | go_big_quiet_skip | quiet_step (fail))
    refine wpQuiet_nil ?_
    intro _ hw'
    obtain ⟨⟨dq, osq⟩, hw''⟩ := hw'
    subst hw''
    have bq := below_regrown W2 dq osq
    generalize grow (redrawn W2 dq) osq = wq at bq ⊢
    have PX := Lib.hid (P2.out.below bq)
    have FX := Lib.hid (F2.out.trans (Fs.of_below bq))
    have KX := K1.out.below bq
    have k0 := KX.get 0 _ rfl
    have k1 := KX.get 1 _ rfl
    have k2 := KX.get 2 _ rfl
    have k3 := KX.get 3 _ rfl
    have k4 := KX.get 4 _ rfl
    have k5 := KX.get 5 _ rfl
    clear kq3 kq4 q3 q4 KX bq
    go_wp2_with fail
    refine (PlCrash_any t bs _ PX.out HIN.out hs hn6).mono ?_
    rintro e w3 ⟨rfl, ⟨_, _, _, _, _, _, P3⟩, F3⟩
    have P3 := Lib.hid (P3.mono (Bm.mono FX.out.size))
    have F3 := Lib.hid (FX.out.trans F3)
    go_wp2
    go_ret
    exact DoP.mk rfl P3.out F3.out
set_option maxRecDepth 100000 in
set_option maxHeartbeats 4000000 in
theorem PlDo_10 {ad : Option Addr} {xss : List (List Int)} {m c b sm wk n a : Nat} {B : Nat → Prop} {S : PS} {vl vr ve vh vw vo : Value} (t bs : Int) (w : World) (P : PlIs w b 0 B S vl vr ve vh vw vo) (hI : PInv n sm wk S) (hs : 1 ≤ sm ∧ sm ≤ 8) (hwk : 1 ≤ wk ∧ wk ≤ 4) (hc : SlII w (.slice ad m c) xss) (hch : chainOk n t xss = true) (hbs : 0 ≤ bs ∧ bs ≤ 999999992) (ha : a ≤ 999) :
    Calls Try.prog 53 #[.pointer (some ⟨b, 0, none⟩), .agg #[.int .i64 n, .int .i64 t, .slice ad m c, .int .i64 bs, .int .i64 sm, .int .i64 wk], .agg #[.int .i64 10, .int .i64 a]] w (DoP b B (doS t xss bs sm wk (10, (a : Int)) S) w) := by
  rw [show doS t xss bs sm wk (10, (a : Int)) S = if (wk : Int) ≤ a then (2, S) else (0, handOff a S) by unfold doS; simp]
  have HIN := Lib.hid hI
  have HPO := Lib.hid (hI.plOk hs.1 hs.2)
  have hn6 : n ≤ 6 := by have := (chainOk_parts0 hch).1; omega
  have HB := Lib.hid P.ownB
  have HL := Lib.hid P.ownLt
  have bA : Below w.heap.size w (w.alloc (.cells #[.int .i64 n, .int .i64 t, .slice ad m c, .int .i64 bs, .int .i64 sm, .int .i64 wk] 35)) := (Below.refl _ _).alloc (Nat.le_refl _) _
  have KA := CellsAt.new w [.int .i64 n, .int .i64 t, .slice ad m c, .int .i64 bs, .int .i64 sm, .int .i64 wk] 35
  have bB : Below (w.alloc (.cells #[.int .i64 n, .int .i64 t, .slice ad m c, .int .i64 bs, .int .i64 sm, .int .i64 wk] 35)).heap.size (w.alloc (.cells #[.int .i64 n, .int .i64 t, .slice ad m c, .int .i64 bs, .int .i64 sm, .int .i64 wk] 35)) ((w.alloc (.cells #[.int .i64 n, .int .i64 t, .slice ad m c, .int .i64 bs, .int .i64 sm, .int .i64 wk] 35)).alloc (.cells #[.int .i64 10, .int .i64 a] 68)) := (Below.refl _ _).alloc (Nat.le_refl _) _
  obtain ⟨W2, hW2⟩ : ∃ W2, W2 = (w.alloc (.cells #[.int .i64 n, .int .i64 t, .slice ad m c, .int .i64 bs, .int .i64 sm, .int .i64 wk] 35)).alloc (.cells #[.int .i64 10, .int .i64 a] 68) := ⟨_, rfl⟩
  have K1 := Lib.hid (show CellsAt W2 w.heap.size [.int .i64 n, .int .i64 t, .slice ad m c, .int .i64 bs, .int .i64 sm, .int .i64 wk] by rw [hW2]; exact KA.below bB)
  have K2 := Lib.hid (show CellsAt W2 (w.heap.size + 1) [.int .i64 10, .int .i64 a] by rw [hW2]; exact CellsAt.new' (w.alloc (.cells #[.int .i64 n, .int .i64 t, .slice ad m c, .int .i64 bs, .int .i64 sm, .int .i64 wk] 35)) [.int .i64 10, .int .i64 a] 68 (by simp))
  rw [← hW2] at bB
  have b2 : Below w.heap.size w W2 := bA.trans (bB.mono bA.size)
  have P2 := Lib.hid (P.below b2)
  have F2 := Lib.hid (Fs.of_below (S := B) b2)
  have HZ2 := Lib.hid b2.size
  have HS2 := Lib.hid (show w.heap.size + 2 = W2.heap.size by rw [hW2]; simp)
  have HC := Lib.hid (hc.below b2)
  have HW2 := Lib.hid hW2.symm
  have hbl := P2.out.blt
  clear P hI bA bB KA b2 hc hW2
  have hw : IntKind.i64.wrap ((wk : Int) - 1) = (wk : Int) - 1 := IntWalk.i64_in _ (by omega)
  have HHL := Lib.hid HIN.out.hl
  have k1 := K2.out.get 1 _ rfl
  by_cases hr : (wk : Int) ≤ a
  · rw [if_pos hr]
    have HI := Lib.hid (show inR (a : Int) 0 ((wk : Int) - 1) = false from inR_false.2 (by omega))
    clear hr
    go_enter Try.func53, Try.ntmps53
    go_wp2_with (go_at_call 71; refine (inRange_any _ _ _ _).mono ?_; rintro e w' ⟨rfl, rfl⟩; rw [HI.out])
    rw [HW2.out]
    go_ret
    exact DoP.mk rfl (P2.out.mono (fun k hk => .inl hk)) F2.out
  · rw [if_neg hr]
    have HI := Lib.hid (show inR (a : Int) 0 ((wk : Int) - 1) = true from inR_iff.2 ⟨by omega, by omega⟩)
    have hal : a < S.hands.length := by rw [HHL.out]; omega
    obtain ⟨g, hcp, rfl, _⟩ := P2.out.oh.form (by omega)
    have a0 : (0 : Int) ≤ (a : Int) := by omega
    have a1 : (a : Int) < (S.hands.length : Int) := by omega
    have CW := Lib.hid (show ∀ W, Below W2.heap.size W2 W → (W.cell? ⟨b, 5, none⟩ = some (.slice (some ⟨g, 0, none⟩) S.hands.length hcp) ∧ W.cell? ⟨w.heap.size + 1, 1, none⟩ = some (.int .i64 a)) from fun W h => ⟨(P2.out.below h).get.2.2.1, (K2.out.below h).get 1 _ rfl⟩)
    have HAL := Lib.hid hal
    clear hr k1
    go_enter Try.func53, Try.ntmps53
    go_wp2_with fail
    rw [HW2.out]
    refine (inRange_any _ _ _ _).mono ?_
    rintro e w' ⟨rfl, rfl⟩
    rw [HI.out]
    go_wp2_with fail
    refine wpX_start (fun W => W.cell? ⟨b, 5, none⟩ = some (.slice (some ⟨g, 0, none⟩) S.hands.length hcp) ∧ W.cell? ⟨w.heap.size + 1, 1, none⟩ = some (.int .i64 a)) [8] (by kernel_rfl) ?_
    have hC := CW.out W2.drew (Below.refl W2.heap.size W2).drew
    refine wpX_free (i := 0) (v := ?_) rfl (by kernel_rfl) (fun _ _ _ h => h) rfl (fun w' => ?_) ?_
    rotate_left
    · go_simp; try with_reducible rfl
    try simp only [Act.put, List.setIfInBounds_toArray, List.set_cons_zero, List.set_cons_succ]
    refine wpX_free (i := 1) (v := ?_) rfl (by kernel_rfl) (fun _ _ _ h => h) rfl (fun w' => ?_) ?_
    rotate_left
    · go_simp; try with_reducible rfl
    try simp only [Act.put, List.setIfInBounds_toArray, List.set_cons_zero, List.set_cons_succ]
    refine wpX_free (i := 2) (v := ?_) rfl (by kernel_rfl) (fun _ _ _ h => h) rfl (fun w' => ?_) ?_
    rotate_left
    · go_simp; try with_reducible rfl
    try simp only [Act.put, List.setIfInBounds_toArray, List.set_cons_zero, List.set_cons_succ]
    refine wpX_load (i := 3) (v := ?_) rfl (by kernel_rfl) (fun _ _ _ h => h) hC rfl (fun w' hw' => ?_) ?_
    rotate_left
    · obtain ⟨k1, k2⟩ := hw'; go_simp; try with_reducible rfl
    try simp only [Act.put, List.setIfInBounds_toArray, List.set_cons_zero, List.set_cons_succ]
    refine wpX_free (i := 4) (v := ?_) rfl (by kernel_rfl) (fun _ _ _ h => h) rfl (fun w' => ?_) ?_
    rotate_left
    · go_simp; try with_reducible rfl
    try simp only [Act.put, List.setIfInBounds_toArray, List.set_cons_zero, List.set_cons_succ]
    refine wpX_load (i := 5) (v := ?_) rfl (by kernel_rfl) (fun _ _ _ h => h) hC rfl (fun w' hw' => ?_) ?_
    rotate_left
    · obtain ⟨k1, k2⟩ := hw'; go_simp; try with_reducible rfl
    try simp only [Act.put, List.setIfInBounds_toArray, List.set_cons_zero, List.set_cons_succ]
    refine wpX_free (i := 6) (v := ?_) rfl (by kernel_rfl) (fun _ _ _ h => h) rfl (fun w' => ?_) ?_
    rotate_left
    · go_simp; try with_reducible rfl
    try simp only [Act.put, List.setIfInBounds_toArray, List.set_cons_zero, List.set_cons_succ]
    refine wpX_free (i := 7) (v := ?_) rfl (by kernel_rfl) (fun _ _ _ h => h) rfl (fun w' => ?_) ?_
    rotate_left
    · go_simp; try with_reducible rfl
    try simp only [Act.put, List.setIfInBounds_toArray, List.set_cons_zero, List.set_cons_succ]
    refine wpX_rest (t := [8]) (l := [_]) rfl (by kernel_rfl) (by kernel_rfl) ?_
    clear hC
    have P3 := P2.out
    have f0 := P3.oh.free (a * 3)
    have f1 := P3.oh.free (a * 3 + 1)
    have f2 := P3.oh.free (a * 3 + 2)
    obtain ⟨y0, y1, y2⟩ := FHand_cell P3.oh HAL.out
    have PN := P3.part0 (S' := handOff a S) 3 (c' := FHand.ch (.slice (some ⟨g, 0, none⟩) S.hands.length hcp) (S.hands.set a noHand)) rfl rfl rfl (w2 := ((W2.setCell ⟨g, a * 3, none⟩ (.bool false)).setCell ⟨g, a * 3 + 1, none⟩ (.int .i64 0)).setCell ⟨g, a * 3 + 2, none⟩ (.int .i64 0)) (grown_set3 _ g _ _ _ _ _ _) (FHand.set_cells P3.oh a noHand HAL.out) rfl P3.len P3.pos
    have FY := F2.out.trans (Fs.of_grown (S := B) (grown_set3 W2 g (a * 3) (a * 3 + 1) (a * 3 + 2) (.bool false) (.int .i64 0) (.int .i64 0)) (fun k hk => P3.inB 4 k (by rw [← hk]; rfl)))
    have PN := Lib.hid (PN.below (Below.refl _ _).drew)
    have FY := Lib.hid (FY.trans (Fs.of_below (Below.refl _ _).drew))
    clear P3
    go_wp2
    go_ret
    exact DoP.mk rfl (PN.out.mono (fun k hk => .inl hk)) FY.out
end Go.Proofs.Ytijpkcdalmlaiaa
