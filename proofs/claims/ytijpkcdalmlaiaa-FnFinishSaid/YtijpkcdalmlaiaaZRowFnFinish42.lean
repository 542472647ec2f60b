/-
  The reference's FinishDeeds: the walk. With it: The reference's FinishDeeds.
-/
import Derived.Test.YtijpkcdalmlaiaaZRowFnFinish41
import Derived.Test.YtijpkcdalmlaiaaZRowFnFinish38
set_option linter.unusedVariables false
set_option linter.unusedSimpArgs false
namespace Go.Proofs.Ytijpkcdalmlaiaa
open Go.RowKit Go.Sort
/-- a run in a box, and a plan with its list of deeds -/
structure FinP (w : World) (b sb pb M : Nat) (S : PS) (L : List (Int × Int)) : Prop where
  ex : ∃ (B : Nat → Prop) (vl vr ve vh vw vo va : Value), RunIs w b sb B S vl vr ve vh vw vo ∧ FDeed.Own w M va L ∧ w.cell? ⟨pb, 1, none⟩ = some va ∧ va.ownBlock ≠ some pb ∧ (∀ g, B g → (M ≤ g ∧ g ≠ pb) ∧ va.ownBlock ≠ some g ∧ g < w.heap.size)
  c0 : w.cell? ⟨pb, 0, none⟩ = some (.pointer (some ⟨b, 0, none⟩))
  fz : w.frozen? ⟨pb, 1, none⟩ = false
  lt : pb < w.heap.size
  le : M ≤ pb
theorem FinP.below {w w' : World} {b sb pb M : Nat} {S : PS} {L : List (Int × Int)} (h : FinP w b sb pb M S L) (hb : Below w.heap.size w w') : FinP w' b sb pb M S L := by
  obtain ⟨⟨B, vl, vr, ve, vh, vw, vo, va, P, O, cl, nl, hB⟩, c0, fz, lt, le⟩ := h
  have := hb.size
  exact ⟨⟨B, vl, vr, ve, vh, vw, vo, va, P.below hb, O.below hb, (hb.cell (p := ⟨pb, 1, none⟩) lt).trans cl, nl, fun g hg => ⟨(hB g hg).1, (hB g hg).2.1, by have := (hB g hg).2.2; omega⟩⟩, (hb.cell (p := ⟨pb, 0, none⟩) lt).trans c0, (hb.frozen (p := ⟨pb, 1, none⟩) lt).trans fz, by omega, le⟩

set_option maxRecDepth 100000 in
set_option maxHeartbeats 4000000 in
theorem PlanDo_any {b sb pb M sm wk n : Nat} {sv : Value} {xss : List (List Int)} {S : PS} {L : List (Int × Int)} {t bs : Int} (w : World) (F : FinP w b sb pb M S L) (V : SvF M w sb n t sv xss bs sm wk) (hI : PInv n sm wk S) (hok : serviceOk n t xss bs sm wk = true) (k : Int) (hd : deedOk k 0 = true) (hl : L.length ≤ 1000) :
    Calls Try.prog 50 #[.pointer (some ⟨pb, 0, none⟩), .int .i64 k, .int .i64 0] w fun e w' => e = .returned (.tuple #[]) ∧ FinP w' b sb pb M (doS t xss bs sm wk (k, 0) S).2 (L ++ [(k, 0)]) ∧ Below M w w' := by
  obtain ⟨⟨B, vl, vr, ve, vh, vw, vo, va, P, O, cl, nl, hB⟩, c0, fz, lt, le⟩ := F
  have hM : M ≤ w.heap.size := Nat.le_trans le (Nat.le_of_lt lt)
  obtain ⟨xa, xc, rfl, _, _⟩ := O.shape
  have b1 : Below w.heap.size w (w.alloc (.cells #[.int .i64 k, .int .i64 0] 68)) := (Below.refl _ _).alloc (Nat.le_refl _) _
  obtain ⟨W1, hW1⟩ : ∃ W1, W1 = w.alloc (.cells #[.int .i64 k, .int .i64 0] 68) := ⟨_, rfl⟩
  have KD := Lib.hid (show CellsAt W1 w.heap.size [.int .i64 k, .int .i64 0] by rw [hW1]; exact CellsAt.new w [.int .i64 k, .int .i64 0] 68)
  rw [← hW1] at b1
  have z1 : W1.heap.size = w.heap.size + 1 := by rw [hW1]; simp
  obtain ⟨W2, hW2⟩ : ∃ W2, W2 = (W1.alloc (.cells #[.int .i64 k, .int .i64 0] 68)).drew := ⟨_, rfl⟩
  have b2 : Below W1.heap.size W1 W2 := by rw [hW2]; exact ((Below.refl _ _).alloc (Nat.le_refl _) _).drew
  have z2 : W2.heap.size = w.heap.size + 2 := by rw [hW2]; simp [z1]
  have b12 : Below w.heap.size w W2 := b1.trans (b2.mono b1.size)
  have RD := Lib.hid (show Rd W2 (some ⟨W1.heap.size, 0, none⟩) (FDeed.encs [(k, 0)]) by
    rw [hW2]
    exact (rd_new W1 #[.int .i64 k, .int .i64 0] 68).below (Below.refl _ _).drew)
  have C1 := (b1.cell (p := ⟨pb, 1, none⟩) lt).trans cl
  have lt1 : pb < W1.heap.size := by omega
  have CW := Lib.hid (show ∀ W, Below W1.heap.size W1 W → (W.cell? ⟨pb, 1, none⟩ = some (.slice xa L.length xc) ∧ W.cell? ⟨w.heap.size, 0, none⟩ = some (.int .i64 k) ∧ W.cell? ⟨w.heap.size, 1, none⟩ = some (.int .i64 0)) from fun W h => ⟨(h.cell (p := ⟨pb, 1, none⟩) lt1).trans C1, (KD.out.below h).get 0 _ rfl, (KD.out.below h).get 1 _ rfl⟩)
  have P2 := Lib.hid (P.below b12)
  have O2 := Lib.hid (O.below b12)
  have C02 := Lib.hid ((b12.cell (p := ⟨pb, 0, none⟩) lt).trans c0)
  have C12 := Lib.hid ((b12.cell (p := ⟨pb, 1, none⟩) lt).trans cl)
  have F12 := Lib.hid ((b12.frozen (p := ⟨pb, 1, none⟩) lt).trans fz)
  have HB := Lib.hid hB
  have HM := Lib.hid hM
  have HLE := Lib.hid le
  have HLT := Lib.hid lt
  have HNL := Lib.hid nl
  have HOL := Lib.hid (show ∀ g, (Value.slice xa L.length xc).ownBlock = some g → g < w.heap.size from fun g hg => (O.blockLt g hg).2)
  have HB2 := Lib.hid (b12.mono hM)
  have V2 := Lib.hid (V.step (b12.mono hM))
  have KD2 := Lib.hid (KD.out.below b2)
  have HZ2 := Lib.hid z2
  have HZ1 := Lib.hid z1
  have HW1 := Lib.hid hW1.symm
  have HW2 := Lib.hid hW2.symm
  have hln : L.length + [(k, (0 : Int))].length ≤ 16777216 := by simp; omega
  have hzz : W1.heap.size < W2.heap.size := by omega
  clear P O cl nl hB c0 fz lt le hM b1 hW1 z1 hW2 b2 z2 b12 C1 lt1 V KD
  go_enter Try.func50, Try.ntmps50
  go_upto_region 1 with (fail)
  rw [HW1.out]
  refine wpX_start (fun W => W.cell? ⟨pb, 1, none⟩ = some (.slice xa L.length xc) ∧ W.cell? ⟨w.heap.size, 0, none⟩ = some (.int .i64 k) ∧ W.cell? ⟨w.heap.size, 1, none⟩ = some (.int .i64 0)) [7, 8, 9, 10] (by kernel_rfl) ?_
  have hC := CW.out W1.drew (Below.refl W1.heap.size W1).drew
  refine wpX_free (i := 0) (v := ?_) rfl (by kernel_rfl) (fun _ _ _ h => h) rfl (fun w' => ?_) ?_
  rotate_left
  · go_simp; try with_reducible rfl
  try simp only [Act.put, List.setIfInBounds_toArray, List.set_cons_zero, List.set_cons_succ]
  refine wpX_free (i := 1) (v := ?_) rfl (by kernel_rfl) (fun _ _ _ h => h) rfl (fun w' => ?_) ?_
  rotate_left
  · go_simp; try with_reducible rfl
  try simp only [Act.put, List.setIfInBounds_toArray, List.set_cons_zero, List.set_cons_succ]
  refine wpX_free (i := 2) (v := ?_) rfl (by kernel_rfl) (fun _ _ _ h => h) rfl (fun w' => ?_) ?_
  rotate_left
  · go_simp; try with_reducible rfl
  try simp only [Act.put, List.setIfInBounds_toArray, List.set_cons_zero, List.set_cons_succ]
  refine wpX_free (i := 3) (v := ?_) rfl (by kernel_rfl) (fun _ _ _ h => h) rfl (fun w' => ?_) ?_
  rotate_left
  · go_simp; try with_reducible rfl
  try simp only [Act.put, List.setIfInBounds_toArray, List.set_cons_zero, List.set_cons_succ]
  refine wpX_load (i := 4) (v := ?_) rfl (by kernel_rfl) (fun _ _ _ h => h) hC rfl (fun w' hw' => ?_) ?_
  rotate_left
  · obtain ⟨k1, k2, k3⟩ := hw'; go_simp; try with_reducible rfl
  try simp only [Act.put, List.setIfInBounds_toArray, List.set_cons_zero, List.set_cons_succ]
  refine wpX_load (i := 5) (v := ?_) rfl (by kernel_rfl) (fun _ _ _ h => h) hC rfl (fun w' hw' => ?_) ?_
  rotate_left
  · obtain ⟨k1, k2, k3⟩ := hw'; go_simp; try with_reducible rfl
  try simp only [Act.put, List.setIfInBounds_toArray, List.set_cons_zero, List.set_cons_succ]
  refine wpX_one (i := 6) rfl (by kernel_rfl) rfl ?_
  intro K hK
  go_simp
  rw [HW2.out]
  have hC := CW.out W2 (by rw [← HW2.out]; exact ((Below.refl _ _).alloc (Nat.le_refl _) _).drew)
  refine hK _ _ hC ?_
  clear hK K
  try simp only [Act.put, List.setIfInBounds_toArray, List.set_cons_zero, List.set_cons_succ]
  refine wpX_rest (t := [7, 8, 9, 10]) (l := [_, _, _, _]) rfl (by kernel_rfl) (by kernel_rfl) ?_
  clear hC
  refine Flat.append_at FDeed W2 (.tmp 14) (.tmp 16) rfl rfl (base := M) (v := .slice xa L.length xc) (xs := L) (ys := [(k, 0)]) rfl O2.out rfl RD.out hln (Nat.le_trans HM.out (by have := HZ2.out; omega)) ?_
  intro v' w3 o3 q3 at3
  have F3 := Fs.of_grown (S := fun g => (Value.slice xa L.length xc).ownBlock = some g) q3 (fun g hg => hg)
  have lt2 : pb < W2.heap.size := by have := HZ2.out; have := HLT.out; omega
  have HN := HNL.out
  have P3 := P2.out.fs F3 (fun g hg h => (HB.out g hg).2.1 h)
  have c03 := (F3.cell (p := ⟨pb, 0, none⟩) lt2 HN).trans C02.out
  have c13 := (F3.cell (p := ⟨pb, 1, none⟩) lt2 HN).trans C12.out
  have f3 : w3.frozen? ⟨pb, 1, none⟩ = false := by have h := F12.out; unfold World.frozen? at h ⊢; rw [F3.block pb lt2 HN]; exact h
  have kd3 : CellsAt w3 w.heap.size [.int .i64 k, .int .i64 0] := KD2.out.fs F3 (fun h => Nat.lt_irrefl _ (HOL.out _ h))
  have B3 := HB2.out.trans (F3.below (Nat.le_trans HM.out HB2.out.size) (fun g hg => (O2.out.blockLt g hg).1))
  have at3 : v'.ownBlock = (Value.slice xa L.length xc).ownBlock ∨ v'.ownBlock = some W2.heap.size := at3
  have hvl : v'.ownBlock ≠ some pb := fun h => at3.elim (fun h2 => HN (h2 ▸ h)) (fun h2 => by rw [h2] at h; simp at h; omega)
  have z3 : pb < w3.heap.size := Nat.lt_of_lt_of_le lt2 F3.size
  have FX : Fs (fun g => g = pb) w3 (w3.setCell ⟨pb, 1, none⟩ v') := Fs.set (S := fun g => g = pb) (Fs.refl _ _) rfl _
  obtain ⟨W4, hW4⟩ : ∃ W4, W4 = w3.setCell ⟨pb, 1, none⟩ v' := ⟨_, rfl⟩
  have bs4 : (w3.setCell ⟨pb, 1, none⟩ v').heap.size = w3.heap.size := by simp
  have P4 := Lib.hid (show RunIs W4 b sb B S vl vr ve vh vw vo by rw [hW4]; exact P3.fs FX (fun g hg h => (HB.out g hg).1.2 h))
  have O4 := Lib.hid (show FDeed.Own W4 M v' (L ++ [(k, 0)]) by rw [hW4]; exact o3.off FX (fun g hg h => hvl (h ▸ hg)))
  have C04 := Lib.hid (show W4.cell? ⟨pb, 0, none⟩ = some (.pointer (some ⟨b, 0, none⟩)) by rw [hW4]; simp [go_sem, c03])
  have C14 := Lib.hid (show W4.cell? ⟨pb, 1, none⟩ = some v' by rw [hW4]; simp [go_sem, c13])
  have F4 := Lib.hid (show W4.frozen? ⟨pb, 1, none⟩ = false by rw [hW4]; simpa using f3)
  have KD4 := Lib.hid (show CellsAt W4 w.heap.size [.int .i64 k, .int .i64 0] by rw [hW4]; exact kd3.fs FX (fun h => by have := HLT.out; omega))
  have B4 := Lib.hid (show Below M w W4 by rw [hW4]; exact B3.setCell HLE.out v')
  have V4 := Lib.hid (show SvF M W4 sb n t sv xss bs sm wk by rw [hW4]; exact V2.out.step ((F3.below (Nat.le_trans HM.out HB2.out.size) (fun g hg => (O2.out.blockLt g hg).1)).setCell HLE.out v'))
  have LT4 := Lib.hid (show pb < W4.heap.size by rw [hW4]; rw [bs4]; exact z3)
  have HVB := Lib.hid (show ∀ g, B g → v'.ownBlock ≠ some g from fun g hg h => at3.elim (fun h2 => (HB.out g hg).2.1 (h2 ▸ h)) (fun h2 => by rw [h2] at h; simp at h; have := (HB.out g hg).2.2; have := HZ2.out; omega))
  have HVL := Lib.hid hvl
  have HW4 := Lib.hid hW4.symm
  obtain ⟨na, nc, hv', _, _⟩ := o3.shape
  simp only [List.length_append, List.length_cons, List.length_nil, Nat.zero_add] at hv'
  clear F3 lt2 HN P3 kd3 B3 at3 hvl z3 FX hW4 bs4 q3 o3
  subst hv'
  go_wp2_with fail
  rw [HW4.out]
  refine wpX_start (fun W => W.cell? ⟨pb, 0, none⟩ = some (.pointer (some ⟨b, 0, none⟩)) ∧ W.cell? ⟨w.heap.size, 0, none⟩ = some (.int .i64 k) ∧ W.cell? ⟨w.heap.size, 1, none⟩ = some (.int .i64 0)) [5] (by kernel_rfl) ?_
  have BD := Lib.hid (Below.refl W4.heap.size W4).drew
  have hC : W4.drew.cell? ⟨pb, 0, none⟩ = some (.pointer (some ⟨b, 0, none⟩)) ∧ W4.drew.cell? ⟨w.heap.size, 0, none⟩ = some (.int .i64 k) ∧ W4.drew.cell? ⟨w.heap.size, 1, none⟩ = some (.int .i64 0) := ⟨C04.out, KD4.out.get 0 _ rfl, KD4.out.get 1 _ rfl⟩
  refine wpX_free (i := 0) (v := ?_) rfl (by kernel_rfl) (fun _ _ _ h => h) rfl (fun w' => ?_) ?_
  rotate_left
  · go_simp; try with_reducible rfl
  try simp only [Act.put, List.setIfInBounds_toArray, List.set_cons_zero, List.set_cons_succ]
  refine wpX_free (i := 1) (v := ?_) rfl (by kernel_rfl) (fun _ _ _ h => h) rfl (fun w' => ?_) ?_
  rotate_left
  · go_simp; try with_reducible rfl
  try simp only [Act.put, List.setIfInBounds_toArray, List.set_cons_zero, List.set_cons_succ]
  refine wpX_free (i := 2) (v := ?_) rfl (by kernel_rfl) (fun _ _ _ h => h) rfl (fun w' => ?_) ?_
  rotate_left
  · go_simp; try with_reducible rfl
  try simp only [Act.put, List.setIfInBounds_toArray, List.set_cons_zero, List.set_cons_succ]
  refine wpX_load (i := 3) (v := ?_) rfl (by kernel_rfl) (fun _ _ _ h => h) hC rfl (fun w' hw' => ?_) ?_
  rotate_left
  · obtain ⟨k1, k2, k3⟩ := hw'; go_simp; try with_reducible rfl
  try simp only [Act.put, List.setIfInBounds_toArray, List.set_cons_zero, List.set_cons_succ]
  refine wpX_load (i := 4) (v := ?_) rfl (by kernel_rfl) (fun _ _ _ h => h) hC rfl (fun w' hw' => ?_) ?_
  rotate_left
  · obtain ⟨k1, k2, k3⟩ := hw'; go_simp; try with_reducible rfl
  try simp only [Act.put, List.setIfInBounds_toArray, List.set_cons_zero, List.set_cons_succ]
  refine wpX_rest (t := [5]) (l := [_]) rfl (by kernel_rfl) (by kernel_rfl) ?_
  clear hC
  have HD := RnDo_any W4.drew (P4.out.below BD.out) (V4.out.step (BD.out.mono (Nat.le_trans HLE.out (Nat.le_of_lt LT4.out)))) (fun g hg => (HB.out g hg).1.1) hI hok k 0 hd
  generalize hR : doS t xss bs sm wk (k, 0) S = R at HD
  obtain ⟨rc, Sn⟩ := R
  have HD := Lib.hid HD
  have HRR := Lib.hid hR
  clear hR
  go_wp2_with fail
  refine HD.out.mono ?_
  intro e w6 h
  obtain ⟨rfl, ⟨vl', vr', ve', vh', vw', vo', P6⟩, F6⟩ := h
  have hnp : ¬ B pb := fun h => (HB.out pb h).1.2 rfl
  have hM4 : M ≤ W4.drew.heap.size := Nat.le_trans HLE.out (Nat.le_of_lt LT4.out)
  have O6 := (O4.out.below BD.out).off F6 (fun g hg h => HVB.out g h hg)
  have c06 := (F6.cell (p := ⟨pb, 0, none⟩) LT4.out hnp).trans C04.out
  have c16 := (F6.cell (p := ⟨pb, 1, none⟩) LT4.out hnp).trans C14.out
  have f6 : w6.frozen? ⟨pb, 1, none⟩ = false := by have h := F4.out; unfold World.frozen? at h ⊢; rw [F6.block pb LT4.out hnp]; exact h
  have P6 := P6.tight (B' := fun g => (M ≤ g ∧ g ≠ pb) ∧ (Value.slice na (L.length + 1) nc).ownBlock ≠ some g ∧ g < w6.heap.size) (fun g h1 h2 => h1.elim (fun h => ⟨(HB.out g h).1, HVB.out g h, h2⟩) (fun h => ⟨⟨Nat.le_trans hM4 h, fun h3 => by have := LT4.out; have h4 : W4.heap.size ≤ g := h; omega⟩, fun h3 => by have := (O4.out.blockLt g h3).2; have h4 : W4.heap.size ≤ g := h; omega, h2⟩))
  have FN := Lib.hid (show FinP w6 b sb pb M Sn (L ++ [(k, 0)]) from ⟨⟨_, _, _, _, _, _, _, _, P6, O6, c16, HVL.out, fun g hg => hg⟩, c06, f6, Nat.lt_of_lt_of_le LT4.out F6.size, HLE.out⟩)
  have BN := Lib.hid ((B4.out.trans (BD.out.mono hM4)).trans (F6.below hM4 (fun g hg => (HB.out g hg).1.1)))
  clear O6 c06 c16 f6 P6 F6
  go_wp2
  exact bodyPost_end (v := .tuple #[]) (by simp [results, Try.results50, go_sem]) rfl ⟨rfl, by rw [HRR.out]; exact FN.out, BN.out⟩
end Go.Proofs.Ytijpkcdalmlaiaa
namespace Go.Proofs.Ytijpkcdalmlaiaa
open Go.RowKit Go.Sort
theorem finR_len (n t : Int) (xss : List (List Int)) (bs sm wk : Int) (ds : List (Int × Int)) : (finR n t xss bs sm wk ds).1.length ≤ 400 := by
  unfold finR
  split
  · rename_i h
    obtain ⟨hok, hall, _⟩ := dcode_zero h
    obtain ⟨n', sm', wk', rfl, rfl, rfl, hs, _, _⟩ := servOk_nat hok
    rw [Int.toNat_natCast, Int.toNat_natCast]
    have hI := afterS_inv (n := n') (bs := bs) (wk := wk') (serviceOk_parts hok).1 hs.1 ds (newS sm' wk') hall (PInv.new hs.1)
    have h := finL_len (t := t) (xss := xss) (bs := bs) (wk := wk') hs.2 hI.wl
    split
    · simp
    · exact h
  · simp

set_option maxRecDepth 100000 in
set_option maxHeartbeats 8000000 in
theorem SpecFinishDeeds_any {u : Value} {xss : List (List Int)} {ds : List (Int × Int)} {rv : Value} (n t bs sm wk : Int) (w : World) (ha : SlII w u xss) (hr : FDeed.Sl w rv ds) :
    Calls Try.prog 22 #[.agg #[.int .i64 n, .int .i64 t, u, .int .i64 bs, .int .i64 sm, .int .i64 wk], rv] w fun e w' => ∃ v, e = .returned (.tuple #[v, .int .i64 (finR n t xss bs sm wk ds).2]) ∧ FDeed.Own w' w.heap.size v (finR n t xss bs sm wk ds).1 ∧ Below w.heap.size w w' := by
  have bx : Below w.heap.size w (w.alloc (svObj n t u bs sm wk)) := (Below.refl _ _).alloc (Nat.le_refl _) _
  have KV := Lib.hid (fun W (h : Below (w.alloc (svObj n t u bs sm wk)).heap.size (w.alloc (svObj n t u bs sm wk)) W) => (svBox w n t u bs sm wk).below h)
  have HA := Lib.hid (fun W (h : Below w.heap.size w W) => ha.below h)
  have HR := Lib.hid (fun W (h : Below w.heap.size w W) => hr.below h)
  have K := Lib.hid (l09Asked_any w.heap.size n t bs sm wk _ (svBox w n t u bs sm wk) (ha.below bx) (hr.below bx))
  obtain ⟨ra, rc, rfl, hrc, hrc2, _⟩ := id hr
  obtain ⟨a, ca, us, rfl, _⟩ := id ha
  unfold maxLen at hrc2
  generalize hq : dcode n t xss bs sm wk ds = q at K
  have HQ := Lib.hid hq
  by_cases h0 : q = 0
  · subst h0
    obtain ⟨hok, hall, hlen⟩ := dcode_zero hq
    obtain ⟨n', sm', wk', rfl, rfl, rfl, hs, hwk, hn6⟩ := servOk_nat hok
    have hch := (serviceOk_parts hok).1
    have hI := afterS_inv (n := n') (bs := bs) (wk := wk') hch hs.1 ds (newS sm' wk') hall (PInv.new hs.1)
    have HF := Lib.hid (show finR n' t xss bs sm' wk' ds = (if 400 < ds.length + (finL t xss bs sm' wk' (afterS t xss bs sm' wk' ds (newS sm' wk'))).length then ([], 3) else (finL t xss bs sm' wk' (afterS t xss bs sm' wk' ds (newS sm' wk')), 0)) by unfold finR; rw [if_pos HQ.out, Int.toNat_natCast, Int.toNat_natCast])
    have HALL := Lib.hid hall
    have HOK := Lib.hid hok
    have HCH := Lib.hid hch
    have t0 : ((0 : Int) != 0) = false := rfl
    clear hq ha hr hall hok HQ hch
    go_enter Try.func22, Try.ntmps22
    go_wp2_with fail
    refine K.out.mono ?_
    rintro e w1 ⟨rfl, b1⟩
    have B1 := Lib.hid (bx.trans (b1.mono bx.size))
    have V1 := Lib.hid (KV.out w1 b1)
    have HV := Lib.hid (show SvF w1.heap.size w1 w.heap.size n' t (.slice a xss.length ca) xss bs sm' wk' from ⟨Nat.le_refl _, fun W h => ⟨V1.out.below h, HA.out W (B1.out.trans (h.mono B1.out.size))⟩⟩)
    clear bx b1 K KV
    go_wp2_with fail
    refine (l09Play_any w1 V1.out (HA.out _ B1.out) (HR.out _ B1.out) HOK.out HALL.out hlen).mono ?_
    rintro e w2 ⟨v, rfl, ho, ⟨vl, vr, ve, vh, vw, vo, P⟩, b2⟩
    obtain ⟨va, vc, hv, _⟩ := id ho.sl
    generalize codesS t xss bs sm' wk' ds (newS sm' wk') = Cs at ho hv
    subst hv
    generalize afterS t xss bs sm' wk' ds (newS sm' wk') = Sk at P HF hI
    have hblt := P.hold.lt
    have P2 := Lib.hid (P.tight (B' := fun g => w1.heap.size ≤ g ∧ g < w2.heap.size) (fun g h1 h2 => ⟨h1, h2⟩))
    have b3 : Below w2.heap.size w2 (w2.alloc (.cells #[.pointer (some ⟨w1.heap.size, 0, none⟩), .slice none 0 0] 95)) := (Below.refl _ _).alloc (Nat.le_refl _) _
    obtain ⟨W3, hW3⟩ : ∃ W3, W3 = w2.alloc (.cells #[.pointer (some ⟨w1.heap.size, 0, none⟩), .slice none 0 0] 95) := ⟨_, rfl⟩
    have z3 : W3.heap.size = w2.heap.size + 1 := by rw [hW3]; simp
    have c0 : W3.cell? ⟨w2.heap.size, 0, none⟩ = some (.pointer (some ⟨w1.heap.size, 0, none⟩)) := by rw [hW3]; simp [go_sem]
    have c1 : W3.cell? ⟨w2.heap.size, 1, none⟩ = some (.slice none 0 0) := by rw [hW3]; simp [go_sem]
    have f1 : W3.frozen? ⟨w2.heap.size, 1, none⟩ = false := by rw [hW3]; simp [go_sem]
    rw [← hW3] at b3
    have zb := b2.size
    have FW := Lib.hid (show FinP W3 w1.heap.size w.heap.size w2.heap.size w1.heap.size Sk [] from
      ⟨⟨fun g => w1.heap.size ≤ g ∧ g < w2.heap.size, _, _, _, _, _, _, _, P2.out.below b3, Flat.Own.nil _ _, c1, by simp [Value.ownBlock], fun g hg => ⟨⟨hg.1, by omega⟩, by simp [Value.ownBlock], by omega⟩⟩, c0, f1, by omega, by omega⟩)
    have BW := Lib.hid (show Below w1.heap.size w1 W3 from b2.trans (b3.mono b2.size))
    have HW3 := Lib.hid hW3.symm
    have hlen5 := finL_len (t := t) (xss := xss) (bs := bs) (wk := wk') hs.2 hI.wl
    obtain ⟨FL, hFL⟩ : ∃ FL, FL = finL t xss bs sm' wk' Sk := ⟨_, rfl⟩
    rw [← hFL] at HF hlen5
    have HI := Lib.hid hI
    have HFL := Lib.hid hFL
    obtain ⟨wa, wc, rfl, _, _⟩ := P2.out.ow.shape
    have P3 := Lib.hid (P2.out.below b3)
    have q7 := P3.out.get.2.2.2.1
    have hwl := HI.out.wl
    clear P ho b2 b3 hW3 z3 c0 c1 f1 zb hI hFL
    go_upto_region 6 with (fail)
    rw [HW3.out]
    go_wp2
    go_loopg [10] Sk.wire.length (fun k i wr => ∃ (S : PS) (L : List (Int × Int)), i = .int .i64 k ∧ k ≤ 12 ∧ FinP wr w1.heap.size w.heap.size w2.heap.size w1.heap.size S L ∧ Hid (PInv n' sm' wk' S) ∧ Hid (S.wire.length = k) ∧ Hid (L ++ finL t xss bs sm' wk' S = FL) ∧ Below w1.heap.size w1 wr)
    case atStart => exact ⟨Sk, [], rfl, hwl, FW.out, HI.out, rfl, HFL.out.symm, BW.out⟩
    case round =>
      obtain ⟨S, L, rfl, hk12, F, hI, hk, hL, hb⟩ := hrel
      have hll : L.length ≤ 400 := by have h1 := congrArg List.length hL.out; rw [List.length_append] at h1; omega
      have hv := Lib.hid (HV.out.step hb)
      by_cases hz : gk = 0
      · subst hz
        have hz := hk.out
        have KF := Lib.hid (PlanDo_any (t := t) (bs := bs) wr F hv.out hI.out HOK.out 10 rfl (by omega))
        have HI2 := Lib.hid (hI.out.do0 (t := t) (xss := xss) (bs := bs) HCH.out hs.1 10)
        obtain ⟨e1, e2⟩ := quit_end (t := t) (xss := xss) (bs := bs) hI.out hwk.1 hz
        have e3 := hL.out
        rw [finL_end hz] at e3
        generalize (doS t xss bs sm' wk' (10, 0) S).2 = S2 at KF HI2 e1 e2 e3
        have E1 := Lib.hid e1
        have E2 := Lib.hid e2
        have E3 := Lib.hid (show (L ++ [(10, 0)]) ++ tailR t xss bs sm' wk' S2 = FL by rw [List.append_assoc]; exact e3)
        have HB := Lib.hid hb
        clear F hI hk hL hz hb e1 e2 e3 hv
        go_wp2_with fail
        refine KF.out.mono ?_
        rintro e w3 ⟨rfl, F3, b3⟩
        have F3 := Lib.hid F3
        have B3 := Lib.hid (HB.out.trans b3)
        clear b3 KF
        go_wp2
        go_loopg [] (9 * sm' + 1) (fun k wr => ∃ (S : PS) (L : List (Int × Int)), FinP wr w1.heap.size w.heap.size w2.heap.size w1.heap.size S L ∧ Hid (PInv n' sm' wk' S) ∧ Hid (S.wire = []) ∧ Hid (S.hands.getD 0 noHand = noHand) ∧ Hid (9 * sm' + 1 - S.recs.length ≤ k) ∧ Hid (L ++ tailR t xss bs sm' wk' S = FL) ∧ Below w1.heap.size w1 wr)
        case atStart => exact ⟨S2, _, F3.out, HI2, E1, E2, by unfold Hid; omega, E3, B3.out⟩
        case round =>
          clear hll
          obtain ⟨S, L, F, hI, hwr, hhd, hk, hL, hb⟩ := hrel
          obtain ⟨B, vl, vr, ve, vh, vw, vo, va, P, O, cl, nl, hB⟩ := id F.ex
          have hls : S.l.length = sm' := hI.out.desk.ok.1
          have hll : L.length ≤ 400 := by have h1 := congrArg List.length hL.out; rw [List.length_append] at h1; omega
          have hv := Lib.hid (HV.out.step hb)
          have KN := Lib.hid (RnNext_any wr P hv.out hls hs.2)
          by_cases hn : nextS S.l S.r sm' < 0
          · have hnx : ∀ i, i < sm' → S.r.getD i 0 ≠ -1 := fun i hi => nextS_lt hn i hi
            have e3 := hL.out
            rw [tailR_end (t := t) (xss := xss) (bs := bs) (wk := wk') hI.out hn] at e3
            generalize nextS S.l S.r sm' = nx at KN hn
            have hng : ¬ (0 : Int) ≤ nx := by omega
            have HNX := Lib.hid hnx
            have E3 := Lib.hid e3
            have HB := Lib.hid hb
            have HF3 := Lib.hid F
            clear P O cl nl hB hL hb e3 hnx hn F hls
            go_wp2_with fail
            refine KN.out.mono ?_
            rintro e w4 ⟨rfl, b4⟩
            have B4 := Lib.hid (HB.out.trans (b4.mono HB.out.size))
            have F4 := Lib.hid (HF3.out.below b4)
            clear b4 KN
            go_wp2
            go_loopg [] (9 * sm' + 1) (fun k wr => ∃ (S : PS) (L : List (Int × Int)), FinP wr w1.heap.size w.heap.size w2.heap.size w1.heap.size S L ∧ Hid (PInv n' sm' wk' S) ∧ Hid (∀ i, i < sm' → S.r.getD i 0 ≠ -1) ∧ Hid (9 * sm' + 1 - S.recs.length ≤ k) ∧ Hid (L ++ tailO t xss bs sm' wk' S = FL) ∧ Below w1.heap.size w1 wr)
            case atStart => exact ⟨S, L, F4.out, hI, HNX, by unfold Hid; omega, E3, B4.out⟩
            case round =>
              clear hll
              obtain ⟨S, L, F, hI, hnx, hk, hL, hb⟩ := hrel
              obtain ⟨B, vl, vr, ve, vh, vw, vo, va, P, O, cl, nl, hB⟩ := id F.ex
              obtain ⟨xa, xc, rfl, _, _⟩ := O.shape
              obtain ⟨⟨_, _, _, q3, _⟩, _⟩ := P.get
              have hll : L.length ≤ 400 := by have h1 := congrArg List.length hL.out; rw [List.length_append] at h1; omega
              have hv := Lib.hid (HV.out.step hb)
              have k4 := (servCells hv.out.now.1).2.2.2.2.1
              have kq3 := fun d os => cell_regrown q3 d os
              have kk4 := fun d os => cell_regrown k4 d os
              clear q3 k4
              by_cases hq : S.q < (sm' : Int)
              · have HFF := Lib.hid F
                have HB := Lib.hid hb
                have e3 := hL.out
                rw [tailO_step hI.out hnx.out hq] at e3
                have hil := hI.out.len
                obtain ⟨e1, e2⟩ := out_do (t := t) (xss := xss) (bs := bs) hI.out hnx.out hq
                have E3' := Lib.hid e3
                clear F P O cl nl hB hL hb e3
                go_wp2_with fail
                refine wp_region_quiet_below (by kernel_rfl) (by kernel_rfl) ?_
                repeat (first | go_big_quiet_skip | quiet_step (fail))
                refine wpQuiet_nil ?_
                intro _ hw'
                obtain ⟨⟨dq, osq⟩, hw''⟩ := hw'
                subst hw''
                have bq := below_regrown wr dq osq
                generalize grow (redrawn wr dq) osq = wq at bq ⊢
                have KF := Lib.hid (PlanDo_any (t := t) (bs := bs) wq (HFF.out.below bq) (hv.out.step (bq.mono HB.out.size)) hI.out HOK.out 7 rfl (by omega))
                have HI2 := Lib.hid (hI.out.do0 (t := t) (xss := xss) (bs := bs) HCH.out hs.1 7)
                have e3 := E3'.out
                generalize (doS t xss bs sm' wk' (7, 0) S).2 = S2 at KF HI2 e1 e2 e3
                have HNX := Lib.hid (show ∀ i, i < sm' → S2.r.getD i 0 ≠ -1 by rw [e2]; exact hnx.out)
                have E3 := Lib.hid (show (L ++ [(7, 0)]) ++ tailO t xss bs sm' wk' S2 = FL by rw [List.append_assoc]; exact e3)
                have HK2 := Lib.hid (show 9 * sm' + 1 - S2.recs.length < gk by have := hk.out; omega)
                have HBQ := Lib.hid (HB.out.trans (bq.mono HB.out.size))
                clear e1 e2 e3 hnx hil hI hk E3' HFF hv bq kq3 kk4
                go_wp2_with fail
                refine KF.out.mono ?_
                rintro e w5 ⟨rfl, F5, b5⟩
                have F5 := Lib.hid F5
                have B5 := Lib.hid (HBQ.out.trans b5)
                clear b5 KF
                go_wp2
                go_roundg (9 * sm' + 1 - S2.recs.length)
                case measure => exact HK2.out
                case rel => exact ⟨S2, _, F5.out, HI2, HNX, Nat.le_refl _, E3, B5.out⟩
              · have e3 := hL.out
                rw [tailO_end hI.out hq, List.append_nil] at e3
                subst e3
                have HB := Lib.hid hb
                have HO := Lib.hid (O.lower B1.out.size)
                have HC := Lib.hid cl
                have hlt := F.lt
                have hge : (sm' : Int) ≤ S.q := by omega
                clear F P O nl hB hI hk hL hb hnx cl hv
                go_wp2_with fail
                refine wp_region_quiet_below (by kernel_rfl) (by kernel_rfl) ?_
                repeat (first | go_big_quiet_skip | quiet_step (fail))
                refine wpQuiet_nil ?_
                intro _ hw'
                obtain ⟨⟨dq, osq⟩, hw''⟩ := hw'
                subst hw''
                have bq := below_regrown wr dq osq
                generalize grow (redrawn wr dq) osq = wq at bq ⊢
                have cl := (bq.cell (p := ⟨w2.heap.size, 1, none⟩) hlt).trans HC.out
                have HO := Lib.hid (HO.out.below bq)
                have HBQ := Lib.hid (B1.out.trans ((HB.out.trans (bq.mono HB.out.size)).mono B1.out.size))
                clear bq kq3 kk4 hlt
                by_cases h4 : 400 < ds.length + L.length
                · have i4 : (400 : Int) < (ds.length : Int) + (L.length : Int) := by omega
                  have HF := Lib.hid (HF.out.trans (if_pos h4))
                  go_wp2
                  refine bodyPost_ret (v := .tuple #[.slice (some ⟨wq.heap.size, 0, none⟩) 0 0, .int .i64 3]) (by simp [results, Try.results22, go_sem]) rfl ⟨_, by rw [HF.out], ?_, HBQ.out.alloc HBQ.out.size _⟩
                  rw [HF.out]
                  exact Flat.Own.empty _ HBQ.out.size
                · have i4 : (ds.length : Int) + (L.length : Int) ≤ 400 := by omega
                  have HF := Lib.hid (HF.out.trans (if_neg h4))
                  go_wp2
                  refine bodyPost_ret (v := .tuple #[.slice xa L.length xc, .int .i64 0]) (by simp [results, Try.results22, go_sem]) rfl ⟨_, by rw [HF.out], ?_, HBQ.out⟩
                  rw [HF.out]
                  exact HO.out
          · have K1' := Lib.hid (fun w4 F4 b4 => PlanDo_any (b := w1.heap.size) (pb := w2.heap.size) (sb := w.heap.size) (M := w1.heap.size) (sv := .slice a xss.length ca) (xss := xss) (S := S) (L := L) (t := t) (bs := bs) w4 F4 b4 hI.out HOK.out 1 rfl (by omega))
            have HI1 := Lib.hid (hI.out.do0 (t := t) (xss := xss) (bs := bs) HCH.out hs.1 1)
            obtain ⟨e1, e2, e2'⟩ := round_do (t := t) (xss := xss) (bs := bs) hI.out hwk.1 hwr.out hhd.out hn
            have e3 := hL.out
            rw [tailR_step hI.out hwk.1 hwr.out hhd.out hn] at e3
            have hil := hI.out.len
            have ha : afterS t xss bs sm' wk' round4 S = (doS t xss bs sm' wk' (3, 0) (doS t xss bs sm' wk' (2, 0) (doS t xss bs sm' wk' (3, 0) (doS t xss bs sm' wk' (1, 0) S).2).2).2).2 := rfl
            rw [ha] at e1 e2 e2' e3
            generalize (doS t xss bs sm' wk' (1, 0) S).2 = S1 at K1' HI1 e1 e2 e2' e3
            have K2' := Lib.hid (fun w4 F4 b4 => PlanDo_any (b := w1.heap.size) (pb := w2.heap.size) (sb := w.heap.size) (M := w1.heap.size) (sv := .slice a xss.length ca) (xss := xss) (S := S1) (L := L ++ [(1, 0)]) (t := t) (bs := bs) w4 F4 b4 HI1.out HOK.out 3 rfl (by simp; omega))
            have HI2 := Lib.hid (HI1.out.do0 (t := t) (xss := xss) (bs := bs) HCH.out hs.1 3)
            generalize (doS t xss bs sm' wk' (3, 0) S1).2 = S2 at K2' HI2 e1 e2 e2' e3
            have K3' := Lib.hid (fun w4 F4 b4 => PlanDo_any (b := w1.heap.size) (pb := w2.heap.size) (sb := w.heap.size) (M := w1.heap.size) (sv := .slice a xss.length ca) (xss := xss) (S := S2) (L := L ++ [(1, 0)] ++ [(3, 0)]) (t := t) (bs := bs) w4 F4 b4 HI2.out HOK.out 2 rfl (by simp; omega))
            have HI3 := Lib.hid (HI2.out.do0 (t := t) (xss := xss) (bs := bs) HCH.out hs.1 2)
            generalize (doS t xss bs sm' wk' (2, 0) S2).2 = S3 at K3' HI3 e1 e2 e2' e3
            have K4' := Lib.hid (fun w4 F4 b4 => PlanDo_any (b := w1.heap.size) (pb := w2.heap.size) (sb := w.heap.size) (M := w1.heap.size) (sv := .slice a xss.length ca) (xss := xss) (S := S3) (L := L ++ [(1, 0)] ++ [(3, 0)] ++ [(2, 0)]) (t := t) (bs := bs) w4 F4 b4 HI3.out HOK.out 3 rfl (by simp; omega))
            have HI4 := Lib.hid (HI3.out.do0 (t := t) (xss := xss) (bs := bs) HCH.out hs.1 3)
            generalize (doS t xss bs sm' wk' (3, 0) S3).2 = S4 at K4' HI4 e1 e2 e2' e3
            have E1 := Lib.hid e1
            have E2 := Lib.hid e2
            have E3 := Lib.hid (show (L ++ [(1, 0)] ++ [(3, 0)] ++ [(2, 0)] ++ [(3, 0)]) ++ tailR t xss bs sm' wk' S4 = FL by simpa [round4] using e3)
            have HK2 := Lib.hid (show 9 * sm' + 1 - S4.recs.length < gk by have := hk.out; omega)
            generalize nextS S.l S.r sm' = nx at KN hn
            have hng : (0 : Int) ≤ nx := by omega
            have HB := Lib.hid hb
            have HF3 := Lib.hid F
            clear P O cl nl hB hL hb e3 hn F hls ha e1 e2 e2' hil hk hI hwr hhd hv
            go_wp2_with fail
            refine KN.out.mono ?_
            rintro e w4 ⟨rfl, b4⟩
            have B4 := Lib.hid (HB.out.trans (b4.mono (HB.out.size)))
            have F4 := Lib.hid (HF3.out.below b4)
            have K1' := Lib.hid (K1'.out w4 F4.out (HV.out.step B4.out))
            clear b4 KN
            go_wp2_with fail
            refine K1'.out.mono ?_
            rintro e w5 ⟨rfl, F5, b5⟩
            have B5 := Lib.hid (B4.out.trans b5)
            have K2' := Lib.hid (K2'.out w5 F5 (HV.out.step B5.out))
            clear F5 b5 K1'
            go_wp2_with fail
            refine K2'.out.mono ?_
            rintro e w6 ⟨rfl, F6, b6⟩
            have B6 := Lib.hid (B5.out.trans b6)
            have K3' := Lib.hid (K3'.out w6 F6 (HV.out.step B6.out))
            clear F6 b6 K2'
            go_wp2_with fail
            refine K3'.out.mono ?_
            rintro e w7 ⟨rfl, F7, b7⟩
            have B7 := Lib.hid (B6.out.trans b7)
            have K4' := Lib.hid (K4'.out w7 F7 (HV.out.step B7.out))
            clear F7 b7 K3'
            go_wp2_with fail
            refine K4'.out.mono ?_
            rintro e w8 ⟨rfl, F8, b8⟩
            have F8 := Lib.hid F8
            have B8 := Lib.hid (B7.out.trans b8)
            clear b8 K4'
            go_wp2
            go_roundg (9 * sm' + 1 - S4.recs.length)
            case measure => exact HK2.out
            case rel => exact ⟨S4, _, F8.out, HI4, E1, E2, Nat.le_refl _, E3, B8.out⟩
      · obtain ⟨k', rfl⟩ : ∃ k', gk = k' + 1 := ⟨gk - 1, by omega⟩
        have i1 : (0 : Int) < ((k' + 1 : Nat) : Int) := by omega
        have KF := Lib.hid (PlanDo_any (t := t) (bs := bs) wr F hv.out hI.out HOK.out 5 rfl (by omega))
        have HI2 := Lib.hid (hI.out.do0 (t := t) (xss := xss) (bs := bs) HCH.out hs.1 5)
        obtain ⟨e1, e2⟩ := finL_drop (t := t) (xss := xss) (bs := bs) (sm := sm') (wk := wk') hk.out
        have e3 := hL.out
        rw [e1] at e3
        generalize (doS t xss bs sm' wk' (5, 0) S).2 = S2 at KF HI2 e2 e3
        have E2 := Lib.hid e2
        have E3 := Lib.hid (show (L ++ [(5, 0)]) ++ finL t xss bs sm' wk' S2 = FL by rw [List.append_assoc]; exact e3)
        have HB := Lib.hid hb
        clear F hI hk hL hz hb e1 e2 e3 hv
        go_wp2_with fail
        refine KF.out.mono ?_
        rintro e w3 ⟨rfl, F3, b3⟩
        have F3 := Lib.hid F3
        have B3 := Lib.hid (HB.out.trans b3)
        clear b3 KF
        go_wp2
        go_roundg k'
        case measure => omega
        case rel => exact ⟨S2, _, by go_num, by omega, F3.out, HI2, E2, E3, B3.out⟩
  · have HF := Lib.hid (show finR n t xss bs sm wk ds = ([], q) by unfold finR; rw [HQ.out, if_neg h0])
    have t0 : (q != 0) = true := by simp [h0]
    clear hq h0
    go_enter Try.func22, Try.ntmps22
    go_wp2_with fail
    refine K.out.mono ?_
    rintro e w1 ⟨rfl, b1⟩
    go_wp2
    refine bodyPost_ret (v := .tuple #[.slice (some ⟨w1.heap.size, 0, none⟩) 0 0, .int .i64 q]) (by simp [results, Try.results22, go_sem]) rfl ⟨_, by rw [HF.out], ?_, (bx.trans (b1.mono bx.size)).alloc (bx.trans (b1.mono bx.size)).size _⟩
    rw [HF.out]
    exact Flat.Own.empty _ (bx.trans (b1.mono bx.size)).size
end Go.Proofs.Ytijpkcdalmlaiaa
