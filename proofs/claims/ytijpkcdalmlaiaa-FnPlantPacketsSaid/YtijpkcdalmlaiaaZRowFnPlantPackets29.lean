/-
  A plant in memory: a new desk, a number. With it: slices.Delete of one packet; slices.Clone of records; the next sample of a desk. The program's plant: work is given out. The program's plant: a worker works.
-/
import Derived.Test.YtijpkcdalmlaiaaZRowFnPlantPackets27
import Derived.Deep.DeepAppendRoom
import Derived.Lib.SliceRun
import Derived.Test.YtijpkcdalmlaiaaZRowFnPlantPackets22
import Derived.Test.YtijpkcdalmlaiaaZRowFnPlantPackets14
set_option linter.unusedVariables false
set_option linter.unusedSimpArgs false
namespace Go.Proofs.Ytijpkcdalmlaiaa
open Go.RowKit Go.Sort
namespace Flat
variable {α : Type} {F : Flat α}
theorem Own.cut {w : World} {base g n c : Nat} {ys : List α} (h : F.Own w base (.slice (some ⟨g, 0, none⟩) n c) ys) {k : Nat} (hk : k ≤ ys.length) : F.Own w base (.slice (some ⟨g, 0, none⟩) k c) (ys.take k) := by
  have hl : (ys.take k).length = k := by simp; omega
  rcases h.2 with ⟨h1, _⟩ | ⟨g', cap, cur, h1, h2, h3, h4, h5, h6, h7⟩
  · simp at h1
  · simp only [Value.slice.injEq, Option.some.injEq, Addr.mk.injEq] at h1
    obtain ⟨⟨rfl, _, _⟩, hn, rfl⟩ := h1
    have hle : k * F.size ≤ ys.length * F.size := Nat.mul_le_mul_right _ hk
    refine ⟨by rw [encs_length, hl], .inr ⟨g, c, cur, by rw [hl], h2, h3, by rw [hl]; omega, h5, h6, ?_⟩⟩
    rw [hl]
    have := congrArg (List.take (k * F.size)) h7
    rw [List.take_take, Nat.min_eq_left hle] at this
    rw [this]
    have e : F.encs ys = F.encs (ys.take k) ++ F.encs (ys.drop k) := by rw [← encs_append, List.take_append_drop]
    rw [e, List.take_left' (by rw [encs_length, hl])]
theorem Own.fillBeyond {base g n c : Nat} {xs : List α} : ∀ (vs : List Value) (o : Nat) (w : World), n * F.size ≤ o → F.Own w base (.slice (some ⟨g, 0, none⟩) n c) xs → F.Own (w.setCells g o vs) base (.slice (some ⟨g, 0, none⟩) n c) xs
  | [], _, w, _, h => h
  | v :: r, o, w, ho, h => by
    obtain rfl := h.len_of
    have h0 : w.ownsRow base F.E F.size (.slice (some ⟨g, 0, none⟩) xs.length c) xs.length (F.encs xs) := h
    have h1 := (World.ownsRow.stored (base := base) h0 o v).1
    rw [List.set_eq_of_length_le (by rw [encs_length]; exact ho)] at h1
    exact Own.fillBeyond r (o + 1) _ (by omega) h1
theorem Own.capCell {w : World} {base g n c : Nat} {xs : List α} (h : F.Own w base (.slice (some ⟨g, 0, none⟩) n c) xs) {j : Nat} (hj : j < c * F.size) : (w.cell? ⟨g, j, none⟩).isSome = true := by
  rcases h.2 with ⟨h1, _⟩ | ⟨g', cap, cur, h1, h2, h3, h4, h5, h6, h7⟩
  · simp at h1
  · simp only [Value.slice.injEq, Option.some.injEq, Addr.mk.injEq] at h1
    obtain ⟨⟨rfl, _, _⟩, _, rfl⟩ := h1
    unfold World.cell?
    simp only [h3]
    simp [h6, hj]
/-- append with room, at the operation -/
theorem wpSpare {o : Oper} {a : Act} {K : Act → World → Prop} {Q : Exit → Act → World → Prop} (F : Flat α) (w : World) (s x : Operand)
    (ho : o.op = .call { callee := .builtin .append, args := #[s, x], argTypes := #[F.T, F.T] })
    {base g n c m c' : Nat} {xs ys : List α} (hs : a.eval s = .slice (some ⟨g, 0, none⟩) n c) (hown : F.Own w base (.slice (some ⟨g, 0, none⟩) n c) xs) {ad : Addr} (hx : a.eval x = .slice (some ad) m c') (hm : m = ys.length) (hnews : ∀ j u, (F.encs ys)[j]? = some u → w.cell? (ad.add j) = some u)
    (hroom : n + m ≤ c) (h : ∀ w', F.Own w' base (.slice (some ⟨g, 0, none⟩) (n + m) c) (xs ++ ys) → w.grownBy w' (some g) → K (a.put o.dst (.slice (some ⟨g, 0, none⟩) (n + m) c)) w') : Oper.wp Try.prog o a w K Q := by
  obtain ⟨i0, hi, hz0, hz1, hz2⟩ := info_parts F.inf
  obtain rfl := hown.len_of
  refine wp_append_own_spare w s x F.T ho base F.E i0 F.size F.und hi hz1 g xs.length c (F.encs xs) hs hown ad m c' (F.encs ys) hx (by rw [encs_length, hm]) hnews (fun u hu => F.encs_one hu) hroom (fun w' h1 h2 => h w' ?_ h2)
  unfold Own
  rw [encs_append, List.length_append, ← hm]
  exact h1
end Flat
theorem grown_setCells {w : World} {g : Nat} : ∀ (vs : List Value) (o : Nat) (w' : World), w.grownBy w' (some g) → w.grownBy (w'.setCells g o vs) (some g)
  | [], _, _, h => h
  | v :: r, o, w', h => grown_setCells r (o + 1) _ ⟨h.os, h.tape, h.output, by simpa using h.size, fun k hk hne => by
      rw [heap_setCell_other w' ⟨g, o, none⟩ k v (fun e => hne (by rw [e]))]; exact h.block k hk hne⟩
theorem zero_packet (w : World) : (zeroValue 125).run Try.prog w = .ok (.agg #[.bool false, .int .i64 0, .int .i64 0, .int .i64 0, .bool false, .int .i64 0]) w := by kernel_rfl
theorem clear_packet (w : World) (ty : TypeId) (g o c : Nat) (hc : ∀ j, j < 6 → (w.cell? ⟨g, o + j, none⟩).isSome = true) (hf : ∀ j, j < 6 → w.frozen? ⟨g, o + j, none⟩ = false) :
    (Builtin.clear_ #[59] ty #[.slice (some ⟨g, o, none⟩) 1 c]).run Try.prog w = .ok (.tuple #[]) (w.setCells g o [.bool false, .int .i64 0, .int .i64 0, .int .i64 0, .bool false, .int .i64 0]) := by
  have hst := run_storeCells_cells (P := Try.prog) g o [.bool false, .int .i64 0, .int .i64 0, .int .i64 0, .bool false, .int .i64 0] 0 w (by simpa using hc) (by simpa using hf) (by decide)
  simp only [Nat.add_zero] at hst
  have hzc : (Builtin.zeroCells (Value.agg #[.bool false, .int .i64 0, .int .i64 0, .int .i64 0, .bool false, .int .i64 0]).cells 1).toList = [.bool false, .int .i64 0, .int .i64 0, .int .i64 0, .bool false, .int .i64 0] := by kernel_rfl
  simp [Builtin.clear_, run_underlying Try.underlying59, zero_packet, hzc, hst]

set_option maxRecDepth 100000 in
set_option maxHeartbeats 4000000 in
theorem DeleteW_any {g c i : Nat} {xs : List Pk} (base : Nat) (w : World) (ho : FPacket.Own w base (.slice (some ⟨g, 0, none⟩) xs.length c) xs) (hi : i < xs.length) (hx : xs.length ≤ 1000) :
    Calls Try.prog 87 #[.slice (some ⟨g, 0, none⟩) xs.length c, .int .i64 i, .int .i64 ((i : Int) + 1)] w fun e w' => e = .returned (.slice (some ⟨g, 0, none⟩) (xs.length - 1) c) ∧ FPacket.Own w' base (.slice (some ⟨g, 0, none⟩) (xs.length - 1) c) (xs.eraseIdx i) ∧ w.grownBy w' (some g) := by
  obtain ⟨_, hcl, hcm⟩ := ho.sl.len_of
  unfold maxLen at hcm
  have HO := Lib.hid ho
  have i0 : (0 : Int) ≤ (i : Int) := by omega
  have i1 : (i : Int) + 1 ≤ (xs.length : Int) := by omega
  have i2 : (i : Int) ≤ (i : Int) + 1 := by omega
  have i3 : (xs.length : Int) ≤ (c : Int) := by omega
  have i4 : ((i : Int) == (i : Int) + 1) = false := by rw [beq_eq_false_iff_ne]; omega
  have i5 : (i : Int) ≤ (c : Int) := by omega
  have i6 : (i : Int) + 1 ≤ (c : Int) := by omega
  have i7 : (0 : Int) ≤ (i : Int) + 1 := by omega
  have e1 : ((i : Int) + 1).toNat = i + 1 := by omega
  have e2 : (xs.drop (i + 1)).length = xs.length - (i + 1) := by simp
  have OC := Lib.hid (ho.cut (k := i) (by omega))
  obtain ⟨ad, had, hnews⟩ : ∃ ad, (if c = i + 1 then some (⟨g, 0, none⟩ : Addr) else some ⟨g, (i + 1) * 6, none⟩) = some ad ∧ ∀ j u, (FPacket.encs (xs.drop (i + 1)))[j]? = some u → w.cell? (ad.add j) = some u := by
    by_cases hci : c = i + 1
    · refine ⟨_, if_pos hci, fun j u hu => ?_⟩
      rw [List.drop_eq_nil_of_le (by omega)] at hu
      simp [Flat.encs] at hu
    · refine ⟨_, if_neg hci, fun j u hu => ?_⟩
      have hj : j < (xs.length - (i + 1)) * 6 := by
        have := (List.getElem?_eq_some_iff.1 hu).1
        rw [Flat.encs_length, e2] at this
        exact this
      have e : FPacket.encs xs = FPacket.encs (xs.take (i + 1)) ++ FPacket.encs (xs.drop (i + 1)) := by rw [← Flat.encs_append, List.take_append_drop]
      have hl : (FPacket.encs (xs.take (i + 1))).length = (i + 1) * 6 := by rw [Flat.encs_length, List.length_take, Nat.min_eq_left (by omega)]; rfl
      have ha : (⟨g, (i + 1) * 6, none⟩ : Addr).add j = ⟨g, (i + 1) * 6 + j, none⟩ := by unfold Addr.add; split <;> simp_all
      rw [ha, World.ownsRow.cellAt (show w.ownsRow base FPacket.E FPacket.size (.slice (some ⟨g, 0, none⟩) xs.length c) xs.length (FPacket.encs xs) from ho) _ (by show (i + 1) * 6 + j < xs.length * 6; omega), e, List.getElem?_append_right (by omega), hl, Nat.add_sub_cancel_left]
      exact hu
  have HAD := Lib.hid had
  have HN := Lib.hid hnews
  clear had hnews
  clear ho
  go_enter Try.func87, Try.ntmps87
  go_wp2_with fail
  refine wpX_start (fun W => True) [] (by kernel_rfl) ?_
  have hC : True := trivial
  refine wpX_free (i := 0) (v := ?_) rfl (by kernel_rfl) (fun _ _ _ h => h) rfl (fun w' => ?_) ?_
  rotate_left
  · go_simp; try with_reducible rfl
  try simp only [Act.put, List.setIfInBounds_toArray, List.set_cons_zero, List.set_cons_succ]
  refine wpX_free (i := 1) (v := ?_) rfl (by kernel_rfl) (fun _ _ _ h => h) rfl (fun w' => ?_) ?_
  rotate_left
  · go_simp; try with_reducible rfl
  try simp only [Act.put, List.setIfInBounds_toArray, List.set_cons_zero, List.set_cons_succ]
  refine wpX_free (i := 2) (v := ?_) rfl (by kernel_rfl) (fun _ _ _ h => h) rfl (fun w' => ?_) ?_
  rotate_left
  · go_simp; try with_reducible rfl
  try simp only [Act.put, List.setIfInBounds_toArray, List.set_cons_zero, List.set_cons_succ]
  refine wpX_free (i := 3) (v := ?_) rfl (by kernel_rfl) (fun _ _ _ h => h) rfl (fun w' => ?_) ?_
  rotate_left
  · go_simp; try with_reducible rfl
  try simp only [Act.put, List.setIfInBounds_toArray, List.set_cons_zero, List.set_cons_succ]
  refine wpX_free (i := 4) (v := ?_) rfl (by kernel_rfl) (fun _ _ _ h => h) rfl (fun w' => ?_) ?_
  rotate_left
  · go_simp; try with_reducible rfl
  try simp only [Act.put, List.setIfInBounds_toArray, List.set_cons_zero, List.set_cons_succ]
  refine wpX_free (i := 5) (v := ?_) rfl (by kernel_rfl) (fun _ _ _ h => h) rfl (fun w' => ?_) ?_
  rotate_left
  · go_simp; try with_reducible rfl
  try simp only [Act.put, List.setIfInBounds_toArray, List.set_cons_zero, List.set_cons_succ]
  refine wpX_one (i := 6) rfl (by kernel_rfl) rfl ?_
  intro K hK
  rw [HAD.out]
  refine Flat.wpSpare FPacket w.drew (.tmp 22) (.tmp 25) rfl (base := base) (g := g) (n := i) (c := c) (m := xs.length - (i + 1)) (c' := c - (i + 1)) (xs := xs.take i) (ys := xs.drop (i + 1)) (ad := ad) rfl (OC.out.below (Below.refl _ _).drew) (by rfl) e2.symm (fun j u hu => by simpa [go_sem] using HN.out j u hu) (by omega) ?_
  rw [show i + (xs.length - (i + 1)) = xs.length - 1 by omega]
  intro w3 o3 g3
  refine hK _ _ trivial ?_
  clear hK K
  try simp only [Act.put, List.setIfInBounds_toArray, List.set_cons_zero, List.set_cons_succ]
  refine wpX_free (i := 7) (v := ?_) rfl (by kernel_rfl) (fun _ _ _ h => h) rfl (fun w' => ?_) ?_
  rotate_left
  · go_simp; try with_reducible rfl
  try simp only [Act.put, List.setIfInBounds_toArray, List.set_cons_zero, List.set_cons_succ]
  refine wpX_rest (t := []) (l := []) rfl (by kernel_rfl) (by kernel_rfl) ?_
  clear hC
  have HI := Lib.hid (show xs.take i ++ xs.drop (i + 1) = xs.eraseIdx i from (List.eraseIdx_eq_take_drop_succ xs i).symm)
  rw [HI.out] at o3
  have O3 := Lib.hid o3
  have G3 := Lib.hid (show w.grownBy w3 (some g) from ⟨g3.os, g3.tape, g3.output, g3.size, g3.block⟩)
  have q1 : ((xs.length - 1 : Nat) : Int) ≤ (xs.length : Int) := by omega
  have q2 : (0 : Int) ≤ ((xs.length - 1 : Nat) : Int) := by omega
  have q3 : ((xs.length - 1 : Nat) : Int) ≤ (c : Int) := by omega
  have q4 : xs.length - (xs.length - 1) = 1 := by omega
  have hcl : ∀ ty k, (Builtin.clear_ #[59] ty #[.slice (some ⟨g, (xs.length - 1) * 6, none⟩) 1 k]).run Try.prog w3 = .ok (.tuple #[]) (w3.setCells g ((xs.length - 1) * 6) [.bool false, .int .i64 0, .int .i64 0, .int .i64 0, .bool false, .int .i64 0]) := fun ty k => clear_packet w3 ty g _ k (fun j hj => O3.out.capCell (by show (xs.length - 1) * 6 + j < c * 6; omega)) (fun j hj => O3.out.free _)
  have O4 := Lib.hid (Flat.Own.fillBeyond [.bool false, .int .i64 0, .int .i64 0, .int .i64 0, .bool false, .int .i64 0] ((xs.length - 1) * 6) w3 (Nat.le_refl _) O3.out)
  have G4 := Lib.hid (grown_setCells [.bool false, .int .i64 0, .int .i64 0, .int .i64 0, .bool false, .int .i64 0] ((xs.length - 1) * 6) w3 G3.out)
  clear o3 g3
  go_wp2_with (simp only [hcl])
  go_ret
  exact ⟨rfl, O4.out, G4.out⟩

set_option maxHeartbeats 400000 in
theorem CloneR_any {u : Value} {xs : List (Int × Int × Int)} (w : World) (ha : FRecord.Sl w u xs) (hl : xs.length ≤ 1048576) :
    Calls Try.prog 114 #[u] w fun e w' => ∃ v, e = .returned v ∧ FRecord.Own w' w.heap.size v xs ∧ Below w.heap.size w w' := by
  obtain ⟨a, c, rfl, hc, hc', hr⟩ := ha
  cases a with
  | none =>
    have h0 : xs = [] := by
      cases xs with
      | nil => rfl
      | cons y ys =>
        obtain ⟨b, off, h1, _⟩ := hr.all (k := 0) (by rw [Flat.encs_length]; exact Nat.mul_pos (by simp) FRecord.pos)
        simp at h1
    subst h0
    have hn := @Lib.run_eql_slice_nil
    go_enter Try.func114, Try.ntmps114
    go_wp2
    go_ret
    exact ⟨_, rfl, Flat.Own.nil _ _, Below.refl _ _⟩
  | some ad =>
    have hr2 := hr.below ((Below.refl w.heap.size w).alloc (Nat.le_refl _) (.cells #[] 121))
    have hn := @Lib.run_eql_slice_nil
    have own0 := Flat.Own.empty (F := FRecord) w (base := w.heap.size) (Nat.le_refl _)
    go_enter Try.func114, Try.ntmps114
    go_wp2_with (at_builtin; refine Flat.append FRecord _ _ _ rfl rfl rfl own0 rfl hr2 (by simp; omega) (by simp) ?_)
    intro v' w' o1 g1 b1
    go_wp2
    go_ret
    exact ⟨_, rfl, o1, ((Below.refl _ _).alloc (Nat.le_refl _) _).trans b1⟩

theorem nextS_yes {l r : List Int} {k : Nat} (h : r.getD k 0 = -1 ∧ (nextS l r k < 0 ∨ l.getD k 0 < l.getD (nextS l r k).toNat 0)) : nextS l r (k + 1) = (k : Int) := by
  show (if _ then _ else _) = _
  rw [if_pos h]
theorem nextS_no {l r : List Int} {k : Nat} (h : ¬ (r.getD k 0 = -1 ∧ (nextS l r k < 0 ∨ l.getD k 0 < l.getD (nextS l r k).toNat 0))) : nextS l r (k + 1) = nextS l r k := by
  show (if _ then _ else _) = _
  rw [if_neg h]
set_option maxRecDepth 100000 in
set_option maxHeartbeats 4000000 in
theorem deskNext_any {vl vr : Value} {l r : List Int} (q : Int) (w : World) (hl : SlI w vl l) (hr : SlI w vr r) (hlr : r.length = l.length) (hn : l.length ≤ 100) :
    Calls Try.prog 54 #[.agg #[vl, vr, .int .i64 q]] w fun e w' => e = .returned (.int .i64 (nextS l r l.length)) ∧ Below w.heap.size w w' := by
  obtain ⟨la, lc, rfl, hlc, hlc', _⟩ := id hl
  obtain ⟨ra, rc, rfl, hrc, hrc', _⟩ := id hr
  have b1 : Below w.heap.size w (w.alloc (.cells #[.slice la l.length lc, .slice ra r.length rc, .int .i64 q] 56)) := (Below.refl _ _).alloc (Nat.le_refl _) _
  have HL := Lib.hid (fun W (h : Below w.heap.size w W) => hl.below h)
  have HR := Lib.hid (fun W (h : Below w.heap.size w W) => hr.below h)
  have DC := Lib.hid (show ∀ W, Below (w.heap.size + 1) (w.alloc (.cells #[.slice la l.length lc, .slice ra r.length rc, .int .i64 q] 56)) W → W.cell? ⟨w.heap.size, 0, none⟩ = some (.slice la l.length lc) ∧ W.cell? ⟨w.heap.size, 1, none⟩ = some (.slice ra r.length rc) from fun W h => by
    have a0 := h.cell (p := ⟨w.heap.size, 0, none⟩) (by simp)
    have a1 := h.cell (p := ⟨w.heap.size, 1, none⟩) (by simp)
    simp [go_sem] at a0 a1
    exact ⟨a0, a1⟩)
  have HLR := Lib.hid hlr
  unfold maxLen at hlc' hrc'
  clear hl hr hlr
  go_enter Try.func54, Try.ntmps54
  go_wp2
  go_loopw [3, 9] (fun best i wr => ∃ k : Nat, k ≤ l.length ∧ i = .int .i64 k ∧ best = .int .i64 (nextS l r k) ∧ Below (w.heap.size + 1) (w.alloc (.cells #[.slice la l.length lc, .slice ra r.length rc, .int .i64 q] 56)) wr) (fun _ i _ => l.length - (intOf i).toNat)
  case atStart => exact ⟨0, Nat.zero_le _, rfl, rfl, by simpa using Below.refl _ _⟩
  case round =>
    obtain ⟨k, hk, rfl, rfl, hbw⟩ := hrel
    have hbw0 := b1.trans (hbw.mono (by simp))
    by_cases hlt : k < l.length
    · have hrk : k < r.length := by rw [HLR.out]; exact hlt
      obtain ⟨rb, ro, rfl, _, cr⟩ := (HR.out _ hbw0).at_ hrk
      obtain ⟨lb, lo, rfl, _, cl⟩ := (HL.out _ hbw0).at_ hlt
      obtain ⟨c0, c1⟩ := DC.out _ hbw
      have i0 : (0 : Int) ≤ (k : Int) := by omega
      have i1 : (k : Int) < (l.length : Int) := by omega
      have i2 : (k : Int) < (r.length : Int) := by omega
      have gr : r.getD k 0 = r[k] := by simp [hrk]
      have gl : l.getD k 0 = l[k] := by simp [hlt]
      obtain ⟨x, hx⟩ : ∃ x, r[k] = x := ⟨_, rfl⟩
      obtain ⟨y, hy⟩ : ∃ y, l[k] = y := ⟨_, rfl⟩
      rw [hx] at cr gr
      rw [hy] at cl gl
      have HYE := Lib.hid (nextS_yes (l := l) (r := r) (k := k))
      have HNO := Lib.hid (nextS_no (l := l) (r := r) (k := k))
      rw [gr, gl] at HYE HNO
      have hin := nextS_in l r k
      generalize nextS l r k = bst at hin HYE HNO ⊢
      have kc0 := fun d os => cell_regrown c0 d os
      have kc1 := fun d os => cell_regrown c1 d os
      have kcr := fun d os => cell_regrown cr d os
      have kcl := fun d os => cell_regrown cl d os
      clear hx hy gr gl
      by_cases h1 : x = -1
      · have t1 : (x == (-1 : Int)) = true := by simp [h1]
        by_cases h2 : bst < 0
        · have HQ := Lib.hid (HYE.out ⟨h1, .inl h2⟩)
          clear HYE HNO h1
          go_wp2_with fail
          refine wp_region_quiet_below (by kernel_rfl) (by kernel_rfl) ?_
          repeat (first | go_big_quiet_skip | quiet_step (fail))
          refine wpQuiet_nil ?_
          intro _ hw'
          obtain ⟨⟨dq, osq⟩, hw''⟩ := hw'
          subst hw''
          have bq := hbw.trans ((below_regrown wr dq osq).mono (by have := hbw.size; simp at this; omega))
          generalize grow (redrawn wr dq) osq = wq at bq ⊢
          clear kc0 kc1 kcr kcl
          go_wp2
          go_roundw
          case rel => exact ⟨k + 1, by omega, by go_num, by rw [HQ.out], bq⟩
          case measure => simp [intOf]; omega
        · obtain ⟨m, rfl⟩ : ∃ m : Nat, bst = (m : Int) := ⟨bst.toNat, by omega⟩
          have hm : m < l.length := by omega
          obtain ⟨lb', lo', he, _, cm⟩ := (HL.out _ hbw0).at_ hm
          simp only [Option.some.injEq, Addr.mk.injEq] at he
          obtain ⟨rfl, rfl, _⟩ := he
          have gm : l.getD m 0 = l[m] := by simp [hm]
          obtain ⟨z, hz⟩ : ∃ z, l[m] = z := ⟨_, rfl⟩
          rw [hz] at cm gm
          rw [Int.toNat_natCast, gm] at HYE HNO
          have j0 : (0 : Int) ≤ (m : Int) := by omega
          have j1 : (m : Int) < (l.length : Int) := by omega
          have kcm := fun d os => cell_regrown cm d os
          clear hz gm hin
          by_cases h3 : y < z
          · have HQ := Lib.hid (HYE.out ⟨h1, .inr h3⟩)
            clear HYE HNO h1
            go_wp2_with fail
            refine wp_region_quiet_below (by kernel_rfl) (by kernel_rfl) ?_
            repeat (first | go_big_quiet_skip | quiet_step (fail))
            refine wpQuiet_nil ?_
            intro _ hw'
            obtain ⟨⟨dq, osq⟩, hw''⟩ := hw'
            subst hw''
            have bq := hbw.trans ((below_regrown wr dq osq).mono (by have := hbw.size; simp at this; omega))
            generalize grow (redrawn wr dq) osq = wq at bq ⊢
            clear kc0 kc1 kcr kcl
            go_wp2
            go_roundw
            case rel => exact ⟨k + 1, by omega, by go_num, by rw [HQ.out], bq⟩
            case measure => simp [intOf]; omega
          · have HQ := Lib.hid (HNO.out (fun h => h.2.elim h2 h3))
            clear HYE HNO h1
            go_wp2_with fail
            refine wp_region_quiet_below (by kernel_rfl) (by kernel_rfl) ?_
            repeat (first | go_big_quiet_skip | quiet_step (fail))
            refine wpQuiet_nil ?_
            intro _ hw'
            obtain ⟨⟨dq, osq⟩, hw''⟩ := hw'
            subst hw''
            have bq := hbw.trans ((below_regrown wr dq osq).mono (by have := hbw.size; simp at this; omega))
            generalize grow (redrawn wr dq) osq = wq at bq ⊢
            clear kc0 kc1 kcr kcl
            go_wp2
            go_roundw
            case rel => exact ⟨k + 1, by omega, by go_num, by rw [HQ.out], bq⟩
            case measure => simp [intOf]; omega
      · have t1 : (x == (-1 : Int)) = false := by simp [h1]
        have HQ := Lib.hid (HNO.out (fun h => h1 h.1))
        clear HYE HNO h1
        go_wp2_with fail
        refine wp_region_quiet_below (by kernel_rfl) (by kernel_rfl) ?_
        repeat (first | go_big_quiet_skip | quiet_step (fail))
        refine wpQuiet_nil ?_
        intro _ hw'
        obtain ⟨⟨dq, osq⟩, hw''⟩ := hw'
        subst hw''
        have bq := hbw.trans ((below_regrown wr dq osq).mono (by have := hbw.size; simp at this; omega))
        generalize grow (redrawn wr dq) osq = wq at bq ⊢
        clear kc0 kc1 kcr kcl
        go_wp2
        go_roundw
        case rel => exact ⟨k + 1, by omega, by go_num, by rw [HQ.out], bq⟩
        case measure => simp [intOf]; omega
    · obtain rfl : k = l.length := by omega
      have i9 : (r.length : Int) ≤ (l.length : Int) := by rw [HLR.out]; omega
      go_wp2
      go_ret
      exact ⟨rfl, hbw0⟩
end Go.Proofs.Ytijpkcdalmlaiaa
namespace Go.Proofs.Ytijpkcdalmlaiaa
open Go.RowKit Go.Sort
def DoP (b : Nat) (B : Nat → Prop) (R : Int × PS) (w : World) (e : Ending) (w' : World) : Prop :=
  e = .returned (.int .i64 R.1) ∧ (∃ vl vr ve vh vw vo, PlIs w' b 0 (Bm B w.heap.size) R.2 vl vr ve vh vw vo) ∧ Fs B w w'
theorem DoP.mk {b : Nat} {B : Nat → Prop} {R : Int × PS} {k : Int} {S : PS} {w w' : World} {vl vr ve vh vw vo : Value} (hR : R = (k, S)) (P : PlIs w' b 0 (Bm B w.heap.size) S vl vr ve vh vw vo) (F : Fs B w w') : DoP b B R w (.returned (.int .i64 k)) w' := by
  subst hR
  exact ⟨rfl, ⟨_, _, _, _, _, _, P⟩, F⟩

set_option maxRecDepth 100000 in
set_option maxHeartbeats 4000000 in
theorem PlGive_any {ad : Option Addr} {m c b sm wk a : Nat} {B : Nat → Prop} {S : PS} {vl vr ve vh vw vo : Value} (n t bs : Int) (w : World) (P : PlIs w b 0 B S vl vr ve vh vw vo) (hD : PlOk sm S) (hwk : 1 ≤ wk ∧ wk ≤ 4) (ha : a ≤ 999) :
    Calls Try.prog 84 #[.pointer (some ⟨b, 0, none⟩), .agg #[.int .i64 n, .int .i64 t, .slice ad m c, .int .i64 bs, .int .i64 sm, .int .i64 wk], .int .i64 a] w (DoP b B (giveS sm wk a S) w) := by
  obtain ⟨hd, hs1, hs8, hrl, _, hwl⟩ := hD
  obtain ⟨d1, d2, d3, d4, d5⟩ := hd
  replace d1 : S.l.length = sm := d1
  have D1 := Lib.hid d1
  have b1 : Below w.heap.size w (w.alloc (.cells #[.int .i64 n, .int .i64 t, .slice ad m c, .int .i64 bs, .int .i64 sm, .int .i64 wk] 35)) := (Below.refl _ _).alloc (Nat.le_refl _) _
  have K1 := Lib.hid (CellsAt.new w [.int .i64 n, .int .i64 t, .slice ad m c, .int .i64 bs, .int .i64 sm, .int .i64 wk] 35)
  obtain ⟨W1, hW1⟩ : ∃ W1, W1 = w.alloc (.cells #[.int .i64 n, .int .i64 t, .slice ad m c, .int .i64 bs, .int .i64 sm, .int .i64 wk] 35) := ⟨_, rfl⟩
  rw [show (w.alloc (.cells ([.int .i64 n, .int .i64 t, .slice ad m c, .int .i64 bs, .int .i64 sm, .int .i64 wk] : List Value).toArray 35)) = W1 from hW1.symm] at K1
  rw [← hW1] at b1
  have P1 := Lib.hid (P.below b1)
  have B1 := Lib.hid b1
  have HB := Lib.hid P.ownB
  have HL := Lib.hid P.ownLt
  have F1 := Lib.hid (Fs.of_below (S := B) b1)
  have HZ1 := Lib.hid (show W1.heap.size = w.heap.size + 1 by rw [hW1]; simp)
  have HW1 := Lib.hid hW1.symm
  have hw : IntKind.i64.wrap ((wk : Int) - 1) = (wk : Int) - 1 := IntWalk.i64_in _ (by omega)
  have HN := Lib.hid (show ∀ W, Below W1.heap.size W1 W → Calls Try.prog 54 #[.agg #[vl, vr, .int .i64 S.q]] W fun e w' => e = .returned (.int .i64 (nextS S.l S.r sm)) ∧ Below W.heap.size W w' from fun W h => by
    have h1 := deskNext_any S.q W (P1.out.below h).ol.sl (P1.out.below h).or_.sl P.len (by omega)
    rw [D1.out] at h1
    exact h1)
  obtain ⟨gl, cl, gr, cr, rfl, rfl, _⟩ := P.desk
  obtain ⟨wa, wc, rfl, _, _⟩ := P.ow.shape
  have hbl := P1.out.blt
  have c5 := K1.out.get 5 _ rfl
  obtain ⟨⟨q0, q1, q2, _⟩, _, _, q6, _⟩ := P1.out.get
  have hnx := nextS_in S.l S.r sm
  have D5 := Lib.hid d5
  have D4 := Lib.hid d4
  clear P b1 hW1 hrl d1 d2 d3
  by_cases hr : (wk : Int) ≤ a
  · have HI := Lib.hid (show inR (a : Int) 0 ((wk : Int) - 1) = false from inR_false.2 (by omega))
    have HR := Lib.hid (show giveS sm wk a S = (2, S) by unfold giveS; rw [if_pos hr])
    clear hr hnx
    go_enter Try.func84, Try.ntmps84
    go_wp2_with (go_at_call 71; refine (inRange_any _ _ _ _).mono ?_; rintro e w' ⟨rfl, rfl⟩; rw [HI.out])
    rw [HW1.out]
    go_ret
    exact DoP.mk HR.out (P1.out.mono (fun k hk => .inl hk)) F1.out
  · have HI := Lib.hid (show inR (a : Int) 0 ((wk : Int) - 1) = true from inR_iff.2 ⟨by omega, by omega⟩)
    have HE := Lib.hid (show giveS sm wk a S = if nextS S.l S.r sm < 0 then (4, S) else sendS S (false, (a : Int), nextS S.l S.r sm, S.l.getD (nextS S.l S.r sm).toNat 0, false, 0) by unfold giveS; rw [if_neg hr])
    clear hr
    generalize hz : nextS S.l S.r sm = z at hnx HE HN
    clear hz
    go_enter Try.func84, Try.ntmps84
    go_wp2_with fail
    rw [HW1.out]
    refine (inRange_any _ _ _ _).mono ?_
    rintro e w' ⟨rfl, rfl⟩
    rw [HI.out]
    go_wp2_with fail
    refine (HN.out _ (Below.refl _ _)).mono ?_
    rintro e w2 ⟨rfl, b2⟩
    have P2 := Lib.hid (P1.out.below b2)
    have F2 := Lib.hid (F1.out.trans (Fs.of_below b2))
    have HZ2 := Lib.hid (show w.heap.size ≤ w2.heap.size by have := b2.size; have := HZ1.out; omega)
    clear q0 q1 q2 q6 c5 b2
    obtain ⟨⟨q0, q1, q2, _⟩, _, _, q6, _⟩ := P2.out.get
    by_cases hz : z < 0
    · have HR := Lib.hid (HE.out.trans (if_pos hz))
      go_wp2
      go_ret
      exact DoP.mk HR.out (P2.out.mono (fun k hk => .inl hk)) F2.out
    · have HR := Lib.hid (HE.out.trans (if_neg hz))
      clear HE
      by_cases h12 : S.wire.length = 12
      · have t12 : ((S.wire.length : Int) == 12) = true := by rw [beq_iff_eq]; omega
        have HR := Lib.hid (show giveS sm wk a S = (3, S) by rw [HR.out]; unfold sendS; rw [if_pos h12])
        have hz0 : 0 ≤ z := by omega
        clear h12 hz
        go_wp2
        go_ret
        exact DoP.mk HR.out (P2.out.mono (fun k hk => .inl hk)) F2.out
      · have t12 : ((S.wire.length : Int) == 12) = false := by rw [beq_eq_false_iff_ne]; omega
        obtain ⟨x, rfl⟩ : ∃ x : Nat, z = (x : Int) := ⟨z.toNat, by omega⟩
        have hx : x < S.l.length := by rw [D1.out]; omega
        have y0 := P2.out.ol.cell hx
        have HY := Lib.hid (show S.l.getD (x : Int).toNat 0 = S.l[x] by rw [Int.toNat_natCast]; simp [hx])
        generalize S.l[x] = y at y0 HY
        have HR := Lib.hid (show giveS sm wk a S = (0, { S with wire := S.wire ++ [(false, (a : Int), (x : Int), y, false, 0)] }) by rw [HR.out]; unfold sendS; rw [if_neg h12, HY.out])
        have x0 : (0 : Int) ≤ (x : Int) := by omega
        have x1 : (x : Int) < (S.l.length : Int) := by omega
        have Y0 := Lib.hid y0
        have hln : S.wire.length + [(false, (a : Int), (x : Int), y, false, (0 : Int))].length ≤ 16777216 := by simp; omega
        clear h12 hz hnx y0
        go_wp2_with fail
        clear q0 q1 q2 q6
        have b3 : Below w2.heap.size w2 (w2.alloc (.cells #[.bool false, .int .i64 a, .int .i64 x, .int .i64 y, .bool false, .int .i64 0] 125)).drew := ((Below.refl _ _).alloc (Nat.le_refl _) _).drew
        obtain ⟨W3, hW3⟩ : ∃ W3, W3 = (w2.alloc (.cells #[.bool false, .int .i64 a, .int .i64 x, .int .i64 y, .bool false, .int .i64 0] 125)).drew := ⟨_, rfl⟩
        rw [← hW3] at b3
        have P3 := Lib.hid (P2.out.below b3)
        have F3 := Lib.hid (F2.out.trans (Fs.of_below b3))
        have HZ3 := Lib.hid (show w.heap.size ≤ W3.heap.size by have := b3.size; have := HZ2.out; omega)
        have RD := Lib.hid (show Rd W3 (some ⟨w2.heap.size, 0, none⟩) (FPacket.encs [(false, (a : Int), (x : Int), y, false, (0 : Int))]) by
          rw [hW3]
          exact (rd_new w2 #[.bool false, .int .i64 a, .int .i64 x, .int .i64 y, .bool false, .int .i64 0] 125).below (Below.refl _ _).drew)
        have CW := Lib.hid (show ∀ W, Below w2.heap.size w2 W → (W.cell? ⟨b, 6, none⟩ = some (.slice wa S.wire.length wc) ∧ W.cell? ⟨b, 0, none⟩ = some (.slice (some ⟨gl, 0, none⟩) S.l.length cl) ∧ W.cell? ⟨gl, x, none⟩ = some (.int .i64 y)) from fun W h => by
          obtain ⟨⟨q0, _⟩, _, _, q6, _⟩ := (P2.out.below h).get
          exact ⟨q6, q0, (h.cell (p := ⟨gl, x, none⟩) (cell_lt Y0.out)).trans Y0.out⟩)
        have HW3 := Lib.hid hW3.symm
        have B3 := Lib.hid b3
        clear b3 hW3
        refine wpX_start (fun W => W.cell? ⟨b, 6, none⟩ = some (.slice wa S.wire.length wc) ∧ W.cell? ⟨b, 0, none⟩ = some (.slice (some ⟨gl, 0, none⟩) S.l.length cl) ∧ W.cell? ⟨gl, x, none⟩ = some (.int .i64 y)) [17, 18, 19, 20] (by kernel_rfl) ?_
        have hC := CW.out w2.drew (Below.refl w2.heap.size w2).drew
        refine wpX_free (i := 0) (v := ?_) rfl (by kernel_rfl) (fun _ _ _ h => h) rfl (fun w' => ?_) ?_
        rotate_left
        · go_simp; try with_reducible rfl
        try simp only [Act.put, List.setIfInBounds_toArray, List.set_cons_zero, List.set_cons_succ]
        refine wpX_free (i := 1) (v := ?_) rfl (by kernel_rfl) (fun _ _ _ h => h) rfl (fun w' => ?_) ?_
        rotate_left
        · go_simp; try with_reducible rfl
        try simp only [Act.put, List.setIfInBounds_toArray, List.set_cons_zero, List.set_cons_succ]
        refine wpX_free (i := 2) (v := ?_) rfl (by kernel_rfl) (fun _ _ _ h => h) rfl (fun w' => ?_) ?_
        rotate_left
        · go_simp; try with_reducible rfl
        try simp only [Act.put, List.setIfInBounds_toArray, List.set_cons_zero, List.set_cons_succ]
        refine wpX_free (i := 3) (v := ?_) rfl (by kernel_rfl) (fun _ _ _ h => h) rfl (fun w' => ?_) ?_
        rotate_left
        · go_simp; try with_reducible rfl
        try simp only [Act.put, List.setIfInBounds_toArray, List.set_cons_zero, List.set_cons_succ]
        refine wpX_load (i := 4) (v := ?_) rfl (by kernel_rfl) (fun _ _ _ h => h) hC rfl (fun w' hw' => ?_) ?_
        rotate_left
        · obtain ⟨k1, k2, k3⟩ := hw'; go_simp; try with_reducible rfl
        try simp only [Act.put, List.setIfInBounds_toArray, List.set_cons_zero, List.set_cons_succ]
        refine wpX_free (i := 5) (v := ?_) rfl (by kernel_rfl) (fun _ _ _ h => h) rfl (fun w' => ?_) ?_
        rotate_left
        · go_simp; try with_reducible rfl
        try simp only [Act.put, List.setIfInBounds_toArray, List.set_cons_zero, List.set_cons_succ]
        refine wpX_free (i := 6) (v := ?_) rfl (by kernel_rfl) (fun _ _ _ h => h) rfl (fun w' => ?_) ?_
        rotate_left
        · go_simp; try with_reducible rfl
        try simp only [Act.put, List.setIfInBounds_toArray, List.set_cons_zero, List.set_cons_succ]
        refine wpX_free (i := 7) (v := ?_) rfl (by kernel_rfl) (fun _ _ _ h => h) rfl (fun w' => ?_) ?_
        rotate_left
        · go_simp; try with_reducible rfl
        try simp only [Act.put, List.setIfInBounds_toArray, List.set_cons_zero, List.set_cons_succ]
        refine wpX_free (i := 8) (v := ?_) rfl (by kernel_rfl) (fun _ _ _ h => h) rfl (fun w' => ?_) ?_
        rotate_left
        · go_simp; try with_reducible rfl
        try simp only [Act.put, List.setIfInBounds_toArray, List.set_cons_zero, List.set_cons_succ]
        refine wpX_free (i := 9) (v := ?_) rfl (by kernel_rfl) (fun _ _ _ h => h) rfl (fun w' => ?_) ?_
        rotate_left
        · go_simp; try with_reducible rfl
        try simp only [Act.put, List.setIfInBounds_toArray, List.set_cons_zero, List.set_cons_succ]
        refine wpX_free (i := 10) (v := ?_) rfl (by kernel_rfl) (fun _ _ _ h => h) rfl (fun w' => ?_) ?_
        rotate_left
        · go_simp; try with_reducible rfl
        try simp only [Act.put, List.setIfInBounds_toArray, List.set_cons_zero, List.set_cons_succ]
        refine wpX_load (i := 11) (v := ?_) rfl (by kernel_rfl) (fun _ _ _ h => h) hC rfl (fun w' hw' => ?_) ?_
        rotate_left
        · obtain ⟨k1, k2, k3⟩ := hw'; go_simp; try with_reducible rfl
        try simp only [Act.put, List.setIfInBounds_toArray, List.set_cons_zero, List.set_cons_succ]
        refine wpX_free (i := 12) (v := ?_) rfl (by kernel_rfl) (fun _ _ _ h => h) rfl (fun w' => ?_) ?_
        rotate_left
        · go_simp; try with_reducible rfl
        try simp only [Act.put, List.setIfInBounds_toArray, List.set_cons_zero, List.set_cons_succ]
        refine wpX_free (i := 13) (v := ?_) rfl (by kernel_rfl) (fun _ _ _ h => h) rfl (fun w' => ?_) ?_
        rotate_left
        · go_simp; try with_reducible rfl
        try simp only [Act.put, List.setIfInBounds_toArray, List.set_cons_zero, List.set_cons_succ]
        refine wpX_load (i := 14) (v := ?_) rfl (by kernel_rfl) (fun _ _ _ h => h) hC rfl (fun w' hw' => ?_) ?_
        rotate_left
        · obtain ⟨k1, k2, k3⟩ := hw'; go_simp; try with_reducible rfl
        try simp only [Act.put, List.setIfInBounds_toArray, List.set_cons_zero, List.set_cons_succ]
        refine wpX_free (i := 15) (v := ?_) rfl (by kernel_rfl) (fun _ _ _ h => h) rfl (fun w' => ?_) ?_
        rotate_left
        · go_simp; try with_reducible rfl
        try simp only [Act.put, List.setIfInBounds_toArray, List.set_cons_zero, List.set_cons_succ]
        refine wpX_one (i := 16) rfl (by kernel_rfl) rfl ?_
        intro K hK
        go_simp
        rw [HW3.out]
        have hC := CW.out W3 B3.out
        refine hK _ _ hC ?_
        clear hK K
        try simp only [Act.put, List.setIfInBounds_toArray, List.set_cons_zero, List.set_cons_succ]
        refine wpX_rest (t := [17, 18, 19, 20]) (l := [_, _, _, _]) rfl (by kernel_rfl) (by kernel_rfl) ?_
        clear hC
        refine Flat.append_at FPacket W3 (.tmp 31) (.tmp 43) rfl rfl (base := 0) (v := .slice wa S.wire.length wc) (xs := S.wire) (ys := [(false, (a : Int), (x : Int), y, false, (0 : Int))]) rfl P3.out.ow rfl RD.out hln (Nat.zero_le _) ?_
        intro v' w4 o4 g4 at4
        obtain ⟨na, nc, hv', _, _⟩ := o4.shape
        simp only [List.length_append, List.length_cons, List.length_nil, Nat.zero_add] at hv'
        have e4 := grown_at g4 P3.out.hold.lt (P3.out.hold.ne_box (i := 4) rfl) 6
        have c4 := e4.1.trans P3.out.get.2.2.2.1
        have f4 := e4.2.trans (P3.out.fz 6)
        have P4 := P3.out.part (S' := { S with wire := S.wire ++ [(false, (a : Int), (x : Int), y, false, (0 : Int))] }) 4 6 (c' := FPacket.ch v' (S.wire ++ [(false, (a : Int), (x : Int), y, false, (0 : Int))])) rfl rfl rfl (by decide) g4 o4 (m := w.heap.size) HZ3.out (at_of at4) P3.out.len P3.out.pos
        have F4 := F3.out.trans ((Fs.of_grown (S := B) g4 (fun k hk => HB.out k (P3.out.row (i := 4) rfl k hk))).set (a := ⟨b, 0 + 6, none⟩) (HB.out b ⟨0, rfl⟩) v')
        subst hv'
        have P4 := Lib.hid P4
        have F4 := Lib.hid F4
        clear o4 g4 at4 e4
        go_wp2
        go_ret
        exact DoP.mk HR.out P4.out F4.out
end Go.Proofs.Ytijpkcdalmlaiaa
namespace Go.Proofs.Ytijpkcdalmlaiaa
open Go.RowKit Go.Sort

theorem PInv.plOk {n sm wk : Nat} {S : PS} (h : PInv n sm wk S) (h1 : 1 ≤ sm) (h2 : sm ≤ 8) : PlOk sm S := by
  have := h.len
  have h3 := h.desk.ok
  have h4 := h.outs
  have h5 := h3.2.2.2.2
  exact ⟨h3, h1, h2, by omega, by dsimp only at h5; omega, by have := h.wl; omega⟩
set_option maxRecDepth 100000 in
set_option maxHeartbeats 4000000 in
theorem PlWork_any {ad : Option Addr} {xss : List (List Int)} {m c b sm wk n a : Nat} {B : Nat → Prop} {S : PS} {vl vr ve vh vw vo : Value} (t bs : Int) (w : World) (P : PlIs w b 0 B S vl vr ve vh vw vo) (hI : PInv n sm wk S) (hs : 1 ≤ sm ∧ sm ≤ 8) (hwk : 1 ≤ wk ∧ wk ≤ 4) (ha : a ≤ 999) (hc : SlII w (.slice ad m c) xss) (hch : chainOk n t xss = true) (hbs : 0 ≤ bs ∧ bs ≤ 999999992) :
    Calls Try.prog 85 #[.pointer (some ⟨b, 0, none⟩), .agg #[.int .i64 n, .int .i64 t, .slice ad m c, .int .i64 bs, .int .i64 sm, .int .i64 wk], .int .i64 a] w (DoP b B (workS t xss bs wk a S) w) := by
  obtain ⟨hs1, hs8⟩ := hs
  have b1 : Below w.heap.size w (w.alloc (.cells #[.int .i64 n, .int .i64 t, .slice ad m c, .int .i64 bs, .int .i64 sm, .int .i64 wk] 35)) := (Below.refl _ _).alloc (Nat.le_refl _) _
  have K1 := Lib.hid (CellsAt.new w [.int .i64 n, .int .i64 t, .slice ad m c, .int .i64 bs, .int .i64 sm, .int .i64 wk] 35)
  obtain ⟨W1, hW1⟩ : ∃ W1, W1 = w.alloc (.cells #[.int .i64 n, .int .i64 t, .slice ad m c, .int .i64 bs, .int .i64 sm, .int .i64 wk] 35) := ⟨_, rfl⟩
  rw [show (w.alloc (.cells ([.int .i64 n, .int .i64 t, .slice ad m c, .int .i64 bs, .int .i64 sm, .int .i64 wk] : List Value).toArray 35)) = W1 from hW1.symm] at K1
  rw [← hW1] at b1
  have P1 := Lib.hid (P.below b1)
  have B1 := Lib.hid b1
  have HB := Lib.hid P.ownB
  have HL := Lib.hid P.ownLt
  have F1 := Lib.hid (Fs.of_below (S := B) b1)
  have HZ1 := Lib.hid (show W1.heap.size = w.heap.size + 1 by rw [hW1]; simp)
  have HW1 := Lib.hid hW1.symm
  have hw : IntKind.i64.wrap ((wk : Int) - 1) = (wk : Int) - 1 := IntWalk.i64_in _ (by omega)
  have HC := Lib.hid (fun W (h : Below w.heap.size w W) => hc.below h)
  obtain ⟨wa, wc, rfl, _, _⟩ := P.ow.shape
  have hbl := P1.out.blt
  have c5 := K1.out.get 5 _ rfl
  have HHL := Lib.hid hI.hl
  have HHO := Lib.hid hI.hands
  have HWL := Lib.hid hI.wl
  clear hI
  by_cases hr : (wk : Int) ≤ a
  · have HI := Lib.hid (show inR (a : Int) 0 ((wk : Int) - 1) = false from inR_false.2 (by omega))
    have HR := Lib.hid (show workS t xss bs wk a S = (2, S) by unfold workS; rw [if_pos hr])
    clear hr P b1 hW1
    go_enter Try.func85, Try.ntmps85
    go_wp2_with (go_at_call 71; refine (inRange_any _ _ _ _).mono ?_; rintro e w' ⟨rfl, rfl⟩; rw [HI.out])
    rw [HW1.out]
    go_ret
    exact DoP.mk HR.out (P1.out.mono (fun k hk => .inl hk)) F1.out
  · have HI := Lib.hid (show inR (a : Int) 0 ((wk : Int) - 1) = true from inR_iff.2 ⟨by omega, by omega⟩)
    have hal : a < S.hands.length := by rw [HHL.out]; omega
    have HE := Lib.hid (show workS t xss bs wk a S = if (S.hands.getD a noHand).1 = false then (4, S) else if S.wire.length = 12 then (3, S)
      else (0, handOff a { S with wire := S.wire ++ [(true, (a : Int), (S.hands.getD a noHand).2.1, (S.hands.getD a noHand).2.2, winMet (lvR t xss bs (S.hands.getD a noHand)), winState (lvR t xss bs (S.hands.getD a noHand)))] }) by
        unfold workS; rw [if_neg hr, Int.toNat_natCast])
    have HG : S.hands.getD a noHand = S.hands[a] := by simp [hal]
    obtain ⟨g, hcp, rfl, _⟩ := P.oh.form (by omega)
    obtain ⟨h0, h1, h2⟩ := FHand_cell P1.out.oh hal
    have hok := HHO.out _ (List.getElem_mem hal)
    rw [HG] at HE
    generalize S.hands[a] = x at h0 h1 h2 hok HE
    obtain ⟨busy, j0, k0⟩ := x
    obtain ⟨o1, o2, o3, o4⟩ := hok
    dsimp only at h0 h1 h2 o1 o2 o3 o4 HE
    obtain ⟨j, rfl⟩ := Int.eq_ofNat_of_zero_le o1
    obtain ⟨k, rfl⟩ := Int.eq_ofNat_of_zero_le o3
    have a0 : (0 : Int) ≤ (a : Int) := by omega
    have a1 : (a : Int) < (S.hands.length : Int) := by omega
    obtain ⟨⟨_, _, _, _⟩, _, q5, q6, _⟩ := P1.out.get
    have HAL := Lib.hid hal
    clear hr P b1 hW1 HG o1 o3
    go_enter Try.func85, Try.ntmps85
    go_wp2_with fail
    rw [HW1.out]
    refine (inRange_any _ _ _ _).mono ?_
    rintro e w' ⟨rfl, rfl⟩
    rw [HI.out]
    have b2 : Below W1.heap.size W1 (W1.alloc (.cells #[.bool busy, .int .i64 j, .int .i64 k] 123)) := (Below.refl _ _).alloc (Nat.le_refl _) _
    obtain ⟨W2, hW2⟩ : ∃ W2, W2 = W1.alloc (.cells #[.bool busy, .int .i64 j, .int .i64 k] 123) := ⟨_, rfl⟩
    rw [← hW2] at b2
    have P2 := Lib.hid (P1.out.below b2)
    have F2 := Lib.hid (F1.out.trans (Fs.of_below b2))
    have K2 := Lib.hid (show CellsAt W2 W1.heap.size [.bool busy, .int .i64 j, .int .i64 k] by rw [hW2]; exact CellsAt.new W1 [.bool busy, .int .i64 j, .int .i64 k] 123)
    have K1' := Lib.hid (K1.out.below b2)
    have B2 := Lib.hid (B1.out.trans (b2.mono B1.out.size))
    have HZ2 := Lib.hid (show w.heap.size ≤ W2.heap.size from B2.out.size)
    have HW2 := Lib.hid hW2.symm
    clear b2 hW2
    cases busy
    · have HR := Lib.hid (HE.out.trans (if_pos rfl))
      go_wp2
      rw [HW2.out]
      go_ret
      exact DoP.mk HR.out (P2.out.mono (fun k hk => .inl hk)) F2.out
    · have HR := Lib.hid (HE.out.trans (if_neg (by decide)))
      clear HE
      by_cases h12 : S.wire.length = 12
      · have t12 : ((S.wire.length : Int) == 12) = true := by rw [beq_iff_eq]; omega
        have HR := Lib.hid (HR.out.trans (if_pos h12))
        clear h12
        go_wp2
        rw [HW2.out]
        go_ret
        exact DoP.mk HR.out (P2.out.mono (fun k hk => .inl hk)) F2.out
      · have t12 : ((S.wire.length : Int) == 12) = false := by rw [beq_eq_false_iff_ne]; omega
        have HR := Lib.hid (HR.out.trans (if_neg h12))
        have hwl := HWL.out
        have hlv : lvR t xss bs (true, (j : Int), (k : Int)) = lvlRun t xss (bs + j) k := by unfold lvR; rw [Int.toNat_natCast]
        rw [hlv] at HR
        have hseed : IntKind.i64.wrap (bs + (j : Int)) = bs + j := IntWalk.i64_in _ (by omega)
        have k0 := K1.out.get 0 _ rfl
        have k1 := K1.out.get 1 _ rfl
        have k2 := K1.out.get 2 _ rfl
        have k3 := K1.out.get 3 _ rfl
        have z1 : w.heap.size < W1.heap.size := by have := HZ1.out; omega
        have z2 : ¬ w.heap.size = W1.heap.size := Nat.ne_of_lt z1
        have z3 : ¬ W1.heap.size = w.heap.size := fun h => z2 h.symm
        clear h12 hlv
        go_wp2_with fail
        rw [HW2.out]
        refine (windowOf_any n t (bs + j) k _ (HC.out _ B2.out) hch (by omega) (by omega) (by omega)).mono ?_
        rintro e w3 ⟨rfl, b3⟩
        generalize winMet (lvlRun t xss (bs + j) k) = mt at HR ⊢
        generalize winState (lvlRun t xss (bs + j) k) = st at HR ⊢
        have P3 := Lib.hid (P2.out.below b3)
        have F3 := Lib.hid (F2.out.trans (Fs.of_below b3))
        have K3 := Lib.hid (K2.out.below b3)
        have HZ3 := Lib.hid (show w.heap.size ≤ w3.heap.size from Nat.le_trans HZ2.out b3.size)
        clear k0 k1 k2 k3 z1 z2 z3 b3 q5 q6 h0 h1 h2 c5
        go_wp2_with fail
        have b4 : Below w3.heap.size w3 (w3.alloc (.cells #[.bool true, .int .i64 a, .int .i64 j, .int .i64 k, .bool mt, .int .i64 st] 125)).drew := ((Below.refl _ _).alloc (Nat.le_refl _) _).drew
        obtain ⟨W4, hW4⟩ : ∃ W4, W4 = (w3.alloc (.cells #[.bool true, .int .i64 a, .int .i64 j, .int .i64 k, .bool mt, .int .i64 st] 125)).drew := ⟨_, rfl⟩
        rw [← hW4] at b4
        have P5 := Lib.hid (P3.out.below b4)
        have F5 := Lib.hid (F3.out.trans (Fs.of_below b4))
        have HZ5 := Lib.hid (show w.heap.size ≤ W4.heap.size from Nat.le_trans HZ3.out b4.size)
        have RD := Lib.hid (show Rd W4 (some ⟨w3.heap.size, 0, none⟩) (FPacket.encs [(true, (a : Int), (j : Int), (k : Int), mt, st)]) by
          rw [hW4]
          exact (rd_new w3 #[.bool true, .int .i64 a, .int .i64 j, .int .i64 k, .bool mt, .int .i64 st] 125).below (Below.refl _ _).drew)
        have CW := Lib.hid (show ∀ W, Below w3.heap.size w3 W → (W.cell? ⟨b, 6, none⟩ = some (.slice wa S.wire.length wc) ∧ W.cell? ⟨W1.heap.size, 1, none⟩ = some (.int .i64 j) ∧ W.cell? ⟨W1.heap.size, 2, none⟩ = some (.int .i64 k)) from fun W h => by
          obtain ⟨_, _, _, q6, _⟩ := (P3.out.below h).get
          have kk := K3.out.below h
          exact ⟨q6, kk.get 1 _ rfl, kk.get 2 _ rfl⟩)
        have HW4 := Lib.hid hW4.symm
        have B4 := Lib.hid b4
        have hln : S.wire.length + [(true, (a : Int), (j : Int), (k : Int), mt, st)].length ≤ 16777216 := by simp; omega
        clear b4 hW4
        refine wpX_start (fun W => W.cell? ⟨b, 6, none⟩ = some (.slice wa S.wire.length wc) ∧ W.cell? ⟨W1.heap.size, 1, none⟩ = some (.int .i64 j) ∧ W.cell? ⟨W1.heap.size, 2, none⟩ = some (.int .i64 k)) [14, 15, 16, 17] (by kernel_rfl) ?_
        have hC := CW.out w3.drew (Below.refl w3.heap.size w3).drew
        refine wpX_free (i := 0) (v := ?_) rfl (by kernel_rfl) (fun _ _ _ h => h) rfl (fun w' => ?_) ?_
        rotate_left
        · go_simp; try with_reducible rfl
        try simp only [Act.put, List.setIfInBounds_toArray, List.set_cons_zero, List.set_cons_succ]
        refine wpX_free (i := 1) (v := ?_) rfl (by kernel_rfl) (fun _ _ _ h => h) rfl (fun w' => ?_) ?_
        rotate_left
        · go_simp; try with_reducible rfl
        try simp only [Act.put, List.setIfInBounds_toArray, List.set_cons_zero, List.set_cons_succ]
        refine wpX_free (i := 2) (v := ?_) rfl (by kernel_rfl) (fun _ _ _ h => h) rfl (fun w' => ?_) ?_
        rotate_left
        · go_simp; try with_reducible rfl
        try simp only [Act.put, List.setIfInBounds_toArray, List.set_cons_zero, List.set_cons_succ]
        refine wpX_free (i := 3) (v := ?_) rfl (by kernel_rfl) (fun _ _ _ h => h) rfl (fun w' => ?_) ?_
        rotate_left
        · go_simp; try with_reducible rfl
        try simp only [Act.put, List.setIfInBounds_toArray, List.set_cons_zero, List.set_cons_succ]
        refine wpX_load (i := 4) (v := ?_) rfl (by kernel_rfl) (fun _ _ _ h => h) hC rfl (fun w' hw' => ?_) ?_
        rotate_left
        · obtain ⟨k1, k2, k3⟩ := hw'; go_simp; try with_reducible rfl
        try simp only [Act.put, List.setIfInBounds_toArray, List.set_cons_zero, List.set_cons_succ]
        refine wpX_free (i := 5) (v := ?_) rfl (by kernel_rfl) (fun _ _ _ h => h) rfl (fun w' => ?_) ?_
        rotate_left
        · go_simp; try with_reducible rfl
        try simp only [Act.put, List.setIfInBounds_toArray, List.set_cons_zero, List.set_cons_succ]
        refine wpX_free (i := 6) (v := ?_) rfl (by kernel_rfl) (fun _ _ _ h => h) rfl (fun w' => ?_) ?_
        rotate_left
        · go_simp; try with_reducible rfl
        try simp only [Act.put, List.setIfInBounds_toArray, List.set_cons_zero, List.set_cons_succ]
        refine wpX_load (i := 7) (v := ?_) rfl (by kernel_rfl) (fun _ _ _ h => h) hC rfl (fun w' hw' => ?_) ?_
        rotate_left
        · obtain ⟨k1, k2, k3⟩ := hw'; go_simp; try with_reducible rfl
        try simp only [Act.put, List.setIfInBounds_toArray, List.set_cons_zero, List.set_cons_succ]
        refine wpX_free (i := 8) (v := ?_) rfl (by kernel_rfl) (fun _ _ _ h => h) rfl (fun w' => ?_) ?_
        rotate_left
        · go_simp; try with_reducible rfl
        try simp only [Act.put, List.setIfInBounds_toArray, List.set_cons_zero, List.set_cons_succ]
        refine wpX_load (i := 9) (v := ?_) rfl (by kernel_rfl) (fun _ _ _ h => h) hC rfl (fun w' hw' => ?_) ?_
        rotate_left
        · obtain ⟨k1, k2, k3⟩ := hw'; go_simp; try with_reducible rfl
        try simp only [Act.put, List.setIfInBounds_toArray, List.set_cons_zero, List.set_cons_succ]
        refine wpX_free (i := 10) (v := ?_) rfl (by kernel_rfl) (fun _ _ _ h => h) rfl (fun w' => ?_) ?_
        rotate_left
        · go_simp; try with_reducible rfl
        try simp only [Act.put, List.setIfInBounds_toArray, List.set_cons_zero, List.set_cons_succ]
        refine wpX_free (i := 11) (v := ?_) rfl (by kernel_rfl) (fun _ _ _ h => h) rfl (fun w' => ?_) ?_
        rotate_left
        · go_simp; try with_reducible rfl
        try simp only [Act.put, List.setIfInBounds_toArray, List.set_cons_zero, List.set_cons_succ]
        refine wpX_free (i := 12) (v := ?_) rfl (by kernel_rfl) (fun _ _ _ h => h) rfl (fun w' => ?_) ?_
        rotate_left
        · go_simp; try with_reducible rfl
        try simp only [Act.put, List.setIfInBounds_toArray, List.set_cons_zero, List.set_cons_succ]
        refine wpX_one (i := 13) rfl (by kernel_rfl) rfl ?_
        intro K hK
        go_simp
        rw [HW4.out]
        have hC := CW.out W4 B4.out
        refine hK _ _ hC ?_
        clear hK K
        try simp only [Act.put, List.setIfInBounds_toArray, List.set_cons_zero, List.set_cons_succ]
        refine wpX_rest (t := [14, 15, 16, 17]) (l := [_, _, _, _]) rfl (by kernel_rfl) (by kernel_rfl) ?_
        clear hC
        refine Flat.append_at FPacket W4 (.tmp 49) (.tmp 58) rfl rfl (base := 0) (v := .slice wa S.wire.length wc) (xs := S.wire) (ys := [(true, (a : Int), (j : Int), (k : Int), mt, st)]) rfl P5.out.ow rfl RD.out hln (Nat.zero_le _) ?_
        intro v' w4 o4 g4 at4
        obtain ⟨na, nc, hv', _, _⟩ := o4.shape
        simp only [List.length_append, List.length_cons, List.length_nil, Nat.zero_add] at hv'
        have e4 := grown_at g4 P5.out.hold.lt (P5.out.hold.ne_box (i := 4) rfl) 6
        have c4 := e4.1.trans P5.out.get.2.2.2.1
        have f4 := e4.2.trans (P5.out.fz 6)
        have P4 := P5.out.part (S' := { S with wire := S.wire ++ [(true, (a : Int), (j : Int), (k : Int), mt, st)] }) 4 6 (c' := FPacket.ch v' (S.wire ++ [(true, (a : Int), (j : Int), (k : Int), mt, st)])) rfl rfl rfl (by decide) g4 o4 (m := w.heap.size) HZ5.out (at_of at4) P5.out.len P5.out.pos
        have F4 := F5.out.trans ((Fs.of_grown (S := B) g4 (fun k hk => HB.out k (P5.out.row (i := 4) rfl k hk))).set (a := ⟨b, 0 + 6, none⟩) (HB.out b ⟨0, rfl⟩) v')
        subst hv'
        have P4 := Lib.hid P4
        have F4 := Lib.hid F4
        clear o4 g4 at4 e4
        have q5 := P4.out.get.2.2.1
        have f0 := P4.out.oh.free (a * 3)
        have f1 := P4.out.oh.free (a * 3 + 1)
        have f2 := P4.out.oh.free (a * 3 + 2)
        obtain ⟨y0, y1, y2⟩ := FHand_cell P4.out.oh HAL.out
        have gb : ¬ g = b := fun e => P4.out.hold.ne_box (i := 3) rfl (by rw [e]; rfl)
        have bg : ¬ b = g := fun e => gb e.symm
        have PN := P4.out.part0 (S' := handOff a { S with wire := S.wire ++ [(true, (a : Int), (j : Int), (k : Int), mt, st)] }) 3 (c' := FHand.ch (.slice (some ⟨g, 0, none⟩) S.hands.length hcp) (S.hands.set a noHand)) rfl rfl rfl (w2 := (((w4.setCell ⟨b, 6, none⟩ (.slice na (S.wire.length + 1) nc)).setCell ⟨g, a * 3, none⟩ (.bool false)).setCell ⟨g, a * 3 + 1, none⟩ (.int .i64 0)).setCell ⟨g, a * 3 + 2, none⟩ (.int .i64 0)) (grown_set3 _ g _ _ _ _ _ _) (FHand.set_cells P4.out.oh a noHand HAL.out) rfl P4.out.len P4.out.pos
        have FY := Fs.of_grown (S := Bm B w.heap.size) (grown_set3 (w4.setCell ⟨b, 6, none⟩ (.slice na (S.wire.length + 1) nc)) g (a * 3) (a * 3 + 1) (a * 3 + 2) (.bool false) (.int .i64 0) (.int .i64 0)) (fun k hk => P4.out.inB 4 k (by rw [← hk]; rfl))
        have PN := Lib.hid PN
        have FY := Lib.hid (F4.out.bm FY (Nat.le_refl _))
        simp [go_sem, gb, bg] at q5 f0 f1 f2 y0 y1 y2
        go_wp2
        go_ret
        exact DoP.mk HR.out PN.out FY.out
end Go.Proofs.Ytijpkcdalmlaiaa
namespace Go.Proofs.Ytijpkcdalmlaiaa
open Go.RowKit Go.Sort
theorem Sep.set' {L : List (Option Nat)} (h : Sep L) {i : Nat} {x : Option Nat} (hi : i < L.length) (hx : ∀ g, x = some g → ∀ j, j ≠ i → L[j]? ≠ some (some g)) : Sep (L.set i x) := by
  intro a b g ha hb
  by_cases e1 : i = a
  · by_cases e2 : i = b
    · omega
    · subst e1
      rw [List.getElem?_set_self hi] at ha
      rw [List.getElem?_set_ne e2] at hb
      simp at ha
      exact absurd hb (hx g ha b (Ne.symm e2))
  · rw [List.getElem?_set_ne e1] at ha
    by_cases e2 : i = b
    · subst e2
      rw [List.getElem?_set_self hi] at hb
      simp at hb
      exact absurd ha (hx g hb a (Ne.symm e1))
    · rw [List.getElem?_set_ne e2] at hb
      exact h a b g ha hb
theorem Flat.Sl.take' {α : Type} {F : Flat α} {w : World} {ad : Option Addr} {n c : Nat} {xs : List α} (h : F.Sl w (.slice ad n c) xs) {k : Nat} (hk : k ≤ xs.length) : F.Sl w (.slice ad k c) (xs.take k) := by
  obtain ⟨ad', c', he, h2, h3, h4⟩ := h
  simp only [Value.slice.injEq] at he
  obtain ⟨rfl, rfl, rfl⟩ := he
  have hl : (xs.take k).length = k := by simp; omega
  refine ⟨ad, c, by rw [hl], by omega, h3, fun j u hu => h4 j u ?_⟩
  rw [← List.take_append_drop k xs, F.encs_append, List.getElem?_append_left (List.getElem?_eq_some_iff.1 hu).1]
  exact hu
theorem grown_of_below {w w' : World} (h : Below w.heap.size w w') (row : Option Nat) : w.grownBy w' row := ⟨h.os, h.tape, h.output, h.size, fun k hk _ => h.block k hk⟩
/-- a new desk is laid into the plant -/
theorem PlIs.newDesk {w w3 : World} {b o : Nat} {B : Nat → Prop} {S : PS} {vl vr ve vh vw vo vl' vr' : Value} {l r : List Int} (q : Int) (P : PlIs w b o B S vl vr ve vh vw vo) (hb : Below w.heap.size w w3) (hd : DeskO w3 w.heap.size vl' vr' l r) (hp : 0 < l.length) :
    PlIs (((w3.setCell ⟨b, o + 0, none⟩ vl').setCell ⟨b, o + 1, none⟩ vr').setCell ⟨b, o + 2, none⟩ (.int .i64 q)) b o (Bm B w.heap.size) { S with l := l, r := r, q := q } vl' vr' ve vh vw vo := by
  have P3 := P.below hb
  obtain ⟨ol, or_, hlen, hne⟩ := hd
  have fl : ∀ g, vl'.ownBlock = some g → w.heap.size ≤ g := fun g hg => (ol.lt g hg).1
  have fr : ∀ g, vr'.ownBlock = some g → w.heap.size ≤ g := fun g hg => (or_.lt g hg).1
  have hL : some b :: blk (parts { S with l := l, r := r, q := q } vl' vr' ve vh vw vo) = ((some b :: blk (parts S vl vr ve vh vw vo)).set 1 vl'.ownBlock).set 2 vr'.ownBlock := rfl
  have hold : Hold w3 b (parts { S with l := l, r := r, q := q } vl' vr' ve vh vw vo) := by
    refine ⟨P3.hold.lt, fun i c hc => ?_, ?_⟩
    · match i, hc with
      | 0, hc => simp [parts] at hc; subst hc; have h := ol.lower (Nat.zero_le _); rw [← FI_own] at h; exact h
      | 1, hc => simp [parts] at hc; subst hc; have h := or_.lower (Nat.zero_le _); rw [← FI_own] at h; exact h
      | i + 2, hc => exact P3.hold.own (i + 2) c hc
    · rw [hL]
      refine Sep.set' (Sep.set' P.hold.sep (by simp [blk, parts]) (fun g hg j _ hj => ?_)) (by simp [blk, parts]) (fun g hg j hji hj => ?_)
      · have := P.hold.ltAll j g hj
        have := fl g hg
        omega
      · by_cases e : (1 : Nat) = j
        · subst e
          rw [List.getElem?_set_self (by simp [blk, parts])] at hj
          simp at hj
          exact hne g hj hg
        · rw [List.getElem?_set_ne e] at hj
          have := P.hold.ltAll j g hj
          have := fr g hg
          omega
  refine ⟨fun i u hu => ?_, fun i => ?_, ((hold.setb _ _).setb _ _).setb _ _, ?_, hlen, hp⟩
  · have e0 := P3.box 0 _ rfl
    have e1 := P3.box 1 _ rfl
    have e2 := P3.box 2 _ rfl
    match i, hu with
    | 0, hu => simp [slots] at hu; subst hu; simp only [Nat.add_zero] at e0; simp [go_sem, e0]
    | 1, hu => simp [slots] at hu; subst hu; simp [go_sem, e1]
    | 2, hu => simp [slots] at hu; subst hu; simp [go_sem, e2]
    | i + 3, hu =>
      have h3 := P3.box (i + 3) u hu
      have n0 : ¬ o = o + (i + 3) := by omega
      have n1 : ¬ o + 1 = o + (i + 3) := by omega
      have n2 : ¬ o + 2 = o + (i + 3) := by omega
      have m0 : ¬ o + (i + 3) = o := by omega
      have m1 : ¬ o + (i + 3) = o + 1 := by omega
      have m2 : ¬ o + (i + 3) = o + 2 := by omega
      simp [go_sem, h3, n0, n1, n2, m0, m1, m2]
  · have h := P3.fz i
    simpa [go_sem] using h
  · intro j g hj
    rw [hL] at hj
    by_cases e : (2 : Nat) = j
    · subst e
      rw [List.getElem?_set_self (by simp [blk, parts])] at hj
      simp at hj
      exact .inr (fr g hj)
    · rw [List.getElem?_set_ne e] at hj
      by_cases e : (1 : Nat) = j
      · subst e
        rw [List.getElem?_set_self (by simp [blk, parts])] at hj
        simp at hj
        exact .inr (fl g hj)
      · rw [List.getElem?_set_ne e] at hj
        exact .inl (P.inB j g hj)
theorem Fs.set3b {B : Nat → Prop} {w w3 : World} {b i j k : Nat} (h : Fs B w w3) (hb : B b) (x y z : Value) : Fs B w (((w3.setCell ⟨b, i, none⟩ x).setCell ⟨b, j, none⟩ y).setCell ⟨b, k, none⟩ z) :=
  ((h.set (a := ⟨b, i, none⟩) hb x).set (a := ⟨b, j, none⟩) hb y).set (a := ⟨b, k, none⟩) hb z
/-- a number is laid into the plant -/
theorem PlIs.number {w : World} {b o : Nat} {B : Nat → Prop} {S : PS} {vl vr ve vh vw vo : Value} (P : PlIs w b o B S vl vr ve vh vw vo) (k : Nat) : PlIs (w.setCell ⟨b, o + 4, none⟩ (.int .i64 k)) b o B { S with sy := k } vl vr ve vh vw vo :=
  P.store (World.grownBy.refl w none) (by simp) 4 _ rfl (by decide) P.hold P.inB P.len P.pos
theorem PlIs.oo' {w : World} {b o : Nat} {B : Nat → Prop} {S : PS} {vl vr ve vh vw vo : Value} (h : PlIs w b o B S vl vr ve vh vw vo) : FI.Own w 0 vo S.out := h.hold.own 5 _ rfl
theorem PInv.plOk' {n sm wk : Nat} {S : PS} (h : PInv n sm wk S) (h1 : 1 ≤ sm) (h2 : sm ≤ 8) (out : List Int) (ho : out.length ≤ 1000) : PlOk sm { S with out := out } := by
  obtain ⟨a, b, c, d, _, f⟩ := h.plOk h1 h2
  exact ⟨a, b, c, d, ho, f⟩
end Go.Proofs.Ytijpkcdalmlaiaa
