/-
  Slices of Record: read, copied, compared, marked, held.
-/
import Derived.Test.YthbbnjpadmcbmaaBaseII
import Derived.Test.YthbbnjpadmcbmaaFlat
import Derived.Test.YthbbnjpadmcbmaaRecord
import Derived.Lib.QuietBelow
import Derived.Deep.RegionWith
namespace Go.Proofs.Ythbbnjpadmcbmaa
open Go.RowKit Go.Sort
def encRecord (x : Int × Int × Int) : List Value := [.int .i64 x.1, .int .i64 x.2.1, .int .i64 x.2.2]
theorem encRecord_one (x : Int × Int × Int) (u : Value) (h : u ∈ encRecord x) : u.oneCell' = true := by simp [encRecord] at h; rcases h with rfl | rfl | rfl <;> rfl

def FRecord : Flat (Int × Int × Int) := ⟨39, 56, .agg #[.int .i64 0, .int .i64 0, .int .i64 0], 3, 24, encRecord, Try.underlying39, by kernel_rfl, rfl, by decide, by decide, fun _ => rfl, encRecord_one⟩
def FRecordL : Flat (Int × Int × Int) := ⟨27, 109, .agg #[.int .i64 0, .int .i64 0, .int .i64 0], 3, 24, encRecord, Try.underlying27, by kernel_rfl, rfl, by decide, by decide, fun _ => rfl, encRecord_one⟩
theorem FRecord_at {w : World} {ad : Option Addr} {n c : Nat} {xs : List (Int × Int × Int)} (h : FRecord.Sl w (.slice ad n c) xs) {i : Nat} (hi : i < xs.length) :
    ∃ b off, ad = some ⟨b, off, none⟩ ∧ b < w.heap.size ∧ w.cell? ⟨b, off + i * 3, none⟩ = some (.int .i64 xs[i].1) ∧ w.cell? ⟨b, off + i * 3 + 1, none⟩ = some (.int .i64 xs[i].2.1) ∧ w.cell? ⟨b, off + i * 3 + 2, none⟩ = some (.int .i64 xs[i].2.2) := by
  obtain ⟨b, off, h1, h2, h3⟩ := h.at_ hi
  refine ⟨b, off, h1, h2, ?_, ?_, ?_⟩
  · have := h3 0 (.int .i64 xs[i].1) rfl
    have e : off + (i * FRecord.size + 0) = off + i * 3 := by show off + (i * 3 + 0) = _; omega
    rw [e] at this; exact this
  · have := h3 1 (.int .i64 xs[i].2.1) rfl
    have e : off + (i * FRecord.size + 1) = off + i * 3 + 1 := by show off + (i * 3 + 1) = _; omega
    rw [e] at this; exact this
  · have := h3 2 (.int .i64 xs[i].2.2) rfl
    have e : off + (i * FRecord.size + 2) = off + i * 3 + 2 := by show off + (i * 3 + 2) = _; omega
    rw [e] at this; exact this
theorem FRecord_cell {w : World} {base g n c : Nat} {xs : List (Int × Int × Int)} (h : FRecord.Own w base (.slice (some ⟨g, 0, none⟩) n c) xs) {i : Nat} (hi : i < xs.length) :
    w.cell? ⟨g, i * 3, none⟩ = some (.int .i64 xs[i].1) ∧ w.cell? ⟨g, i * 3 + 1, none⟩ = some (.int .i64 xs[i].2.1) ∧ w.cell? ⟨g, i * 3 + 2, none⟩ = some (.int .i64 xs[i].2.2) :=
  ⟨h.cell (j := 0) hi (by decide), h.cell (j := 1) hi (by decide), h.cell (j := 2) hi (by decide)⟩
theorem FRecordL_at {w : World} {ad : Option Addr} {n c : Nat} {xs : List (Int × Int × Int)} (h : FRecordL.Sl w (.slice ad n c) xs) {i : Nat} (hi : i < xs.length) :
    ∃ b off, ad = some ⟨b, off, none⟩ ∧ b < w.heap.size ∧ w.cell? ⟨b, off + i * 3, none⟩ = some (.int .i64 xs[i].1) ∧ w.cell? ⟨b, off + i * 3 + 1, none⟩ = some (.int .i64 xs[i].2.1) ∧ w.cell? ⟨b, off + i * 3 + 2, none⟩ = some (.int .i64 xs[i].2.2) := by
  obtain ⟨b, off, h1, h2, h3⟩ := h.at_ hi
  refine ⟨b, off, h1, h2, ?_, ?_, ?_⟩
  · have := h3 0 (.int .i64 xs[i].1) rfl
    have e : off + (i * FRecordL.size + 0) = off + i * 3 := by show off + (i * 3 + 0) = _; omega
    rw [e] at this; exact this
  · have := h3 1 (.int .i64 xs[i].2.1) rfl
    have e : off + (i * FRecordL.size + 1) = off + i * 3 + 1 := by show off + (i * 3 + 1) = _; omega
    rw [e] at this; exact this
  · have := h3 2 (.int .i64 xs[i].2.2) rfl
    have e : off + (i * FRecordL.size + 2) = off + i * 3 + 2 := by show off + (i * 3 + 2) = _; omega
    rw [e] at this; exact this
theorem FRecordL_cell {w : World} {base g n c : Nat} {xs : List (Int × Int × Int)} (h : FRecordL.Own w base (.slice (some ⟨g, 0, none⟩) n c) xs) {i : Nat} (hi : i < xs.length) :
    w.cell? ⟨g, i * 3, none⟩ = some (.int .i64 xs[i].1) ∧ w.cell? ⟨g, i * 3 + 1, none⟩ = some (.int .i64 xs[i].2.1) ∧ w.cell? ⟨g, i * 3 + 2, none⟩ = some (.int .i64 xs[i].2.2) :=
  ⟨h.cell (j := 0) hi (by decide), h.cell (j := 1) hi (by decide), h.cell (j := 2) hi (by decide)⟩
theorem FRecord_encs_set (xs : List (Int × Int × Int)) (i : Nat) (x : Int × Int × Int) (hi : i < xs.length) : FRecord.encs (xs.set i x) = (((FRecord.encs xs).set (i * 3) (.int .i64 x.1)).set (i * 3 + 1) (.int .i64 x.2.1)).set (i * 3 + 2) (.int .i64 x.2.2) := by
  induction xs generalizing i with
  | nil => simp at hi
  | cons y ys ih =>
    cases i with
    | zero => simp [Flat.encs, FRecord, encRecord]
    | succ i =>
      rw [List.set_cons_succ, Flat.encs_cons, Flat.encs_cons, ih i (by simpa using hi)]
      have e : (i + 1) * 3 = i * 3 + 3 := by omega
      rw [e]
      simp [FRecord, encRecord, List.set_append_right]
      try omega
theorem FRecord.set_cells {w : World} {base g n c : Nat} {xs : List (Int × Int × Int)} (h : FRecord.Own w base (.slice (some ⟨g, 0, none⟩) n c) xs) (i : Nat) (x : Int × Int × Int) (hi : i < xs.length) :
    FRecord.Own (((w.setCell ⟨g, i * 3, none⟩ (.int .i64 x.1)).setCell ⟨g, i * 3 + 1, none⟩ (.int .i64 x.2.1)).setCell ⟨g, i * 3 + 2, none⟩ (.int .i64 x.2.2)) base (.slice (some ⟨g, 0, none⟩) n c) (xs.set i x) := by
  obtain rfl := h.len_of
  have h0 : w.ownsRow base FRecord.E FRecord.size (.slice (some ⟨g, 0, none⟩) xs.length c) xs.length (FRecord.encs xs) := h
  have h1 := (World.ownsRow.stored (base := base) h0 (i * 3) (.int .i64 x.1)).1
  have h2 := (World.ownsRow.stored (base := base) h1 (i * 3 + 1) (.int .i64 x.2.1)).1
  have h3 := (World.ownsRow.stored (base := base) h2 (i * 3 + 2) (.int .i64 x.2.2)).1
  unfold Flat.Own
  rw [List.length_set, FRecord_encs_set xs i x hi]
  exact h3

set_option maxHeartbeats 400000 in
theorem szRecordS_any {u : Value} {xs : List (Int × Int × Int)} (l : Int) (w : World) (ha : FRecordL.Sl w u xs) (h0 : 0 ≤ l) (h1 : l ≤ 1048576) :
    Calls Try.prog 14 #[u, .int .i64 l] w fun e w' => e = .returned (.int .i64 (sz1 l xs.length)) ∧ Below w.heap.size w w' := by
  obtain ⟨a, ca, rfl, hca, hca', _⟩ := ha
  unfold maxLen at hca'
  by_cases h : l - xs.length < 0
  · have hs : Hid (sz1 l xs.length = -1) := by unfold Hid sz1; rw [if_pos h]
    go_enter Try.func14, Try.ntmps14
    go_wp2
    go_ret
    exact ⟨ri hs.out.symm, Below.refl _ _⟩
  · have hs : Hid (sz1 l xs.length = l - xs.length) := by unfold Hid sz1; rw [if_neg h]
    go_enter Try.func14, Try.ntmps14
    go_wp2
    go_ret
    exact ⟨ri hs.out.symm, Below.refl _ _⟩
theorem FRecord_made (n : Nat) : (madeCells FRecord.z.cells (n * FRecord.size)).toList = FRecord.encs (List.replicate n ((0 : Int), (0 : Int), (0 : Int))) := by
  have h : ∀ n : Nat, FRecord.encs (List.replicate n ((0 : Int), (0 : Int), (0 : Int))) = List.replicate (n * 3) (.int .i64 0) := by
    intro n
    induction n with
    | zero => rfl
    | succ n ih => rw [List.replicate_succ, Flat.encs_cons, ih]; rw [show (n + 1) * 3 = 3 + n * 3 by omega, ← List.replicate_append_replicate]; rfl
  rw [h n]
  apply List.ext_getElem?
  intro i
  simp [madeCells, FRecord, Value.cells]
  by_cases hi : i < n * 3
  · simp [hi]
    have : i % 3 < 3 := Nat.mod_lt _ (by decide)
    try (rcases (show i % 3 = 0 ∨ i % 3 = 1 ∨ i % 3 = 2 by omega) with e | e | e <;> simp [e])
  · simp [hi]
set_option maxHeartbeats 1000000 in
theorem toRecordS_any {u : Value} {xs : List (Int × Int × Int)} (w : World) (ha : FRecordL.Sl w u xs) (hl : xs.length ≤ 1048576) :
    Calls Try.prog 17 #[u] w fun e w' => ∃ v, e = .returned v ∧ FRecord.Own w' w.heap.size v xs ∧ Below w.heap.size w w' := by
  obtain ⟨a, ca, rfl, hca, hca', _⟩ := id ha
  have HA := Lib.hid (fun W (h : Below w.heap.size w W) => ha.below h)
  clear hca hca' ha
  go_enter Try.func17, Try.ntmps17
  go_wp2_with (at_make; refine Flat.make FRecord w _ _ ((0 : Int), (0 : Int), (0 : Int)) rfl rfl rfl xs.length rfl rfl rfl rfl (by omega) (FRecord_made _) ?_)
  intro w1 hown hb1 hsz
  go_wp2
  go_loopw [4] (fun i wr => ∃ k : Nat, k ≤ xs.length ∧ i = .int .i64 k ∧ FRecord.Own wr w.heap.size (.slice (some ⟨w.heap.size, 0, none⟩) xs.length xs.length) (xs.take k ++ List.replicate (xs.length - k) ((0 : Int), (0 : Int), (0 : Int))) ∧ Below w.heap.size w wr) (fun i _ => xs.length - (intOf i).toNat)
  case atStart => exact ⟨0, Nat.zero_le _, rfl, by simpa using hown, hb1⟩
  case round =>
    clear hown hb1
    obtain ⟨k, hk, rfl, hown, hbw⟩ := hrel
    by_cases hlt : k < xs.length
    · obtain ⟨ba, oa, rfl, _, c0, c1, c2⟩ := FRecordL_at (HA.out _ hbw) hlt
      have i1 : (k : Int) < (xs.length : Int) := by omega
      have hll : k < (xs.take k ++ List.replicate (xs.length - k) ((0 : Int), (0 : Int), (0 : Int))).length := by simp; omega
      have HO := Lib.hid hown
      have HLL := Lib.hid hll
      clear hown hll
      go_wp2_with fail
      refine (toRecord_any xs[k].1 xs[k].2.1 xs[k].2.2 _).mono ?_
      rintro e w2 ⟨rfl, b2⟩
      have ho := HO.out.below b2
      have hst := FRecord.set_cells ho k xs[k] HLL.out
      rw [fillg hlt] at hst
      have HST := Lib.hid hst
      obtain ⟨d0, d1, d2⟩ := FRecord_cell ho HLL.out
      have f0 := ho.free (k * 3); have f1 := ho.free (k * 3 + 1); have f2 := ho.free (k * 3 + 2)
      have bq := hbw.trans (b2.mono hbw.size)
      clear hst ho hbw b2 c0 c1 c2
      go_wp2
      go_roundw
      case rel => exact ⟨k + 1, by omega, by go_num, HST.out, ((bq.setCell (by simp) _).setCell (by simp) _).setCell (by simp) _⟩
      case measure => simp [intOf]; omega
    · obtain rfl : k = xs.length := by omega
      go_wp2
      go_ret
      exact ⟨_, rfl, by simpa using hown, hbw⟩

set_option maxHeartbeats 1000000 in
theorem eqRecord_refl (a0 a1 a2 : Int) (w : World) :
    Calls Try.prog 74 #[.agg #[.int .i64 a0, .int .i64 a1, .int .i64 a2], .agg #[.int .i64 a0, .int .i64 a1, .int .i64 a2]] w fun e w' => e = .returned (.bool true) ∧ Below w.heap.size w w' := by
  have h0 : (a0 != a0) = false := by simp
  have h1 : (a1 != a1) = false := by simp
  have h2 : (a2 != a2) = false := by simp
  go_enter Try.func74, Try.ntmps74
  go_wp2
  go_ret
  exact ⟨rfl, ((Below.refl _ _).alloc (Nat.le_refl _) _).alloc (by simp) _⟩
set_option maxHeartbeats 1000000 in
theorem eqRecordS_refl {u v : Value} {xs : List (Int × Int × Int)} (w : World) (ha : FRecord.Sl w u xs) (hb : FRecord.Sl w v xs) :
    Calls Try.prog 21 #[u, v] w fun e w' => e = .returned (.bool true) ∧ Below w.heap.size w w' := by
  have HA := Lib.hid (fun W (h : Below w.heap.size w W) => ha.below h)
  have HB := Lib.hid (fun W (h : Below w.heap.size w W) => hb.below h)
  obtain ⟨a, ca, rfl, hca, hca', _⟩ := ha
  obtain ⟨b, cb, rfl, hcb, hcb', _⟩ := hb
  unfold maxLen at hca' hcb'
  have hm : xs.length ≤ 9223372036854775807 := by omega
  have h1 : ((xs.length : Int) != (xs.length : Int)) = false := by simp
  clear hca hca' hcb hcb'
  go_enter Try.func21, Try.ntmps21
  go_wp2
  go_loopw [5] (fun i wr => ∃ k : Nat, k ≤ xs.length ∧ i = .int .i64 k ∧ Below w.heap.size w wr) (fun i _ => xs.length - (intOf i).toNat)
  case atStart => exact ⟨0, Nat.zero_le _, rfl, Below.refl _ _⟩
  case round =>
    obtain ⟨k, hk, rfl, hbw⟩ := hrel
    by_cases hlt : k < xs.length
    · obtain ⟨ba, oa, rfl, _, c0, c1, c2⟩ := FRecord_at (HA.out _ hbw) hlt
      obtain ⟨bb, ob, rfl, _, d0, d1, d2⟩ := FRecord_at (HB.out _ hbw) hlt
      have kc0 := fun d os => cell_regrown c0 d os
      have kc1 := fun d os => cell_regrown c1 d os
      have kc2 := fun d os => cell_regrown c2 d os
      have kd0 := fun d os => cell_regrown d0 d os
      have kd1 := fun d os => cell_regrown d1 d os
      have kd2 := fun d os => cell_regrown d2 d os
      have i0 : (0 : Int) ≤ (k : Int) := by omega
      have i1 : (k : Int) < (xs.length : Int) := by omega
      clear c0 c1 c2 d0 d1 d2
      go_wp2_with fail
      refine wp_region_quiet_below (by kernel_rfl) (by kernel_rfl) ?_
      repeat (first | go_big_quiet_skip | quiet_step (exact Calls.regrown_of (eqRecord_refl xs[k].1 xs[k].2.1 xs[k].2.2 _)))
      refine wpQuiet_nil ?_
      intro _ hw'
      obtain ⟨⟨dq, osq⟩, hw''⟩ := hw'
      subst hw''
      have bq := hbw.trans ((below_regrown wr dq osq).mono hbw.size)
      generalize grow (redrawn wr dq) osq = wq at bq ⊢
      clear kc0 kc1 kc2 kd0 kd1 kd2
      go_wp2
      go_roundw
      case rel => exact ⟨k + 1, by omega, by go_num, bq⟩
      case measure => simp [intOf]; omega
    · go_wp2
      go_ret
      exact ⟨rfl, hbw⟩

def mkRecord (q : Int) : Int × Int × Int := (q, q + 1, q + 1 + 1)
def mksRecord (m : Int) (n : Nat) : List (Int × Int × Int) := (List.range n).map fun (i : Nat) => mkRecord (m + 3 * (i : Int))
theorem mksRecord_length (m : Int) (n : Nat) : (mksRecord m n).length = n := by simp [mksRecord]
theorem mksRecord_get (m : Int) (n : Nat) {i : Nat} (h : i < n) : (mksRecord m n)[i]'(by rw [mksRecord_length]; exact h) = mkRecord (m + 3 * (i : Int)) := by simp [mksRecord]
theorem mksRecord_step {xs : List (Int × Int × Int)} {m : Int} {k : Nat} (h : k < xs.length) : (mksRecord m k ++ xs.drop k).set k (mkRecord (m + 3 * (k : Int))) = mksRecord m (k+1) ++ xs.drop (k+1) := by
  rw [List.set_append_right _ _ (by simp [mksRecord])]
  have e2 : k - (mksRecord m k).length = 0 := by simp [mksRecord]
  rw [e2, List.drop_eq_getElem_cons h, List.set_cons_zero]
  simp [mksRecord, List.range_succ]
set_option maxHeartbeats 1000000 in
theorem markRecordS_any {v : Value} {xs : List (Int × Int × Int)} (m : Int) (base : Nat) (w : World) (hm0 : 0 ≤ m) (hm : m + 3 * xs.length ≤ 1000000000000) (ha : FRecord.Own w base v xs) :
    Calls Try.prog 23 #[v, .int .i64 m] w fun e w' => e = .returned (.int .i64 (m + 3 * xs.length)) ∧ FRecord.Own w' base v (mksRecord m xs.length) ∧ w.grownBy w' v.ownBlock := by
  rcases ha.forms with ⟨rfl, rfl⟩ | ⟨g, c, rfl, hbase, hgs, hc1, hc2⟩
  · go_enter Try.func23, Try.ntmps23
    go_wp2
    refine wp_loop_rounds 1 ?_
    rw [rounds_succ]
    go_wp2
    go_ret
    exact ⟨ri (by simp), Flat.Own.nil _ _, World.grownBy.refl _ _⟩
  · clear hc1 hc2
    go_enter Try.func23, Try.ntmps23
    go_wp2
    go_loopw [1, 5] (fun q i wr => ∃ (k : Nat) (Q : Int), k ≤ xs.length ∧ i = .int .i64 k ∧ q = .int .i64 Q ∧ Hid (Q = m + 3 * (k : Int)) ∧ 0 ≤ Q ∧ Q ≤ 1000000000000 ∧ FRecord.Own wr base (.slice (some ⟨g, 0, none⟩) xs.length c) (mksRecord m k ++ xs.drop k) ∧ w.grownBy wr (some g)) (fun _ i _ => xs.length - (intOf i).toNat)
    case atStart => exact ⟨0, m, Nat.zero_le _, rfl, rfl, by simp [Hid], by omega, by omega, by simpa [mksRecord] using ha, World.grownBy.refl _ _⟩
    case round =>
      clear ha
      obtain ⟨k, Q, hk, rfl, rfl, hQ, hQ0, hQ1, hown, hgr⟩ := hrel
      by_cases hlt : k < xs.length
      · have hll : k < (mksRecord m k ++ xs.drop k).length := by simp [mksRecord]; omega
        have own' := FRecord.set_cells hown k (mkRecord Q) hll
        rw [hQ.out, mksRecord_step hlt] at own'
        simp only [mkRecord] at own'
        rw [← hQ.out] at own'
        obtain ⟨d0, d1, d2⟩ := FRecord_cell hown hll
        generalize (mksRecord m k ++ xs.drop k)[k]'hll = y at d0 d1 d2
        have f0 := hown.free (k * 3)
        have f1 := hown.free (k * 3 + 1)
        have f2 := hown.free (k * 3 + 2)
        have HO := Lib.hid own'
        have i1 : (k : Int) < (xs.length : Int) := by omega
        have hq1 : Q + 3 ≤ 1000000000000 := by have := hQ.out; omega
        clear own' hown hll
        go_wp2
        go_roundw
        case rel => exact ⟨k + 1, Q + 1 + 1 + 1, by omega, by go_num, rfl, by have := hQ.out; unfold Hid; rw [this]; push_cast; omega, by omega, by omega, HO.out, grownBy_setCell (grownBy_setCell (grownBy_setCell hgr _ _) _ _) _ _⟩
        case measure => simp [intOf]; omega
      · obtain rfl : k = xs.length := by omega
        go_wp2
        go_ret
        exact ⟨ri hQ.out, by simpa using hown, hgr⟩
end Go.Proofs.Ythbbnjpadmcbmaa
