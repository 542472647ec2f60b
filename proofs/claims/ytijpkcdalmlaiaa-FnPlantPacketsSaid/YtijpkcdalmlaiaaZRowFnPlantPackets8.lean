/-
  Slices of Deed; the codes of deeds; a valid list of deeds. With it: Slices of Record: read, copied, compared, marked, held. Slices of Deed: read, copied, compared, marked, held.
-/
import Derived.Test.YtijpkcdalmlaiaaZRowFnPlantPackets5
import Derived.Test.YtijpkcdalmlaiaaZRowFnPlantPackets3
import Derived.Test.YtijpkcdalmlaiaaZRowFnPlantPackets6
import Derived.Lib.QuietBelow
import Derived.Deep.RegionWith
set_option linter.unusedVariables false
set_option linter.unusedSimpArgs false
namespace Go.Proofs.Ytijpkcdalmlaiaa
open Go.RowKit Go.Sort
def encRecord (x : Int × Int × Int) : List Value := [.int .i64 x.1, .int .i64 x.2.1, .int .i64 x.2.2]
theorem encRecord_one (x : Int × Int × Int) (u : Value) (h : u ∈ encRecord x) : u.oneCell' = true := by simp [encRecord] at h; rcases h with rfl | rfl | rfl <;> rfl

def FRecord : Flat (Int × Int × Int) := ⟨57, 121, .agg #[.int .i64 0, .int .i64 0, .int .i64 0], 3, 24, encRecord, Try.underlying57, by kernel_rfl, rfl, by decide, by decide, fun _ => rfl, encRecord_one⟩
theorem FRecord_at {w : World} {ad : Option Addr} {n c : Nat} {xs : List (Int × Int × Int)} (h : FRecord.Sl w (.slice ad n c) xs) {i : Nat} (hi : i < xs.length) :
    ∃ b off, ad = some ⟨b, off, none⟩ ∧ b < w.heap.size ∧ w.cell? ⟨b, off + i * 3, none⟩ = some (.int .i64 xs[i].1) ∧ w.cell? ⟨b, off + i * 3 + 1, none⟩ = some (.int .i64 xs[i].2.1) ∧ w.cell? ⟨b, off + i * 3 + 2, none⟩ = some (.int .i64 xs[i].2.2) := by
  obtain ⟨b, off, h1, h2, h3⟩ := h.at_ hi
  refine ⟨b, off, h1, h2, ?_, ?_, ?_⟩
  · have := h3 0 (.int .i64 xs[i].1) rfl
    have e : off + (i * FRecord.size + 0) = off + i * 3 := by show off + (i * 3 + 0) = _; omega
    rw [e] at this; exact this
  · have := h3 1 (.int .i64 xs[i].2.1) rfl
    have e : off + (i * FRecord.size + 1) = off + i * 3 + 1 := by show off + (i * 3 + 1) = _; omega
    rw [e] at this; exact this
  · have := h3 2 (.int .i64 xs[i].2.2) rfl
    have e : off + (i * FRecord.size + 2) = off + i * 3 + 2 := by show off + (i * 3 + 2) = _; omega
    rw [e] at this; exact this
theorem FRecord_cell {w : World} {base g n c : Nat} {xs : List (Int × Int × Int)} (h : FRecord.Own w base (.slice (some ⟨g, 0, none⟩) n c) xs) {i : Nat} (hi : i < xs.length) :
    w.cell? ⟨g, i * 3, none⟩ = some (.int .i64 xs[i].1) ∧ w.cell? ⟨g, i * 3 + 1, none⟩ = some (.int .i64 xs[i].2.1) ∧ w.cell? ⟨g, i * 3 + 2, none⟩ = some (.int .i64 xs[i].2.2) :=
  ⟨h.cell (j := 0) hi (by decide), h.cell (j := 1) hi (by decide), h.cell (j := 2) hi (by decide)⟩
theorem FRecord_encs_set (xs : List (Int × Int × Int)) (i : Nat) (x : Int × Int × Int) (hi : i < xs.length) : FRecord.encs (xs.set i x) = (((FRecord.encs xs).set (i * 3) (.int .i64 x.1)).set (i * 3 + 1) (.int .i64 x.2.1)).set (i * 3 + 2) (.int .i64 x.2.2) := by
  induction xs generalizing i with
  | nil => simp at hi
  | cons y ys ih =>
    cases i with
    | zero => simp [Flat.encs, FRecord, encRecord]
    | succ i =>
      rw [List.set_cons_succ, Flat.encs_cons, Flat.encs_cons, ih i (by simpa using hi)]
      have e : (i + 1) * 3 = i * 3 + 3 := by omega
      rw [e]
      simp [FRecord, encRecord, List.set_append_right]
      try omega
theorem FRecord.set_cells {w : World} {base g n c : Nat} {xs : List (Int × Int × Int)} (h : FRecord.Own w base (.slice (some ⟨g, 0, none⟩) n c) xs) (i : Nat) (x : Int × Int × Int) (hi : i < xs.length) :
    FRecord.Own (((w.setCell ⟨g, i * 3, none⟩ (.int .i64 x.1)).setCell ⟨g, i * 3 + 1, none⟩ (.int .i64 x.2.1)).setCell ⟨g, i * 3 + 2, none⟩ (.int .i64 x.2.2)) base (.slice (some ⟨g, 0, none⟩) n c) (xs.set i x) := by
  obtain rfl := h.len_of
  have h0 : w.ownsRow base FRecord.E FRecord.size (.slice (some ⟨g, 0, none⟩) xs.length c) xs.length (FRecord.encs xs) := h
  have h1 := (World.ownsRow.stored (base := base) h0 (i * 3) (.int .i64 x.1)).1
  have h2 := (World.ownsRow.stored (base := base) h1 (i * 3 + 1) (.int .i64 x.2.1)).1
  have h3 := (World.ownsRow.stored (base := base) h2 (i * 3 + 2) (.int .i64 x.2.2)).1
  unfold Flat.Own
  rw [List.length_set, FRecord_encs_set xs i x hi]
  exact h3
end Go.Proofs.Ytijpkcdalmlaiaa
namespace Go.Proofs.Ytijpkcdalmlaiaa
open Go.RowKit Go.Sort
def encDeed (x : Int × Int) : List Value := [.int .i64 x.1, .int .i64 x.2]
theorem encDeed_one (x : Int × Int) (u : Value) (h : u ∈ encDeed x) : u.oneCell' = true := by simp [encDeed] at h; rcases h with rfl | rfl <;> rfl

def FDeed : Flat (Int × Int) := ⟨37, 68, .agg #[.int .i64 0, .int .i64 0], 2, 16, encDeed, Try.underlying37, by kernel_rfl, rfl, by decide, by decide, fun _ => rfl, encDeed_one⟩
def FDeedL : Flat (Int × Int) := ⟨27, 86, .agg #[.int .i64 0, .int .i64 0], 2, 16, encDeed, Try.underlying27, by kernel_rfl, rfl, by decide, by decide, fun _ => rfl, encDeed_one⟩
theorem FDeed_at {w : World} {ad : Option Addr} {n c : Nat} {xs : List (Int × Int)} (h : FDeed.Sl w (.slice ad n c) xs) {i : Nat} (hi : i < xs.length) :
    ∃ b off, ad = some ⟨b, off, none⟩ ∧ b < w.heap.size ∧ w.cell? ⟨b, off + i * 2, none⟩ = some (.int .i64 xs[i].1) ∧ w.cell? ⟨b, off + i * 2 + 1, none⟩ = some (.int .i64 xs[i].2) := by
  obtain ⟨b, off, h1, h2, h3⟩ := h.at_ hi
  refine ⟨b, off, h1, h2, ?_, ?_⟩
  · have := h3 0 (.int .i64 xs[i].1) rfl
    have e : off + (i * FDeed.size + 0) = off + i * 2 := by show off + (i * 2 + 0) = _; omega
    rw [e] at this; exact this
  · have := h3 1 (.int .i64 xs[i].2) rfl
    have e : off + (i * FDeed.size + 1) = off + i * 2 + 1 := by show off + (i * 2 + 1) = _; omega
    rw [e] at this; exact this
theorem FDeed_cell {w : World} {base g n c : Nat} {xs : List (Int × Int)} (h : FDeed.Own w base (.slice (some ⟨g, 0, none⟩) n c) xs) {i : Nat} (hi : i < xs.length) :
    w.cell? ⟨g, i * 2, none⟩ = some (.int .i64 xs[i].1) ∧ w.cell? ⟨g, i * 2 + 1, none⟩ = some (.int .i64 xs[i].2) :=
  ⟨h.cell (j := 0) hi (by decide), h.cell (j := 1) hi (by decide)⟩
theorem FDeedL_at {w : World} {ad : Option Addr} {n c : Nat} {xs : List (Int × Int)} (h : FDeedL.Sl w (.slice ad n c) xs) {i : Nat} (hi : i < xs.length) :
    ∃ b off, ad = some ⟨b, off, none⟩ ∧ b < w.heap.size ∧ w.cell? ⟨b, off + i * 2, none⟩ = some (.int .i64 xs[i].1) ∧ w.cell? ⟨b, off + i * 2 + 1, none⟩ = some (.int .i64 xs[i].2) := by
  obtain ⟨b, off, h1, h2, h3⟩ := h.at_ hi
  refine ⟨b, off, h1, h2, ?_, ?_⟩
  · have := h3 0 (.int .i64 xs[i].1) rfl
    have e : off + (i * FDeedL.size + 0) = off + i * 2 := by show off + (i * 2 + 0) = _; omega
    rw [e] at this; exact this
  · have := h3 1 (.int .i64 xs[i].2) rfl
    have e : off + (i * FDeedL.size + 1) = off + i * 2 + 1 := by show off + (i * 2 + 1) = _; omega
    rw [e] at this; exact this
theorem FDeedL_cell {w : World} {base g n c : Nat} {xs : List (Int × Int)} (h : FDeedL.Own w base (.slice (some ⟨g, 0, none⟩) n c) xs) {i : Nat} (hi : i < xs.length) :
    w.cell? ⟨g, i * 2, none⟩ = some (.int .i64 xs[i].1) ∧ w.cell? ⟨g, i * 2 + 1, none⟩ = some (.int .i64 xs[i].2) :=
  ⟨h.cell (j := 0) hi (by decide), h.cell (j := 1) hi (by decide)⟩
theorem FDeed_encs_set (xs : List (Int × Int)) (i : Nat) (x : Int × Int) (hi : i < xs.length) : FDeed.encs (xs.set i x) = ((FDeed.encs xs).set (i * 2) (.int .i64 x.1)).set (i * 2 + 1) (.int .i64 x.2) := by
  induction xs generalizing i with
  | nil => simp at hi
  | cons y ys ih =>
    cases i with
    | zero => simp [Flat.encs, FDeed, encDeed]
    | succ i =>
      rw [List.set_cons_succ, Flat.encs_cons, Flat.encs_cons, ih i (by simpa using hi)]
      have e : (i + 1) * 2 = i * 2 + 2 := by omega
      rw [e]
      simp [FDeed, encDeed, List.set_append_right]
      try omega
theorem FDeed.set_cells {w : World} {base g n c : Nat} {xs : List (Int × Int)} (h : FDeed.Own w base (.slice (some ⟨g, 0, none⟩) n c) xs) (i : Nat) (x : Int × Int) (hi : i < xs.length) :
    FDeed.Own ((w.setCell ⟨g, i * 2, none⟩ (.int .i64 x.1)).setCell ⟨g, i * 2 + 1, none⟩ (.int .i64 x.2)) base (.slice (some ⟨g, 0, none⟩) n c) (xs.set i x) := by
  obtain rfl := h.len_of
  have h0 : w.ownsRow base FDeed.E FDeed.size (.slice (some ⟨g, 0, none⟩) xs.length c) xs.length (FDeed.encs xs) := h
  have h1 := (World.ownsRow.stored (base := base) h0 (i * 2) (.int .i64 x.1)).1
  have h2 := (World.ownsRow.stored (base := base) h1 (i * 2 + 1) (.int .i64 x.2)).1
  unfold Flat.Own
  rw [List.length_set, FDeed_encs_set xs i x hi]
  exact h2

set_option maxHeartbeats 400000 in
theorem szDeedS_any {u : Value} {xs : List (Int × Int)} (l : Int) (w : World) (ha : FDeedL.Sl w u xs) (h0 : 0 ≤ l) (h1 : l ≤ 1048576) :
    Calls Try.prog 10 #[u, .int .i64 l] w fun e w' => e = .returned (.int .i64 (sz1 l xs.length)) ∧ Below w.heap.size w w' := by
  obtain ⟨a, ca, rfl, hca, hca', _⟩ := ha
  unfold maxLen at hca'
  by_cases h : l - xs.length < 0
  · have hs : Hid (sz1 l xs.length = -1) := by unfold Hid sz1; rw [if_pos h]
    go_enter Try.func10, Try.ntmps10
    go_wp2
    go_ret
    exact ⟨ri hs.out.symm, Below.refl _ _⟩
  · have hs : Hid (sz1 l xs.length = l - xs.length) := by unfold Hid sz1; rw [if_neg h]
    go_enter Try.func10, Try.ntmps10
    go_wp2
    go_ret
    exact ⟨ri hs.out.symm, Below.refl _ _⟩
theorem FDeed_made (n : Nat) : (madeCells FDeed.z.cells (n * FDeed.size)).toList = FDeed.encs (List.replicate n ((0 : Int), (0 : Int))) := by
  have h : ∀ n : Nat, FDeed.encs (List.replicate n ((0 : Int), (0 : Int))) = List.replicate (n * 2) (.int .i64 0) := by
    intro n
    induction n with
    | zero => rfl
    | succ n ih => rw [List.replicate_succ, Flat.encs_cons, ih]; rw [show (n + 1) * 2 = 2 + n * 2 by omega, ← List.replicate_append_replicate]; rfl
  rw [h n]
  apply List.ext_getElem?
  intro i
  simp [madeCells, FDeed, Value.cells]
  by_cases hi : i < n * 2
  · simp [hi]
    have : i % 2 < 2 := Nat.mod_lt _ (by decide)
    try (rcases (show i % 2 = 0 ∨ i % 2 = 1 by omega) with e | e <;> simp [e])
  · simp [hi]
set_option maxHeartbeats 1000000 in
theorem toDeedS_any {u : Value} {xs : List (Int × Int)} (w : World) (ha : FDeedL.Sl w u xs) (hl : xs.length ≤ 1048576) :
    Calls Try.prog 13 #[u] w fun e w' => ∃ v, e = .returned v ∧ FDeed.Own w' w.heap.size v xs ∧ Below w.heap.size w w' := by
  obtain ⟨a, ca, rfl, hca, hca', _⟩ := id ha
  have HA := Lib.hid (fun W (h : Below w.heap.size w W) => ha.below h)
  clear hca hca' ha
  go_enter Try.func13, Try.ntmps13
  go_wp2_with (at_make; refine Flat.make FDeed w _ _ ((0 : Int), (0 : Int)) rfl rfl rfl xs.length rfl rfl rfl rfl (by omega) (FDeed_made _) ?_)
  intro w1 hown hb1 hsz
  go_wp2
  go_loopw [4] (fun i wr => ∃ k : Nat, k ≤ xs.length ∧ i = .int .i64 k ∧ FDeed.Own wr w.heap.size (.slice (some ⟨w.heap.size, 0, none⟩) xs.length xs.length) (xs.take k ++ List.replicate (xs.length - k) ((0 : Int), (0 : Int))) ∧ Below w.heap.size w wr) (fun i _ => xs.length - (intOf i).toNat)
  case atStart => exact ⟨0, Nat.zero_le _, rfl, by simpa using hown, hb1⟩
  case round =>
    clear hown hb1
    obtain ⟨k, hk, rfl, hown, hbw⟩ := hrel
    by_cases hlt : k < xs.length
    · obtain ⟨ba, oa, rfl, _, c0, c1⟩ := FDeedL_at (HA.out _ hbw) hlt
      have i1 : (k : Int) < (xs.length : Int) := by omega
      have hll : k < (xs.take k ++ List.replicate (xs.length - k) ((0 : Int), (0 : Int))).length := by simp; omega
      have HO := Lib.hid hown
      have HLL := Lib.hid hll
      clear hown hll
      go_wp2_with fail
      refine (toDeed_any xs[k].1 xs[k].2 _).mono ?_
      rintro e w2 ⟨rfl, b2⟩
      have ho := HO.out.below b2
      have hst := FDeed.set_cells ho k xs[k] HLL.out
      rw [fillg hlt] at hst
      have HST := Lib.hid hst
      obtain ⟨d0, d1⟩ := FDeed_cell ho HLL.out
      have f0 := ho.free (k * 2); have f1 := ho.free (k * 2 + 1)
      have bq := hbw.trans (b2.mono hbw.size)
      clear hst ho hbw b2 c0 c1
      go_wp2
      go_roundw
      case rel => exact ⟨k + 1, by omega, by go_num, HST.out, (bq.setCell (by simp) _).setCell (by simp) _⟩
      case measure => simp [intOf]; omega
    · obtain rfl : k = xs.length := by omega
      go_wp2
      go_ret
      exact ⟨_, rfl, by simpa using hown, hbw⟩

set_option maxHeartbeats 1000000 in
theorem eqDeed_refl (a0 a1 : Int) (w : World) :
    Calls Try.prog 48 #[.agg #[.int .i64 a0, .int .i64 a1], .agg #[.int .i64 a0, .int .i64 a1]] w fun e w' => e = .returned (.bool true) ∧ Below w.heap.size w w' := by
  have h0 : (a0 != a0) = false := by simp
  have h1 : (a1 != a1) = false := by simp
  go_enter Try.func48, Try.ntmps48
  go_wp2
  go_ret
  exact ⟨rfl, ((Below.refl _ _).alloc (Nat.le_refl _) _).alloc (by simp) _⟩
set_option maxHeartbeats 1000000 in
theorem eqDeedS_refl {u v : Value} {xs : List (Int × Int)} (w : World) (ha : FDeed.Sl w u xs) (hb : FDeed.Sl w v xs) :
    Calls Try.prog 17 #[u, v] w fun e w' => e = .returned (.bool true) ∧ Below w.heap.size w w' := by
  have HA := Lib.hid (fun W (h : Below w.heap.size w W) => ha.below h)
  have HB := Lib.hid (fun W (h : Below w.heap.size w W) => hb.below h)
  obtain ⟨a, ca, rfl, hca, hca', _⟩ := ha
  obtain ⟨b, cb, rfl, hcb, hcb', _⟩ := hb
  unfold maxLen at hca' hcb'
  have hm : xs.length ≤ 9223372036854775807 := by omega
  have h1 : ((xs.length : Int) != (xs.length : Int)) = false := by simp
  clear hca hca' hcb hcb'
  go_enter Try.func17, Try.ntmps17
  go_wp2
  go_loopw [5] (fun i wr => ∃ k : Nat, k ≤ xs.length ∧ i = .int .i64 k ∧ Below w.heap.size w wr) (fun i _ => xs.length - (intOf i).toNat)
  case atStart => exact ⟨0, Nat.zero_le _, rfl, Below.refl _ _⟩
  case round =>
    obtain ⟨k, hk, rfl, hbw⟩ := hrel
    by_cases hlt : k < xs.length
    · obtain ⟨ba, oa, rfl, _, c0, c1⟩ := FDeed_at (HA.out _ hbw) hlt
      obtain ⟨bb, ob, rfl, _, d0, d1⟩ := FDeed_at (HB.out _ hbw) hlt
      have kc0 := fun d os => cell_regrown c0 d os
      have kc1 := fun d os => cell_regrown c1 d os
      have kd0 := fun d os => cell_regrown d0 d os
      have kd1 := fun d os => cell_regrown d1 d os
      have i0 : (0 : Int) ≤ (k : Int) := by omega
      have i1 : (k : Int) < (xs.length : Int) := by omega
      clear c0 c1 d0 d1
      go_wp2_with fail
      refine wp_region_quiet_below (by kernel_rfl) (by kernel_rfl) ?_
      repeat (first | go_big_quiet_skip | quiet_step (exact Calls.regrown_of (eqDeed_refl xs[k].1 xs[k].2 _)))
      refine wpQuiet_nil ?_
      intro _ hw'
      obtain ⟨⟨dq, osq⟩, hw''⟩ := hw'
      subst hw''
      have bq := hbw.trans ((below_regrown wr dq osq).mono hbw.size)
      generalize grow (redrawn wr dq) osq = wq at bq ⊢
      clear kc0 kc1 kd0 kd1
      go_wp2
      go_roundw
      case rel => exact ⟨k + 1, by omega, by go_num, bq⟩
      case measure => simp [intOf]; omega
    · go_wp2
      go_ret
      exact ⟨rfl, hbw⟩

def mkDeed (q : Int) : Int × Int := (q, q + 1)
def mksDeed (m : Int) (n : Nat) : List (Int × Int) := (List.range n).map fun (i : Nat) => mkDeed (m + 2 * (i : Int))
theorem mksDeed_length (m : Int) (n : Nat) : (mksDeed m n).length = n := by simp [mksDeed]
theorem mksDeed_get (m : Int) (n : Nat) {i : Nat} (h : i < n) : (mksDeed m n)[i]'(by rw [mksDeed_length]; exact h) = mkDeed (m + 2 * (i : Int)) := by simp [mksDeed]
theorem mksDeed_step {xs : List (Int × Int)} {m : Int} {k : Nat} (h : k < xs.length) : (mksDeed m k ++ xs.drop k).set k (mkDeed (m + 2 * (k : Int))) = mksDeed m (k+1) ++ xs.drop (k+1) := by
  rw [List.set_append_right _ _ (by simp [mksDeed])]
  have e2 : k - (mksDeed m k).length = 0 := by simp [mksDeed]
  rw [e2, List.drop_eq_getElem_cons h, List.set_cons_zero]
  simp [mksDeed, List.range_succ]
set_option maxHeartbeats 1000000 in
theorem markDeedS_any {v : Value} {xs : List (Int × Int)} (m : Int) (base : Nat) (w : World) (hm0 : 0 ≤ m) (hm : m + 2 * xs.length ≤ 1000000000000) (ha : FDeed.Own w base v xs) :
    Calls Try.prog 19 #[v, .int .i64 m] w fun e w' => e = .returned (.int .i64 (m + 2 * xs.length)) ∧ FDeed.Own w' base v (mksDeed m xs.length) ∧ w.grownBy w' v.ownBlock := by
  rcases ha.forms with ⟨rfl, rfl⟩ | ⟨g, c, rfl, hbase, hgs, hc1, hc2⟩
  · go_enter Try.func19, Try.ntmps19
    go_wp2
    refine wp_loop_rounds 1 ?_
    rw [rounds_succ]
    go_wp2
    go_ret
    exact ⟨ri (by simp), Flat.Own.nil _ _, World.grownBy.refl _ _⟩
  · clear hc1 hc2
    go_enter Try.func19, Try.ntmps19
    go_wp2
    go_loopw [1, 5] (fun q i wr => ∃ (k : Nat) (Q : Int), k ≤ xs.length ∧ i = .int .i64 k ∧ q = .int .i64 Q ∧ Hid (Q = m + 2 * (k : Int)) ∧ 0 ≤ Q ∧ Q ≤ 1000000000000 ∧ FDeed.Own wr base (.slice (some ⟨g, 0, none⟩) xs.length c) (mksDeed m k ++ xs.drop k) ∧ w.grownBy wr (some g)) (fun _ i _ => xs.length - (intOf i).toNat)
    case atStart => exact ⟨0, m, Nat.zero_le _, rfl, rfl, by simp [Hid], by omega, by omega, by simpa [mksDeed] using ha, World.grownBy.refl _ _⟩
    case round =>
      clear ha
      obtain ⟨k, Q, hk, rfl, rfl, hQ, hQ0, hQ1, hown, hgr⟩ := hrel
      by_cases hlt : k < xs.length
      · have hll : k < (mksDeed m k ++ xs.drop k).length := by simp [mksDeed]; omega
        have own' := FDeed.set_cells hown k (mkDeed Q) hll
        rw [hQ.out, mksDeed_step hlt] at own'
        simp only [mkDeed] at own'
        rw [← hQ.out] at own'
        obtain ⟨d0, d1⟩ := FDeed_cell hown hll
        generalize (mksDeed m k ++ xs.drop k)[k]'hll = y at d0 d1
        have f0 := hown.free (k * 2)
        have f1 := hown.free (k * 2 + 1)
        have HO := Lib.hid own'
        have i1 : (k : Int) < (xs.length : Int) := by omega
        have hq1 : Q + 2 ≤ 1000000000000 := by have := hQ.out; omega
        clear own' hown hll
        go_wp2
        go_roundw
        case rel => exact ⟨k + 1, Q + 1 + 1, by omega, by go_num, rfl, by have := hQ.out; unfold Hid; rw [this]; push_cast; omega, by omega, by omega, HO.out, grownBy_setCell (grownBy_setCell hgr _ _) _ _⟩
        case measure => simp [intOf]; omega
      · obtain rfl : k = xs.length := by omega
        go_wp2
        go_ret
        exact ⟨ri hQ.out, by simpa using hown, hgr⟩
set_option maxHeartbeats 1000000 in
theorem heldDeedS_any {v : Value} (m : Int) (n : Nat) (w : World) (hm0 : 0 ≤ m) (hm : m + 2 * n ≤ 1000000000000) (ha : FDeed.Sl w v (mksDeed m n)) :
    Calls Try.prog 24 #[v, .int .i64 m] w fun e w' => e = .returned (.int .i64 (m + 2 * n)) ∧ Below w.heap.size w w' := by
  have HA := Lib.hid (fun W (h : Below w.heap.size w W) => ha.below h)
  obtain ⟨a, ca, rfl, hca, hca', _⟩ := ha
  have hl := mksDeed_length m n
  rw [hl] at hca HA ⊢
  have HL := Lib.hid hl
  unfold maxLen at hca'
  clear hl
  go_enter Try.func24, Try.ntmps24
  go_wp2
  go_loopw [1, 5] (fun q i wr => ∃ (k : Nat) (Q : Int), k ≤ n ∧ i = .int .i64 k ∧ q = .int .i64 Q ∧ Hid (Q = m + 2 * (k : Int)) ∧ 0 ≤ Q ∧ Q ≤ 1000000000000 ∧ Below w.heap.size w wr) (fun _ i _ => n - (intOf i).toNat)
  case atStart => exact ⟨0, m, Nat.zero_le _, rfl, rfl, by simp [Hid], by omega, by omega, Below.refl _ _⟩
  case round =>
    obtain ⟨k, Q, hk, rfl, rfl, hQ, hQ0, hQ1, hbw⟩ := hrel
    by_cases hlt : k < n
    · obtain ⟨ba, oa, rfl, _, c0, c1⟩ := FDeed_at (HA.out _ hbw) (i := k) (by rw [HL.out]; exact hlt)
      have e := mksDeed_get m n hlt
      rw [← hQ.out] at e
      rw [e] at c0 c1
      simp only [mkDeed] at c0 c1
      have t0 : (Q != Q) = false := by simp
      have t1 : (Q + 1 != Q + 1) = false := by simp
      have i1 : (k : Int) < (n : Int) := by omega
      have hq1 : Q + 2 ≤ 1000000000000 := by have := hQ.out; omega
      clear e
      go_wp2
      go_roundw
      case rel => exact ⟨k + 1, Q + 1 + 1, by omega, by go_num, rfl, by have := hQ.out; unfold Hid; rw [this]; push_cast; omega, by omega, by omega, hbw⟩
      case measure => simp [intOf]; omega
    · obtain rfl : k = n := by omega
      go_wp2
      go_ret
      exact ⟨ri hQ.out, hbw⟩
end Go.Proofs.Ytijpkcdalmlaiaa
namespace Go.Proofs.Ytijpkcdalmlaiaa
open Go.RowKit Go.Sort
def deedsOk (ds : List (Int × Int)) : Bool := !(ds.any fun d => !deedOk d.1 d.2)
theorem deedsOk_all {ds : List (Int × Int)} (h : deedsOk ds = true) : ∀ d ∈ ds, deedOk d.1 d.2 = true := by
  unfold deedsOk at h
  simp only [Bool.not_eq_true', List.any_eq_false, Bool.not_eq_true', Bool.not_eq_false'] at h
  intro d hd
  have := h d hd
  simpa using this
/-- the code of a service and of deeds -/
def dcode (n t : Int) (xss : List (List Int)) (bs sm wk : Int) (ds : List (Int × Int)) : Int := if (serviceOk n t xss bs sm wk && deedsOk ds) = true then (if 400 < ds.length then 2 else 0) else 1

def ixD (p : Int × Int → Bool) : List (Int × Int) → Nat → Int
  | [], _ => -1
  | x :: r, k => if p x = true then (k : Int) else ixD p r (k + 1)
theorem ixD_any (p : Int × Int → Bool) : ∀ (l : List (Int × Int)) (k : Nat), decide (0 ≤ ixD p l k) = l.any p
  | [], k => by simp [ixD]
  | x :: r, k => by
    unfold ixD
    by_cases h : p x = true
    · rw [if_pos h]; simp [h]
    · rw [if_neg h, ixD_any p r (k + 1)]; simp [h]
theorem ixD_step {p : Int × Int → Bool} {l : List (Int × Int)} {k : Nat} (h : k < l.length) : ixD p (l.drop k) k = if p l[k] = true then (k : Int) else ixD p (l.drop (k + 1)) (k + 1) := by
  rw [List.drop_eq_getElem_cons h]; rfl
theorem ixD_bd (p : Int × Int → Bool) : ∀ (l : List (Int × Int)) (k : Nat), -1 ≤ ixD p l k ∧ ixD p l k < k + l.length
  | [], k => by simp [ixD]; omega
  | x :: r, k => by
    unfold ixD
    have := ixD_bd p r (k + 1)
    split
    · simp; omega
    · simp at this ⊢; omega
set_option maxHeartbeats 1000000 in
theorem IndexFuncD_any {u : Value} {xs : List (Int × Int)} (p : Int × Int → Bool) (w : World) (ha : FDeed.Sl w u xs)
    (hf : ∀ W (x : Int × Int), Below w.heap.size w W → x ∈ xs → Calls Try.prog 81 #[.agg #[.int .i64 x.1, .int .i64 x.2]] W fun e w' => e = .returned (.bool (p x)) ∧ Below W.heap.size W w') :
    Calls Try.prog 111 #[u, .func (.func 81) #[] #[]] w fun e w' => e = .returned (.int .i64 (ixD p xs 0)) ∧ Below w.heap.size w w' := by
  have HA := Lib.hid (fun W (h : Below w.heap.size w W) => ha.below h)
  obtain ⟨a, ca, rfl, hca, hca', _⟩ := ha
  unfold maxLen at hca'
  have HF := Lib.hid hf
  clear hf
  go_enter Try.func111, Try.ntmps111
  go_wp2
  go_loopw [5, 8] (fun _ i wr => ∃ k : Nat, k ≤ xs.length ∧ i = .int .i64 k ∧ Hid (ixD p xs 0 = ixD p (xs.drop k) k) ∧ Below w.heap.size w wr) (fun _ i _ => xs.length - (intOf i).toNat)
  case atStart => exact ⟨0, Nat.zero_le _, rfl, rfl, Below.refl _ _⟩
  case round =>
    obtain ⟨k, hk, rfl, hno, hbw⟩ := hrel
    by_cases hlt : k < xs.length
    · obtain ⟨b, off, rfl, _, c0, c1⟩ := FDeed_at (HA.out _ hbw) hlt
      have i1 : (k : Int) < (xs.length : Int) := by omega
      have hst := ixD_step (p := p) hlt
      have HS := Lib.hid hst
      clear hst
      generalize hp : p xs[k] = P
      have HP := Lib.hid hp
      clear hp
      cases P
      · go_wp2_with fail
        refine (HF.out _ xs[k] hbw (List.getElem_mem hlt)).mono ?_
        rintro e w2 ⟨rfl, b2⟩
        rw [HP.out]
        have bq := hbw.trans (b2.mono hbw.size)
        go_wp2
        go_roundw
        case rel => exact ⟨k + 1, by omega, by go_num, by unfold Hid at *; rw [hno, HS, HP]; rfl, bq⟩
        case measure => simp [intOf]; omega
      · go_wp2_with fail
        refine (HF.out _ xs[k] hbw (List.getElem_mem hlt)).mono ?_
        rintro e w2 ⟨rfl, b2⟩
        rw [HP.out]
        have bq := hbw.trans (b2.mono hbw.size)
        go_wp2
        go_ret
        exact ⟨ri (by rw [hno.out, HS.out, HP.out]; rfl), bq⟩
    · obtain rfl : k = xs.length := by omega
      go_wp2
      go_ret
      exact ⟨ri (by rw [hno.out]; simp [ixD]), hbw⟩
set_option maxHeartbeats 400000 in
theorem ContainsFuncD_any {u : Value} {xs : List (Int × Int)} (p : Int × Int → Bool) (w : World) (ha : FDeed.Sl w u xs)
    (hf : ∀ W (x : Int × Int), Below w.heap.size w W → x ∈ xs → Calls Try.prog 81 #[.agg #[.int .i64 x.1, .int .i64 x.2]] W fun e w' => e = .returned (.bool (p x)) ∧ Below W.heap.size W w') :
    Calls Try.prog 80 #[u, .func (.func 81) #[] #[]] w fun e w' => e = .returned (.bool (xs.any p)) ∧ Below w.heap.size w w' := by
  have hx := ixD_any p xs 0
  obtain ⟨hb0, hb1⟩ := ixD_bd p xs 0
  obtain ⟨a, ca, rfl, hca, hca', _⟩ := id ha
  unfold maxLen at hca'
  have HF := Lib.hid hf
  have HX := Lib.hid hx
  clear hf hx
  go_enter Try.func80, Try.ntmps80
  go_wp2_with fail
  refine (IndexFuncD_any p _ ha HF.out).mono ?_
  rintro e w2 ⟨rfl, b2⟩
  go_wp2
  go_ret
  exact ⟨rb HX.out, b2⟩

set_option maxHeartbeats 1000000 in
theorem deedClosure_any (x : Int × Int) (w : World) :
    Calls Try.prog 81 #[.agg #[.int .i64 x.1, .int .i64 x.2]] w fun e w' => e = .returned (.bool (!deedOk x.1 x.2)) ∧ Below w.heap.size w w' := by
  have bx : Below w.heap.size w (w.alloc (.cells #[.int .i64 x.1, .int .i64 x.2] 68)) := (Below.refl _ _).alloc (Nat.le_refl _) _
  go_enter Try.func81, Try.ntmps81
  go_wp2_with fail
  refine (ImplValidDeed_any x.1 x.2 _).mono ?_
  rintro e w2 ⟨rfl, b2⟩
  go_wp2
  go_ret
  exact ⟨rfl, bx.trans (b2.mono bx.size)⟩
end Go.Proofs.Ytijpkcdalmlaiaa
