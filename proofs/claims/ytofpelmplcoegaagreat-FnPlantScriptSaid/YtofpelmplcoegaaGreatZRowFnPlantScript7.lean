/-
  Slices of Deed; the codes of deeds; a valid list of deeds. With it: Slices of Record: read, copied, compared, marked, held. Slices of Deed: read, copied, compared, marked, held.
-/
import Derived.Test.YtofpelmplcoegaaGreatZRowFnPlantScript5
import Derived.Test.YtofpelmplcoegaaGreatZRowFnPlantScript3
import Derived.Lib.QuietBelow
import Derived.Deep.RegionWith
set_option linter.unusedVariables false
set_option linter.unusedSimpArgs false
namespace Go.Proofs.YtofpelmplcoegaaGreat
open Go.RowKit Go.Sort
def encRecord (x : Int × Int × Int) : List Value := [.int .i64 x.1, .int .i64 x.2.1, .int .i64 x.2.2]
theorem encRecord_one (x : Int × Int × Int) (u : Value) (h : u ∈ encRecord x) : u.oneCell' = true := by simp [encRecord] at h; rcases h with rfl | rfl | rfl <;> rfl

def FRecord : Flat (Int × Int × Int) := ⟨33, 118, .agg #[.int .i64 0, .int .i64 0, .int .i64 0], 3, 24, encRecord, Tryz.underlying33, by kernel_rfl, rfl, by decide, by decide, fun _ => rfl, encRecord_one⟩
theorem FRecord_at {w : World} {ad : Option Addr} {n c : Nat} {xs : List (Int × Int × Int)} (h : FRecord.Sl w (.slice ad n c) xs) {i : Nat} (hi : i < xs.length) :
    ∃ b off, ad = some ⟨b, off, none⟩ ∧ b < w.heap.size ∧ w.cell? ⟨b, off + i * 3, none⟩ = some (.int .i64 xs[i].1) ∧ w.cell? ⟨b, off + i * 3 + 1, none⟩ = some (.int .i64 xs[i].2.1) ∧ w.cell? ⟨b, off + i * 3 + 2, none⟩ = some (.int .i64 xs[i].2.2) := by
  obtain ⟨b, off, h1, h2, h3⟩ := h.at_ hi
  refine ⟨b, off, h1, h2, ?_, ?_, ?_⟩
  · have := h3 0 (.int .i64 xs[i].1) rfl
    have e : off + (i * FRecord.size + 0) = off + i * 3 := by show off + (i * 3 + 0) = _; omega
    rw [e] at this; exact this
  · have := h3 1 (.int .i64 xs[i].2.1) rfl
    have e : off + (i * FRecord.size + 1) = off + i * 3 + 1 := by show off + (i * 3 + 1) = _; omega
    rw [e] at this; exact this
  · have := h3 2 (.int .i64 xs[i].2.2) rfl
    have e : off + (i * FRecord.size + 2) = off + i * 3 + 2 := by show off + (i * 3 + 2) = _; omega
    rw [e] at this; exact this
theorem FRecord_cell {w : World} {base g n c : Nat} {xs : List (Int × Int × Int)} (h : FRecord.Own w base (.slice (some ⟨g, 0, none⟩) n c) xs) {i : Nat} (hi : i < xs.length) :
    w.cell? ⟨g, i * 3, none⟩ = some (.int .i64 xs[i].1) ∧ w.cell? ⟨g, i * 3 + 1, none⟩ = some (.int .i64 xs[i].2.1) ∧ w.cell? ⟨g, i * 3 + 2, none⟩ = some (.int .i64 xs[i].2.2) :=
  ⟨h.cell (j := 0) hi (by decide), h.cell (j := 1) hi (by decide), h.cell (j := 2) hi (by decide)⟩
theorem FRecord_encs_set (xs : List (Int × Int × Int)) (i : Nat) (x : Int × Int × Int) (hi : i < xs.length) : FRecord.encs (xs.set i x) = (((FRecord.encs xs).set (i * 3) (.int .i64 x.1)).set (i * 3 + 1) (.int .i64 x.2.1)).set (i * 3 + 2) (.int .i64 x.2.2) := by
  induction xs generalizing i with
  | nil => simp at hi
  | cons y ys ih =>
    cases i with
    | zero => simp [Flat.encs, FRecord, encRecord]
    | succ i =>
      rw [List.set_cons_succ, Flat.encs_cons, Flat.encs_cons, ih i (by simpa using hi)]
      have e : (i + 1) * 3 = i * 3 + 3 := by omega
      rw [e]
      simp [FRecord, encRecord, List.set_append_right]
      try omega
theorem FRecord.set_cells {w : World} {base g n c : Nat} {xs : List (Int × Int × Int)} (h : FRecord.Own w base (.slice (some ⟨g, 0, none⟩) n c) xs) (i : Nat) (x : Int × Int × Int) (hi : i < xs.length) :
    FRecord.Own (((w.setCell ⟨g, i * 3, none⟩ (.int .i64 x.1)).setCell ⟨g, i * 3 + 1, none⟩ (.int .i64 x.2.1)).setCell ⟨g, i * 3 + 2, none⟩ (.int .i64 x.2.2)) base (.slice (some ⟨g, 0, none⟩) n c) (xs.set i x) := by
  obtain rfl := h.len_of
  have h0 : w.ownsRow base FRecord.E FRecord.size (.slice (some ⟨g, 0, none⟩) xs.length c) xs.length (FRecord.encs xs) := h
  have h1 := (World.ownsRow.stored (base := base) h0 (i * 3) (.int .i64 x.1)).1
  have h2 := (World.ownsRow.stored (base := base) h1 (i * 3 + 1) (.int .i64 x.2.1)).1
  have h3 := (World.ownsRow.stored (base := base) h2 (i * 3 + 2) (.int .i64 x.2.2)).1
  unfold Flat.Own
  rw [List.length_set, FRecord_encs_set xs i x hi]
  exact h3

def mkRecord (q : Int) : Int × Int × Int := (q, q + 1, q + 1 + 1)
def mksRecord (m : Int) (n : Nat) : List (Int × Int × Int) := (List.range n).map fun (i : Nat) => mkRecord (m + 3 * (i : Int))
end Go.Proofs.YtofpelmplcoegaaGreat
namespace Go.Proofs.YtofpelmplcoegaaGreat
open Go.RowKit Go.Sort
def encDeed (x : Int × Int) : List Value := [.int .i64 x.1, .int .i64 x.2]
theorem encDeed_one (x : Int × Int) (u : Value) (h : u ∈ encDeed x) : u.oneCell' = true := by simp [encDeed] at h; rcases h with rfl | rfl <;> rfl

def FDeed : Flat (Int × Int) := ⟨44, 59, .agg #[.int .i64 0, .int .i64 0], 2, 16, encDeed, Tryz.underlying44, by kernel_rfl, rfl, by decide, by decide, fun _ => rfl, encDeed_one⟩
def FDeedL : Flat (Int × Int) := ⟨27, 75, .agg #[.int .i64 0, .int .i64 0], 2, 16, encDeed, Tryz.underlying27, by kernel_rfl, rfl, by decide, by decide, fun _ => rfl, encDeed_one⟩
theorem FDeed_at {w : World} {ad : Option Addr} {n c : Nat} {xs : List (Int × Int)} (h : FDeed.Sl w (.slice ad n c) xs) {i : Nat} (hi : i < xs.length) :
    ∃ b off, ad = some ⟨b, off, none⟩ ∧ b < w.heap.size ∧ w.cell? ⟨b, off + i * 2, none⟩ = some (.int .i64 xs[i].1) ∧ w.cell? ⟨b, off + i * 2 + 1, none⟩ = some (.int .i64 xs[i].2) := by
  obtain ⟨b, off, h1, h2, h3⟩ := h.at_ hi
  refine ⟨b, off, h1, h2, ?_, ?_⟩
  · have := h3 0 (.int .i64 xs[i].1) rfl
    have e : off + (i * FDeed.size + 0) = off + i * 2 := by show off + (i * 2 + 0) = _; omega
    rw [e] at this; exact this
  · have := h3 1 (.int .i64 xs[i].2) rfl
    have e : off + (i * FDeed.size + 1) = off + i * 2 + 1 := by show off + (i * 2 + 1) = _; omega
    rw [e] at this; exact this
theorem FDeed_encs_set (xs : List (Int × Int)) (i : Nat) (x : Int × Int) (hi : i < xs.length) : FDeed.encs (xs.set i x) = ((FDeed.encs xs).set (i * 2) (.int .i64 x.1)).set (i * 2 + 1) (.int .i64 x.2) := by
  induction xs generalizing i with
  | nil => simp at hi
  | cons y ys ih =>
    cases i with
    | zero => simp [Flat.encs, FDeed, encDeed]
    | succ i =>
      rw [List.set_cons_succ, Flat.encs_cons, Flat.encs_cons, ih i (by simpa using hi)]
      have e : (i + 1) * 2 = i * 2 + 2 := by omega
      rw [e]
      simp [FDeed, encDeed, List.set_append_right]
      try omega
theorem FDeed.set_cells {w : World} {base g n c : Nat} {xs : List (Int × Int)} (h : FDeed.Own w base (.slice (some ⟨g, 0, none⟩) n c) xs) (i : Nat) (x : Int × Int) (hi : i < xs.length) :
    FDeed.Own ((w.setCell ⟨g, i * 2, none⟩ (.int .i64 x.1)).setCell ⟨g, i * 2 + 1, none⟩ (.int .i64 x.2)) base (.slice (some ⟨g, 0, none⟩) n c) (xs.set i x) := by
  obtain rfl := h.len_of
  have h0 : w.ownsRow base FDeed.E FDeed.size (.slice (some ⟨g, 0, none⟩) xs.length c) xs.length (FDeed.encs xs) := h
  have h1 := (World.ownsRow.stored (base := base) h0 (i * 2) (.int .i64 x.1)).1
  have h2 := (World.ownsRow.stored (base := base) h1 (i * 2 + 1) (.int .i64 x.2)).1
  unfold Flat.Own
  rw [List.length_set, FDeed_encs_set xs i x hi]
  exact h2

def mkDeed (q : Int) : Int × Int := (q, q + 1)
def mksDeed (m : Int) (n : Nat) : List (Int × Int) := (List.range n).map fun (i : Nat) => mkDeed (m + 2 * (i : Int))
end Go.Proofs.YtofpelmplcoegaaGreat
namespace Go.Proofs.YtofpelmplcoegaaGreat
open Go.RowKit Go.Sort
def deedsOk (ds : List (Int × Int)) : Bool := !(ds.any fun d => !deedOk d.1 d.2)
theorem deedsOk_all {ds : List (Int × Int)} (h : deedsOk ds = true) : ∀ d ∈ ds, deedOk d.1 d.2 = true := by
  unfold deedsOk at h
  simp only [Bool.not_eq_true', List.any_eq_false, Bool.not_eq_true', Bool.not_eq_false'] at h
  intro d hd
  have := h d hd
  simpa using this
/-- the code of a service and of deeds -/
def dcode (n t : Int) (xss : List (List Int)) (bs sm wk : Int) (ds : List (Int × Int)) : Int := if (serviceOk n t xss bs sm wk && deedsOk ds) = true then (if 400 < ds.length then 2 else 0) else 1

def ixD (p : Int × Int → Bool) : List (Int × Int) → Nat → Int
  | [], _ => -1
  | x :: r, k => if p x = true then (k : Int) else ixD p r (k + 1)
theorem ixD_any (p : Int × Int → Bool) : ∀ (l : List (Int × Int)) (k : Nat), decide (0 ≤ ixD p l k) = l.any p
  | [], k => by simp [ixD]
  | x :: r, k => by
    unfold ixD
    by_cases h : p x = true
    · rw [if_pos h]; simp [h]
    · rw [if_neg h, ixD_any p r (k + 1)]; simp [h]
theorem ixD_step {p : Int × Int → Bool} {l : List (Int × Int)} {k : Nat} (h : k < l.length) : ixD p (l.drop k) k = if p l[k] = true then (k : Int) else ixD p (l.drop (k + 1)) (k + 1) := by
  rw [List.drop_eq_getElem_cons h]; rfl
theorem ixD_bd (p : Int × Int → Bool) : ∀ (l : List (Int × Int)) (k : Nat), -1 ≤ ixD p l k ∧ ixD p l k < k + l.length
  | [], k => by simp [ixD]; omega
  | x :: r, k => by
    unfold ixD
    have := ixD_bd p r (k + 1)
    split
    · simp; omega
    · simp at this ⊢; omega
set_option maxHeartbeats 1000000 in
theorem IndexFuncD_any {u : Value} {xs : List (Int × Int)} (p : Int × Int → Bool) (w : World) (ha : FDeed.Sl w u xs)
    (hf : ∀ W (x : Int × Int), Below w.heap.size w W → x ∈ xs → Calls Tryz.prog 74 #[.agg #[.int .i64 x.1, .int .i64 x.2]] W fun e w' => e = .returned (.bool (p x)) ∧ Below W.heap.size W w') :
    Calls Tryz.prog 111 #[u, .func (.func 74) #[] #[]] w fun e w' => e = .returned (.int .i64 (ixD p xs 0)) ∧ Below w.heap.size w w' := by
  have HA := Lib.hid (fun W (h : Below w.heap.size w W) => ha.below h)
  obtain ⟨a, ca, rfl, hca, hca', _⟩ := ha
  unfold maxLen at hca'
  have HF := Lib.hid hf
  clear hf
  go_enter Tryz.func111, Tryz.ntmps111
  go_wp2
  go_loopw [5, 8] (fun _ i wr => ∃ k : Nat, k ≤ xs.length ∧ i = .int .i64 k ∧ Hid (ixD p xs 0 = ixD p (xs.drop k) k) ∧ Below w.heap.size w wr) (fun _ i _ => xs.length - (intOf i).toNat)
  case atStart => exact ⟨0, Nat.zero_le _, rfl, rfl, Below.refl _ _⟩
  case round =>
    obtain ⟨k, hk, rfl, hno, hbw⟩ := hrel
    by_cases hlt : k < xs.length
    · obtain ⟨b, off, rfl, _, c0, c1⟩ := FDeed_at (HA.out _ hbw) hlt
      have i1 : (k : Int) < (xs.length : Int) := by omega
      have hst := ixD_step (p := p) hlt
      have HS := Lib.hid hst
      clear hst
      generalize hp : p xs[k] = P
      have HP := Lib.hid hp
      clear hp
      cases P
      · go_wp2_with fail
        refine (HF.out _ xs[k] hbw (List.getElem_mem hlt)).mono ?_
        rintro e w2 ⟨rfl, b2⟩
        rw [HP.out]
        have bq := hbw.trans (b2.mono hbw.size)
        go_wp2
        go_roundw
        case rel => exact ⟨k + 1, by omega, by go_num, by unfold Hid at *; rw [hno, HS, HP]; rfl, bq⟩
        case measure => simp [intOf]; omega
      · go_wp2_with fail
        refine (HF.out _ xs[k] hbw (List.getElem_mem hlt)).mono ?_
        rintro e w2 ⟨rfl, b2⟩
        rw [HP.out]
        have bq := hbw.trans (b2.mono hbw.size)
        go_wp2
        go_ret
        exact ⟨ri (by rw [hno.out, HS.out, HP.out]; rfl), bq⟩
    · obtain rfl : k = xs.length := by omega
      go_wp2
      go_ret
      exact ⟨ri (by rw [hno.out]; simp [ixD]), hbw⟩
set_option maxHeartbeats 400000 in
theorem ContainsFuncD_any {u : Value} {xs : List (Int × Int)} (p : Int × Int → Bool) (w : World) (ha : FDeed.Sl w u xs)
    (hf : ∀ W (x : Int × Int), Below w.heap.size w W → x ∈ xs → Calls Tryz.prog 74 #[.agg #[.int .i64 x.1, .int .i64 x.2]] W fun e w' => e = .returned (.bool (p x)) ∧ Below W.heap.size W w') :
    Calls Tryz.prog 73 #[u, .func (.func 74) #[] #[]] w fun e w' => e = .returned (.bool (xs.any p)) ∧ Below w.heap.size w w' := by
  have hx := ixD_any p xs 0
  obtain ⟨hb0, hb1⟩ := ixD_bd p xs 0
  obtain ⟨a, ca, rfl, hca, hca', _⟩ := id ha
  unfold maxLen at hca'
  have HF := Lib.hid hf
  have HX := Lib.hid hx
  clear hf hx
  go_enter Tryz.func73, Tryz.ntmps73
  go_wp2_with fail
  refine (IndexFuncD_any p _ ha HF.out).mono ?_
  rintro e w2 ⟨rfl, b2⟩
  go_wp2
  go_ret
  exact ⟨rb HX.out, b2⟩

set_option maxHeartbeats 1000000 in
theorem deedClosure_any (x : Int × Int) (w : World) :
    Calls Tryz.prog 74 #[.agg #[.int .i64 x.1, .int .i64 x.2]] w fun e w' => e = .returned (.bool (!deedOk x.1 x.2)) ∧ Below w.heap.size w w' := by
  have bx : Below w.heap.size w (w.alloc (.cells #[.int .i64 x.1, .int .i64 x.2] 59)) := (Below.refl _ _).alloc (Nat.le_refl _) _
  go_enter Tryz.func74, Tryz.ntmps74
  go_wp2_with fail
  refine (ImplValidDeed_any x.1 x.2 _).mono ?_
  rintro e w2 ⟨rfl, b2⟩
  go_wp2
  go_ret
  exact ⟨rfl, bx.trans (b2.mono bx.size)⟩
end Go.Proofs.YtofpelmplcoegaaGreat
