/-
  Slices of Record: read, copied, compared, marked, held.
-/
import Derived.Test.YtihjadffdjjogaaZRowFnJournal4
import Derived.Test.YtihjadffdjjogaaZRowFnJournal3
import Derived.Test.YtihjadffdjjogaaZRowFnJournal5
import Derived.Lib.QuietBelow
import Derived.Deep.RegionWith
set_option linter.unusedVariables false
set_option linter.unusedSimpArgs false
namespace Go.Proofs.Ytihjadffdjjogaa
open Go.RowKit Go.Sort
def encRecord (x : Int × Int × Int) : List Value := [.int .i64 x.1, .int .i64 x.2.1, .int .i64 x.2.2]
theorem encRecord_one (x : Int × Int × Int) (u : Value) (h : u ∈ encRecord x) : u.oneCell' = true := by simp [encRecord] at h; rcases h with rfl | rfl | rfl <;> rfl

def FRecord : Flat (Int × Int × Int) := ⟨30, 42, .agg #[.int .i64 0, .int .i64 0, .int .i64 0], 3, 24, encRecord, Try.underlying30, by kernel_rfl, rfl, by decide, by decide, fun _ => rfl, encRecord_one⟩
theorem FRecord_at {w : World} {ad : Option Addr} {n c : Nat} {xs : List (Int × Int × Int)} (h : FRecord.Sl w (.slice ad n c) xs) {i : Nat} (hi : i < xs.length) :
    ∃ b off, ad = some ⟨b, off, none⟩ ∧ b < w.heap.size ∧ w.cell? ⟨b, off + i * 3, none⟩ = some (.int .i64 xs[i].1) ∧ w.cell? ⟨b, off + i * 3 + 1, none⟩ = some (.int .i64 xs[i].2.1) ∧ w.cell? ⟨b, off + i * 3 + 2, none⟩ = some (.int .i64 xs[i].2.2) := by
  obtain ⟨b, off, h1, h2, h3⟩ := h.at_ hi
  refine ⟨b, off, h1, h2, ?_, ?_, ?_⟩
  · have := h3 0 (.int .i64 xs[i].1) rfl
    have e : off + (i * FRecord.size + 0) = off + i * 3 := by show off + (i * 3 + 0) = _; omega
    rw [e] at this; exact this
  · have := h3 1 (.int .i64 xs[i].2.1) rfl
    have e : off + (i * FRecord.size + 1) = off + i * 3 + 1 := by show off + (i * 3 + 1) = _; omega
    rw [e] at this; exact this
  · have := h3 2 (.int .i64 xs[i].2.2) rfl
    have e : off + (i * FRecord.size + 2) = off + i * 3 + 2 := by show off + (i * 3 + 2) = _; omega
    rw [e] at this; exact this
theorem FRecord_cell {w : World} {base g n c : Nat} {xs : List (Int × Int × Int)} (h : FRecord.Own w base (.slice (some ⟨g, 0, none⟩) n c) xs) {i : Nat} (hi : i < xs.length) :
    w.cell? ⟨g, i * 3, none⟩ = some (.int .i64 xs[i].1) ∧ w.cell? ⟨g, i * 3 + 1, none⟩ = some (.int .i64 xs[i].2.1) ∧ w.cell? ⟨g, i * 3 + 2, none⟩ = some (.int .i64 xs[i].2.2) :=
  ⟨h.cell (j := 0) hi (by decide), h.cell (j := 1) hi (by decide), h.cell (j := 2) hi (by decide)⟩
theorem FRecord_encs_set (xs : List (Int × Int × Int)) (i : Nat) (x : Int × Int × Int) (hi : i < xs.length) : FRecord.encs (xs.set i x) = (((FRecord.encs xs).set (i * 3) (.int .i64 x.1)).set (i * 3 + 1) (.int .i64 x.2.1)).set (i * 3 + 2) (.int .i64 x.2.2) := by
  induction xs generalizing i with
  | nil => simp at hi
  | cons y ys ih =>
    cases i with
    | zero => simp [Flat.encs, FRecord, encRecord]
    | succ i =>
      rw [List.set_cons_succ, Flat.encs_cons, Flat.encs_cons, ih i (by simpa using hi)]
      have e : (i + 1) * 3 = i * 3 + 3 := by omega
      rw [e]
      simp [FRecord, encRecord, List.set_append_right]
      try omega
theorem FRecord.set_cells {w : World} {base g n c : Nat} {xs : List (Int × Int × Int)} (h : FRecord.Own w base (.slice (some ⟨g, 0, none⟩) n c) xs) (i : Nat) (x : Int × Int × Int) (hi : i < xs.length) :
    FRecord.Own (((w.setCell ⟨g, i * 3, none⟩ (.int .i64 x.1)).setCell ⟨g, i * 3 + 1, none⟩ (.int .i64 x.2.1)).setCell ⟨g, i * 3 + 2, none⟩ (.int .i64 x.2.2)) base (.slice (some ⟨g, 0, none⟩) n c) (xs.set i x) := by
  obtain rfl := h.len_of
  have h0 : w.ownsRow base FRecord.E FRecord.size (.slice (some ⟨g, 0, none⟩) xs.length c) xs.length (FRecord.encs xs) := h
  have h1 := (World.ownsRow.stored (base := base) h0 (i * 3) (.int .i64 x.1)).1
  have h2 := (World.ownsRow.stored (base := base) h1 (i * 3 + 1) (.int .i64 x.2.1)).1
  have h3 := (World.ownsRow.stored (base := base) h2 (i * 3 + 2) (.int .i64 x.2.2)).1
  unfold Flat.Own
  rw [List.length_set, FRecord_encs_set xs i x hi]
  exact h3
end Go.Proofs.Ytihjadffdjjogaa
