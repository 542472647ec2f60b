/-
  FnExactDeedText: both give each deed the same text.
-/
import Derived.Test.YtpfidcodiknhgaaDeedText
namespace Go.Proofs.Ytpfidcodiknhgaa
open Go.RowKit
set_option maxHeartbeats 400000 in
theorem FnExactDeedText_walk (k a : Int) (w : World) :
    Calls Try.prog 5 #[.agg #[.int .i64 k, .int .i64 a]] w fun e w' => e = .returned (.bool true) ∧ Below w.heap.size w w' := by
  go_enter Try.func5, Try.ntmps5
  go_wp2_with fail
  refine (toDeed_any k a _).mono ?_
  rintro e w1 ⟨rfl, b1⟩
  go_wp2_with fail
  refine (SpecDeedText_any k a _).mono ?_
  rintro e w2 ⟨rfl, b2⟩
  have c1 := b1.cell (p := ⟨w.heap.size, 0, none⟩) (by simp)
  have c2 := b1.cell (p := ⟨w.heap.size, 1, none⟩) (by simp)
  have z1 := b1.size
  simp at z1
  have d1 := b2.cell (p := ⟨w.heap.size, 0, none⟩) (by simp; omega)
  have d2 := b2.cell (p := ⟨w.heap.size, 1, none⟩) (by simp; omega)
  rw [c1] at d1
  rw [c2] at d2
  clear c1 c2
  go_wp2_with fail
  refine (toDeed_any k a _).mono ?_
  rintro e w3 ⟨rfl, b3⟩
  go_wp2_with fail
  refine (ImplDeedText_any k a _).mono ?_
  rintro e w4 ⟨rfl, b4⟩
  generalize deedTextB k a = r
  go_wp2
  go_ret
  exact ⟨rfl, (((Below.refl _ _).alloc (Nat.le_refl _) _).trans (b1.mono (by simp))).trans ((b2.mono (by omega)).trans ((b3.mono (by have := b2.size; omega)).trans (b4.mono (by have := b2.size; have := b3.size; omega))))⟩
end Go.Proofs.Ytpfidcodiknhgaa
