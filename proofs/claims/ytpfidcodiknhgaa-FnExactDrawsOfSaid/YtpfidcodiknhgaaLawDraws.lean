/-
  FnExactDrawsOf: both hand out the same draws, in new memory.
-/
import Derived.Test.YtpfidcodiknhgaaDraws
namespace Go.Proofs.Ytpfidcodiknhgaa
open Go.RowKit
set_option maxHeartbeats 400000 in
theorem FnExactDrawsOf_walk (s t c : Int) (w : World) :
    Calls Try.prog 4 #[.int .i64 s, .int .i64 t, .int .i64 c] w fun e w' => e = .returned (.bool true) ∧ Below w.heap.size w w' := by
  generalize hR : drawsOfR s t c = R
  have hRl : R.1.length ≤ 64 := by
    rw [← hR]; unfold drawsOfR; split
    · rename_i h
      simp only [drawsOfB, Bool.and_eq_true] at h
      have := inR_iff.1 h.2.2
      simp [drawsL]; omega
    · simp
  have HR := Lib.hid hR
  clear hR
  go_enter Try.func4, Try.ntmps4
  go_wp2_with fail
  refine (SpecDrawsOf_any s t c _).mono ?_
  rintro e w1 ⟨v0, rfl, o0, b1⟩
  rw [HR.out] at o0 ⊢
  go_wp2_with fail
  refine (ImplDrawsOf_any s t c _).mono ?_
  rintro e w2 ⟨v1, rfl, o1, b2⟩
  rw [HR.out] at o1 ⊢
  go_wp2_with fail
  refine (eqInt64S_any _ o1.sl (o0.sl.below b2)).mono ?_
  rintro e w3 ⟨rfl, b3⟩
  have z1 := b1.size
  have z2 := b2.size
  have z3 := b3.size
  go_wp2_with fail
  refine (markInt64S_any 1 _ _ (by omega) (by omega) (o1.below b3)).mono ?_
  rintro e w4 ⟨rfl, o4, g4⟩
  have b4 := (o1.below b3).grown g4 (by omega)
  have z4 := b4.size
  have b24 := (b3.mono z2).trans b4
  clear g4 b3 b4
  go_wp2_with fail
  have s4 := o4.sl
  refine (heldInt64S_any 1 _ _ (by omega) (by omega) s4).mono ?_
  rintro e w5 ⟨rfl, b5⟩
  have z5 := b5.size
  have o5 := o4.below b5
  have hne : ((1 + (R.1.length : Int)) != 1 + (R.1.length : Int)) = false := by simp
  clear o4 s4
  go_wp2_with fail
  refine (ImplDrawsOf_any s t c _).mono ?_
  rintro e w6 ⟨v2, rfl, o6, b6⟩
  rw [HR.out] at o6 ⊢
  have z6 := b6.size
  have b16 := (b2.trans (b24.trans ((b5.mono (by omega)).trans (b6.mono (by omega)))))
  go_wp2_with fail
  refine (eqInt64S_any _ o6.sl (o0.sl.below b16)).mono ?_
  rintro e w7 ⟨rfl, b7⟩
  have z7 := b7.size
  go_wp2_with fail
  refine (heldInt64S_any 1 _ _ (by omega) (by omega) ((o5.below b6).below b7).sl).mono ?_
  rintro e w8 ⟨rfl, b8⟩
  go_wp2
  go_ret
  exact ⟨rfl, b1.trans ((b16.mono (by omega)).trans ((b7.mono (by omega)).trans (b8.mono (by omega))))⟩
end Go.Proofs.Ytpfidcodiknhgaa
