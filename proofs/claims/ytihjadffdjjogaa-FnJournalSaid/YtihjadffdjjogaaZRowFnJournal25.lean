/-
  What the laws draw from bytes: chains, draws, numbers (A2Chain, A2Draws, a2At, a2Long).
-/
import Derived.Test.YtihjadffdjjogaaZRowFnJournal24
set_option linter.unusedVariables false
set_option linter.unusedSimpArgs false
namespace Go.Proofs.Ytihjadffdjjogaa
open Go.RowKit Go.Sort
def a2L (n0 n1 : Nat) : Bool := decide (3000 < n0 ∨ 3000 < n1)

theorem a2Long_any (a0 a1 : Option Addr) (n0 n1 c0 c1 : Nat) (w : World) (h0 : n0 ≤ maxLen) (h1 : n1 ≤ maxLen) :
    Calls Try.prog 4 #[.slice a0 n0 c0, .slice a1 n1 c1] w fun e w' => e = .returned (.bool (a2L n0 n1)) ∧ w = w' := by
  unfold maxLen at h0 h1
  by_cases h : 3000 < n0
  · have i0 : (3000 : Int) < (n0 : Int) := by omega
    have d0 : decide ((3000 : Int) < (n0 : Int)) = true := by simp [i0]
    have HD := Lib.hid (show a2L n0 n1 = true by simp [a2L, h])
    go_enter Try.func4, Try.ntmps4
    go_wp2
    go_ret
    exact ⟨rb (by rw [HD.out] <;> (first | rfl | (simp; done) | (simp; omega))), rfl⟩
  · have i0 : ¬ (3000 : Int) < (n0 : Int) := by omega
    have d0 : decide ((3000 : Int) < (n0 : Int)) = false := by simp; omega
    by_cases h2 : 3000 < n1
    · have i1 : (3000 : Int) < (n1 : Int) := by omega
      have d1 : decide ((3000 : Int) < (n1 : Int)) = true := by simp [i1]
      have HD := Lib.hid (show a2L n0 n1 = true by simp [a2L, h2])
      go_enter Try.func4, Try.ntmps4
      go_wp2
      go_ret
      exact ⟨rb (by rw [HD.out] <;> (first | rfl | (simp; done) | (simp; omega))), rfl⟩
    · have i1 : ¬ (3000 : Int) < (n1 : Int) := by omega
      have d1 : decide ((3000 : Int) < (n1 : Int)) = false := by simp; omega
      have HD := Lib.hid (show a2L n0 n1 = false by simp [a2L, h, h2])
      go_enter Try.func4, Try.ntmps4
      go_wp2
      go_ret
      exact ⟨rb (by rw [HD.out] <;> (first | rfl | (simp; done) | (simp; omega))), rfl⟩

theorem a2At_any {xs : List Int} (ad : Option Addr) (n c k : Nat) (m : Nat) {kI mI : Int} (w : World) (hkI : kI = (k : Int)) (hmI : mI = (m : Int)) (hn : n ≤ maxLen) (hx : xs.length = n) (hr : Rd w ad (xs.map (.int .u8))) (hb : ∀ x ∈ xs, 0 ≤ x ∧ x < 256) (hk : k ≤ 1000) (hm : 1 ≤ m) (hm2 : m ≤ 1000000) :
    Calls Try.prog 13 #[.slice ad n c, .int .i64 kI, .int .i64 mI] w fun e w' => ∃ y : Nat, e = .returned (.int .i64 y) ∧ y < m ∧ w = w' := by
  subst hkI hmI
  unfold maxLen at hn
  by_cases h : n ≤ k
  · have i0 : (n : Int) ≤ (k : Int) := by omega
    go_enter Try.func13, Try.ntmps13
    go_wp2
    go_ret
    exact ⟨0, rfl, by omega, rfl⟩
  · have i0 : ¬ (n : Int) ≤ (k : Int) := by omega
    have i1 : (k : Int) < (n : Int) := by omega
    have i2 : (0 : Int) ≤ (k : Int) := by omega
    have hkl : k < xs.length := by omega
    have hk2 : (xs.map (.int .u8))[k]? = some (Value.int .u8 xs[k]) := by simp [hkl]
    obtain ⟨b, off, rfl, gk⟩ := hr.one hk2
    have hbk := hb _ (List.getElem_mem hkl)
    generalize xs[k] = x at gk hbk
    obtain ⟨x, rfl⟩ := Int.eq_ofNat_of_zero_le hbk.1
    have hx2 : x < 256 := by omega
    have hxm : x % m < m := Nat.mod_lt _ hm
    have i3 : ¬ (m : Int) < 1 := by omega
    have hm0 : (m : Int) ≠ 0 := by omega
    have hm1 : ¬ (m : Int) = 0 := by omega
    have hm2' : ((m : Int) == 0) = false := by rw [beq_eq_false_iff_ne]; omega
    clear hr hb hbk hx hk2
    go_enter Try.func13, Try.ntmps13
    go_wp2
    go_ret
    exact ⟨x % m, ri (by first | (simp; done) | (rw [Int.tmod_eq_emod_of_nonneg (by omega)]; simp)), hxm, rfl⟩
end Go.Proofs.Ytihjadffdjjogaa
