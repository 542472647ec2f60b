/-
  Numbers in decimal.
-/
import Derived.Test.YtijpkcdalmlaiaaZRowFnPlantPackets3
import Derived.Deep.RegionWith
set_option linter.unusedVariables false
set_option linter.unusedSimpArgs false
namespace Go.Proofs.Ytijpkcdalmlaiaa
open Go.RowKit
def dig (n : Nat) : UInt8 := UInt8.ofNat (48 + n)
def dec (n : Nat) : List UInt8 := if n < 10 then [dig n] else dec (n / 10) ++ [dig (n % 10)]
termination_by n
decreasing_by omega
def decB (n : Nat) : ByteArray := ⟨(dec n).toArray⟩
theorem dec_lt {n : Nat} (h : n < 10) : dec n = [dig n] := by rw [dec]; simp [h]
theorem dec_ge {n : Nat} (h : 10 ≤ n) : dec n = dec (n / 10) ++ [dig (n % 10)] := by rw [dec]; rw [if_neg (by omega)]
theorem decB_ge {n : Nat} (h : 10 ≤ n) : decB n = decB (n / 10) ++ ⟨#[dig (n % 10)]⟩ := by
  unfold decB; rw [dec_ge h]; apply ByteArray.ext; rw [ByteArray.data_append]; simp
theorem dig_add (n : Nat) : dig n = 48 + UInt8.ofNat n := by unfold dig; rw [UInt8.ofNat_add]; rfl
theorem decB_ge' {n : Nat} (h : ¬ n < 10) : decB (n / 10) ++ ⟨#[48 + UInt8.ofNat (n % 10)]⟩ = decB n := by rw [decB_ge (Nat.le_of_not_lt h), dig_add]
theorem dec_length_le : ∀ k n, n < 10 ^ (k + 1) → (dec n).length ≤ k + 1 := by
  intro k
  induction k with
  | zero => intro n h; rw [dec_lt (by omega)]; simp
  | succ k ih =>
    intro n h
    by_cases h10 : n < 10
    · rw [dec_lt h10]; simp
    · rw [dec_ge (by omega), List.length_append]
      have := ih (n / 10) (by rw [Nat.pow_succ] at h; omega)
      simp only [List.length_cons, List.length_nil]; omega
theorem decB_size (n : Nat) : (decB n).size = (dec n).length := by simp [decB, ByteArray.size]
theorem decB_size_le {k n : Nat} (h : n < 10 ^ (k + 1)) : (decB n).size ≤ k + 1 := by rw [decB_size]; exact dec_length_le k n h
theorem rs {a b : ByteArray} (h : a = b) : Ending.returned (.string a) = .returned (.string b) := by rw [h]
theorem conv_one (u : World) (v : Int) (t : Nat) :
    (convert 51 9 (.slice (some ⟨u.heap.size, 0, none⟩) 1 1)).run Try.prog (u.alloc (.cells #[.int .u8 v] t)) = .ok (.string ⟨#[UInt8.ofNat v.toNat]⟩) (u.alloc (.cells #[.int .u8 v] t)) := by
  rw [run_convert_bytes_arg (P := Try.prog) (u.alloc (.cells #[.int .u8 v] t)) 51 5 Try.underlying51 Try.underlying5 u.heap.size 0 1 1 [v] rfl (by
    intro i hi
    obtain rfl : i = 0 := by omega
    simp) 9 Try.underlying9]
  rfl
theorem conv_at (u : World) (b : Nat) (v : Int) (h : u.cell? ⟨b, 0, none⟩ = some (.int .u8 v)) :
    (convert 51 9 (.slice (some ⟨b, 0, none⟩) 1 1)).run Try.prog u = .ok (.string ⟨#[UInt8.ofNat v.toNat]⟩) u := by
  rw [run_convert_bytes_arg (P := Try.prog) u 51 5 Try.underlying51 Try.underlying5 b 0 1 1 [v] rfl (by
    intro i hi
    obtain rfl : i = 0 := by omega
    simpa using h) 9 Try.underlying9]
  rfl
theorem dig_int (n : Nat) : UInt8.ofNat (48 + (n : Int) % 10).toNat = dig (n % 10) := by
  unfold dig; congr 1
set_option maxHeartbeats 800000 in
theorem Decimal_any : ∀ (k n : Nat) (w : World), n < 10 ^ (k + 1) → k ≤ 17 →
    Calls Try.prog 97 #[.int .i64 n] w fun e w' => e = .returned (.string (decB n)) ∧ Below w.heap.size w w' := by
  have base : ∀ (n : Nat) (w : World), n < 10 → Calls Try.prog 97 #[.int .i64 n] w fun e w' => e = .returned (.string (decB n)) ∧ Below w.heap.size w w' := by
    intro n w h9
    have hcv := fun v => conv_one w v 5
    go_enter Try.func97, Try.ntmps97
    go_wp2
    go_ret
    exact ⟨rs (by rw [decB, dec_lt h9]; rfl), (Below.refl _ _).alloc (Nat.le_refl _) _⟩
  intro k
  induction k with
  | zero => intro n w h _; exact base n w (by omega)
  | succ k ih =>
    intro n w h hk
    by_cases h10 : n < 10
    · exact base n w h10
    · have hd : ∀ u : World, Calls Try.prog 97 #[.int .i64 ((n : Int) / 10)] u fun e w' => e = .returned (.string (decB (n / 10))) ∧ Below u.heap.size u w' := by
        intro u
        have := ih (n / 10) u (by rw [Nat.pow_succ] at h; omega) (by omega)
        simpa using this
      have hsz : (decB (n / 10)).size ≤ k + 1 := decB_size_le (by rw [Nat.pow_succ] at h; omega)
      have h10' : (10 : Int) ≤ n := by omega
      have h63 : (n : Int) ≤ 1000000000000000000 := by
        have h1 : 10 ^ (k + 1 + 1) ≤ 10 ^ 18 := Nat.pow_le_pow_right (by omega) (by omega)
        have h2 : (10 : Nat) ^ 18 = 1000000000000000000 := by decide
        omega
      have HD := Lib.hid hd
      have hcv := fun u v => conv_one u v 5
      have hcv' := fun (u : World) v => conv_at (u.alloc (.cells #[.int .u8 v] 5)).drew u.heap.size v (by simp)
      clear hd ih base h
      have e1 : IntKind.i64.wrap ((n : Int) / 10) = (n : Int) / 10 := IntWalk.i64_in _ (by omega)
      have e2 : (n : Int).tmod 10 = (n : Int) % 10 := Int.tmod_eq_emod_of_nonneg (by omega)
      have e3 : IntKind.i64.wrap (48 + (n : Int) % 10) = 48 + (n : Int) % 10 := IntWalk.i64_in _ (by omega)
      have e4 : IntKind.u8.wrap (48 + (n : Int) % 10) = 48 + (n : Int) % 10 := by
        have : 0 ≤ 48 + (n : Int) % 10 ∧ 48 + (n : Int) % 10 < 256 := by omega
        generalize 48 + (n : Int) % 10 = q at this
        simp [IntKind.wrap, IntKind.bits, IntKind.signed]; omega
      go_enter Try.func97, Try.ntmps97
      go_wp2_with fail
      go_region_with (go_at_call 97; refine (HD.out _).mono ?_; rintro e w1 ⟨rfl, b1⟩; have hcc := b1.cell (p := ⟨w.heap.size, 0, none⟩); have hc3 := conv_at w1 w.heap.size (48 + (n : Int) % 10))
      all_goals
        go_wp2
        go_ret
      all_goals refine ⟨rs (decB_ge' h10), ?_⟩
      all_goals first
        | exact ((Below.refl w.heap.size w).drew.trans (b1.mono (Nat.le_refl _))).alloc b1.size _
        | exact ((Below.refl _ _).alloc (Nat.le_refl _) _).drew.trans (b1.mono (by simp))
end Go.Proofs.Ytijpkcdalmlaiaa
