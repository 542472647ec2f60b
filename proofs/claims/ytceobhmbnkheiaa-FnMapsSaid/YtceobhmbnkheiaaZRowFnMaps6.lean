/-
  Numbers in decimal.
-/
import Derived.Test.YtceobhmbnkheiaaZRowFnMaps3
import Derived.Deep.RegionWith
set_option linter.unusedVariables false
set_option linter.unusedSimpArgs false
namespace Go.Proofs.Ytceobhmbnkheiaa
open Go.RowKit
def dig (n : Nat) : UInt8 := UInt8.ofNat (48 + n)
def dec (n : Nat) : List UInt8 := if n < 10 then [dig n] else dec (n / 10) ++ [dig (n % 10)]
termination_by n
decreasing_by omega
def decB (n : Nat) : ByteArray := ⟨(dec n).toArray⟩
theorem dec_lt {n : Nat} (h : n < 10) : dec n = [dig n] := by rw [dec]; simp [h]
theorem dec_ge {n : Nat} (h : 10 ≤ n) : dec n = dec (n / 10) ++ [dig (n % 10)] := by rw [dec]; rw [if_neg (by omega)]
theorem decB_ge {n : Nat} (h : 10 ≤ n) : decB n = decB (n / 10) ++ ⟨#[dig (n % 10)]⟩ := by
  unfold decB; rw [dec_ge h]; apply ByteArray.ext; rw [ByteArray.data_append]; simp
theorem dig_add (n : Nat) : dig n = 48 + UInt8.ofNat n := by unfold dig; rw [UInt8.ofNat_add]; rfl
theorem decB_ge' {n : Nat} (h : ¬ n < 10) : decB (n / 10) ++ ⟨#[48 + UInt8.ofNat (n % 10)]⟩ = decB n := by rw [decB_ge (Nat.le_of_not_lt h), dig_add]
theorem dec_length_le : ∀ k n, n < 10 ^ (k + 1) → (dec n).length ≤ k + 1 := by
  intro k
  induction k with
  | zero => intro n h; rw [dec_lt (by omega)]; simp
  | succ k ih =>
    intro n h
    by_cases h10 : n < 10
    · rw [dec_lt h10]; simp
    · rw [dec_ge (by omega), List.length_append]
      have := ih (n / 10) (by rw [Nat.pow_succ] at h; omega)
      simp only [List.length_cons, List.length_nil]; omega
theorem decB_size (n : Nat) : (decB n).size = (dec n).length := by simp [decB, ByteArray.size]
theorem decB_size_le {k n : Nat} (h : n < 10 ^ (k + 1)) : (decB n).size ≤ k + 1 := by rw [decB_size]; exact dec_length_le k n h
theorem rs {a b : ByteArray} (h : a = b) : Ending.returned (.string a) = .returned (.string b) := by rw [h]
theorem conv_one (u : World) (v : Int) (t : Nat) :
    (convert 22 9 (.slice (some ⟨u.heap.size, 0, none⟩) 1 1)).run Try.prog (u.alloc (.cells #[.int .u8 v] t)) = .ok (.string ⟨#[UInt8.ofNat v.toNat]⟩) (u.alloc (.cells #[.int .u8 v] t)) := by
  rw [run_convert_bytes_arg (P := Try.prog) (u.alloc (.cells #[.int .u8 v] t)) 22 5 Try.underlying22 Try.underlying5 u.heap.size 0 1 1 [v] rfl (by
    intro i hi
    obtain rfl : i = 0 := by omega
    simp) 9 Try.underlying9]
  rfl
theorem conv_at (u : World) (b : Nat) (v : Int) (h : u.cell? ⟨b, 0, none⟩ = some (.int .u8 v)) :
    (convert 22 9 (.slice (some ⟨b, 0, none⟩) 1 1)).run Try.prog u = .ok (.string ⟨#[UInt8.ofNat v.toNat]⟩) u := by
  rw [run_convert_bytes_arg (P := Try.prog) u 22 5 Try.underlying22 Try.underlying5 b 0 1 1 [v] rfl (by
    intro i hi
    obtain rfl : i = 0 := by omega
    simpa using h) 9 Try.underlying9]
  rfl
theorem dig_int (n : Nat) : UInt8.ofNat (48 + (n : Int) % 10).toNat = dig (n % 10) := by
  unfold dig; congr 1
end Go.Proofs.Ytceobhmbnkheiaa
