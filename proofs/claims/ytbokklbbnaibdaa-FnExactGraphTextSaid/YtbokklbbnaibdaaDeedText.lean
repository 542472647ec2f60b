/-
  Texts of deeds.
-/
import Derived.Test.YtbokklbbnaibdaaDeed
import Derived.Test.YtbokklbbnaibdaaDecImpl
import Derived.Lib.QuietBelow
namespace Go.Proofs.Ytbokklbbnaibdaa
open Go.RowKit Go.Sort
def deedTextB (k a : Int) : ByteArray := if deedOk k a = true then (if toldOf k = true then wordOf k ++ ⟨#[32]⟩ ++ decB a.natAbs else wordOf k) else ⟨#[]⟩
theorem deedOk_parts {k a : Int} (h : deedOk k a = true) : inR k 1 10 = true ∧ 0 ≤ a ∧ a ≤ 999 := by
  unfold deedOk at h
  rw [Bool.and_eq_true, Bool.and_eq_true] at h
  have := inR_iff.1 h.2.1
  exact ⟨h.1, this.1, this.2⟩
theorem wordOf_size (k : Int) : (wordOf k).size ≤ 7 := by
  unfold wordOf
  repeat (split; · decide)
  decide
theorem decIB_nat (n : Nat) : decIB n = decB n := by unfold decIB decI decB; rw [if_neg (by omega)]; rfl
theorem app_assoc (a b c : ByteArray) : a ++ (b ++ c) = a ++ b ++ c := by apply ByteArray.ext; simp only [ByteArray.data_append, Array.append_assoc]
end Go.Proofs.Ytbokklbbnaibdaa
