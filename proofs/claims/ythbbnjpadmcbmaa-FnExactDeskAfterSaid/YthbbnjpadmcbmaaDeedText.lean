/-
  Texts of deeds.
-/
import Derived.Test.YthbbnjpadmcbmaaDeed
import Derived.Test.YthbbnjpadmcbmaaDecImpl
import Derived.Lib.QuietBelow
namespace Go.Proofs.Ythbbnjpadmcbmaa
open Go.RowKit Go.Sort
def deedTextB (k a : Int) : ByteArray := if deedOk k a = true then (if toldOf k = true then wordOf k ++ ⟨#[32]⟩ ++ decB a.natAbs else wordOf k) else ⟨#[]⟩
theorem deedOk_parts {k a : Int} (h : deedOk k a = true) : inR k 1 10 = true ∧ 0 ≤ a ∧ a ≤ 999 := by
  unfold deedOk at h
  rw [Bool.and_eq_true, Bool.and_eq_true] at h
  have := inR_iff.1 h.2.1
  exact ⟨h.1, this.1, this.2⟩
theorem wordOf_size (k : Int) : (wordOf k).size ≤ 7 := by
  unfold wordOf
  repeat (split; · decide)
  decide
theorem decIB_nat (n : Nat) : decIB n = decB n := by unfold decIB decI decB; rw [if_neg (by omega)]; rfl
theorem app_assoc (a b c : ByteArray) : a ++ (b ++ c) = a ++ b ++ c := by apply ByteArray.ext; simp only [ByteArray.data_append, Array.append_assoc]
set_option maxHeartbeats 1000000 in
theorem ImplDeedText_any (k a : Int) (w : World) :
    Calls Try.prog 63 #[.agg #[.int .i64 k, .int .i64 a]] w fun e w' => e = .returned (.string (deedTextB k a)) ∧ Below w.heap.size w w' := by
  by_cases hd : deedOk k a = true
  · have hp := deedOk_parts hd
    have hk := hp.1
    obtain ⟨n, rfl⟩ := Int.eq_ofNat_of_zero_le hp.2.1
    have hn : n < 10 ^ (2 + 1) := by have := hp.2.2; omega
    have hn9 : (n : Int) ≤ 999 := hp.2.2
    have hsz : (decIB n).size ≤ 3 := by rw [decIB_nat]; exact decB_size_le hn
    have hws := wordOf_size k
    have hT : Hid (deedTextB k n = if toldOf k = true then wordOf k ++ (⟨#[32]⟩ ++ decIB n) else wordOf k) := by unfold Hid deedTextB; rw [if_pos hd, app_assoc, decIB_nat]; rfl
    clear hp hn
    generalize ht : toldOf k = t at hT
    have HT := Lib.hid ht
    generalize hs : wordOf k = s at hT hws
    have HS := Lib.hid hs
    clear ht hs
    go_enter Try.func63, Try.ntmps63
    go_wp2_with fail
    refine (ImplValidDeed_any _ _ _).mono ?_
    rintro e w1 ⟨rfl, b1⟩
    have c0 := b1.cell (p := ⟨w.heap.size, 0, none⟩) (by simp)
    have c1 := b1.cell (p := ⟨w.heap.size, 1, none⟩) (by simp)
    simp at c0 c1
    have z1 := b1.size
    simp only [World.size_alloc] at z1
    go_wp2_with fail
    refine (deedWord_in _ hk).mono ?_
    rintro e w2 ⟨rfl, rfl⟩
    rw [HT.out, HS.out]
    cases t
    · go_wp2
      go_ret
      exact ⟨rs (by rw [hT.out]; rfl), ((Below.refl _ _).alloc (Nat.le_refl _) _).trans (b1.mono (by simp))⟩
    · go_wp2_with fail
      refine (decimal_any n _ (by omega) (by omega)).mono ?_
      rintro e w3 ⟨rfl, b3⟩
      have hz1 : (⟨#[32]⟩ ++ decIB n : ByteArray).size ≤ 4 := by rw [ByteArray.size_append, show (⟨#[32]⟩ : ByteArray).size = 1 from rfl]; omega
      generalize hq : (⟨#[32]⟩ ++ decIB n : ByteArray) = q at hT hz1
      have HQ := Lib.hid hq
      clear hq
      go_wp2
      go_ret
      exact ⟨rs (by rw [hT.out, if_pos trivial, ← HQ.out]), (((Below.refl _ _).alloc (Nat.le_refl _) _).trans (b1.mono (by simp))).trans (b3.mono (by omega))⟩
  · have hd' : deedOk k a = false := by simpa using hd
    have hT : Hid (deedTextB k a = ⟨#[]⟩) := by unfold Hid deedTextB; rw [if_neg hd]
    clear hd
    go_enter Try.func63, Try.ntmps63
    go_wp2_with (refine (ImplValidDeed_any _ _ _).mono ?_; rintro e w1 ⟨rfl, b1⟩; rw [hd'])
    go_ret
    exact ⟨rs hT.out.symm, ((Below.refl _ _).alloc (Nat.le_refl _) _).trans (b1.mono (by simp))⟩
end Go.Proofs.Ythbbnjpadmcbmaa
