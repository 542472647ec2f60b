/-
  Texts of deeds.
-/
import Derived.Test.YtpfidcodiknhgaaDeed
import Derived.Test.YtpfidcodiknhgaaDecImpl
import Derived.Lib.QuietBelow
namespace Go.Proofs.Ytpfidcodiknhgaa
open Go.RowKit Go.Sort
def deedTextB (k a : Int) : ByteArray := if deedOk k a = true then (if toldOf k = true then wordOf k ++ ⟨#[32]⟩ ++ decB a.natAbs else wordOf k) else ⟨#[]⟩
theorem deedOk_parts {k a : Int} (h : deedOk k a = true) : inR k 1 10 = true ∧ 0 ≤ a ∧ a ≤ 999 := by
  unfold deedOk at h
  rw [Bool.and_eq_true, Bool.and_eq_true] at h
  have := inR_iff.1 h.2.1
  exact ⟨h.1, this.1, this.2⟩
theorem wordOf_size (k : Int) : (wordOf k).size ≤ 7 := by
  unfold wordOf
  repeat (split; · decide)
  decide
set_option maxHeartbeats 1000000 in
theorem SpecDeedText_any (k a : Int) (w : World) :
    Calls Try.prog 17 #[.agg #[.int .i64 k, .int .i64 a]] w fun e w' => e = .returned (.string (deedTextB k a)) ∧ Below w.heap.size w w' := by
  by_cases hd : deedOk k a = true
  · have hp := deedOk_parts hd
    have hkb := inR_iff.1 hp.1
    obtain ⟨j, rfl⟩ := Int.eq_ofNat_of_zero_le (show 0 ≤ k by omega)
    obtain ⟨n, rfl⟩ := Int.eq_ofNat_of_zero_le hp.2.1
    have hn : n < 10 ^ (2 + 1) := by have := hp.2.2; omega
    have hDec := Lib.hid (fun u => Decimal_any 2 n u hn (by omega))
    have hsz := decB_size_le hn
    have hws := wordOf_size j
    have hT : Hid (deedTextB j n = if toldOf j = true then wordOf j ++ ⟨#[32]⟩ ++ decB n else wordOf j) := by unfold Hid deedTextB; rw [if_pos hd]; rfl
    clear hp hn
    generalize ht : toldOf j = t at hT
    have HT := Lib.hid ht
    generalize hs : wordOf j = s at hT hws
    have HS := Lib.hid hs
    clear ht hs
    go_enter Try.func17, Try.ntmps17
    go_wp2_with fail
    refine (l09Deed_any _ _ _).mono ?_
    rintro e w1 ⟨rfl, b1⟩
    have c0 := b1.cell (p := ⟨w.heap.size, 0, none⟩) (by simp)
    have c1 := b1.cell (p := ⟨w.heap.size, 1, none⟩) (by simp)
    have z1 := b1.size
    simp only [World.size_alloc] at z1
    go_wp2_with fail
    refine (l09Words_any _).mono ?_
    rintro e w2 ⟨rfl, tS, tB, b2, z2⟩
    have g1 := tB j (by omega) (by omega)
    have g2 := tS j (by omega) (by omega)
    rw [HT.out] at g1
    rw [HS.out] at g2
    have d0 := b2.cell (p := ⟨w.heap.size, 0, none⟩) (by simp; omega)
    have d1 := b2.cell (p := ⟨w.heap.size, 1, none⟩) (by simp; omega)
    rw [c0] at d0
    rw [c1] at d1
    simp at d0 d1
    clear tS tB c0 c1
    cases t
    · go_wp2
      go_ret
      exact ⟨rs (by rw [hT.out]; rfl), (((Below.refl _ _).alloc (Nat.le_refl _) _).trans (b1.mono (by simp))).trans (b2.mono (by omega))⟩
    · go_wp2_with fail
      have hj0 : (0 : Int) ≤ (j : Int) := by omega
      have hj1 : (j : Int) < 11 := by omega
      have k0 := fun d os => cell_regrown d0 d os
      have k1 := fun d os => cell_regrown d1 d os
      have k2 := fun d os => cell_regrown g2 d os
      have hz1 : ¬ 9223372036854775807 < s.size + 1 := by omega
      have hz2 : ¬ 9223372036854775807 < s.size + 1 + (decB n).size := by omega
      refine wp_region_quiet_below (by kernel_rfl) (by kernel_rfl) ?_
      repeat (quiet_step (exact Calls.regrown_of (hDec.out _)))
      refine wpQuiet_nil ?_
      intro _ hw'
      obtain ⟨⟨dq, osq⟩, hw''⟩ := hw'
      subst hw''
      go_wp2
      go_ret
      exact ⟨rs (by rw [hT.out]; rfl), ((((Below.refl _ _).alloc (Nat.le_refl _) _).trans (b1.mono (by simp))).trans (b2.mono (by omega))).trans ((below_regrown w2 dq osq).mono (by omega))⟩
  · have hd' : deedOk k a = false := by simpa using hd
    have hT : Hid (deedTextB k a = ⟨#[]⟩) := by unfold Hid deedTextB; rw [if_neg hd]
    clear hd
    go_enter Try.func17, Try.ntmps17
    go_wp2_with (refine (l09Deed_any _ _ _).mono ?_; rintro e w1 ⟨rfl, b1⟩; rw [hd'])
    go_ret
    exact ⟨rs hT.out.symm, ((Below.refl _ _).alloc (Nat.le_refl _) _).trans (b1.mono (by simp))⟩

theorem decIB_nat (n : Nat) : decIB n = decB n := by unfold decIB decI decB; rw [if_neg (by omega)]; rfl
theorem app_assoc (a b c : ByteArray) : a ++ (b ++ c) = a ++ b ++ c := by apply ByteArray.ext; simp only [ByteArray.data_append, Array.append_assoc]
set_option maxHeartbeats 1000000 in
theorem ImplDeedText_any (k a : Int) (w : World) :
    Calls Try.prog 18 #[.agg #[.int .i64 k, .int .i64 a]] w fun e w' => e = .returned (.string (deedTextB k a)) ∧ Below w.heap.size w w' := by
  by_cases hd : deedOk k a = true
  · have hp := deedOk_parts hd
    have hk := hp.1
    obtain ⟨n, rfl⟩ := Int.eq_ofNat_of_zero_le hp.2.1
    have hn : n < 10 ^ (2 + 1) := by have := hp.2.2; omega
    have hn9 : (n : Int) ≤ 999 := hp.2.2
    have hsz : (decIB n).size ≤ 3 := by rw [decIB_nat]; exact decB_size_le hn
    have hws := wordOf_size k
    have hT : Hid (deedTextB k n = if toldOf k = true then wordOf k ++ (⟨#[32]⟩ ++ decIB n) else wordOf k) := by unfold Hid deedTextB; rw [if_pos hd, app_assoc, decIB_nat]; rfl
    clear hp hn
    generalize ht : toldOf k = t at hT
    have HT := Lib.hid ht
    generalize hs : wordOf k = s at hT hws
    have HS := Lib.hid hs
    clear ht hs
    go_enter Try.func18, Try.ntmps18
    go_wp2_with fail
    refine (ImplValidDeed_any _ _ _).mono ?_
    rintro e w1 ⟨rfl, b1⟩
    have c0 := b1.cell (p := ⟨w.heap.size, 0, none⟩) (by simp)
    have c1 := b1.cell (p := ⟨w.heap.size, 1, none⟩) (by simp)
    simp at c0 c1
    have z1 := b1.size
    simp only [World.size_alloc] at z1
    go_wp2_with fail
    refine (deedWord_in _ hk).mono ?_
    rintro e w2 ⟨rfl, rfl⟩
    rw [HT.out, HS.out]
    cases t
    · go_wp2
      go_ret
      exact ⟨rs (by rw [hT.out]; rfl), ((Below.refl _ _).alloc (Nat.le_refl _) _).trans (b1.mono (by simp))⟩
    · go_wp2_with fail
      refine (decimal_any n _ (by omega) (by omega)).mono ?_
      rintro e w3 ⟨rfl, b3⟩
      have hz1 : (⟨#[32]⟩ ++ decIB n : ByteArray).size ≤ 4 := by rw [ByteArray.size_append, show (⟨#[32]⟩ : ByteArray).size = 1 from rfl]; omega
      generalize hq : (⟨#[32]⟩ ++ decIB n : ByteArray) = q at hT hz1
      have HQ := Lib.hid hq
      clear hq
      go_wp2
      go_ret
      exact ⟨rs (by rw [hT.out, if_pos trivial, ← HQ.out]), (((Below.refl _ _).alloc (Nat.le_refl _) _).trans (b1.mono (by simp))).trans (b3.mono (by omega))⟩
  · have hd' : deedOk k a = false := by simpa using hd
    have hT : Hid (deedTextB k a = ⟨#[]⟩) := by unfold Hid deedTextB; rw [if_neg hd]
    clear hd
    go_enter Try.func18, Try.ntmps18
    go_wp2_with (refine (ImplValidDeed_any _ _ _).mono ?_; rintro e w1 ⟨rfl, b1⟩; rw [hd'])
    go_ret
    exact ⟨rs hT.out.symm, ((Below.refl _ _).alloc (Nat.le_refl _) _).trans (b1.mono (by simp))⟩
end Go.Proofs.Ytpfidcodiknhgaa
