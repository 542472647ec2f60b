/-
  The program's reading of numbers and of words.
-/
import Derived.Test.YthheijekdpboaaaDigits
import Derived.Deep.DeepCutAuto
namespace Go.Proofs.Ythheijekdpboaaa
open Go.RowKit
theorem beq_yes {a b : ByteArray} (h : a = b) : (a.toList == b.toList) = true := by rw [h]; simp
theorem beq_no {a b : ByteArray} (h : ¬ a = b) : (a.toList == b.toList) = false := by
  simp only [beq_eq_false_iff_ne, ne_eq]
  intro e
  rw [ByteArray.toList_eq, ByteArray.toList_eq] at e
  exact h (bext e)
theorem digsB_size (s : ByteArray) : (digsB s).size ≤ s.size := by
  unfold digsB
  split
  · split
    · simp
    · exact Nat.le_refl _
  · exact Nat.le_refl _
def tupNB (r : Int × Bool) : Value := .tuple #[.int .i64 r.1, .bool r.2]
set_option maxHeartbeats 4000000 in
theorem readDecimal_any (s : ByteArray) (w : World) (hs : s.size ≤ 1048576) :
    Calls Try.prog 76 #[.string s] w fun e w' => e = .returned (tupNB (readG s)) ∧ Below w.heap.size w w' := by
  have hD2 := digsB_size s
  by_cases h0 : 0 < s.size
  · have i0 : (0 : Int) < (s.size : Int) := by omega
    by_cases h45 : s[0] = 45
    · skip
      have ht : ((s[0].toNat : Int) == 45) = true := by rw [h45]; rfl
      have i1 : (1 : Int) ≤ (s.size : Int) := by omega
      have hd : digsB s = s.extract 1 s.size := by unfold digsB; rw [dif_pos h0, if_pos h45]
      have HDX := Lib.hid hd
      clear h45 hd hD2
      go_enter Try.func76, Try.ntmps76
      go_upto_region 4 with (fail)
      have hD := HDX.out
      have hD2 := digsB_size s
      rw [hD] at hD2
      generalize s.extract 1 s.size = D at hD hD2 ⊢
      by_cases h1 : D.size < 1
      · have hr : readG s = (0, false) := by unfold readG; rw [hD, if_neg (by omega)]
        have HR := Lib.hid hr
        clear hD hr
        go_wp2
        go_ret2
        exact ⟨by rw [HR.out]; rfl, Below.refl _ _⟩
      by_cases h18 : 18 < D.size
      · have hr : readG s = (0, false) := by unfold readG; rw [hD, if_neg (by omega)]
        have HR := Lib.hid hr
        clear hD hr
        go_wp2
        go_ret2
        exact ⟨by rw [HR.out]; rfl, Below.refl _ _⟩
      have hr : readG s = (if valG D 0 0 < 0 then (0, false) else (if decIB (sgnB s) = s then (sgnB s, true) else (0, false))) := by unfold readG; rw [hD, if_pos (by omega)]
      have hsg : sgnB s = if D.size < s.size then - valG D 0 0 else valG D 0 0 := by unfold sgnB; rw [hD]
      have HR := Lib.hid hr
      have HSG := Lib.hid hsg
      clear hD hr hsg
      go_wp2
      go_loopw [5, 6, 28] (fun a _ i wr => ∃ (k : Nat) (q : Int), k ≤ D.size ∧ i = .int .i64 k ∧ a = .int .i64 q ∧ Pow10 q k ∧ Hid (valG D 0 0 = valG D q k) ∧ wr = w) (fun _ _ i _ => D.size - (intOf i).toNat)
      case atStart => exact ⟨0, 0, Nat.zero_le _, rfl, rfl, ⟨by decide, by decide⟩, rfl, rfl⟩
      case round =>
        obtain ⟨k, q, hk, rfl, rfl, hq, hval, rfl⟩ := hrel
        have HQ := Lib.hid hq
        clear hq
        by_cases hlt : k < D.size
        · have i1 : (k : Int) < (D.size : Int) := by omega
          have hu : D[k].toNat < 256 := UInt8.toNat_lt _
          have hq3 := (HQ.out.le (by omega)).1
          have hq4 := (HQ.out.le (by omega)).2
          by_cases e : 48 ≤ D[k].toNat ∧ D[k].toNat ≤ 57
          · have e1 : (48 : Int) ≤ (D[k].toNat : Int) := by omega
            have e2 : (D[k].toNat : Int) ≤ 57 := by omega
            have HE := Lib.hid e
            clear e
            go_wp2
            go_roundw
            case rel => exact ⟨k + 1, _, by omega, by go_num, by rw [Int.mul_comm], HQ.out.next HE.out.1 HE.out.2, by unfold Hid at *; rw [hval, valG_yes hlt HE], trivial⟩
            case measure => simp [intOf]; omega
          · have HV := Lib.hid (valG_no (a := q) hlt e)
            by_cases e1 : (D[k].toNat : Int) < 48
            · clear e
              go_wp2
              go_ret2
              exact ⟨by rw [HR.out, hval.out, HV.out]; rfl, Below.refl _ _⟩
            · have e2 : (57 : Int) < (D[k].toNat : Int) := by omega
              clear e
              go_wp2
              go_ret2
              exact ⟨by rw [HR.out, hval.out, HV.out]; rfl, Below.refl _ _⟩
        · obtain rfl : k = D.size := by omega
          have hvq : valG D 0 0 = q := by rw [hval.out, valG_end (by omega)]
          have hq18 : 0 ≤ q ∧ q < 1000000000000000000 := by
            refine ⟨HQ.out.1, Int.lt_of_lt_of_le HQ.out.2 ?_⟩
            have : (10 : Int) ^ D.size ≤ 10 ^ 18 := by
              have := Nat.pow_le_pow_right (by decide : 0 < 10) (show D.size ≤ 18 by omega)
              exact_mod_cast this
            omega
          have hq0 := hq18.1
          have hq1 := hq18.2
          have HVQ := Lib.hid hvq
          clear hvq hq18 hval
          by_cases hneg : D.size < s.size
          · have hsn : sgnB s = - q := by rw [HSG.out, if_pos hneg, HVQ.out]
            have HSN := Lib.hid hsn
            have ineg : (D.size : Int) < (s.size : Int) := by omega
            clear hsn
            by_cases he : decIB (-q) = s
            · have ht := beq_yes he
              have hrr : readG s = (-q, true) := by rw [HR.out, HVQ.out, if_neg (by omega), HSN.out, if_pos he]
              have HRR := Lib.hid hrr
              clear hrr he
              go_wp2_with (go_at_call 120; refine (decimal_any (-q) _ (by omega) (by omega)).mono ?_; rintro e w2 ⟨rfl, b2⟩)
              go_ret2
              exact ⟨by rw [HRR.out]; rfl, b2⟩
            · have ht := beq_no he
              have hrr : readG s = (0, false) := by rw [HR.out, HVQ.out, if_neg (by omega), HSN.out, if_neg he]
              have HRR := Lib.hid hrr
              clear hrr he
              go_wp2_with (go_at_call 120; refine (decimal_any (-q) _ (by omega) (by omega)).mono ?_; rintro e w2 ⟨rfl, b2⟩)
              go_ret2
              exact ⟨by rw [HRR.out]; rfl, b2⟩
          · have hsn : sgnB s = q := by rw [HSG.out, if_neg hneg, HVQ.out]
            have HSN := Lib.hid hsn
            have ineg : (s.size : Int) ≤ (D.size : Int) := by omega
            clear hsn
            by_cases he : decIB q = s
            · have ht := beq_yes he
              have hrr : readG s = (q, true) := by rw [HR.out, HVQ.out, if_neg (by omega), HSN.out, if_pos he]
              have HRR := Lib.hid hrr
              clear hrr he
              go_wp2_with (go_at_call 120; refine (decimal_any q _ (by omega) (by omega)).mono ?_; rintro e w2 ⟨rfl, b2⟩)
              go_ret2
              exact ⟨by rw [HRR.out]; rfl, b2⟩
            · have ht := beq_no he
              have hrr : readG s = (0, false) := by rw [HR.out, HVQ.out, if_neg (by omega), HSN.out, if_neg he]
              have HRR := Lib.hid hrr
              clear hrr he
              go_wp2_with (go_at_call 120; refine (decimal_any q _ (by omega) (by omega)).mono ?_; rintro e w2 ⟨rfl, b2⟩)
              go_ret2
              exact ⟨by rw [HRR.out]; rfl, b2⟩
    · skip
      have ht : ((s[0].toNat : Int) == 45) = false := by
        simp only [beq_eq_false_iff_ne, ne_eq]
        intro e
        apply h45
        apply UInt8.toNat_inj.1
        have : (45 : UInt8).toNat = 45 := rfl
        omega
      have hd : digsB s = s := by unfold digsB; rw [dif_pos h0, if_neg h45]
      have HDX := Lib.hid hd
      clear h45 hd hD2
      go_enter Try.func76, Try.ntmps76
      go_upto_region 4 with (fail)
      have hD := HDX.out
      have h1 : ¬ s.size < 1 := by omega
      by_cases h18 : 18 < s.size
      · have hr : readG s = (0, false) := by unfold readG; rw [hD, if_neg (by omega)]
        have HR := Lib.hid hr
        clear hD hr
        go_wp2
        go_ret2
        exact ⟨by rw [HR.out]; rfl, Below.refl _ _⟩
      have hr : readG s = (if valG s 0 0 < 0 then (0, false) else (if decIB (sgnB s) = s then (sgnB s, true) else (0, false))) := by unfold readG; rw [hD, if_pos (by omega)]
      have hsg : sgnB s = if s.size < s.size then - valG s 0 0 else valG s 0 0 := by unfold sgnB; rw [hD]
      have HR := Lib.hid hr
      have HSG := Lib.hid hsg
      clear hD hr hsg
      go_wp2
      go_loopw [5, 6, 28] (fun a _ i wr => ∃ (k : Nat) (q : Int), k ≤ s.size ∧ i = .int .i64 k ∧ a = .int .i64 q ∧ Pow10 q k ∧ Hid (valG s 0 0 = valG s q k) ∧ wr = w) (fun _ _ i _ => s.size - (intOf i).toNat)
      case atStart => exact ⟨0, 0, Nat.zero_le _, rfl, rfl, ⟨by decide, by decide⟩, rfl, rfl⟩
      case round =>
        obtain ⟨k, q, hk, rfl, rfl, hq, hval, rfl⟩ := hrel
        have HQ := Lib.hid hq
        clear hq
        by_cases hlt : k < s.size
        · have i1 : (k : Int) < (s.size : Int) := by omega
          have hu : s[k].toNat < 256 := UInt8.toNat_lt _
          have hq3 := (HQ.out.le (by omega)).1
          have hq4 := (HQ.out.le (by omega)).2
          by_cases e : 48 ≤ s[k].toNat ∧ s[k].toNat ≤ 57
          · have e1 : (48 : Int) ≤ (s[k].toNat : Int) := by omega
            have e2 : (s[k].toNat : Int) ≤ 57 := by omega
            have HE := Lib.hid e
            clear e
            go_wp2
            go_roundw
            case rel => exact ⟨k + 1, _, by omega, by go_num, by rw [Int.mul_comm], HQ.out.next HE.out.1 HE.out.2, by unfold Hid at *; rw [hval, valG_yes hlt HE], trivial⟩
            case measure => simp [intOf]; omega
          · have HV := Lib.hid (valG_no (a := q) hlt e)
            by_cases e1 : (s[k].toNat : Int) < 48
            · clear e
              go_wp2
              go_ret2
              exact ⟨by rw [HR.out, hval.out, HV.out]; rfl, Below.refl _ _⟩
            · have e2 : (57 : Int) < (s[k].toNat : Int) := by omega
              clear e
              go_wp2
              go_ret2
              exact ⟨by rw [HR.out, hval.out, HV.out]; rfl, Below.refl _ _⟩
        · obtain rfl : k = s.size := by omega
          have hvq : valG s 0 0 = q := by rw [hval.out, valG_end (by omega)]
          have hq18 : 0 ≤ q ∧ q < 1000000000000000000 := by
            refine ⟨HQ.out.1, Int.lt_of_lt_of_le HQ.out.2 ?_⟩
            have : (10 : Int) ^ s.size ≤ 10 ^ 18 := by
              have := Nat.pow_le_pow_right (by decide : 0 < 10) (show s.size ≤ 18 by omega)
              exact_mod_cast this
            omega
          have hq0 := hq18.1
          have hq1 := hq18.2
          have HVQ := Lib.hid hvq
          clear hvq hq18 hval
          have hsn : sgnB s = q := by rw [HSG.out, if_neg (Nat.lt_irrefl _), HVQ.out]
          have HSN := Lib.hid hsn
          clear hsn
          by_cases he : decIB q = s
          · have ht := beq_yes he
            have hrr : readG s = (q, true) := by rw [HR.out, HVQ.out, if_neg (by omega), HSN.out, if_pos he]
            have HRR := Lib.hid hrr
            clear hrr he
            go_wp2_with (go_at_call 120; refine (decimal_any q _ (by omega) (by omega)).mono ?_; rintro e w2 ⟨rfl, b2⟩)
            go_ret2
            exact ⟨by rw [HRR.out]; rfl, b2⟩
          · have ht := beq_no he
            have hrr : readG s = (0, false) := by rw [HR.out, HVQ.out, if_neg (by omega), HSN.out, if_neg he]
            have HRR := Lib.hid hrr
            clear hrr he
            go_wp2_with (go_at_call 120; refine (decimal_any q _ (by omega) (by omega)).mono ?_; rintro e w2 ⟨rfl, b2⟩)
            go_ret2
            exact ⟨by rw [HRR.out]; rfl, b2⟩
  · have hd : digsB s = s := by unfold digsB; rw [dif_neg h0]
    have hz : s.size ≤ 0 := by omega
    have hr : readG s = (0, false) := by unfold readG; rw [hd, if_neg (by omega)]
    have HR := Lib.hid hr
    clear hd h0 hD2 hr
    go_enter Try.func76, Try.ntmps76
    go_wp2
    go_ret2
    exact ⟨by rw [HR.out]; rfl, Below.refl _ _⟩
theorem readG_bd (s : ByteArray) : -1000000000000000000 < (readG s).1 ∧ (readG s).1 < 1000000000000000000 := by
  unfold readG
  split
  · rename_i h
    split
    · simp
    · split
      · have hv : valG (digsB s) 0 0 = -1 ∨ Pow10 (valG (digsB s) 0 0) (digsB s).size := valG_range _ 0 0 rfl ⟨by decide, by decide⟩ (Nat.zero_le _)
        have hb : -1 ≤ valG (digsB s) 0 0 ∧ valG (digsB s) 0 0 < 1000000000000000000 := by
          rcases hv with hv | hv
          · omega
          · have : (10 : Int) ^ (digsB s).size ≤ 10 ^ 18 := by
              have := Nat.pow_le_pow_right (by decide : 0 < 10) h.2
              exact_mod_cast this
            have h1 := hv.1
            have h2 := hv.2
            omega
        unfold sgnB
        split <;> simp <;> omega
      · simp
  · simp
end Go.Proofs.Ythheijekdpboaaa
