/-
  Records read from lines: the walks. With it: The program's reading of numbers and of words. Records read from lines: the plain law, and both sides.
-/
import Derived.Test.YtihjadffdjjogaaZRowFnJournal12
import Derived.Deep.DeepCutAuto
set_option linter.unusedVariables false
set_option linter.unusedSimpArgs false
namespace Go.Proofs.Ytihjadffdjjogaa
open Go.RowKit
theorem beq_yes {a b : ByteArray} (h : a = b) : (a.toList == b.toList) = true := by rw [h]; simp
theorem beq_no {a b : ByteArray} (h : ¬ a = b) : (a.toList == b.toList) = false := by
  simp only [beq_eq_false_iff_ne, ne_eq]
  intro e
  rw [ByteArray.toList_eq, ByteArray.toList_eq] at e
  exact h (bext e)
theorem digsB_size (s : ByteArray) : (digsB s).size ≤ s.size := by
  unfold digsB
  split
  · split
    · simp
    · exact Nat.le_refl _
  · exact Nat.le_refl _
def tupNB (r : Int × Bool) : Value := .tuple #[.int .i64 r.1, .bool r.2]
set_option maxHeartbeats 4000000 in
theorem readDecimal_any (s : ByteArray) (w : World) (hs : s.size ≤ 1048576) :
    Calls Try.prog 54 #[.string s] w fun e w' => e = .returned (tupNB (readG s)) ∧ Below w.heap.size w w' := by
  have hD2 := digsB_size s
  by_cases h0 : 0 < s.size
  · have i0 : (0 : Int) < (s.size : Int) := by omega
    by_cases h45 : s[0] = 45
    · skip
      have ht : ((s[0].toNat : Int) == 45) = true := by rw [h45]; rfl
      have i1 : (1 : Int) ≤ (s.size : Int) := by omega
      have hd : digsB s = s.extract 1 s.size := by unfold digsB; rw [dif_pos h0, if_pos h45]
      have HDX := Lib.hid hd
      clear h45 hd hD2
      go_enter Try.func54, Try.ntmps54
      go_upto_region 4 with (fail)
      have hD := HDX.out
      have hD2 := digsB_size s
      rw [hD] at hD2
      generalize s.extract 1 s.size = D at hD hD2 ⊢
      by_cases h1 : D.size < 1
      · have hr : readG s = (0, false) := by unfold readG; rw [hD, if_neg (by omega)]
        have HR := Lib.hid hr
        clear hD hr
        go_wp2
        go_ret2
        exact ⟨by rw [HR.out]; rfl, Below.refl _ _⟩
      by_cases h18 : 18 < D.size
      · have hr : readG s = (0, false) := by unfold readG; rw [hD, if_neg (by omega)]
        have HR := Lib.hid hr
        clear hD hr
        go_wp2
        go_ret2
        exact ⟨by rw [HR.out]; rfl, Below.refl _ _⟩
      have hr : readG s = (if valG D 0 0 < 0 then (0, false) else (if decIB (sgnB s) = s then (sgnB s, true) else (0, false))) := by unfold readG; rw [hD, if_pos (by omega)]
      have hsg : sgnB s = if D.size < s.size then - valG D 0 0 else valG D 0 0 := by unfold sgnB; rw [hD]
      have HR := Lib.hid hr
      have HSG := Lib.hid hsg
      clear hD hr hsg
      go_wp2
      go_loopw [5, 6, 28] (fun a _ i wr => ∃ (k : Nat) (q : Int), k ≤ D.size ∧ i = .int .i64 k ∧ a = .int .i64 q ∧ Pow10 q k ∧ Hid (valG D 0 0 = valG D q k) ∧ wr = w) (fun _ _ i _ => D.size - (intOf i).toNat)
      case atStart => exact ⟨0, 0, Nat.zero_le _, rfl, rfl, ⟨by decide, by decide⟩, rfl, rfl⟩
      case round =>
        obtain ⟨k, q, hk, rfl, rfl, hq, hval, rfl⟩ := hrel
        have HQ := Lib.hid hq
        clear hq
        by_cases hlt : k < D.size
        · have i1 : (k : Int) < (D.size : Int) := by omega
          have hu : D[k].toNat < 256 := UInt8.toNat_lt _
          have hq3 := (HQ.out.le (by omega)).1
          have hq4 := (HQ.out.le (by omega)).2
          by_cases e : 48 ≤ D[k].toNat ∧ D[k].toNat ≤ 57
          · have e1 : (48 : Int) ≤ (D[k].toNat : Int) := by omega
            have e2 : (D[k].toNat : Int) ≤ 57 := by omega
            have HE := Lib.hid e
            clear e
            go_wp2
            go_roundw
            case rel => exact ⟨k + 1, _, by omega, by go_num, by rw [Int.mul_comm], HQ.out.next HE.out.1 HE.out.2, by unfold Hid at *; rw [hval, valG_yes hlt HE], trivial⟩
            case measure => simp [intOf]; omega
          · have HV := Lib.hid (valG_no (a := q) hlt e)
            by_cases e1 : (D[k].toNat : Int) < 48
            · clear e
              go_wp2
              go_ret2
              exact ⟨by rw [HR.out, hval.out, HV.out]; rfl, Below.refl _ _⟩
            · have e2 : (57 : Int) < (D[k].toNat : Int) := by omega
              clear e
              go_wp2
              go_ret2
              exact ⟨by rw [HR.out, hval.out, HV.out]; rfl, Below.refl _ _⟩
        · obtain rfl : k = D.size := by omega
          have hvq : valG D 0 0 = q := by rw [hval.out, valG_end (by omega)]
          have hq18 : 0 ≤ q ∧ q < 1000000000000000000 := by
            refine ⟨HQ.out.1, Int.lt_of_lt_of_le HQ.out.2 ?_⟩
            have : (10 : Int) ^ D.size ≤ 10 ^ 18 := by
              have := Nat.pow_le_pow_right (by decide : 0 < 10) (show D.size ≤ 18 by omega)
              exact_mod_cast this
            omega
          have hq0 := hq18.1
          have hq1 := hq18.2
          have HVQ := Lib.hid hvq
          clear hvq hq18 hval
          by_cases hneg : D.size < s.size
          · have hsn : sgnB s = - q := by rw [HSG.out, if_pos hneg, HVQ.out]
            have HSN := Lib.hid hsn
            have ineg : (D.size : Int) < (s.size : Int) := by omega
            clear hsn
            by_cases he : decIB (-q) = s
            · have ht := beq_yes he
              have hrr : readG s = (-q, true) := by rw [HR.out, HVQ.out, if_neg (by omega), HSN.out, if_pos he]
              have HRR := Lib.hid hrr
              clear hrr he
              go_wp2_with (go_at_call 39; refine (decimal_any (-q) _ (by omega) (by omega)).mono ?_; rintro e w2 ⟨rfl, b2⟩)
              go_ret2
              exact ⟨by rw [HRR.out]; rfl, b2⟩
            · have ht := beq_no he
              have hrr : readG s = (0, false) := by rw [HR.out, HVQ.out, if_neg (by omega), HSN.out, if_neg he]
              have HRR := Lib.hid hrr
              clear hrr he
              go_wp2_with (go_at_call 39; refine (decimal_any (-q) _ (by omega) (by omega)).mono ?_; rintro e w2 ⟨rfl, b2⟩)
              go_ret2
              exact ⟨by rw [HRR.out]; rfl, b2⟩
          · have hsn : sgnB s = q := by rw [HSG.out, if_neg hneg, HVQ.out]
            have HSN := Lib.hid hsn
            have ineg : (s.size : Int) ≤ (D.size : Int) := by omega
            clear hsn
            by_cases he : decIB q = s
            · have ht := beq_yes he
              have hrr : readG s = (q, true) := by rw [HR.out, HVQ.out, if_neg (by omega), HSN.out, if_pos he]
              have HRR := Lib.hid hrr
              clear hrr he
              go_wp2_with (go_at_call 39; refine (decimal_any q _ (by omega) (by omega)).mono ?_; rintro e w2 ⟨rfl, b2⟩)
              go_ret2
              exact ⟨by rw [HRR.out]; rfl, b2⟩
            · have ht := beq_no he
              have hrr : readG s = (0, false) := by rw [HR.out, HVQ.out, if_neg (by omega), HSN.out, if_neg he]
              have HRR := Lib.hid hrr
              clear hrr he
              go_wp2_with (go_at_call 39; refine (decimal_any q _ (by omega) (by omega)).mono ?_; rintro e w2 ⟨rfl, b2⟩)
              go_ret2
              exact ⟨by rw [HRR.out]; rfl, b2⟩
    · skip
      have ht : ((s[0].toNat : Int) == 45) = false := by
        simp only [beq_eq_false_iff_ne, ne_eq]
        intro e
        apply h45
        apply UInt8.toNat_inj.1
        have : (45 : UInt8).toNat = 45 := rfl
        omega
      have hd : digsB s = s := by unfold digsB; rw [dif_pos h0, if_neg h45]
      have HDX := Lib.hid hd
      clear h45 hd hD2
      go_enter Try.func54, Try.ntmps54
      go_upto_region 4 with (fail)
      have hD := HDX.out
      have h1 : ¬ s.size < 1 := by omega
      by_cases h18 : 18 < s.size
      · have hr : readG s = (0, false) := by unfold readG; rw [hD, if_neg (by omega)]
        have HR := Lib.hid hr
        clear hD hr
        go_wp2
        go_ret2
        exact ⟨by rw [HR.out]; rfl, Below.refl _ _⟩
      have hr : readG s = (if valG s 0 0 < 0 then (0, false) else (if decIB (sgnB s) = s then (sgnB s, true) else (0, false))) := by unfold readG; rw [hD, if_pos (by omega)]
      have hsg : sgnB s = if s.size < s.size then - valG s 0 0 else valG s 0 0 := by unfold sgnB; rw [hD]
      have HR := Lib.hid hr
      have HSG := Lib.hid hsg
      clear hD hr hsg
      go_wp2
      go_loopw [5, 6, 28] (fun a _ i wr => ∃ (k : Nat) (q : Int), k ≤ s.size ∧ i = .int .i64 k ∧ a = .int .i64 q ∧ Pow10 q k ∧ Hid (valG s 0 0 = valG s q k) ∧ wr = w) (fun _ _ i _ => s.size - (intOf i).toNat)
      case atStart => exact ⟨0, 0, Nat.zero_le _, rfl, rfl, ⟨by decide, by decide⟩, rfl, rfl⟩
      case round =>
        obtain ⟨k, q, hk, rfl, rfl, hq, hval, rfl⟩ := hrel
        have HQ := Lib.hid hq
        clear hq
        by_cases hlt : k < s.size
        · have i1 : (k : Int) < (s.size : Int) := by omega
          have hu : s[k].toNat < 256 := UInt8.toNat_lt _
          have hq3 := (HQ.out.le (by omega)).1
          have hq4 := (HQ.out.le (by omega)).2
          by_cases e : 48 ≤ s[k].toNat ∧ s[k].toNat ≤ 57
          · have e1 : (48 : Int) ≤ (s[k].toNat : Int) := by omega
            have e2 : (s[k].toNat : Int) ≤ 57 := by omega
            have HE := Lib.hid e
            clear e
            go_wp2
            go_roundw
            case rel => exact ⟨k + 1, _, by omega, by go_num, by rw [Int.mul_comm], HQ.out.next HE.out.1 HE.out.2, by unfold Hid at *; rw [hval, valG_yes hlt HE], trivial⟩
            case measure => simp [intOf]; omega
          · have HV := Lib.hid (valG_no (a := q) hlt e)
            by_cases e1 : (s[k].toNat : Int) < 48
            · clear e
              go_wp2
              go_ret2
              exact ⟨by rw [HR.out, hval.out, HV.out]; rfl, Below.refl _ _⟩
            · have e2 : (57 : Int) < (s[k].toNat : Int) := by omega
              clear e
              go_wp2
              go_ret2
              exact ⟨by rw [HR.out, hval.out, HV.out]; rfl, Below.refl _ _⟩
        · obtain rfl : k = s.size := by omega
          have hvq : valG s 0 0 = q := by rw [hval.out, valG_end (by omega)]
          have hq18 : 0 ≤ q ∧ q < 1000000000000000000 := by
            refine ⟨HQ.out.1, Int.lt_of_lt_of_le HQ.out.2 ?_⟩
            have : (10 : Int) ^ s.size ≤ 10 ^ 18 := by
              have := Nat.pow_le_pow_right (by decide : 0 < 10) (show s.size ≤ 18 by omega)
              exact_mod_cast this
            omega
          have hq0 := hq18.1
          have hq1 := hq18.2
          have HVQ := Lib.hid hvq
          clear hvq hq18 hval
          have hsn : sgnB s = q := by rw [HSG.out, if_neg (Nat.lt_irrefl _), HVQ.out]
          have HSN := Lib.hid hsn
          clear hsn
          by_cases he : decIB q = s
          · have ht := beq_yes he
            have hrr : readG s = (q, true) := by rw [HR.out, HVQ.out, if_neg (by omega), HSN.out, if_pos he]
            have HRR := Lib.hid hrr
            clear hrr he
            go_wp2_with (go_at_call 39; refine (decimal_any q _ (by omega) (by omega)).mono ?_; rintro e w2 ⟨rfl, b2⟩)
            go_ret2
            exact ⟨by rw [HRR.out]; rfl, b2⟩
          · have ht := beq_no he
            have hrr : readG s = (0, false) := by rw [HR.out, HVQ.out, if_neg (by omega), HSN.out, if_neg he]
            have HRR := Lib.hid hrr
            clear hrr he
            go_wp2_with (go_at_call 39; refine (decimal_any q _ (by omega) (by omega)).mono ?_; rintro e w2 ⟨rfl, b2⟩)
            go_ret2
            exact ⟨by rw [HRR.out]; rfl, b2⟩
  · have hd : digsB s = s := by unfold digsB; rw [dif_neg h0]
    have hz : s.size ≤ 0 := by omega
    have hr : readG s = (0, false) := by unfold readG; rw [hd, if_neg (by omega)]
    have HR := Lib.hid hr
    clear hd h0 hD2 hr
    go_enter Try.func54, Try.ntmps54
    go_wp2
    go_ret2
    exact ⟨by rw [HR.out]; rfl, Below.refl _ _⟩
theorem readG_bd (s : ByteArray) : -1000000000000000000 < (readG s).1 ∧ (readG s).1 < 1000000000000000000 := by
  unfold readG
  split
  · rename_i h
    split
    · simp
    · split
      · have hv : valG (digsB s) 0 0 = -1 ∨ Pow10 (valG (digsB s) 0 0) (digsB s).size := valG_range _ 0 0 rfl ⟨by decide, by decide⟩ (Nat.zero_le _)
        have hb : -1 ≤ valG (digsB s) 0 0 ∧ valG (digsB s) 0 0 < 1000000000000000000 := by
          rcases hv with hv | hv
          · omega
          · have : (10 : Int) ^ (digsB s).size ≤ 10 ^ 18 := by
              have := Nat.pow_le_pow_right (by decide : 0 < 10) h.2
              exact_mod_cast this
            have h1 := hv.1
            have h2 := hv.2
            omega
        unfold sgnB
        split <;> simp <;> omega
      · simp
  · simp
end Go.Proofs.Ytihjadffdjjogaa
namespace Go.Proofs.Ytihjadffdjjogaa
open Go.RowKit Go.Sort

theorem dec_sp (n : Nat) : (32 : UInt8) ∉ (decB n).data.toList := by
  intro h
  have h2 := dec_all n 32 (by simpa [decB] using h)
  have : (32 : UInt8).toNat = 32 := rfl
  omega
def IsRec (st sm : Int) (line : ByteArray) (r : Int × Int × Int) : Prop := recOk st sm r.1 r.2.1 r.2.2 = true ∧ recB r.1 r.2.1.toNat r.2.2.toNat = line
def upB : ByteArray := ⟨#[117, 112]⟩
def gotB : ByteArray := ⟨#[103, 111, 116]⟩
def outB : ByteArray := ⟨#[111, 117, 116]⟩
theorem recB_one (s v : Nat) : recB 1 s v = upB ++ (mkB [32] ++ (decB s ++ (mkB [32] ++ decB v))) := by
  unfold recB; rw [if_pos rfl]
  apply bext; simp [upB, mkB]
theorem recB_two (s v : Nat) : recB 2 s v = gotB ++ (mkB [32] ++ (decB s ++ (mkB [32] ++ decB v))) := by
  unfold recB; rw [if_neg (by decide), if_pos rfl]
  apply bext; simp [gotB, mkB]
theorem recB_three (s v : Nat) : recB 3 s v = outB ++ (mkB [32] ++ decB s) := by
  unfold recB; rw [if_neg (by decide), if_neg (by decide)]
  apply bext; simp [outB, mkB]
theorem cuts_rec1 (s v : Nat) : cuts (recB 1 s v) 32 = [upB, decB s, decB v] := by
  rw [recB_one, cuts_app (by decide), cuts_app (dec_sp _), cuts_one (dec_sp _)]
theorem cuts_rec2 (s v : Nat) : cuts (recB 2 s v) 32 = [gotB, decB s, decB v] := by
  rw [recB_two, cuts_app (by decide), cuts_app (dec_sp _), cuts_one (dec_sp _)]
theorem cuts_rec3 (s v : Nat) : cuts (recB 3 s v) 32 = [outB, decB s] := by
  rw [recB_three, cuts_app (by decide), cuts_one (dec_sp _)]
/-- what words say of a right record -/
theorem isRec_words {st sm : Int} {line : ByteArray} {r : Int × Int × Int} (h : IsRec st sm line r) (h2 : sm ≤ 8) (h4 : st ≤ 6) :
    (r.1 = 1 ∧ ∃ a b : Nat, r.2.1 = (a : Int) ∧ r.2.2 = (b : Int) ∧ a < 1000 ∧ b < 1000 ∧ cuts line 32 = [upB, decB a, decB b]) ∨
    (r.1 = 2 ∧ ∃ a b : Nat, r.2.1 = (a : Int) ∧ r.2.2 = (b : Int) ∧ a < 1000 ∧ b < 1000 ∧ cuts line 32 = [gotB, decB a, decB b]) ∨
    (r.1 = 3 ∧ ∃ a : Nat, r.2.1 = (a : Int) ∧ r.2.2 = 0 ∧ a < 1000 ∧ cuts line 32 = [outB, decB a]) := by
  obtain ⟨h1, e⟩ := h
  obtain ⟨hk, a, b, ha, hb, ha1, hb1⟩ := recOk_nat h1 h2 h4
  rw [ha, hb] at e
  simp only [Int.toNat_natCast] at e
  rcases hk with hk | hk | hk
  · rw [hk] at e
    exact .inl ⟨hk, a, b, ha, hb, ha1, hb1, by rw [← e, cuts_rec1]⟩
  · rw [hk] at e
    exact .inr (.inl ⟨hk, a, b, ha, hb, ha1, hb1, by rw [← e, cuts_rec2]⟩)
  · rw [hk] at e
    refine .inr (.inr ⟨hk, a, ha, ?_, ha1, by rw [← e, cuts_rec3]⟩)
    unfold recOk at h1
    rw [hk] at h1
    simp at h1
    exact h1.2
theorem decB_inj {a b : Nat} (h : decB a = decB b) : a = b := by
  have h3 : valG (decB a) 0 0 = valG (decB b) 0 0 := by rw [h]
  rw [valG_decB, valG_decB] at h3
  omega
theorem isRec_one {st sm : Int} {line : ByteArray} {r q : Int × Int × Int} (h : IsRec st sm line r) (h' : IsRec st sm line q) (h2 : sm ≤ 8) (h4 : st ≤ 6) : r = q := by
  obtain ⟨r0, r1, r2⟩ := r
  obtain ⟨q0, q1, q2⟩ := q
  rcases isRec_words h h2 h4 with ⟨rfl, a, b, ha, hb, _, _, e⟩ | ⟨rfl, a, b, ha, hb, _, _, e⟩ | ⟨rfl, a, ha, hb, _, e⟩ <;>
    rcases isRec_words h' h2 h4 with ⟨rfl, c, d, hc, hd, _, _, e2⟩ | ⟨rfl, c, d, hc, hd, _, _, e2⟩ | ⟨rfl, c, hc, hd, _, e2⟩ <;>
    (rw [e] at e2; simp at e2)
  · simp only at ha hb hc hd
    rw [ha, hb, hc, hd, decB_inj e2.1, decB_inj e2.2]
  · exact absurd e2.1 (by decide)
  · exact absurd e2.1 (by decide)
  · simp only at ha hb hc hd
    rw [ha, hb, hc, hd, decB_inj e2.1, decB_inj e2.2]
  · simp only at ha hb hc hd
    rw [ha, hb, hc, hd, decB_inj e2]
/-- the words' reading by the reference: kind, numbers -/
def kindW (x : ByteArray) : Int := if x = upB then 1 else if x = gotB then 2 else if x = outB then 3 else 0
theorem isRec_of {st sm : Int} {line x : ByteArray} {k : Int} {n : List Int} {y : List ByteArray} (hc : cuts line 32 = x :: y) (hk : kindW x = k)
    (hn : (n.length = 2 ∧ (k = 1 ∨ k = 2) ∧ y.length = 2 ∧ (∀ i (h : i < n.length) (h' : i < y.length), 0 ≤ n[i] → y[i] = decB n[i].toNat)) ∨ (n.length = 1 ∧ k = 3 ∧ y.length = 1 ∧ (∀ i (h : i < n.length) (h' : i < y.length), 0 ≤ n[i] → y[i] = decB n[i].toNat)))
    (hr : recOk st sm k (n.getD 0 0) (n.getD 1 0) = true) (h2 : sm ≤ 8) (h4 : st ≤ 6) : IsRec st sm line (k, n.getD 0 0, n.getD 1 0) := by
  refine ⟨hr, ?_⟩
  obtain ⟨hk3, a, b, ha, hb, _, _⟩ := recOk_nat hr h2 h4
  have hx : (k = 1 → x = upB) ∧ (k = 2 → x = gotB) ∧ (k = 3 → x = outB) := by
    unfold kindW at hk
    refine ⟨fun e => ?_, fun e => ?_, fun e => ?_⟩ <;> subst e <;> revert hk <;> (repeat' split) <;> simp_all
  rcases hn with ⟨hl, hkk, hyl, hd⟩ | ⟨hl, hkk, hyl, hd⟩
  · match n, hl, y, hyl with
    | [n0, n1], _, [y0, y1], _ =>
      simp at ha hb ⊢
      have e0 := hd 0 (by simp) (by simp) (by simp; omega)
      have e1 := hd 1 (by simp) (by simp) (by simp; omega)
      simp at e0 e1
      rw [e0, e1] at hc
      have h5 := cuts_back3 hc
      rcases hkk with rfl | rfl
      · rw [recB_one, h5, hx.1 rfl]
      · rw [recB_two, h5, hx.2.1 rfl]
  · match n, hl, y, hyl with
    | [n0], _, [y0], _ =>
      simp at ha ⊢
      have e0 := hd 0 (by simp) (by simp) (by simp; omega)
      simp at e0
      rw [e0] at hc
      have h5 := cuts_back2 hc
      subst hkk
      rw [recB_three, h5, hx.2.2 rfl]

/-- numbers as the program reads them -/
def readsG : List ByteArray → List Int → List Int × Bool
  | [], acc => (acc, true)
  | x :: r, acc => if (readG x).2 = true then readsG r (acc ++ [(readG x).1]) else ([], false)
theorem readsG_step {l : List ByteArray} {acc : List Int} {k : Nat} (h : k < l.length) : readsG (l.drop k) acc = if (readG l[k]).2 = true then readsG (l.drop (k + 1)) (acc ++ [(readG l[k]).1]) else ([], false) := by
  rw [List.drop_eq_getElem_cons h]; rfl
theorem readsG_spec : ∀ (l : List ByteArray) (acc : List Int), (readsG l acc).2 = true → (readsG l acc).1 = acc ++ l.map (fun x => (readG x).1) ∧ ∀ x ∈ l, x = decIB (readG x).1
  | [], acc, _ => by simp [readsG]
  | x :: r, acc, h => by
    unfold readsG at h ⊢
    by_cases hx : (readG x).2 = true
    · rw [if_pos hx] at h ⊢
      obtain ⟨h1, h2⟩ := readsG_spec r _ h
      refine ⟨by rw [h1]; simp, fun y hy => ?_⟩
      simp at hy
      rcases hy with rfl | hy
      · exact readG_back hx
      · exact h2 y hy
    · rw [if_neg hx] at h; simp at h
theorem numsG_spec : ∀ (l : List ByteArray) (acc : List Int), (numsG l acc).2 = true → (numsG l acc).1 = acc ++ l.map numN ∧ ∀ x ∈ l, 0 ≤ numN x
  | [], acc, _ => by simp [numsG]
  | x :: r, acc, h => by
    unfold numsG at h ⊢
    by_cases hx : numN x < 0
    · rw [if_pos hx] at h; simp at h
    · rw [if_neg hx] at h ⊢
      obtain ⟨h1, h2⟩ := numsG_spec r _ h
      refine ⟨by rw [h1]; simp, fun y hy => ?_⟩
      simp at hy
      rcases hy with rfl | hy
      · omega
      · exact h2 y hy
def recPick (x : ByteArray) (n : List Int) (ok : Bool) : Int × Int × Int :=
  if ok = true then (if x = upB ∧ n.length = 2 then (1, n.getD 0 0, n.getD 1 0) else if x = gotB ∧ n.length = 2 then (2, n.getD 0 0, n.getD 1 0) else if x = outB ∧ n.length = 1 then (3, n.getD 0 0, 0) else (0, 0, 0)) else (0, 0, 0)
/-- the record that the program makes of a line -/
def readRecR (line : ByteArray) : Int × Int × Int :=
  recPick ((cuts line 32).getD 0 ⟨#[]⟩) (readsG ((cuts line 32).drop 1) []).1 (readsG ((cuts line 32).drop 1) []).2
theorem readRecR_of {st sm : Int} {line : ByteArray} {r : Int × Int × Int} (h : IsRec st sm line r) (h2 : sm ≤ 8) (h4 : st ≤ 6) : readRecR line = r := by
  obtain ⟨r0, r1, r2⟩ := r
  rcases isRec_words h h2 h4 with ⟨rfl, a, b, ha, hb, ha1, hb1, e⟩ | ⟨rfl, a, b, ha, hb, ha1, hb1, e⟩ | ⟨rfl, a, ha, hb, ha1, e⟩ <;> simp only at ha hb <;> subst ha hb <;> unfold readRecR <;> rw [e]
  · simp [readsG, readG_decB (show a < 1000000000000000000 by omega), readG_decB (show b < 1000000000000000000 by omega), recPick]
  · have : ¬ gotB = upB := by decide
    simp [readsG, readG_decB (show a < 1000000000000000000 by omega), readG_decB (show b < 1000000000000000000 by omega), recPick, this]
  · have h5 : ¬ outB = upB := by decide
    have h6 : ¬ outB = gotB := by decide
    simp [readsG, readG_decB (show a < 1000000000000000000 by omega), recPick, h5, h6]
theorem cuts_cons (s : ByteArray) (c : UInt8) : cuts s c = (cuts s c).getD 0 ⟨#[]⟩ :: (cuts s c).drop 1 := by
  have := cuts_len s c
  cases h : cuts s c with
  | nil => rw [h] at this; simp at this
  | cons x r => rfl
theorem readRecR_back {st sm : Int} {line : ByteArray} (h2 : sm ≤ 8) (h4 : st ≤ 6) (h : recOk st sm (readRecR line).1 (readRecR line).2.1 (readRecR line).2.2 = true) : IsRec st sm line (readRecR line) := by
  have hz : recOk st sm 0 0 0 = false := by unfold recOk; simp
  have hc := cuts_cons line 32
  unfold readRecR at h ⊢
  generalize (cuts line 32).getD 0 ⟨#[]⟩ = x at hc h ⊢
  generalize hy : (cuts line 32).drop 1 = y at hc h ⊢
  generalize hn : readsG y [] = R at h ⊢
  obtain ⟨n, ok⟩ := R
  unfold recPick at h ⊢
  by_cases hok : ok = true
  · rw [if_pos hok] at h ⊢
    subst hok
    obtain ⟨h5, h6⟩ := readsG_spec y [] (by rw [hn])
    rw [hn] at h5
    simp at h5
    have hyl : y.length = n.length := by rw [h5]; simp
    have hdec : ∀ i (h : i < n.length) (h' : i < y.length), 0 ≤ n[i] → y[i] = decB n[i].toNat := by
      intro i hi hi' h0
      have h7 := h6 _ (List.getElem_mem hi')
      have h8 : n[i] = (readG y[i]).1 := by simp [h5]
      rw [h8] at h0 ⊢
      rw [← decIB_pos h0]; exact h7
    by_cases c1 : x = upB ∧ n.length = 2
    · rw [if_pos c1] at h ⊢
      exact isRec_of hc (k := 1) (by unfold kindW; rw [if_pos c1.1]) (.inl ⟨c1.2, .inl rfl, by omega, hdec⟩) h h2 h4
    · rw [if_neg c1] at h ⊢
      by_cases c2 : x = gotB ∧ n.length = 2
      · rw [if_pos c2] at h ⊢
        exact isRec_of hc (k := 2) (by unfold kindW; rw [if_neg (by rw [c2.1]; decide), if_pos c2.1]) (.inl ⟨c2.2, .inr rfl, by omega, hdec⟩) h h2 h4
      · rw [if_neg c2] at h ⊢
        by_cases c3 : x = outB ∧ n.length = 1
        · rw [if_pos c3] at h ⊢
          have e1 : n.getD 1 0 = 0 := by simp [c3.2]
          have := isRec_of hc (k := 3) (n := n) (st := st) (sm := sm) (by unfold kindW; rw [if_neg (by rw [c3.1]; decide), if_neg (by rw [c3.1]; decide), if_pos c3.1]) (.inr ⟨c3.2, rfl, by omega, hdec⟩) (by rw [e1]; exact h) h2 h4
          rw [e1] at this
          exact this
        · rw [if_neg c3] at h
          rw [hz] at h; simp at h
  · rw [if_neg hok] at h
    rw [hz] at h; simp at h
/-- the reference's reading: kind, numbers, and whether it is a record -/
def parseOk (st sm : Int) (k : Int) (n : List Int) (ok : Bool) : Bool :=
  ok && (decide (1 ≤ n.length) && (decide (n.length ≤ 2) && (decide (n.length = 1) == decide (k = 3) && recOk st sm k (n.getD 0 0) (n.getD 1 0))))
theorem parse_back {st sm : Int} {line : ByteArray} (h2 : sm ≤ 8) (h4 : st ≤ 6)
    (h : parseOk st sm (kindW ((cuts line 32).getD 0 ⟨#[]⟩)) (numsG ((cuts line 32).drop 1) []).1 (numsG ((cuts line 32).drop 1) []).2 = true) :
    IsRec st sm line (kindW ((cuts line 32).getD 0 ⟨#[]⟩), (numsG ((cuts line 32).drop 1) []).1.getD 0 0, (numsG ((cuts line 32).drop 1) []).1.getD 1 0) := by
  have hc := cuts_cons line 32
  generalize (cuts line 32).getD 0 ⟨#[]⟩ = x at hc h ⊢
  generalize hy : (cuts line 32).drop 1 = y at hc h ⊢
  generalize hn : numsG y [] = R at h ⊢
  obtain ⟨n, ok⟩ := R
  unfold parseOk at h
  simp only [Bool.and_eq_true, decide_eq_true_eq] at h
  obtain ⟨hok, l1, l2, hkl, hr⟩ := h
  subst hok
  have l1 : 1 ≤ n.length := l1
  have l2 : n.length ≤ 2 := l2
  obtain ⟨h5, h6⟩ := numsG_spec y [] (by rw [hn])
  rw [hn] at h5
  simp at h5
  have hyl : y.length = n.length := by rw [h5]; simp
  have hdec : ∀ i (h : i < n.length) (h' : i < y.length), 0 ≤ n[i] → y[i] = decB n[i].toNat := by
    intro i hi hi' h0
    have h8 : n[i] = numN y[i] := by simp [h5]
    rw [h8]
    exact numN_back (h6 _ (List.getElem_mem hi'))
  have hk := (recOk_nat hr h2 h4).1
  refine isRec_of hc rfl ?_ hr h2 h4
  by_cases e1 : n.length = 1
  · refine .inr ⟨e1, ?_, by omega, hdec⟩
    simp [e1] at hkl
    exact hkl
  · refine .inl ⟨show n.length = 2 by omega, ?_, by omega, hdec⟩
    simp [e1] at hkl
    omega
theorem parse_of {st sm : Int} {line : ByteArray} {r : Int × Int × Int} (h : IsRec st sm line r) (h2 : sm ≤ 8) (h4 : st ≤ 6) :
    parseOk st sm (kindW ((cuts line 32).getD 0 ⟨#[]⟩)) (numsG ((cuts line 32).drop 1) []).1 (numsG ((cuts line 32).drop 1) []).2 = true := by
  obtain ⟨r0, r1, r2⟩ := r
  have hr := h.1
  rcases isRec_words h h2 h4 with ⟨rfl, a, b, ha, hb, ha1, hb1, e⟩ | ⟨rfl, a, b, ha, hb, ha1, hb1, e⟩ | ⟨rfl, a, ha, hb, ha1, e⟩ <;> simp only at ha hb hr <;> subst ha hb <;> rw [e]
  · have n1 := numN_decB (show a < 1000000000 by omega)
    have n2 := numN_decB (show b < 1000000000 by omega)
    have k1 : kindW upB = 1 := by decide
    have c1 : ¬ (a : Int) < 0 := by omega
    have c2 : ¬ (b : Int) < 0 := by omega
    simp [numsG, n1, n2, c1, c2, parseOk, k1, hr]
  · have n1 := numN_decB (show a < 1000000000 by omega)
    have n2 := numN_decB (show b < 1000000000 by omega)
    have k1 : kindW gotB = 2 := by decide
    have c1 : ¬ (a : Int) < 0 := by omega
    have c2 : ¬ (b : Int) < 0 := by omega
    simp [numsG, n1, n2, c1, c2, parseOk, k1, hr]
  · have n1 := numN_decB (show a < 1000000000 by omega)
    have k1 : kindW outB = 3 := by decide
    have c1 : ¬ (a : Int) < 0 := by omega
    simp [numsG, n1, c1, parseOk, k1, hr]
/-- a line's record, if it is one -/
def recOf (st sm : Int) (line : ByteArray) : Option (Int × Int × Int) :=
  if recOk st sm (readRecR line).1 (readRecR line).2.1 (readRecR line).2.2 = true then some (readRecR line) else none
theorem recOf_parse {st sm : Int} {line : ByteArray} (h2 : sm ≤ 8) (h4 : st ≤ 6) :
    recOf st sm line = if parseOk st sm (kindW ((cuts line 32).getD 0 ⟨#[]⟩)) (numsG ((cuts line 32).drop 1) []).1 (numsG ((cuts line 32).drop 1) []).2 = true then some (kindW ((cuts line 32).getD 0 ⟨#[]⟩), (numsG ((cuts line 32).drop 1) []).1.getD 0 0, (numsG ((cuts line 32).drop 1) []).1.getD 1 0) else none := by
  unfold recOf
  split
  · rename_i h
    have h5 := readRecR_back h2 h4 h
    rw [if_pos (parse_of h5 h2 h4), isRec_one h5 (parse_back h2 h4 (parse_of h5 h2 h4)) h2 h4]
  · rename_i h
    rw [if_neg]
    intro hp
    have h5 := parse_back h2 h4 hp
    have h6 := readRecR_of h5 h2 h4
    apply h
    rw [h6]; exact h5.1
end Go.Proofs.Ytihjadffdjjogaa
namespace Go.Proofs.Ytihjadffdjjogaa
open Go.RowKit Go.Sort
theorem readsG_len : ∀ (l : List ByteArray) (acc : List Int), (readsG l acc).1.length ≤ acc.length + l.length
  | [], acc => by simp [readsG]
  | x :: r, acc => by
    unfold readsG
    split
    · have := readsG_len r (acc ++ [(readG x).1]); simp at this ⊢; omega
    · simp
/-- behind a word -/
def behindG (line word : ByteArray) : List Int × Bool := if (cuts line 32).getD 0 ⟨#[]⟩ = word then readsG ((cuts line 32).drop 1) [] else ([], false)
set_option maxHeartbeats 4000000 in
theorem numbersBehind_any (line word : ByteArray) (w : World) (hs : line.size ≤ 1048576) :
    Calls Try.prog 42 #[.string line, .string word] w fun e w' => ∃ v, e = .returned (tupVB v (behindG line word).2) ∧ OwnI w' w.heap.size v (behindG line word).1 ∧ Below w.heap.size w w' := by
  have hcl := cuts_lens line 32
  have hc1 := cuts_len line 32
  have hcs := hcl.2
  have hcl1 := hcl.1
  have hB : behindG line word = if (cuts line 32).getD 0 ⟨#[]⟩ = word then readsG ((cuts line 32).drop 1) [] else ([], false) := rfl
  generalize hL : cuts line 32 = L at hc1 hcs hcl1 hB
  have HL := Lib.hid hL
  have HSZ := Lib.hid hcs
  obtain ⟨m, hm⟩ : ∃ m, L.length = m + 1 := ⟨L.length - 1, by omega⟩
  have h0L : 0 < L.length := by omega
  have hx0 : L.getD 0 ⟨#[]⟩ = L[0]'h0L := by simp [h0L]
  rw [hx0] at hB
  have HM := Lib.hid hm
  clear hL hcl hcs hx0 hm
  by_cases he : L[0]'h0L = word
  · rw [if_pos he] at hB
    have HB := Lib.hid hB
    have ht := beq_yes he
    have htb : ∀ c : Nat, c = 1 ∨ ¬ c = 1 := fun c => Classical.em _
    generalize hx : L[0]'h0L = x at he ht
    have HX := Lib.hid hx
    clear he hB hx
    go_enter Try.func42, Try.ntmps42
    go_wp2_with fail
    refine (splitAt_any line 32 _ hs).mono ?_
    rintro e w1 ⟨v1, rfl, o1, b1⟩
    rw [HL.out] at o1
    rcases o1.forms with ⟨rfl, h0⟩ | ⟨g, c, rfl, hg, hg1, hgc, hgc2⟩
    · rw [h0] at hc1; simp at hc1
    unfold maxLen at hgc2
    have HS := Lib.hid (fun W (h : Below w1.heap.size w1 W) => o1.sl.below h)
    obtain ⟨b, off, hadr, _, gc⟩ := FS_get o1.sl (i := 0) (by omega)
    simp at hadr
    obtain ⟨rfl, rfl⟩ := hadr
    rw [HX.out] at gc
    simp only [Nat.add_zero] at gc
    have hmc := HM.out
    rw [hmc] at hgc HS ⊢
    have hm1 : m + 1 ≤ 1048577 := by omega
    clear o1 hmc hgc2 hcl1
    rcases htb c with hc | hc
    · subst hc
      obtain rfl : m = 0 := by omega
      go_wp2
      refine wp_loop_rounds 1 ?_
      rw [rounds_succ]
      go_wp2
      go_ret2
      have hB2 : behindG line word = ([], true) := by rw [HB.out, List.drop_of_length_le (by have := HM.out; omega)]; rfl
      exact ⟨_, by rw [hB2]; rfl, by rw [hB2]; exact (OwnI.empty _ (Nat.le_refl _)).lower b1.size, b1.alloc b1.size _⟩
    · go_wp2
      go_loopw [7, 9, 10, 11, 23] (fun v _ _ _ i wr => ∃ (k : Nat) (acc : List Int), k ≤ m ∧ i = .int .i64 k ∧ acc.length ≤ k ∧ Hid (readsG (L.drop 1) [] = readsG (L.drop (k + 1)) acc) ∧ OwnI wr w1.heap.size v acc ∧ Below w1.heap.size w1 wr) (fun _ _ _ _ i _ => m - (intOf i).toNat)
      case atStart => exact ⟨0, [], Nat.zero_le _, rfl, Nat.le_refl _, rfl, OwnI.empty _ (Nat.le_refl _), (Below.refl _ _).alloc (Nat.le_refl _) _⟩
      case round =>
        obtain ⟨k, acc, hk, rfl, hacc, hrd, hown, hbr⟩ := hrel
        have hbw := b1.trans (hbr.mono b1.size)
        by_cases hlt : k < m
        · obtain ⟨b, off, hadr, _, gc⟩ := FS_get (HS.out _ hbr) (i := k + 1) (by have := HM.out; omega)
          simp at hadr
          obtain ⟨rfl, rfl⟩ := hadr
          rw [show 0 + (k + 1) = 1 + k by omega] at gc
          have i1 : (k : Int) < (m : Int) := by omega
          have hz := HSZ.out _ (List.getElem_mem (show k + 1 < L.length by have := HM.out; omega))
          have hst := readsG_step (l := L) (acc := acc) (k := k + 1) (by have := HM.out; omega)
          generalize L[k + 1]'(by have := HM.out; omega) = y at gc hz hst
          generalize hry : readG y = R at hst
          obtain ⟨n, ok⟩ := R
          have HRY := Lib.hid hry
          have HST := Lib.hid hst
          have hwz := hbr.size
          clear hst hry
          cases ok
          · go_wp2_with (go_at_call 54; refine (readDecimal_any y _ (by omega)).mono ?_; rintro e w3 ⟨rfl, b3⟩; rw [HRY.out]; unfold tupNB)
            go_ret2
            have hB2 : behindG line word = ([], false) := by rw [HB.out, hrd.out, HST.out]; rfl
            exact ⟨_, by rw [hB2]; rfl, by rw [hB2]; exact OwnI.nil _ _, hbw.trans (b3.mono hbw.size)⟩
          · go_wp2_with (first
              | (go_at_call 54; refine (readDecimal_any y _ (by omega)).mono ?_; rintro e w3 ⟨rfl, b3⟩; rw [HRY.out]; unfold tupNB; have o3 := hown.below b3; have hb3 := hbr.trans (b3.mono hbr.size); have z3 := hb3.size)
              | (at_builtin; refine append_i64 _ _ _ _ rfl rfl rfl o3 rfl (by omega) (by omega) ?_))
            intro v' w4 o4 hb4 z4
            have hb5 : Below w1.heap.size w1 w4 := (hb3.alloc z3 _).trans hb4
            clear hown o3 b3 hb4
            go_wp2
            go_roundw
            case rel => exact ⟨k + 1, acc ++ [n], by omega, by go_num, by simp; omega, by unfold Hid at *; rw [hrd, HST]; rfl, o4, hb5⟩
            case measure => simp [intOf]; omega
        · obtain rfl : k = m := by omega
          go_wp2
          go_ret2
          have hB2 : behindG line word = (acc, true) := by rw [HB.out, hrd.out, List.drop_of_length_le (by have := HM.out; omega)]; rfl
          exact ⟨_, by rw [hB2]; rfl, by rw [hB2]; exact hown.lower b1.size, hbw⟩

  · rw [if_neg he] at hB
    have HB := Lib.hid hB
    have ht := beq_no he
    generalize hx : L[0]'h0L = x at he ht
    have HX := Lib.hid hx
    clear he hB hx
    go_enter Try.func42, Try.ntmps42
    go_wp2_with fail
    refine (splitAt_any line 32 _ hs).mono ?_
    rintro e w1 ⟨v1, rfl, o1, b1⟩
    rw [HL.out] at o1
    obtain ⟨la, lc, rfl, lm1, lm2, _⟩ := id o1.sl
    unfold maxLen at lm2
    obtain ⟨b, off, rfl, _, gc⟩ := FS_get o1.sl (i := 0) (by omega)
    rw [HX.out] at gc
    simp only [Nat.add_zero] at gc
    have i1 : (0 : Int) < (L.length : Int) := by omega
    have i1n : 0 < L.length := by omega
    go_wp2
    go_ret2
    exact ⟨_, by rw [HB.out]; rfl, by rw [HB.out]; exact OwnI.nil _ _, b1⟩
end Go.Proofs.Ytihjadffdjjogaa
