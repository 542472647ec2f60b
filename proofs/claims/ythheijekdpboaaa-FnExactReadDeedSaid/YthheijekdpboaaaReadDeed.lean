/-
  ReadDeed: the plain law, and both sides.
-/
import Derived.Test.YthheijekdpboaaaRead
namespace Go.Proofs.Ythheijekdpboaaa
open Go.RowKit Go.Sort

theorem wordOf_plain {k : Int} (h : inR k 1 10 = true) : (32 : UInt8) ∉ (wordOf k).data.toList := by
  rcases kind_cases h with rfl | rfl | rfl | rfl | rfl | rfl | rfl | rfl | rfl | rfl <;> simp [wordOf]
theorem wordOf_inj {k j : Int} (h : inR k 1 10 = true) (h2 : inR j 1 10 = true) (e : wordOf k = wordOf j) : k = j := by
  rcases kind_cases h with rfl | rfl | rfl | rfl | rfl | rfl | rfl | rfl | rfl | rfl <;>
    rcases kind_cases h2 with rfl | rfl | rfl | rfl | rfl | rfl | rfl | rfl | rfl | rfl <;> first | rfl | (exfalso; revert e; decide)
theorem dec_plain (n : Nat) : (32 : UInt8) ∉ (decB n).data.toList := by
  intro h
  have h2 := dec_all n 32 (by simpa [decB] using h)
  have : (32 : UInt8).toNat = 32 := rfl
  omega
theorem deedOk_all {k a : Int} (h : deedOk k a = true) : inR k 1 10 = true ∧ 0 ≤ a ∧ a ≤ 999 ∧ (toldOf k = false → a = 0) := by
  have hp := deedOk_parts h
  refine ⟨hp.1, hp.2.1, hp.2.2, fun ht => ?_⟩
  unfold deedOk at h
  rw [ht] at h
  simp at h
  exact h.2.2
theorem cuts_deed {k a : Int} (h : deedOk k a = true) : cuts (deedTextB k a) 32 = if toldOf k = true then [wordOf k, decB a.natAbs] else [wordOf k] := by
  have hp := (deedOk_all h).1
  unfold deedTextB
  rw [if_pos h]
  by_cases ht : toldOf k = true
  · rw [if_pos ht, if_pos ht, ← app_assoc]
    have e : (⟨#[32]⟩ : ByteArray) = mkB [32] := rfl
    rw [e, cuts_app (wordOf_plain hp), cuts_one (dec_plain _)]
  · rw [if_neg ht, if_neg ht, cuts_one (wordOf_plain hp)]
def IsDeed (s : ByteArray) (k a : Int) : Prop := deedOk k a = true ∧ deedTextB k a = s
theorem isDeed_one {s : ByteArray} {k a j b : Int} (h : IsDeed s k a) (h2 : IsDeed s j b) : k = j ∧ a = b := by
  have e1 := cuts_deed h.1
  have e2 := cuts_deed h2.1
  rw [h.2] at e1
  rw [h2.2] at e2
  rw [e1] at e2
  have p1 := deedOk_all h.1
  have p2 := deedOk_all h2.1
  have hw : wordOf k = wordOf j := by
    split at e2 <;> split at e2 <;> simp at e2
    · exact e2.1
    · exact e2
  have hk := wordOf_inj p1.1 p2.1 hw
  subst hk
  refine ⟨rfl, ?_⟩
  by_cases ht : toldOf k = true
  · rw [if_pos ht, if_pos ht] at e2
    simp at e2
    have h3 : valG (decB a.natAbs) 0 0 = valG (decB b.natAbs) 0 0 := by rw [e2]
    rw [valG_decB, valG_decB] at h3
    omega
  · have ht' : toldOf k = false := by simpa using ht
    rw [p1.2.2.2 ht', p2.2.2.2 ht']
/-- the number that the program tries -/
def tryA (L : List ByteArray) : Int := if L.length = 2 then (readG (L.getD 1 ⟨#[]⟩)).1 else 0
theorem isDeed_try {s : ByteArray} {k a : Int} (h : IsDeed s k a) : a = tryA (cuts s 32) := by
  have p := deedOk_all h.1
  have e := cuts_deed h.1
  rw [h.2] at e
  unfold tryA
  rw [e]
  by_cases ht : toldOf k = true
  · rw [if_pos ht]
    simp
    rw [readG_decB (by omega)]
    simp; omega
  · rw [if_neg ht]
    simp
    exact p.2.2.2 (by simpa using ht)
def deedB (s : ByteArray) (k a : Int) : Bool := deedOk k a && decide (deedTextB k a = s)
theorem deedB_iff {s : ByteArray} {k a : Int} : deedB s k a = true ↔ IsDeed s k a := by unfold deedB IsDeed; simp
/-- what both read: kind, number, code -/
def deedR (s : ByteArray) : Int × Int × Int :=
  match (List.range 11).find? (fun (k : Nat) => deedB s (k : Int) (tryA (cuts s 32))) with
  | some k => ((k : Int), tryA (cuts s 32), 0)
  | none => (0, 0, 5)
theorem deedR_yes {s : ByteArray} {k a : Int} (h : IsDeed s k a) : deedR s = (k, a, 0) := by
  have ha := isDeed_try h
  have hk := inR_iff.1 (deedOk_all h.1).1
  unfold deedR
  rw [← ha]
  cases hf : (List.range 11).find? (fun (k : Nat) => deedB s (k : Int) a) with
  | none =>
    rw [List.find?_eq_none] at hf
    have := hf k.toNat (List.mem_range.2 (by omega))
    have e : ((k.toNat : Nat) : Int) = k := by omega
    rw [e, deedB_iff.2 h] at this
    exact absurd rfl this
  | some i =>
    have := deedB_iff.1 (show deedB s (i : Int) a = true from List.find?_some (p := fun (k : Nat) => deedB s (k : Int) a) hf)
    show ((i : Int), a, (0 : Int)) = _
    rw [(isDeed_one this h).1]
theorem deedR_no {s : ByteArray} (h : ∀ k a, ¬ IsDeed s k a) : deedR s = (0, 0, 5) := by
  unfold deedR
  have hf : (List.range 11).find? (fun (k : Nat) => deedB s (k : Int) (tryA (cuts s 32))) = none := by
    rw [List.find?_eq_none]
    intro x _ hx
    exact h _ _ (deedB_iff.1 hx)
  rw [hf]
def tupD (r : Int × Int × Int) : Value := .tuple #[.agg #[.int .i64 r.1, .int .i64 r.2.1], .int .i64 r.2.2]

theorem deedTextB_size (k a : Int) : (deedTextB k a).size ≤ 16 := by
  unfold deedTextB
  split
  · rename_i h
    have hp := deedOk_parts h
    have hw := wordOf_size k
    split
    · have h3 := decB_size_le (k := 2) (n := a.natAbs) (by omega)
      simp only [ByteArray.size_append]
      show _ + 1 + _ ≤ _
      omega
    · omega
  · decide
set_option maxHeartbeats 4000000 in
theorem ImplReadDeed_any (s : ByteArray) (w : World) (hs : s.size ≤ 1048576) :
    Calls Try.prog 21 #[.string s] w fun e w' => e = .returned (tupD (deedR s)) ∧ Below w.heap.size w w' := by
  have hcl := cuts_lens s 32
  have hc1 := cuts_len s 32
  have hcs := hcl.2
  have hcl1 := hcl.1
  have HT : ∀ k a, IsDeed s k a → a = tryA (cuts s 32) := fun k a h => isDeed_try h
  generalize hL : cuts s 32 = L at hc1 hcs hcl1 HT
  have HL := Lib.hid hL
  have HTR := Lib.hid HT
  have HSZ := Lib.hid hcs
  have bx : Below w.heap.size w (w.alloc (.cells #[.int .i64 0, .int .i64 0] 36)) := (Below.refl _ _).alloc (Nat.le_refl _) _
  clear hL hcl HT hcs
  go_enter Try.func21, Try.ntmps21
  go_wp2_with fail
  refine (splitAt_any s 32 _ hs).mono ?_
  rintro e w1 ⟨v1, rfl, o1, b1⟩
  rw [HL.out] at o1
  have hb1 := bx.trans (b1.mono bx.size)
  have q0 := b1.cell (p := ⟨w.heap.size, 0, none⟩) (by simp)
  have q1 := b1.cell (p := ⟨w.heap.size, 1, none⟩) (by simp)
  have qf0 := b1.frozen (p := ⟨w.heap.size, 0, none⟩) (by simp)
  have qf1 := b1.frozen (p := ⟨w.heap.size, 1, none⟩) (by simp)
  simp [go_sem] at q0 q1 qf0 qf1
  have z1 : w.heap.size < w1.heap.size := by have := b1.size; simp at this; omega
  have Q := Lib.hid (show w.heap.size < w1.heap.size ∧ w1.cell? ⟨w.heap.size, 0, none⟩ = some (.int .i64 0) ∧ w1.cell? ⟨w.heap.size, 1, none⟩ = some (.int .i64 0) ∧ w1.frozen? ⟨w.heap.size, 0, none⟩ = false ∧ w1.frozen? ⟨w.heap.size, 1, none⟩ = false from ⟨z1, q0, q1, qf0, qf1⟩)
  have HS := Lib.hid (fun W (h : Below w1.heap.size w1 W) => o1.sl.below h)
  obtain ⟨la, lc, rfl, lm1, lm2, _⟩ := id o1.sl
  unfold maxLen at lm2
  clear q0 q1 qf0 qf1 b1 bx o1
  go_wp2
  go_loopw [5, 6] (fun i _ wr => ∃ k : Nat, 1 ≤ k ∧ k ≤ 11 ∧ i = .int .i64 k ∧ Hid (∀ j : Int, 1 ≤ j → j < k → ∀ a, ¬ IsDeed s j a) ∧ Below w1.heap.size w1 wr) (fun i _ _ => 11 - (intOf i).toNat)
  case atStart => exact ⟨1, Nat.le_refl _, by omega, rfl, (fun j h1 h2 => absurd h2 (by omega)), Below.refl _ _⟩
  case round =>
    obtain ⟨k, hk1, hk, rfl, hno, hbr⟩ := hrel
    have hbw := hb1.trans (hbr.mono hb1.size)
    by_cases hlt : k ≤ 10
    · have hbd : Below w1.heap.size w1 (wr.alloc (.cells #[.int .i64 k, .int .i64 0] 36)) := hbr.alloc hbr.size _
      have hk1i : (1 : Int) ≤ (k : Int) := by omega
      have hk10i : (k : Int) ≤ 10 := by omega
      by_cases h2 : L.length = 2
      · obtain ⟨bb, off, rfl, _, gc⟩ := FS_get (HS.out _ hbd) (i := 1) (by omega)
        have hz := HSZ.out _ (List.getElem_mem (show 1 < L.length by omega))
        have hta : tryA L = (readG (L[1]'(by omega))).1 := by
          unfold tryA
          rw [if_pos h2]
          congr 2
          simp [h2]
        have hrb := readG_bd (L[1]'(by omega))
        generalize (L[1]'(by omega)) = x at gc hz hta hrb
        generalize hrg : readG x = R at hta hrb
        obtain ⟨A, ok⟩ := R
        simp only at hta hrb
        have HA := Lib.hid hta
        have HRG := Lib.hid hrg
        have hl2 : ((L.length : Int) == 2) = true := by simp; omega
        have i2 : (1 : Int) < (L.length : Int) := by omega
        clear hta hrg h2
        go_wp2_with fail
        refine (readDecimal_any x _ (by omega)).mono ?_
        rintro e w3 ⟨rfl, b3⟩
        rw [HRG.out]
        unfold tupNB
        have e0 := b3.cell (p := ⟨wr.heap.size, 0, none⟩) (by simp)
        have e1 := b3.cell (p := ⟨wr.heap.size, 1, none⟩) (by simp)
        have f1 := b3.frozen (p := ⟨wr.heap.size, 1, none⟩) (by simp)
        simp [go_sem] at e0 e1 f1
        have z3 : wr.heap.size < w3.heap.size := by have := b3.size; simp at this; omega
        have bX : Below w1.heap.size w1 (w3.setCell ⟨wr.heap.size, 1, none⟩ (.int .i64 A)) := (hbd.trans (b3.mono hbd.size)).setCell hbr.size _
        have dX : wr.heap.size < (w3.setCell ⟨wr.heap.size, 1, none⟩ (.int .i64 A)).heap.size ∧ (w3.setCell ⟨wr.heap.size, 1, none⟩ (.int .i64 A)).cell? ⟨wr.heap.size, 0, none⟩ = some (.int .i64 k) ∧ (w3.setCell ⟨wr.heap.size, 1, none⟩ (.int .i64 A)).cell? ⟨wr.heap.size, 1, none⟩ = some (.int .i64 A) := by
          refine ⟨by simpa using z3, ?_, ?_⟩ <;> simp [go_sem, e0, e1]
        clear b3
        have hz1 : w1.heap.size ≤ (w3.setCell ⟨wr.heap.size, 1, none⟩ (.int .i64 A)).heap.size := bX.size
        generalize hvd : deedOk k A = V
        have HVD := Lib.hid hvd
        have hfit := deedTextB_size k A
        generalize htx : deedTextB k A = tx at hfit
        have HTX := Lib.hid htx
        clear hvd htx
        cases V
        · go_wp2_with fail
          refine (ImplValidDeed_any k A _).mono ?_
          rintro e w4 ⟨rfl, b4⟩
          rw [HVD.out]
          have hb4 := bX.trans (b4.mono hz1)
          go_wp2
          go_roundw
          case rel => exact ⟨k + 1, by omega, by omega, by go_num, (fun j h1 h2 a h3 => by
            rcases Int.lt_or_eq_of_le (show j ≤ k by omega) with h4 | h4
            · exact hno.out j h1 h4 a h3
            · subst h4
              have h5 := HTR.out _ _ h3
              rw [HA.out] at h5
              subst h5
              have := h3.1
              rw [HVD.out] at this
              simp at this), hb4⟩
          case measure => simp [intOf]; omega
        · have hX0 := dX.1
          have hX1 := dX.2.1
          have hX2 := dX.2.2
          by_cases he : tx = s
          · have ht := beq_yes he
            have HE := Lib.hid he
            clear he
            go_wp2_with fail
            refine (ImplValidDeed_any k A _).mono ?_
            rintro e w4 ⟨rfl, b4⟩
            rw [HVD.out]
            have c0 := b4.cell (p := ⟨wr.heap.size, 0, none⟩) hX0
            have c1 := b4.cell (p := ⟨wr.heap.size, 1, none⟩) hX0
            rw [hX1] at c0
            rw [hX2] at c1
            have hb4 := bX.trans (b4.mono hz1)
            have hz4 := hb4.size
            have z4 := b4.size
            clear b4
            go_wp2_with fail
            refine (ImplDeedText_any k A _).mono ?_
            rintro e w5 ⟨rfl, b5⟩
            rw [HTX.out]
            have d0 := b5.cell (p := ⟨wr.heap.size, 0, none⟩) (by simp; omega)
            have d1 := b5.cell (p := ⟨wr.heap.size, 1, none⟩) (by simp; omega)
            rw [c0] at d0
            rw [c1] at d1
            have hb5 := hb4.trans (b5.mono hz4)
            obtain ⟨_, q0, q1, qf0, qf1⟩ := Q.out
            have r0 := hb5.cell (p := ⟨w.heap.size, 0, none⟩) z1
            have r1 := hb5.cell (p := ⟨w.heap.size, 1, none⟩) z1
            have rf0 := hb5.frozen (p := ⟨w.heap.size, 0, none⟩) z1
            have rf1 := hb5.frozen (p := ⟨w.heap.size, 1, none⟩) z1
            rw [q0] at r0
            rw [q1] at r1
            rw [qf0] at rf0
            rw [qf1] at rf1
            have HRR := Lib.hid (deedR_yes (s := s) (k := k) (a := A) ⟨HVD.out, by rw [HTX.out]; exact HE.out⟩)
            have hbz := hb1.trans (hb5.mono hb1.size)
            clear q0 q1 qf0 qf1 b5 c0 c1 hX1 hX2 dX
            go_wp2
            refine bodyPost_ret (v := tupD (deedR s)) (by rw [HRR.out]; simp [results, Try.results21, go_sem, tupD, r0, r1]) rfl ⟨rfl, ?_⟩
            exact (hbz.setCell (Nat.le_refl _) _).setCell (Nat.le_refl _) _
          · have ht := beq_no he
            have HE := Lib.hid he
            clear he
            go_wp2_with fail
            refine (ImplValidDeed_any k A _).mono ?_
            rintro e w4 ⟨rfl, b4⟩
            rw [HVD.out]
            have c0 := b4.cell (p := ⟨wr.heap.size, 0, none⟩) hX0
            have c1 := b4.cell (p := ⟨wr.heap.size, 1, none⟩) hX0
            rw [hX1] at c0
            rw [hX2] at c1
            have hb4 := bX.trans (b4.mono hz1)
            have hz4 := hb4.size
            clear b4
            go_wp2_with fail
            refine (ImplDeedText_any k A _).mono ?_
            rintro e w5 ⟨rfl, b5⟩
            rw [HTX.out]
            have hb5 := hb4.trans (b5.mono hz4)
            go_wp2
            go_roundw
            case rel => exact ⟨k + 1, by omega, by omega, by go_num, (fun j h1 h2 a h3 => by
              rcases Int.lt_or_eq_of_le (show j ≤ k by omega) with h4 | h4
              · exact hno.out j h1 h4 a h3
              · subst h4
                have h5 := HTR.out _ _ h3
                rw [HA.out] at h5
                subst h5
                have := h3.2
                rw [HTX.out] at this
                exact HE.out this), hb5⟩
            case measure => simp [intOf]; omega
      · have hta : tryA L = 0 := by unfold tryA; rw [if_neg h2]
        have HA := Lib.hid hta
        have hl2 : ((L.length : Int) == 2) = false := by simp; omega
        have bX := hbd
        have dX : wr.heap.size < (wr.alloc (.cells #[.int .i64 k, .int .i64 0] 36)).heap.size ∧ (wr.alloc (.cells #[.int .i64 k, .int .i64 0] 36)).cell? ⟨wr.heap.size, 0, none⟩ = some (.int .i64 k) ∧ (wr.alloc (.cells #[.int .i64 k, .int .i64 0] 36)).cell? ⟨wr.heap.size, 1, none⟩ = some (.int .i64 0) := by
          refine ⟨by simp, ?_, ?_⟩ <;> simp [go_sem]
        clear hta h2
        have hz1 : w1.heap.size ≤ (wr.alloc (.cells #[.int .i64 k, .int .i64 0] 36)).heap.size := bX.size
        generalize hvd : deedOk k (0 : Int) = V
        have HVD := Lib.hid hvd
        have hfit := deedTextB_size k (0 : Int)
        generalize htx : deedTextB k (0 : Int) = tx at hfit
        have HTX := Lib.hid htx
        clear hvd htx
        cases V
        · go_wp2_with fail
          refine (ImplValidDeed_any k (0 : Int) _).mono ?_
          rintro e w4 ⟨rfl, b4⟩
          rw [HVD.out]
          have hb4 := bX.trans (b4.mono hz1)
          go_wp2
          go_roundw
          case rel => exact ⟨k + 1, by omega, by omega, by go_num, (fun j h1 h2 a h3 => by
            rcases Int.lt_or_eq_of_le (show j ≤ k by omega) with h4 | h4
            · exact hno.out j h1 h4 a h3
            · subst h4
              have h5 := HTR.out _ _ h3
              rw [HA.out] at h5
              subst h5
              have := h3.1
              rw [HVD.out] at this
              simp at this), hb4⟩
          case measure => simp [intOf]; omega
        · have hX0 := dX.1
          have hX1 := dX.2.1
          have hX2 := dX.2.2
          by_cases he : tx = s
          · have ht := beq_yes he
            have HE := Lib.hid he
            clear he
            go_wp2_with fail
            refine (ImplValidDeed_any k (0 : Int) _).mono ?_
            rintro e w4 ⟨rfl, b4⟩
            rw [HVD.out]
            have c0 := b4.cell (p := ⟨wr.heap.size, 0, none⟩) hX0
            have c1 := b4.cell (p := ⟨wr.heap.size, 1, none⟩) hX0
            rw [hX1] at c0
            rw [hX2] at c1
            have hb4 := bX.trans (b4.mono hz1)
            have hz4 := hb4.size
            have z4 := b4.size
            clear b4
            go_wp2_with fail
            refine (ImplDeedText_any k (0 : Int) _).mono ?_
            rintro e w5 ⟨rfl, b5⟩
            rw [HTX.out]
            have d0 := b5.cell (p := ⟨wr.heap.size, 0, none⟩) (by simp; omega)
            have d1 := b5.cell (p := ⟨wr.heap.size, 1, none⟩) (by simp; omega)
            rw [c0] at d0
            rw [c1] at d1
            have hb5 := hb4.trans (b5.mono hz4)
            obtain ⟨_, q0, q1, qf0, qf1⟩ := Q.out
            have r0 := hb5.cell (p := ⟨w.heap.size, 0, none⟩) z1
            have r1 := hb5.cell (p := ⟨w.heap.size, 1, none⟩) z1
            have rf0 := hb5.frozen (p := ⟨w.heap.size, 0, none⟩) z1
            have rf1 := hb5.frozen (p := ⟨w.heap.size, 1, none⟩) z1
            rw [q0] at r0
            rw [q1] at r1
            rw [qf0] at rf0
            rw [qf1] at rf1
            have HRR := Lib.hid (deedR_yes (s := s) (k := k) (a := (0 : Int)) ⟨HVD.out, by rw [HTX.out]; exact HE.out⟩)
            have hbz := hb1.trans (hb5.mono hb1.size)
            clear q0 q1 qf0 qf1 b5 c0 c1 hX1 hX2 dX
            go_wp2
            refine bodyPost_ret (v := tupD (deedR s)) (by rw [HRR.out]; simp [results, Try.results21, go_sem, tupD, r0, r1]) rfl ⟨rfl, ?_⟩
            exact (hbz.setCell (Nat.le_refl _) _).setCell (Nat.le_refl _) _
          · have ht := beq_no he
            have HE := Lib.hid he
            clear he
            go_wp2_with fail
            refine (ImplValidDeed_any k (0 : Int) _).mono ?_
            rintro e w4 ⟨rfl, b4⟩
            rw [HVD.out]
            have c0 := b4.cell (p := ⟨wr.heap.size, 0, none⟩) hX0
            have c1 := b4.cell (p := ⟨wr.heap.size, 1, none⟩) hX0
            rw [hX1] at c0
            rw [hX2] at c1
            have hb4 := bX.trans (b4.mono hz1)
            have hz4 := hb4.size
            clear b4
            go_wp2_with fail
            refine (ImplDeedText_any k (0 : Int) _).mono ?_
            rintro e w5 ⟨rfl, b5⟩
            rw [HTX.out]
            have hb5 := hb4.trans (b5.mono hz4)
            go_wp2
            go_roundw
            case rel => exact ⟨k + 1, by omega, by omega, by go_num, (fun j h1 h2 a h3 => by
              rcases Int.lt_or_eq_of_le (show j ≤ k by omega) with h4 | h4
              · exact hno.out j h1 h4 a h3
              · subst h4
                have h5 := HTR.out _ _ h3
                rw [HA.out] at h5
                subst h5
                have := h3.2
                rw [HTX.out] at this
                exact HE.out this), hb5⟩
            case measure => simp [intOf]; omega
    · obtain rfl : k = 11 := by omega
      have hr : deedR s = (0, 0, 5) := deedR_no (fun k a h => by
        have h1 := inR_iff.1 (deedOk_all h.1).1
        exact hno.out k h1.1 (by omega) a h)
      have HR := Lib.hid hr
      clear hr
      obtain ⟨_, q0, q1, qf0, qf1⟩ := Q.out
      have r0 := hbr.cell (p := ⟨w.heap.size, 0, none⟩) z1
      have r1 := hbr.cell (p := ⟨w.heap.size, 1, none⟩) z1
      have rf0 := hbr.frozen (p := ⟨w.heap.size, 0, none⟩) z1
      have rf1 := hbr.frozen (p := ⟨w.heap.size, 1, none⟩) z1
      rw [q0] at r0
      rw [q1] at r1
      rw [qf0] at rf0
      rw [qf1] at rf1
      clear q0 q1 qf0 qf1
      go_wp2
      refine bodyPost_ret (v := tupD (deedR s)) (by rw [HR.out]; simp [results, Try.results21, go_sem, tupD, r0, r1]) rfl ⟨rfl, ?_⟩
      exact (hbw.setCell (Nat.le_refl _) _).setCell (Nat.le_refl _) _

def kindG (x : ByteArray) : Nat → Int
  | 0 => 0
  | k + 1 => if wordOf ((k : Int) + 1) = x then (k : Int) + 1 else kindG x k
theorem kindG_spec (x : ByteArray) : ∀ k, (kindG x k = 0 ∧ ∀ j : Int, 1 ≤ j → j ≤ k → ¬ wordOf j = x) ∨ (1 ≤ kindG x k ∧ kindG x k ≤ k ∧ wordOf (kindG x k) = x)
  | 0 => .inl ⟨rfl, fun j h1 h2 => absurd h2 (by omega)⟩
  | k + 1 => by
    unfold kindG
    by_cases h : wordOf ((k : Int) + 1) = x
    · rw [if_pos h]; exact .inr ⟨by omega, by omega, h⟩
    · rw [if_neg h]
      rcases kindG_spec x k with ⟨h1, h2⟩ | ⟨h1, h2, h3⟩
      · refine .inl ⟨h1, fun j hj1 hj2 => ?_⟩
        by_cases e : j = (k : Int) + 1
        · rw [e]; exact h
        · exact h2 j hj1 (by omega)
      · exact .inr ⟨h1, by omega, h3⟩
theorem isDeed_words {s : ByteArray} {k a : Int} (h : IsDeed s k a) : (toldOf k = true ∧ cuts s 32 = [wordOf k, decB a.natAbs] ∧ 0 ≤ a ∧ a ≤ 999) ∨ (toldOf k = false ∧ cuts s 32 = [wordOf k] ∧ a = 0) := by
  have p := deedOk_all h.1
  have e := cuts_deed h.1
  rw [h.2] at e
  by_cases ht : toldOf k = true
  · rw [if_pos ht] at e; exact .inl ⟨ht, e, p.2.1, p.2.2.1⟩
  · rw [if_neg ht] at e; exact .inr ⟨by simpa using ht, e, p.2.2.2 (by simpa using ht)⟩
/-- no word of the ten: no deed -/
theorem deedR_kind0 {s : ByteArray} {L : List ByteArray} (hL : cuts s 32 = L) (h1 : 1 ≤ L.length) (h : ∀ j : Int, 1 ≤ j → j ≤ 10 → ¬ wordOf j = L.getD 0 ⟨#[]⟩) : deedR s = (0, 0, 5) := by
  refine deedR_no fun k a hd => ?_
  have hk := inR_iff.1 (deedOk_all hd.1).1
  rcases isDeed_words hd with ⟨_, e, _⟩ | ⟨_, e, _⟩ <;> (rw [hL] at e; subst e; exact h k hk.1 hk.2 rfl)
/-- the kind is told by the word -/
theorem kind_of {s : ByteArray} {L : List ByteArray} {K k a : Int} (hL : cuts s 32 = L) (hK : 1 ≤ K ∧ K ≤ 10) (hw : wordOf K = L.getD 0 ⟨#[]⟩) (h : IsDeed s k a) : k = K := by
  have hk := (deedOk_all h.1).1
  have hK2 : inR K 1 10 = true := inR_iff.2 hK
  rcases isDeed_words h with ⟨_, e, _⟩ | ⟨_, e, _⟩ <;> (rw [hL] at e; subst e; exact wordOf_inj hk hK2 hw.symm)
theorem deedR_len {s : ByteArray} {L : List ByteArray} {K : Int} (hL : cuts s 32 = L) (hK : 1 ≤ K ∧ K ≤ 10) (hw : wordOf K = L.getD 0 ⟨#[]⟩) (h : (toldOf K = true ∧ ¬ L.length = 2) ∨ (toldOf K = false ∧ ¬ L.length = 1)) : deedR s = (0, 0, 5) := by
  refine deedR_no fun k a hd => ?_
  have e := kind_of hL hK hw hd
  subst e
  rcases isDeed_words hd with ⟨t, e, _⟩ | ⟨t, e, _⟩ <;> (rw [hL] at e; subst e; rcases h with ⟨t2, h⟩ | ⟨t2, h⟩)
  · exact h rfl
  · rw [t] at t2; simp at t2
  · rw [t] at t2; simp at t2
  · exact h rfl
theorem deedR_bad {s y : ByteArray} {L : List ByteArray} {K : Int} (hL : cuts s 32 = L) (hK : 1 ≤ K ∧ K ≤ 10) (hw : wordOf K = L.getD 0 ⟨#[]⟩) (ht : toldOf K = true) (hl : L = [L.getD 0 ⟨#[]⟩, y]) (hy : numN y < 0) : deedR s = (0, 0, 5) := by
  refine deedR_no fun k a hd => ?_
  have e := kind_of hL hK hw hd
  subst e
  rcases isDeed_words hd with ⟨t, e, h1, h2⟩ | ⟨t, e, _⟩
  · rw [hL, hl] at e
    simp at e
    rw [e.2, numN_decB (by omega)] at hy
    omega
  · rw [ht] at t; simp at t
theorem deedR_told {s y : ByteArray} {L : List ByteArray} {K : Int} (hL : cuts s 32 = L) (hK : 1 ≤ K ∧ K ≤ 10) (hw : wordOf K = L.getD 0 ⟨#[]⟩) (ht : toldOf K = true) (hl : L = [L.getD 0 ⟨#[]⟩, y]) (hy : 0 ≤ numN y) : deedR s = if deedOk K (numN y) = true then (K, numN y, 0) else (0, 0, 5) := by
  by_cases hd : deedOk K (numN y) = true
  · rw [if_pos hd]
    refine deedR_yes ⟨hd, ?_⟩
    unfold deedTextB
    rw [if_pos hd, if_pos ht]
    have h2 : cuts s 32 = [wordOf K, y] := by rw [hL, hw]; exact hl
    have h3 := cuts_back2 h2
    have h4 := numN_back hy
    have h5 : (numN y).natAbs = (numN y).toNat := by omega
    rw [h5, ← h4, h3, ← app_assoc]; rfl
  · rw [if_neg hd]
    refine deedR_no fun k a hdd => ?_
    have e := kind_of hL hK hw hdd
    subst e
    rcases isDeed_words hdd with ⟨t, e, h1, h2⟩ | ⟨t, e, _⟩
    · rw [hL, hl] at e
      simp at e
      rw [e.2, numN_decB (by omega)] at hd
      have : ((a.natAbs : Nat) : Int) = a := by omega
      rw [this] at hd
      exact hd hdd.1
    · rw [ht] at t; simp at t
theorem deedR_bare {s : ByteArray} {L : List ByteArray} {K : Int} (hL : cuts s 32 = L) (hK : 1 ≤ K ∧ K ≤ 10) (hw : wordOf K = L.getD 0 ⟨#[]⟩) (ht : toldOf K = false) (hl : L = [L.getD 0 ⟨#[]⟩]) : deedR s = (K, 0, 0) ∧ deedOk K 0 = true := by
  have hd : deedOk K 0 = true := by unfold deedOk; rw [inR_iff.2 hK]; simp [inR]
  refine ⟨deedR_yes ⟨hd, ?_⟩, hd⟩
  unfold deedTextB
  rw [if_pos hd, if_neg (by rw [ht]; decide)]
  have h2 : cuts s 32 = [wordOf K] := by rw [hL, hw]; exact hl
  exact (cuts_back1 h2).symm
end Go.Proofs.Ythheijekdpboaaa
