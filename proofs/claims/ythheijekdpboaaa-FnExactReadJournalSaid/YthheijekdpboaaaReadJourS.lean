/-
  ReadJournal, the reference's.
-/
import Derived.Test.YthheijekdpboaaaReadJour
import Derived.Deep.DeepCutAuto
namespace Go.Proofs.Ythheijekdpboaaa
open Go.RowKit Go.Sort
set_option maxHeartbeats 4000000 in
theorem SpecReadJournal_any {v : Value} {xss : List (List Int)} (s t bs sm wk : Int) (text : ByteArray) (w : World) (ha : SlII w v xss) (ht : text.size ≤ 1048576) :
    Calls Try.prog 55 #[.agg #[.int .i64 s, .int .i64 t, v, .int .i64 bs, .int .i64 sm, .int .i64 wk], .string text] w fun e w' => ∃ rv, e = .returned (tupVI rv (jReadR s t xss bs sm wk text).2) ∧ FRecord.Own w' w.heap.size rv (jReadR s t xss bs sm wk text).1 ∧ Below w.heap.size w w' := by
  have HA := Lib.hid (fun W (h : Below w.heap.size w W) => ha.below h)
  obtain ⟨a, ca, us, rfl, _, _, _, _, _⟩ := ha
  have bx : Below w.heap.size w (w.alloc (svObj s t (.slice a xss.length ca) bs sm wk)) := (Below.refl _ _).alloc (Nat.le_refl _) _
  have X := Lib.hid (svBox w s t (.slice a xss.length ca) bs sm wk)
  generalize hv : serviceOk s t xss bs sm wk = V
  have HV := Lib.hid hv
  cases V
  · have hj : jReadR s t xss bs sm wk text = ([], 1) := by unfold jReadR; rw [hv]; rfl
    have HJ := Lib.hid hj
    clear hv hj
    go_enter Try.func55, Try.ntmps55
    go_wp2_with fail
    refine (l09Ok_any w.heap.size 0 s t bs sm wk _ X.out (HA.out _ bx)).mono ?_
    rintro e w1 ⟨rfl, b1⟩
    rw [HV.out]
    have hb1 := bx.trans (b1.mono bx.size)
    go_wp2
    go_ret2
    exact ⟨_, by rw [HJ.out]; rfl, by rw [HJ.out]; exact (Flat.Own.empty _ (Nat.le_refl _)).lower hb1.size, hb1.alloc hb1.size _⟩
  · obtain ⟨h1, h2, h3, h4, _⟩ := service_bds hv
    by_cases hz : 20000 < text.size
    · have hj : jReadR s t xss bs sm wk text = ([], 2) := by unfold jReadR; rw [hv, if_pos rfl, if_neg (by omega)]
      have HJ := Lib.hid hj
      clear hv hj
      go_enter Try.func55, Try.ntmps55
      go_wp2_with fail
      refine (l09Ok_any w.heap.size 0 s t bs sm wk _ X.out (HA.out _ bx)).mono ?_
      rintro e w1 ⟨rfl, b1⟩
      rw [HV.out]
      have hb1 := bx.trans (b1.mono bx.size)
      go_wp2
      go_ret2
      exact ⟨_, by rw [HJ.out]; rfl, by rw [HJ.out]; exact (Flat.Own.empty _ (Nat.le_refl _)).lower hb1.size, hb1.alloc hb1.size _⟩
    have hcl := cuts_lens text 10
    have hc1 := cuts_len text 10
    have hcs := hcl.2
    have hcl1 := hcl.1
    have hj : jReadR s t xss bs sm wk text = readAll s sm ((cuts text 10).take ((cuts text 10).length - 1)) [] := by unfold jReadR; rw [hv, if_pos rfl, if_pos (by omega)]
    generalize hL : cuts text 10 = L at hc1 hcs hcl1 hj
    have HL := Lib.hid hL
    have HSZ := Lib.hid hcs
    obtain ⟨m, hm⟩ : ∃ m, L.length = m + 1 := ⟨L.length - 1, by omega⟩
    rw [hm, Nat.add_sub_cancel] at hj
    have hm1 : m ≤ 20000 := by omega
    have HM := Lib.hid hm
    have hml : (L.take m).length = m := by simp; omega
    have HML := Lib.hid hml
    have HJ := Lib.hid hj
    have hz' : text.size ≤ 20000 := by omega
    clear hv hj hL hcl hcs hm hml hc1 hcl1
    go_enter Try.func55, Try.ntmps55
    go_wp2_with fail
    refine (l09Ok_any w.heap.size 0 s t bs sm wk _ X.out (HA.out _ bx)).mono ?_
    rintro e w1 ⟨rfl, b1⟩
    rw [HV.out]
    have hb1 := bx.trans (b1.mono bx.size)
    have X1 := Lib.hid (X.out.below b1)
    clear b1
    go_wp2_with fail
    refine (l01Words_any text 10 _ (by omega)).mono ?_
    rintro e w2 ⟨v2, rfl, o2, b2⟩
    rw [HL.out] at o2
    have hb2 := hb1.trans (b2.mono hb1.size)
    have X2 := Lib.hid (X1.out.below b2)
    have HS := Lib.hid (fun W (h : Below w2.heap.size w2 W) => o2.sl.below h)
    obtain ⟨la, lc, rfl, lm1, lm2, _⟩ := id o2.sl
    unfold maxLen at lm2
    have hmm := HM.out
    rw [hmm] at lm1 HS ⊢
    clear o2 hmm b2
    go_wp2
    go_loopw [7, 8, 9, 10] (fun v i _ _ wr => ∃ (k : Nat) (acc : List (Int × Int × Int)), k ≤ m ∧ i = .int .i64 k ∧ acc.length ≤ k ∧ Hid (readAll s sm (L.take m) [] = readAll s sm ((L.take m).drop k) acc) ∧ FRecord.Own wr w2.heap.size v acc ∧ Below w2.heap.size w2 wr) (fun _ i _ _ _ => m - (intOf i).toNat)
    case atStart => exact ⟨0, [], Nat.zero_le _, rfl, Nat.le_refl _, rfl, Flat.Own.empty _ (Nat.le_refl _), (Below.refl _ _).alloc (Nat.le_refl _) _⟩
    case round =>
      obtain ⟨k, acc, hk, rfl, hacc, hrd, hown, hbr⟩ := hrel
      by_cases hlt : k < m
      · obtain ⟨b, off, rfl, _, gc⟩ := FS_get (HS.out _ hbr) (i := k) (by have := HM.out; omega)
        have i1 : (k : Int) < (m : Int) := by omega
        have i2 : (k : Int) < (m : Int) + 1 := by omega
        have hzx := HSZ.out _ (List.getElem_mem (show k < L.length by have := HM.out; omega))
        have hx : (L.take m)[k]'(by rw [HML.out]; exact hlt) = L[k]'(by have := HM.out; omega) := by simp
        have hsome : ∀ q, recOf s sm (L[k]'(by have := HM.out; omega)) = some q → readAll s sm (L.take m) [] = readAll s sm ((L.take m).drop (k + 1)) (acc ++ [q]) := fun q hq => by rw [hrd.out, readAll_some (by rw [HML.out]; exact hlt) (by rw [hx]; exact hq)]
        have hnone : recOf s sm (L[k]'(by have := HM.out; omega)) = none → readAll s sm (L.take m) [] = ([], 5) := fun hq => by rw [hrd.out, readAll_none (by rw [HML.out]; exact hlt) (by rw [hx]; exact hq)]
        generalize (L[k]'(by have := HM.out; omega)) = x at gc hzx hsome hnone
        have hro := recOf_parse (st := s) (sm := sm) (line := x) h4 h2
        have HSM := Lib.hid hsome
        have HNN := Lib.hid hnone
        have HRO := Lib.hid hro
        have HXS := Lib.hid (X2.out.below hbr)
        have hrz := hbr.size
        clear hx hsome hnone hro
        go_wp2_with fail
        refine (l09Parse_any x w.heap.size 0 s t bs sm wk _ HXS.out h3 h4 h1 h2 (by omega)).mono ?_
        rintro e w3 ⟨⟨⟨q0, q1, q2⟩, rfl, hrq⟩, b3⟩
        have hro := HRO.out
        generalize parseOk s sm (kindW ((cuts x 32).getD 0 ⟨#[]⟩)) (numsG ((cuts x 32).drop 1) []).1 (numsG ((cuts x 32).drop 1) []).2 = P at hrq hro ⊢
        have HRQ := Lib.hid hrq
        have HR2 := Lib.hid hro
        have hb3 := hbr.trans (b3.mono hrz)
        have z3 := hb3.size
        have o3 := hown.below b3
        clear hrq hro hown hbr b3
        unfold recV
        cases P
        · go_wp2
          go_ret2
          have hjj : jReadR s t xss bs sm wk text = ([], 5) := by rw [HJ.out]; exact HNN.out (by rw [HR2.out]; rfl)
          have hbz := hb2.trans (hb3.mono hb2.size)
          have e0 := Flat.Own.empty (F := FRecord) (w3.alloc (.cells #[.int .i64 q0, .int .i64 q1, .int .i64 q2] 44)) (Nat.le_refl _)
          rw [show (w3.alloc (.cells #[.int .i64 q0, .int .i64 q1, .int .i64 q2] 44)).heap.size = w3.heap.size + 1 by simp] at e0
          refine ⟨_, by rw [hjj]; rfl, by rw [hjj]; exact e0.lower (by have := hbz.size; omega), ?_⟩
          exact (hbz.alloc hbz.size _).alloc (by have := hbz.size; simp; omega) _
        · have ba : Below w3.heap.size w3 (w3.alloc (.cells #[.int .i64 q0, .int .i64 q1, .int .i64 q2] 44)) := (Below.refl _ _).alloc (Nat.le_refl _) _
          have o5 := o3.below ba
          have hb5 := hb3.trans (ba.mono z3)
          have z5 := hb5.size
          have d0 : (w3.alloc (.cells #[.int .i64 q0, .int .i64 q1, .int .i64 q2] 44)).cell? ⟨w3.heap.size, 0, none⟩ = some (.int .i64 q0) := by simp [go_sem]
          have d1 : (w3.alloc (.cells #[.int .i64 q0, .int .i64 q1, .int .i64 q2] 44)).cell? ⟨w3.heap.size, 1, none⟩ = some (.int .i64 q1) := by simp [go_sem]
          have d2 : (w3.alloc (.cells #[.int .i64 q0, .int .i64 q1, .int .i64 q2] 44)).cell? ⟨w3.heap.size, 2, none⟩ = some (.int .i64 q2) := by simp [go_sem]
          clear o3 ba
          go_upto_region 13 with (fail)
          generalize w3.alloc (.cells #[.int .i64 q0, .int .i64 q1, .int .i64 q2] 44) = w5 at hb5 o5 z5 d0 d1 d2 ⊢
          go_wp2_with (at_builtin; refine Flat.append FRecord _ _ _ (ys := [(q0, q1, q2)]) rfl rfl rfl (o5.alloc _) rfl (rd_new _ _ _) (by simp; omega) (by simp; omega) ?_)
          intro v' w6 o6 hg6 hb6
          have hb7 := (hb5.alloc z5 _).trans hb6
          have HSS := Lib.hid (HSM.out (q0, q1, q2) (by rw [HR2.out, HRQ.out trivial]; simp))
          clear o5 hg6 hb6
          go_wp2
          go_roundw
          case rel => exact ⟨k + 1, acc ++ [(q0, q1, q2)], by omega, by go_num, by simp; omega, HSS.out, o6, hb7⟩
          case measure => simp [intOf]; omega
      · obtain rfl : k = m := by omega
        have hjj : jReadR s t xss bs sm wk text = (acc, 0) := by rw [HJ.out, hrd.out, List.drop_of_length_le (by rw [HML.out]; exact Nat.le_refl _)]; rfl
        have HJJ := Lib.hid hjj
        clear hjj
        go_wp2
        go_ret2
        exact ⟨_, by rw [HJJ.out]; rfl, by rw [HJJ.out]; exact hown.lower hb2.size, hb2.trans (hbr.mono hb2.size)⟩
end Go.Proofs.Ythheijekdpboaaa
