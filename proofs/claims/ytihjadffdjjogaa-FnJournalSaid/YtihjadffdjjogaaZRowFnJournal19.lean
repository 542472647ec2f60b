/-
  ReadJournal, both sides.
-/
import Derived.Test.YtihjadffdjjogaaZRowFnJournal18
set_option linter.unusedVariables false
set_option linter.unusedSimpArgs false
namespace Go.Proofs.Ytihjadffdjjogaa
open Go.RowKit Go.Sort
theorem Flat.Own.kept {α β : Type} {F : Flat α} {G : Flat β} (hne : F.E ≠ G.E) {w w' : World} {b b' : Nat} {u v : Value} {xs : List α} {ys : List β} (h : F.Own w b u xs) (h2 : G.Own w b' v ys) (hg : w.grownBy w' v.ownBlock) : F.Own w' b u xs := by
  refine World.ownsRow.kept h hg ?_
  cases hu : u.ownBlock with
  | none => exact .inl rfl
  | some g =>
    refine .inr (fun hv => ?_)
    rcases h.2 with ⟨rfl, _⟩ | ⟨g1, c1, cur1, rfl, _, k1, _⟩
    · simp [Value.ownBlock] at hu
    · rcases h2.2 with ⟨rfl, _⟩ | ⟨g2, c2, cur2, rfl, _, k2, _⟩
      · simp [Value.ownBlock] at hv
      · simp [Value.ownBlock] at hu hv
        subst hu
        subst hv
        rw [k1] at k2
        simp at k2
        exact hne k2.2
theorem recOf_iff {st sm : Int} {x : ByteArray} {q : Int × Int × Int} (h : readRecR x = q) : recOf st sm x = if recOk st sm q.1 q.2.1 q.2.2 = true then some q else none := by
  unfold recOf; rw [h]
def readAll (st sm : Int) : List ByteArray → List (Int × Int × Int) → List (Int × Int × Int) × Int
  | [], acc => (acc, 0)
  | l :: r, acc => match recOf st sm l with
    | some q => readAll st sm r (acc ++ [q])
    | none => ([], 5)
theorem readAll_some {st sm : Int} {L : List ByteArray} {acc : List (Int × Int × Int)} {k : Nat} (h : k < L.length) {q : Int × Int × Int} (hq : recOf st sm L[k] = some q) : readAll st sm (L.drop k) acc = readAll st sm (L.drop (k + 1)) (acc ++ [q]) := by
  rw [List.drop_eq_getElem_cons h]
  show (match recOf st sm L[k] with | some q => readAll st sm (L.drop (k + 1)) (acc ++ [q]) | none => ([], 5)) = _
  rw [hq]
theorem readAll_none {st sm : Int} {L : List ByteArray} {acc : List (Int × Int × Int)} {k : Nat} (h : k < L.length) (hq : recOf st sm L[k] = none) : readAll st sm (L.drop k) acc = ([], 5) := by
  rw [List.drop_eq_getElem_cons h]
  show (match recOf st sm L[k] with | some q => readAll st sm (L.drop (k + 1)) (acc ++ [q]) | none => ([], 5)) = _
  rw [hq]
def jReadR (s t : Int) (xss : List (List Int)) (bs sm wk : Int) (text : ByteArray) : List (Int × Int × Int) × Int :=
  if serviceOk s t xss bs sm wk = true then (if text.size ≤ 20000 then readAll s sm ((cuts text 10).take ((cuts text 10).length - 1)) [] else ([], 2)) else ([], 1)
def tupVI (v : Value) (c : Int) : Value := .tuple #[v, .int .i64 c]
theorem readAll_code (st sm : Int) : ∀ (L : List ByteArray) (acc : List (Int × Int × Int)), (readAll st sm L acc).1.length ≤ acc.length + L.length
  | [], acc => by simp [readAll]
  | l :: r, acc => by
    unfold readAll
    split
    · have := readAll_code st sm r (acc ++ [‹_›]); simp at this ⊢; omega
    · simp
theorem jReadR_len (s t : Int) (xss : List (List Int)) (bs sm wk : Int) (text : ByteArray) : (jReadR s t xss bs sm wk text).1.length ≤ 20001 := by
  unfold jReadR
  split
  · split
    · rename_i h
      have h1 := readAll_code s sm ((cuts text 10).take ((cuts text 10).length - 1)) []
      have h2 := (cuts_lens text 10).1
      simp at h1
      omega
    · simp
  · simp
set_option maxHeartbeats 4000000 in
theorem ImplReadJournal_any {v : Value} {xss : List (List Int)} (s t bs sm wk : Int) (text : ByteArray) (w : World) (ha : SlII w v xss) (ht : text.size ≤ 1048576) :
    Calls Try.prog 8 #[.agg #[.int .i64 s, .int .i64 t, v, .int .i64 bs, .int .i64 sm, .int .i64 wk], .string text] w fun e w' => ∃ rv, e = .returned (tupVI rv (jReadR s t xss bs sm wk text).2) ∧ FRecord.Own w' w.heap.size rv (jReadR s t xss bs sm wk text).1 ∧ Below w.heap.size w w' := by
  have HA := Lib.hid (fun W (h : Below w.heap.size w W) => ha.below h)
  obtain ⟨a, ca, us, rfl, _, _, _, _, _⟩ := ha
  have bx : Below w.heap.size w (w.alloc (svObj s t (.slice a xss.length ca) bs sm wk)) := (Below.refl _ _).alloc (Nat.le_refl _) _
  have X := Lib.hid (svBox w s t (.slice a xss.length ca) bs sm wk)
  generalize hv : serviceOk s t xss bs sm wk = V
  have HV := Lib.hid hv
  cases V
  · have hj : jReadR s t xss bs sm wk text = ([], 1) := by unfold jReadR; rw [hv]; rfl
    have HJ := Lib.hid hj
    clear hv hj
    go_enter Try.func8, Try.ntmps8
    go_wp2_with fail
    refine (ImplValidService_any s t bs sm wk _ (HA.out _ bx)).mono ?_
    rintro e w1 ⟨rfl, b1⟩
    rw [HV.out]
    go_wp2
    go_ret2
    exact ⟨_, by rw [HJ.out]; rfl, by rw [HJ.out]; exact Flat.Own.nil _ _, bx.trans (b1.mono bx.size)⟩
  · obtain ⟨h1, h2, h3, h4, _⟩ := service_bds hv
    by_cases hz : 20000 < text.size
    · have hj : jReadR s t xss bs sm wk text = ([], 2) := by unfold jReadR; rw [hv, if_pos rfl, if_neg (by omega)]
      have HJ := Lib.hid hj
      clear hv hj
      go_enter Try.func8, Try.ntmps8
      go_wp2_with fail
      refine (ImplValidService_any s t bs sm wk _ (HA.out _ bx)).mono ?_
      rintro e w1 ⟨rfl, b1⟩
      rw [HV.out]
      go_wp2
      go_ret2
      exact ⟨_, by rw [HJ.out]; rfl, by rw [HJ.out]; exact Flat.Own.nil _ _, bx.trans (b1.mono bx.size)⟩
    have hcl := cuts_lens text 10
    have hc1 := cuts_len text 10
    have hcs := hcl.2
    have hcl1 := hcl.1
    have hj : jReadR s t xss bs sm wk text = readAll s sm ((cuts text 10).take ((cuts text 10).length - 1)) [] := by unfold jReadR; rw [hv, if_pos rfl, if_pos (by omega)]
    generalize hL : cuts text 10 = L at hc1 hcs hcl1 hj
    have HL := Lib.hid hL
    have HSZ := Lib.hid hcs
    obtain ⟨m, hm⟩ : ∃ m, L.length = m + 1 := ⟨L.length - 1, by omega⟩
    rw [hm, Nat.add_sub_cancel] at hj
    have hm1 : m ≤ 20000 := by omega
    have HM := Lib.hid hm
    have hml : (L.take m).length = m := by simp; omega
    have HML := Lib.hid hml
    have HJ := Lib.hid hj
    have hz' : text.size ≤ 20000 := by omega
    clear hv hj hL hcl hcs hm hml hc1 hcl1
    go_enter Try.func8, Try.ntmps8
    go_wp2_with fail
    refine (ImplValidService_any s t bs sm wk _ (HA.out _ bx)).mono ?_
    rintro e w1 ⟨rfl, b1⟩
    rw [HV.out]
    have hb1 := bx.trans (b1.mono bx.size)
    have X1 := Lib.hid (X.out.below b1)
    have E0 := Flat.Own.empty (F := FRecord) w1 (base := w1.heap.size) (Nat.le_refl _)
    have be : Below w1.heap.size w1 (w1.alloc (.cells #[] 42)) := (Below.refl _ _).alloc (Nat.le_refl _) _
    clear b1
    go_wp2_with fail
    refine (splitAt_any text 10 _ (by omega)).mono ?_
    rintro e w2 ⟨v2, rfl, o2, b2⟩
    rw [HL.out] at o2
    have hb2 := be.trans (b2.mono be.size)
    have HS := Lib.hid (fun W (h : Below w2.heap.size w2 W) => o2.sl.below h)
    obtain ⟨la, lc, rfl, lm1, lm2, _⟩ := id o2.sl
    unfold maxLen at lm2
    have hmm := HM.out
    rw [hmm] at lm1 HS ⊢
    have ES := (E0.below b2)
    have FSO := o2.lower (base' := w1.heap.size) (by simp)
    rw [hmm] at FSO
    clear o2 hmm E0 b2
    go_wp2
    go_loopw [6, 9, 10, 26] (fun v _ _ i wr => ∃ (k : Nat) (acc : List (Int × Int × Int)), k ≤ m ∧ i = .int .i64 k ∧ acc.length ≤ k ∧ Hid (readAll s sm (L.take m) [] = readAll s sm ((L.take m).drop k) acc) ∧ FRecord.Own wr w1.heap.size v acc ∧ FStr.Own wr w1.heap.size (.slice la (m + 1) lc) L ∧ Below w1.heap.size w1 wr) (fun _ _ _ i _ => m - (intOf i).toNat)
    case atStart => exact ⟨0, [], Nat.zero_le _, rfl, Nat.le_refl _, rfl, ES, FSO, hb2⟩
    case round =>
      clear ES FSO hb2
      obtain ⟨k, acc, hk, rfl, hacc, hrd, hown, hfs, hbr⟩ := hrel
      by_cases hlt : k < m
      · obtain ⟨b, off, rfl, _, gc⟩ := FS_get hfs.sl (i := k) (by have := HM.out; omega)
        have i1 : (k : Int) < (m : Int) := by omega
        have hzx := HSZ.out _ (List.getElem_mem (show k < L.length by have := HM.out; omega))
        have hx : (L.take m)[k]'(by rw [HML.out]; exact hlt) = L[k]'(by have := HM.out; omega) := by simp
        have hsome : ∀ q, recOf s sm (L[k]'(by have := HM.out; omega)) = some q → readAll s sm (L.take m) [] = readAll s sm ((L.take m).drop (k + 1)) (acc ++ [q]) := fun q hq => by rw [hrd.out, readAll_some (by rw [HML.out]; exact hlt) (by rw [hx]; exact hq)]
        have hnone : recOf s sm (L[k]'(by have := HM.out; omega)) = none → readAll s sm (L.take m) [] = ([], 5) := fun hq => by rw [hrd.out, readAll_none (by rw [HML.out]; exact hlt) (by rw [hx]; exact hq)]
        generalize (L[k]'(by have := HM.out; omega)) = x at gc hzx hsome hnone
        generalize hq : readRecR x = q
        have hro := recOf_iff (st := s) (sm := sm) hq
        obtain ⟨q0, q1, q2⟩ := q
        simp only at hro
        generalize hp : recOk s sm q0 q1 q2 = P at hro
        have HQ := Lib.hid hq
        have HP := Lib.hid hp
        have HRO := Lib.hid hro
        have HSM := Lib.hid hsome
        have HNN := Lib.hid hnone
        clear hx hsome hnone hq hp hro
        have h3z := hbr.size
        go_wp2_with fail
        refine (readRecord_any x _ (by omega)).mono ?_
        rintro e w3 ⟨rfl, b3⟩
        rw [HQ.out]
        unfold recV
        have hb3 := hbr.trans (b3.mono h3z)
        have ba : Below w3.heap.size w3 (w3.alloc (.cells #[.int .i64 q0, .int .i64 q1, .int .i64 q2] 42)) := (Below.refl _ _).alloc (Nat.le_refl _) _
        have o3 := ((hown.below b3).below ba)
        have f3 := ((hfs.below b3).below ba)
        have hb4 := hb3.trans (ba.mono hb3.size)
        obtain ⟨⟨zx, c0, c1, c2⟩, c3, c4, c5⟩ := X1.out.below hb3
        simp only [Nat.zero_add] at c0 c1 c2 c3 c4 c5
        clear hown hfs hbr b3
        go_wp2_with fail
        refine (validRecord_any s t bs sm wk q0 q1 q2 _ h3 h4 h1 h2).mono ?_
        rintro e w5 ⟨rfl, b5⟩
        rw [HP.out]
        have hb5 := hb4.trans (b5.mono hb4.size)
        have z5 := hb5.size
        clear c0 c1 c2 c3 c4 c5 zx
        cases P
        · go_wp2
          go_ret2
          have hjj : jReadR s t xss bs sm wk text = ([], 5) := by rw [HJ.out]; exact HNN.out (by rw [HRO.out]; rfl)
          exact ⟨_, by rw [hjj]; rfl, by rw [hjj]; exact Flat.Own.nil _ _, hb1.trans (hb5.mono hb1.size)⟩
        · have d0 := b5.cell (p := ⟨w3.heap.size, 0, none⟩) (by simp)
          have d1 := b5.cell (p := ⟨w3.heap.size, 1, none⟩) (by simp)
          have d2 := b5.cell (p := ⟨w3.heap.size, 2, none⟩) (by simp)
          simp [go_sem] at d0 d1 d2
          have o5 := o3.below b5
          have f5 := f3.below b5
          clear o3 f3 b5 ba
          go_wp2_with (at_builtin; refine Flat.append FRecord _ _ _ (ys := [(q0, q1, q2)]) rfl rfl rfl (o5.alloc _) rfl (rd_new _ _ _) (by simp; omega) (by simp; omega) ?_)
          intro v' w6 o6 hg6 hb6
          have f6 : FStr.Own w6 w1.heap.size (.slice (some ⟨b, off, none⟩) (m + 1) lc) L := Flat.Own.kept (G := FRecord) (by decide) (f5.alloc _) (o5.alloc _) hg6
          have hb7 := (hb5.alloc z5 _).trans hb6
          have HSS := Lib.hid (HSM.out (q0, q1, q2) (by rw [HRO.out]; rfl))
          clear o5 f5 hg6 hb6
          go_wp2
          go_roundw
          case rel => exact ⟨k + 1, acc ++ [(q0, q1, q2)], by omega, by go_num, by simp; omega, HSS.out, o6, f6, hb7⟩
          case measure => simp [intOf]; omega
      · obtain rfl : k = m := by omega
        have hjj : jReadR s t xss bs sm wk text = (acc, 0) := by rw [HJ.out, hrd.out, List.drop_of_length_le (by rw [HML.out]; exact Nat.le_refl _)]; rfl
        have HJJ := Lib.hid hjj
        clear hjj
        go_wp2
        go_ret2
        exact ⟨_, by rw [HJJ.out]; rfl, by rw [HJJ.out]; exact hown.lower hb1.size, hb1.trans (hbr.mono hb1.size)⟩
end Go.Proofs.Ytihjadffdjjogaa
