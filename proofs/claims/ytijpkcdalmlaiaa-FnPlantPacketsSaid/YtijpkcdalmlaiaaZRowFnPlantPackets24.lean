/-
  Laws of plants: deeds that are refused, a plant that is finished, packets that come twice. Plain.
-/
import Derived.Test.YtijpkcdalmlaiaaZRowFnPlantPackets23
set_option linter.unusedVariables false
set_option linter.unusedSimpArgs false
namespace Go.Proofs.Ytijpkcdalmlaiaa
open Go.RowKit Go.Sort
theorem firstBad_all : ∀ (cs : List Int) (k : Nat), (∀ c ∈ cs, c = 0) → firstBad cs k = (0, 0, 6)
  | [], _, _ => rfl
  | c :: r, k, h => by
    unfold firstBad
    rw [if_pos (h c (by simp))]
    exact firstBad_all r (k + 1) (fun x hx => h x (by simp [hx]))
theorem firstBad_some : ∀ (cs : List Int) (k : Nat), (∃ c ∈ cs, c ≠ 0) → ∃ (i : Nat) (c : Int), i < cs.length ∧ firstBad cs k = (((k + i : Nat) : Int), c, 0) ∧ c ≠ 0 ∧ cs[i]? = some c ∧ ∀ x ∈ cs.take i, x = 0
  | [], _, h => by obtain ⟨c, hc, _⟩ := h; simp at hc
  | c :: r, k, h => by
    unfold firstBad
    by_cases h0 : c = 0
    · rw [if_pos h0]
      obtain ⟨i, c', h1, h2, h3, h4, h5⟩ := firstBad_some r (k + 1) (by
        obtain ⟨x, hx, hx0⟩ := h
        rcases List.mem_cons.1 hx with rfl | hx
        · exact absurd h0 hx0
        · exact ⟨x, hx, hx0⟩)
      refine ⟨i + 1, c', by simp; omega, by rw [h2]; congr 2; omega, h3, by simpa using h4, ?_⟩
      intro x hx
      rw [List.take_succ_cons] at hx
      rcases List.mem_cons.1 hx with rfl | hx
      · exact h0
      · exact h5 x hx
    · rw [if_neg h0]
      exact ⟨0, c, by simp, rfl, h0, rfl, by simp⟩
theorem doneS_all {cs : List Int} (h : ∀ c ∈ cs, c = 0) : doneS cs = cs.length := by
  unfold doneS
  rw [List.countP_eq_length]
  intro c hc
  simpa using h c hc
theorem doneS_not {cs : List Int} (h : doneS cs = cs.length) : ∀ c ∈ cs, c = 0 := by
  unfold doneS at h
  rw [List.countP_eq_length] at h
  intro c hc
  simpa using h c hc
theorem doneS_app (a b : List Int) : doneS (a ++ b) = doneS a + doneS b := by unfold doneS; rw [List.countP_append]
section
variable {t : Int} {xss : List (List Int)} {bs : Int} {n sm wk : Nat}
theorem codesS_take (xs : List (Int × Int)) (k : Nat) (S : PS) : codesS t xss bs sm wk (xs.take k) S = (codesS t xss bs sm wk xs S).take k := by
  have e : codesS t xss bs sm wk xs S = codesS t xss bs sm wk (xs.take k) S ++ codesS t xss bs sm wk (xs.drop k) (afterS t xss bs sm wk (xs.take k) S) := by
    rw [← codesS_app, List.take_append_drop]
  by_cases h : k ≤ xs.length
  · rw [e, List.take_append_of_le_length (by rw [codesS_len, List.length_take]; omega)]
    exact (List.take_of_length_le (by rw [codesS_len, List.length_take]; omega)).symm
  · rw [List.take_of_length_le (by omega), List.take_of_length_le (by rw [codesS_len]; omega)]
/-- deeds: all done, or a first one refused -/
theorem deeds_law (ds : List (Int × Int)) (S : PS) :
    (doneS (codesS t xss bs sm wk ds S) = ds.length ∧ firstBad (codesS t xss bs sm wk ds S) 0 = (0, 0, 6)) ∨
    (doneS (codesS t xss bs sm wk ds S) ≠ ds.length ∧ ∃ (i : Nat) (c : Int), i < ds.length ∧ firstBad (codesS t xss bs sm wk ds S) 0 = ((i : Int), c, 0) ∧ c ≠ 0 ∧ doneS (codesS t xss bs sm wk (ds.take i) S) = i ∧ doneS (codesS t xss bs sm wk (ds.take (i + 1)) S) = i) := by
  have hl := codesS_len (t := t) (xss := xss) (bs := bs) (sm := sm) (wk := wk) ds S
  by_cases h : doneS (codesS t xss bs sm wk ds S) = ds.length
  · exact .inl ⟨h, firstBad_all _ _ (doneS_not (by rw [h, hl]))⟩
  · refine .inr ⟨h, ?_⟩
    have hx : ∃ c ∈ codesS t xss bs sm wk ds S, c ≠ 0 := by
      refine Classical.byContradiction fun hn => h ?_
      rw [doneS_all (fun c hc => Classical.byContradiction fun h0 => hn ⟨c, hc, h0⟩), hl]
    obtain ⟨i, c, h1, h2, h3, h4, h5⟩ := firstBad_some _ 0 hx
    rw [Nat.zero_add] at h2
    refine ⟨i, c, by omega, h2, h3, ?_, ?_⟩
    · rw [codesS_take, doneS_all h5, List.length_take]; omega
    · rw [codesS_take]
      have e : (codesS t xss bs sm wk ds S).take (i + 1) = (codesS t xss bs sm wk ds S).take i ++ [c] := by
        rw [List.take_add_one, h4]; rfl
      rw [e, doneS_snoc, if_neg h3, doneS_all h5, List.length_take]; omega
/-- all that has been handed out has results -/
def QR (d : Dk) : Prop := ∀ i : Nat, (i : Int) < d.2.2 → d.2.1.getD i 0 ≠ -1
theorem getD_set_or (r : List Int) (j i : Nat) (v : Int) : (r.set j v).getD i 0 = v ∨ (r.set j v).getD i 0 = r.getD i 0 := by
  simp only [List.getD_eq_getElem?_getD, List.getElem?_set]
  split
  · split
    · left; rfl
    · rename_i h1 h2
      right
      rw [List.getElem?_eq_none (by omega)]
  · right; rfl
theorem QR.learn {d d' : Dk} {x : Int × Int × Int} (h : QR d) (hx : recOk n sm x.1 x.2.1 x.2.2 = true) (hl : learn3 d x = some d') : QR d' := by
  unfold recOk at hx
  rw [Bool.and_eq_true] at hx
  obtain ⟨ha, hb⟩ := hx
  have hs := inR_iff.1 ha
  unfold learn3 learnF at hl
  split at hl
  · split at hl
    · simp at hl
      subst hl
      intro i hi
      dsimp only at hi ⊢
      split
      · rcases getD_set_or d.2.1 x.2.1.toNat i (-2) with e | e
        · rw [e]; decide
        · rw [e]; exact h i hi
      · exact h i hi
    · simp at hl
  · rename_i hk1
    rw [if_neg hk1] at hb
    split at hl
    · rename_i hk2
      rw [if_pos hk2] at hb
      have hv := inR_iff.1 hb
      split at hl
      · simp at hl
        subst hl
        intro i hi
        dsimp only at hi ⊢
        rcases getD_set_or d.2.1 x.2.1.toNat i x.2.2 with e | e
        · rw [e]; omega
        · rw [e]; exact h i hi
      · simp at hl
    · split at hl
      · rename_i hc
        simp at hl
        subst hl
        intro i hi
        dsimp only at hi ⊢
        by_cases e : (i : Int) < d.2.2
        · exact h i e
        · have e2 : x.2.1.toNat = i := by omega
          rw [← e2]
          exact hc.1
      · simp at hl
theorem QR.all : ∀ {xs : List (Int × Int × Int)} {d d' : Dk}, QR d → (∀ x ∈ xs, recOk n sm x.1 x.2.1 x.2.2 = true) → learnAll xs d = some d' → QR d'
  | [], d, d', hd, _, h => by cases h; exact hd
  | x :: r, d, d', hd, hx, h => by
    have h' : (match learn3 d x with | some e => learnAll r e | none => none) = some d' := h
    cases he : learn3 d x with
    | none => rw [he] at h'; cases h'
    | some e =>
      rw [he] at h'
      exact QR.all (hd.learn (hx x (by simp)) he) (fun y hy => hx y (by simp [hy])) h'
theorem PInv.qr {S : PS} (I : PInv n sm wk S) : QR (S.l, S.r, S.q) := QR.all (d := newD sm) (fun i hi => by simp [newD] at hi; omega) I.recs I.hist
/-- when all has been handed out, all is kept -/
def QI (sm : Nat) (S : PS) : Prop := S.q = (sm : Int) → S.sy = S.recs.length
theorem QI.new (h1 : 1 ≤ sm) : QI sm (newS sm wk) := fun h => by simp [newS] at h; omega
theorem QI.come {S : PS} {p : Pk} (I : PInv n sm wk S) (hp : PkOk n sm wk p) (h : QI sm S) : QI sm (comeS p S) := by
  obtain ⟨p1, p2, p3, p4, p5, p6, p7, p8⟩ := hp
  unfold comeS
  split
  · split
    · exact h
    · exact h
  · split
    · exact h
    · rename_i hc
      have hr : S.r.getD p.2.2.1.toNat 0 = -1 := Classical.byContradiction fun e => hc (.inl e)
      have hl : S.l.getD p.2.2.1.toNat 0 = p.2.2.2.1 := Classical.byContradiction fun e => hc (.inr e)
      have hin : inR p.2.2.1 0 ((sm : Int) - 1) = true := inR_iff.2 ⟨p3, by omega⟩
      have hq : S.q ≠ (sm : Int) := fun e => I.qr p.2.2.1.toNat (by show _ < S.q; omega) hr
      split
      · have hh : learn3 (S.l, S.r, S.q) (2, p.2.2.1, p.2.2.2.2.2) = some (S.l, S.r.set p.2.2.1.toNat p.2.2.2.2.2, S.q) := by
          unfold learn3 learnF
          dsimp only
          rw [if_neg (by decide), if_pos rfl, if_pos hr]
        have hk : recOk n sm 2 p.2.2.1 p.2.2.2.2.2 = true := by
          unfold recOk
          rw [hin, if_neg (by decide), if_pos rfl, inR_iff.2 ⟨p7, by omega⟩]
          rfl
        rw [(I.write hk hh).1]
        exact fun e => absurd e hq
      · have hh : learn3 (S.l, S.r, S.q) (1, p.2.2.1, p.2.2.2.1 + 1) = some (S.l.set p.2.2.1.toNat (p.2.2.2.1 + 1), if p.2.2.2.1 + 1 = 7 then S.r.set p.2.2.1.toNat (-2) else S.r, S.q) := by
          unfold learn3 learnF
          dsimp only
          rw [if_pos rfl, if_pos ⟨hr, by rw [hl]⟩]
        have hk : recOk n sm 1 p.2.2.1 (p.2.2.2.1 + 1) = true := by
          unfold recOk
          rw [hin, if_pos rfl, inR_iff.2 ⟨by omega, by omega⟩]
          rfl
        rw [(I.write hk hh).1]
        exact fun e => absurd e hq
/-- a packet that comes in twice does what it does once -/
theorem come_twice {S : PS} {p : Pk} (I : PInv n sm wk S) (hp : PkOk n sm wk p) : comeS p (comeS p S) = comeS p S := by
  obtain ⟨p1, p2, p3, p4, p5, p6, p7, p8⟩ := hp
  have hlen := I.hl
  have hD := I.desk.ok
  have hl1 : S.l.length = sm := hD.1
  have hr1 : S.r.length = sm := hD.2.1
  by_cases hb : p.1 = false
  · by_cases hh : (S.hands.getD p.2.1.toNat noHand).1 = false
    · have e : comeS p S = { S with hands := S.hands.set p.2.1.toNat (true, p.2.2.1, p.2.2.2.1) } := by unfold comeS; rw [if_pos hb, if_pos hh]
      rw [e]
      unfold comeS
      rw [if_pos hb, if_neg]
      simp only [List.getD_eq_getElem?_getD, List.getElem?_set_self (show p.2.1.toNat < S.hands.length by omega)]
      simp
    · have e : comeS p S = S := by unfold comeS; rw [if_pos hb, if_neg hh]
      rw [e, e]
  · by_cases hc : S.r.getD p.2.2.1.toNat 0 ≠ -1 ∨ S.l.getD p.2.2.1.toNat 0 ≠ p.2.2.2.1
    · have e : comeS p S = S := by unfold comeS; rw [if_neg hb, if_pos hc]
      rw [e, e]
    · have hr : S.r.getD p.2.2.1.toNat 0 = -1 := Classical.byContradiction fun e => hc (.inl e)
      have hl : S.l.getD p.2.2.1.toNat 0 = p.2.2.2.1 := Classical.byContradiction fun e => hc (.inr e)
      have hin : inR p.2.2.1 0 ((sm : Int) - 1) = true := inR_iff.2 ⟨p3, by omega⟩
      by_cases hm : p.2.2.2.2.1 = true
      · have hh : learn3 (S.l, S.r, S.q) (2, p.2.2.1, p.2.2.2.2.2) = some (S.l, S.r.set p.2.2.1.toNat p.2.2.2.2.2, S.q) := by
          unfold learn3 learnF
          dsimp only
          rw [if_neg (by decide), if_pos rfl, if_pos hr]
        have hk : recOk n sm 2 p.2.2.1 p.2.2.2.2.2 = true := by
          unfold recOk
          rw [hin, if_neg (by decide), if_pos rfl, inR_iff.2 ⟨p7, by omega⟩]
          rfl
        have e : comeS p S = writeS S (2, p.2.2.1, p.2.2.2.2.2) := by unfold comeS; rw [if_neg hb, if_neg hc, if_pos hm]
        rw [e, (I.write hk hh).1]
        unfold comeS
        rw [if_neg hb, if_pos]
        left
        dsimp only
        rw [getD_set_self (by omega)]
        omega
      · have hh : learn3 (S.l, S.r, S.q) (1, p.2.2.1, p.2.2.2.1 + 1) = some (S.l.set p.2.2.1.toNat (p.2.2.2.1 + 1), if p.2.2.2.1 + 1 = 7 then S.r.set p.2.2.1.toNat (-2) else S.r, S.q) := by
          unfold learn3 learnF
          dsimp only
          rw [if_pos rfl, if_pos ⟨hr, by rw [hl]⟩]
        have hk : recOk n sm 1 p.2.2.1 (p.2.2.2.1 + 1) = true := by
          unfold recOk
          rw [hin, if_pos rfl, inR_iff.2 ⟨by omega, by omega⟩]
          rfl
        have e : comeS p S = writeS S (1, p.2.2.1, p.2.2.2.1 + 1) := by unfold comeS; rw [if_neg hb, if_neg hc, if_neg hm]
        rw [e, (I.write hk hh).1]
        unfold comeS
        rw [if_neg hb, if_pos]
        right
        dsimp only
        rw [getD_set_self (by omega)]
        omega
theorem learnS_wire (S : PS) (ws : List Pk) (x : Int × Int × Int) : learnS { S with wire := ws } x = { learnS S x with wire := ws } := by
  unfold learnS
  dsimp only
  split <;> rfl
theorem come_wires (pk : Pk) (S : PS) (ws : List Pk) : comeS pk { S with wire := ws } = { comeS pk S with wire := ws } := by
  unfold comeS writeS
  dsimp only
  repeat' split
  all_goals first | rfl | exact learnS_wire { S with recs := S.recs ++ [_] } ws _
theorem packet_law {S : PS} {a : Nat} (I : PInv n sm wk S) (ha : a < S.wire.length) :
    afterS t xss bs sm wk [(4, (a : Int)), (3, (a : Int))] S = afterS t xss bs sm wk [(3, (a : Int))] S ∧ afterS t xss bs sm wk [(5, (a : Int))] S = { S with wire := S.wire.eraseIdx a } := by
  have hn : ¬ (S.wire.length : Int) ≤ (a : Int) := by omega
  have hp := I.wire _ (mem_getD (d := noPk) ha)
  have e4 : (doS t xss bs sm wk (4, (a : Int)) S).2 = comeS (S.wire.getD a noPk) S := by
    unfold doS wireS
    rw [if_neg (by simp), if_neg (by simp), if_pos (by simp), if_neg hn]
    simp
  have e3 : ∀ T : PS, T.wire = S.wire → (doS t xss bs sm wk (3, (a : Int)) T).2 = comeS (S.wire.getD a noPk) { T with wire := S.wire.eraseIdx a } := by
    intro T hT
    unfold doS wireS
    rw [if_neg (by simp), if_neg (by simp), if_pos (by simp), if_neg (by rw [hT]; exact hn)]
    simp [hT]
  have e5 : (doS t xss bs sm wk (5, (a : Int)) S).2 = { S with wire := S.wire.eraseIdx a } := by
    unfold doS wireS
    rw [if_neg (by simp), if_neg (by simp), if_pos (by simp), if_neg hn]
    simp
  have hw : (comeS (S.wire.getD a noPk) S).wire = S.wire := by
    have h := come_wires (S.wire.getD a noPk) S S.wire
    have h2 : ({ S with wire := S.wire } : PS) = S := rfl
    rw [h2] at h
    rw [h]
  refine ⟨?_, e5⟩
  show (doS t xss bs sm wk (3, (a : Int)) (doS t xss bs sm wk (4, (a : Int)) S).2).2 = (doS t xss bs sm wk (3, (a : Int)) S).2
  rw [e4, e3 _ hw, e3 S rfl]
  exact ((come_wires _ _ _).trans (by rw [come_twice I hp])).trans (come_wires _ _ _).symm
theorem QI.do_ {S : PS} {d : Int × Int} (I : PInv n sm wk S) (hd : 0 ≤ d.2) (h : QI sm S) : QI sm (doS t xss bs sm wk d S).2 := by
  unfold doS
  split
  · unfold giveS
    split
    · exact h
    · split
      · exact h
      · unfold sendS
        split <;> exact h
  · split
    · unfold workS
      split
      · exact h
      · split
        · exact h
        · split <;> exact h
    · split
      · unfold wireS
        split
        · exact h
        · rename_i ha
          have hT : PInv n sm wk (if d.1 = 4 then S else { S with wire := S.wire.eraseIdx d.2.toNat }) := by
            split
            · exact I
            · refine ⟨I.hist, I.recs, I.sy, I.old, I.outs, I.outB, I.hl, I.hands, ?_, fun p hp => I.wire p (List.mem_of_mem_eraseIdx hp)⟩
              have := I.wl
              have h2 := List.length_eraseIdx_le S.wire d.2.toNat
              exact Nat.le_trans h2 this
          have hQ : QI sm (if d.1 = 4 then S else { S with wire := S.wire.eraseIdx d.2.toNat }) := by split <;> exact h
          dsimp only
          split
          · exact hQ
          · exact QI.come hT (I.wire _ (mem_getD (by omega))) hQ
      · split
        · exact fun _ => rfl
        · split
          · unfold outS
            split
            · exact h
            · exact fun _ => rfl
          · have hcr : QI sm (crashS sm S) := by
              obtain ⟨l, r, _, e⟩ := I.crash.2
              rw [e]
              intro _
              have := I.sy
              show S.sy = (S.recs.take S.sy).length
              rw [List.length_take]; omega
            split
            · exact hcr
            · split
              · split
                · exact h
                · exact hcr
              · split <;> exact h
theorem QI.after (hc : chainOk n t xss = true) (h1 : 1 ≤ sm) : ∀ (xs : List (Int × Int)) (S : PS), (∀ d ∈ xs, deedOk d.1 d.2 = true) → PInv n sm wk S → QI sm S → QI sm (afterS t xss bs sm wk xs S)
  | [], _, _, _, h => h
  | x :: r, S, hd, I, h => by
    have hx := hd x (by simp)
    unfold deedOk at hx
    rw [Bool.and_eq_true, Bool.and_eq_true] at hx
    have h0 := (inR_iff.1 hx.2.1).1
    exact QI.after hc h1 r _ (fun d hm => hd d (by simp [hm])) (I.do_ hc h1 h0) (h.do_ I h0)
theorem round_codes {S : PS} (I : PInv n sm wk S) (hw : 1 ≤ wk) (hwire : S.wire = []) (hhand : S.hands.getD 0 noHand = noHand) (hn : ¬ nextS S.l S.r sm < 0) : ∀ c ∈ codesS t xss bs sm wk round4 S, c = 0 := by
  have hl := I.hl
  have w0 : ¬ wk = 0 := by omega
  have h0 : 0 < S.hands.length := by omega
  obtain ⟨S1, hS1⟩ : ∃ T, T = ({ S with wire := [(false, (0 : Int), nextS S.l S.r sm, S.l.getD (nextS S.l S.r sm).toNat 0, false, (0 : Int))] } : PS) := ⟨_, rfl⟩
  have e1 : doS t xss bs sm wk (1, 0) S = (0, S1) := by
    rw [hS1]
    simp [doS, giveS, sendS, hwire, hn, w0]
  obtain ⟨S2, hS2⟩ : ∃ T, T = ({ S with wire := [], hands := S.hands.set 0 (true, nextS S.l S.r sm, S.l.getD (nextS S.l S.r sm).toNat 0) } : PS) := ⟨_, rfl⟩
  have hf : (S.hands.getD 0 noHand).1 = false := by rw [hhand]; rfl
  have e2 : doS t xss bs sm wk (3, 0) S1 = (0, S2) := by
    rw [hS1, hS2]
    simp only [List.getD_eq_getElem?_getD] at hf
    simp [doS, wireS, comeS, hf]
  obtain ⟨P, hP⟩ : ∃ P : Pk, P = (true, (0 : Int), nextS S.l S.r sm, S.l.getD (nextS S.l S.r sm).toNat 0, winMet (lvR t xss bs (true, nextS S.l S.r sm, S.l.getD (nextS S.l S.r sm).toNat 0)), winState (lvR t xss bs (true, nextS S.l S.r sm, S.l.getD (nextS S.l S.r sm).toNat 0))) := ⟨_, rfl⟩
  obtain ⟨S3, hS3⟩ : ∃ T, T = ({ S with wire := [P], hands := S.hands.set 0 noHand } : PS) := ⟨_, rfl⟩
  have e3 : doS t xss bs sm wk (2, 0) S2 = (0, S3) := by
    rw [hS2, hS3, hP]
    simp [doS, workS, w0, h0, handOff]
  have hw3 : S3.wire.length = 1 := by rw [hS3]; rfl
  have e4 : (doS t xss bs sm wk (3, 0) S3).1 = 0 := by
    have h : ¬ (S3.wire.length : Int) ≤ 0 := by omega
    simp only [doS, wireS]
    rw [if_neg (by decide), if_neg (by decide), if_pos (by simp), if_neg h]
  intro c hc
  have e : codesS t xss bs sm wk round4 S = [0, 0, 0, 0] := by
    show [(doS t xss bs sm wk (1, 0) S).1, (doS t xss bs sm wk (3, 0) (doS t xss bs sm wk (1, 0) S).2).1, (doS t xss bs sm wk (2, 0) (doS t xss bs sm wk (3, 0) (doS t xss bs sm wk (1, 0) S).2).2).1, (doS t xss bs sm wk (3, 0) (doS t xss bs sm wk (2, 0) (doS t xss bs sm wk (3, 0) (doS t xss bs sm wk (1, 0) S).2).2).2).1] = _
    rw [e1]
    dsimp only
    rw [e2]
    dsimp only
    rw [e3]
    dsimp only
    rw [e4]
  rw [e] at hc
  simpa using hc
theorem rounds_end (hc : chainOk n t xss = true) (h1 : 1 ≤ sm) (hw : 1 ≤ wk) : ∀ (f : Nat) (S : PS), PInv n sm wk S → S.wire = [] → S.hands.getD 0 noHand = noHand → QI sm S → 9 * sm + 1 - S.recs.length ≤ f →
    (∀ c ∈ codesS t xss bs sm wk (roundsF t xss bs sm wk f S) S, c = 0) ∧ (∀ d ∈ roundsF t xss bs sm wk f S, deedOk d.1 d.2 = true) ∧ PInv n sm wk (afterS t xss bs sm wk (roundsF t xss bs sm wk f S) S) ∧ (afterS t xss bs sm wk (roundsF t xss bs sm wk f S) S).wire = [] ∧
      nextS (afterS t xss bs sm wk (roundsF t xss bs sm wk f S) S).l (afterS t xss bs sm wk (roundsF t xss bs sm wk f S) S).r sm < 0 ∧ QI sm (afterS t xss bs sm wk (roundsF t xss bs sm wk f S) S)
  | 0, S, I, _, _, _, hf => by have := I.len; omega
  | f + 1, S, I, hwire, hhand, hq, hf => by
    by_cases hn : nextS S.l S.r sm < 0
    · have e : roundsF t xss bs sm wk (f + 1) S = [] := by unfold roundsF; rw [if_pos hn]
      rw [e]
      exact ⟨by simp [codesS], by simp, I, hwire, hn, hq⟩
    · have e : roundsF t xss bs sm wk (f + 1) S = round4 ++ roundsF t xss bs sm wk f (afterS t xss bs sm wk round4 S) := by
        show (if _ then _ else _) = _
        rw [if_neg hn]
      obtain ⟨r1, r2, r3⟩ := round_do (t := t) (xss := xss) (bs := bs) I hw hwire hhand hn
      have hok : ∀ d ∈ round4, deedOk d.1 d.2 = true := by decide
      have I4 := afterS_inv (bs := bs) hc h1 round4 S hok I
      have Q4 := QI.after (bs := bs) hc h1 round4 S hok I hq
      have ih := rounds_end hc h1 hw f _ I4 r1 r2 Q4 (by omega)
      have hcc := round_codes (t := t) (xss := xss) (bs := bs) I hw hwire hhand hn
      rw [e, codesS_app, afterS_app]
      refine ⟨fun c hx => ?_, fun d hx => ?_, ih.2.2⟩
      · rcases List.mem_append.1 hx with hx | hx
        · exact hcc c hx
        · exact ih.1 c hx
      · rcases List.mem_append.1 hx with hx | hx
        · exact hok d hx
        · exact ih.2.1 d hx
theorem outs_end (hc : chainOk n t xss = true) (h1 : 1 ≤ sm) : ∀ (f : Nat) (S : PS), PInv n sm wk S → S.wire = [] → (∀ i, i < sm → S.r.getD i 0 ≠ -1) → QI sm S → 9 * sm + 1 - S.recs.length ≤ f →
    (∀ c ∈ codesS t xss bs sm wk (outsF t xss bs sm wk f S) S, c = 0) ∧ (∀ d ∈ outsF t xss bs sm wk f S, deedOk d.1 d.2 = true) ∧ PInv n sm wk (afterS t xss bs sm wk (outsF t xss bs sm wk f S) S) ∧ (afterS t xss bs sm wk (outsF t xss bs sm wk f S) S).wire = [] ∧
      (afterS t xss bs sm wk (outsF t xss bs sm wk f S) S).q = (sm : Int) ∧ QI sm (afterS t xss bs sm wk (outsF t xss bs sm wk f S) S)
  | 0, S, I, _, _, _, hf => by have := I.len; omega
  | f + 1, S, I, hwire, hr, hq, hf => by
    have hq1 : S.q ≤ (sm : Int) := I.desk.ok.2.2.2.2
    have hq0 : 0 ≤ S.q := I.desk.ok.2.2.2.1
    by_cases hn : S.q < (sm : Int)
    · have e : outsF t xss bs sm wk (f + 1) S = (7, 0) :: outsF t xss bs sm wk f (doS t xss bs sm wk (7, 0) S).2 := by
        show (if _ then _ else _) = _
        rw [if_pos hn]
      obtain ⟨o1, o2⟩ := out_do (t := t) (xss := xss) (bs := bs) I hr hn
      have I4 : PInv n sm wk (doS t xss bs sm wk (7, 0) S).2 := I.do_ hc h1 (Int.le_refl 0)
      have Q4 : QI sm (doS t xss bs sm wk (7, 0) S).2 := hq.do_ I (Int.le_refl 0)
      have hx := hr S.q.toNat (by omega)
      have e7 : doS t xss bs sm wk (7, 0) S = outS sm S := by simp [doS]
      have hno : ¬ (S.q = (sm : Int) ∨ S.r.getD S.q.toNat 0 = -1) := by intro h; rcases h with h | h; omega; exact hx h
      have c7 : (doS t xss bs sm wk (7, 0) S).1 = 0 := by rw [e7]; unfold outS; rw [if_neg hno]
      have w7 : (doS t xss bs sm wk (7, 0) S).2.wire = [] := by
        rw [e7]; unfold outS; rw [if_neg hno]
        show (writeS _ _).wire = []
        rw [(writeS_recs _ _).2.2]; exact hwire
      have ih := outs_end hc h1 f _ I4 w7 (by rw [o2]; exact hr) Q4 (by omega)
      rw [e]
      refine ⟨fun c hx => ?_, fun d hx => ?_, ih.2.2⟩
      · rcases List.mem_cons.1 hx with rfl | hx
        · exact c7
        · exact ih.1 c hx
      · rcases List.mem_cons.1 hx with rfl | hx
        · rfl
        · exact ih.2.1 d hx
    · have e : outsF t xss bs sm wk (f + 1) S = [] := by
        show (if _ then _ else _) = _
        rw [if_neg hn]
      rw [e]
      exact ⟨by simp [codesS], by simp, I, hwire, by show S.q = _; omega, hq⟩
theorem drops_end : ∀ (k : Nat) (S : PS), k ≤ S.wire.length → (∀ c ∈ codesS t xss bs sm wk (dropsF k) S, c = 0) ∧ (∀ d ∈ dropsF k, deedOk d.1 d.2 = true)
  | 0, S, _ => by simp [dropsF, codesS]
  | k + 1, S, h => by
    have hd := drop_do (t := t) (xss := xss) (bs := bs) (sm := sm) (wk := wk) (S := S) (by omega)
    have ih := drops_end k (doS t xss bs sm wk (5, 0) S).2 (by rw [hd]; simp; omega)
    refine ⟨fun c hx => ?_, fun d hx => ?_⟩
    · have hx' : c ∈ (doS t xss bs sm wk (5, 0) S).1 :: codesS t xss bs sm wk (dropsF k) (doS t xss bs sm wk (5, 0) S).2 := hx
      rcases List.mem_cons.1 hx' with rfl | hx'
      · rw [hd]
      · exact ih.1 c hx'
    · have hx' : d ∈ (5, 0) :: dropsF k := hx
      rcases List.mem_cons.1 hx' with rfl | hx'
      · rfl
      · exact ih.2 d hx'
/-- what finishes can all be done, and all has been handed out behind it -/
theorem finish_law (hc : chainOk n t xss = true) (h1 : 1 ≤ sm) (hw : 1 ≤ wk) {S : PS} (I : PInv n sm wk S) (hq : QI sm S) :
    (∀ c ∈ codesS t xss bs sm wk (finL t xss bs sm wk S) S, c = 0) ∧ (∀ d ∈ finL t xss bs sm wk S, deedOk d.1 d.2 = true) ∧ (afterS t xss bs sm wk (finL t xss bs sm wk S) S).wire = [] ∧
      (afterS t xss bs sm wk (finL t xss bs sm wk S) S).out.length = sm ∧ (afterS t xss bs sm wk (finL t xss bs sm wk S) S).sy = (afterS t xss bs sm wk (finL t xss bs sm wk S) S).recs.length := by
  obtain ⟨d1, d2⟩ := drops_end (t := t) (xss := xss) (bs := bs) (sm := sm) (wk := wk) S.wire.length S (Nat.le_refl _)
  have da := drops_after (t := t) (xss := xss) (bs := bs) (sm := sm) (wk := wk) S.wire.length S (Nat.le_refl _)
  have I1 := afterS_inv (bs := bs) hc h1 _ S d2 I
  have Q1 := QI.after (bs := bs) hc h1 _ S d2 I hq
  unfold finL
  rw [codesS_app, afterS_app]
  obtain ⟨S1, hS1⟩ : ∃ S1, S1 = afterS t xss bs sm wk (dropsF S.wire.length) S := ⟨_, rfl⟩
  have hw1 : S1.wire = [] := by rw [hS1, da]; simp
  rw [← hS1] at I1 Q1 ⊢
  have qd := quit_do (t := t) (xss := xss) (bs := bs) (sm := sm) hw S1
  have I2 : PInv n sm wk (doS t xss bs sm wk (10, 0) S1).2 := I1.do_ hc h1 (Int.le_refl 0)
  have Q2 : QI sm (doS t xss bs sm wk (10, 0) S1).2 := Q1.do_ I1 (Int.le_refl 0)
  obtain ⟨S2, hS2⟩ : ∃ S2, S2 = (doS t xss bs sm wk (10, 0) S1).2 := ⟨_, rfl⟩
  have hw2 : S2.wire = [] := by rw [hS2, qd]; exact hw1
  have hh2 : S2.hands.getD 0 noHand = noHand := by
    have h0 : 0 < S1.hands.length := by have := I1.hl; omega
    rw [hS2, qd]
    simp [handOff, List.getD_eq_getElem?_getD, h0]
  rw [← hS2] at I2 Q2
  obtain ⟨r1, r2, r3, r4, r5, r6⟩ := rounds_end (bs := bs) hc h1 hw (9 * sm + 1 - S2.recs.length) S2 I2 hw2 hh2 Q2 (Nat.le_refl _)
  obtain ⟨S3, hS3⟩ : ∃ S3, S3 = afterS t xss bs sm wk (roundsF t xss bs sm wk (9 * sm + 1 - S2.recs.length) S2) S2 := ⟨_, rfl⟩
  rw [← hS3] at r3 r4 r5 r6
  obtain ⟨o1, o2, o3, o4, o5, o6⟩ := outs_end (bs := bs) hc h1 (9 * sm + 1 - S3.recs.length) S3 r3 r4 (fun i hi => nextS_lt r5 i hi) r6 (Nat.le_refl _)
  have et : tailR t xss bs sm wk S2 = roundsF t xss bs sm wk (9 * sm + 1 - S2.recs.length) S2 ++ outsF t xss bs sm wk (9 * sm + 1 - S3.recs.length) S3 := by
    unfold tailR tailO
    rw [← hS3]
  have eq : tailQ t xss bs sm wk S1 = (10, 0) :: tailR t xss bs sm wk S2 := by unfold tailQ; rw [← hS2]
  have ea : afterS t xss bs sm wk (tailQ t xss bs sm wk S1) S1 = afterS t xss bs sm wk (outsF t xss bs sm wk (9 * sm + 1 - S3.recs.length) S3) S3 := by
    rw [eq]
    show afterS t xss bs sm wk (tailR t xss bs sm wk S2) (doS t xss bs sm wk (10, 0) S1).2 = _
    rw [← hS2, et, afterS_app, ← hS3]
  have ec : codesS t xss bs sm wk (tailQ t xss bs sm wk S1) S1 = 0 :: (codesS t xss bs sm wk (roundsF t xss bs sm wk (9 * sm + 1 - S2.recs.length) S2) S2 ++ codesS t xss bs sm wk (outsF t xss bs sm wk (9 * sm + 1 - S3.recs.length) S3) S3) := by
    rw [eq]
    show (doS t xss bs sm wk (10, 0) S1).1 :: codesS t xss bs sm wk (tailR t xss bs sm wk S2) (doS t xss bs sm wk (10, 0) S1).2 = _
    rw [← hS2, et, codesS_app, ← hS3, qd]
  rw [ea]
  refine ⟨fun c hx => ?_, fun d hx => ?_, o4, ?_, o6 o5⟩
  · rcases List.mem_append.1 hx with hx | hx
    · exact d1 c hx
    · rw [ec] at hx
      rcases List.mem_cons.1 hx with rfl | hx
      · rfl
      · rcases List.mem_append.1 hx with hx | hx
        · exact r1 c hx
        · exact o1 c hx
  · rcases List.mem_append.1 hx with hx | hx
    · exact d2 d hx
    · rw [eq, et] at hx
      rcases List.mem_cons.1 hx with rfl | hx
      · rfl
      · rcases List.mem_append.1 hx with hx | hx
        · exact r2 d hx
        · exact o2 d hx
  · have := o3.outs
    rw [o5] at this
    omega
end
end Go.Proofs.Ytijpkcdalmlaiaa
