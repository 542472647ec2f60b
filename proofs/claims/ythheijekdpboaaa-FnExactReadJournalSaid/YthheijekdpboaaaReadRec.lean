/-
  Records read from lines: the plain law, and both sides.
-/
import Derived.Test.YthheijekdpboaaaRead
import Derived.Test.YthheijekdpboaaaJournal
namespace Go.Proofs.Ythheijekdpboaaa
open Go.RowKit Go.Sort

theorem dec_sp (n : Nat) : (32 : UInt8) ∉ (decB n).data.toList := by
  intro h
  have h2 := dec_all n 32 (by simpa [decB] using h)
  have : (32 : UInt8).toNat = 32 := rfl
  omega
def IsRec (st sm : Int) (line : ByteArray) (r : Int × Int × Int) : Prop := recOk st sm r.1 r.2.1 r.2.2 = true ∧ recB r.1 r.2.1.toNat r.2.2.toNat = line
def upB : ByteArray := ⟨#[117, 112]⟩
def gotB : ByteArray := ⟨#[103, 111, 116]⟩
def outB : ByteArray := ⟨#[111, 117, 116]⟩
theorem recB_one (s v : Nat) : recB 1 s v = upB ++ (mkB [32] ++ (decB s ++ (mkB [32] ++ decB v))) := by
  unfold recB; rw [if_pos rfl]
  apply bext; simp [upB, mkB]
theorem recB_two (s v : Nat) : recB 2 s v = gotB ++ (mkB [32] ++ (decB s ++ (mkB [32] ++ decB v))) := by
  unfold recB; rw [if_neg (by decide), if_pos rfl]
  apply bext; simp [gotB, mkB]
theorem recB_three (s v : Nat) : recB 3 s v = outB ++ (mkB [32] ++ decB s) := by
  unfold recB; rw [if_neg (by decide), if_neg (by decide)]
  apply bext; simp [outB, mkB]
theorem cuts_rec1 (s v : Nat) : cuts (recB 1 s v) 32 = [upB, decB s, decB v] := by
  rw [recB_one, cuts_app (by decide), cuts_app (dec_sp _), cuts_one (dec_sp _)]
theorem cuts_rec2 (s v : Nat) : cuts (recB 2 s v) 32 = [gotB, decB s, decB v] := by
  rw [recB_two, cuts_app (by decide), cuts_app (dec_sp _), cuts_one (dec_sp _)]
theorem cuts_rec3 (s v : Nat) : cuts (recB 3 s v) 32 = [outB, decB s] := by
  rw [recB_three, cuts_app (by decide), cuts_one (dec_sp _)]
/-- what words say of a right record -/
theorem isRec_words {st sm : Int} {line : ByteArray} {r : Int × Int × Int} (h : IsRec st sm line r) (h2 : sm ≤ 8) (h4 : st ≤ 6) :
    (r.1 = 1 ∧ ∃ a b : Nat, r.2.1 = (a : Int) ∧ r.2.2 = (b : Int) ∧ a < 1000 ∧ b < 1000 ∧ cuts line 32 = [upB, decB a, decB b]) ∨
    (r.1 = 2 ∧ ∃ a b : Nat, r.2.1 = (a : Int) ∧ r.2.2 = (b : Int) ∧ a < 1000 ∧ b < 1000 ∧ cuts line 32 = [gotB, decB a, decB b]) ∨
    (r.1 = 3 ∧ ∃ a : Nat, r.2.1 = (a : Int) ∧ r.2.2 = 0 ∧ a < 1000 ∧ cuts line 32 = [outB, decB a]) := by
  obtain ⟨h1, e⟩ := h
  obtain ⟨hk, a, b, ha, hb, ha1, hb1⟩ := recOk_nat h1 h2 h4
  rw [ha, hb] at e
  simp only [Int.toNat_natCast] at e
  rcases hk with hk | hk | hk
  · rw [hk] at e
    exact .inl ⟨hk, a, b, ha, hb, ha1, hb1, by rw [← e, cuts_rec1]⟩
  · rw [hk] at e
    exact .inr (.inl ⟨hk, a, b, ha, hb, ha1, hb1, by rw [← e, cuts_rec2]⟩)
  · rw [hk] at e
    refine .inr (.inr ⟨hk, a, ha, ?_, ha1, by rw [← e, cuts_rec3]⟩)
    unfold recOk at h1
    rw [hk] at h1
    simp at h1
    exact h1.2
theorem decB_inj {a b : Nat} (h : decB a = decB b) : a = b := by
  have h3 : valG (decB a) 0 0 = valG (decB b) 0 0 := by rw [h]
  rw [valG_decB, valG_decB] at h3
  omega
theorem isRec_one {st sm : Int} {line : ByteArray} {r q : Int × Int × Int} (h : IsRec st sm line r) (h' : IsRec st sm line q) (h2 : sm ≤ 8) (h4 : st ≤ 6) : r = q := by
  obtain ⟨r0, r1, r2⟩ := r
  obtain ⟨q0, q1, q2⟩ := q
  rcases isRec_words h h2 h4 with ⟨rfl, a, b, ha, hb, _, _, e⟩ | ⟨rfl, a, b, ha, hb, _, _, e⟩ | ⟨rfl, a, ha, hb, _, e⟩ <;>
    rcases isRec_words h' h2 h4 with ⟨rfl, c, d, hc, hd, _, _, e2⟩ | ⟨rfl, c, d, hc, hd, _, _, e2⟩ | ⟨rfl, c, hc, hd, _, e2⟩ <;>
    (rw [e] at e2; simp at e2)
  · simp only at ha hb hc hd
    rw [ha, hb, hc, hd, decB_inj e2.1, decB_inj e2.2]
  · exact absurd e2.1 (by decide)
  · exact absurd e2.1 (by decide)
  · simp only at ha hb hc hd
    rw [ha, hb, hc, hd, decB_inj e2.1, decB_inj e2.2]
  · simp only at ha hb hc hd
    rw [ha, hb, hc, hd, decB_inj e2]
/-- the words' reading by the reference: kind, numbers -/
def kindW (x : ByteArray) : Int := if x = upB then 1 else if x = gotB then 2 else if x = outB then 3 else 0
theorem isRec_of {st sm : Int} {line x : ByteArray} {k : Int} {n : List Int} {y : List ByteArray} (hc : cuts line 32 = x :: y) (hk : kindW x = k)
    (hn : (n.length = 2 ∧ (k = 1 ∨ k = 2) ∧ y.length = 2 ∧ (∀ i (h : i < n.length) (h' : i < y.length), 0 ≤ n[i] → y[i] = decB n[i].toNat)) ∨ (n.length = 1 ∧ k = 3 ∧ y.length = 1 ∧ (∀ i (h : i < n.length) (h' : i < y.length), 0 ≤ n[i] → y[i] = decB n[i].toNat)))
    (hr : recOk st sm k (n.getD 0 0) (n.getD 1 0) = true) (h2 : sm ≤ 8) (h4 : st ≤ 6) : IsRec st sm line (k, n.getD 0 0, n.getD 1 0) := by
  refine ⟨hr, ?_⟩
  obtain ⟨hk3, a, b, ha, hb, _, _⟩ := recOk_nat hr h2 h4
  have hx : (k = 1 → x = upB) ∧ (k = 2 → x = gotB) ∧ (k = 3 → x = outB) := by
    unfold kindW at hk
    refine ⟨fun e => ?_, fun e => ?_, fun e => ?_⟩ <;> subst e <;> revert hk <;> (repeat' split) <;> simp_all
  rcases hn with ⟨hl, hkk, hyl, hd⟩ | ⟨hl, hkk, hyl, hd⟩
  · match n, hl, y, hyl with
    | [n0, n1], _, [y0, y1], _ =>
      simp at ha hb ⊢
      have e0 := hd 0 (by simp) (by simp) (by simp; omega)
      have e1 := hd 1 (by simp) (by simp) (by simp; omega)
      simp at e0 e1
      rw [e0, e1] at hc
      have h5 := cuts_back3 hc
      rcases hkk with rfl | rfl
      · rw [recB_one, h5, hx.1 rfl]
      · rw [recB_two, h5, hx.2.1 rfl]
  · match n, hl, y, hyl with
    | [n0], _, [y0], _ =>
      simp at ha ⊢
      have e0 := hd 0 (by simp) (by simp) (by simp; omega)
      simp at e0
      rw [e0] at hc
      have h5 := cuts_back2 hc
      subst hkk
      rw [recB_three, h5, hx.2.2 rfl]

/-- numbers as the program reads them -/
def readsG : List ByteArray → List Int → List Int × Bool
  | [], acc => (acc, true)
  | x :: r, acc => if (readG x).2 = true then readsG r (acc ++ [(readG x).1]) else ([], false)
theorem readsG_step {l : List ByteArray} {acc : List Int} {k : Nat} (h : k < l.length) : readsG (l.drop k) acc = if (readG l[k]).2 = true then readsG (l.drop (k + 1)) (acc ++ [(readG l[k]).1]) else ([], false) := by
  rw [List.drop_eq_getElem_cons h]; rfl
theorem readsG_spec : ∀ (l : List ByteArray) (acc : List Int), (readsG l acc).2 = true → (readsG l acc).1 = acc ++ l.map (fun x => (readG x).1) ∧ ∀ x ∈ l, x = decIB (readG x).1
  | [], acc, _ => by simp [readsG]
  | x :: r, acc, h => by
    unfold readsG at h ⊢
    by_cases hx : (readG x).2 = true
    · rw [if_pos hx] at h ⊢
      obtain ⟨h1, h2⟩ := readsG_spec r _ h
      refine ⟨by rw [h1]; simp, fun y hy => ?_⟩
      simp at hy
      rcases hy with rfl | hy
      · exact readG_back hx
      · exact h2 y hy
    · rw [if_neg hx] at h; simp at h
theorem numsG_spec : ∀ (l : List ByteArray) (acc : List Int), (numsG l acc).2 = true → (numsG l acc).1 = acc ++ l.map numN ∧ ∀ x ∈ l, 0 ≤ numN x
  | [], acc, _ => by simp [numsG]
  | x :: r, acc, h => by
    unfold numsG at h ⊢
    by_cases hx : numN x < 0
    · rw [if_pos hx] at h; simp at h
    · rw [if_neg hx] at h ⊢
      obtain ⟨h1, h2⟩ := numsG_spec r _ h
      refine ⟨by rw [h1]; simp, fun y hy => ?_⟩
      simp at hy
      rcases hy with rfl | hy
      · omega
      · exact h2 y hy
def recPick (x : ByteArray) (n : List Int) (ok : Bool) : Int × Int × Int :=
  if ok = true then (if x = upB ∧ n.length = 2 then (1, n.getD 0 0, n.getD 1 0) else if x = gotB ∧ n.length = 2 then (2, n.getD 0 0, n.getD 1 0) else if x = outB ∧ n.length = 1 then (3, n.getD 0 0, 0) else (0, 0, 0)) else (0, 0, 0)
/-- the record that the program makes of a line -/
def readRecR (line : ByteArray) : Int × Int × Int :=
  recPick ((cuts line 32).getD 0 ⟨#[]⟩) (readsG ((cuts line 32).drop 1) []).1 (readsG ((cuts line 32).drop 1) []).2
theorem readRecR_of {st sm : Int} {line : ByteArray} {r : Int × Int × Int} (h : IsRec st sm line r) (h2 : sm ≤ 8) (h4 : st ≤ 6) : readRecR line = r := by
  obtain ⟨r0, r1, r2⟩ := r
  rcases isRec_words h h2 h4 with ⟨rfl, a, b, ha, hb, ha1, hb1, e⟩ | ⟨rfl, a, b, ha, hb, ha1, hb1, e⟩ | ⟨rfl, a, ha, hb, ha1, e⟩ <;> simp only at ha hb <;> subst ha hb <;> unfold readRecR <;> rw [e]
  · simp [readsG, readG_decB (show a < 1000000000000000000 by omega), readG_decB (show b < 1000000000000000000 by omega), recPick]
  · have : ¬ gotB = upB := by decide
    simp [readsG, readG_decB (show a < 1000000000000000000 by omega), readG_decB (show b < 1000000000000000000 by omega), recPick, this]
  · have h5 : ¬ outB = upB := by decide
    have h6 : ¬ outB = gotB := by decide
    simp [readsG, readG_decB (show a < 1000000000000000000 by omega), recPick, h5, h6]
theorem cuts_cons (s : ByteArray) (c : UInt8) : cuts s c = (cuts s c).getD 0 ⟨#[]⟩ :: (cuts s c).drop 1 := by
  have := cuts_len s c
  cases h : cuts s c with
  | nil => rw [h] at this; simp at this
  | cons x r => rfl
theorem readRecR_back {st sm : Int} {line : ByteArray} (h2 : sm ≤ 8) (h4 : st ≤ 6) (h : recOk st sm (readRecR line).1 (readRecR line).2.1 (readRecR line).2.2 = true) : IsRec st sm line (readRecR line) := by
  have hz : recOk st sm 0 0 0 = false := by unfold recOk; simp
  have hc := cuts_cons line 32
  unfold readRecR at h ⊢
  generalize (cuts line 32).getD 0 ⟨#[]⟩ = x at hc h ⊢
  generalize hy : (cuts line 32).drop 1 = y at hc h ⊢
  generalize hn : readsG y [] = R at h ⊢
  obtain ⟨n, ok⟩ := R
  unfold recPick at h ⊢
  by_cases hok : ok = true
  · rw [if_pos hok] at h ⊢
    subst hok
    obtain ⟨h5, h6⟩ := readsG_spec y [] (by rw [hn])
    rw [hn] at h5
    simp at h5
    have hyl : y.length = n.length := by rw [h5]; simp
    have hdec : ∀ i (h : i < n.length) (h' : i < y.length), 0 ≤ n[i] → y[i] = decB n[i].toNat := by
      intro i hi hi' h0
      have h7 := h6 _ (List.getElem_mem hi')
      have h8 : n[i] = (readG y[i]).1 := by simp [h5]
      rw [h8] at h0 ⊢
      rw [← decIB_pos h0]; exact h7
    by_cases c1 : x = upB ∧ n.length = 2
    · rw [if_pos c1] at h ⊢
      exact isRec_of hc (k := 1) (by unfold kindW; rw [if_pos c1.1]) (.inl ⟨c1.2, .inl rfl, by omega, hdec⟩) h h2 h4
    · rw [if_neg c1] at h ⊢
      by_cases c2 : x = gotB ∧ n.length = 2
      · rw [if_pos c2] at h ⊢
        exact isRec_of hc (k := 2) (by unfold kindW; rw [if_neg (by rw [c2.1]; decide), if_pos c2.1]) (.inl ⟨c2.2, .inr rfl, by omega, hdec⟩) h h2 h4
      · rw [if_neg c2] at h ⊢
        by_cases c3 : x = outB ∧ n.length = 1
        · rw [if_pos c3] at h ⊢
          have e1 : n.getD 1 0 = 0 := by simp [c3.2]
          have := isRec_of hc (k := 3) (n := n) (st := st) (sm := sm) (by unfold kindW; rw [if_neg (by rw [c3.1]; decide), if_neg (by rw [c3.1]; decide), if_pos c3.1]) (.inr ⟨c3.2, rfl, by omega, hdec⟩) (by rw [e1]; exact h) h2 h4
          rw [e1] at this
          exact this
        · rw [if_neg c3] at h
          rw [hz] at h; simp at h
  · rw [if_neg hok] at h
    rw [hz] at h; simp at h
/-- the reference's reading: kind, numbers, and whether it is a record -/
def parseOk (st sm : Int) (k : Int) (n : List Int) (ok : Bool) : Bool :=
  ok && (decide (1 ≤ n.length) && (decide (n.length ≤ 2) && (decide (n.length = 1) == decide (k = 3) && recOk st sm k (n.getD 0 0) (n.getD 1 0))))
theorem parse_back {st sm : Int} {line : ByteArray} (h2 : sm ≤ 8) (h4 : st ≤ 6)
    (h : parseOk st sm (kindW ((cuts line 32).getD 0 ⟨#[]⟩)) (numsG ((cuts line 32).drop 1) []).1 (numsG ((cuts line 32).drop 1) []).2 = true) :
    IsRec st sm line (kindW ((cuts line 32).getD 0 ⟨#[]⟩), (numsG ((cuts line 32).drop 1) []).1.getD 0 0, (numsG ((cuts line 32).drop 1) []).1.getD 1 0) := by
  have hc := cuts_cons line 32
  generalize (cuts line 32).getD 0 ⟨#[]⟩ = x at hc h ⊢
  generalize hy : (cuts line 32).drop 1 = y at hc h ⊢
  generalize hn : numsG y [] = R at h ⊢
  obtain ⟨n, ok⟩ := R
  unfold parseOk at h
  simp only [Bool.and_eq_true, decide_eq_true_eq] at h
  obtain ⟨hok, l1, l2, hkl, hr⟩ := h
  subst hok
  have l1 : 1 ≤ n.length := l1
  have l2 : n.length ≤ 2 := l2
  obtain ⟨h5, h6⟩ := numsG_spec y [] (by rw [hn])
  rw [hn] at h5
  simp at h5
  have hyl : y.length = n.length := by rw [h5]; simp
  have hdec : ∀ i (h : i < n.length) (h' : i < y.length), 0 ≤ n[i] → y[i] = decB n[i].toNat := by
    intro i hi hi' h0
    have h8 : n[i] = numN y[i] := by simp [h5]
    rw [h8]
    exact numN_back (h6 _ (List.getElem_mem hi'))
  have hk := (recOk_nat hr h2 h4).1
  refine isRec_of hc rfl ?_ hr h2 h4
  by_cases e1 : n.length = 1
  · refine .inr ⟨e1, ?_, by omega, hdec⟩
    simp [e1] at hkl
    exact hkl
  · refine .inl ⟨show n.length = 2 by omega, ?_, by omega, hdec⟩
    simp [e1] at hkl
    omega
theorem parse_of {st sm : Int} {line : ByteArray} {r : Int × Int × Int} (h : IsRec st sm line r) (h2 : sm ≤ 8) (h4 : st ≤ 6) :
    parseOk st sm (kindW ((cuts line 32).getD 0 ⟨#[]⟩)) (numsG ((cuts line 32).drop 1) []).1 (numsG ((cuts line 32).drop 1) []).2 = true := by
  obtain ⟨r0, r1, r2⟩ := r
  have hr := h.1
  rcases isRec_words h h2 h4 with ⟨rfl, a, b, ha, hb, ha1, hb1, e⟩ | ⟨rfl, a, b, ha, hb, ha1, hb1, e⟩ | ⟨rfl, a, ha, hb, ha1, e⟩ <;> simp only at ha hb hr <;> subst ha hb <;> rw [e]
  · have n1 := numN_decB (show a < 1000000000 by omega)
    have n2 := numN_decB (show b < 1000000000 by omega)
    have k1 : kindW upB = 1 := by decide
    have c1 : ¬ (a : Int) < 0 := by omega
    have c2 : ¬ (b : Int) < 0 := by omega
    simp [numsG, n1, n2, c1, c2, parseOk, k1, hr]
  · have n1 := numN_decB (show a < 1000000000 by omega)
    have n2 := numN_decB (show b < 1000000000 by omega)
    have k1 : kindW gotB = 2 := by decide
    have c1 : ¬ (a : Int) < 0 := by omega
    have c2 : ¬ (b : Int) < 0 := by omega
    simp [numsG, n1, n2, c1, c2, parseOk, k1, hr]
  · have n1 := numN_decB (show a < 1000000000 by omega)
    have k1 : kindW outB = 3 := by decide
    have c1 : ¬ (a : Int) < 0 := by omega
    simp [numsG, n1, c1, parseOk, k1, hr]
/-- a line's record, if it is one -/
def recOf (st sm : Int) (line : ByteArray) : Option (Int × Int × Int) :=
  if recOk st sm (readRecR line).1 (readRecR line).2.1 (readRecR line).2.2 = true then some (readRecR line) else none
theorem recOf_parse {st sm : Int} {line : ByteArray} (h2 : sm ≤ 8) (h4 : st ≤ 6) :
    recOf st sm line = if parseOk st sm (kindW ((cuts line 32).getD 0 ⟨#[]⟩)) (numsG ((cuts line 32).drop 1) []).1 (numsG ((cuts line 32).drop 1) []).2 = true then some (kindW ((cuts line 32).getD 0 ⟨#[]⟩), (numsG ((cuts line 32).drop 1) []).1.getD 0 0, (numsG ((cuts line 32).drop 1) []).1.getD 1 0) else none := by
  unfold recOf
  split
  · rename_i h
    have h5 := readRecR_back h2 h4 h
    rw [if_pos (parse_of h5 h2 h4), isRec_one h5 (parse_back h2 h4 (parse_of h5 h2 h4)) h2 h4]
  · rename_i h
    rw [if_neg]
    intro hp
    have h5 := parse_back h2 h4 hp
    have h6 := readRecR_of h5 h2 h4
    apply h
    rw [h6]; exact h5.1
end Go.Proofs.Ythheijekdpboaaa
