/-
  Decks by search in depth: the program's decks, DeckAt and DeckNumber. With it: Numbers read behind a word. ReadGraph: plain part. IsColouring, both sides, and the codes of graphs, colours and lists. IsColouring, both sides. A search by (impl.Graph).isIndependent$1. Decks: all orders of few cards, as the reference lists them; the place of a deck among them. Rising runs: a deck's place among all, its runs, both sides.
-/
import Derived.Test.YtenemohjmemoiaaZRowReadGraph4
import Derived.Test.YtenemohjmemoiaaZRowReadGraph3
import Derived.Test.YtenemohjmemoiaaZRowReadGraph1
import Derived.Test.YtenemohjmemoiaaZRowReadGraph2
set_option linter.unusedVariables false
set_option linter.unusedSimpArgs false
namespace Go.Proofs.Ytenemohjmemoiaa
open Go.RowKit Go.Sort
def readsG : List ByteArray → List Int → List Int × Bool
  | [], acc => (acc, true)
  | x :: r, acc => if (readG x).2 = true then readsG r (acc ++ [(readG x).1]) else ([], false)
theorem readsG_step {l : List ByteArray} {acc : List Int} {k : Nat} (h : k < l.length) : readsG (l.drop k) acc = if (readG l[k]).2 = true then readsG (l.drop (k + 1)) (acc ++ [(readG l[k]).1]) else ([], false) := by
  rw [List.drop_eq_getElem_cons h]; rfl
theorem readsG_len : ∀ (l : List ByteArray) (acc : List Int), (readsG l acc).1.length ≤ acc.length + l.length
  | [], acc => by simp [readsG]
  | x :: r, acc => by
    unfold readsG
    split
    · have := readsG_len r (acc ++ [(readG x).1]); simp at this ⊢; omega
    · simp
/-- behind a word -/
def behindG (line word : ByteArray) : List Int × Bool := if (cuts line 32).getD 0 ⟨#[]⟩ = word then readsG ((cuts line 32).drop 1) [] else ([], false)
set_option maxHeartbeats 4000000 in
theorem numbersBehind_any (line word : ByteArray) (w : World) (hs : line.size ≤ 1048576) :
    Calls Try.prog 54 #[.string line, .string word] w fun e w' => ∃ v, e = .returned (tupVB v (behindG line word).2) ∧ OwnI w' w.heap.size v (behindG line word).1 ∧ Below w.heap.size w w' := by
  have hcl := cuts_lens line 32
  have hc1 := cuts_len line 32
  have hcs := hcl.2
  have hcl1 := hcl.1
  have hB : behindG line word = if (cuts line 32).getD 0 ⟨#[]⟩ = word then readsG ((cuts line 32).drop 1) [] else ([], false) := rfl
  generalize hL : cuts line 32 = L at hc1 hcs hcl1 hB
  have HL := Lib.hid hL
  have HSZ := Lib.hid hcs
  obtain ⟨m, hm⟩ : ∃ m, L.length = m + 1 := ⟨L.length - 1, by omega⟩
  have h0L : 0 < L.length := by omega
  have hx0 : L.getD 0 ⟨#[]⟩ = L[0]'h0L := by simp [h0L]
  rw [hx0] at hB
  have HM := Lib.hid hm
  clear hL hcl hcs hx0 hm
  by_cases he : L[0]'h0L = word
  · rw [if_pos he] at hB
    have HB := Lib.hid hB
    have ht := beq_yes he
    have htb : ∀ c : Nat, c = 1 ∨ ¬ c = 1 := fun c => Classical.em _
    generalize hx : L[0]'h0L = x at he ht
    have HX := Lib.hid hx
    clear he hB hx
    go_enter Try.func54, Try.ntmps54
    go_wp2_with fail
    refine (splitAt_any line 32 _ hs).mono ?_
    rintro e w1 ⟨v1, rfl, o1, b1⟩
    rw [HL.out] at o1
    rcases o1.forms with ⟨rfl, h0⟩ | ⟨g, c, rfl, hg, hg1, hgc, hgc2⟩
    · rw [h0] at hc1; simp at hc1
    unfold maxLen at hgc2
    have HS := Lib.hid (fun W (h : Below w1.heap.size w1 W) => o1.sl.below h)
    obtain ⟨b, off, hadr, _, gc⟩ := FS_get o1.sl (i := 0) (by omega)
    simp at hadr
    obtain ⟨rfl, rfl⟩ := hadr
    rw [HX.out] at gc
    simp only [Nat.add_zero] at gc
    have hmc := HM.out
    rw [hmc] at hgc HS ⊢
    have hm1 : m + 1 ≤ 1048577 := by omega
    clear o1 hmc hgc2 hcl1
    rcases htb c with hc | hc
    · subst hc
      obtain rfl : m = 0 := by omega
      go_wp2
      refine wp_loop_rounds 1 ?_
      rw [rounds_succ]
      go_wp2
      go_ret2
      have hB2 : behindG line word = ([], true) := by rw [HB.out, List.drop_of_length_le (by have := HM.out; omega)]; rfl
      exact ⟨_, by rw [hB2]; rfl, by rw [hB2]; exact (OwnI.empty _ (Nat.le_refl _)).lower b1.size, b1.alloc b1.size _⟩
    · go_wp2
      go_loopw [7, 9, 10, 11, 23] (fun v _ _ _ i wr => ∃ (k : Nat) (acc : List Int), k ≤ m ∧ i = .int .i64 k ∧ acc.length ≤ k ∧ Hid (readsG (L.drop 1) [] = readsG (L.drop (k + 1)) acc) ∧ OwnI wr w1.heap.size v acc ∧ Below w1.heap.size w1 wr) (fun _ _ _ _ i _ => m - (intOf i).toNat)
      case atStart => exact ⟨0, [], Nat.zero_le _, rfl, Nat.le_refl _, rfl, OwnI.empty _ (Nat.le_refl _), (Below.refl _ _).alloc (Nat.le_refl _) _⟩
      case round =>
        obtain ⟨k, acc, hk, rfl, hacc, hrd, hown, hbr⟩ := hrel
        have hbw := b1.trans (hbr.mono b1.size)
        by_cases hlt : k < m
        · obtain ⟨b, off, hadr, _, gc⟩ := FS_get (HS.out _ hbr) (i := k + 1) (by have := HM.out; omega)
          simp at hadr
          obtain ⟨rfl, rfl⟩ := hadr
          rw [show 0 + (k + 1) = 1 + k by omega] at gc
          have i1 : (k : Int) < (m : Int) := by omega
          have hz := HSZ.out _ (List.getElem_mem (show k + 1 < L.length by have := HM.out; omega))
          have hst := readsG_step (l := L) (acc := acc) (k := k + 1) (by have := HM.out; omega)
          generalize L[k + 1]'(by have := HM.out; omega) = y at gc hz hst
          generalize hry : readG y = R at hst
          obtain ⟨n, ok⟩ := R
          have HRY := Lib.hid hry
          have HST := Lib.hid hst
          have hwz := hbr.size
          clear hst hry
          cases ok
          · go_wp2_with (go_at_call 112; refine (readDecimal_any y _ (by omega)).mono ?_; rintro e w3 ⟨rfl, b3⟩; rw [HRY.out]; unfold tupNB)
            go_ret2
            have hB2 : behindG line word = ([], false) := by rw [HB.out, hrd.out, HST.out]; rfl
            exact ⟨_, by rw [hB2]; rfl, by rw [hB2]; exact OwnI.nil _ _, hbw.trans (b3.mono hbw.size)⟩
          · go_wp2_with (first
              | (go_at_call 112; refine (readDecimal_any y _ (by omega)).mono ?_; rintro e w3 ⟨rfl, b3⟩; rw [HRY.out]; unfold tupNB; have o3 := hown.below b3; have hb3 := hbr.trans (b3.mono hbr.size); have z3 := hb3.size)
              | (at_builtin; refine append_i64 _ _ _ _ rfl rfl rfl o3 rfl (by omega) (by omega) ?_))
            intro v' w4 o4 hb4 z4
            have hb5 : Below w1.heap.size w1 w4 := (hb3.alloc z3 _).trans hb4
            clear hown o3 b3 hb4
            go_wp2
            go_roundw
            case rel => exact ⟨k + 1, acc ++ [n], by omega, by go_num, by simp; omega, by unfold Hid at *; rw [hrd, HST]; rfl, o4, hb5⟩
            case measure => simp [intOf]; omega
        · obtain rfl : k = m := by omega
          go_wp2
          go_ret2
          have hB2 : behindG line word = (acc, true) := by rw [HB.out, hrd.out, List.drop_of_length_le (by have := HM.out; omega)]; rfl
          exact ⟨_, by rw [hB2]; rfl, by rw [hB2]; exact hown.lower b1.size, hbw⟩

  · rw [if_neg he] at hB
    have HB := Lib.hid hB
    have ht := beq_no he
    generalize hx : L[0]'h0L = x at he ht
    have HX := Lib.hid hx
    clear he hB hx
    go_enter Try.func54, Try.ntmps54
    go_wp2_with fail
    refine (splitAt_any line 32 _ hs).mono ?_
    rintro e w1 ⟨v1, rfl, o1, b1⟩
    rw [HL.out] at o1
    obtain ⟨la, lc, rfl, lm1, lm2, _⟩ := id o1.sl
    unfold maxLen at lm2
    obtain ⟨b, off, rfl, _, gc⟩ := FS_get o1.sl (i := 0) (by omega)
    rw [HX.out] at gc
    simp only [Nat.add_zero] at gc
    have i1 : (0 : Int) < (L.length : Int) := by omega
    have i1n : 0 < L.length := by omega
    go_wp2
    go_ret2
    exact ⟨_, by rw [HB.out]; rfl, by rw [HB.out]; exact OwnI.nil _ _, b1⟩
end Go.Proofs.Ytenemohjmemoiaa
namespace Go.Proofs.Ytenemohjmemoiaa
open Go.RowKit Go.Sort
theorem wordsL_snoc (c : UInt8) : ∀ (l pre : List UInt8), wordsL c pre (l ++ [c]) = wordsL c pre l ++ [[]]
  | [], pre => by simp [wordsL]
  | x :: r, pre => by
    rw [List.cons_append]
    unfold wordsL
    split
    · rw [wordsL_snoc c r []]; simp
    · rw [wordsL_snoc c r _]
theorem cuts_snoc (s : ByteArray) (c : UInt8) : cuts (s ++ mkB [c]) c = cuts s c ++ [⟨#[]⟩] := by
  rw [cuts_eq, cuts_eq, app_list, mkB_data, wordsL_snoc]
  simp [mkB]
/-- lines, each with its end -/
def txtL (c : UInt8) : List ByteArray → ByteArray
  | [] => ⟨#[]⟩
  | x :: r => x ++ (mkB [c] ++ txtL c r)
theorem cuts_txt {c : UInt8} : ∀ {ls : List ByteArray}, (∀ x ∈ ls, c ∉ x.data.toList) → cuts (txtL c ls) c = ls ++ [⟨#[]⟩]
  | [], _ => by rw [cuts_one (by simp [txtL])]; rfl
  | x :: r, h => by
    show cuts (x ++ (mkB [c] ++ txtL c r)) c = _
    rw [cuts_app (h x (by simp)), cuts_txt (fun y hy => h y (by simp [hy]))]; rfl
theorem txtL_end {c : UInt8} : ∀ {ls : List ByteArray}, ls ≠ [] → ∃ s, txtL c ls = s ++ mkB [c]
  | [], h => absurd rfl h
  | [x], _ => ⟨x, by show x ++ (mkB [c] ++ (⟨#[]⟩ : ByteArray)) = _; apply ByteArray.ext; simp [mkB]⟩
  | x :: y :: r, _ => by
    obtain ⟨s, hs⟩ := txtL_end (c := c) (ls := y :: r) (by simp)
    exact ⟨x ++ (mkB [c] ++ s), by
      show x ++ (mkB [c] ++ txtL c (y :: r)) = _
      rw [hs]; apply ByteArray.ext; simp [mkB]⟩
def graphB : ByteArray := ⟨#[103, 114, 97, 112, 104]⟩
def edgeB : ByteArray := ⟨#[101, 100, 103, 101]⟩
def headOf (m : Nat) : ByteArray := graphB ++ (mkB [32] ++ decB m)
def lineOf (e : List Int) : ByteArray := edgeB ++ (mkB [32] ++ (decB (e.getD 0 0).toNat ++ (mkB [32] ++ decB (e.getD 1 0).toNat)))
theorem linesG_txt : ∀ (es : List (List Int)) (acc : ByteArray), linesG acc es = acc ++ txtL 10 (es.map lineOf)
  | [], acc => by apply ByteArray.ext; simp [linesG, txtL]
  | e :: r, acc => by
    show linesG (acc ++ edgeLn e) r = _
    rw [linesG_txt r]
    show _ = acc ++ (lineOf e ++ (mkB [10] ++ txtL 10 (r.map lineOf)))
    generalize txtL 10 (r.map lineOf) = t
    apply ByteArray.ext
    simp [edgeLn, lineOf, edgeB, mkB]
theorem graphTx_txt (m : Nat) (es : List (List Int)) : graphTx m es = txtL 10 (headOf m :: es.map lineOf) := by
  unfold graphTx
  rw [linesG_txt]
  show _ = headOf m ++ (mkB [10] ++ txtL 10 (es.map lineOf))
  generalize txtL 10 (es.map lineOf) = t
  apply ByteArray.ext
  simp [headG, headOf, graphB, mkB]
theorem dec_no {c : UInt8} (h : c.toNat < 48) (n : Nat) : c ∉ (decB n).data.toList := by
  intro hm
  have := dec_all n c hm
  omega
theorem line_no (e : List Int) : (10 : UInt8) ∉ (lineOf e).data.toList := by
  unfold lineOf
  simp only [app_list, mkB_data, List.mem_append, not_or]
  exact ⟨by decide, by decide, dec_no (by decide) _, by decide, dec_no (by decide) _⟩
theorem head_no (m : Nat) : (10 : UInt8) ∉ (headOf m).data.toList := by
  unfold headOf
  simp only [app_list, mkB_data, List.mem_append, not_or]
  exact ⟨by decide, by decide, dec_no (by decide) _⟩
theorem lines_no (m : Nat) (es : List (List Int)) : ∀ x ∈ headOf m :: es.map lineOf, (10 : UInt8) ∉ x.data.toList := by
  intro x hx
  simp only [List.mem_cons, List.mem_map] at hx
  rcases hx with rfl | ⟨e, _, rfl⟩
  · exact head_no m
  · exact line_no e
theorem cuts_graph (m : Nat) (es : List (List Int)) : cuts (graphTx m es) 10 = headOf m :: es.map lineOf ++ [⟨#[]⟩] := by rw [graphTx_txt, cuts_txt (lines_no m es)]
theorem cuts_head (m : Nat) : cuts (headOf m) 32 = [graphB, decB m] := by
  unfold headOf; rw [cuts_app (by decide), cuts_one (dec_no (by decide) _)]
theorem cuts_line (e : List Int) : cuts (lineOf e) 32 = [edgeB, decB (e.getD 0 0).toNat, decB (e.getD 1 0).toNat] := by
  unfold lineOf; rw [cuts_app (by decide), cuts_app (dec_no (by decide) _), cuts_one (dec_no (by decide) _)]
/-- a number of one or two digits -/
def num2 (s : ByteArray) : Int := if 1 ≤ s.size ∧ s.size ≤ 2 then valG s 0 0 else -1
theorem num2_dec {n : Nat} (h : n < 10) : num2 (decB n) = n := by
  have h1 := decB_size_le (k := 0) (n := n) (by omega)
  have h2 : 1 ≤ (decB n).size := by
    have := dec_ne n
    rw [show (decB n).size = (dec n).length from (len_data (decB n)).symm]
    cases hd : dec n with
    | nil => exact absurd hd this
    | cons a r => simp
  unfold num2
  rw [if_pos ⟨h2, by omega⟩, valG_decB]
def wordAt (s : ByteArray) (i : Nat) : ByteArray := (cuts s 32).getD i ⟨#[]⟩
def edgeP (l : ByteArray) : List Int := [num2 (wordAt l 1), num2 (wordAt l 2)]
def midL {α : Type} (L : List α) : List α := (L.drop 1).take (L.length - 2)
def readP (text : ByteArray) : Int × List (List Int) := (num2 (wordAt ((cuts text 10).getD 0 ⟨#[]⟩) 1), (midL (cuts text 10)).map edgeP)
def isGr (text : ByteArray) (g : Int × List (List Int)) : Bool := graphOk g.1 g.2 && decide (graphTx g.1.toNat g.2 = text)
def rdG (text : ByteArray) : (Int × List (List Int)) × Int := if text.size ≤ 2000 then (if isGr text (readP text) = true then (readP text, 0) else ((0, []), 5)) else ((0, []), 2)
theorem readP_tx {n : Int} {es : List (List Int)} (h : graphOk n es = true) : readP (graphTx n.toNat es) = (n, es) := by
  obtain ⟨m, rfl, h1, h5, hE, _⟩ := graphOk_all h
  rw [Int.toNat_natCast]
  have hc := cuts_graph m es
  unfold readP
  rw [hc]
  have e1 : midL (headOf m :: es.map lineOf ++ [(⟨#[]⟩ : ByteArray)]) = es.map lineOf := by
    unfold midL
    simp
  rw [e1]
  have e2 : (headOf m :: es.map lineOf ++ [(⟨#[]⟩ : ByteArray)]).getD 0 ⟨#[]⟩ = headOf m := rfl
  rw [e2]
  have e3 : wordAt (headOf m) 1 = decB m := by unfold wordAt; rw [cuts_head]; rfl
  rw [e3, num2_dec (by omega), List.map_map]
  refine Prod.ext rfl ?_
  show es.map (edgeP ∘ lineOf) = es
  conv => rhs; rw [← List.map_id es]
  refine List.map_congr_left (fun e he => ?_)
  obtain ⟨p, q, rfl, hpq, hq⟩ := hE e he
  show edgeP (lineOf [(p : Int), (q : Int)]) = [(p : Int), (q : Int)]
  unfold edgeP wordAt
  rw [cuts_line]
  show [num2 (decB p), num2 (decB q)] = _
  rw [num2_dec (by omega), num2_dec (by omega)]
theorem isGr_of {n : Int} {es : List (List Int)} {text : ByteArray} (h : graphOk n es = true) (ht : graphTx n.toNat es = text) : isGr text (n, es) = true := by
  unfold isGr; simp [h, ht]
theorem isGr_and {g : Int × List (List Int)} {text : ByteArray} (h : isGr text g = true) : graphOk g.1 g.2 = true ∧ graphTx g.1.toNat g.2 = text := by
  unfold isGr at h
  rw [Bool.and_eq_true, decide_eq_true_eq] at h
  exact h
/-- whichever way it is read -/
theorem rdG_of {text : ByteArray} (hz : text.size ≤ 2000) (g : Int × List (List Int)) (h : isGr text (readP text) = true → readP text = g) : rdG text = if isGr text g = true then (g, 0) else ((0, []), 5) := by
  unfold rdG
  rw [if_pos hz]
  by_cases hg : isGr text g = true
  · obtain ⟨h1, h2⟩ := isGr_and hg
    have := readP_tx h1
    rw [h2] at this
    rw [if_pos hg, this, if_pos (show isGr text (g.1, g.2) = true from hg)]
  · rw [if_neg hg, if_neg]
    intro hr
    rw [h hr] at hr
    exact hg hr
theorem rdG_none {text : ByteArray} (hz : text.size ≤ 2000) (h : ¬ isGr text (readP text) = true) : rdG text = ((0, []), 5) := by
  unfold rdG
  rw [if_pos hz, if_neg h]
/-- what a right text has -/
theorem right_text {text : ByteArray} (h : isGr text (readP text) = true) : ∃ (m : Nat) (es : List (List Int)), readP text = ((m : Int), es) ∧ 1 ≤ m ∧ m ≤ 5 ∧ EdgesB m es ∧ es.length ≤ 25 ∧ cuts text 10 = headOf m :: es.map lineOf ++ [⟨#[]⟩] ∧ ∃ s, text = s ++ mkB [10] := by
  obtain ⟨h1, h2⟩ := isGr_and h
  generalize readP text = g at h1 h2
  obtain ⟨n, es⟩ := g
  obtain ⟨m, rfl, h3, h4, h5, h6⟩ := graphOk_all h1
  refine ⟨m, es, rfl, h3, h4, h5, h6, ?_, ?_⟩
  · rw [← h2]; exact cuts_graph m es
  · rw [← h2, show graphTx ((m : Int), es).1.toNat ((m : Int), es).2 = graphTx m es from rfl, graphTx_txt]
    exact txtL_end (by simp)
theorem behind_head (m : Nat) (h : m < 10) : behindG (headOf m) graphB = ([(m : Int)], true) := by
  unfold behindG
  rw [cuts_head]
  show (if graphB = graphB then readsG [decB m] [] else ([], false)) = _
  rw [if_pos rfl]
  unfold readsG
  rw [readG_decB (by omega), if_pos rfl]
  rfl
theorem behind_line {p q : Nat} (h : p < 10) (h2 : q < 10) : behindG (lineOf [(p : Int), (q : Int)]) edgeB = ([(p : Int), (q : Int)], true) := by
  unfold behindG
  rw [cuts_line]
  show (if edgeB = edgeB then readsG [decB p, decB q] [] else ([], false)) = _
  rw [if_pos rfl]
  unfold readsG
  rw [readG_decB (by omega), if_pos rfl]
  unfold readsG
  rw [readG_decB (by omega), if_pos rfl]
  rfl
/-- the program's reading: lines to edges -/
def readsE : List ByteArray → List (List Int) → Option (List (List Int))
  | [], acc => some acc
  | l :: r, acc => if (behindG l edgeB).2 = true then readsE r (acc ++ [(behindG l edgeB).1]) else none
theorem readsE_step {L : List ByteArray} {acc : List (List Int)} {k : Nat} (h : k < L.length) : readsE (L.drop k) acc = if (behindG L[k] edgeB).2 = true then readsE (L.drop (k + 1)) (acc ++ [(behindG L[k] edgeB).1]) else none := by
  rw [List.drop_eq_getElem_cons h]; rfl
theorem readsE_tx {m : Nat} (hm : m ≤ 5) : ∀ {es : List (List Int)} (acc : List (List Int)), EdgesB m es → readsE (es.map lineOf) acc = some (acc ++ es)
  | [], acc, _ => by simp [readsE]
  | e :: r, acc, h => by
    obtain ⟨p, q, rfl, hpq, hq⟩ := h e (by simp)
    show (if (behindG (lineOf [(p : Int), (q : Int)]) edgeB).2 = true then readsE (r.map lineOf) (acc ++ [(behindG (lineOf [(p : Int), (q : Int)]) edgeB).1]) else none) = _
    rw [behind_line (by omega) (by omega), if_pos rfl, readsE_tx hm _ (fun e he => h e (by simp [he]))]
    simp
/-- the program's reading -/
def readI (L : List ByteArray) : Option (Int × List (List Int)) :=
  if ((behindG (L.getD 0 ⟨#[]⟩) graphB).2 && decide ((behindG (L.getD 0 ⟨#[]⟩) graphB).1.length = 1)) = true then (readsE (L.drop 1) []).map (fun es => ((behindG (L.getD 0 ⟨#[]⟩) graphB).1.getD 0 0, es)) else none
theorem readI_right {s : ByteArray} (h : isGr (s ++ mkB [10]) (readP (s ++ mkB [10])) = true) : readI (cuts s 10) = some (readP (s ++ mkB [10])) := by
  obtain ⟨m, es, hr, h1, h5, hE, _, hc, _⟩ := right_text h
  rw [cuts_snoc] at hc
  have hc2 : cuts s 10 = headOf m :: es.map lineOf := List.append_cancel_right hc
  rw [hr, hc2]
  unfold readI
  show (if ((behindG (headOf m) graphB).2 && decide ((behindG (headOf m) graphB).1.length = 1)) = true then (readsE (es.map lineOf) []).map (fun es => ((behindG (headOf m) graphB).1.getD 0 0, es)) else none) = _
  rw [behind_head m (by omega), if_pos (by simp), readsE_tx h5 [] hE]
  rfl
theorem rdG_I {s : ByteArray} (hz : (s ++ mkB [10]).size ≤ 2000) : rdG (s ++ mkB [10]) = match readI (cuts s 10) with
    | some g => if isGr (s ++ mkB [10]) g = true then (g, 0) else ((0, []), 5)
    | none => ((0, []), 5) := by
  cases hr : readI (cuts s 10) with
  | some g => exact rdG_of hz g (fun h => by have := readI_right h; rw [hr] at this; exact (Option.some.inj this).symm)
  | none => exact rdG_none hz (fun h => by have := readI_right h; rw [hr] at this; exact absurd this (by simp))
theorem rdG_I0 {text : ByteArray} (hz : text.size ≤ 2000) (h : ∀ s, text ≠ s ++ mkB [10]) : rdG text = ((0, []), 5) := rdG_none hz (fun hr => by
  obtain ⟨_, _, _, _, _, _, _, _, s, hs⟩ := right_text hr
  exact h s hs)
theorem isGr_rows {text : ByteArray} {g : Int × List (List Int)} (h : isGr text g = true) : (∀ x ∈ g.2, x.length = 2) ∧ g.2.length ≤ 25 := by
  obtain ⟨h1, _⟩ := isGr_and h
  obtain ⟨m, hm, _, _, hE, hl⟩ := graphOk_all h1
  refine ⟨fun x hx => ?_, hl⟩
  obtain ⟨p, q, rfl, _, _⟩ := hE x hx
  rfl
end Go.Proofs.Ytenemohjmemoiaa
namespace Go.Proofs.Ytenemohjmemoiaa
open Go.RowKit Go.Sort
theorem all_false_at {p : Int → Bool} {l : List Int} {k : Nat} (h : k < l.length) (hp : p l[k] = false) : l.all p = false := by
  rw [List.all_eq_false]; exact ⟨l[k], List.getElem_mem h, by rw [hp]; simp⟩
theorem all_take_succ {p : Int → Bool} {l : List Int} {k : Nat} (h : (l.take k).all p = true) (hk : k < l.length) (hp : p l[k] = true) : (l.take (k + 1)).all p = true := by
  rw [List.take_succ_eq_append_getElem hk, List.all_append, h]; simp [hp]
def askedC (n : Int) (es : List (List Int)) (q : Int) (right : Bool) : Int := if graphOk n es = false then 1 else if inR q 1 4 = false then 2 else if right = false then 2 else 0
set_option maxHeartbeats 1000000 in
theorem l08Asked_any {v : Value} {es : List (List Int)} (b o : Nat) (n q : Int) (right : Bool) (w : World) (hc : GraphAt w b o n v) (ha : SlII w v es) :
    Calls Try.prog 117 #[.pointer (some ⟨b, o, none⟩), .int .i64 q, .bool right] w fun e w' => e = .returned (.int .i64 (askedC n es q right)) ∧ Below w.heap.size w w' := by
  generalize hg : graphOk n es = g
  generalize hq : inR q 1 4 = p
  have HG := Lib.hid hg
  have HQ := Lib.hid hq
  clear hg hq
  cases g
  · go_enter Try.func117, Try.ntmps117
    go_wp2_with (go_at_call 51; refine (l08Ok_any b o n _ hc ha).mono ?_; rintro e w1 ⟨rfl, b1⟩; rw [HG.out])
    go_ret
    exact ⟨ri (by unfold askedC; rw [HG.out]; rfl), b1⟩
  · cases p <;> cases right
    all_goals
      go_enter Try.func117, Try.ntmps117
      go_wp2_with (first
        | (go_at_call 51; refine (l08Ok_any b o n _ hc ha).mono ?_; rintro e w1 ⟨rfl, b1⟩; rw [HG.out])
        | (go_at_call 63; refine (l00In_any _ _ _ _).mono ?_; rintro e w' ⟨rfl, rfl⟩; rw [HQ.out]))
      go_ret
      exact ⟨ri (by unfold askedC; rw [HG.out, HQ.out]; rfl), b1⟩
theorem all_any_not {l : List Int} {lo hi : Int} : (!(l.any fun c => !inR c lo hi)) = l.all fun c => inR c lo hi := by
  rw [Bool.eq_iff_iff]; simp
def codeC (n : Int) (es : List (List Int)) (q : Int) (lists : List (List Int)) : Int := if graphOk n es = false then 1 else if inR q 1 4 = false then 2 else if lists.all (fun l => colsOk n 0 (q - 1) l) = false then 2 else 0
/-- a new array with one slice in it, as a slice of slices -/
theorem slii_one {w : World} {u : Value} {xs : List Int} (hu : SlI w u xs) : SlII (w.alloc (.cells #[u] 31)) (.slice (some ⟨w.heap.size, 0, none⟩) 1 1) [xs] := by
  refine ⟨_, 1, [u], rfl, by simp, by simp [maxLen], rfl, rd_new w #[u] _, fun i hi x hx => ?_⟩
  cases i with
  | zero => simp at hx; subst hx; exact hu.below ((Below.refl _ _).alloc (Nat.le_refl _) _)
  | succ i => simp at hi
end Go.Proofs.Ytenemohjmemoiaa
namespace Go.Proofs.Ytenemohjmemoiaa
open Go.RowKit Go.Sort
def sameE (cs : List Int) (e : List Int) : Bool := decide (cs.getD (e.getD 0 0).toNat 0 = cs.getD (e.getD 1 0).toNat 0)
theorem properB_eq (es : List (List Int)) (cs : List Int) : properB es cs = !(es.any (sameE cs)) := rfl
theorem sameE_two {cs : List Int} {a c : Nat} (h1 : a < cs.length) (h2 : c < cs.length) : sameE cs [(a : Int), (c : Int)] = decide (cs[a] = cs[c]) := by
  simp [sameE, List.getD_eq_getElem?_getD, List.getElem?_eq_getElem h1, List.getElem?_eq_getElem h2]
theorem any_take_succL {α : Type} {p : α → Bool} {l : List α} {k : Nat} (h : (l.take k).any p = false) (hk : k < l.length) (he : p l[k] = false) : (l.take (k + 1)).any p = false := by
  rw [List.take_succ_eq_append_getElem hk, List.any_append, h]; simp [he]
theorem any_atL {α : Type} {p : α → Bool} {l : List α} {k : Nat} (hk : k < l.length) (he : p l[k] = true) : l.any p = true := by
  rw [List.any_eq_true]; exact ⟨_, List.getElem_mem hk, he⟩
def tupBI (r : Bool × Int) : Value := .tuple #[.bool r.1, .int .i64 r.2]
def isColR (n : Int) (es : List (List Int)) (q : Int) (cs : List Int) : Bool × Int :=
  let code := askedC n es q (colsOk n 0 (IntKind.i64.wrap (q - 1)) cs)
  if code = 0 then (properB es cs, 0) else (false, code)
theorem askedC_ok {n q : Int} {es : List (List Int)} {r : Bool} (h : askedC n es q r = 0) : graphOk n es = true ∧ 1 ≤ q ∧ q ≤ 4 ∧ r = true := by
  unfold askedC at h
  split at h
  · simp at h
  · rename_i h1
    split at h
    · simp at h
    · rename_i h2
      split at h
      · simp at h
      · rename_i h3
        have h2' : inR q 1 4 = true := by simpa using h2
        have := inR_iff.1 h2'
        exact ⟨by simpa using h1, this.1, this.2, by simpa using h3⟩
theorem askedC_rng {n q : Int} {es : List (List Int)} {r : Bool} : askedC n es q r = 0 ∨ askedC n es q r = 1 ∨ askedC n es q r = 2 := by
  unfold askedC
  split
  · simp
  · split
    · simp
    · split <;> simp
theorem colsOk_len {n lo hi : Int} {cs : List Int} (h : colsOk n lo hi cs = true) : (cs.length : Int) = n ∧ ∀ c ∈ cs, lo ≤ c ∧ c ≤ hi := by
  unfold colsOk at h
  rw [Bool.and_eq_true, List.all_eq_true] at h
  exact ⟨of_decide_eq_true h.2, fun c hc => inR_iff.1 (h.1 c hc)⟩
theorem codeC_one {n q : Int} {es : List (List Int)} {cs : List Int} : codeC n es q [cs] = askedC n es q (colsOk n 0 (IntKind.i64.wrap (q - 1)) cs) := by
  unfold codeC askedC
  split
  · rfl
  · split
    · rfl
    · rename_i h
      have h2' : inR q 1 4 = true := by simpa using h
      have := inR_iff.1 h2'
      rw [IntWalk.i64_in _ (by omega)]
      simp
end Go.Proofs.Ytenemohjmemoiaa
namespace Go.Proofs.Ytenemohjmemoiaa
open Go.RowKit Go.Sort
set_option maxHeartbeats 1000000 in
theorem IndexFuncInd_any {u : Value} {xs : List (List Int)} (cap0 : Value) (p : List Int → Bool) (w : World) (ha : SlII w u xs)
    (hf : ∀ W x u, Below w.heap.size w W → x ∈ xs → SlI W u x → Calls Try.prog 123 #[u, cap0] W fun e w' => e = .returned (.bool (p x)) ∧ Below W.heap.size W w') :
    Calls Try.prog 149 #[u, .func (.func 123) #[] #[cap0]] w fun e w' => e = .returned (.int .i64 (ixRow p xs 0)) ∧ Below w.heap.size w w' := by
  obtain ⟨a, ca, us, rfl, hca, hca', hul, hrd, hrow⟩ := ha
  have HU := Lib.hid hul
  have HR := Lib.hid hrow
  clear hul hrow
  unfold maxLen at hca'
  have HF := Lib.hid hf
  clear hf
  go_enter Try.func149, Try.ntmps149
  go_wp2
  go_loopw [5, 8] (fun _ i wr => ∃ k : Nat, k ≤ xs.length ∧ i = .int .i64 k ∧ Hid (ixRow p xs 0 = ixRow p (xs.drop k) k) ∧ Below w.heap.size w wr) (fun _ i _ => xs.length - (intOf i).toNat)
  case atStart => exact ⟨0, Nat.zero_le _, rfl, rfl, Below.refl _ _⟩
  case round =>
    obtain ⟨k, hk, rfl, hno, hbw⟩ := hrel
    by_cases hlt : k < xs.length
    · obtain ⟨x, b, off, rfl, gc, sx⟩ := SlII.row HU.out (hrd.below hbw) (fun i hi u hu => (HR.out i hi u hu).below hbw) hlt
      obtain ⟨xa, xc, rfl, _⟩ := id sx
      have i1 : (k : Int) < (xs.length : Int) := by omega
      have hst := ixRow_step (p := p) hlt
      have HS := Lib.hid hst
      clear hst
      generalize hp : p xs[k] = P
      have HP := Lib.hid hp
      clear hp
      cases P
      · go_wp2_with fail
        refine (HF.out _ xs[k] _ hbw (List.getElem_mem hlt) sx).mono ?_
        rintro e w2 ⟨rfl, b2⟩
        rw [HP.out]
        have bq := hbw.trans (b2.mono hbw.size)
        go_wp2
        go_roundw
        case rel => exact ⟨k + 1, by omega, by go_num, by unfold Hid at *; rw [hno, HS, HP]; rfl, bq⟩
        case measure => simp [intOf]; omega
      · go_wp2_with fail
        refine (HF.out _ xs[k] _ hbw (List.getElem_mem hlt) sx).mono ?_
        rintro e w2 ⟨rfl, b2⟩
        rw [HP.out]
        have bq := hbw.trans (b2.mono hbw.size)
        go_wp2
        go_ret
        exact ⟨ri (by rw [hno.out, HS.out, HP.out]; rfl), bq⟩
    · obtain rfl : k = xs.length := by omega
      go_wp2
      go_ret
      exact ⟨ri (by rw [hno.out]; simp [ixRow]), hbw⟩
set_option maxHeartbeats 400000 in
theorem ContainsFuncInd_any {u : Value} {xs : List (List Int)} (cap0 : Value) (p : List Int → Bool) (w : World) (ha : SlII w u xs)
    (hf : ∀ W x u, Below w.heap.size w W → x ∈ xs → SlI W u x → Calls Try.prog 123 #[u, cap0] W fun e w' => e = .returned (.bool (p x)) ∧ Below W.heap.size W w') :
    Calls Try.prog 120 #[u, .func (.func 123) #[] #[cap0]] w fun e w' => e = .returned (.bool (xs.any p)) ∧ Below w.heap.size w w' := by
  have hx := ixRow_any p xs 0
  obtain ⟨hb0, hb1⟩ := ixRow_bd p xs 0
  obtain ⟨a, ca, us, rfl, hca, hca', _⟩ := id ha
  unfold maxLen at hca'
  have HF := Lib.hid hf
  have HX := Lib.hid hx
  clear hf hx
  go_enter Try.func120, Try.ntmps120
  go_wp2_with fail
  refine (IndexFuncInd_any cap0 p _ ha HF.out).mono ?_
  rintro e w2 ⟨rfl, b2⟩
  go_wp2
  go_ret
  exact ⟨rb HX.out, b2⟩
end Go.Proofs.Ytenemohjmemoiaa
namespace Go.Proofs.Ytenemohjmemoiaa
open Go.RowKit

/-- append(v, u) on owned rows, u a row that has been made since -/
theorem append_row {ops : Array Oper} {rest : List Oper} {o : Oper} {a : Act} {Q : Exit → Act → World → Prop} (w0 w : World) (s x : Operand) (hg : o.guard = none)
    (ho : o.op = .call { callee := .builtin .append, args := #[s, x], argTypes := #[22, 22] })
    {base : Nat} {v u : Value} {xss : List (List Int)} {xs : List Int} (hs : a.eval s = v) (hown : OwnII w0 base v xss) (hb : Below w0.heap.size w0 w) (hu : OwnI w w0.heap.size u xs) {t : Nat} (hx : a.eval x = .slice (some ⟨w.heap.size, 0, none⟩) 1 1)
    (hlen : xss.length < 16777216) (hbase : base ≤ w0.heap.size)
    (h : ∀ v' w', OwnII w' base v' (xss ++ [xs]) → Below base (w.alloc (.cells #[u] t)) w' → w.heap.size < w'.heap.size → wpList Try.prog ops Q rest (a.put o.dst v') w') : wpList Try.prog ops Q (o :: rest) a (w.alloc (.cells #[u] t)) := by
  obtain ⟨vs, h1, h2⟩ := hown
  have hlt := h2.lt
  have h1' := ownsRow_below h1 hb
  have h2' := h2.below hb
  have hu1 : u.oneCell' = true := by
    rcases hu.2 with ⟨rfl, _⟩ | ⟨g, c, cur, rfl, _⟩ <;> rfl
  refine append_one tI64S w u hu1 s x hg ho hs h1' hx hlen (Nat.le_trans hbase hb.size) (fun v' w' k1 k2 k3 k4 => ?_)
  refine h v' w' ⟨vs ++ [u], ?_, ?_⟩ k3 k4
  · rw [List.length_append]; exact k1
  · have hsn : Rows2 w base (vs ++ [u]) (xss ++ [xs]) := Rows2.snoc (B := w0.heap.size) h2' (hu.lower hbase) (fun i v g hv hg => (hlt i v g hv hg).2) (fun g hg => (hu.lt g hg).1)
    exact (hsn.below ((Below.refl _ _).alloc (Nat.le_refl _) _)).kept (h1'.alloc (.cells #[u] t)) k2

/-- the next longer decks of one -/
def extD (c : Nat) (d : List Int) : List (List Int) := ((upTo' c).filter (fun x => !decide (x ∈ d))).map (fun x => d ++ [x])
where upTo' (n : Nat) : List Int := (List.range n).map fun (i : Nat) => (i : Int)
def extN (c : Nat) (d : List Int) (x : Nat) : List (List Int) := ((extD.upTo' x).filter (fun x => !decide (x ∈ d))).map (fun x => d ++ [x])
def decksL (c : Nat) : Nat → List (List Int)
  | 0 => [[]]
  | k + 1 => (decksL c k).flatMap (extD c)
theorem extN_full (c : Nat) (d : List Int) : extN c d c = extD c d := rfl
theorem extN_zero (c : Nat) (d : List Int) : extN c d 0 = [] := rfl
theorem extN_no {c x : Nat} {d : List Int} (h : (x : Int) ∈ d) : extN c d (x + 1) = extN c d x := by
  simp [extN, extD.upTo', List.range_succ, List.filter_append, h]
theorem extN_yes {c x : Nat} {d : List Int} (h : ¬ (x : Int) ∈ d) : extN c d (x + 1) = extN c d x ++ [d ++ [(x : Int)]] := by
  simp [extN, extD.upTo', List.range_succ, List.filter_append, h]
theorem extN_length (c x : Nat) (d : List Int) : (extN c d x).length ≤ x := by
  unfold extN
  rw [List.length_map]
  refine Nat.le_trans (List.length_filter_le _ _) ?_
  simp [extD.upTo']
theorem decks_small {c k : Nat} (hc1 : 1 ≤ c) (hc : c ≤ 3) (hk : k ≤ c) : (decksL c k).length ≤ 6 ∧ ∀ d ∈ decksL c k, d.length = k := by
  have h : ∀ c, c ≤ 3 → ∀ k, k ≤ c → 1 ≤ c → ((decksL c k).length ≤ 6 ∧ ∀ d ∈ decksL c k, d.length = k) := by decide
  exact h c hc k hk hc1
theorem flat_take (l : List (List Int)) (f : List Int → List (List Int)) {i : Nat} (h : i < l.length) : (l.take (i + 1)).flatMap f = (l.take i).flatMap f ++ f l[i] := by
  rw [List.take_succ_eq_append_getElem h, List.flatMap_append]; simp
theorem flat_take_le (l : List (List Int)) (f : List Int → List (List Int)) (i : Nat) : ((l.take i).flatMap f).length ≤ (l.flatMap f).length := by
  conv => rhs; rw [← List.take_append_drop i l]
  rw [List.flatMap_append, List.length_append]; omega

set_option maxHeartbeats 400000 in
theorem l00Own_any {u : Value} {xs : List Int} (w : World) (ha : SlI w u xs) (hl : xs.length ≤ 1048576) :
    Calls Try.prog 145 #[u] w fun e w' => ∃ v, e = .returned v ∧ OwnI w' w.heap.size v xs ∧ Below w.heap.size w w' := by
  have bx : Below w.heap.size w (w.alloc (.cells #[] 2)) := (Below.refl _ _).alloc (Nat.le_refl _) _
  have hb := ha.below bx
  have hown := OwnI.empty w (base := w.heap.size) (Nat.le_refl _)
  obtain ⟨a, ca, rfl, _⟩ := id ha
  clear ha
  go_enter Try.func145, Try.ntmps145
  go_wp2_with (at_builtin; refine append_SlI _ _ _ rfl rfl rfl hown rfl hb (by simp; omega) (by simp) ?_)
  intro v' w1 hown1 hg1 hb1
  go_wp2
  go_ret
  exact ⟨_, rfl, hown1, bx.trans hb1⟩

theorem OwnII.one (w : World) {base : Nat} {u : Value} {xs : List Int} (hu : OwnI w base u xs) (hb : base ≤ w.heap.size) :
    OwnII (w.alloc (.cells #[u] 31)) base (.slice (some ⟨w.heap.size, 0, none⟩) 1 1) [xs] := by
  have hu1 : u.oneCell' = true := by rcases hu.2 with ⟨rfl, _⟩ | ⟨g, c, cur, rfl, _⟩ <;> rfl
  refine ⟨[u], World.ownsRow_lit (base := base) (e := 31) (size := 1) w #[u] 1 hb (by simp [maxLen]) (by simp), rfl, ?_, ?_⟩
  · intro i u' xs' h1 h2
    cases i with
    | zero => simp at h1 h2; subst h1 h2; exact hu.below ((Below.refl _ _).alloc (Nat.le_refl _) _)
    | succ i => simp at h1
  · intro i j u' v' g hij h1 h2
    cases i with
    | zero => cases j with
      | zero => exact absurd rfl hij
      | succ j => simp at h2
    | succ i => simp at h1

theorem OwnI.empty' (w : World) {base : Nat} (hb : base ≤ w.heap.size) : OwnI (w.alloc (.cells #[] 2)) base (.slice (some ⟨w.heap.size, 0, none⟩) 0 0) [] := OwnI.empty w hb

end Go.Proofs.Ytenemohjmemoiaa
namespace Go.Proofs.Ytenemohjmemoiaa
open Go.RowKit

def findFrom : List (List Int) → List Int → Nat → Int
  | [], _, _ => -1
  | d :: ds, x, k => if d = x then (k : Int) else findFrom ds x (k + 1)
def findD (x : List Int) : Int := if inR x.length 1 3 = true then findFrom (decksL x.length x.length) x 0 else -1
def lastIx (l : List Int) (x : Int) : Nat → Int
  | 0 => -1
  | i + 1 => if l.getD i 0 = x then (i : Int) else lastIx l x i
def runsN (l : List Int) : Nat → Int
  | 0 => 1
  | k + 1 => if lastIx l ((k : Int) + 1) l.length < lastIx l k l.length then runsN l k + 1 else runsN l k
def ixFrom : List Int → Int → Nat → Int
  | [], _, _ => -1
  | y :: r, x, k => if x = y then (k : Int) else ixFrom r x (k + 1)
def runsM (l : List Int) : Nat → Int
  | 0 => 1
  | k + 1 => if ixFrom l ((k : Int) + 1) 0 < ixFrom l k 0 then runsM l k + 1 else runsM l k
theorem findFrom_ge : ∀ (D : List (List Int)) (x : List Int) (k : Nat), 0 ≤ findFrom D x k ↔ x ∈ D
  | [], x, k => by simp [findFrom]
  | d :: ds, x, k => by
    unfold findFrom
    by_cases h : d = x
    · rw [if_pos h]; simp [h]
    · rw [if_neg h, findFrom_ge ds x (k + 1)]; simp [Ne.symm h]
theorem findFrom_step {D : List (List Int)} {x : List Int} {k : Nat} (h : k < D.length) : findFrom (D.drop k) x k = if D[k] = x then (k : Int) else findFrom (D.drop (k + 1)) x (k + 1) := by
  rw [List.drop_eq_getElem_cons h]; rfl
theorem ixFrom_step {l : List Int} {x : Int} {k : Nat} (h : k < l.length) : ixFrom (l.drop k) x k = if x = l[k] then (k : Int) else ixFrom (l.drop (k + 1)) x (k + 1) := by
  rw [List.drop_eq_getElem_cons h]; rfl
theorem lastIx_bd (l : List Int) (x : Int) : ∀ i, -1 ≤ lastIx l x i ∧ lastIx l x i < i
  | 0 => by simp [lastIx]
  | i + 1 => by
    unfold lastIx
    have := lastIx_bd l x i
    split <;> omega
theorem ixFrom_bd : ∀ (l : List Int) (x : Int) (k : Nat), -1 ≤ ixFrom l x k ∧ ixFrom l x k < k + l.length
  | [], x, k => by simp [ixFrom] <;> omega
  | y :: r, x, k => by
    unfold ixFrom
    have := ixFrom_bd r x (k + 1)
    split
    · simp; omega
    · simp at this ⊢; omega
theorem runsN_bd (l : List Int) : ∀ k, 1 ≤ runsN l k ∧ runsN l k ≤ 1 + k
  | 0 => by simp [runsN]
  | k + 1 => by have := runsN_bd l k; unfold runsN; split <;> omega
theorem runsM_bd (l : List Int) : ∀ k, 1 ≤ runsM l k ∧ runsM l k ≤ 1 + k
  | 0 => by simp [runsM]
  | k + 1 => by have := runsM_bd l k; unfold runsM; split <;> omega
def ordTail (n : Int) : List Int → List Int → Bool
  | _, [] => true
  | s, x :: r => inR x 0 (n - 1) && (!decide (x ∈ s) && ordTail n (s ++ [x]) r)
def ordOk (n : Nat) (l : List Int) : Bool := ordTail n [] l && decide (l.length = n)
def seenL (s : List Int) (n : Nat) : List Bool := (List.range n).map fun (j : Nat) => decide ((j : Int) ∈ s)
theorem seenL_length (s : List Int) (n : Nat) : (seenL s n).length = n := by simp [seenL]
theorem seenL_get {s : List Int} {n j : Nat} (h : j < n) : (seenL s n)[j]'(by simp [seenL]; exact h) = decide ((j : Int) ∈ s) := by simp [seenL]
theorem seenL_nil (n : Nat) : seenL [] n = List.replicate n false := by
  apply List.ext_getElem <;> simp [seenL]
theorem seenL_set {s : List Int} {n j : Nat} : (seenL s n).set j true = seenL (s ++ [(j : Int)]) n := by
  apply List.ext_getElem
  · simp [seenL]
  · intro i h1 h2
    simp [seenL] at h1
    rw [List.getElem_set]
    simp [seenL]
    by_cases h : j = i
    · simp [h]
    · simp [h]; omega
theorem ordTail_step {n : Int} {l : List Int} {k : Nat} (h : k < l.length) : ordTail n (l.take k) (l.drop k) = (inR l[k] 0 (n - 1) && (!decide (l[k] ∈ l.take k) && ordTail n (l.take (k + 1)) (l.drop (k + 1)))) := by
  rw [List.drop_eq_getElem_cons h, List.take_succ_eq_append_getElem h]; rfl

def runsR (x : List Int) : Int × Int := if 0 ≤ findD x then (runsN x (x.length - 1), 0) else (0, 2)
def tupII (r : Int × Int) : Value := .tuple #[.int .i64 r.1, .int .i64 r.2]
theorem findD_len {x : List Int} (h : 0 ≤ findD x) : 1 ≤ x.length ∧ x.length ≤ 3 := by
  unfold findD at h
  split at h
  · rename_i hi; have := inR_iff.1 hi; omega
  · omega
set_option maxHeartbeats 400000 in
theorem Index_any {u : Value} {xs : List Int} (x : Int) (w : World) (ha : SlI w u xs) :
    Calls Try.prog 150 #[u, .int .i64 x] w fun e w' => e = .returned (.int .i64 (ixFrom xs x 0)) ∧ w = w' := by
  obtain ⟨a, ca, rfl, hca, hca', ha⟩ := ha
  unfold maxLen at hca'
  go_enter Try.func150, Try.ntmps150
  go_wp2
  go_loopw [5, 8] (fun _ i wr => ∃ k : Nat, k ≤ xs.length ∧ i = .int .i64 k ∧ Hid (ixFrom xs x 0 = ixFrom (xs.drop k) x k) ∧ wr = w) (fun _ i _ => xs.length - (intOf i).toNat)
  case atStart => exact ⟨0, Nat.zero_le _, rfl, rfl, rfl⟩
  case round =>
    obtain ⟨k, hk, rfl, hno, rfl⟩ := hrel
    by_cases hlt : k < xs.length
    · obtain ⟨b, off, rfl, gc⟩ := ha.one (i64s_get hlt)
      have i1 : (k : Int) < (xs.length : Int) := by omega
      have hst := ixFrom_step (x := x) hlt
      have HS := Lib.hid hst
      clear hst
      by_cases he : x = xs[k]
      · have HE := Lib.hid he
        have ht : (x == xs[k]) = true := by simpa using he
        clear he
        go_wp2
        go_ret
        exact ⟨ri (by rw [hno.out, HS.out, if_pos HE.out]), rfl⟩
      · have HE := Lib.hid he
        have ht : (x == xs[k]) = false := by simpa using he
        clear he
        go_wp2
        go_roundw
        case rel => exact ⟨k + 1, by omega, by go_num, by unfold Hid at *; rw [hno, HS, if_neg HE], trivial⟩
        case measure => simp [intOf]; omega
    · obtain rfl : k = xs.length := by omega
      go_wp2
      go_ret
      exact ⟨ri (by rw [hno.out]; simp [ixFrom]), rfl⟩

theorem FB_own_set {w : World} {base g n c : Nat} {xs : List Bool} (h : FB.Own w base (.slice (some ⟨g, 0, none⟩) n c) xs) (i : Nat) (x : Bool) :
    FB.Own (w.setCell ⟨g, i, none⟩ (.bool x)) base (.slice (some ⟨g, 0, none⟩) n c) (xs.set i x) := by
  obtain rfl := h.len_of
  have := (World.ownsRow.stored (base := base) h i (.bool x)).1
  unfold Flat.Own
  rw [List.length_set, FB_encs]
  rw [FB_encs] at this
  simpa [List.map_set] using this
theorem FB_own_cell {w : World} {base g n c : Nat} {xs : List Bool} (h : FB.Own w base (.slice (some ⟨g, 0, none⟩) n c) xs) {i : Nat} (hi : i < xs.length) : w.cell? ⟨g, i, none⟩ = some (.bool xs[i]) := by
  have := h.cell (i := i) (j := 0) hi (by decide)
  have e : i * FB.size + 0 = i := by show i * 1 + 0 = i; omega
  rw [e] at this
  exact this
def isDeckB (x : List Int) : Bool := inR x.length 1 3 && ordOk x.length x
/-- the same decks are right on both sides, and have the same runs -/
theorem deck_law : ∀ x : List Int, (0 ≤ findD x ↔ isDeckB x = true) ∧ (0 ≤ findD x → runsN x (x.length - 1) = runsM x (x.length - 1)) := by
  have all : ∀ n, n ≤ 3 → ∀ d ∈ decksL n n, runsN d (d.length - 1) = runsM d (d.length - 1) ∧ isDeckB d = decide (1 ≤ n) := by decide
  have key : ∀ x : List Int, isDeckB x = true → x ∈ decksL x.length x.length := by
    intro x hx
    unfold isDeckB at hx
    rw [Bool.and_eq_true] at hx
    have hl := inR_iff.1 hx.1
    have ho := hx.2
    unfold ordOk at ho
    rw [Bool.and_eq_true] at ho
    have ho := ho.1
    have c1 : ∀ y : Int, inR y 0 0 = true → y = 0 := by intro y h; have := inR_iff.1 h; omega
    have c2 : ∀ y : Int, inR y 0 1 = true → y = 0 ∨ y = 1 := by intro y h; have := inR_iff.1 h; omega
    have c3 : ∀ y : Int, inR y 0 2 = true → y = 0 ∨ y = 1 ∨ y = 2 := by intro y h; have := inR_iff.1 h; omega
    match x, hl, ho with
    | [a], _, ho =>
      simp [ordTail] at ho
      obtain rfl := c1 a ho
      decide
    | [a, b], _, ho =>
      simp [ordTail] at ho
      obtain ⟨h1, h2, h3⟩ := ho
      rcases c2 a h1 with rfl | rfl <;> rcases c2 b h2 with rfl | rfl <;> first | decide | (exact absurd rfl h3)
    | [a, b, c], _, ho =>
      simp [ordTail] at ho
      obtain ⟨h1, h2, h3, h4, h5, h6⟩ := ho
      rcases c3 a h1 with rfl | rfl | rfl <;> rcases c3 b h2 with rfl | rfl | rfl <;> rcases c3 c h4 with rfl | rfl | rfl <;> first | decide | (exact absurd rfl h3) | (exact absurd rfl h5) | (exact absurd rfl h6)
    | [], hl, _ => simp at hl
    | a :: b :: c :: d :: r, hl, _ => simp at hl; omega
  intro x
  have hf : 0 ≤ findD x ↔ (1 ≤ x.length ∧ x.length ≤ 3) ∧ x ∈ decksL x.length x.length := by
    unfold findD
    by_cases h : inR x.length 1 3 = true
    · rw [if_pos h, findFrom_ge]
      have := inR_iff.1 h
      constructor
      · intro h; exact ⟨by omega, h⟩
      · intro h; exact h.2
    · rw [if_neg h]
      constructor
      · intro h; omega
      · intro h2; exact absurd (inR_iff.2 (by omega)) h
  refine ⟨⟨fun h => ?_, fun h => ?_⟩, fun h => ?_⟩
  · have h2 := hf.1 h
    have := (all _ h2.1.2 _ h2.2).2
    rw [this]; simp; omega
  · have h2 := h
    unfold isDeckB at h2
    rw [Bool.and_eq_true] at h2
    have := inR_iff.1 h2.1
    exact hf.2 ⟨by omega, key x h⟩
  · have h2 := hf.1 h
    exact (all _ h2.1.2 _ h2.2).1
end Go.Proofs.Ytenemohjmemoiaa
namespace Go.Proofs.Ytenemohjmemoiaa
open Go.RowKit Go.Sort
theorem ixFrom_mem : ∀ (l : List Int) (x : Int) (k : Nat), 0 ≤ ixFrom l x k ↔ x ∈ l
  | [], x, k => by simp [ixFrom]
  | y :: r, x, k => by
    unfold ixFrom
    by_cases h : x = y
    · rw [if_pos h]; simp [h]
    · rw [if_neg h, ixFrom_mem r x (k + 1)]; simp [h]
set_option maxHeartbeats 400000 in
theorem Contains_any {u : Value} {xs : List Int} (x : Int) (w : World) (ha : SlI w u xs) :
    Calls Try.prog 124 #[u, .int .i64 x] w fun e w' => e = .returned (.bool (decide (x ∈ xs))) ∧ w = w' := by
  obtain ⟨a, c, rfl, _⟩ := id ha
  have hm := Lib.hid (ixFrom_mem xs x 0)
  have hb := ixFrom_bd xs x 0
  generalize hq : ixFrom xs x 0 = q at hb
  have HQ := Lib.hid hq
  clear hq
  go_enter Try.func124, Try.ntmps124
  go_wp2_with fail
  refine (Index_any x _ ha).mono ?_
  rintro e w2 ⟨rfl, rfl⟩
  rw [HQ.out]
  go_wp2
  go_ret
  exact ⟨rb (by have := hm.out; rw [HQ.out] at this; rw [decide_eq_decide]; exact this), rfl⟩
set_option maxHeartbeats 400000 in
theorem Clone_any {u : Value} {xs : List Int} (w : World) (ha : SlI w u xs) (hl : xs.length ≤ 1048576) :
    Calls Try.prog 126 #[u] w fun e w' => ∃ v, e = .returned v ∧ OwnI w' w.heap.size v xs ∧ Below w.heap.size w w' := by
  obtain ⟨a, c, rfl, hc, hc', hr⟩ := ha
  cases a with
  | none =>
    have h0 : xs = [] := by
      cases xs with
      | nil => rfl
      | cons y ys =>
        obtain ⟨b, off, h1, _⟩ := hr.all (k := 0) (by simp [i64s])
        simp at h1
    subst h0
    have hn := @Lib.run_eql_slice_nil
    go_enter Try.func126, Try.ntmps126
    go_wp2
    go_ret
    exact ⟨_, rfl, OwnI.nil _ _, Below.refl _ _⟩
  | some ad =>
    have hr2 := hr.below ((Below.refl w.heap.size w).alloc (Nat.le_refl _) (.cells #[] 2))
    have hn := @Lib.run_eql_slice_nil
    have own0 := OwnI.empty w (base := w.heap.size) (Nat.le_refl _)
    go_enter Try.func126, Try.ntmps126
    go_wp2_with (at_builtin; refine append_SlI _ _ _ rfl rfl rfl own0 rfl ⟨_, _, rfl, hc, hc', hr2⟩ (by simp; omega) (by simp) ?_)
    intro v' w' o1 g1 b1
    go_wp2
    go_ret
    exact ⟨_, rfl, o1, ((Below.refl _ _).alloc (Nat.le_refl _) _).trans b1⟩
/-- the search in depth: f cards still to come -/
def dfsL (c : Nat) : Nat → List Int → List (List Int)
  | 0, l => [l]
  | f + 1, l => ((extD.upTo' c).filter (fun x => !decide (x ∈ l))).flatMap fun x => dfsL c f (l ++ [x])
def dfsN (c f : Nat) (l : List Int) (x : Nat) : List (List Int) := ((extD.upTo' x).filter (fun x => !decide (x ∈ l))).flatMap fun x => dfsL c f (l ++ [x])
theorem dfsN_no {c f x : Nat} {l : List Int} (h : (x : Int) ∈ l) : dfsN c f l (x + 1) = dfsN c f l x := by
  simp [dfsN, extD.upTo', List.range_succ, List.filter_append, h]
theorem dfsN_yes {c f x : Nat} {l : List Int} (h : ¬ (x : Int) ∈ l) : dfsN c f l (x + 1) = dfsN c f l x ++ dfsL c f (l ++ [(x : Int)]) := by
  simp [dfsN, extD.upTo', List.range_succ, List.filter_append, h]
theorem dfsL_decks (c : Nat) (h1 : 1 ≤ c) (h3 : c ≤ 3) : dfsL c c [] = decksL c c := by
  have h : ∀ c, c ≤ 3 → 1 ≤ c → dfsL c c [] = decksL c c := by decide
  exact h c h3 h1
def isE (E : Nat) (w : World) (k : Nat) : Prop := ∃ cs fz, w.heap[k]? = some (.cells cs E fz)
theorem isE_same {E : Nat} {w w' : World} {k : Nat} (h : w'.heap[k]? = w.heap[k]?) : isE E w' k ↔ isE E w k := by unfold isE; rw [h]
theorem isE_set {E : Nat} {w : World} {a : Addr} {u : Value} {k : Nat} (h : isE E (w.setCell a u) k) : isE E w k := by
  by_cases hk : k = a.block
  · subst hk
    obtain ⟨cs, fz, h⟩ := h
    simp only [World.setCell, Array.getElem?_modify, if_true] at h
    cases hh : w.heap[a.block]? with
    | none => rw [hh] at h; simp at h
    | some o =>
      rw [hh] at h
      cases o with
      | cells c e f => simp at h; exact ⟨c, f, by rw [hh, h.2.1]⟩
      | _ => simp at h
  · obtain ⟨cs, fz, h⟩ := h
    rw [heap_setCell_other w a k u hk] at h
    exact ⟨cs, fz, h⟩
theorem own_isE {w : World} {b e size n k : Nat} {v : Value} {xs : List Value} (h : w.ownsRow b e size v n xs) (hk : v.ownBlock = some k) : isE e w k := by
  rcases h.2 with ⟨rfl, _⟩ | ⟨g, c, cur, rfl, _, h3, _⟩
  · simp [Value.ownBlock] at hk
  · simp [Value.ownBlock] at hk
    subst hk
    exact ⟨_, _, h3⟩
/-- all stays but block bo, and from base on blocks of elements of type E -/
structure Fe (base bo E : Nat) (w w' : World) : Prop where
  os : w'.os = w.os
  tape : w'.tape = w.tape
  output : w'.output = w.output
  size : w.heap.size ≤ w'.heap.size
  block : ∀ k, k < w.heap.size → k ≠ bo → (k < base ∨ ¬ isE E w k) → w'.heap[k]? = w.heap[k]?
theorem Fe.refl (base bo E : Nat) (w : World) : Fe base bo E w w := ⟨rfl, rfl, rfl, Nat.le_refl _, fun _ _ _ _ => rfl⟩
theorem Fe.trans {base bo E : Nat} {a b c : World} (h : Fe base bo E a b) (k : Fe base bo E b c) : Fe base bo E a c :=
  ⟨k.os.trans h.os, k.tape.trans h.tape, k.output.trans h.output, Nat.le_trans h.size k.size, fun i hi hx hy => by
    have h1 := h.block i hi hx hy
    rw [k.block i (Nat.lt_of_lt_of_le hi h.size) hx (hy.imp id fun hn ⟨cs, fz, he⟩ => hn ⟨cs, fz, by rw [← h1]; exact he⟩), h1]⟩
theorem Fe.of_below {base bo E : Nat} {w w' : World} (h : Below w.heap.size w w') : Fe base bo E w w' := ⟨h.os, h.tape, h.output, h.size, fun k hk _ _ => h.block k hk⟩
theorem Fe.of_grown {base bo E size n : Nat} {w w' : World} {v : Value} {xs : List Value} (h : w.ownsRow base E size v n xs) (hg : w.grownBy w' v.ownBlock) : Fe base bo E w w' :=
  ⟨hg.os, hg.tape, hg.output, hg.size, fun k hk _ hy => hg.block k hk (fun e => by
    rcases h.2 with ⟨rfl, _⟩ | ⟨g, c, cur, rfl, h2, h3, _⟩
    · simp [Value.ownBlock] at e
    · simp [Value.ownBlock] at e
      subst e
      rcases hy with hy | hy
      · omega
      · exact hy ⟨_, _, h3⟩)⟩
theorem Fe.set {base bo E : Nat} {w w' : World} (h : Fe base bo E w w') {a : Addr} (ha : a.block = bo) (u : Value) : Fe base bo E w (w'.setCell a u) :=
  ⟨h.os, h.tape, h.output, by simpa using h.size, fun k hk hx hy => by
    rw [heap_setCell_other w' a k u (fun e => hx (by rw [e]; exact ha))]; exact h.block k hk hx hy⟩
theorem Fe.below {base bo E B : Nat} {w w' : World} (h : Fe base bo E w w') (h1 : B ≤ base) (h2 : B ≤ bo) (h3 : B ≤ w.heap.size) : Below B w w' :=
  ⟨h.os, h.tape, h.output, h.size, fun k hk => h.block k (by omega) (by omega) (.inl (by omega))⟩
theorem ownsRow_fe {base bo E : Nat} {w w' : World} {b e size n : Nat} {v : Value} {xs : List Value} (h : w.ownsRow b e size v n xs) (hf : Fe base bo E w w') (he : e ≠ E) (hb : ¬ isE e w bo) : w'.ownsRow b e size v n xs := by
  refine ⟨h.1, ?_⟩
  rcases h.2 with h2 | ⟨g, cap, cur, h1, h2, h3, h4⟩
  · exact .inl h2
  · refine .inr ⟨g, cap, cur, h1, h2, ?_, h4⟩
    rw [hf.block g (Array.getElem?_eq_some_iff.1 h3).1 (fun e => by subst e; exact hb ⟨_, _, h3⟩) (.inr fun ⟨cs, fz, hh⟩ => by rw [h3] at hh; simp at hh; exact he hh.2.1)]; exact h3
theorem ownsRow_set_ne {w : World} {b e size n : Nat} {v : Value} {xs : List Value} (h : w.ownsRow b e size v n xs) {a : Addr} (ha : ¬ isE e w a.block) (u : Value) : (w.setCell a u).ownsRow b e size v n xs := by
  refine ⟨h.1, ?_⟩
  rcases h.2 with h2 | ⟨g, cap, cur, h1, h2, h3, h4⟩
  · exact .inl h2
  · refine .inr ⟨g, cap, cur, h1, h2, ?_, h4⟩
    rw [heap_setCell_other w a g u (fun e => ha (by rw [← e]; exact ⟨_, _, h3⟩))]; exact h3
theorem OwnII.set_ne {w : World} {base : Nat} {v : Value} {xss : List (List Int)} (h : OwnII w base v xss) {a : Addr} (h1 : ¬ isE 31 w a.block) (h2 : ¬ isE 2 w a.block) (u : Value) : OwnII (w.setCell a u) base v xss := by
  obtain ⟨vs, k1, k2⟩ := h
  exact ⟨vs, ownsRow_set_ne k1 h1 u, k2.1, fun i x xs hx hy => ownsRow_set_ne (k2.2.1 i x xs hx hy) h2 u, k2.2.2⟩
theorem OwnII.form {w : World} {base : Nat} {v : Value} {xss : List (List Int)} (h : OwnII w base v xss) : ∃ a n c, v = .slice a n c ∧ Hid (n = xss.length) := by
  obtain ⟨a, c, vs, rfl, _⟩ := h.sl
  exact ⟨a, _, c, rfl, rfl⟩
theorem OwnI.form {w : World} {base : Nat} {v : Value} {xs : List Int} (h : OwnI w base v xs) : ∃ a n c, v = .slice a n c ∧ Hid (n = xs.length) := by
  obtain ⟨a, c, rfl, _⟩ := h.sl
  exact ⟨a, _, c, rfl, rfl⟩
theorem dfsN_mono (c f : Nat) (l : List Int) : ∀ x y, x ≤ y → (dfsN c f l x).length ≤ (dfsN c f l y).length := by
  intro x y h
  induction h with
  | refl => exact Nat.le_refl _
  | step _ ih =>
    rename_i m _
    by_cases hm : (m : Int) ∈ l
    · rw [dfsN_no hm]; exact ih
    · rw [dfsN_yes hm, List.length_append]; omega
/-- a clone as a step; w0: an elder world in which the slice reads so -/
theorem step_clone {ops : Array Oper} {o : Oper} {a : Act} {K : Act → World → Prop} {Q : Exit → Act → World → Prop} {E : Prop} {w w0 : World} (hg : o.guard = none) {u : Value} {xs : List Int}
    (hrun : (execOp a.eval o).run Try.prog w = .ok (.enter 126 #[u]) w) (hbw : Below w0.heap.size w0 w) (hu : SlI w0 u xs) (hl : xs.length ≤ 1048576)
    (h : ∀ v w', OwnI w' w0.heap.size v xs → Below w0.heap.size w0 w' → Below w.heap.size w w' → w.heap.size ≤ w'.heap.size → K (a.put o.dst v) w') : if Region.wanted o (yielded ops a.tmps) = true then Oper.wp Try.prog o a w K Q else E :=
  step_calls hg hrun (Clone_any w (hu.below hbw) hl) (fun e w' ⟨v, h1, h2, h3⟩ => ⟨v, h1, h v w' (h2.lower hbw.size) (hbw.trans (h3.mono hbw.size)) h3 h3.size⟩)
theorem step_appI {ops : Array Oper} {o : Oper} {a : Act} {K : Act → World → Prop} {Q : Exit → Act → World → Prop} {E : Prop} {w w0 w1 : World} (hg : o.guard = none) (s x : Operand)
    (ho : o.op = .call { callee := .builtin .append, args := #[s, x], argTypes := #[31, 31] })
    {g : Nat} {v : Value} {xs : List Int} {y : Int} (hs : a.eval s = v) (hown : OwnI w1 w0.heap.size v xs) (h01 : Below w0.heap.size w0 w1) (h1w : Below w1.heap.size w1 w) (hx : a.eval x = .slice (some ⟨g, 0, none⟩) 1 1) (hc : w.cell? ⟨g, 0, none⟩ = some (.int .i64 y)) (hlen : xs.length < 16777216)
    (h : ∀ v' w', OwnI w' w0.heap.size v' (xs ++ [y]) → Below w0.heap.size w0 w' → K (a.put o.dst v') w') : if Region.wanted o (yielded ops a.tmps) = true then Oper.wp Try.prog o a w K Q else E := by
  have h0w := h01.trans (h1w.mono h01.size)
  have hown' := hown.below h1w
  exact stepAppI w s x hg ho hs hown' hx hc hlen h0w.size (fun v' w' k1 k2 => h v' w' k1 (h0w.trans (hown'.grown k2 h0w.size)))
end Go.Proofs.Ytenemohjmemoiaa
