/-
  ReadGraph: plain part. With it: The text of a graph, both sides.
-/
import Derived.Test.YtceobhmbnkheiaaZRowFnMaps7
import Derived.Test.YtceobhmbnkheiaaZRowFnMaps12
set_option linter.unusedVariables false
set_option linter.unusedSimpArgs false
namespace Go.Proofs.Ytceobhmbnkheiaa
open Go.RowKit Go.Sort
def edgeLn (e : List Int) : ByteArray := ⟨#[101, 100, 103, 101, 32]⟩ ++ (decB (e.getD 0 0).toNat ++ ⟨#[32]⟩ ++ decB (e.getD 1 0).toNat) ++ ⟨#[10]⟩
def linesG : ByteArray → List (List Int) → ByteArray
  | acc, [] => acc
  | acc, e :: r => linesG (acc ++ edgeLn e) r
def headG (m : Nat) : ByteArray := ⟨#[103, 114, 97, 112, 104, 32]⟩ ++ decB m ++ ⟨#[10]⟩
def graphTx (m : Nat) (es : List (List Int)) : ByteArray := linesG (headG m) es
def gTextR (n : Int) (es : List (List Int)) : ByteArray := if graphOk n es = true then graphTx n.toNat es else ⟨#[]⟩
theorem linesG_step {acc : ByteArray} {es : List (List Int)} {k : Nat} (h : k < es.length) : linesG acc (es.drop k) = linesG (acc ++ edgeLn es[k]) (es.drop (k + 1)) := by
  rw [List.drop_eq_getElem_cons h]; rfl
theorem edgeLn_two (p q : Nat) : edgeLn [(p : Int), (q : Int)] = ⟨#[101, 100, 103, 101, 32]⟩ ++ (decB p ++ ⟨#[32]⟩ ++ decB q) ++ ⟨#[10]⟩ := by simp [edgeLn]
theorem decimal_nat (m : Nat) (w : World) (h : m < 1000000000000) : Calls Try.prog 87 #[.int .i64 m] w fun e w' => e = .returned (.string (decB m)) ∧ Below w.heap.size w w' :=
  (decimal_any (m : Int) w (by omega) (by omega)).mono fun e w' ⟨h, hb⟩ => ⟨by rw [h, decIB_nat], hb⟩
end Go.Proofs.Ytceobhmbnkheiaa
namespace Go.Proofs.Ytceobhmbnkheiaa
open Go.RowKit Go.Sort
theorem wordsL_snoc (c : UInt8) : ∀ (l pre : List UInt8), wordsL c pre (l ++ [c]) = wordsL c pre l ++ [[]]
  | [], pre => by simp [wordsL]
  | x :: r, pre => by
    rw [List.cons_append]
    unfold wordsL
    split
    · rw [wordsL_snoc c r []]; simp
    · rw [wordsL_snoc c r _]
theorem cuts_snoc (s : ByteArray) (c : UInt8) : cuts (s ++ mkB [c]) c = cuts s c ++ [⟨#[]⟩] := by
  rw [cuts_eq, cuts_eq, app_list, mkB_data, wordsL_snoc]
  simp [mkB]
/-- lines, each with its end -/
def txtL (c : UInt8) : List ByteArray → ByteArray
  | [] => ⟨#[]⟩
  | x :: r => x ++ (mkB [c] ++ txtL c r)
theorem cuts_txt {c : UInt8} : ∀ {ls : List ByteArray}, (∀ x ∈ ls, c ∉ x.data.toList) → cuts (txtL c ls) c = ls ++ [⟨#[]⟩]
  | [], _ => by rw [cuts_one (by simp [txtL])]; rfl
  | x :: r, h => by
    show cuts (x ++ (mkB [c] ++ txtL c r)) c = _
    rw [cuts_app (h x (by simp)), cuts_txt (fun y hy => h y (by simp [hy]))]; rfl
theorem txtL_end {c : UInt8} : ∀ {ls : List ByteArray}, ls ≠ [] → ∃ s, txtL c ls = s ++ mkB [c]
  | [], h => absurd rfl h
  | [x], _ => ⟨x, by show x ++ (mkB [c] ++ (⟨#[]⟩ : ByteArray)) = _; apply ByteArray.ext; simp [mkB]⟩
  | x :: y :: r, _ => by
    obtain ⟨s, hs⟩ := txtL_end (c := c) (ls := y :: r) (by simp)
    exact ⟨x ++ (mkB [c] ++ s), by
      show x ++ (mkB [c] ++ txtL c (y :: r)) = _
      rw [hs]; apply ByteArray.ext; simp [mkB]⟩
def graphB : ByteArray := ⟨#[103, 114, 97, 112, 104]⟩
def edgeB : ByteArray := ⟨#[101, 100, 103, 101]⟩
def headOf (m : Nat) : ByteArray := graphB ++ (mkB [32] ++ decB m)
def lineOf (e : List Int) : ByteArray := edgeB ++ (mkB [32] ++ (decB (e.getD 0 0).toNat ++ (mkB [32] ++ decB (e.getD 1 0).toNat)))
theorem linesG_txt : ∀ (es : List (List Int)) (acc : ByteArray), linesG acc es = acc ++ txtL 10 (es.map lineOf)
  | [], acc => by apply ByteArray.ext; simp [linesG, txtL]
  | e :: r, acc => by
    show linesG (acc ++ edgeLn e) r = _
    rw [linesG_txt r]
    show _ = acc ++ (lineOf e ++ (mkB [10] ++ txtL 10 (r.map lineOf)))
    generalize txtL 10 (r.map lineOf) = t
    apply ByteArray.ext
    simp [edgeLn, lineOf, edgeB, mkB]
theorem graphTx_txt (m : Nat) (es : List (List Int)) : graphTx m es = txtL 10 (headOf m :: es.map lineOf) := by
  unfold graphTx
  rw [linesG_txt]
  show _ = headOf m ++ (mkB [10] ++ txtL 10 (es.map lineOf))
  generalize txtL 10 (es.map lineOf) = t
  apply ByteArray.ext
  simp [headG, headOf, graphB, mkB]
theorem dec_no {c : UInt8} (h : c.toNat < 48) (n : Nat) : c ∉ (decB n).data.toList := by
  intro hm
  have := dec_all n c hm
  omega
theorem line_no (e : List Int) : (10 : UInt8) ∉ (lineOf e).data.toList := by
  unfold lineOf
  simp only [app_list, mkB_data, List.mem_append, not_or]
  exact ⟨by decide, by decide, dec_no (by decide) _, by decide, dec_no (by decide) _⟩
theorem head_no (m : Nat) : (10 : UInt8) ∉ (headOf m).data.toList := by
  unfold headOf
  simp only [app_list, mkB_data, List.mem_append, not_or]
  exact ⟨by decide, by decide, dec_no (by decide) _⟩
theorem lines_no (m : Nat) (es : List (List Int)) : ∀ x ∈ headOf m :: es.map lineOf, (10 : UInt8) ∉ x.data.toList := by
  intro x hx
  simp only [List.mem_cons, List.mem_map] at hx
  rcases hx with rfl | ⟨e, _, rfl⟩
  · exact head_no m
  · exact line_no e
theorem cuts_graph (m : Nat) (es : List (List Int)) : cuts (graphTx m es) 10 = headOf m :: es.map lineOf ++ [⟨#[]⟩] := by rw [graphTx_txt, cuts_txt (lines_no m es)]
theorem cuts_head (m : Nat) : cuts (headOf m) 32 = [graphB, decB m] := by
  unfold headOf; rw [cuts_app (by decide), cuts_one (dec_no (by decide) _)]
theorem cuts_line (e : List Int) : cuts (lineOf e) 32 = [edgeB, decB (e.getD 0 0).toNat, decB (e.getD 1 0).toNat] := by
  unfold lineOf; rw [cuts_app (by decide), cuts_app (dec_no (by decide) _), cuts_one (dec_no (by decide) _)]
/-- a number of one or two digits -/
def num2 (s : ByteArray) : Int := if 1 ≤ s.size ∧ s.size ≤ 2 then valG s 0 0 else -1
theorem num2_dec {n : Nat} (h : n < 10) : num2 (decB n) = n := by
  have h1 := decB_size_le (k := 0) (n := n) (by omega)
  have h2 : 1 ≤ (decB n).size := by
    have := dec_ne n
    rw [show (decB n).size = (dec n).length from (len_data (decB n)).symm]
    cases hd : dec n with
    | nil => exact absurd hd this
    | cons a r => simp
  unfold num2
  rw [if_pos ⟨h2, by omega⟩, valG_decB]
def wordAt (s : ByteArray) (i : Nat) : ByteArray := (cuts s 32).getD i ⟨#[]⟩
def edgeP (l : ByteArray) : List Int := [num2 (wordAt l 1), num2 (wordAt l 2)]
def midL {α : Type} (L : List α) : List α := (L.drop 1).take (L.length - 2)
def readP (text : ByteArray) : Int × List (List Int) := (num2 (wordAt ((cuts text 10).getD 0 ⟨#[]⟩) 1), (midL (cuts text 10)).map edgeP)
def isGr (text : ByteArray) (g : Int × List (List Int)) : Bool := graphOk g.1 g.2 && decide (graphTx g.1.toNat g.2 = text)
def rdG (text : ByteArray) : (Int × List (List Int)) × Int := if text.size ≤ 2000 then (if isGr text (readP text) = true then (readP text, 0) else ((0, []), 5)) else ((0, []), 2)
theorem readP_tx {n : Int} {es : List (List Int)} (h : graphOk n es = true) : readP (graphTx n.toNat es) = (n, es) := by
  obtain ⟨m, rfl, h1, h5, hE, _⟩ := graphOk_all h
  rw [Int.toNat_natCast]
  have hc := cuts_graph m es
  unfold readP
  rw [hc]
  have e1 : midL (headOf m :: es.map lineOf ++ [(⟨#[]⟩ : ByteArray)]) = es.map lineOf := by
    unfold midL
    simp
  rw [e1]
  have e2 : (headOf m :: es.map lineOf ++ [(⟨#[]⟩ : ByteArray)]).getD 0 ⟨#[]⟩ = headOf m := rfl
  rw [e2]
  have e3 : wordAt (headOf m) 1 = decB m := by unfold wordAt; rw [cuts_head]; rfl
  rw [e3, num2_dec (by omega), List.map_map]
  refine Prod.ext rfl ?_
  show es.map (edgeP ∘ lineOf) = es
  conv => rhs; rw [← List.map_id es]
  refine List.map_congr_left (fun e he => ?_)
  obtain ⟨p, q, rfl, hpq, hq⟩ := hE e he
  show edgeP (lineOf [(p : Int), (q : Int)]) = [(p : Int), (q : Int)]
  unfold edgeP wordAt
  rw [cuts_line]
  show [num2 (decB p), num2 (decB q)] = _
  rw [num2_dec (by omega), num2_dec (by omega)]
theorem isGr_of {n : Int} {es : List (List Int)} {text : ByteArray} (h : graphOk n es = true) (ht : graphTx n.toNat es = text) : isGr text (n, es) = true := by
  unfold isGr; simp [h, ht]
theorem isGr_and {g : Int × List (List Int)} {text : ByteArray} (h : isGr text g = true) : graphOk g.1 g.2 = true ∧ graphTx g.1.toNat g.2 = text := by
  unfold isGr at h
  rw [Bool.and_eq_true, decide_eq_true_eq] at h
  exact h
/-- whichever way it is read -/
theorem rdG_of {text : ByteArray} (hz : text.size ≤ 2000) (g : Int × List (List Int)) (h : isGr text (readP text) = true → readP text = g) : rdG text = if isGr text g = true then (g, 0) else ((0, []), 5) := by
  unfold rdG
  rw [if_pos hz]
  by_cases hg : isGr text g = true
  · obtain ⟨h1, h2⟩ := isGr_and hg
    have := readP_tx h1
    rw [h2] at this
    rw [if_pos hg, this, if_pos (show isGr text (g.1, g.2) = true from hg)]
  · rw [if_neg hg, if_neg]
    intro hr
    rw [h hr] at hr
    exact hg hr
theorem rdG_none {text : ByteArray} (hz : text.size ≤ 2000) (h : ¬ isGr text (readP text) = true) : rdG text = ((0, []), 5) := by
  unfold rdG
  rw [if_pos hz, if_neg h]
/-- what a right text has -/
theorem right_text {text : ByteArray} (h : isGr text (readP text) = true) : ∃ (m : Nat) (es : List (List Int)), readP text = ((m : Int), es) ∧ 1 ≤ m ∧ m ≤ 5 ∧ EdgesB m es ∧ es.length ≤ 25 ∧ cuts text 10 = headOf m :: es.map lineOf ++ [⟨#[]⟩] ∧ ∃ s, text = s ++ mkB [10] := by
  obtain ⟨h1, h2⟩ := isGr_and h
  generalize readP text = g at h1 h2
  obtain ⟨n, es⟩ := g
  obtain ⟨m, rfl, h3, h4, h5, h6⟩ := graphOk_all h1
  refine ⟨m, es, rfl, h3, h4, h5, h6, ?_, ?_⟩
  · rw [← h2]; exact cuts_graph m es
  · rw [← h2, show graphTx ((m : Int), es).1.toNat ((m : Int), es).2 = graphTx m es from rfl, graphTx_txt]
    exact txtL_end (by simp)
theorem behind_head (m : Nat) (h : m < 10) : behindG (headOf m) graphB = ([(m : Int)], true) := by
  unfold behindG
  rw [cuts_head]
  show (if graphB = graphB then readsG [decB m] [] else ([], false)) = _
  rw [if_pos rfl]
  unfold readsG
  rw [readG_decB (by omega), if_pos rfl]
  rfl
theorem behind_line {p q : Nat} (h : p < 10) (h2 : q < 10) : behindG (lineOf [(p : Int), (q : Int)]) edgeB = ([(p : Int), (q : Int)], true) := by
  unfold behindG
  rw [cuts_line]
  show (if edgeB = edgeB then readsG [decB p, decB q] [] else ([], false)) = _
  rw [if_pos rfl]
  unfold readsG
  rw [readG_decB (by omega), if_pos rfl]
  unfold readsG
  rw [readG_decB (by omega), if_pos rfl]
  rfl
/-- the program's reading: lines to edges -/
def readsE : List ByteArray → List (List Int) → Option (List (List Int))
  | [], acc => some acc
  | l :: r, acc => if (behindG l edgeB).2 = true then readsE r (acc ++ [(behindG l edgeB).1]) else none
theorem readsE_step {L : List ByteArray} {acc : List (List Int)} {k : Nat} (h : k < L.length) : readsE (L.drop k) acc = if (behindG L[k] edgeB).2 = true then readsE (L.drop (k + 1)) (acc ++ [(behindG L[k] edgeB).1]) else none := by
  rw [List.drop_eq_getElem_cons h]; rfl
theorem readsE_tx {m : Nat} (hm : m ≤ 5) : ∀ {es : List (List Int)} (acc : List (List Int)), EdgesB m es → readsE (es.map lineOf) acc = some (acc ++ es)
  | [], acc, _ => by simp [readsE]
  | e :: r, acc, h => by
    obtain ⟨p, q, rfl, hpq, hq⟩ := h e (by simp)
    show (if (behindG (lineOf [(p : Int), (q : Int)]) edgeB).2 = true then readsE (r.map lineOf) (acc ++ [(behindG (lineOf [(p : Int), (q : Int)]) edgeB).1]) else none) = _
    rw [behind_line (by omega) (by omega), if_pos rfl, readsE_tx hm _ (fun e he => h e (by simp [he]))]
    simp
/-- the program's reading -/
def readI (L : List ByteArray) : Option (Int × List (List Int)) :=
  if ((behindG (L.getD 0 ⟨#[]⟩) graphB).2 && decide ((behindG (L.getD 0 ⟨#[]⟩) graphB).1.length = 1)) = true then (readsE (L.drop 1) []).map (fun es => ((behindG (L.getD 0 ⟨#[]⟩) graphB).1.getD 0 0, es)) else none
theorem readI_right {s : ByteArray} (h : isGr (s ++ mkB [10]) (readP (s ++ mkB [10])) = true) : readI (cuts s 10) = some (readP (s ++ mkB [10])) := by
  obtain ⟨m, es, hr, h1, h5, hE, _, hc, _⟩ := right_text h
  rw [cuts_snoc] at hc
  have hc2 : cuts s 10 = headOf m :: es.map lineOf := List.append_cancel_right hc
  rw [hr, hc2]
  unfold readI
  show (if ((behindG (headOf m) graphB).2 && decide ((behindG (headOf m) graphB).1.length = 1)) = true then (readsE (es.map lineOf) []).map (fun es => ((behindG (headOf m) graphB).1.getD 0 0, es)) else none) = _
  rw [behind_head m (by omega), if_pos (by simp), readsE_tx h5 [] hE]
  rfl
theorem rdG_I {s : ByteArray} (hz : (s ++ mkB [10]).size ≤ 2000) : rdG (s ++ mkB [10]) = match readI (cuts s 10) with
    | some g => if isGr (s ++ mkB [10]) g = true then (g, 0) else ((0, []), 5)
    | none => ((0, []), 5) := by
  cases hr : readI (cuts s 10) with
  | some g => exact rdG_of hz g (fun h => by have := readI_right h; rw [hr] at this; exact (Option.some.inj this).symm)
  | none => exact rdG_none hz (fun h => by have := readI_right h; rw [hr] at this; exact absurd this (by simp))
theorem rdG_I0 {text : ByteArray} (hz : text.size ≤ 2000) (h : ∀ s, text ≠ s ++ mkB [10]) : rdG text = ((0, []), 5) := rdG_none hz (fun hr => by
  obtain ⟨_, _, _, _, _, _, _, _, s, hs⟩ := right_text hr
  exact h s hs)
theorem isGr_rows {text : ByteArray} {g : Int × List (List Int)} (h : isGr text g = true) : (∀ x ∈ g.2, x.length = 2) ∧ g.2.length ≤ 25 := by
  obtain ⟨h1, _⟩ := isGr_and h
  obtain ⟨m, hm, _, _, hE, hl⟩ := graphOk_all h1
  refine ⟨fun x hx => ?_, hl⟩
  obtain ⟨p, q, rfl, _, _⟩ := hE x hx
  rfl
end Go.Proofs.Ytceobhmbnkheiaa
