/-
  The code of two chains. With it: A cell of a row of owned rows: what it holds, and what a store into it leaves. A search by impl.picksCode$1. Graphs: copied, counted, compared. SameGraph, both. Graphs: valid or not, both sides. Graphs: valid or not, both sides. A search by (impl.Graph).isColouring$1. A search by (impl.Graph).areColours$1. A search by (impl.Graph).isIndependent$1. Decks: all orders of few cards, as the reference lists them; the place of a deck among them. Rising runs: a deck's place among all, its runs, both sides. A search by (impl.Graph).free$1. A search by impl.deckIndex$1. Marks in rows, with what they leave; marks held in rows. Slices of slices of flat elements (rows of bools, of ints): read, owned, grown.
-/
import Derived.Test.YtceobhmbnkheiaaZRowFnMaps4
import Derived.Test.YtceobhmbnkheiaaZRowFnMaps3
set_option linter.unusedVariables false
set_option linter.unusedSimpArgs false
namespace Go.Proofs.Ytceobhmbnkheiaa
open Go.RowKit Go.Sort
theorem ownsRow_set_other {w : World} {base e size n : Nat} {v : Value} {xs : List Value} (h : w.ownsRow base e size v n xs) {a : Addr} (ha : v.ownBlock ≠ some a.block) (u : Value) : (w.setCell a u).ownsRow base e size v n xs := by
  refine ⟨h.1, ?_⟩
  rcases h.2 with h2 | ⟨g, cap, cur, rfl, h2, h3, h4⟩
  · exact .inl h2
  · refine .inr ⟨g, cap, cur, rfl, h2, ?_, h4⟩
    rw [heap_setCell_other w a g u (fun e => ha (by simp [Value.ownBlock, e]))]; exact h3
theorem ownsRow_fs1 {w w' : World} {base e size n : Nat} {v : Value} {xs : List Value} (h : w.ownsRow base e size v n xs) {r : Nat} (hf : Fs (fun k => k = r) w w') (ha : v.ownBlock ≠ some r) : w'.ownsRow base e size v n xs := by
  refine ⟨h.1, ?_⟩
  rcases h.2 with h2 | ⟨g, cap, cur, rfl, h2, h3, h4⟩
  · exact .inl h2
  · refine .inr ⟨g, cap, cur, rfl, h2, ?_, h4⟩
    rw [hf.block g (Array.getElem?_eq_some_iff.1 h3).1 (fun e => ha (by simp [Value.ownBlock, e]))]; exact h3
theorem Fs.cut {S T : Nat → Prop} {w w' : World} (h : Fs S w w') (hS : ∀ k, k < w.heap.size → S k → T k) : Fs T w w' := ⟨h.os, h.tape, h.output, h.size, fun k hk hx => h.block k hk (fun hs => hx (hS k hk hs))⟩
theorem Fs.then {S T R : Nat → Prop} {w w1 w2 : World} (h : Fs S w w1) (h2 : Fs T w1 w2) (hS : ∀ k, k < w.heap.size → S k → R k) (hT : ∀ k, k < w.heap.size → T k → R k) : Fs R w w2 :=
  ⟨h2.os.trans h.os, h2.tape.trans h.tape, h2.output.trans h.output, Nat.le_trans h.size h2.size, fun k hk hx => (h2.block k (Nat.lt_of_lt_of_le hk h.size) (fun ht => hx (hT k hk ht))).trans (h.block k hk (fun hs => hx (hS k hk hs)))⟩
theorem OwnIIB.cellAt {w : World} {base B : Nat} {v : Value} {xss : List (List Int)} (h : OwnIIB w base B v xss) {i j : Nat} (hi : i < xss.length) (hj : j < xss[i].length) :
    ∃ gv c g rc, v = .slice (some ⟨gv, 0, none⟩) xss.length c ∧ w.cell? ⟨gv, i, none⟩ = some (.slice (some ⟨g, 0, none⟩) xss[i].length rc) ∧ w.cell? ⟨g, j, none⟩ = some (.int .i64 xss[i][j]) ∧ w.frozen? ⟨g, j, none⟩ = false ∧
      base ≤ g ∧ g < w.heap.size ∧ base ≤ gv ∧ gv < w.heap.size ∧ ∀ x, OwnIIB (w.setCell ⟨g, j, none⟩ (.int .i64 x)) base B v (xss.set i (xss[i].set j x)) := by
  obtain ⟨vs, h1, h2, h3⟩ := h
  have hvl : i < vs.length := by rw [h2.1]; exact hi
  have hvi : vs[i]? = some vs[i] := List.getElem?_eq_getElem hvl
  have hu := h2.2.1 i vs[i] xss[i] hvi (List.getElem?_eq_getElem hi)
  rcases hu.forms with ⟨_, e⟩ | ⟨g, rc, e, hg1, hg2, _⟩
  · simp [e] at hj
  rcases id h1.2 with ⟨_, h0⟩ | ⟨gv, c, cur, hv, hgv, hcur, _⟩
  · omega
  subst hv
  obtain ⟨ad', c', he, _, _, hrd⟩ := ownsRow_rd h1
  simp at he
  obtain ⟨rfl, rfl⟩ := he
  obtain ⟨b, off, he, hcell⟩ := hrd.one hvi
  simp at he
  obtain ⟨rfl, rfl⟩ := he
  rw [e] at hcell hu hvi
  have hne : (Value.slice (some ⟨gv, 0, none⟩) xss.length c).ownBlock ≠ some g := hu.apart h1 rfl
  refine ⟨gv, c, g, rc, rfl, by simpa using hcell, hu.cell hj, hu.free j, hg1, hg2, hgv, (Array.getElem?_eq_some_iff.1 hcur).1, fun x => ⟨vs, ?_, ⟨by simp [h2.1], fun k u xs hk hx => ?_, h2.2.2⟩, h3⟩⟩
  · rw [List.length_set]; exact ownsRow_set_other h1 hne _
  · by_cases hki : k = i
    · subst hki
      rw [hvi] at hk
      cases hk
      rw [List.getElem?_set_self hi] at hx
      cases hx
      exact hu.set j x
    · rw [List.getElem?_set_ne (Ne.symm hki)] at hx
      exact ownsRow_set_other (h2.2.1 k u xs hk hx) (h2.2.2 i k _ u g (Ne.symm hki) hvi hk rfl) _
theorem OwnII.cellAt {w : World} {base : Nat} {v : Value} {xss : List (List Int)} (h : OwnII w base v xss) {i j : Nat} (hi : i < xss.length) (hj : j < xss[i].length) :
    ∃ gv c g rc, v = .slice (some ⟨gv, 0, none⟩) xss.length c ∧ w.cell? ⟨gv, i, none⟩ = some (.slice (some ⟨g, 0, none⟩) xss[i].length rc) ∧ w.cell? ⟨g, j, none⟩ = some (.int .i64 xss[i][j]) ∧ w.frozen? ⟨g, j, none⟩ = false ∧
      base ≤ g ∧ g < w.heap.size ∧ base ≤ gv ∧ gv < w.heap.size ∧ ∀ x, OwnII (w.setCell ⟨g, j, none⟩ (.int .i64 x)) base v (xss.set i (xss[i].set j x)) := by
  obtain ⟨gv, c, g, rc, h1, h2, h3, h4, h5, h6, h7, h8, h9⟩ := h.b.cellAt hi hj
  exact ⟨gv, c, g, rc, h1, h2, h3, h4, h5, h6, h7, h8, fun x => (h9 x).ii⟩
/-- a row of owned rows: itself owned; what it becomes, the rows become -/
theorem OwnIIB.rowAt {w : World} {base B : Nat} {v : Value} {xss : List (List Int)} (h : OwnIIB w base B v xss) {i : Nat} (hi : i < xss.length) (hj : 0 < xss[i].length) :
    ∃ gv c g rc, v = .slice (some ⟨gv, 0, none⟩) xss.length c ∧ w.cell? ⟨gv, i, none⟩ = some (.slice (some ⟨g, 0, none⟩) xss[i].length rc) ∧ OwnI w base (.slice (some ⟨g, 0, none⟩) xss[i].length rc) xss[i] ∧
      base ≤ g ∧ g < w.heap.size ∧ g < B ∧ base ≤ gv ∧ gv < w.heap.size ∧ gv ≠ g ∧ ∀ w' r', Fs (fun k => k = g) w w' → OwnI w' base (.slice (some ⟨g, 0, none⟩) xss[i].length rc) r' → OwnIIB w' base B v (xss.set i r') := by
  obtain ⟨vs, h1, h2, h3⟩ := h
  have hvl : i < vs.length := by rw [h2.1]; exact hi
  have hvi : vs[i]? = some vs[i] := List.getElem?_eq_getElem hvl
  have hu := h2.2.1 i vs[i] xss[i] hvi (List.getElem?_eq_getElem hi)
  rcases hu.forms with ⟨_, e⟩ | ⟨g, rc, e, hg1, hg2, _⟩
  · simp [e] at hj
  rcases id h1.2 with ⟨_, h0⟩ | ⟨gv, c, cur, hv, hgv, hcur, _⟩
  · omega
  subst hv
  obtain ⟨ad', c', he, _, _, hrd⟩ := ownsRow_rd h1
  simp at he
  obtain ⟨rfl, rfl⟩ := he
  obtain ⟨b, off, he, hcell⟩ := hrd.one hvi
  simp at he
  obtain ⟨rfl, rfl⟩ := he
  rw [e] at hcell hu hvi
  have hne : (Value.slice (some ⟨gv, 0, none⟩) xss.length c).ownBlock ≠ some g := hu.apart h1 rfl
  refine ⟨gv, c, g, rc, rfl, by simpa using hcell, hu, hg1, hg2, h3 i _ g hvi rfl, hgv, (Array.getElem?_eq_some_iff.1 hcur).1, fun e => hne (by simp [Value.ownBlock, e]), fun w' r' hf ho => ⟨vs, ?_, ⟨by simp [h2.1], fun k u xs hk hx => ?_, h2.2.2⟩, h3⟩⟩
  · rw [List.length_set]; exact ownsRow_fs1 h1 hf hne
  · by_cases hki : k = i
    · subst hki
      rw [hvi] at hk
      cases hk
      rw [List.getElem?_set_self hi] at hx
      cases hx
      exact ho
    · rw [List.getElem?_set_ne (Ne.symm hki)] at hx
      exact ownsRow_fs1 (h2.2.1 k u xs hk hx) hf (h2.2.2 i k _ u g (Ne.symm hki) hvi hk rfl)
theorem OwnIIB.rowOf {w : World} {base B gv n c : Nat} {xss : List (List Int)} (h : OwnIIB w base B (.slice (some ⟨gv, 0, none⟩) n c) xss) {i : Nat} {r : List Int} (hr : xss[i]? = some r) (hrl : r.length = n) (hn : 0 < n) :
    ∃ g rc, w.cell? ⟨gv, i, none⟩ = some (.slice (some ⟨g, 0, none⟩) n rc) ∧ OwnI w base (.slice (some ⟨g, 0, none⟩) n rc) r ∧
      base ≤ g ∧ g < B ∧ gv ≠ g ∧ ∀ w' r', Fs (fun k => k = g) w w' → OwnI w' base (.slice (some ⟨g, 0, none⟩) n rc) r' → OwnIIB w' base B (.slice (some ⟨gv, 0, none⟩) n c) (xss.set i r') := by
  obtain ⟨hi, rfl⟩ := List.getElem?_eq_some_iff.1 hr
  obtain ⟨gv', c', g, rc, he, h2, h3, h4, _, h5, _, _, h8, h9⟩ := h.rowAt hi (by omega)
  simp only [Value.slice.injEq, Option.some.injEq, Addr.mk.injEq] at he
  obtain ⟨⟨rfl, _⟩, _, rfl⟩ := he
  rw [hrl] at h2 h3
  refine ⟨g, rc, h2, h3, h4, h5, h8, fun w' r' hf ho => h9 w' r' hf (by rw [hrl]; exact ho)⟩
end Go.Proofs.Ytceobhmbnkheiaa
namespace Go.Proofs.Ytceobhmbnkheiaa
open Go.RowKit Go.Sort
set_option maxHeartbeats 1000000 in
theorem IndexFuncPick_any {u : Value} {xs : List Int} (cap0 : Value) (p : Int → Bool) (w : World) (ha : SlI w u xs)
    (hf : ∀ W x, Below w.heap.size w W → x ∈ xs → Calls Try.prog 79 #[.int .i64 x, cap0] W fun e w' => e = .returned (.bool (p x)) ∧ Below W.heap.size W w') :
    Calls Try.prog 92 #[u, .func (.func 79) #[] #[cap0]] w fun e w' => e = .returned (.int .i64 (ixP p xs 0)) ∧ Below w.heap.size w w' := by
  obtain ⟨a, ca, rfl, hca, hca', ha⟩ := ha
  unfold maxLen at hca'
  have HF := Lib.hid hf
  clear hf
  go_enter Try.func92, Try.ntmps92
  go_wp2
  go_loopw [5, 8] (fun _ i wr => ∃ k : Nat, k ≤ xs.length ∧ i = .int .i64 k ∧ Hid (ixP p xs 0 = ixP p (xs.drop k) k) ∧ Below w.heap.size w wr) (fun _ i _ => xs.length - (intOf i).toNat)
  case atStart => exact ⟨0, Nat.zero_le _, rfl, rfl, Below.refl _ _⟩
  case round =>
    obtain ⟨k, hk, rfl, hno, hbw⟩ := hrel
    by_cases hlt : k < xs.length
    · obtain ⟨b, off, rfl, gc⟩ := (ha.below hbw).one (i64s_get hlt)
      have i1 : (k : Int) < (xs.length : Int) := by omega
      have hst := ixP_step (p := p) hlt
      have HS := Lib.hid hst
      clear hst
      generalize hp : p xs[k] = P
      have HP := Lib.hid hp
      clear hp
      cases P
      · go_wp2_with fail
        refine (HF.out _ xs[k] hbw (List.getElem_mem hlt)).mono ?_
        rintro e w2 ⟨rfl, b2⟩
        rw [HP.out]
        have bq := hbw.trans (b2.mono hbw.size)
        go_wp2
        go_roundw
        case rel => exact ⟨k + 1, by omega, by go_num, by unfold Hid at *; rw [hno, HS, HP]; rfl, bq⟩
        case measure => simp [intOf]; omega
      · go_wp2_with fail
        refine (HF.out _ xs[k] hbw (List.getElem_mem hlt)).mono ?_
        rintro e w2 ⟨rfl, b2⟩
        rw [HP.out]
        have bq := hbw.trans (b2.mono hbw.size)
        go_wp2
        go_ret
        exact ⟨ri (by rw [hno.out, HS.out, HP.out]; rfl), bq⟩
    · obtain rfl : k = xs.length := by omega
      go_wp2
      go_ret
      exact ⟨ri (by rw [hno.out]; simp [ixP]), hbw⟩
set_option maxHeartbeats 400000 in
theorem ContainsFuncPick_any {u : Value} {xs : List Int} (cap0 : Value) (p : Int → Bool) (w : World) (ha : SlI w u xs)
    (hf : ∀ W x, Below w.heap.size w W → x ∈ xs → Calls Try.prog 79 #[.int .i64 x, cap0] W fun e w' => e = .returned (.bool (p x)) ∧ Below W.heap.size W w') :
    Calls Try.prog 78 #[u, .func (.func 79) #[] #[cap0]] w fun e w' => e = .returned (.bool (xs.any p)) ∧ Below w.heap.size w w' := by
  have hx := ixP_any p xs 0
  obtain ⟨hb0, hb1⟩ := ixP_bd p xs 0
  obtain ⟨a, ca, rfl, hca, hca', _⟩ := id ha
  unfold maxLen at hca'
  have HF := Lib.hid hf
  have HX := Lib.hid hx
  clear hf hx
  go_enter Try.func78, Try.ntmps78
  go_wp2_with fail
  refine (IndexFuncPick_any cap0 p _ ha HF.out).mono ?_
  rintro e w2 ⟨rfl, b2⟩
  go_wp2
  go_ret
  exact ⟨rb HX.out, b2⟩
end Go.Proofs.Ytceobhmbnkheiaa
namespace Go.Proofs.Ytceobhmbnkheiaa
open Go.RowKit Go.Sort
def graphV (n : Int) (v : Value) : Value := .agg #[.int .i64 n, v]
end Go.Proofs.Ytceobhmbnkheiaa
namespace Go.Proofs.Ytceobhmbnkheiaa
open Go.RowKit Go.Sort
set_option maxHeartbeats 400000 in
theorem l00Same_any {u v : Value} {xs ys : List Int} (w : World) (ha : SlI w u xs) (hb : SlI w v ys) :
    Calls Try.prog 67 #[u, v] w fun e w' => e = .returned (.bool (decide (xs = ys))) ∧ Below w.heap.size w w' := by
  obtain ⟨a, ca, rfl, hca, hca', ha⟩ := ha
  obtain ⟨b, cb, rfl, hcb, hcb', hb⟩ := hb
  unfold maxLen at hca' hcb'
  have hm : xs.length ≤ 9223372036854775807 := by omega
  have hn : ys.length ≤ 9223372036854775807 := by omega
  clear hca hca' hcb hcb'
  by_cases hl : xs.length = ys.length
  · have HL := Lib.hid hl
    clear hl
    have h1 : ((xs.length : Int) != (ys.length : Int)) = false := by simp [HL.out]
    go_enter Try.func67, Try.ntmps67
    go_wp2
    go_loopw [5] (fun i wr => ∃ k : Nat, k ≤ xs.length ∧ i = .int .i64 k ∧ xs.take k = ys.take k ∧ Below w.heap.size w wr) (fun i _ => xs.length - (intOf i).toNat)
    case atStart => exact ⟨0, Nat.zero_le _, rfl, rfl, Below.refl _ _⟩
    case round =>
      obtain ⟨k, hk, rfl, ht, hbw⟩ := hrel
      have ha' := ha.below hbw
      have hb' := hb.below hbw
      clear ha hb
      have HT := Lib.hid ht
      clear ht
      by_cases hlt : k < xs.length
      · have hj : k < ys.length := by rw [← HL.out]; exact hlt
        obtain ⟨ba, oa, rfl, ga⟩ := ha'.one (i64s_get hlt)
        obtain ⟨bb, ob, rfl, gb⟩ := hb'.one (i64s_get hj)
        clear ha' hb'
        go_wp2_with fail
        go_quiet (fail)
        go_wp2
        · go_ret
          have hx : (xs[k] != ys[k]) = true := by assumption
          have hne : ¬ xs[k] = ys[k] := by simpa using hx
          exact ⟨rb (by simp [ne_of_get hlt hj hne]), below_drewN hbw _⟩
        · have hx : (xs[k] != ys[k]) = false := by assumption
          have he : xs[k] = ys[k] := by simpa using hx
          go_roundw
          case rel => exact ⟨k + 1, by omega, by go_num, take_eq_succ HT.out hlt hj he, below_drewN hbw _⟩
          case measure => simp [intOf]; omega
      · have ht := HT.out
        go_wp2
        go_ret
        exact ⟨rb (by symm; simp; rw [List.take_of_length_le (by omega), List.take_of_length_le (by rw [← HL.out]; omega)] at ht; exact ht), hbw⟩
  · have h1 : ((xs.length : Int) != (ys.length : Int)) = true := by simp; omega
    have HL := Lib.hid hl
    clear hl
    go_enter Try.func67, Try.ntmps67
    go_wp2
    go_ret
    exact ⟨rb (by symm; simp; intro h; exact HL.out (by rw [h])), Below.refl _ _⟩

set_option maxHeartbeats 400000 in
theorem Equal_any {u v : Value} {xs ys : List Int} (w : World) (ha : SlI w u xs) (hb : SlI w v ys) :
    Calls Try.prog 65 #[u, v] w fun e w' => e = .returned (.bool (decide (xs = ys))) ∧ Below w.heap.size w w' := by
  obtain ⟨a, ca, rfl, hca, hca', ha⟩ := ha
  obtain ⟨b, cb, rfl, hcb, hcb', hb⟩ := hb
  unfold maxLen at hca' hcb'
  have hm : xs.length ≤ 9223372036854775807 := by omega
  have hn : ys.length ≤ 9223372036854775807 := by omega
  clear hca hca' hcb hcb'
  by_cases hl : xs.length = ys.length
  · have HL := Lib.hid hl
    clear hl
    have h1 : ((xs.length : Int) != (ys.length : Int)) = false := by simp [HL.out]
    go_enter Try.func65, Try.ntmps65
    go_wp2
    go_loopw [13] (fun i wr => ∃ k : Nat, k ≤ xs.length ∧ i = .int .i64 k ∧ xs.take k = ys.take k ∧ Below w.heap.size w wr) (fun i _ => xs.length - (intOf i).toNat)
    case atStart => exact ⟨0, Nat.zero_le _, rfl, rfl, Below.refl _ _⟩
    case round =>
      obtain ⟨k, hk, rfl, ht, hbw⟩ := hrel
      have ha' := ha.below hbw
      have hb' := hb.below hbw
      clear ha hb
      have HT := Lib.hid ht
      clear ht
      by_cases hlt : k < xs.length
      · have hj : k < ys.length := by rw [← HL.out]; exact hlt
        obtain ⟨ba, oa, rfl, ga⟩ := ha'.one (i64s_get hlt)
        obtain ⟨bb, ob, rfl, gb⟩ := hb'.one (i64s_get hj)
        clear ha' hb'
        go_wp2_with fail
        go_quiet (fail)
        go_wp2
        · go_ret
          have hx : (xs[k] != ys[k]) = true := by assumption
          have hne : ¬ xs[k] = ys[k] := by simpa using hx
          exact ⟨rb (by simp [ne_of_get hlt hj hne]), below_drewN hbw _⟩
        · have hx : (xs[k] != ys[k]) = false := by assumption
          have he : xs[k] = ys[k] := by simpa using hx
          go_roundw
          case rel => exact ⟨k + 1, by omega, by go_num, take_eq_succ HT.out hlt hj he, below_drewN hbw _⟩
          case measure => simp [intOf]; omega
      · have ht := HT.out
        go_wp2
        go_ret
        exact ⟨rb (by symm; simp; rw [List.take_of_length_le (by omega), List.take_of_length_le (by rw [← HL.out]; omega)] at ht; exact ht), hbw⟩
  · have h1 : ((xs.length : Int) != (ys.length : Int)) = true := by simp; omega
    have HL := Lib.hid hl
    clear hl
    go_enter Try.func65, Try.ntmps65
    go_wp2
    go_ret
    exact ⟨rb (by symm; simp; intro h; exact HL.out (by rw [h])), Below.refl _ _⟩


end Go.Proofs.Ytceobhmbnkheiaa
namespace Go.Proofs.Ytceobhmbnkheiaa
open Go.RowKit Go.Sort
/-- comparison of lists, as slices.Compare has it -/
def cmpL : List Int → List Int → Int
  | [], [] => 0
  | [], _ :: _ => -1
  | _ :: _, [] => 1
  | x :: xs, y :: ys => if x = y then cmpL xs ys else if x < y then -1 else 1
def lessL : List Int → List Int → Bool
  | [], [] => false
  | [], _ :: _ => true
  | _ :: _, [] => false
  | x :: xs, y :: ys => if x = y then lessL xs ys else decide (x < y)
theorem cmpL_bd : ∀ x y : List Int, -1 ≤ cmpL x y ∧ cmpL x y ≤ 1
  | [], [] => by decide
  | [], _ :: _ => by unfold cmpL; decide
  | _ :: _, [] => by unfold cmpL; decide
  | x :: xs, y :: ys => by
    unfold cmpL
    split
    · exact cmpL_bd xs ys
    · split <;> decide
theorem cmpL_less : ∀ x y : List Int, decide (0 ≤ cmpL x y) = !lessL x y
  | [], [] => by decide
  | [], _ :: _ => by unfold cmpL lessL; decide
  | _ :: _, [] => by unfold cmpL lessL; decide
  | x :: xs, y :: ys => by
    unfold cmpL lessL
    split
    · exact cmpL_less xs ys
    · split <;> rename_i h <;> simp [h]
theorem cmpL_drop {x y : List Int} {k : Nat} (hx : k < x.length) (hy : k < y.length) : cmpL (x.drop k) (y.drop k) = if x[k] = y[k] then cmpL (x.drop (k + 1)) (y.drop (k + 1)) else if x[k] < y[k] then -1 else 1 := by
  rw [List.drop_eq_getElem_cons hx, List.drop_eq_getElem_cons hy]; rfl
theorem lessL_drop {x y : List Int} {k : Nat} (hx : k < x.length) (hy : k < y.length) : lessL (x.drop k) (y.drop k) = if x[k] = y[k] then lessL (x.drop (k + 1)) (y.drop (k + 1)) else decide (x[k] < y[k]) := by
  rw [List.drop_eq_getElem_cons hx, List.drop_eq_getElem_cons hy]; rfl
theorem inRange_q {x a b : Int} {q : Bool} (h : inR x a b = q) (w : World) : Calls Try.prog 39 #[.int .i64 x, .int .i64 a, .int .i64 b] w fun e w' => e = .returned (.bool q) ∧ Below w.heap.size w w' :=
  (inRange_any x a b w).mono fun e w' ⟨h1, h2⟩ => ⟨by rw [h1, h], by rw [h2]; exact Below.refl _ _⟩
theorem l00In_q {x a b : Int} {q : Bool} (h : inR x a b = q) (w : World) : Calls Try.prog 40 #[.int .i64 x, .int .i64 a, .int .i64 b] w fun e w' => e = .returned (.bool q) ∧ Below w.heap.size w w' :=
  (l00In_any x a b w).mono fun e w' ⟨h1, h2⟩ => ⟨by rw [h1, h], by rw [h2]; exact Below.refl _ _⟩
end Go.Proofs.Ytceobhmbnkheiaa
namespace Go.Proofs.Ytceobhmbnkheiaa
open Go.RowKit Go.Sort
/-- an edge, with the greatest node hi and e0 + 1 as the machine has it -/
def edgeW (hi : Int) (e : List Int) : Bool := decide (e.length = 2) && (inR (e.getD 0 0) 0 hi && inR (e.getD 1 0) (IntKind.i64.wrap (e.getD 0 0 + 1)) hi)
def stepW (hi : Int) (es : List (List Int)) (k : Nat) : Bool := edgeW hi (es.getD k []) && (decide (k = 0) || lessL (es.getD (k - 1) []) (es.getD k []))
def okN (hi : Int) (es : List (List Int)) : Nat → Bool
  | 0 => true
  | k + 1 => okN hi es k && stepW hi es k
def graphOk (n : Int) (es : List (List Int)) : Bool := inR n 1 5 && okN (IntKind.i64.wrap (n - 1)) es es.length
theorem okN_false {hi : Int} {es : List (List Int)} {k : Nat} (h : stepW hi es k = false) : ∀ {m : Nat}, k < m → okN hi es m = false
  | 0, h1 => by omega
  | m + 1, h1 => by
    unfold okN
    by_cases hk : k = m
    · subst hk; rw [h]; simp
    · rw [okN_false h (show k < m by omega)]; rfl
theorem getD_at {α : Type} {l : List α} {k : Nat} {d : α} (h : k < l.length) : l.getD k d = l[k] := by
  rw [List.getD_eq_getElem?_getD, List.getElem?_eq_getElem h]; rfl
theorem len2 {e : List Int} (h : e.length = 2) : ∃ a b, e = [a, b] := by
  match e, h with
  | [a, b], _ => exact ⟨a, b, rfl⟩
theorem edgeW_no {hi : Int} {e : List Int} (h : ¬ e.length = 2) : edgeW hi e = false := by simp [edgeW, h]
theorem edgeW_two {hi a b q : Int} (h : IntKind.i64.wrap (a + 1) = q) : edgeW hi [a, b] = (inR a 0 hi && inR b q hi) := by simp [edgeW, h]
end Go.Proofs.Ytceobhmbnkheiaa
namespace Go.Proofs.Ytceobhmbnkheiaa
open Go.RowKit Go.Sort
end Go.Proofs.Ytceobhmbnkheiaa
namespace Go.Proofs.Ytceobhmbnkheiaa
open Go.RowKit Go.Sort
end Go.Proofs.Ytceobhmbnkheiaa
namespace Go.Proofs.Ytceobhmbnkheiaa
open Go.RowKit Go.Sort
end Go.Proofs.Ytceobhmbnkheiaa
namespace Go.Proofs.Ytceobhmbnkheiaa
open Go.RowKit

/-- append(v, u) on owned rows, u a row that has been made since -/
theorem append_row {ops : Array Oper} {rest : List Oper} {o : Oper} {a : Act} {Q : Exit → Act → World → Prop} (w0 w : World) (s x : Operand) (hg : o.guard = none)
    (ho : o.op = .call { callee := .builtin .append, args := #[s, x], argTypes := #[50, 50] })
    {base : Nat} {v u : Value} {xss : List (List Int)} {xs : List Int} (hs : a.eval s = v) (hown : OwnII w0 base v xss) (hb : Below w0.heap.size w0 w) (hu : OwnI w w0.heap.size u xs) {t : Nat} (hx : a.eval x = .slice (some ⟨w.heap.size, 0, none⟩) 1 1)
    (hlen : xss.length < 16777216) (hbase : base ≤ w0.heap.size)
    (h : ∀ v' w', OwnII w' base v' (xss ++ [xs]) → Below base (w.alloc (.cells #[u] t)) w' → w.heap.size < w'.heap.size → wpList Try.prog ops Q rest (a.put o.dst v') w') : wpList Try.prog ops Q (o :: rest) a (w.alloc (.cells #[u] t)) := by
  obtain ⟨vs, h1, h2⟩ := hown
  have hlt := h2.lt
  have h1' := ownsRow_below h1 hb
  have h2' := h2.below hb
  have hu1 : u.oneCell' = true := by
    rcases hu.2 with ⟨rfl, _⟩ | ⟨g, c, cur, rfl, _⟩ <;> rfl
  refine append_one tI64S w u hu1 s x hg ho hs h1' hx hlen (Nat.le_trans hbase hb.size) (fun v' w' k1 k2 k3 k4 => ?_)
  refine h v' w' ⟨vs ++ [u], ?_, ?_⟩ k3 k4
  · rw [List.length_append]; exact k1
  · have hsn : Rows2 w base (vs ++ [u]) (xss ++ [xs]) := Rows2.snoc (B := w0.heap.size) h2' (hu.lower hbase) (fun i v g hv hg => (hlt i v g hv hg).2) (fun g hg => (hu.lt g hg).1)
    exact (hsn.below ((Below.refl _ _).alloc (Nat.le_refl _) _)).kept (h1'.alloc (.cells #[u] t)) k2

/-- the next longer decks of one -/
def extD (c : Nat) (d : List Int) : List (List Int) := ((upTo' c).filter (fun x => !decide (x ∈ d))).map (fun x => d ++ [x])
where upTo' (n : Nat) : List Int := (List.range n).map fun (i : Nat) => (i : Int)
def extN (c : Nat) (d : List Int) (x : Nat) : List (List Int) := ((extD.upTo' x).filter (fun x => !decide (x ∈ d))).map (fun x => d ++ [x])
def decksL (c : Nat) : Nat → List (List Int)
  | 0 => [[]]
  | k + 1 => (decksL c k).flatMap (extD c)
theorem extN_full (c : Nat) (d : List Int) : extN c d c = extD c d := rfl
theorem extN_zero (c : Nat) (d : List Int) : extN c d 0 = [] := rfl
theorem extN_no {c x : Nat} {d : List Int} (h : (x : Int) ∈ d) : extN c d (x + 1) = extN c d x := by
  simp [extN, extD.upTo', List.range_succ, List.filter_append, h]
theorem extN_yes {c x : Nat} {d : List Int} (h : ¬ (x : Int) ∈ d) : extN c d (x + 1) = extN c d x ++ [d ++ [(x : Int)]] := by
  simp [extN, extD.upTo', List.range_succ, List.filter_append, h]
theorem extN_length (c x : Nat) (d : List Int) : (extN c d x).length ≤ x := by
  unfold extN
  rw [List.length_map]
  refine Nat.le_trans (List.length_filter_le _ _) ?_
  simp [extD.upTo']
theorem decks_small {c k : Nat} (hc1 : 1 ≤ c) (hc : c ≤ 3) (hk : k ≤ c) : (decksL c k).length ≤ 6 ∧ ∀ d ∈ decksL c k, d.length = k := by
  have h : ∀ c, c ≤ 3 → ∀ k, k ≤ c → 1 ≤ c → ((decksL c k).length ≤ 6 ∧ ∀ d ∈ decksL c k, d.length = k) := by decide
  exact h c hc k hk hc1
theorem flat_take (l : List (List Int)) (f : List Int → List (List Int)) {i : Nat} (h : i < l.length) : (l.take (i + 1)).flatMap f = (l.take i).flatMap f ++ f l[i] := by
  rw [List.take_succ_eq_append_getElem h, List.flatMap_append]; simp
theorem flat_take_le (l : List (List Int)) (f : List Int → List (List Int)) (i : Nat) : ((l.take i).flatMap f).length ≤ (l.flatMap f).length := by
  conv => rhs; rw [← List.take_append_drop i l]
  rw [List.flatMap_append, List.length_append]; omega

set_option maxHeartbeats 400000 in
theorem l00Own_any {u : Value} {xs : List Int} (w : World) (ha : SlI w u xs) (hl : xs.length ≤ 1048576) :
    Calls Try.prog 35 #[u] w fun e w' => ∃ v, e = .returned v ∧ OwnI w' w.heap.size v xs ∧ Below w.heap.size w w' := by
  have bx : Below w.heap.size w (w.alloc (.cells #[] 2)) := (Below.refl _ _).alloc (Nat.le_refl _) _
  have hb := ha.below bx
  have hown := OwnI.empty w (base := w.heap.size) (Nat.le_refl _)
  obtain ⟨a, ca, rfl, _⟩ := id ha
  clear ha
  go_enter Try.func35, Try.ntmps35
  go_wp2_with (at_builtin; refine append_SlI _ _ _ rfl rfl rfl hown rfl hb (by simp; omega) (by simp) ?_)
  intro v' w1 hown1 hg1 hb1
  go_wp2
  go_ret
  exact ⟨_, rfl, hown1, bx.trans hb1⟩

theorem OwnII.one (w : World) {base : Nat} {u : Value} {xs : List Int} (hu : OwnI w base u xs) (hb : base ≤ w.heap.size) :
    OwnII (w.alloc (.cells #[u] 32)) base (.slice (some ⟨w.heap.size, 0, none⟩) 1 1) [xs] := by
  have hu1 : u.oneCell' = true := by rcases hu.2 with ⟨rfl, _⟩ | ⟨g, c, cur, rfl, _⟩ <;> rfl
  refine ⟨[u], World.ownsRow_lit (base := base) (e := 32) (size := 1) w #[u] 1 hb (by simp [maxLen]) (by simp), rfl, ?_, ?_⟩
  · intro i u' xs' h1 h2
    cases i with
    | zero => simp at h1 h2; subst h1 h2; exact hu.below ((Below.refl _ _).alloc (Nat.le_refl _) _)
    | succ i => simp at h1
  · intro i j u' v' g hij h1 h2
    cases i with
    | zero => cases j with
      | zero => exact absurd rfl hij
      | succ j => simp at h2
    | succ i => simp at h1

theorem OwnI.empty' (w : World) {base : Nat} (hb : base ≤ w.heap.size) : OwnI (w.alloc (.cells #[] 2)) base (.slice (some ⟨w.heap.size, 0, none⟩) 0 0) [] := OwnI.empty w hb

end Go.Proofs.Ytceobhmbnkheiaa
namespace Go.Proofs.Ytceobhmbnkheiaa
open Go.RowKit

def findFrom : List (List Int) → List Int → Nat → Int
  | [], _, _ => -1
  | d :: ds, x, k => if d = x then (k : Int) else findFrom ds x (k + 1)
def findD (x : List Int) : Int := if inR x.length 1 3 = true then findFrom (decksL x.length x.length) x 0 else -1
def lastIx (l : List Int) (x : Int) : Nat → Int
  | 0 => -1
  | i + 1 => if l.getD i 0 = x then (i : Int) else lastIx l x i
def runsN (l : List Int) : Nat → Int
  | 0 => 1
  | k + 1 => if lastIx l ((k : Int) + 1) l.length < lastIx l k l.length then runsN l k + 1 else runsN l k
def ixFrom : List Int → Int → Nat → Int
  | [], _, _ => -1
  | y :: r, x, k => if x = y then (k : Int) else ixFrom r x (k + 1)
def runsM (l : List Int) : Nat → Int
  | 0 => 1
  | k + 1 => if ixFrom l ((k : Int) + 1) 0 < ixFrom l k 0 then runsM l k + 1 else runsM l k
theorem findFrom_ge : ∀ (D : List (List Int)) (x : List Int) (k : Nat), 0 ≤ findFrom D x k ↔ x ∈ D
  | [], x, k => by simp [findFrom]
  | d :: ds, x, k => by
    unfold findFrom
    by_cases h : d = x
    · rw [if_pos h]; simp [h]
    · rw [if_neg h, findFrom_ge ds x (k + 1)]; simp [Ne.symm h]
theorem findFrom_step {D : List (List Int)} {x : List Int} {k : Nat} (h : k < D.length) : findFrom (D.drop k) x k = if D[k] = x then (k : Int) else findFrom (D.drop (k + 1)) x (k + 1) := by
  rw [List.drop_eq_getElem_cons h]; rfl
theorem ixFrom_step {l : List Int} {x : Int} {k : Nat} (h : k < l.length) : ixFrom (l.drop k) x k = if x = l[k] then (k : Int) else ixFrom (l.drop (k + 1)) x (k + 1) := by
  rw [List.drop_eq_getElem_cons h]; rfl
theorem lastIx_bd (l : List Int) (x : Int) : ∀ i, -1 ≤ lastIx l x i ∧ lastIx l x i < i
  | 0 => by simp [lastIx]
  | i + 1 => by
    unfold lastIx
    have := lastIx_bd l x i
    split <;> omega
theorem ixFrom_bd : ∀ (l : List Int) (x : Int) (k : Nat), -1 ≤ ixFrom l x k ∧ ixFrom l x k < k + l.length
  | [], x, k => by simp [ixFrom] <;> omega
  | y :: r, x, k => by
    unfold ixFrom
    have := ixFrom_bd r x (k + 1)
    split
    · simp; omega
    · simp at this ⊢; omega
theorem runsN_bd (l : List Int) : ∀ k, 1 ≤ runsN l k ∧ runsN l k ≤ 1 + k
  | 0 => by simp [runsN]
  | k + 1 => by have := runsN_bd l k; unfold runsN; split <;> omega
theorem runsM_bd (l : List Int) : ∀ k, 1 ≤ runsM l k ∧ runsM l k ≤ 1 + k
  | 0 => by simp [runsM]
  | k + 1 => by have := runsM_bd l k; unfold runsM; split <;> omega
def ordTail (n : Int) : List Int → List Int → Bool
  | _, [] => true
  | s, x :: r => inR x 0 (n - 1) && (!decide (x ∈ s) && ordTail n (s ++ [x]) r)
def ordOk (n : Nat) (l : List Int) : Bool := ordTail n [] l && decide (l.length = n)
def seenL (s : List Int) (n : Nat) : List Bool := (List.range n).map fun (j : Nat) => decide ((j : Int) ∈ s)
theorem seenL_length (s : List Int) (n : Nat) : (seenL s n).length = n := by simp [seenL]
theorem seenL_get {s : List Int} {n j : Nat} (h : j < n) : (seenL s n)[j]'(by simp [seenL]; exact h) = decide ((j : Int) ∈ s) := by simp [seenL]
theorem seenL_nil (n : Nat) : seenL [] n = List.replicate n false := by
  apply List.ext_getElem <;> simp [seenL]
theorem seenL_set {s : List Int} {n j : Nat} : (seenL s n).set j true = seenL (s ++ [(j : Int)]) n := by
  apply List.ext_getElem
  · simp [seenL]
  · intro i h1 h2
    simp [seenL] at h1
    rw [List.getElem_set]
    simp [seenL]
    by_cases h : j = i
    · simp [h]
    · simp [h]; omega
theorem ordTail_step {n : Int} {l : List Int} {k : Nat} (h : k < l.length) : ordTail n (l.take k) (l.drop k) = (inR l[k] 0 (n - 1) && (!decide (l[k] ∈ l.take k) && ordTail n (l.take (k + 1)) (l.drop (k + 1)))) := by
  rw [List.drop_eq_getElem_cons h, List.take_succ_eq_append_getElem h]; rfl

def runsR (x : List Int) : Int × Int := if 0 ≤ findD x then (runsN x (x.length - 1), 0) else (0, 2)
def tupII (r : Int × Int) : Value := .tuple #[.int .i64 r.1, .int .i64 r.2]
theorem findD_len {x : List Int} (h : 0 ≤ findD x) : 1 ≤ x.length ∧ x.length ≤ 3 := by
  unfold findD at h
  split at h
  · rename_i hi; have := inR_iff.1 hi; omega
  · omega
theorem FB_own_set {w : World} {base g n c : Nat} {xs : List Bool} (h : FB.Own w base (.slice (some ⟨g, 0, none⟩) n c) xs) (i : Nat) (x : Bool) :
    FB.Own (w.setCell ⟨g, i, none⟩ (.bool x)) base (.slice (some ⟨g, 0, none⟩) n c) (xs.set i x) := by
  obtain rfl := h.len_of
  have := (World.ownsRow.stored (base := base) h i (.bool x)).1
  unfold Flat.Own
  rw [List.length_set, FB_encs]
  rw [FB_encs] at this
  simpa [List.map_set] using this
theorem FB_own_cell {w : World} {base g n c : Nat} {xs : List Bool} (h : FB.Own w base (.slice (some ⟨g, 0, none⟩) n c) xs) {i : Nat} (hi : i < xs.length) : w.cell? ⟨g, i, none⟩ = some (.bool xs[i]) := by
  have := h.cell (i := i) (j := 0) hi (by decide)
  have e : i * FB.size + 0 = i := by show i * 1 + 0 = i; omega
  rw [e] at this
  exact this
def isDeckB (x : List Int) : Bool := inR x.length 1 3 && ordOk x.length x
/-- the same decks are right on both sides, and have the same runs -/
theorem deck_law : ∀ x : List Int, (0 ≤ findD x ↔ isDeckB x = true) ∧ (0 ≤ findD x → runsN x (x.length - 1) = runsM x (x.length - 1)) := by
  have all : ∀ n, n ≤ 3 → ∀ d ∈ decksL n n, runsN d (d.length - 1) = runsM d (d.length - 1) ∧ isDeckB d = decide (1 ≤ n) := by decide
  have key : ∀ x : List Int, isDeckB x = true → x ∈ decksL x.length x.length := by
    intro x hx
    unfold isDeckB at hx
    rw [Bool.and_eq_true] at hx
    have hl := inR_iff.1 hx.1
    have ho := hx.2
    unfold ordOk at ho
    rw [Bool.and_eq_true] at ho
    have ho := ho.1
    have c1 : ∀ y : Int, inR y 0 0 = true → y = 0 := by intro y h; have := inR_iff.1 h; omega
    have c2 : ∀ y : Int, inR y 0 1 = true → y = 0 ∨ y = 1 := by intro y h; have := inR_iff.1 h; omega
    have c3 : ∀ y : Int, inR y 0 2 = true → y = 0 ∨ y = 1 ∨ y = 2 := by intro y h; have := inR_iff.1 h; omega
    match x, hl, ho with
    | [a], _, ho =>
      simp [ordTail] at ho
      obtain rfl := c1 a ho
      decide
    | [a, b], _, ho =>
      simp [ordTail] at ho
      obtain ⟨h1, h2, h3⟩ := ho
      rcases c2 a h1 with rfl | rfl <;> rcases c2 b h2 with rfl | rfl <;> first | decide | (exact absurd rfl h3)
    | [a, b, c], _, ho =>
      simp [ordTail] at ho
      obtain ⟨h1, h2, h3, h4, h5, h6⟩ := ho
      rcases c3 a h1 with rfl | rfl | rfl <;> rcases c3 b h2 with rfl | rfl | rfl <;> rcases c3 c h4 with rfl | rfl | rfl <;> first | decide | (exact absurd rfl h3) | (exact absurd rfl h5) | (exact absurd rfl h6)
    | [], hl, _ => simp at hl
    | a :: b :: c :: d :: r, hl, _ => simp at hl; omega
  intro x
  have hf : 0 ≤ findD x ↔ (1 ≤ x.length ∧ x.length ≤ 3) ∧ x ∈ decksL x.length x.length := by
    unfold findD
    by_cases h : inR x.length 1 3 = true
    · rw [if_pos h, findFrom_ge]
      have := inR_iff.1 h
      constructor
      · intro h; exact ⟨by omega, h⟩
      · intro h; exact h.2
    · rw [if_neg h]
      constructor
      · intro h; omega
      · intro h2; exact absurd (inR_iff.2 (by omega)) h
  refine ⟨⟨fun h => ?_, fun h => ?_⟩, fun h => ?_⟩
  · have h2 := hf.1 h
    have := (all _ h2.1.2 _ h2.2).2
    rw [this]; simp; omega
  · have h2 := h
    unfold isDeckB at h2
    rw [Bool.and_eq_true] at h2
    have := inR_iff.1 h2.1
    exact hf.2 ⟨by omega, key x h⟩
  · have h2 := hf.1 h
    exact (all _ h2.1.2 _ h2.2).1
end Go.Proofs.Ytceobhmbnkheiaa
namespace Go.Proofs.Ytceobhmbnkheiaa
open Go.RowKit Go.Sort
end Go.Proofs.Ytceobhmbnkheiaa
namespace Go.Proofs.Ytceobhmbnkheiaa
open Go.RowKit Go.Sort
end Go.Proofs.Ytceobhmbnkheiaa
namespace Go.Proofs.Ytceobhmbnkheiaa
open Go.RowKit Go.Sort
def rampII : Int → List (List Int) → List (List Int)
  | _, [] => []
  | m, r :: rs => ramp m r.length :: rampII (m + r.length) rs
theorem rampII_len : ∀ (m : Int) (xss : List (List Int)), (rampII m xss).length = xss.length
  | _, [] => rfl
  | m, r :: rs => by simp [rampII, rampII_len _ rs]
theorem rampII_at : ∀ {m : Int} {xss : List (List Int)} {k : Nat} (h : k < xss.length), (rampII m xss)[k]? = some (ramp (m + sumL (xss.take k)) xss[k].length)
  | m, r :: rs, 0, _ => by simp [rampII, sumL]
  | m, r :: rs, k + 1, h => by
    have h' : k < rs.length := by simpa using h
    have e := rampII_at (m := m + r.length) h'
    simp only [rampII, List.getElem?_cons_succ, List.getElem_cons_succ, List.take_succ_cons]
    rw [e]
    have : sumL (r :: rs.take k) = r.length + sumL (rs.take k) := by simp [sumL]
    rw [this]
    simp only [Option.some.injEq]
    congr 1
    omega
def mixII (m : Int) (xss : List (List Int)) (k : Nat) : List (List Int) := (rampII m xss).take k ++ xss.drop k
theorem mixII_zero {m : Int} {xss : List (List Int)} : mixII m xss 0 = xss := by simp [mixII]
theorem mixII_all {m : Int} {xss : List (List Int)} : mixII m xss xss.length = rampII m xss := by
  unfold mixII
  rw [List.drop_length, List.append_nil, List.take_of_length_le (by rw [rampII_len]; exact Nat.le_refl _)]
theorem mixII_get {m : Int} {xss : List (List Int)} {k i : Nat} (hk : k ≤ xss.length) : (mixII m xss k)[i]? = if i < k then (rampII m xss)[i]? else xss[i]? := by
  unfold mixII
  have hl : ((rampII m xss).take k).length = k := by rw [List.length_take, rampII_len]; omega
  by_cases h : i < k
  · rw [List.getElem?_append_left (by omega), if_pos h, List.getElem?_take_of_lt h]
  · rw [List.getElem?_append_right (by omega), if_neg h, hl, List.getElem?_drop]
    congr 1
    omega
theorem mixII_at {m : Int} {xss : List (List Int)} {k : Nat} (h : k < xss.length) : (mixII m xss k)[k]? = some xss[k] := by
  rw [mixII_get (by omega), if_neg (by omega), List.getElem?_eq_getElem h]
theorem mixII_new {m : Int} {xss : List (List Int)} {k : Nat} (h : k < xss.length) : (mixII m xss (k + 1))[k]? = some (ramp (m + sumL (xss.take k)) xss[k].length) := by
  rw [mixII_get (by omega), if_pos (by omega), rampII_at h]
theorem mixII_old {m : Int} {xss : List (List Int)} {k i : Nat} (h : i ≠ k) : (mixII m xss (k + 1))[i]? = (mixII m xss k)[i]? := by
  by_cases hk : k < xss.length
  · rw [mixII_get (by omega), mixII_get (by omega)]
    by_cases h1 : i < k
    · rw [if_pos h1, if_pos (by omega)]
    · rw [if_neg h1, if_neg (by omega)]
  · unfold mixII
    rw [List.drop_of_length_le (by omega), List.drop_of_length_le (by omega), List.take_of_length_le (by rw [rampII_len]; omega), List.take_of_length_le (by rw [rampII_len]; omega)]
theorem OwnIIB.fs {S : Nat → Prop} {w w' : World} {base B : Nat} {v : Value} {xss : List (List Int)} (h : OwnIIB w base B v xss) (hf : Fs S w w') (hS : ∀ k, S k → k < base) : OwnIIB w' base B v xss := by
  obtain ⟨vs, h1, h2, h3⟩ := h
  exact ⟨vs, ownsRow_fs h1 hf hS, ⟨h2.1, fun i u xs hu hx => ownsRow_fs (h2.2.1 i u xs hu hx) hf hS, h2.2.2⟩, h3⟩
end Go.Proofs.Ytceobhmbnkheiaa
namespace Go.Proofs.Ytceobhmbnkheiaa
open Go.RowKit Go.Sort
def CellV := {v : Value // v.oneCell' = true}
def encR (x : CellV) : List Value := [x.1]
theorem encR_one (x : CellV) (u : Value) (h : u ∈ encR x) : u.oneCell' = true := by
  simp [encR] at h
  subst h
  exact x.2
/-- F: the rows; R: the slice of them -/
structure FRow (α : Type) where
  F : Flat α
  R : Flat CellV
  enc : R.enc = encR
  one : R.size = 1
  ne : R.E ≠ F.E
def PairR {α : Type} (P : Value → List α → Prop) (us : List CellV) (xss : List (List α)) : Prop :=
  us.length = xss.length ∧ ∀ (i : Nat) (u : CellV) (xs : List α), us[i]? = some u → xss[i]? = some xs → P u.1 xs
theorem PairR.imp {α : Type} {P Q : Value → List α → Prop} {us : List CellV} {xss : List (List α)} (h : PairR P us xss) (hpq : ∀ v xs, P v xs → Q v xs) : PairR Q us xss :=
  ⟨h.1, fun i u m hu hm => hpq _ _ (h.2 i u m hu hm)⟩
theorem flat_fs2 {α : Type} {F : Flat α} {w w' : World} {base : Nat} {v : Value} {xs : List α} {S : Nat → Prop} (h : F.Own w base v xs) (hf : Fs S w w') (hS : ∀ k, S k → k < base) : F.Own w' base v xs := by
  refine ⟨h.1, ?_⟩
  rcases h.2 with h2 | ⟨g, c, cur, h1, h2, h3, h4⟩
  · exact .inl h2
  · refine .inr ⟨g, c, cur, h1, h2, ?_, h4⟩
    rw [hf.block g (Array.getElem?_eq_some_iff.1 h3).1 (fun hx => by have := hS g hx; omega)]; exact h3
theorem Flat.Own.one {α : Type} {F : Flat α} {w : World} {base : Nat} {v : Value} {xs : List α} (h : F.Own w base v xs) : v.oneCell' = true := by
  rcases h.2 with ⟨rfl, _⟩ | ⟨g, c, cur, rfl, _⟩ <;> rfl
/-- rows of one type are apart from those of another one -/
theorem flat_apart {α β : Type} {F : Flat α} {G : Flat β} {w : World} {base base' : Nat} {u v : Value} {xs : List α} {ys : List β} (hne : G.E ≠ F.E) (h : F.Own w base u xs) (h2 : G.Own w base' v ys) {g : Nat} (hu : u.ownBlock = some g) : v.ownBlock ≠ some g := by
  intro hv
  rcases h.2 with ⟨rfl, _⟩ | ⟨g1, c1, cur1, rfl, _, k1, _⟩
  · simp [Value.ownBlock] at hu
  · rcases h2.2 with ⟨rfl, _⟩ | ⟨g2, c2, cur2, rfl, _, k2, _⟩
    · simp [Value.ownBlock] at hv
    · simp [Value.ownBlock] at hu hv
      subst hu
      subst hv
      rw [k1] at k2
      simp at k2
      exact hne k2.2.symm
theorem flat_kept {α : Type} {F : Flat α} {w w' : World} {base : Nat} {u : Value} {xs : List α} {row : Option Nat} (h : F.Own w base u xs) (hg : w.grownBy w' row) (hne : u.ownBlock = none ∨ u.ownBlock ≠ row) : F.Own w' base u xs := by
  refine ⟨h.1, ?_⟩
  rcases h.2 with h2 | ⟨g, c, cur, rfl, h2, h3, h4⟩
  · exact .inl h2
  · refine .inr ⟨g, c, cur, rfl, h2, ?_, h4⟩
    have hne' : some g ≠ row := by
      rcases hne with e | e
      · simp [Value.ownBlock] at e
      · exact e
    rw [hg.block g (Array.getElem?_eq_some_iff.1 h3).1 hne']; exact h3
theorem Flat.Own.typed {α : Type} {F : Flat α} {w : World} {base : Nat} {v : Value} {xs : List α} (h : F.Own w base v xs) {g : Nat} (hg : v.ownBlock = some g) : ∃ cur, w.heap[g]? = some (.cells cur F.E) := by
  rcases h.2 with ⟨rfl, _⟩ | ⟨g', c, cur, rfl, _, h3, _⟩
  · simp [Value.ownBlock] at hg
  · simp only [Value.ownBlock, Option.some.injEq] at hg
    subst hg
    exact ⟨cur, h3⟩
theorem Flat.Own.fsT {α : Type} {F : Flat α} {S : Nat → Prop} {w w' : World} {base e : Nat} {v : Value} {xs : List α} (h : F.Own w base v xs) (hf : Fs S w w') (hT : ∀ g, S g → ∃ cur, w.heap[g]? = some (.cells cur e)) (hne : F.E ≠ e) : F.Own w' base v xs := by
  refine ⟨h.1, ?_⟩
  rcases h.2 with h2 | ⟨g, c, cur, rfl, h2, h3, h4⟩
  · exact .inl h2
  · refine .inr ⟨g, c, cur, rfl, h2, ?_, h4⟩
    rw [hf.block g (Array.getElem?_eq_some_iff.1 h3).1 (fun hs => by
      obtain ⟨cur', hc⟩ := hT g hs
      rw [h3] at hc
      simp at hc
      exact hne hc.2)]; exact h3
theorem Fs.alloc {S : Nat → Prop} {w w' : World} (h : Fs S w w') (o : Obj) : Fs S w (w'.alloc o) := h.trans (Fs.of_below ((Below.refl _ _).alloc (Nat.le_refl _) o))
namespace FRow
variable {α : Type} {G : FRow α}
def Sl (G : FRow α) (w : World) (v : Value) (xss : List (List α)) : Prop := ∃ us, G.R.Sl w v us ∧ PairR (G.F.Sl w) us xss
def Own (G : FRow α) (w : World) (base : Nat) (v : Value) (xss : List (List α)) : Prop := ∃ us, G.R.Own w base v us ∧ PairR (G.F.Own w base) us xss
theorem Sl.below {w w' : World} {v : Value} {ms : List (List α)} (h : G.Sl w v ms) (hb : Below w.heap.size w w') : G.Sl w' v ms := by
  obtain ⟨us, h1, h2⟩ := h
  exact ⟨us, h1.below hb, h2.imp (fun v xs h => h.below hb)⟩
theorem Own.below {w w' : World} {base : Nat} {v : Value} {ms : List (List α)} (h : G.Own w base v ms) (hb : Below w.heap.size w w') : G.Own w' base v ms := by
  obtain ⟨us, h1, h2⟩ := h
  exact ⟨us, h1.below hb, h2.imp (fun v xs h => h.below hb)⟩
theorem Own.lower {w : World} {base base' : Nat} {v : Value} {ms : List (List α)} (h : G.Own w base v ms) (hb : base' ≤ base) : G.Own w base' v ms := by
  obtain ⟨us, h1, h2⟩ := h
  exact ⟨us, h1.lower hb, h2.imp (fun v xs h => h.lower hb)⟩
theorem Own.sl {w : World} {base : Nat} {v : Value} {ms : List (List α)} (h : G.Own w base v ms) : G.Sl w v ms := by
  obtain ⟨us, h1, h2⟩ := h
  exact ⟨us, h1.sl, h2.imp (fun v xs h => h.sl)⟩
theorem Own.nil (w : World) (base : Nat) : G.Own w base (.slice none 0 0) [] := ⟨[], Flat.Own.nil _ _, rfl, by intro i u m h; simp at h⟩
theorem Own.empty (w : World) {base : Nat} (hb : base ≤ w.heap.size) : G.Own (w.alloc (.cells #[] G.R.E)) base (.slice (some ⟨w.heap.size, 0, none⟩) 0 0) [] :=
  ⟨[], Flat.Own.empty w hb, rfl, by intro i u m h; simp at h⟩
theorem Own.fs {w w' : World} {base : Nat} {v : Value} {ms : List (List α)} {S : Nat → Prop} (h : G.Own w base v ms) (hf : Fs S w w') (hS : ∀ k, S k → k < base) : G.Own w' base v ms := by
  obtain ⟨us, h1, h2⟩ := h
  exact ⟨us, flat_fs2 h1 hf hS, h2.imp (fun v xs h => flat_fs2 h hf hS)⟩
theorem Sl.form {w : World} {v : Value} {ms : List (List α)} (h : G.Sl w v ms) : ∃ ad c, v = .slice ad ms.length c ∧ ms.length ≤ c ∧ c ≤ maxLen := by
  obtain ⟨us, ⟨ad, c, h1, h2, h3, _⟩, h4, _⟩ := h
  exact ⟨ad, c, by rw [← h4]; exact h1, by rw [← h4]; exact h2, h3⟩
theorem Sl.at_ {w : World} {ad : Option Addr} {n c : Nat} {ms : List (List α)} (h : G.Sl w (.slice ad n c) ms) {i : Nat} (hi : i < ms.length) :
    ∃ b off ra rc, ad = some ⟨b, off, none⟩ ∧ b < w.heap.size ∧ w.cell? ⟨b, off + i, none⟩ = some (.slice ra ms[i].length rc) ∧ G.F.Sl w (.slice ra ms[i].length rc) ms[i] := by
  obtain ⟨us, h1, h2, h3⟩ := h
  have hu : i < us.length := by omega
  obtain ⟨b, off, h4, h5, h6⟩ := h1.at_ hu
  have e2 := h3 i us[i] ms[i] (List.getElem?_eq_getElem hu) (List.getElem?_eq_getElem hi)
  obtain ⟨ra, rc, e3, e4, e5, e6⟩ := e2
  have k0 := h6 0 us[i].1 (by rw [G.enc]; rfl)
  rw [e3, show off + (i * G.R.size + 0) = off + i from by rw [G.one]; omega] at k0
  exact ⟨b, off, ra, rc, h4, h5, k0, ra, rc, rfl, e4, e5, e6⟩
/-- append(v, u): a row more -/
theorem append {ops : Array Oper} {rest : List Oper} {o : Oper} {a : Act} {Q : Exit → Act → World → Prop} (G : FRow α) (w : World) (s x : Operand) (hg : o.guard = none)
    (ho : o.op = .call { callee := .builtin .append, args := #[s, x], argTypes := #[G.R.T, G.R.T] })
    {base : Nat} {v u : Value} {ms : List (List α)} {xs : List α} (hs : a.eval s = v) (hown : G.Own w base v ms) (hu : G.F.Own w base u xs) {t g0 : Nat} (hg0 : w.heap.size = g0) (hx : a.eval x = .slice (some ⟨g0, 0, none⟩) 1 1)
    (hlen : ms.length < 16777216) (hbase : base ≤ w.heap.size)
    (h : ∀ v' w', G.Own w' base v' (ms ++ [xs]) → Below base (w.alloc (.cells #[u] t)) w' → Fs (fun k => v.ownBlock = some k) (w.alloc (.cells #[u] t)) w' → wpList Try.prog ops Q rest (a.put o.dst v') w') : wpList Try.prog ops Q (o :: rest) a (w.alloc (.cells #[u] t)) := by
  subst hg0
  obtain ⟨us, h1, h2⟩ := hown
  have bx : Below w.heap.size w (w.alloc (.cells #[u] t)) := (Below.refl _ _).alloc (Nat.le_refl _) _
  have h1' := h1.below bx
  have hu' := hu.below bx
  obtain ⟨c, hc⟩ : ∃ c : CellV, c.1 = u := ⟨⟨u, hu.one⟩, rfl⟩
  refine Flat.append G.R _ s x hg ho (ys := [c]) hs h1' hx (by
    have := rd_new w #[u] t
    have e : G.R.encs [c] = [u] := by
      unfold Flat.encs
      rw [G.enc]
      show [c.1] ++ [] = [u]
      rw [hc]; rfl
    rw [e]; exact this) (by rw [h2.1]; simp; omega) (by simp; omega) (fun v' w' k1 k2 k3 => ?_)
  have key : ∀ (v0 : Value) (zs : List α), G.F.Own (w.alloc (.cells #[u] t)) base v0 zs → G.F.Own w' base v0 zs := fun v0 zs ho => flat_kept ho k2 (by
    cases hb : v0.ownBlock with
    | none => exact .inl rfl
    | some g => exact .inr (Ne.symm (flat_apart G.ne ho h1' hb)))
  refine h v' w' ⟨_, k1, by simp [h2.1], fun i u0 m hi hm => ?_⟩ k3 (Fs.of_grown k2 (fun g hg => hg))
  have hul := h2.1
  by_cases hlt : i < us.length
  · rw [List.getElem?_append_left hlt] at hi
    rw [List.getElem?_append_left (by rw [← h2.1]; exact hlt)] at hm
    exact key _ _ ((h2.2 i u0 m hi hm).below bx)
  · rw [List.getElem?_append_right (by omega)] at hi hm
    have h0 : i - us.length = 0 := by
      rcases Nat.eq_zero_or_pos (i - us.length) with e | e
      · exact e
      · rw [List.getElem?_eq_none (by simp; omega)] at hi; simp at hi
    rw [h0] at hi
    rw [← h2.1, h0] at hm
    simp at hi hm
    subst hi hm
    rw [hc]
    exact key _ _ hu'
theorem Own.typed {w : World} {base : Nat} {v : Value} {ms : List (List α)} (h : G.Own w base v ms) {g : Nat} (hg : v.ownBlock = some g) : ∃ cur, w.heap[g]? = some (.cells cur G.R.E) := by
  obtain ⟨us, h1, _⟩ := h
  exact h1.typed hg
theorem Own.fsT {S : Nat → Prop} {w w' : World} {base e : Nat} {v : Value} {ms : List (List α)} (h : G.Own w base v ms) (hf : Fs S w w') (hT : ∀ g, S g → ∃ cur, w.heap[g]? = some (.cells cur e)) (h1 : G.R.E ≠ e) (h2 : G.F.E ≠ e) : G.Own w' base v ms := by
  obtain ⟨us, k1, k2⟩ := h
  exact ⟨us, k1.fsT hf hT h1, k2.imp (fun v xs h => h.fsT hf hT h2)⟩
end FRow
end Go.Proofs.Ytceobhmbnkheiaa
namespace Go.Proofs.Ytceobhmbnkheiaa
open Go.RowKit Go.Sort
theorem ChainAt_c {w W : World} {n t : Int} {v : Value} {b : Nat} (h : ChainAt w b 0 n t v) (hb : Below w.heap.size w W) : ChainAt W b 0 n t v := h.below hb
noncomputable def pairC (n t : Int) (xss : List (List Int)) (m u : Int) (yss : List (List Int)) : Int := if (chainOk n t xss && chainOk m u yss) = true then (if n = m then 0 else 2) else 1

set_option maxHeartbeats 2000000 in
theorem pairCode_any {v y : Value} {xss yss : List (List Int)} (n t m u : Int) (w : World) (ha : SlII w v xss) (hb : SlII w y yss) :
    Calls Try.prog 70 #[.agg #[.int .i64 n, .int .i64 t, v], .agg #[.int .i64 m, .int .i64 u, y]] w fun e w' => e = .returned (.int .i64 (pairC n t xss m u yss)) ∧ Below w.heap.size w w' := by
  have HA := Lib.hid (fun W (h : Below w.heap.size w W) => ha.below h)
  have HB := Lib.hid (fun W (h : Below w.heap.size w W) => hb.below h)
  obtain ⟨a, ca, us, rfl, _, _, _, _, _⟩ := ha
  obtain ⟨a2, ca2, us2, rfl, _, _, _, _, _⟩ := hb
  have hpc : pairC n t xss m u yss = if (chainOk n t xss && chainOk m u yss) = true then (if n = m then 0 else 2) else 1 := rfl
  generalize hok : chainOk n t xss = OK at hpc
  generalize hok2 : chainOk m u yss = OK2 at hpc
  have HOK := Lib.hid hok
  have HOK2 := Lib.hid hok2
  have HPC := Lib.hid hpc
  have X := Lib.hid (chBox w n t (.slice a xss.length ca))
  have BX := Lib.hid (chBelow w n t (.slice a xss.length ca))
  have Y := Lib.hid (chBox (w.alloc (chObj n t (.slice a xss.length ca))) m u (.slice a2 yss.length ca2))
  have BY0 := Lib.hid (chBelow (w.alloc (chObj n t (.slice a xss.length ca))) m u (.slice a2 yss.length ca2))
  have X2 := Lib.hid (X.out.below BY0.out)
  have BY := Lib.hid (BX.out.trans (BY0.out.mono BX.out.size))
  have hys : (w.alloc (chObj n t (.slice a xss.length ca))).heap.size = w.heap.size + 1 := by simp
  rw [hys] at Y
  obtain ⟨W2, hW2⟩ : ∃ W2, W2 = (w.alloc (chObj n t (.slice a xss.length ca))).alloc (chObj m u (.slice a2 yss.length ca2)) := ⟨_, rfl⟩
  rw [← hW2] at Y X2 BY
  have HW2 := Lib.hid (show (w.alloc (.cells #[.int .i64 n, .int .i64 t, .slice a xss.length ca] 52)).alloc (.cells #[.int .i64 m, .int .i64 u, .slice a2 yss.length ca2] 52) = W2 from hW2.symm)
  obtain ⟨c00, x0, x1, x2⟩ := X2.out
  obtain ⟨d00, y0, y1, y2⟩ := Y.out
  simp only [Nat.zero_add] at x0 x1 x2 y0 y1 y2
  clear hok hok2 hpc hW2 hys X BX BY0
  go_enter Try.func70, Try.ntmps70
  go_wp2_with fail
  rw [HW2.out]
  refine (ValidChain_any n t _ (HA.out _ BY.out)).mono ?_
  rintro e w1 ⟨rfl, b1⟩
  rw [HOK.out]
  have B1 := Lib.hid (BY.out.trans (b1.mono BY.out.size))
  have X3 := Lib.hid (X2.out.below b1)
  have Y3 := Lib.hid (Y.out.below b1)
  clear b1 x0 x1 x2 c00 y0 y1 y2 d00
  obtain ⟨c00, x0, x1, x2⟩ := X3.out
  obtain ⟨d00, y0, y1, y2⟩ := Y3.out
  simp only [Nat.zero_add] at x0 x1 x2 y0 y1 y2
  cases OK
  · go_wp2
    go_ret
    exact ⟨ri (by rw [HPC.out]; simp), B1.out⟩
  · skip
    go_wp2_with fail
    refine (ValidChain_any m u _ (HB.out _ B1.out)).mono ?_
    rintro e w2 ⟨rfl, b2⟩
    rw [HOK2.out]
    have B2 := Lib.hid (B1.out.trans (b2.mono B1.out.size))
    have X4 := Lib.hid (X3.out.below b2)
    have Y4 := Lib.hid (Y3.out.below b2)
    clear b2 x0 x1 x2 c00 y0 y1 y2 d00
    obtain ⟨c00, x0, x1, x2⟩ := X4.out
    obtain ⟨d00, y0, y1, y2⟩ := Y4.out
    simp only [Nat.zero_add] at x0 x1 x2 y0 y1 y2
    cases OK2
    · go_wp2
      go_ret
      exact ⟨ri (by rw [HPC.out]; simp), B2.out⟩
    · by_cases hnm : n = m
      · have t1 : (n != m) = false := by subst hnm; simp
        have HP2 := Lib.hid (show pairC n t xss m u yss = 0 from by rw [HPC.out]; simp [hnm])
        clear hnm
        go_wp2
        go_ret
        exact ⟨ri HP2.out.symm, B2.out⟩
      · have t1 : (n != m) = true := by simp only [bne_iff_ne, ne_eq]; exact hnm
        have HP2 := Lib.hid (show pairC n t xss m u yss = 2 from by rw [HPC.out]; simp [hnm])
        clear hnm
        go_wp2
        go_ret
        exact ⟨ri HP2.out.symm, B2.out⟩
end Go.Proofs.Ytceobhmbnkheiaa
