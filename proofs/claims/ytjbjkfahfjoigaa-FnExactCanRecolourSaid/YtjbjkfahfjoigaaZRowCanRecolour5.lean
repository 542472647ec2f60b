/-
  A search by (impl.Graph).free$1. With it: SameGraph, both. Graphs: valid or not, both sides. Graphs: valid or not, both sides. A search by (impl.Graph).isColouring$1. A search by (impl.Graph).areColours$1. Decks: all orders of few cards, as the reference lists them; the place of a deck among them. Rising runs: a deck's place among all, its runs, both sides. A search by (impl.Graph).isIndependent$1.
-/
import Derived.Test.YtjbjkfahfjoigaaZRowCanRecolour4
import Derived.Test.YtjbjkfahfjoigaaZRowCanRecolour3
set_option linter.unusedVariables false
set_option linter.unusedSimpArgs false
namespace Go.Proofs.Ytjbjkfahfjoigaa
open Go.RowKit Go.Sort
set_option maxHeartbeats 400000 in
theorem l00Same_any {u v : Value} {xs ys : List Int} (w : World) (ha : SlI w u xs) (hb : SlI w v ys) :
    Calls Try.prog 42 #[u, v] w fun e w' => e = .returned (.bool (decide (xs = ys))) ∧ Below w.heap.size w w' := by
  obtain ⟨a, ca, rfl, hca, hca', ha⟩ := ha
  obtain ⟨b, cb, rfl, hcb, hcb', hb⟩ := hb
  unfold maxLen at hca' hcb'
  have hm : xs.length ≤ 9223372036854775807 := by omega
  have hn : ys.length ≤ 9223372036854775807 := by omega
  clear hca hca' hcb hcb'
  by_cases hl : xs.length = ys.length
  · have HL := Lib.hid hl
    clear hl
    have h1 : ((xs.length : Int) != (ys.length : Int)) = false := by simp [HL.out]
    go_enter Try.func42, Try.ntmps42
    go_wp2
    go_loopw [5] (fun i wr => ∃ k : Nat, k ≤ xs.length ∧ i = .int .i64 k ∧ xs.take k = ys.take k ∧ Below w.heap.size w wr) (fun i _ => xs.length - (intOf i).toNat)
    case atStart => exact ⟨0, Nat.zero_le _, rfl, rfl, Below.refl _ _⟩
    case round =>
      obtain ⟨k, hk, rfl, ht, hbw⟩ := hrel
      have ha' := ha.below hbw
      have hb' := hb.below hbw
      clear ha hb
      have HT := Lib.hid ht
      clear ht
      by_cases hlt : k < xs.length
      · have hj : k < ys.length := by rw [← HL.out]; exact hlt
        obtain ⟨ba, oa, rfl, ga⟩ := ha'.one (i64s_get hlt)
        obtain ⟨bb, ob, rfl, gb⟩ := hb'.one (i64s_get hj)
        clear ha' hb'
        go_wp2_with fail
        go_quiet (fail)
        go_wp2
        · go_ret
          have hx : (xs[k] != ys[k]) = true := by assumption
          have hne : ¬ xs[k] = ys[k] := by simpa using hx
          exact ⟨rb (by simp [ne_of_get hlt hj hne]), below_drewN hbw _⟩
        · have hx : (xs[k] != ys[k]) = false := by assumption
          have he : xs[k] = ys[k] := by simpa using hx
          go_roundw
          case rel => exact ⟨k + 1, by omega, by go_num, take_eq_succ HT.out hlt hj he, below_drewN hbw _⟩
          case measure => simp [intOf]; omega
      · have ht := HT.out
        go_wp2
        go_ret
        exact ⟨rb (by symm; simp; rw [List.take_of_length_le (by omega), List.take_of_length_le (by rw [← HL.out]; omega)] at ht; exact ht), hbw⟩
  · have h1 : ((xs.length : Int) != (ys.length : Int)) = true := by simp; omega
    have HL := Lib.hid hl
    clear hl
    go_enter Try.func42, Try.ntmps42
    go_wp2
    go_ret
    exact ⟨rb (by symm; simp; intro h; exact HL.out (by rw [h])), Below.refl _ _⟩

set_option maxHeartbeats 400000 in
theorem Equal_any {u v : Value} {xs ys : List Int} (w : World) (ha : SlI w u xs) (hb : SlI w v ys) :
    Calls Try.prog 52 #[u, v] w fun e w' => e = .returned (.bool (decide (xs = ys))) ∧ Below w.heap.size w w' := by
  obtain ⟨a, ca, rfl, hca, hca', ha⟩ := ha
  obtain ⟨b, cb, rfl, hcb, hcb', hb⟩ := hb
  unfold maxLen at hca' hcb'
  have hm : xs.length ≤ 9223372036854775807 := by omega
  have hn : ys.length ≤ 9223372036854775807 := by omega
  clear hca hca' hcb hcb'
  by_cases hl : xs.length = ys.length
  · have HL := Lib.hid hl
    clear hl
    have h1 : ((xs.length : Int) != (ys.length : Int)) = false := by simp [HL.out]
    go_enter Try.func52, Try.ntmps52
    go_wp2
    go_loopw [13] (fun i wr => ∃ k : Nat, k ≤ xs.length ∧ i = .int .i64 k ∧ xs.take k = ys.take k ∧ Below w.heap.size w wr) (fun i _ => xs.length - (intOf i).toNat)
    case atStart => exact ⟨0, Nat.zero_le _, rfl, rfl, Below.refl _ _⟩
    case round =>
      obtain ⟨k, hk, rfl, ht, hbw⟩ := hrel
      have ha' := ha.below hbw
      have hb' := hb.below hbw
      clear ha hb
      have HT := Lib.hid ht
      clear ht
      by_cases hlt : k < xs.length
      · have hj : k < ys.length := by rw [← HL.out]; exact hlt
        obtain ⟨ba, oa, rfl, ga⟩ := ha'.one (i64s_get hlt)
        obtain ⟨bb, ob, rfl, gb⟩ := hb'.one (i64s_get hj)
        clear ha' hb'
        go_wp2_with fail
        go_quiet (fail)
        go_wp2
        · go_ret
          have hx : (xs[k] != ys[k]) = true := by assumption
          have hne : ¬ xs[k] = ys[k] := by simpa using hx
          exact ⟨rb (by simp [ne_of_get hlt hj hne]), below_drewN hbw _⟩
        · have hx : (xs[k] != ys[k]) = false := by assumption
          have he : xs[k] = ys[k] := by simpa using hx
          go_roundw
          case rel => exact ⟨k + 1, by omega, by go_num, take_eq_succ HT.out hlt hj he, below_drewN hbw _⟩
          case measure => simp [intOf]; omega
      · have ht := HT.out
        go_wp2
        go_ret
        exact ⟨rb (by symm; simp; rw [List.take_of_length_le (by omega), List.take_of_length_le (by rw [← HL.out]; omega)] at ht; exact ht), hbw⟩
  · have h1 : ((xs.length : Int) != (ys.length : Int)) = true := by simp; omega
    have HL := Lib.hid hl
    clear hl
    go_enter Try.func52, Try.ntmps52
    go_wp2
    go_ret
    exact ⟨rb (by symm; simp; intro h; exact HL.out (by rw [h])), Below.refl _ _⟩


end Go.Proofs.Ytjbjkfahfjoigaa
namespace Go.Proofs.Ytjbjkfahfjoigaa
open Go.RowKit Go.Sort
/-- comparison of lists, as slices.Compare has it -/
def cmpL : List Int → List Int → Int
  | [], [] => 0
  | [], _ :: _ => -1
  | _ :: _, [] => 1
  | x :: xs, y :: ys => if x = y then cmpL xs ys else if x < y then -1 else 1
def lessL : List Int → List Int → Bool
  | [], [] => false
  | [], _ :: _ => true
  | _ :: _, [] => false
  | x :: xs, y :: ys => if x = y then lessL xs ys else decide (x < y)
theorem cmpL_bd : ∀ x y : List Int, -1 ≤ cmpL x y ∧ cmpL x y ≤ 1
  | [], [] => by decide
  | [], _ :: _ => by unfold cmpL; decide
  | _ :: _, [] => by unfold cmpL; decide
  | x :: xs, y :: ys => by
    unfold cmpL
    split
    · exact cmpL_bd xs ys
    · split <;> decide
theorem cmpL_less : ∀ x y : List Int, decide (0 ≤ cmpL x y) = !lessL x y
  | [], [] => by decide
  | [], _ :: _ => by unfold cmpL lessL; decide
  | _ :: _, [] => by unfold cmpL lessL; decide
  | x :: xs, y :: ys => by
    unfold cmpL lessL
    split
    · exact cmpL_less xs ys
    · split <;> rename_i h <;> simp [h]
theorem cmpL_drop {x y : List Int} {k : Nat} (hx : k < x.length) (hy : k < y.length) : cmpL (x.drop k) (y.drop k) = if x[k] = y[k] then cmpL (x.drop (k + 1)) (y.drop (k + 1)) else if x[k] < y[k] then -1 else 1 := by
  rw [List.drop_eq_getElem_cons hx, List.drop_eq_getElem_cons hy]; rfl
theorem lessL_drop {x y : List Int} {k : Nat} (hx : k < x.length) (hy : k < y.length) : lessL (x.drop k) (y.drop k) = if x[k] = y[k] then lessL (x.drop (k + 1)) (y.drop (k + 1)) else decide (x[k] < y[k]) := by
  rw [List.drop_eq_getElem_cons hx, List.drop_eq_getElem_cons hy]; rfl
theorem inRange_q {x a b : Int} {q : Bool} (h : inR x a b = q) (w : World) : Calls Try.prog 19 #[.int .i64 x, .int .i64 a, .int .i64 b] w fun e w' => e = .returned (.bool q) ∧ Below w.heap.size w w' :=
  (inRange_any x a b w).mono fun e w' ⟨h1, h2⟩ => ⟨by rw [h1, h], by rw [h2]; exact Below.refl _ _⟩
theorem l00In_q {x a b : Int} {q : Bool} (h : inR x a b = q) (w : World) : Calls Try.prog 15 #[.int .i64 x, .int .i64 a, .int .i64 b] w fun e w' => e = .returned (.bool q) ∧ Below w.heap.size w w' :=
  (l00In_any x a b w).mono fun e w' ⟨h1, h2⟩ => ⟨by rw [h1, h], by rw [h2]; exact Below.refl _ _⟩
theorem isNaN_any (x : Int) (w : World) : Calls Try.prog 89 #[.int .i64 x] w fun e w' => e = .returned (.bool false) ∧ w = w' := by
  have h : (x != x) = false := by simp
  go_enter Try.func89, Try.ntmps89
  go_wp2
  go_ret
  exact ⟨rfl, rfl⟩
set_option maxHeartbeats 400000 in
theorem cmpCompare_any (x y : Int) (w : World) : Calls Try.prog 85 #[.int .i64 x, .int .i64 y] w fun e w' => e = .returned (.int .i64 (if x = y then 0 else if x < y then -1 else 1)) ∧ w = w' := by
  have A : ∀ q : Int, q = (if x = y then 0 else if x < y then -1 else 1) → (x < y → q = -1) ∧ (y < x → q = 1) ∧ (x = y → q = 0) := by
    intro q h
    subst h
    refine ⟨fun h => ?_, fun h => ?_, fun h => ?_⟩
    · rw [if_neg (by omega), if_pos h]
    · rw [if_neg (by omega), if_neg (by omega)]
    · rw [if_pos h]
  generalize hq : (if x = y then (0 : Int) else if x < y then -1 else 1) = q
  have hA := A q hq.symm
  have HA := Lib.hid hA
  clear A hA hq
  by_cases h1 : x < y
  · go_enter Try.func85, Try.ntmps85
    go_wp2_with (go_at_call 89; refine (isNaN_any _ _).mono ?_; rintro e w' ⟨rfl, rfl⟩)
    go_ret
    exact ⟨ri (HA.out.1 h1).symm, rfl⟩
  · by_cases h2 : y < x
    · go_enter Try.func85, Try.ntmps85
      go_wp2_with (go_at_call 89; refine (isNaN_any _ _).mono ?_; rintro e w' ⟨rfl, rfl⟩)
      go_ret
      exact ⟨ri (HA.out.2.1 h2).symm, rfl⟩
    · go_enter Try.func85, Try.ntmps85
      go_wp2_with (go_at_call 89; refine (isNaN_any _ _).mono ?_; rintro e w' ⟨rfl, rfl⟩)
      go_ret
      exact ⟨ri (HA.out.2.2 (by omega)).symm, rfl⟩
set_option maxHeartbeats 1000000 in
theorem Compare_any {u v : Value} {xs ys : List Int} (w : World) (ha : SlI w u xs) (hb : SlI w v ys) :
    Calls Try.prog 79 #[u, v] w fun e w' => e = .returned (.int .i64 (cmpL xs ys)) ∧ w = w' := by
  obtain ⟨a, ca, rfl, hca, hca', ha⟩ := ha
  obtain ⟨b, cb, rfl, hcb, hcb', hb⟩ := hb
  unfold maxLen at hca' hcb'
  go_enter Try.func79, Try.ntmps79
  go_wp2
  go_loopw [5, 6, 7, 8, 11] (fun _ _ _ _ i wr => ∃ k : Nat, k ≤ xs.length ∧ k ≤ ys.length ∧ i = .int .i64 k ∧ Hid (cmpL xs ys = cmpL (xs.drop k) (ys.drop k)) ∧ wr = w) (fun _ _ _ _ i _ => xs.length - (intOf i).toNat)
  case atStart => exact ⟨0, Nat.zero_le _, Nat.zero_le _, rfl, rfl, rfl⟩
  case round =>
    obtain ⟨k, hk, hk2, rfl, hc, rfl⟩ := hrel
    by_cases hlt : k < xs.length
    · obtain ⟨ba, oa, rfl, ga⟩ := ha.one (i64s_get hlt)
      have i1 : (k : Int) < (xs.length : Int) := by omega
      by_cases hy : k < ys.length
      · obtain ⟨bb, ob, rfl, gb⟩ := hb.one (i64s_get hy)
        have i2 : (k : Int) < (ys.length : Int) := by omega
        have hd := cmpL_drop hlt hy
        generalize hq : (if xs[k] = ys[k] then (0 : Int) else if xs[k] < ys[k] then -1 else 1) = q
        have HQ := Lib.hid hq
        have HD := Lib.hid hd
        clear hq hd
        by_cases hz : q = 0
        · have ht : (q != 0) = false := by simp [hz]
          have he : xs[k] = ys[k] := by
            have := HQ.out
            split at this
            · assumption
            · split at this <;> omega
          have HE := Lib.hid he
          clear hz he
          go_wp2_with (go_at_call 85; refine (cmpCompare_any _ _ _).mono ?_; rintro e w' ⟨rfl, rfl⟩; rw [HQ.out])
          go_roundw
          case rel => exact ⟨k + 1, by omega, by omega, by go_num, by unfold Hid at *; rw [hc, HD, if_pos HE], trivial⟩
          case measure => simp [intOf]; omega
        · have ht : (q != 0) = true := by simp [hz]
          have hv : cmpL xs ys = q := by
            rw [hc.out, HD.out]
            have := HQ.out
            split at this
            · omega
            · rename_i h; rw [if_neg h]; exact this
          have HV := Lib.hid hv
          clear hz hv
          go_wp2_with (go_at_call 85; refine (cmpCompare_any _ _ _).mono ?_; rintro e w' ⟨rfl, rfl⟩; rw [HQ.out])
          go_ret
          exact ⟨ri HV.out.symm, rfl⟩
      · obtain rfl : k = ys.length := by omega
        go_wp2
        go_ret
        exact ⟨ri (by rw [hc.out, List.drop_length, List.drop_eq_getElem_cons hlt]; rfl), rfl⟩
    · obtain rfl : k = xs.length := by omega
      by_cases hy : xs.length < ys.length
      · go_wp2
        go_ret
        exact ⟨ri (by rw [hc.out, List.drop_length, List.drop_eq_getElem_cons hy]; rfl), rfl⟩
      · have hyy : xs.length = ys.length := by omega
        have HY := Lib.hid hyy
        clear hyy
        go_wp2
        go_ret
        exact ⟨ri (by rw [hc.out, List.drop_length, List.drop_eq_nil_of_le (by rw [HY.out]; exact Nat.le_refl _)]; rfl), rfl⟩
end Go.Proofs.Ytjbjkfahfjoigaa
namespace Go.Proofs.Ytjbjkfahfjoigaa
open Go.RowKit Go.Sort
/-- an edge, with the greatest node hi and e0 + 1 as the machine has it -/
def edgeW (hi : Int) (e : List Int) : Bool := decide (e.length = 2) && (inR (e.getD 0 0) 0 hi && inR (e.getD 1 0) (IntKind.i64.wrap (e.getD 0 0 + 1)) hi)
def stepW (hi : Int) (es : List (List Int)) (k : Nat) : Bool := edgeW hi (es.getD k []) && (decide (k = 0) || lessL (es.getD (k - 1) []) (es.getD k []))
def okN (hi : Int) (es : List (List Int)) : Nat → Bool
  | 0 => true
  | k + 1 => okN hi es k && stepW hi es k
def graphOk (n : Int) (es : List (List Int)) : Bool := inR n 1 5 && okN (IntKind.i64.wrap (n - 1)) es es.length
theorem okN_false {hi : Int} {es : List (List Int)} {k : Nat} (h : stepW hi es k = false) : ∀ {m : Nat}, k < m → okN hi es m = false
  | 0, h1 => by omega
  | m + 1, h1 => by
    unfold okN
    by_cases hk : k = m
    · subst hk; rw [h]; simp
    · rw [okN_false h (show k < m by omega)]; rfl
theorem getD_at {α : Type} {l : List α} {k : Nat} {d : α} (h : k < l.length) : l.getD k d = l[k] := by
  rw [List.getD_eq_getElem?_getD, List.getElem?_eq_getElem h]; rfl
theorem len2 {e : List Int} (h : e.length = 2) : ∃ a b, e = [a, b] := by
  match e, h with
  | [a, b], _ => exact ⟨a, b, rfl⟩
theorem edgeW_no {hi : Int} {e : List Int} (h : ¬ e.length = 2) : edgeW hi e = false := by simp [edgeW, h]
theorem edgeW_two {hi a b q : Int} (h : IntKind.i64.wrap (a + 1) = q) : edgeW hi [a, b] = (inR a 0 hi && inR b q hi) := by simp [edgeW, h]
theorem Compare_b {u v : Value} {xs ys : List Int} {c : Int} (h : cmpL xs ys = c) (w : World) (ha : SlI w u xs) (hb : SlI w v ys) : Calls Try.prog 79 #[u, v] w fun e w' => e = .returned (.int .i64 c) ∧ Below w.heap.size w w' :=
  (Compare_any w ha hb).mono fun e w' ⟨h1, h2⟩ => ⟨by rw [h1, h], by rw [h2]; exact Below.refl _ _⟩
set_option maxRecDepth 100000 in
set_option maxHeartbeats 4000000 in
theorem ImplValidGraph_any {v : Value} {es : List (List Int)} (n : Int) (w : World) (ha : SlII w v es) :
    Calls Try.prog 62 #[.agg #[.int .i64 n, v]] w fun e w' => e = .returned (.bool (graphOk n es)) ∧ Below w.heap.size w w' := by
  obtain ⟨a, ca, us, rfl, hca, hca', hul, hrd, hrow⟩ := ha
  have bx : Below w.heap.size w (w.alloc (.cells #[.int .i64 n, .slice a es.length ca] 35)) := (Below.refl _ _).alloc (Nat.le_refl _) _
  have HG := Lib.hid (fun W (h : Below w.heap.size w W) => And.intro (hrd.below h) (fun i hi u hu => (hrow i hi u hu).below h))
  have X := Lib.hid (CellsAt.new w [.int .i64 n, .slice a es.length ca] 35)
  have HU := Lib.hid hul
  obtain ⟨hi, hhi⟩ : ∃ hi, IntKind.i64.wrap (n - 1) = hi := ⟨_, rfl⟩
  have hG : graphOk n es = (inR n 1 5 && okN hi es es.length) := by unfold graphOk; rw [hhi]
  have HGO := Lib.hid hG
  generalize hq : inR n 1 5 = q at hG
  have HQ := Lib.hid hq
  have HHI := Lib.hid hhi
  unfold maxLen at hca'
  clear hG hq hul hrd hrow hhi
  go_enter Try.func62, Try.ntmps62
  go_wp2
  go_loopw [3, 4, 8] (fun _ _ i wr => ∃ k : Nat, k ≤ es.length ∧ i = .int .i64 k ∧ Hid (okN hi es k = true) ∧ Below (w.alloc (.cells #[.int .i64 n, .slice a es.length ca] 35)).heap.size (w.alloc (.cells #[.int .i64 n, .slice a es.length ca] 35)) wr) (fun _ _ i _ => es.length - (intOf i).toNat)
  case atStart => exact ⟨0, Nat.zero_le _, rfl, rfl, Below.refl _ _⟩
  case round =>
    obtain ⟨k, hk, rfl, hok, hbr⟩ := hrel
    have hbw := bx.trans (hbr.mono bx.size)
    have x1 := X.out.below hbr
    have c0 := x1.get 0 _ rfl
    have c1 := x1.get 1 _ rfl
    clear x1
    by_cases hlt : k < es.length
    · obtain ⟨x, b, off, rfl, gc, sx⟩ := SlII.row HU.out (HG.out _ hbw).1 (HG.out _ hbw).2 hlt
      have i1 : (k : Int) < (es.length : Int) := by omega
      have hes : stepW hi es k = (edgeW hi es[k] && (decide (k = 0) || lessL (es.getD (k - 1) []) es[k])) := by unfold stepW; rw [getD_at hlt]
      have HES := Lib.hid hes
      have SX := Lib.hid sx
      obtain ⟨ea, ec, rfl, _, _, erd⟩ := id sx
      clear hes
      by_cases hl : es[k].length = 2
      · have ht : ((es[k].length : Int) != 2) = false := by rw [hl]; rfl
        have j0 : (0 : Int) < (es[k].length : Int) := by rw [hl]; decide
        have j1 : (1 : Int) < (es[k].length : Int) := by rw [hl]; decide
        have jn0 : 0 < es[k].length := by omega
        have jn1 : 1 < es[k].length := by omega
        obtain ⟨eb, eo, rfl, g0⟩ := erd.one (i64s_get jn0)
        obtain ⟨eb', eo', he', g1⟩ := erd.one (i64s_get jn1)
        simp only [Option.some.injEq, Addr.mk.injEq] at he'
        obtain ⟨rfl, rfl, _⟩ := he'
        obtain ⟨e0, e1, he⟩ := len2 hl
        have he0 : es[k][0] = e0 := by simp [he]
        have he1 : es[k][1] = e1 := by simp [he]
        rw [he0, Nat.add_zero] at g0
        rw [he1] at g1
        have HE := Lib.hid he
        obtain ⟨q0, hq0⟩ : ∃ q0, IntKind.i64.wrap (e0 + 1) = q0 := ⟨_, rfl⟩
        have hW : edgeW hi es[k] = (inR e0 0 hi && inR e1 q0 hi) := by rw [he]; exact edgeW_two hq0
        generalize hp1 : inR e0 0 hi = p1 at hW
        generalize hp2 : inR e1 q0 hi = p2 at hW
        have HW := Lib.hid hW
        have HP1 := Lib.hid hp1
        have HP2 := Lib.hid hp2
        have HQ0 := Lib.hid hq0
        clear hW hp1 hp2 hq0 he he0 he1 erd sx hl
        have k0 := fun d os => cell_regrown c0 d os
        have k1 := fun d os => cell_regrown c1 d os
        have kg0 := fun d os => cell_regrown g0 d os
        have kg1 := fun d os => cell_regrown g1 d os
        have NO : stepW hi es k = false → graphOk n es = false := fun h => by rw [HGO.out, okN_false h hlt]; simp
        have HNO := Lib.hid NO
        have r0 := HHI.out
        have r1 := HQ0.out
        clear NO
        cases p1
        · go_wp2_with fail
          refine wp_region_quiet_below (by kernel_rfl) (by kernel_rfl) ?_
          repeat (first | go_big_quiet_skip | quiet_step (first | (with_reducible exact Calls.regrown_of (inRange_q HP1.out _)) | (with_reducible exact Calls.regrown_of (inRange_q HP2.out _)) | (with_reducible exact Calls.regrown_of (Compare_b HC.out _ (SP.out.below (below_regrown _ _ _)) (SX.out.below (below_regrown _ _ _))))))
          refine wpQuiet_nil ?_
          intro _ hw'
          obtain ⟨⟨dq, osq⟩, hw''⟩ := hw'
          subst hw''
          have bq0 := below_regrown wr dq osq
          generalize grow (redrawn wr dq) osq = wq at bq0 ⊢
          clear r0 r1 k0 k1 kg0 kg1
          go_wp2
          go_ret
          exact ⟨rb (HNO.out (by rw [HES.out, HW.out]; rfl)).symm, hbw.trans (bq0.mono hbw.size)⟩
        · cases p2
          · go_wp2_with fail
            refine wp_region_quiet_below (by kernel_rfl) (by kernel_rfl) ?_
            repeat (first | go_big_quiet_skip | quiet_step (first | (with_reducible exact Calls.regrown_of (inRange_q HP1.out _)) | (with_reducible exact Calls.regrown_of (inRange_q HP2.out _)) | (with_reducible exact Calls.regrown_of (Compare_b HC.out _ (SP.out.below (below_regrown _ _ _)) (SX.out.below (below_regrown _ _ _))))))
            refine wpQuiet_nil ?_
            intro _ hw'
            obtain ⟨⟨dq, osq⟩, hw''⟩ := hw'
            subst hw''
            have bq0 := below_regrown wr dq osq
            generalize grow (redrawn wr dq) osq = wq at bq0 ⊢
            clear r0 r1 k0 k1 kg0 kg1
            go_wp2
            go_ret
            exact ⟨rb (HNO.out (by rw [HES.out, HW.out]; rfl)).symm, hbw.trans (bq0.mono hbw.size)⟩
          · by_cases hk0 : k = 0
            · have hk0' : decide (0 < k) = false := by simp; omega
              have HK0 := Lib.hid hk0
              clear hk0
              go_wp2_with fail
              refine wp_region_quiet_below (by kernel_rfl) (by kernel_rfl) ?_
              repeat (first | go_big_quiet_skip | quiet_step (first | (with_reducible exact Calls.regrown_of (inRange_q HP1.out _)) | (with_reducible exact Calls.regrown_of (inRange_q HP2.out _)) | (with_reducible exact Calls.regrown_of (Compare_b HC.out _ (SP.out.below (below_regrown _ _ _)) (SX.out.below (below_regrown _ _ _))))))
              refine wpQuiet_nil ?_
              intro _ hw'
              obtain ⟨⟨dq, osq⟩, hw''⟩ := hw'
              subst hw''
              have bq0 := below_regrown wr dq osq
              generalize grow (redrawn wr dq) osq = wq at bq0 ⊢
              clear r0 r1 k0 k1 kg0 kg1 hk0'
              have hb2 := hbr.trans (bq0.mono hbr.size)
              go_wp2
              go_roundw
              case rel => exact ⟨k + 1, by omega, by go_num, by unfold Hid okN; rw [hok.out, HES.out, HW.out]; simp [HK0.out], hb2⟩
              case measure => simp [intOf]; omega
            · obtain ⟨m, hm⟩ : ∃ m, k = m + 1 := ⟨k - 1, by omega⟩
              have r2 : IntKind.i64.wrap ((k : Int) - 1) = (m : Int) := by rw [IntWalk.i64_in _ (by omega)]; omega
              have hkp : decide (0 < k) = true := by simp; omega
              have hml : m < es.length := by omega
              have i3 : (0 : Int) ≤ (m : Int) := by omega
              have i4 : (m : Int) < (es.length : Int) := by omega
              obtain ⟨x', b', off', he', gc', sx'⟩ := SlII.row HU.out (HG.out _ hbw).1 (HG.out _ hbw).2 hml
              simp only [Option.some.injEq, Addr.mk.injEq] at he'
              obtain ⟨rfl, rfl, _⟩ := he'
              obtain ⟨pa, pc, rfl, _⟩ := id sx'
              have SP := Lib.hid sx'
              have kp := fun d os => cell_regrown gc' d os
              have hst : stepW hi es k = lessL es[m] es[k] := by
                have e1 : k - 1 = m := by omega
                rw [HES.out, HW.out, e1, getD_at hml]
                simp [hk0]
              have hcl := cmpL_less es[m] es[k]
              generalize hc : cmpL es[m] es[k] = c at hcl
              generalize hl3 : lessL es[m] es[k] = l3 at hst hcl
              have HST := Lib.hid hst
              have HCL := Lib.hid hcl
              have HC := Lib.hid hc
              have HM := Lib.hid hm
              clear hst hcl hc hm gc' sx' hl3
              cases l3
              · have hc0 : 0 ≤ c := by have := HCL.out; simpa using this
                go_wp2_with fail
                refine wp_region_quiet_below (by kernel_rfl) (by kernel_rfl) ?_
                repeat (first | go_big_quiet_skip | quiet_step (first | (with_reducible exact Calls.regrown_of (inRange_q HP1.out _)) | (with_reducible exact Calls.regrown_of (inRange_q HP2.out _)) | (with_reducible exact Calls.regrown_of (Compare_b HC.out _ (SP.out.below (below_regrown _ _ _)) (SX.out.below (below_regrown _ _ _))))))
                refine wpQuiet_nil ?_
                intro _ hw'
                obtain ⟨⟨dq, osq⟩, hw''⟩ := hw'
                subst hw''
                have bq0 := below_regrown wr dq osq
                generalize grow (redrawn wr dq) osq = wq at bq0 ⊢
                clear r0 r1 r2 k0 k1 kg0 kg1 kp hkp
                go_wp2
                go_ret
                exact ⟨rb (HNO.out HST.out).symm, hbw.trans (bq0.mono hbw.size)⟩
              · have hc0 : c < 0 := by have := HCL.out; simpa using this
                go_wp2_with fail
                refine wp_region_quiet_below (by kernel_rfl) (by kernel_rfl) ?_
                repeat (first | go_big_quiet_skip | quiet_step (first | (with_reducible exact Calls.regrown_of (inRange_q HP1.out _)) | (with_reducible exact Calls.regrown_of (inRange_q HP2.out _)) | (with_reducible exact Calls.regrown_of (Compare_b HC.out _ (SP.out.below (below_regrown _ _ _)) (SX.out.below (below_regrown _ _ _))))))
                refine wpQuiet_nil ?_
                intro _ hw'
                obtain ⟨⟨dq, osq⟩, hw''⟩ := hw'
                subst hw''
                have bq0 := below_regrown wr dq osq
                generalize grow (redrawn wr dq) osq = wq at bq0 ⊢
                clear r0 r1 r2 k0 k1 kg0 kg1 kp hkp
                have hb2 := hbr.trans (bq0.mono hbr.size)
                go_wp2
                go_roundw
                case rel => exact ⟨k + 1, by omega, by go_num, by unfold Hid okN; rw [hok.out, HST.out]; rfl, hb2⟩
                case measure => simp [intOf]; omega
      · have ht : ((es[k].length : Int) != 2) = true := by simp; omega
        have hno := edgeW_no (hi := hi) hl
        have HNO := Lib.hid hno
        clear hno hl
        go_wp2_with fail
        refine wp_region_quiet_below (by kernel_rfl) (by kernel_rfl) ?_
        repeat (first | go_big_quiet_skip | quiet_step (first | (with_reducible exact Calls.regrown_of (inRange_q HP1.out _))))
        refine wpQuiet_nil ?_
        intro _ hw'
        obtain ⟨⟨dq, osq⟩, hw''⟩ := hw'
        subst hw''
        have bq0 := below_regrown wr dq osq
        generalize grow (redrawn wr dq) osq = wq at bq0 ⊢
        go_wp2
        go_ret
        exact ⟨rb (by rw [HGO.out, okN_false (by rw [HES.out, HNO.out]; rfl) hlt]; simp), (hbw.trans (bq0.mono hbw.size))⟩
    · obtain rfl : k = es.length := by omega
      go_wp2_with (go_at_call 19; refine (inRange_any _ _ _ _).mono ?_; rintro e w' ⟨rfl, rfl⟩)
      go_ret
      exact ⟨rb (by rw [HGO.out, hok.out]; simp), hbw⟩
end Go.Proofs.Ytjbjkfahfjoigaa
namespace Go.Proofs.Ytjbjkfahfjoigaa
open Go.RowKit Go.Sort
set_option maxHeartbeats 1000000 in
theorem IndexFuncCol_any {u : Value} {xs : List (List Int)} (cap0 : Value) (p : List Int → Bool) (w : World) (ha : SlII w u xs)
    (hf : ∀ W x u, Below w.heap.size w W → x ∈ xs → SlI W u x → Calls Try.prog 87 #[u, cap0] W fun e w' => e = .returned (.bool (p x)) ∧ Below W.heap.size W w') :
    Calls Try.prog 50 #[u, .func (.func 87) #[] #[cap0]] w fun e w' => e = .returned (.int .i64 (ixRow p xs 0)) ∧ Below w.heap.size w w' := by
  obtain ⟨a, ca, us, rfl, hca, hca', hul, hrd, hrow⟩ := ha
  have HU := Lib.hid hul
  have HR := Lib.hid hrow
  clear hul hrow
  unfold maxLen at hca'
  have HF := Lib.hid hf
  clear hf
  go_enter Try.func50, Try.ntmps50
  go_wp2
  go_loopw [5, 8] (fun _ i wr => ∃ k : Nat, k ≤ xs.length ∧ i = .int .i64 k ∧ Hid (ixRow p xs 0 = ixRow p (xs.drop k) k) ∧ Below w.heap.size w wr) (fun _ i _ => xs.length - (intOf i).toNat)
  case atStart => exact ⟨0, Nat.zero_le _, rfl, rfl, Below.refl _ _⟩
  case round =>
    obtain ⟨k, hk, rfl, hno, hbw⟩ := hrel
    by_cases hlt : k < xs.length
    · obtain ⟨x, b, off, rfl, gc, sx⟩ := SlII.row HU.out (hrd.below hbw) (fun i hi u hu => (HR.out i hi u hu).below hbw) hlt
      obtain ⟨xa, xc, rfl, _⟩ := id sx
      have i1 : (k : Int) < (xs.length : Int) := by omega
      have hst := ixRow_step (p := p) hlt
      have HS := Lib.hid hst
      clear hst
      generalize hp : p xs[k] = P
      have HP := Lib.hid hp
      clear hp
      cases P
      · go_wp2_with fail
        refine (HF.out _ xs[k] _ hbw (List.getElem_mem hlt) sx).mono ?_
        rintro e w2 ⟨rfl, b2⟩
        rw [HP.out]
        have bq := hbw.trans (b2.mono hbw.size)
        go_wp2
        go_roundw
        case rel => exact ⟨k + 1, by omega, by go_num, by unfold Hid at *; rw [hno, HS, HP]; rfl, bq⟩
        case measure => simp [intOf]; omega
      · go_wp2_with fail
        refine (HF.out _ xs[k] _ hbw (List.getElem_mem hlt) sx).mono ?_
        rintro e w2 ⟨rfl, b2⟩
        rw [HP.out]
        have bq := hbw.trans (b2.mono hbw.size)
        go_wp2
        go_ret
        exact ⟨ri (by rw [hno.out, HS.out, HP.out]; rfl), bq⟩
    · obtain rfl : k = xs.length := by omega
      go_wp2
      go_ret
      exact ⟨ri (by rw [hno.out]; simp [ixRow]), hbw⟩
set_option maxHeartbeats 400000 in
theorem ContainsFuncCol_any {u : Value} {xs : List (List Int)} (cap0 : Value) (p : List Int → Bool) (w : World) (ha : SlII w u xs)
    (hf : ∀ W x u, Below w.heap.size w W → x ∈ xs → SlI W u x → Calls Try.prog 87 #[u, cap0] W fun e w' => e = .returned (.bool (p x)) ∧ Below W.heap.size W w') :
    Calls Try.prog 86 #[u, .func (.func 87) #[] #[cap0]] w fun e w' => e = .returned (.bool (xs.any p)) ∧ Below w.heap.size w w' := by
  have hx := ixRow_any p xs 0
  obtain ⟨hb0, hb1⟩ := ixRow_bd p xs 0
  obtain ⟨a, ca, us, rfl, hca, hca', _⟩ := id ha
  unfold maxLen at hca'
  have HF := Lib.hid hf
  have HX := Lib.hid hx
  clear hf hx
  go_enter Try.func86, Try.ntmps86
  go_wp2_with fail
  refine (IndexFuncCol_any cap0 p _ ha HF.out).mono ?_
  rintro e w2 ⟨rfl, b2⟩
  go_wp2
  go_ret
  exact ⟨rb HX.out, b2⟩
end Go.Proofs.Ytjbjkfahfjoigaa
namespace Go.Proofs.Ytjbjkfahfjoigaa
open Go.RowKit Go.Sort
set_option maxHeartbeats 1000000 in
theorem IndexFuncAre_any {u : Value} {xs : List Int} (cap0 cap1 : Value) (p : Int → Bool) (w : World) (ha : SlI w u xs)
    (hf : ∀ W x, Below w.heap.size w W → x ∈ xs → Calls Try.prog 80 #[.int .i64 x, cap0, cap1] W fun e w' => e = .returned (.bool (p x)) ∧ Below W.heap.size W w') :
    Calls Try.prog 83 #[u, .func (.func 80) #[] #[cap0, cap1]] w fun e w' => e = .returned (.int .i64 (ixP p xs 0)) ∧ Below w.heap.size w w' := by
  obtain ⟨a, ca, rfl, hca, hca', ha⟩ := ha
  unfold maxLen at hca'
  have HF := Lib.hid hf
  clear hf
  go_enter Try.func83, Try.ntmps83
  go_wp2
  go_loopw [5, 8] (fun _ i wr => ∃ k : Nat, k ≤ xs.length ∧ i = .int .i64 k ∧ Hid (ixP p xs 0 = ixP p (xs.drop k) k) ∧ Below w.heap.size w wr) (fun _ i _ => xs.length - (intOf i).toNat)
  case atStart => exact ⟨0, Nat.zero_le _, rfl, rfl, Below.refl _ _⟩
  case round =>
    obtain ⟨k, hk, rfl, hno, hbw⟩ := hrel
    by_cases hlt : k < xs.length
    · obtain ⟨b, off, rfl, gc⟩ := (ha.below hbw).one (i64s_get hlt)
      have i1 : (k : Int) < (xs.length : Int) := by omega
      have hst := ixP_step (p := p) hlt
      have HS := Lib.hid hst
      clear hst
      generalize hp : p xs[k] = P
      have HP := Lib.hid hp
      clear hp
      cases P
      · go_wp2_with fail
        refine (HF.out _ xs[k] hbw (List.getElem_mem hlt)).mono ?_
        rintro e w2 ⟨rfl, b2⟩
        rw [HP.out]
        have bq := hbw.trans (b2.mono hbw.size)
        go_wp2
        go_roundw
        case rel => exact ⟨k + 1, by omega, by go_num, by unfold Hid at *; rw [hno, HS, HP]; rfl, bq⟩
        case measure => simp [intOf]; omega
      · go_wp2_with fail
        refine (HF.out _ xs[k] hbw (List.getElem_mem hlt)).mono ?_
        rintro e w2 ⟨rfl, b2⟩
        rw [HP.out]
        have bq := hbw.trans (b2.mono hbw.size)
        go_wp2
        go_ret
        exact ⟨ri (by rw [hno.out, HS.out, HP.out]; rfl), bq⟩
    · obtain rfl : k = xs.length := by omega
      go_wp2
      go_ret
      exact ⟨ri (by rw [hno.out]; simp [ixP]), hbw⟩
set_option maxHeartbeats 400000 in
theorem ContainsFuncAre_any {u : Value} {xs : List Int} (cap0 cap1 : Value) (p : Int → Bool) (w : World) (ha : SlI w u xs)
    (hf : ∀ W x, Below w.heap.size w W → x ∈ xs → Calls Try.prog 80 #[.int .i64 x, cap0, cap1] W fun e w' => e = .returned (.bool (p x)) ∧ Below W.heap.size W w') :
    Calls Try.prog 66 #[u, .func (.func 80) #[] #[cap0, cap1]] w fun e w' => e = .returned (.bool (xs.any p)) ∧ Below w.heap.size w w' := by
  have hx := ixP_any p xs 0
  obtain ⟨hb0, hb1⟩ := ixP_bd p xs 0
  obtain ⟨a, ca, rfl, hca, hca', _⟩ := id ha
  unfold maxLen at hca'
  have HF := Lib.hid hf
  have HX := Lib.hid hx
  clear hf hx
  go_enter Try.func66, Try.ntmps66
  go_wp2_with fail
  refine (IndexFuncAre_any cap0 cap1 p _ ha HF.out).mono ?_
  rintro e w2 ⟨rfl, b2⟩
  go_wp2
  go_ret
  exact ⟨rb HX.out, b2⟩
end Go.Proofs.Ytjbjkfahfjoigaa
namespace Go.Proofs.Ytjbjkfahfjoigaa
open Go.RowKit

/-- append(v, u) on owned rows, u a row that has been made since -/
theorem append_row {ops : Array Oper} {rest : List Oper} {o : Oper} {a : Act} {Q : Exit → Act → World → Prop} (w0 w : World) (s x : Operand) (hg : o.guard = none)
    (ho : o.op = .call { callee := .builtin .append, args := #[s, x], argTypes := #[22, 22] })
    {base : Nat} {v u : Value} {xss : List (List Int)} {xs : List Int} (hs : a.eval s = v) (hown : OwnII w0 base v xss) (hb : Below w0.heap.size w0 w) (hu : OwnI w w0.heap.size u xs) {t : Nat} (hx : a.eval x = .slice (some ⟨w.heap.size, 0, none⟩) 1 1)
    (hlen : xss.length < 16777216) (hbase : base ≤ w0.heap.size)
    (h : ∀ v' w', OwnII w' base v' (xss ++ [xs]) → Below base (w.alloc (.cells #[u] t)) w' → w.heap.size < w'.heap.size → wpList Try.prog ops Q rest (a.put o.dst v') w') : wpList Try.prog ops Q (o :: rest) a (w.alloc (.cells #[u] t)) := by
  obtain ⟨vs, h1, h2⟩ := hown
  have hlt := h2.lt
  have h1' := ownsRow_below h1 hb
  have h2' := h2.below hb
  have hu1 : u.oneCell' = true := by
    rcases hu.2 with ⟨rfl, _⟩ | ⟨g, c, cur, rfl, _⟩ <;> rfl
  refine append_one tI64S w u hu1 s x hg ho hs h1' hx hlen (Nat.le_trans hbase hb.size) (fun v' w' k1 k2 k3 k4 => ?_)
  refine h v' w' ⟨vs ++ [u], ?_, ?_⟩ k3 k4
  · rw [List.length_append]; exact k1
  · have hsn : Rows2 w base (vs ++ [u]) (xss ++ [xs]) := Rows2.snoc (B := w0.heap.size) h2' (hu.lower hbase) (fun i v g hv hg => (hlt i v g hv hg).2) (fun g hg => (hu.lt g hg).1)
    exact (hsn.below ((Below.refl _ _).alloc (Nat.le_refl _) _)).kept (h1'.alloc (.cells #[u] t)) k2

/-- the next longer decks of one -/
def extD (c : Nat) (d : List Int) : List (List Int) := ((upTo' c).filter (fun x => !decide (x ∈ d))).map (fun x => d ++ [x])
where upTo' (n : Nat) : List Int := (List.range n).map fun (i : Nat) => (i : Int)
def extN (c : Nat) (d : List Int) (x : Nat) : List (List Int) := ((extD.upTo' x).filter (fun x => !decide (x ∈ d))).map (fun x => d ++ [x])
def decksL (c : Nat) : Nat → List (List Int)
  | 0 => [[]]
  | k + 1 => (decksL c k).flatMap (extD c)
theorem extN_full (c : Nat) (d : List Int) : extN c d c = extD c d := rfl
theorem extN_zero (c : Nat) (d : List Int) : extN c d 0 = [] := rfl
theorem extN_no {c x : Nat} {d : List Int} (h : (x : Int) ∈ d) : extN c d (x + 1) = extN c d x := by
  simp [extN, extD.upTo', List.range_succ, List.filter_append, h]
theorem extN_yes {c x : Nat} {d : List Int} (h : ¬ (x : Int) ∈ d) : extN c d (x + 1) = extN c d x ++ [d ++ [(x : Int)]] := by
  simp [extN, extD.upTo', List.range_succ, List.filter_append, h]
theorem extN_length (c x : Nat) (d : List Int) : (extN c d x).length ≤ x := by
  unfold extN
  rw [List.length_map]
  refine Nat.le_trans (List.length_filter_le _ _) ?_
  simp [extD.upTo']
theorem decks_small {c k : Nat} (hc1 : 1 ≤ c) (hc : c ≤ 3) (hk : k ≤ c) : (decksL c k).length ≤ 6 ∧ ∀ d ∈ decksL c k, d.length = k := by
  have h : ∀ c, c ≤ 3 → ∀ k, k ≤ c → 1 ≤ c → ((decksL c k).length ≤ 6 ∧ ∀ d ∈ decksL c k, d.length = k) := by decide
  exact h c hc k hk hc1
theorem flat_take (l : List (List Int)) (f : List Int → List (List Int)) {i : Nat} (h : i < l.length) : (l.take (i + 1)).flatMap f = (l.take i).flatMap f ++ f l[i] := by
  rw [List.take_succ_eq_append_getElem h, List.flatMap_append]; simp
theorem flat_take_le (l : List (List Int)) (f : List Int → List (List Int)) (i : Nat) : ((l.take i).flatMap f).length ≤ (l.flatMap f).length := by
  conv => rhs; rw [← List.take_append_drop i l]
  rw [List.flatMap_append, List.length_append]; omega

set_option maxHeartbeats 400000 in
theorem l00Has_any {u : Value} {xs : List Int} (x : Int) (w : World) (ha : SlI w u xs) :
    Calls Try.prog 37 #[u, .int .i64 x] w fun e w' => e = .returned (.bool (decide (x ∈ xs))) ∧ w = w' := by
  obtain ⟨a, ca, rfl, hca, hca', ha⟩ := ha
  unfold maxLen at hca'
  go_enter Try.func37, Try.ntmps37
  go_wp2
  go_loopw [5] (fun i wr => ∃ k : Nat, k ≤ xs.length ∧ i = .int .i64 k ∧ Hid (¬ x ∈ xs.take k) ∧ wr = w) (fun i _ => xs.length - (intOf i).toNat)
  case atStart => exact ⟨0, Nat.zero_le _, rfl, by simp [Hid], rfl⟩
  case round =>
    obtain ⟨k, hk, rfl, hno, rfl⟩ := hrel
    by_cases hlt : k < xs.length
    · obtain ⟨b, off, rfl, gc⟩ := ha.one (i64s_get hlt)
      have i1 : (k : Int) < (xs.length : Int) := by omega
      by_cases he : xs[k] = x
      · have HE := Lib.hid he
        have ht : (xs[k] == x) = true := by simp [he]
        clear he
        go_wp2
        go_ret
        exact ⟨rb (by symm; simp; rw [← HE.out]; exact List.getElem_mem hlt), rfl⟩
      · have HE := Lib.hid he
        have ht : (xs[k] == x) = false := by simp [he]
        clear he
        go_wp2
        go_roundw
        case rel => exact ⟨k + 1, by omega, by go_num, by
          unfold Hid at *
          rw [List.take_succ_eq_append_getElem hlt, List.mem_append]
          rintro (h | h)
          · exact hno h
          · simp at h; exact HE h.symm, trivial⟩
        case measure => simp [intOf]; omega
    · go_wp2
      go_ret
      exact ⟨rb (by symm; simp; have := hno.out; rw [List.take_of_length_le (by omega)] at this; exact this), rfl⟩

set_option maxHeartbeats 400000 in
theorem l00Own_any {u : Value} {xs : List Int} (w : World) (ha : SlI w u xs) (hl : xs.length ≤ 1048576) :
    Calls Try.prog 38 #[u] w fun e w' => ∃ v, e = .returned v ∧ OwnI w' w.heap.size v xs ∧ Below w.heap.size w w' := by
  have bx : Below w.heap.size w (w.alloc (.cells #[] 2)) := (Below.refl _ _).alloc (Nat.le_refl _) _
  have hb := ha.below bx
  have hown := OwnI.empty w (base := w.heap.size) (Nat.le_refl _)
  obtain ⟨a, ca, rfl, _⟩ := id ha
  clear ha
  go_enter Try.func38, Try.ntmps38
  go_wp2_with (at_builtin; refine append_SlI _ _ _ rfl rfl rfl hown rfl hb (by simp; omega) (by simp) ?_)
  intro v' w1 hown1 hg1 hb1
  go_wp2
  go_ret
  exact ⟨_, rfl, hown1, bx.trans hb1⟩

theorem OwnII.one (w : World) {base : Nat} {u : Value} {xs : List Int} (hu : OwnI w base u xs) (hb : base ≤ w.heap.size) :
    OwnII (w.alloc (.cells #[u] 42)) base (.slice (some ⟨w.heap.size, 0, none⟩) 1 1) [xs] := by
  have hu1 : u.oneCell' = true := by rcases hu.2 with ⟨rfl, _⟩ | ⟨g, c, cur, rfl, _⟩ <;> rfl
  refine ⟨[u], World.ownsRow_lit (base := base) (e := 42) (size := 1) w #[u] 1 hb (by simp [maxLen]) (by simp), rfl, ?_, ?_⟩
  · intro i u' xs' h1 h2
    cases i with
    | zero => simp at h1 h2; subst h1 h2; exact hu.below ((Below.refl _ _).alloc (Nat.le_refl _) _)
    | succ i => simp at h1
  · intro i j u' v' g hij h1 h2
    cases i with
    | zero => cases j with
      | zero => exact absurd rfl hij
      | succ j => simp at h2
    | succ i => simp at h1

theorem OwnI.empty' (w : World) {base : Nat} (hb : base ≤ w.heap.size) : OwnI (w.alloc (.cells #[] 2)) base (.slice (some ⟨w.heap.size, 0, none⟩) 0 0) [] := OwnI.empty w hb

set_option maxHeartbeats 4000000 in
theorem l07Decks_any (c : Nat) (w : World) (h1 : 1 ≤ c) (h3 : c ≤ 3) :
    Calls Try.prog 16 #[.int .i64 c] w fun e w' => ∃ v, e = .returned v ∧ OwnII w' w.heap.size v (decksL c c) ∧ Below w.heap.size w w' := by
  have e0 := OwnI.empty w (base := w.heap.size) (Nat.le_refl _)
  have e1 := OwnII.one (w.alloc (.cells #[] 2)) e0 (by simp)
  rw [show (w.alloc (.cells #[] 2)).heap.size = w.heap.size + 1 by simp] at e1
  have b1 : Below w.heap.size w ((w.alloc (.cells #[] 2)).alloc (.cells #[.slice (some ⟨w.heap.size, 0, none⟩) 0 0] 42)) := ((Below.refl _ _).alloc (Nat.le_refl _) _).alloc (by simp) _
  clear e0
  go_enter Try.func16, Try.ntmps16
  go_wp2
  go_loopw [3, 4, 5, 6, 7] (fun v k _ _ _ wr => ∃ kk : Nat, kk ≤ c ∧ k = .int .i64 kk ∧ OwnII wr w.heap.size v (decksL c kk) ∧ Below w.heap.size w wr) (fun _ k _ _ _ _ => c - (intOf k).toNat)
  case atStart => exact ⟨0, Nat.zero_le _, rfl, e1, b1⟩
  case round =>
    clear e1 b1
    obtain ⟨kk, hkk, rfl, hown, hbw⟩ := hrel
    obtain ⟨wo, rfl⟩ : ∃ wo : World, wo = wr := ⟨_, rfl⟩
    by_cases hk : kk < c
    · obtain ⟨hd1, hd2⟩ := decks_small h1 h3 (k := kk) (by omega)
      have hd3 := (decks_small h1 h3 (k := kk + 1) (by omega)).1
      obtain ⟨D, hD⟩ : ∃ D, D = decksL c kk := ⟨_, rfl⟩
      have hDs : decksL c (kk + 1) = D.flatMap (extD c) := by rw [hD]; rfl
      rw [← hD] at hown hd1 hd2
      rw [hDs] at hd3
      have HDS := Lib.hid hDs
      have HD2 := Lib.hid hd2
      clear hDs hD hd2
      obtain ⟨pa, pc, pv, rfl, pl, pm, pvl, prd, prow⟩ := id hown.sl
      unfold maxLen at pm
      have HV := Lib.hid pvl
      have HR := Lib.hid prow
      clear pvl prow
      have hs0 := hbw.size
      go_wp2
      go_loopw [5, 6, 7] (fun v i _ wr => ∃ ii : Nat, ii ≤ D.length ∧ i = .int .i64 ii ∧ OwnII wr wo.heap.size v ((D.take ii).flatMap (extD c)) ∧ Below wo.heap.size wo wr) (fun _ i _ _ => D.length - (intOf i).toNat)
      case atStart => exact ⟨0, Nat.zero_le _, rfl, OwnII.empty _ (Nat.le_refl _), (Below.refl _ _).alloc (Nat.le_refl _) _⟩
      case round =>
        obtain ⟨ii, hii, rfl, hnx, hbo⟩ := hrel
        obtain ⟨wp, rfl⟩ : ∃ wp : World, wp = wr := ⟨_, rfl⟩
        by_cases hi : ii < D.length
        · have hlen := flat_take_le D (extD c) ii
          have hdl := HD2.out _ (List.getElem_mem hi)
          have hft := flat_take D (extD c) hi
          obtain ⟨d, hd⟩ : ∃ d, d = D[ii] := ⟨_, rfl⟩
          obtain ⟨L, hL⟩ : ∃ L, L = (D.take ii).flatMap (extD c) := ⟨_, rfl⟩
          rw [← hL] at hnx hlen hft
          rw [← hd] at hdl hft
          have HL := Lib.hid hL
          have HFT := Lib.hid hft
          have HDD := Lib.hid hd
          have hdl' : d.length ≤ 3 := by omega
          clear hL hft hd hdl
          go_wp2
          go_loopw [5, 7] (fun v x wr => ∃ xx : Nat, xx ≤ c ∧ x = .int .i64 xx ∧ OwnII wr wo.heap.size v (L ++ extN c d xx) ∧ Below wo.heap.size wo wr) (fun _ x _ => c - (intOf x).toNat)
          case atStart => exact ⟨0, Nat.zero_le _, rfl, by simpa [extN_zero] using hnx, hbo⟩
          case round =>
            clear hnx hbo
            obtain ⟨xx, hxx, rfl, hnx, hbr⟩ := hrel
            by_cases hx : xx < c
            · obtain ⟨u, bb, oo, rfl, hcell, hu⟩ := SlII.row HV.out (prd.below hbr) (fun i hi u hu => (HR.out i hi u hu).below hbr) hi
              rw [← HDD.out] at hu
              obtain ⟨ua, uc, rfl, _⟩ := id hu
              have i1 : (ii : Int) < (D.length : Int) := by omega
              have hel := extN_length c xx d
              have hwl := hbw.trans (hbr.mono hbw.size)
              have hws := hbr.size
              have hln2 : (L ++ extN c d xx).length < 16777216 := by rw [List.length_append]; omega
              by_cases hm : (xx : Int) ∈ d
              · have hdm : decide ((xx : Int) ∈ d) = true := by simpa using hm
                have HDM := Lib.hid hdm
                have HM := Lib.hid hm
                clear hm hdm
                go_wp2_with (go_at_call 37; refine (l00Has_any _ _ hu).mono ?_; rintro e w' ⟨rfl, rfl⟩; rw [HDM.out])
                go_roundw
                case rel => exact ⟨xx + 1, by omega, by go_num, by rw [extN_no HM.out]; exact hnx, hbr⟩
                case measure => simp [intOf]; omega
              · have hdm : decide ((xx : Int) ∈ d) = false := by simpa using hm
                have HDM := Lib.hid hdm
                have HM := Lib.hid hm
                clear hm hdm
                go_wp2_with (first
                  | (go_at_call 37; refine (l00Has_any _ _ hu).mono ?_; rintro e w' ⟨rfl, rfl⟩; rw [HDM.out])
                  | (go_at_call 38; refine (l00Own_any _ hu (by omega)).mono ?_; rintro e w2 ⟨v2, rfl, o2, b2⟩; have z2 := b2.size)
                  | (at_builtin; refine append_i64 _ _ (.tmp 39) (.tmp 41) rfl rfl rfl o2 rfl (by omega) b2.size ?_; intro v3 w3 o3 b3 z3; have b23 : Below wr.heap.size wr w3 := (b2.alloc z2 _).trans b3; obtain ⟨va, vc, rfl, _⟩ := id o3.sl; simp only [List.length_append, List.length_cons, List.length_nil, Nat.zero_add] at o3)
                  | (at_builtin; refine append_row wr w3 (.tmp 34) (.tmp 43) rfl rfl rfl hnx b23 o3 rfl hln2 hws ?_; intro v4 w4 o4 b4 z4))
                rw [List.append_assoc, ← extN_yes HM.out] at o4
                have z3 := b23.size
                have bp : Below wo.heap.size wo w4 := ((hbr.trans (b23.mono hbr.size)).alloc (Nat.le_trans hbr.size z3) _).trans b4
                clear hnx o2 b2 o3 b3 b23 b4 hcell hu
                go_wp2
                go_roundw
                case rel => exact ⟨xx + 1, by omega, by go_num, o4, bp⟩
                case measure => simp [intOf]; omega
            · obtain rfl : xx = c := by omega
              go_wp2
              go_roundw
              case rel => exact ⟨ii + 1, by omega, by go_num, by rw [HFT.out]; exact hnx, hbr⟩
              case measure => simp [intOf]; omega
        · obtain rfl : ii = D.length := by omega
          go_wp2
          go_roundw
          case rel => exact ⟨kk + 1, by omega, by go_num, by rw [HDS.out]; have := hnx.lower hs0; simpa using this, hbw.trans (hbo.mono hbw.size)⟩
          case measure => simp [intOf]; omega
    · obtain rfl : kk = c := by omega
      go_wp2
      go_ret
      exact ⟨_, rfl, hown, hbw⟩
end Go.Proofs.Ytjbjkfahfjoigaa
namespace Go.Proofs.Ytjbjkfahfjoigaa
open Go.RowKit

def findFrom : List (List Int) → List Int → Nat → Int
  | [], _, _ => -1
  | d :: ds, x, k => if d = x then (k : Int) else findFrom ds x (k + 1)
def findD (x : List Int) : Int := if inR x.length 1 3 = true then findFrom (decksL x.length x.length) x 0 else -1
def lastIx (l : List Int) (x : Int) : Nat → Int
  | 0 => -1
  | i + 1 => if l.getD i 0 = x then (i : Int) else lastIx l x i
def runsN (l : List Int) : Nat → Int
  | 0 => 1
  | k + 1 => if lastIx l ((k : Int) + 1) l.length < lastIx l k l.length then runsN l k + 1 else runsN l k
def ixFrom : List Int → Int → Nat → Int
  | [], _, _ => -1
  | y :: r, x, k => if x = y then (k : Int) else ixFrom r x (k + 1)
def runsM (l : List Int) : Nat → Int
  | 0 => 1
  | k + 1 => if ixFrom l ((k : Int) + 1) 0 < ixFrom l k 0 then runsM l k + 1 else runsM l k
theorem findFrom_ge : ∀ (D : List (List Int)) (x : List Int) (k : Nat), 0 ≤ findFrom D x k ↔ x ∈ D
  | [], x, k => by simp [findFrom]
  | d :: ds, x, k => by
    unfold findFrom
    by_cases h : d = x
    · rw [if_pos h]; simp [h]
    · rw [if_neg h, findFrom_ge ds x (k + 1)]; simp [Ne.symm h]
theorem findFrom_step {D : List (List Int)} {x : List Int} {k : Nat} (h : k < D.length) : findFrom (D.drop k) x k = if D[k] = x then (k : Int) else findFrom (D.drop (k + 1)) x (k + 1) := by
  rw [List.drop_eq_getElem_cons h]; rfl
theorem ixFrom_step {l : List Int} {x : Int} {k : Nat} (h : k < l.length) : ixFrom (l.drop k) x k = if x = l[k] then (k : Int) else ixFrom (l.drop (k + 1)) x (k + 1) := by
  rw [List.drop_eq_getElem_cons h]; rfl
theorem lastIx_bd (l : List Int) (x : Int) : ∀ i, -1 ≤ lastIx l x i ∧ lastIx l x i < i
  | 0 => by simp [lastIx]
  | i + 1 => by
    unfold lastIx
    have := lastIx_bd l x i
    split <;> omega
theorem ixFrom_bd : ∀ (l : List Int) (x : Int) (k : Nat), -1 ≤ ixFrom l x k ∧ ixFrom l x k < k + l.length
  | [], x, k => by simp [ixFrom] <;> omega
  | y :: r, x, k => by
    unfold ixFrom
    have := ixFrom_bd r x (k + 1)
    split
    · simp; omega
    · simp at this ⊢; omega
theorem runsN_bd (l : List Int) : ∀ k, 1 ≤ runsN l k ∧ runsN l k ≤ 1 + k
  | 0 => by simp [runsN]
  | k + 1 => by have := runsN_bd l k; unfold runsN; split <;> omega
theorem runsM_bd (l : List Int) : ∀ k, 1 ≤ runsM l k ∧ runsM l k ≤ 1 + k
  | 0 => by simp [runsM]
  | k + 1 => by have := runsM_bd l k; unfold runsM; split <;> omega
def ordTail (n : Int) : List Int → List Int → Bool
  | _, [] => true
  | s, x :: r => inR x 0 (n - 1) && (!decide (x ∈ s) && ordTail n (s ++ [x]) r)
def ordOk (n : Nat) (l : List Int) : Bool := ordTail n [] l && decide (l.length = n)
def seenL (s : List Int) (n : Nat) : List Bool := (List.range n).map fun (j : Nat) => decide ((j : Int) ∈ s)
theorem seenL_length (s : List Int) (n : Nat) : (seenL s n).length = n := by simp [seenL]
theorem seenL_get {s : List Int} {n j : Nat} (h : j < n) : (seenL s n)[j]'(by simp [seenL]; exact h) = decide ((j : Int) ∈ s) := by simp [seenL]
theorem seenL_nil (n : Nat) : seenL [] n = List.replicate n false := by
  apply List.ext_getElem <;> simp [seenL]
theorem seenL_set {s : List Int} {n j : Nat} : (seenL s n).set j true = seenL (s ++ [(j : Int)]) n := by
  apply List.ext_getElem
  · simp [seenL]
  · intro i h1 h2
    simp [seenL] at h1
    rw [List.getElem_set]
    simp [seenL]
    by_cases h : j = i
    · simp [h]
    · simp [h]; omega
theorem ordTail_step {n : Int} {l : List Int} {k : Nat} (h : k < l.length) : ordTail n (l.take k) (l.drop k) = (inR l[k] 0 (n - 1) && (!decide (l[k] ∈ l.take k) && ordTail n (l.take (k + 1)) (l.drop (k + 1)))) := by
  rw [List.drop_eq_getElem_cons h, List.take_succ_eq_append_getElem h]; rfl

set_option maxHeartbeats 1000000 in
theorem l07Find_any {u : Value} {xs : List Int} (w : World) (ha : SlI w u xs) :
    Calls Try.prog 18 #[u] w fun e w' => e = .returned (.int .i64 (findD xs)) ∧ Below w.heap.size w w' := by
  obtain ⟨a, ca, rfl, hca, hca', _⟩ := id ha
  unfold maxLen at hca'
  have HA := Lib.hid (fun W (h : Below w.heap.size w W) => ha.below h)
  clear ha
  generalize hin : inR xs.length 1 3 = I
  cases I
  · have hf : findD xs = -1 := by unfold findD; rw [hin]; rfl
    have HF := Lib.hid hf
    have HI := Lib.hid hin
    clear hf hin
    go_enter Try.func18, Try.ntmps18
    go_wp2_with (go_at_call 15; refine (l00In_any _ _ _ _).mono ?_; rintro e w' ⟨rfl, rfl⟩; rw [HI.out])
    go_ret
    exact ⟨ri HF.out.symm, Below.refl _ _⟩
  · have hf : findD xs = findFrom (decksL xs.length xs.length) xs 0 := by unfold findD; rw [hin]; rfl
    have hb := inR_iff.1 hin
    have hd := (decks_small (c := xs.length) (k := xs.length) (by omega) (by omega) (Nat.le_refl _)).1
    have hn1 : 1 ≤ xs.length := by omega
    have hn3 : xs.length ≤ 3 := by omega
    generalize hDD : decksL xs.length xs.length = D at hf hd
    have HD := Lib.hid hDD
    have HF := Lib.hid hf
    have HI := Lib.hid hin
    clear hf hin hDD hb
    go_enter Try.func18, Try.ntmps18
    go_wp2_with (go_at_call 15; refine (l00In_any _ _ _ _).mono ?_; rintro e w' ⟨rfl, rfl⟩; rw [HI.out])
    refine (l07Decks_any xs.length _ hn1 hn3).mono ?_
    rintro e w1 ⟨v1, rfl, o1, b1⟩
    rw [HD.out] at o1
    obtain ⟨pa, pc, pv, rfl, pl, pm, pvl, prd, prow⟩ := id o1.sl
    unfold maxLen at pm
    have HV := Lib.hid pvl
    have HR := Lib.hid prow
    clear o1 pvl prow
    go_wp2
    go_loopw [4] (fun i wr => ∃ k : Nat, k ≤ D.length ∧ i = .int .i64 k ∧ Hid (findD xs = findFrom (D.drop k) xs k) ∧ Below w1.heap.size w1 wr) (fun i _ => D.length - (intOf i).toNat)
    case atStart => exact ⟨0, Nat.zero_le _, rfl, HF.out, Below.refl _ _⟩
    case round =>
      obtain ⟨k, hk, rfl, hfr, hbr⟩ := hrel
      have hbw := b1.trans (hbr.mono b1.size)
      by_cases hlt : k < D.length
      · obtain ⟨x, bb, oo, rfl, hcell, hx⟩ := SlII.row HV.out (prd.below hbr) (fun i hi u hu => (HR.out i hi u hu).below hbr) hlt
        have hst := findFrom_step (x := xs) hlt
        have HS := Lib.hid hst
        have i1 : (k : Int) < (D.length : Int) := by omega
        generalize hdd : decide (D[k] = xs) = d
        have HDD := Lib.hid hdd
        clear hst hdd
        obtain ⟨xa, xc, rfl, _⟩ := id hx
        cases d
        · go_wp2_with (go_at_call 42; refine (l00Same_any _ hx (HA.out _ hbw)).mono ?_; rintro e w' ⟨rfl, b2⟩; rw [HDD.out])
          go_roundw
          case rel => exact ⟨k + 1, by omega, by go_num, by unfold Hid at *; rw [hfr, HS, if_neg (of_decide_eq_false HDD)], hbr.trans (b2.mono hbr.size)⟩
          case measure => simp [intOf]; omega
        · go_wp2_with (go_at_call 42; refine (l00Same_any _ hx (HA.out _ hbw)).mono ?_; rintro e w' ⟨rfl, b2⟩; rw [HDD.out])
          go_ret
          exact ⟨ri (by rw [hfr.out, HS.out, if_pos (of_decide_eq_true HDD.out)]), hbw.trans (b2.mono hbw.size)⟩
      · obtain rfl : k = D.length := by omega
        go_wp2
        go_ret
        exact ⟨ri (by rw [hfr.out]; simp [findFrom]), hbw⟩

def runsR (x : List Int) : Int × Int := if 0 ≤ findD x then (runsN x (x.length - 1), 0) else (0, 2)
def tupII (r : Int × Int) : Value := .tuple #[.int .i64 r.1, .int .i64 r.2]
theorem findD_len {x : List Int} (h : 0 ≤ findD x) : 1 ≤ x.length ∧ x.length ≤ 3 := by
  unfold findD at h
  split at h
  · rename_i hi; have := inR_iff.1 hi; omega
  · omega
set_option maxHeartbeats 400000 in
theorem Index_any {u : Value} {xs : List Int} (x : Int) (w : World) (ha : SlI w u xs) :
    Calls Try.prog 72 #[u, .int .i64 x] w fun e w' => e = .returned (.int .i64 (ixFrom xs x 0)) ∧ w = w' := by
  obtain ⟨a, ca, rfl, hca, hca', ha⟩ := ha
  unfold maxLen at hca'
  go_enter Try.func72, Try.ntmps72
  go_wp2
  go_loopw [5, 8] (fun _ i wr => ∃ k : Nat, k ≤ xs.length ∧ i = .int .i64 k ∧ Hid (ixFrom xs x 0 = ixFrom (xs.drop k) x k) ∧ wr = w) (fun _ i _ => xs.length - (intOf i).toNat)
  case atStart => exact ⟨0, Nat.zero_le _, rfl, rfl, rfl⟩
  case round =>
    obtain ⟨k, hk, rfl, hno, rfl⟩ := hrel
    by_cases hlt : k < xs.length
    · obtain ⟨b, off, rfl, gc⟩ := ha.one (i64s_get hlt)
      have i1 : (k : Int) < (xs.length : Int) := by omega
      have hst := ixFrom_step (x := x) hlt
      have HS := Lib.hid hst
      clear hst
      by_cases he : x = xs[k]
      · have HE := Lib.hid he
        have ht : (x == xs[k]) = true := by simpa using he
        clear he
        go_wp2
        go_ret
        exact ⟨ri (by rw [hno.out, HS.out, if_pos HE.out]), rfl⟩
      · have HE := Lib.hid he
        have ht : (x == xs[k]) = false := by simpa using he
        clear he
        go_wp2
        go_roundw
        case rel => exact ⟨k + 1, by omega, by go_num, by unfold Hid at *; rw [hno, HS, if_neg HE], trivial⟩
        case measure => simp [intOf]; omega
    · obtain rfl : k = xs.length := by omega
      go_wp2
      go_ret
      exact ⟨ri (by rw [hno.out]; simp [ixFrom]), rfl⟩

theorem FB_own_set {w : World} {base g n c : Nat} {xs : List Bool} (h : FB.Own w base (.slice (some ⟨g, 0, none⟩) n c) xs) (i : Nat) (x : Bool) :
    FB.Own (w.setCell ⟨g, i, none⟩ (.bool x)) base (.slice (some ⟨g, 0, none⟩) n c) (xs.set i x) := by
  obtain rfl := h.len_of
  have := (World.ownsRow.stored (base := base) h i (.bool x)).1
  unfold Flat.Own
  rw [List.length_set, FB_encs]
  rw [FB_encs] at this
  simpa [List.map_set] using this
theorem FB_own_cell {w : World} {base g n c : Nat} {xs : List Bool} (h : FB.Own w base (.slice (some ⟨g, 0, none⟩) n c) xs) {i : Nat} (hi : i < xs.length) : w.cell? ⟨g, i, none⟩ = some (.bool xs[i]) := by
  have := h.cell (i := i) (j := 0) hi (by decide)
  have e : i * FB.size + 0 = i := by show i * 1 + 0 = i; omega
  rw [e] at this
  exact this
def isDeckB (x : List Int) : Bool := inR x.length 1 3 && ordOk x.length x
/-- the same decks are right on both sides, and have the same runs -/
theorem deck_law : ∀ x : List Int, (0 ≤ findD x ↔ isDeckB x = true) ∧ (0 ≤ findD x → runsN x (x.length - 1) = runsM x (x.length - 1)) := by
  have all : ∀ n, n ≤ 3 → ∀ d ∈ decksL n n, runsN d (d.length - 1) = runsM d (d.length - 1) ∧ isDeckB d = decide (1 ≤ n) := by decide
  have key : ∀ x : List Int, isDeckB x = true → x ∈ decksL x.length x.length := by
    intro x hx
    unfold isDeckB at hx
    rw [Bool.and_eq_true] at hx
    have hl := inR_iff.1 hx.1
    have ho := hx.2
    unfold ordOk at ho
    rw [Bool.and_eq_true] at ho
    have ho := ho.1
    have c1 : ∀ y : Int, inR y 0 0 = true → y = 0 := by intro y h; have := inR_iff.1 h; omega
    have c2 : ∀ y : Int, inR y 0 1 = true → y = 0 ∨ y = 1 := by intro y h; have := inR_iff.1 h; omega
    have c3 : ∀ y : Int, inR y 0 2 = true → y = 0 ∨ y = 1 ∨ y = 2 := by intro y h; have := inR_iff.1 h; omega
    match x, hl, ho with
    | [a], _, ho =>
      simp [ordTail] at ho
      obtain rfl := c1 a ho
      decide
    | [a, b], _, ho =>
      simp [ordTail] at ho
      obtain ⟨h1, h2, h3⟩ := ho
      rcases c2 a h1 with rfl | rfl <;> rcases c2 b h2 with rfl | rfl <;> first | decide | (exact absurd rfl h3)
    | [a, b, c], _, ho =>
      simp [ordTail] at ho
      obtain ⟨h1, h2, h3, h4, h5, h6⟩ := ho
      rcases c3 a h1 with rfl | rfl | rfl <;> rcases c3 b h2 with rfl | rfl | rfl <;> rcases c3 c h4 with rfl | rfl | rfl <;> first | decide | (exact absurd rfl h3) | (exact absurd rfl h5) | (exact absurd rfl h6)
    | [], hl, _ => simp at hl
    | a :: b :: c :: d :: r, hl, _ => simp at hl; omega
  intro x
  have hf : 0 ≤ findD x ↔ (1 ≤ x.length ∧ x.length ≤ 3) ∧ x ∈ decksL x.length x.length := by
    unfold findD
    by_cases h : inR x.length 1 3 = true
    · rw [if_pos h, findFrom_ge]
      have := inR_iff.1 h
      constructor
      · intro h; exact ⟨by omega, h⟩
      · intro h; exact h.2
    · rw [if_neg h]
      constructor
      · intro h; omega
      · intro h2; exact absurd (inR_iff.2 (by omega)) h
  refine ⟨⟨fun h => ?_, fun h => ?_⟩, fun h => ?_⟩
  · have h2 := hf.1 h
    have := (all _ h2.1.2 _ h2.2).2
    rw [this]; simp; omega
  · have h2 := h
    unfold isDeckB at h2
    rw [Bool.and_eq_true] at h2
    have := inR_iff.1 h2.1
    exact hf.2 ⟨by omega, key x h⟩
  · have h2 := hf.1 h
    exact (all _ h2.1.2 _ h2.2).1
end Go.Proofs.Ytjbjkfahfjoigaa
namespace Go.Proofs.Ytjbjkfahfjoigaa
open Go.RowKit Go.Sort
end Go.Proofs.Ytjbjkfahfjoigaa
namespace Go.Proofs.Ytjbjkfahfjoigaa
open Go.RowKit Go.Sort
set_option maxHeartbeats 1000000 in
theorem IndexFuncFree_any {u : Value} {xs : List Int} (cap0 cap1 : Value) (p : Int → Bool) (w : World) (ha : SlI w u xs)
    (hf : ∀ W x, Below w.heap.size w W → x ∈ xs → Calls Try.prog 68 #[.int .i64 x, cap0, cap1] W fun e w' => e = .returned (.bool (p x)) ∧ Below W.heap.size W w') :
    Calls Try.prog 83 #[u, .func (.func 68) #[] #[cap0, cap1]] w fun e w' => e = .returned (.int .i64 (ixP p xs 0)) ∧ Below w.heap.size w w' := by
  obtain ⟨a, ca, rfl, hca, hca', ha⟩ := ha
  unfold maxLen at hca'
  have HF := Lib.hid hf
  clear hf
  go_enter Try.func83, Try.ntmps83
  go_wp2
  go_loopw [5, 8] (fun _ i wr => ∃ k : Nat, k ≤ xs.length ∧ i = .int .i64 k ∧ Hid (ixP p xs 0 = ixP p (xs.drop k) k) ∧ Below w.heap.size w wr) (fun _ i _ => xs.length - (intOf i).toNat)
  case atStart => exact ⟨0, Nat.zero_le _, rfl, rfl, Below.refl _ _⟩
  case round =>
    obtain ⟨k, hk, rfl, hno, hbw⟩ := hrel
    by_cases hlt : k < xs.length
    · obtain ⟨b, off, rfl, gc⟩ := (ha.below hbw).one (i64s_get hlt)
      have i1 : (k : Int) < (xs.length : Int) := by omega
      have hst := ixP_step (p := p) hlt
      have HS := Lib.hid hst
      clear hst
      generalize hp : p xs[k] = P
      have HP := Lib.hid hp
      clear hp
      cases P
      · go_wp2_with fail
        refine (HF.out _ xs[k] hbw (List.getElem_mem hlt)).mono ?_
        rintro e w2 ⟨rfl, b2⟩
        rw [HP.out]
        have bq := hbw.trans (b2.mono hbw.size)
        go_wp2
        go_roundw
        case rel => exact ⟨k + 1, by omega, by go_num, by unfold Hid at *; rw [hno, HS, HP]; rfl, bq⟩
        case measure => simp [intOf]; omega
      · go_wp2_with fail
        refine (HF.out _ xs[k] hbw (List.getElem_mem hlt)).mono ?_
        rintro e w2 ⟨rfl, b2⟩
        rw [HP.out]
        have bq := hbw.trans (b2.mono hbw.size)
        go_wp2
        go_ret
        exact ⟨ri (by rw [hno.out, HS.out, HP.out]; rfl), bq⟩
    · obtain rfl : k = xs.length := by omega
      go_wp2
      go_ret
      exact ⟨ri (by rw [hno.out]; simp [ixP]), hbw⟩
set_option maxHeartbeats 400000 in
theorem ContainsFuncFree_any {u : Value} {xs : List Int} (cap0 cap1 : Value) (p : Int → Bool) (w : World) (ha : SlI w u xs)
    (hf : ∀ W x, Below w.heap.size w W → x ∈ xs → Calls Try.prog 68 #[.int .i64 x, cap0, cap1] W fun e w' => e = .returned (.bool (p x)) ∧ Below W.heap.size W w') :
    Calls Try.prog 66 #[u, .func (.func 68) #[] #[cap0, cap1]] w fun e w' => e = .returned (.bool (xs.any p)) ∧ Below w.heap.size w w' := by
  have hx := ixP_any p xs 0
  obtain ⟨hb0, hb1⟩ := ixP_bd p xs 0
  obtain ⟨a, ca, rfl, hca, hca', _⟩ := id ha
  unfold maxLen at hca'
  have HF := Lib.hid hf
  have HX := Lib.hid hx
  clear hf hx
  go_enter Try.func66, Try.ntmps66
  go_wp2_with fail
  refine (IndexFuncFree_any cap0 cap1 p _ ha HF.out).mono ?_
  rintro e w2 ⟨rfl, b2⟩
  go_wp2
  go_ret
  exact ⟨rb HX.out, b2⟩
end Go.Proofs.Ytjbjkfahfjoigaa
