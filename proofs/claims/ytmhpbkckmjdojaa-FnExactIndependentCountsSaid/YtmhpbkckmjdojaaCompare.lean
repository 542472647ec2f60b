/-
  Graphs: valid or not, both sides.
-/
import Derived.Test.YtmhpbkckmjdojaaFrame
import Derived.Test.YtmhpbkckmjdojaaSameGraph
namespace Go.Proofs.Ytmhpbkckmjdojaa
open Go.RowKit Go.Sort
/-- comparison of lists, as slices.Compare has it -/
def cmpL : List Int → List Int → Int
  | [], [] => 0
  | [], _ :: _ => -1
  | _ :: _, [] => 1
  | x :: xs, y :: ys => if x = y then cmpL xs ys else if x < y then -1 else 1
def lessL : List Int → List Int → Bool
  | [], [] => false
  | [], _ :: _ => true
  | _ :: _, [] => false
  | x :: xs, y :: ys => if x = y then lessL xs ys else decide (x < y)
theorem cmpL_bd : ∀ x y : List Int, -1 ≤ cmpL x y ∧ cmpL x y ≤ 1
  | [], [] => by decide
  | [], _ :: _ => by unfold cmpL; decide
  | _ :: _, [] => by unfold cmpL; decide
  | x :: xs, y :: ys => by
    unfold cmpL
    split
    · exact cmpL_bd xs ys
    · split <;> decide
theorem cmpL_less : ∀ x y : List Int, decide (0 ≤ cmpL x y) = !lessL x y
  | [], [] => by decide
  | [], _ :: _ => by unfold cmpL lessL; decide
  | _ :: _, [] => by unfold cmpL lessL; decide
  | x :: xs, y :: ys => by
    unfold cmpL lessL
    split
    · exact cmpL_less xs ys
    · split <;> rename_i h <;> simp [h]
theorem cmpL_drop {x y : List Int} {k : Nat} (hx : k < x.length) (hy : k < y.length) : cmpL (x.drop k) (y.drop k) = if x[k] = y[k] then cmpL (x.drop (k + 1)) (y.drop (k + 1)) else if x[k] < y[k] then -1 else 1 := by
  rw [List.drop_eq_getElem_cons hx, List.drop_eq_getElem_cons hy]; rfl
theorem lessL_drop {x y : List Int} {k : Nat} (hx : k < x.length) (hy : k < y.length) : lessL (x.drop k) (y.drop k) = if x[k] = y[k] then lessL (x.drop (k + 1)) (y.drop (k + 1)) else decide (x[k] < y[k]) := by
  rw [List.drop_eq_getElem_cons hx, List.drop_eq_getElem_cons hy]; rfl
theorem inRange_q {x a b : Int} {q : Bool} (h : inR x a b = q) (w : World) : Calls Try.prog 41 #[.int .i64 x, .int .i64 a, .int .i64 b] w fun e w' => e = .returned (.bool q) ∧ Below w.heap.size w w' :=
  (inRange_any x a b w).mono fun e w' ⟨h1, h2⟩ => ⟨by rw [h1, h], by rw [h2]; exact Below.refl _ _⟩
theorem l00In_q {x a b : Int} {q : Bool} (h : inR x a b = q) (w : World) : Calls Try.prog 36 #[.int .i64 x, .int .i64 a, .int .i64 b] w fun e w' => e = .returned (.bool q) ∧ Below w.heap.size w w' :=
  (l00In_any x a b w).mono fun e w' ⟨h1, h2⟩ => ⟨by rw [h1, h], by rw [h2]; exact Below.refl _ _⟩
theorem isNaN_any (x : Int) (w : World) : Calls Try.prog 81 #[.int .i64 x] w fun e w' => e = .returned (.bool false) ∧ w = w' := by
  have h : (x != x) = false := by simp
  go_enter Try.func81, Try.ntmps81
  go_wp2
  go_ret
  exact ⟨rfl, rfl⟩
set_option maxHeartbeats 400000 in
theorem cmpCompare_any (x y : Int) (w : World) : Calls Try.prog 73 #[.int .i64 x, .int .i64 y] w fun e w' => e = .returned (.int .i64 (if x = y then 0 else if x < y then -1 else 1)) ∧ w = w' := by
  have A : ∀ q : Int, q = (if x = y then 0 else if x < y then -1 else 1) → (x < y → q = -1) ∧ (y < x → q = 1) ∧ (x = y → q = 0) := by
    intro q h
    subst h
    refine ⟨fun h => ?_, fun h => ?_, fun h => ?_⟩
    · rw [if_neg (by omega), if_pos h]
    · rw [if_neg (by omega), if_neg (by omega)]
    · rw [if_pos h]
  generalize hq : (if x = y then (0 : Int) else if x < y then -1 else 1) = q
  have hA := A q hq.symm
  have HA := Lib.hid hA
  clear A hA hq
  by_cases h1 : x < y
  · go_enter Try.func73, Try.ntmps73
    go_wp2_with (go_at_call 81; refine (isNaN_any _ _).mono ?_; rintro e w' ⟨rfl, rfl⟩)
    go_ret
    exact ⟨ri (HA.out.1 h1).symm, rfl⟩
  · by_cases h2 : y < x
    · go_enter Try.func73, Try.ntmps73
      go_wp2_with (go_at_call 81; refine (isNaN_any _ _).mono ?_; rintro e w' ⟨rfl, rfl⟩)
      go_ret
      exact ⟨ri (HA.out.2.1 h2).symm, rfl⟩
    · go_enter Try.func73, Try.ntmps73
      go_wp2_with (go_at_call 81; refine (isNaN_any _ _).mono ?_; rintro e w' ⟨rfl, rfl⟩)
      go_ret
      exact ⟨ri (HA.out.2.2 (by omega)).symm, rfl⟩
set_option maxHeartbeats 1000000 in
theorem Compare_any {u v : Value} {xs ys : List Int} (w : World) (ha : SlI w u xs) (hb : SlI w v ys) :
    Calls Try.prog 56 #[u, v] w fun e w' => e = .returned (.int .i64 (cmpL xs ys)) ∧ w = w' := by
  obtain ⟨a, ca, rfl, hca, hca', ha⟩ := ha
  obtain ⟨b, cb, rfl, hcb, hcb', hb⟩ := hb
  unfold maxLen at hca' hcb'
  go_enter Try.func56, Try.ntmps56
  go_wp2
  go_loopw [5, 6, 7, 8, 11] (fun _ _ _ _ i wr => ∃ k : Nat, k ≤ xs.length ∧ k ≤ ys.length ∧ i = .int .i64 k ∧ Hid (cmpL xs ys = cmpL (xs.drop k) (ys.drop k)) ∧ wr = w) (fun _ _ _ _ i _ => xs.length - (intOf i).toNat)
  case atStart => exact ⟨0, Nat.zero_le _, Nat.zero_le _, rfl, rfl, rfl⟩
  case round =>
    obtain ⟨k, hk, hk2, rfl, hc, rfl⟩ := hrel
    by_cases hlt : k < xs.length
    · obtain ⟨ba, oa, rfl, ga⟩ := ha.one (i64s_get hlt)
      have i1 : (k : Int) < (xs.length : Int) := by omega
      by_cases hy : k < ys.length
      · obtain ⟨bb, ob, rfl, gb⟩ := hb.one (i64s_get hy)
        have i2 : (k : Int) < (ys.length : Int) := by omega
        have hd := cmpL_drop hlt hy
        generalize hq : (if xs[k] = ys[k] then (0 : Int) else if xs[k] < ys[k] then -1 else 1) = q
        have HQ := Lib.hid hq
        have HD := Lib.hid hd
        clear hq hd
        by_cases hz : q = 0
        · have ht : (q != 0) = false := by simp [hz]
          have he : xs[k] = ys[k] := by
            have := HQ.out
            split at this
            · assumption
            · split at this <;> omega
          have HE := Lib.hid he
          clear hz he
          go_wp2_with (go_at_call 73; refine (cmpCompare_any _ _ _).mono ?_; rintro e w' ⟨rfl, rfl⟩; rw [HQ.out])
          go_roundw
          case rel => exact ⟨k + 1, by omega, by omega, by go_num, by unfold Hid at *; rw [hc, HD, if_pos HE], trivial⟩
          case measure => simp [intOf]; omega
        · have ht : (q != 0) = true := by simp [hz]
          have hv : cmpL xs ys = q := by
            rw [hc.out, HD.out]
            have := HQ.out
            split at this
            · omega
            · rename_i h; rw [if_neg h]; exact this
          have HV := Lib.hid hv
          clear hz hv
          go_wp2_with (go_at_call 73; refine (cmpCompare_any _ _ _).mono ?_; rintro e w' ⟨rfl, rfl⟩; rw [HQ.out])
          go_ret
          exact ⟨ri HV.out.symm, rfl⟩
      · obtain rfl : k = ys.length := by omega
        go_wp2
        go_ret
        exact ⟨ri (by rw [hc.out, List.drop_length, List.drop_eq_getElem_cons hlt]; rfl), rfl⟩
    · obtain rfl : k = xs.length := by omega
      by_cases hy : xs.length < ys.length
      · go_wp2
        go_ret
        exact ⟨ri (by rw [hc.out, List.drop_length, List.drop_eq_getElem_cons hy]; rfl), rfl⟩
      · have hyy : xs.length = ys.length := by omega
        have HY := Lib.hid hyy
        clear hyy
        go_wp2
        go_ret
        exact ⟨ri (by rw [hc.out, List.drop_length, List.drop_eq_nil_of_le (by rw [HY.out]; exact Nat.le_refl _)]; rfl), rfl⟩
end Go.Proofs.Ytmhpbkckmjdojaa
