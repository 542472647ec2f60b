/-
  The law package's own helpers on []int64: equal, copied, marked, held.
-/
import Derived.Test.YtmhpbkckmjdojaaLib
namespace Go.Proofs.Ytmhpbkckmjdojaa
open Go.RowKit

set_option maxHeartbeats 400000 in
theorem inRange_any (x a b : Int) (w : World) :
    Calls Try.prog 41 #[.int .i64 x, .int .i64 a, .int .i64 b] w fun e w' => e = .returned (.bool (inR x a b)) ∧ w = w' := by
  go_enter Try.func41, Try.ntmps41
  go_wp2
  all_goals go_ret
  · exact ⟨rb (inR_of_le ‹_›).symm, rfl⟩
  · exact ⟨rb (inR_of_lt ‹_›).symm, rfl⟩
set_option maxHeartbeats 400000 in
theorem l00In_any (x a b : Int) (w : World) :
    Calls Try.prog 36 #[.int .i64 x, .int .i64 a, .int .i64 b] w fun e w' => e = .returned (.bool (inR x a b)) ∧ w = w' := by
  go_enter Try.func36, Try.ntmps36
  go_wp2
  all_goals go_ret
  · exact ⟨rb (inR_of_le ‹_›).symm, rfl⟩
  · exact ⟨rb (inR_of_lt ‹_›).symm, rfl⟩

theorem take_eq_succ {xs ys : List Int} {k : Nat} (ht : xs.take k = ys.take k) (hx : k < xs.length) (hy : k < ys.length) (h : xs[k] = ys[k]) : xs.take (k+1) = ys.take (k+1) := by
  rw [List.take_succ_eq_append_getElem hx, List.take_succ_eq_append_getElem hy, ht, h]
theorem ne_of_get {xs ys : List Int} {k : Nat} (hx : k < xs.length) (hy : k < ys.length) (h : ¬ xs[k] = ys[k]) : ¬ xs = ys := by
  intro e; subst e; exact h rfl

set_option maxHeartbeats 400000 in
theorem eqInt64S_any {u v : Value} {xs ys : List Int} (w : World) (ha : SlI w u xs) (hb : SlI w v ys) :
    Calls Try.prog 13 #[u, v] w fun e w' => e = .returned (.bool (decide (xs = ys))) ∧ Below w.heap.size w w' := by
  obtain ⟨a, ca, rfl, hca, hca', ha⟩ := ha
  obtain ⟨b, cb, rfl, hcb, hcb', hb⟩ := hb
  unfold maxLen at hca' hcb'
  have hm : xs.length ≤ 9223372036854775807 := by omega
  have hn : ys.length ≤ 9223372036854775807 := by omega
  clear hca hca' hcb hcb'
  by_cases hl : xs.length = ys.length
  · have HL := Lib.hid hl
    clear hl
    have h1 : ((xs.length : Int) != (ys.length : Int)) = false := by simp [HL.out]
    go_enter Try.func13, Try.ntmps13
    go_wp2
    go_loopw [5] (fun i wr => ∃ k : Nat, k ≤ xs.length ∧ i = .int .i64 k ∧ xs.take k = ys.take k ∧ Below w.heap.size w wr) (fun i _ => xs.length - (intOf i).toNat)
    case atStart => exact ⟨0, Nat.zero_le _, rfl, rfl, Below.refl _ _⟩
    case round =>
      obtain ⟨k, hk, rfl, ht, hbw⟩ := hrel
      have ha' := ha.below hbw
      have hb' := hb.below hbw
      clear ha hb
      have HT := Lib.hid ht
      clear ht
      by_cases hlt : k < xs.length
      · have hj : k < ys.length := by rw [← HL.out]; exact hlt
        obtain ⟨ba, oa, rfl, ga⟩ := ha'.one (i64s_get hlt)
        obtain ⟨bb, ob, rfl, gb⟩ := hb'.one (i64s_get hj)
        clear ha' hb'
        go_wp2_with fail
        go_quiet (fail)
        go_wp2
        · go_ret
          have hx : (xs[k] != ys[k]) = true := by assumption
          have hne : ¬ xs[k] = ys[k] := by simpa using hx
          exact ⟨rb (by simp [ne_of_get hlt hj hne]), below_drewN hbw _⟩
        · have hx : (xs[k] != ys[k]) = false := by assumption
          have he : xs[k] = ys[k] := by simpa using hx
          go_roundw
          case rel => exact ⟨k + 1, by omega, by go_num, take_eq_succ HT.out hlt hj he, below_drewN hbw _⟩
          case measure => simp [intOf]; omega
      · have ht := HT.out
        go_wp2
        go_ret
        exact ⟨rb (by symm; simp; rw [List.take_of_length_le (by omega), List.take_of_length_le (by rw [← HL.out]; omega)] at ht; exact ht), hbw⟩
  · have h1 : ((xs.length : Int) != (ys.length : Int)) = true := by simp; omega
    have HL := Lib.hid hl
    clear hl
    go_enter Try.func13, Try.ntmps13
    go_wp2
    go_ret
    exact ⟨rb (by symm; simp; intro h; exact HL.out (by rw [h])), Below.refl _ _⟩

theorem fill_step {xs : List Int} {k : Nat} (h : k < xs.length) : (xs.take k ++ List.replicate (xs.length - k) 0).set k xs[k] = xs.take (k+1) ++ List.replicate (xs.length - (k+1)) 0 := by
  rw [List.set_append_right _ _ (by simp; omega), List.take_succ_eq_append_getElem h, List.append_assoc]
  congr 1
  have e : xs.length - k = (xs.length - (k+1)) + 1 := by omega
  have e2 : k - (xs.take k).length = 0 := by simp; omega
  rw [e, e2, List.replicate_succ, List.set_cons_zero]; rfl
set_option maxHeartbeats 400000 in
theorem toInt64S_any {u : Value} {xs : List Int} (w : World) (ha : SlI w u xs) (hl : xs.length ≤ 1048576) :
    Calls Try.prog 9 #[u] w fun e w' => ∃ v, e = .returned v ∧ OwnI w' w.heap.size v xs ∧ Below w.heap.size w w' := by
  obtain ⟨a, ca, rfl, hca, hca', ha⟩ := ha
  clear hca hca'
  go_enter Try.func9, Try.ntmps9
  go_wp2_with (at_make; refine make_i64 w _ _ rfl rfl xs.length rfl rfl rfl rfl (by omega) ?_)
  intro w1 hown hb1 hsz
  go_wp2
  go_loopw [4] (fun i wr => ∃ k : Nat, k ≤ xs.length ∧ i = .int .i64 k ∧ OwnI wr w.heap.size (.slice (some ⟨w.heap.size, 0, none⟩) xs.length xs.length) (xs.take k ++ List.replicate (xs.length - k) 0) ∧ Below w.heap.size w wr) (fun i _ => xs.length - (intOf i).toNat)
  case atStart => exact ⟨0, Nat.zero_le _, rfl, by simpa using hown, hb1⟩
  case round =>
    clear hown hb1
    obtain ⟨k, hk, rfl, hown, hbw⟩ := hrel
    have ha' := ha.below hbw
    clear ha
    by_cases hlt : k < xs.length
    · obtain ⟨ba, oa, rfl, ga⟩ := ha'.one (i64s_get hlt)
      clear ha'
      have gc := hown.cell (i := k) (by simp; omega)
      have gf := hown.free k
      have own' := hown.set k xs[k]
      rw [fill_step hlt] at own'
      go_wp2
      go_roundw
      case rel => exact ⟨k + 1, by omega, by go_num, own', hbw.setCell (by simp) _⟩
      case measure => simp [intOf]; omega
    · obtain rfl : k = xs.length := by omega
      go_wp2
      go_ret
      exact ⟨_, rfl, by simpa using hown, hbw⟩

theorem grownBy_setCell {w w' : World} {g : Nat} (h : w.grownBy w' (some g)) (i : Nat) (u : Value) : w.grownBy (w'.setCell ⟨g, i, none⟩ u) (some g) :=
  ⟨h.os, h.tape, h.output, by simpa using h.size, fun k hk hne => by
    rw [heap_setCell_other w' ⟨g, i, none⟩ k u (fun e => hne (by simp [e])), h.block k hk hne]⟩
/-- k, k+1 .. -/
def ramp (k : Int) (n : Nat) : List Int := (List.range n).map fun (i : Nat) => k + (i : Int)
theorem ramp_length (k : Int) (n : Nat) : (ramp k n).length = n := by simp [ramp]
theorem ramp_get (k : Int) (n : Nat) {i : Nat} (h : i < n) : (ramp k n)[i]'(by simp [ramp]; exact h) = k + i := by simp [ramp]
theorem mark_step {xs : List Int} {m : Int} {k : Nat} (h : k < xs.length) : (ramp m k ++ xs.drop k).set k (m + k) = ramp m (k+1) ++ xs.drop (k+1) := by
  rw [List.set_append_right _ _ (by simp [ramp])]
  have e2 : k - (ramp m k).length = 0 := by simp [ramp]
  rw [e2, List.drop_eq_getElem_cons h, List.set_cons_zero]
  simp [ramp, List.range_succ]
set_option maxHeartbeats 400000 in
theorem markInt64S_any {v : Value} {xs : List Int} (m : Int) (base : Nat) (w : World) (hm0 : 0 ≤ m) (hm : m + xs.length ≤ 1000000000000) (ha : OwnI w base v xs) :
    Calls Try.prog 15 #[v, .int .i64 m] w fun e w' => e = .returned (.int .i64 (m + xs.length)) ∧ OwnI w' base v (ramp m xs.length) ∧ w.grownBy w' v.ownBlock := by
  rcases ha.forms with ⟨rfl, rfl⟩ | ⟨g, c, rfl, hbase, hgs, hc1, hc2⟩
  · go_enter Try.func15, Try.ntmps15
    go_wp2
    refine wp_loop_rounds 1 ?_
    rw [rounds_succ]
    go_wp2
    go_ret
    exact ⟨ri (by simp), OwnI.nil _ _, World.grownBy.refl _ _⟩
  · clear hc1 hc2
    go_enter Try.func15, Try.ntmps15
    go_wp2
    go_loopw [1, 5] (fun q i wr => ∃ k : Nat, k ≤ xs.length ∧ i = .int .i64 k ∧ q = .int .i64 (m + k) ∧ OwnI wr base (.slice (some ⟨g, 0, none⟩) xs.length c) (ramp m k ++ xs.drop k) ∧ w.grownBy wr (some g)) (fun _ i _ => xs.length - (intOf i).toNat)
    case atStart => exact ⟨0, Nat.zero_le _, rfl, vi (by simp), by simpa [ramp] using ha, World.grownBy.refl _ _⟩
    case round =>
      clear ha
      obtain ⟨k, hk, rfl, rfl, hown, hgr⟩ := hrel
      by_cases hlt : k < xs.length
      · have gc := hown.cell (i := k) (by simp [ramp]; omega)
        have gf := hown.free k
        have own' := hown.set k (m + k)
        rw [mark_step hlt] at own'
        go_wp2
        go_roundw
        case rel => exact ⟨k + 1, by omega, by go_num, by go_num, own', grownBy_setCell hgr _ _⟩
        case measure => simp [intOf]; omega
      · obtain rfl : k = xs.length := by omega
        go_wp2
        go_ret
        exact ⟨rfl, by simpa using hown, hgr⟩

set_option maxHeartbeats 400000 in
/-- what is marked is held -/
theorem heldInt64S_any {v : Value} (m : Int) (n : Nat) (w : World) (hm0 : 0 ≤ m) (hm : m + n ≤ 1000000000000) (ha : SlI w v (ramp m n)) :
    Calls Try.prog 20 #[v, .int .i64 m] w fun e w' => e = .returned (.int .i64 (m + n)) ∧ Below w.heap.size w w' := by
  obtain ⟨a, ca, rfl, hca, hca', ha⟩ := ha
  have hl := ramp_length m n
  rw [hl] at hca ⊢
  clear hca hca'
  have HL := Lib.hid hl
  clear hl
  go_enter Try.func20, Try.ntmps20
  go_wp2
  go_loopw [1, 5] (fun q i wr => ∃ k : Nat, k ≤ n ∧ i = .int .i64 k ∧ q = .int .i64 (m + k) ∧ Below w.heap.size w wr) (fun _ i _ => n - (intOf i).toNat)
  case atStart => exact ⟨0, Nat.zero_le _, rfl, vi (by simp), Below.refl _ _⟩
  case round =>
    obtain ⟨k, hk, rfl, rfl, hbw⟩ := hrel
    have ha' := ha.below hbw
    clear ha
    by_cases hlt : k < n
    · obtain ⟨ba, oa, rfl, ga⟩ := ha'.one (i64s_get (by rw [HL.out]; exact hlt))
      rw [ramp_get m n hlt] at ga
      clear ha'
      have ht : ((m + (k : Int)) != (m + (k : Int))) = false := by simp
      go_wp2
      go_roundw
      case rel => exact ⟨k + 1, by omega, by go_num, by go_num, hbw⟩
      case measure => simp [intOf]; omega
    · obtain rfl : k = n := by omega
      go_wp2
      go_ret
      exact ⟨rfl, hbw⟩
end Go.Proofs.Ytmhpbkckmjdojaa
