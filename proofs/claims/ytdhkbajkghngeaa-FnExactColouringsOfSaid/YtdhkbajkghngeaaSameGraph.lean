/-
  SameGraph, both.
-/
import Derived.Test.YtdhkbajkghngeaaGraph
namespace Go.Proofs.Ytdhkbajkghngeaa
open Go.RowKit Go.Sort
set_option maxHeartbeats 400000 in
theorem l00Same_any {u v : Value} {xs ys : List Int} (w : World) (ha : SlI w u xs) (hb : SlI w v ys) :
    Calls Try.prog 204 #[u, v] w fun e w' => e = .returned (.bool (decide (xs = ys))) ∧ Below w.heap.size w w' := by
  obtain ⟨a, ca, rfl, hca, hca', ha⟩ := ha
  obtain ⟨b, cb, rfl, hcb, hcb', hb⟩ := hb
  unfold maxLen at hca' hcb'
  have hm : xs.length ≤ 9223372036854775807 := by omega
  have hn : ys.length ≤ 9223372036854775807 := by omega
  clear hca hca' hcb hcb'
  by_cases hl : xs.length = ys.length
  · have HL := Lib.hid hl
    clear hl
    have h1 : ((xs.length : Int) != (ys.length : Int)) = false := by simp [HL.out]
    go_enter Try.func204, Try.ntmps204
    go_wp2
    go_loopw [5] (fun i wr => ∃ k : Nat, k ≤ xs.length ∧ i = .int .i64 k ∧ xs.take k = ys.take k ∧ Below w.heap.size w wr) (fun i _ => xs.length - (intOf i).toNat)
    case atStart => exact ⟨0, Nat.zero_le _, rfl, rfl, Below.refl _ _⟩
    case round =>
      obtain ⟨k, hk, rfl, ht, hbw⟩ := hrel
      have ha' := ha.below hbw
      have hb' := hb.below hbw
      clear ha hb
      have HT := Lib.hid ht
      clear ht
      by_cases hlt : k < xs.length
      · have hj : k < ys.length := by rw [← HL.out]; exact hlt
        obtain ⟨ba, oa, rfl, ga⟩ := ha'.one (i64s_get hlt)
        obtain ⟨bb, ob, rfl, gb⟩ := hb'.one (i64s_get hj)
        clear ha' hb'
        go_wp2_with fail
        go_quiet (fail)
        go_wp2
        · go_ret
          have hx : (xs[k] != ys[k]) = true := by assumption
          have hne : ¬ xs[k] = ys[k] := by simpa using hx
          exact ⟨rb (by simp [ne_of_get hlt hj hne]), below_drewN hbw _⟩
        · have hx : (xs[k] != ys[k]) = false := by assumption
          have he : xs[k] = ys[k] := by simpa using hx
          go_roundw
          case rel => exact ⟨k + 1, by omega, by go_num, take_eq_succ HT.out hlt hj he, below_drewN hbw _⟩
          case measure => simp [intOf]; omega
      · have ht := HT.out
        go_wp2
        go_ret
        exact ⟨rb (by symm; simp; rw [List.take_of_length_le (by omega), List.take_of_length_le (by rw [← HL.out]; omega)] at ht; exact ht), hbw⟩
  · have h1 : ((xs.length : Int) != (ys.length : Int)) = true := by simp; omega
    have HL := Lib.hid hl
    clear hl
    go_enter Try.func204, Try.ntmps204
    go_wp2
    go_ret
    exact ⟨rb (by symm; simp; intro h; exact HL.out (by rw [h])), Below.refl _ _⟩

set_option maxHeartbeats 400000 in
theorem Equal_any {u v : Value} {xs ys : List Int} (w : World) (ha : SlI w u xs) (hb : SlI w v ys) :
    Calls Try.prog 212 #[u, v] w fun e w' => e = .returned (.bool (decide (xs = ys))) ∧ Below w.heap.size w w' := by
  obtain ⟨a, ca, rfl, hca, hca', ha⟩ := ha
  obtain ⟨b, cb, rfl, hcb, hcb', hb⟩ := hb
  unfold maxLen at hca' hcb'
  have hm : xs.length ≤ 9223372036854775807 := by omega
  have hn : ys.length ≤ 9223372036854775807 := by omega
  clear hca hca' hcb hcb'
  by_cases hl : xs.length = ys.length
  · have HL := Lib.hid hl
    clear hl
    have h1 : ((xs.length : Int) != (ys.length : Int)) = false := by simp [HL.out]
    go_enter Try.func212, Try.ntmps212
    go_wp2
    go_loopw [13] (fun i wr => ∃ k : Nat, k ≤ xs.length ∧ i = .int .i64 k ∧ xs.take k = ys.take k ∧ Below w.heap.size w wr) (fun i _ => xs.length - (intOf i).toNat)
    case atStart => exact ⟨0, Nat.zero_le _, rfl, rfl, Below.refl _ _⟩
    case round =>
      obtain ⟨k, hk, rfl, ht, hbw⟩ := hrel
      have ha' := ha.below hbw
      have hb' := hb.below hbw
      clear ha hb
      have HT := Lib.hid ht
      clear ht
      by_cases hlt : k < xs.length
      · have hj : k < ys.length := by rw [← HL.out]; exact hlt
        obtain ⟨ba, oa, rfl, ga⟩ := ha'.one (i64s_get hlt)
        obtain ⟨bb, ob, rfl, gb⟩ := hb'.one (i64s_get hj)
        clear ha' hb'
        go_wp2_with fail
        go_quiet (fail)
        go_wp2
        · go_ret
          have hx : (xs[k] != ys[k]) = true := by assumption
          have hne : ¬ xs[k] = ys[k] := by simpa using hx
          exact ⟨rb (by simp [ne_of_get hlt hj hne]), below_drewN hbw _⟩
        · have hx : (xs[k] != ys[k]) = false := by assumption
          have he : xs[k] = ys[k] := by simpa using hx
          go_roundw
          case rel => exact ⟨k + 1, by omega, by go_num, take_eq_succ HT.out hlt hj he, below_drewN hbw _⟩
          case measure => simp [intOf]; omega
      · have ht := HT.out
        go_wp2
        go_ret
        exact ⟨rb (by symm; simp; rw [List.take_of_length_le (by omega), List.take_of_length_le (by rw [← HL.out]; omega)] at ht; exact ht), hbw⟩
  · have h1 : ((xs.length : Int) != (ys.length : Int)) = true := by simp; omega
    have HL := Lib.hid hl
    clear hl
    go_enter Try.func212, Try.ntmps212
    go_wp2
    go_ret
    exact ⟨rb (by symm; simp; intro h; exact HL.out (by rw [h])), Below.refl _ _⟩


end Go.Proofs.Ytdhkbajkghngeaa
