/-
  SameGraph, both.
-/
import Derived.Test.YtbhhihaaiiaagaaGraph
namespace Go.Proofs.Ytbhhihaaiiaagaa
open Go.RowKit Go.Sort
set_option maxHeartbeats 400000 in
theorem l00Same_any {u v : Value} {xs ys : List Int} (w : World) (ha : SlI w u xs) (hb : SlI w v ys) :
    Calls Try.prog 37 #[u, v] w fun e w' => e = .returned (.bool (decide (xs = ys))) ∧ Below w.heap.size w w' := by
  obtain ⟨a, ca, rfl, hca, hca', ha⟩ := ha
  obtain ⟨b, cb, rfl, hcb, hcb', hb⟩ := hb
  unfold maxLen at hca' hcb'
  have hm : xs.length ≤ 9223372036854775807 := by omega
  have hn : ys.length ≤ 9223372036854775807 := by omega
  clear hca hca' hcb hcb'
  by_cases hl : xs.length = ys.length
  · have HL := Lib.hid hl
    clear hl
    have h1 : ((xs.length : Int) != (ys.length : Int)) = false := by simp [HL.out]
    go_enter Try.func37, Try.ntmps37
    go_wp2
    go_loopw [5] (fun i wr => ∃ k : Nat, k ≤ xs.length ∧ i = .int .i64 k ∧ xs.take k = ys.take k ∧ Below w.heap.size w wr) (fun i _ => xs.length - (intOf i).toNat)
    case atStart => exact ⟨0, Nat.zero_le _, rfl, rfl, Below.refl _ _⟩
    case round =>
      obtain ⟨k, hk, rfl, ht, hbw⟩ := hrel
      have ha' := ha.below hbw
      have hb' := hb.below hbw
      clear ha hb
      have HT := Lib.hid ht
      clear ht
      by_cases hlt : k < xs.length
      · have hj : k < ys.length := by rw [← HL.out]; exact hlt
        obtain ⟨ba, oa, rfl, ga⟩ := ha'.one (i64s_get hlt)
        obtain ⟨bb, ob, rfl, gb⟩ := hb'.one (i64s_get hj)
        clear ha' hb'
        go_wp2_with fail
        go_quiet (fail)
        go_wp2
        · go_ret
          have hx : (xs[k] != ys[k]) = true := by assumption
          have hne : ¬ xs[k] = ys[k] := by simpa using hx
          exact ⟨rb (by simp [ne_of_get hlt hj hne]), below_drewN hbw _⟩
        · have hx : (xs[k] != ys[k]) = false := by assumption
          have he : xs[k] = ys[k] := by simpa using hx
          go_roundw
          case rel => exact ⟨k + 1, by omega, by go_num, take_eq_succ HT.out hlt hj he, below_drewN hbw _⟩
          case measure => simp [intOf]; omega
      · have ht := HT.out
        go_wp2
        go_ret
        exact ⟨rb (by symm; simp; rw [List.take_of_length_le (by omega), List.take_of_length_le (by rw [← HL.out]; omega)] at ht; exact ht), hbw⟩
  · have h1 : ((xs.length : Int) != (ys.length : Int)) = true := by simp; omega
    have HL := Lib.hid hl
    clear hl
    go_enter Try.func37, Try.ntmps37
    go_wp2
    go_ret
    exact ⟨rb (by symm; simp; intro h; exact HL.out (by rw [h])), Below.refl _ _⟩

set_option maxHeartbeats 1000000 in
theorem SpecSameGraph_any {u v : Value} {xss yss : List (List Int)} (n m : Int) (w : World) (ha : SlII w u xss) (hb : SlII w v yss) :
    Calls Try.prog 22 #[.agg #[.int .i64 n, u], .agg #[.int .i64 m, v]] w fun e w' => e = .returned (.bool (decide (n = m) && decide (xss = yss))) ∧ Below w.heap.size w w' := by
  obtain ⟨a, ca, us, rfl, hca, hca', hul, hrda, hrowa⟩ := ha
  obtain ⟨b, cb, vs, rfl, hcb, hcb', hvl, hrdb, hrowb⟩ := hb
  unfold maxLen at hca' hcb'
  have hm : xss.length ≤ 9223372036854775807 := by omega
  have hnn : yss.length ≤ 9223372036854775807 := by omega
  have HU := Lib.hid hul
  have HV := Lib.hid hvl
  have HA := Lib.hid hrowa
  have HB := Lib.hid hrowb
  clear hca hca' hcb hcb' hul hvl hrowa hrowb
  have bb := ((Below.refl w.heap.size w).alloc (Nat.le_refl _) (.cells #[.int .i64 n, .slice a xss.length ca] 29)).alloc (by simp) (.cells #[.int .i64 m, .slice b yss.length cb] 29)
  by_cases hn : n = m
  · subst hn
    have ht : (n != n) = false := by simp
    by_cases hl : xss.length = yss.length
    · have HL := Lib.hid hl
      clear hl
      have h1 : ((xss.length : Int) != (yss.length : Int)) = false := by simp [HL.out]
      go_enter Try.func22, Try.ntmps22
      go_wp2
      go_loopw [5] (fun i wr => ∃ k : Nat, k ≤ xss.length ∧ i = .int .i64 k ∧ xss.take k = yss.take k ∧ Below (w.heap.size + 2) ((w.alloc (.cells #[.int .i64 n, .slice a xss.length ca] 29)).alloc (.cells #[.int .i64 n, .slice b yss.length cb] 29)) wr) (fun i _ => xss.length - (intOf i).toNat)
      case atStart => exact ⟨0, Nat.zero_le _, rfl, rfl, Below.refl _ _⟩
      case round =>
        obtain ⟨k, hk, rfl, ht, hbw2⟩ := hrel
        have hbw := bb.trans (hbw2.mono (by omega))
        have HT := Lib.hid ht
        have c1 := hbw2.cell (p := ⟨w.heap.size, 1, none⟩) (by simp)
        have c2 := hbw2.cell (p := ⟨w.heap.size + 1, 1, none⟩) (by simp)
        simp [go_sem] at c1 c2
        clear ht
        by_cases hlt : k < xss.length
        · have hj : k < yss.length := by rw [← HL.out]; exact hlt
          obtain ⟨x, ba, oa, rfl, ga, sx⟩ := SlII.row HU.out (hrda.below hbw) (fun i hi u hu => (HA.out i hi u hu).below hbw) hlt
          obtain ⟨y, bb', ob, rfl, gb, sy⟩ := SlII.row HV.out (hrdb.below hbw) (fun i hi u hu => (HB.out i hi u hu).below hbw) hj
          have ka := fun d os => cell_regrown ga d os
          have kb := fun d os => cell_regrown gb d os
          have k1 := fun d os => cell_regrown c1 d os
          have k2 := fun d os => cell_regrown c2 d os
          have i0 : (0 : Int) ≤ (k : Int) := by omega
          have i1 : (k : Int) < (xss.length : Int) := by omega
          have i2 : (k : Int) < (yss.length : Int) := by omega
          clear hrda hrdb ga gb
          go_wp2_with fail
          refine wp_region_quiet_below (by kernel_rfl) (by kernel_rfl) ?_
          repeat (quiet_step (exact Calls.regrown_of (l00Same_any _ (sx.below (below_regrown _ _ _)) (sy.below (below_regrown _ _ _)))))
          refine wpQuiet_nil ?_
          intro _ hw'
          obtain ⟨⟨dq, osq⟩, hw''⟩ := hw'
          subst hw''
          have hz := hbw2.size
          simp at hz
          have bq := hbw2.trans ((below_regrown wr dq osq).mono (by omega))
          clear ka kb k1 k2
          generalize hd : decide (xss[k] = yss[k]) = d
          have HE := Lib.hid hd
          clear hd
          cases d
          · go_wp2
            go_ret
            exact ⟨rb (by symm; simp; intro e; subst e; have := HE.out; simp at this), bb.trans (bq.mono (by omega))⟩
          · go_wp2
            go_roundw
            case rel => exact ⟨k + 1, by omega, by go_num, by rw [List.take_succ_eq_append_getElem hlt, List.take_succ_eq_append_getElem hj, HT.out, of_decide_eq_true HE.out], bq⟩
            case measure => simp [intOf]; omega
        · have ht := HT.out
          clear hrda hrdb
          go_wp2
          go_ret
          exact ⟨rb (by symm; simp; rw [List.take_of_length_le (by omega), List.take_of_length_le (by rw [← HL.out]; omega)] at ht; exact ht), hbw⟩
    · have h1 : ((xss.length : Int) != (yss.length : Int)) = true := by simp; omega
      have HL := Lib.hid hl
      clear hl hrda hrdb
      go_enter Try.func22, Try.ntmps22
      go_wp2
      go_ret
      exact ⟨rb (by symm; simp; intro h; exact HL.out (by rw [h])), bb⟩
  · have ht : (n != m) = true := by simp [hn]
    have HN := Lib.hid hn
    clear hn hrda hrdb
    go_enter Try.func22, Try.ntmps22
    go_wp2
    go_ret
    exact ⟨rb (by simp [HN.out]), bb⟩
end Go.Proofs.Ytbhhihaaiiaagaa
