/-
  Graphs: valid or not, the reference's.
-/
import Derived.Test.YtmhpbkckmjdojaaValidG
import Derived.Test.YtmhpbkckmjdojaaStepLaw
namespace Go.Proofs.Ytmhpbkckmjdojaa
open Go.RowKit Go.Sort
set_option maxHeartbeats 2000000 in
theorem l08Less_any {u v : Value} {xs ys : List Int} (w : World) (ha : SlI w u xs) (hb : SlI w v ys) :
    Calls Try.prog 53 #[u, v] w fun e w' => e = .returned (.bool (lessL xs ys)) ∧ Below w.heap.size w w' := by
  obtain ⟨a, ca, rfl, hca, hca', ha⟩ := ha
  obtain ⟨b, cb, rfl, hcb, hcb', hb⟩ := hb
  unfold maxLen at hca' hcb'
  go_enter Try.func53, Try.ntmps53
  go_wp2
  go_loopw [5] (fun i wr => ∃ k : Nat, k ≤ xs.length ∧ k ≤ ys.length ∧ i = .int .i64 k ∧ Hid (lessL xs ys = lessL (xs.drop k) (ys.drop k)) ∧ Below w.heap.size w wr) (fun i _ => xs.length - (intOf i).toNat)
  case atStart => exact ⟨0, Nat.zero_le _, Nat.zero_le _, rfl, rfl, Below.refl _ _⟩
  case round =>
    obtain ⟨k, hk, hk2, rfl, hc, hbr⟩ := hrel
    have HA := Lib.hid (ha.below hbr)
    have HB := Lib.hid (hb.below hbr)
    by_cases hlt : k < xs.length
    · have i1 : (k : Int) < (xs.length : Int) := by omega
      by_cases hy : k < ys.length
      · obtain ⟨ba, oa, rfl, ga⟩ := HA.out.one (i64s_get hlt)
        obtain ⟨bb, ob, rfl, gb⟩ := HB.out.one (i64s_get hy)
        have i2 : (k : Int) < (ys.length : Int) := by omega
        have i0 : (0 : Int) ≤ (k : Int) := by omega
        have hd := lessL_drop hlt hy
        have HD := Lib.hid hd
        have ka := fun d os => cell_regrown ga d os
        have kb := fun d os => cell_regrown gb d os
        clear hd
        by_cases he : xs[k] = ys[k]
        · have ht : (xs[k] != ys[k]) = false := by simp [he]
          have HE := Lib.hid he
          clear he
          go_wp2_with fail
          refine wp_region_quiet_below (by kernel_rfl) (by kernel_rfl) ?_
          repeat (first | go_big_quiet_skip | quiet_step (first | fail))
          refine wpQuiet_nil ?_
          intro _ hw'
          obtain ⟨⟨dq, osq⟩, hw''⟩ := hw'
          subst hw''
          have bq0 := below_regrown wr dq osq
          generalize grow (redrawn wr dq) osq = wq at bq0 ⊢
          have hb2 := hbr.trans (bq0.mono hbr.size)
          clear ka kb ht
          go_wp2
          go_roundw
          case rel => exact ⟨k + 1, by omega, by omega, by go_num, by unfold Hid at *; rw [hc, HD, if_pos HE], hb2⟩
          case measure => simp [intOf]; omega
        · have ht : (xs[k] != ys[k]) = true := by simp [he]
          have HE := Lib.hid he
          clear he
          go_wp2_with fail
          refine wp_region_quiet_below (by kernel_rfl) (by kernel_rfl) ?_
          repeat (first | go_big_quiet_skip | quiet_step (first | fail))
          refine wpQuiet_nil ?_
          intro _ hw'
          obtain ⟨⟨dq, osq⟩, hw''⟩ := hw'
          subst hw''
          have bq0 := below_regrown wr dq osq
          generalize grow (redrawn wr dq) osq = wq at bq0 ⊢
          have hb2 := hbr.trans (bq0.mono hbr.size)
          have ga2 := bq0.cell (p := ⟨ba, oa + k, none⟩) (cell_lt ga)
          have gb2 := bq0.cell (p := ⟨bb, ob + k, none⟩) (cell_lt gb)
          rw [ga] at ga2
          rw [gb] at gb2
          have ka2 := fun d os => cell_regrown ga2 d os
          have kb2 := fun d os => cell_regrown gb2 d os
          clear ka kb ht
          go_wp2_with fail
          refine wp_region_quiet_below (by kernel_rfl) (by kernel_rfl) ?_
          repeat (first | go_big_quiet_skip | quiet_step (first | fail))
          refine wpQuiet_nil ?_
          intro _ hw'
          obtain ⟨⟨dq, osq⟩, hw''⟩ := hw'
          subst hw''
          have bq1 := below_regrown wq dq osq
          generalize grow (redrawn wq dq) osq = wq2 at bq1 ⊢
          clear ka2 kb2
          go_wp2
          go_ret
          exact ⟨rb (by rw [hc.out, HD.out, if_neg HE.out]), hb2.trans (bq1.mono hb2.size)⟩
      · obtain rfl : k = ys.length := by omega
        go_wp2
        go_ret
        exact ⟨rb (by rw [hc.out, List.drop_length, List.drop_eq_getElem_cons hlt]; unfold lessL; simp; omega), hbr⟩
    · obtain rfl : k = xs.length := by omega
      go_wp2
      go_ret
      exact ⟨rb (by
        rw [hc.out, List.drop_length]
        by_cases hy : xs.length < ys.length
        · rw [List.drop_eq_getElem_cons hy]; simp [lessL, hy]
        · rw [List.drop_eq_nil_of_le (by omega)]; simp [lessL]; omega), hbr⟩
def riseN (lo hi : Int) (e : List Int) : Nat → Bool
  | 0 => true
  | k + 1 => riseN lo hi e k && (inR (e.getD k 0) lo hi && (decide (k = 0) || decide (e.getD (k - 1) 0 < e.getD k 0)))
theorem riseN_false {lo hi : Int} {e : List Int} {k : Nat} (h : (inR (e.getD k 0) lo hi && (decide (k = 0) || decide (e.getD (k - 1) 0 < e.getD k 0))) = false) : ∀ {m : Nat}, k < m → riseN lo hi e m = false
  | 0, h1 => by omega
  | m + 1, h1 => by
    unfold riseN
    by_cases hk : k = m
    · subst hk; rw [h]; simp
    · rw [riseN_false h (show k < m by omega)]; rfl
set_option maxHeartbeats 4000000 in
theorem l00Rises_any {u : Value} {e : List Int} (lo hi : Int) (w : World) (ha : SlI w u e) :
    Calls Try.prog 52 #[u, .int .i64 lo, .int .i64 hi] w fun en w' => en = .returned (.bool (riseN lo hi e e.length)) ∧ Below w.heap.size w w' := by
  obtain ⟨a, ca, rfl, hca, hca', ha⟩ := ha
  unfold maxLen at hca'
  go_enter Try.func52, Try.ntmps52
  go_wp2
  go_loopw [7] (fun i wr => ∃ k : Nat, k ≤ e.length ∧ i = .int .i64 k ∧ Hid (riseN lo hi e k = true) ∧ Below w.heap.size w wr) (fun i _ => e.length - (intOf i).toNat)
  case atStart => exact ⟨0, Nat.zero_le _, rfl, rfl, Below.refl _ _⟩
  case round =>
    obtain ⟨k, hk, rfl, hc, hbr⟩ := hrel
    have HA := Lib.hid (ha.below hbr)
    by_cases hlt : k < e.length
    · have i1 : (k : Int) < (e.length : Int) := by omega
      have i0 : (0 : Int) ≤ (k : Int) := by omega
      obtain ⟨ba, oa, rfl, ga⟩ := HA.out.one (i64s_get hlt)
      have ka := fun d os => cell_regrown ga d os
      generalize hx : e[k] = x at ga ka
      have hgd : e.getD k 0 = x := by rw [getD_at hlt, hx]
      have HGD := Lib.hid hgd
      generalize hq : inR x lo hi = q
      have HQ := Lib.hid hq
      have HNO := Lib.hid (fun h => riseN_false (lo := lo) (hi := hi) (e := e) (k := k) h hlt)
      clear hx hgd hq
      cases q
      · go_wp2_with fail
        refine wp_region_quiet_below (by kernel_rfl) (by kernel_rfl) ?_
        repeat (first | go_big_quiet_skip | quiet_step (first | (with_reducible exact Calls.regrown_of (l00In_q HQ.out _))))
        refine wpQuiet_nil ?_
        intro _ hw'
        obtain ⟨⟨dq, osq⟩, hw''⟩ := hw'
        subst hw''
        have bq0 := below_regrown wr dq osq
        generalize grow (redrawn wr dq) osq = wq at bq0 ⊢
        clear ka
        go_wp2
        go_ret
        exact ⟨rb (HNO.out (by rw [HGD.out, HQ.out]; rfl)).symm, hbr.trans (bq0.mono hbr.size)⟩
      · by_cases hk0 : k = 0
        · have hk0' : decide (0 < k) = false := by simp; omega
          have HK0 := Lib.hid hk0
          clear hk0
          go_wp2_with fail
          refine wp_region_quiet_below (by kernel_rfl) (by kernel_rfl) ?_
          repeat (first | go_big_quiet_skip | quiet_step (first | (with_reducible exact Calls.regrown_of (l00In_q HQ.out _))))
          refine wpQuiet_nil ?_
          intro _ hw'
          obtain ⟨⟨dq, osq⟩, hw''⟩ := hw'
          subst hw''
          have bq0 := below_regrown wr dq osq
          generalize grow (redrawn wr dq) osq = wq at bq0 ⊢
          have hb2 := hbr.trans (bq0.mono hbr.size)
          clear ka hk0'
          go_wp2
          go_roundw
          case rel => exact ⟨k + 1, by omega, by go_num, by unfold Hid riseN; rw [hc.out, HGD.out, HQ.out]; simp [HK0.out], hb2⟩
          case measure => simp [intOf]; omega
        · obtain ⟨m, hm⟩ : ∃ m, k = m + 1 := ⟨k - 1, by omega⟩
          have r2 : IntKind.i64.wrap ((k : Int) - 1) = (m : Int) := by rw [IntWalk.i64_in _ (by omega)]; omega
          have hkp : decide (0 < k) = true := by simp; omega
          have hml : m < e.length := by omega
          have i3 : (0 : Int) ≤ (m : Int) := by omega
          have i4 : (m : Int) < (e.length : Int) := by omega
          obtain ⟨ba', oa', he', gm⟩ := HA.out.one (i64s_get hml)
          simp only [Option.some.injEq, Addr.mk.injEq] at he'
          obtain ⟨rfl, rfl, _⟩ := he'
          have km := fun d os => cell_regrown gm d os
          generalize hy : e[m] = y at gm km
          have hgm : e.getD (k - 1) 0 = y := by rw [hm, Nat.add_sub_cancel, getD_at hml, hy]
          have HGM := Lib.hid hgm
          have HM := Lib.hid hm
          clear hy hgm hm
          by_cases hxy : y < x
          · go_wp2_with fail
            refine wp_region_quiet_below (by kernel_rfl) (by kernel_rfl) ?_
            repeat (first | go_big_quiet_skip | quiet_step (first | (with_reducible exact Calls.regrown_of (l00In_q HQ.out _))))
            refine wpQuiet_nil ?_
            intro _ hw'
            obtain ⟨⟨dq, osq⟩, hw''⟩ := hw'
            subst hw''
            have bq0 := below_regrown wr dq osq
            generalize grow (redrawn wr dq) osq = wq at bq0 ⊢
            have hb2 := hbr.trans (bq0.mono hbr.size)
            clear ka km r2 hkp
            go_wp2
            go_roundw
            case rel => exact ⟨k + 1, by omega, by go_num, by unfold Hid riseN; rw [hc.out, HGD.out, HQ.out, HGM.out]; simp [hxy], hb2⟩
            case measure => simp [intOf]; omega
          · have hxy2 : x ≤ y := by omega
            go_wp2_with fail
            refine wp_region_quiet_below (by kernel_rfl) (by kernel_rfl) ?_
            repeat (first | go_big_quiet_skip | quiet_step (first | (with_reducible exact Calls.regrown_of (l00In_q HQ.out _))))
            refine wpQuiet_nil ?_
            intro _ hw'
            obtain ⟨⟨dq, osq⟩, hw''⟩ := hw'
            subst hw''
            have bq0 := below_regrown wr dq osq
            generalize grow (redrawn wr dq) osq = wq at bq0 ⊢
            clear ka km r2 hkp
            go_wp2
            go_ret
            exact ⟨rb (HNO.out (by rw [HGD.out, HQ.out, HGM.out]; simp; omega)).symm, hbr.trans (bq0.mono hbr.size)⟩
    · obtain rfl : k = e.length := by omega
      go_wp2
      go_ret
      exact ⟨rb hc.out.symm, hbr⟩
end Go.Proofs.Ytmhpbkckmjdojaa
