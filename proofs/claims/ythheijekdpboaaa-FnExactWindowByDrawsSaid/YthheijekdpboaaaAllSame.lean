/-
  slices.Max, slices.Min, allSame.
-/
import Derived.Test.YthheijekdpboaaaWindow
namespace Go.Proofs.Ythheijekdpboaaa
open Go.RowKit Go.Sort
def mxTo (l : List Int) (j : Nat) : Int := (l.take j).foldl max (l.headD 0)
def mnTo (l : List Int) (j : Nat) : Int := (l.take j).foldl min (l.headD 0)
theorem mxTo_succ {l : List Int} {j : Nat} (hj : j < l.length) : mxTo l (j + 1) = max (mxTo l j) l[j] := by
  unfold mxTo; rw [List.take_succ_eq_append_getElem hj, List.foldl_append]; rfl
theorem mnTo_succ {l : List Int} {j : Nat} (hj : j < l.length) : mnTo l (j + 1) = min (mnTo l j) l[j] := by
  unfold mnTo; rw [List.take_succ_eq_append_getElem hj, List.foldl_append]; rfl
theorem foldl_max_ge : ∀ (l : List Int) (a : Int), a ≤ l.foldl max a ∧ ∀ x ∈ l, x ≤ l.foldl max a
  | [], a => ⟨Int.le_refl _, by simp⟩
  | y :: l, a => by
    obtain ⟨h1, h2⟩ := foldl_max_ge l (max a y)
    rw [List.foldl_cons]
    refine ⟨by omega, fun x hx => ?_⟩
    simp at hx
    rcases hx with rfl | hx
    · omega
    · exact h2 x hx
theorem foldl_min_le : ∀ (l : List Int) (a : Int), l.foldl min a ≤ a ∧ ∀ x ∈ l, l.foldl min a ≤ x
  | [], a => ⟨Int.le_refl _, by simp⟩
  | y :: l, a => by
    obtain ⟨h1, h2⟩ := foldl_min_le l (min a y)
    rw [List.foldl_cons]
    refine ⟨by omega, fun x hx => ?_⟩
    simp at hx
    rcases hx with rfl | hx
    · omega
    · exact h2 x hx
theorem foldl_same : ∀ (l : List Int) (a : Int), (∀ x ∈ l, x = a) → l.foldl max a = a ∧ l.foldl min a = a
  | [], _, _ => ⟨rfl, rfl⟩
  | y :: l, a, h => by
    have hy : y = a := h y (by simp)
    subst hy
    have := foldl_same l y (fun x hx => h x (by simp [hx]))
    simpa using this
theorem allAs_mm (l : List Int) : decide (mxTo l l.length = mnTo l l.length) = allAs l := by
  unfold mxTo mnTo
  rw [List.take_length]
  by_cases h : allAs l = true
  · rw [h]
    have h2 : ∀ x ∈ l, x = l.headD 0 := by
      intro x hx
      unfold allAs at h
      rw [List.all_eq_true] at h
      simpa using h x hx
    obtain ⟨h3, h4⟩ := foldl_same l _ h2
    rw [h3, h4]; simp
  · have h' : allAs l = false := by simpa using h
    rw [h']
    simp only [decide_eq_false_iff_not]
    intro e
    apply h
    unfold allAs
    rw [List.all_eq_true]
    intro x hx
    have h1 := (foldl_max_ge l (l.headD 0))
    have h2 := (foldl_min_le l (l.headD 0))
    have h3 := h1.2 x hx
    have h4 := h2.2 x hx
    exact decide_eq_true (by omega)
set_option maxHeartbeats 400000 in
theorem Max_any {v : Value} {l : List Int} (w : World) (ha : SlI w v l) (hne : 0 < l.length) :
    Calls Try.prog 143 #[v] w fun e w' => e = .returned (.int .i64 (mxTo l l.length)) ∧ w = w' := by
  obtain ⟨a, c, rfl, hc, hc', hrd⟩ := ha
  unfold maxLen at hc'
  have hm : l.length ≤ 9223372036854775807 := by omega
  have hm1 : ¬ ((l.length : Int) < 1) := by omega
  obtain ⟨b, off, rfl, g0⟩ := hrd.one (i64s_get hne)
  have hh := head_get hne
  rw [hh, Nat.add_zero] at g0
  have e1 : mxTo l 1 = l.headD 0 := by
    cases l with
    | nil => simp at hne
    | cons x l => simp [mxTo]
  obtain ⟨h, hq⟩ : ∃ h : Int, h = l.headD 0 := ⟨_, rfl⟩
  rw [← hq] at g0 e1
  have E1 := Lib.hid e1
  clear hh hc hc' hq e1
  go_enter Try.func143, Try.ntmps143
  go_wp2
  go_loopw [3, 4] (fun m i wr => ∃ j : Nat, 1 ≤ j ∧ j ≤ l.length ∧ i = .int .i64 j ∧ m = .int .i64 (mxTo l j) ∧ wr = w) (fun _ i _ => l.length - (intOf i).toNat)
  case atStart => exact ⟨1, by omega, by omega, rfl, vi E1.out.symm, rfl⟩
  case round =>
    obtain ⟨j, hj1, hj, rfl, rfl, rfl⟩ := hrel
    clear g0
    by_cases hjt : j < l.length
    · have hs := mxTo_succ hjt
      have HS := Lib.hid hs
      obtain ⟨b', off', he, gj⟩ := hrd.one (i64s_get hjt)
      simp at he
      obtain ⟨rfl, rfl⟩ := he
      clear hs
      go_wp2
      go_roundw
      case rel => exact ⟨j + 1, by omega, by omega, by go_num, vi (by rw [HS.out]; split <;> omega), trivial⟩
      case measure => simp [intOf]; omega
    · obtain rfl : j = l.length := by omega
      go_wp2
      go_ret
      exact ⟨rfl, rfl⟩
set_option maxHeartbeats 400000 in
theorem Min_any {v : Value} {l : List Int} (w : World) (ha : SlI w v l) (hne : 0 < l.length) :
    Calls Try.prog 144 #[v] w fun e w' => e = .returned (.int .i64 (mnTo l l.length)) ∧ w = w' := by
  obtain ⟨a, c, rfl, hc, hc', hrd⟩ := ha
  unfold maxLen at hc'
  have hm : l.length ≤ 9223372036854775807 := by omega
  have hm1 : ¬ ((l.length : Int) < 1) := by omega
  obtain ⟨b, off, rfl, g0⟩ := hrd.one (i64s_get hne)
  have hh := head_get hne
  rw [hh, Nat.add_zero] at g0
  have e1 : mnTo l 1 = l.headD 0 := by
    cases l with
    | nil => simp at hne
    | cons x l => simp [mnTo]
  obtain ⟨h, hq⟩ : ∃ h : Int, h = l.headD 0 := ⟨_, rfl⟩
  rw [← hq] at g0 e1
  have E1 := Lib.hid e1
  clear hh hc hc' hq e1
  go_enter Try.func144, Try.ntmps144
  go_wp2
  go_loopw [3, 4] (fun m i wr => ∃ j : Nat, 1 ≤ j ∧ j ≤ l.length ∧ i = .int .i64 j ∧ m = .int .i64 (mnTo l j) ∧ wr = w) (fun _ i _ => l.length - (intOf i).toNat)
  case atStart => exact ⟨1, by omega, by omega, rfl, vi E1.out.symm, rfl⟩
  case round =>
    obtain ⟨j, hj1, hj, rfl, rfl, rfl⟩ := hrel
    clear g0
    by_cases hjt : j < l.length
    · have hs := mnTo_succ hjt
      have HS := Lib.hid hs
      obtain ⟨b', off', he, gj⟩ := hrd.one (i64s_get hjt)
      simp at he
      obtain ⟨rfl, rfl⟩ := he
      clear hs
      go_wp2
      go_roundw
      case rel => exact ⟨j + 1, by omega, by omega, by go_num, vi (by rw [HS.out]; split <;> omega), trivial⟩
      case measure => simp [intOf]; omega
    · obtain rfl : j = l.length := by omega
      go_wp2
      go_ret
      exact ⟨rfl, rfl⟩

theorem allSame_any {v : Value} {l : List Int} (w : World) (ha : SlI w v l) (hne : 0 < l.length) :
    Calls Try.prog 126 #[v] w fun e w' => e = .returned (.bool (allAs l)) ∧ w = w' := by
  have K1 := Lib.hid (Max_any w ha hne)
  have K2 := Lib.hid (Min_any w ha hne)
  obtain ⟨a, c, rfl, _, _, _⟩ := ha
  have hm := allAs_mm l
  have HM := Lib.hid hm
  generalize mxTo l l.length = m1 at K1 HM
  generalize mnTo l l.length = m2 at K2 HM
  have ht : (m1 == m2) = decide (m1 = m2) := by by_cases h : m1 = m2 <;> simp [h]
  have HT := Lib.hid ht
  clear hm ht
  go_enter Try.func126, Try.ntmps126
  go_wp2_with fail
  refine (K1.out).mono ?_
  rintro e w' ⟨rfl, rfl⟩
  go_wp2_with fail
  refine (K2.out).mono ?_
  rintro e w' ⟨rfl, rfl⟩
  go_wp2
  go_ret
  exact ⟨rb (by rw [← HM.out]; exact HT.out), rfl⟩

set_option maxHeartbeats 2000000 in
theorem window_any {v dv : Value} {xss : List (List Int)} {draws : List Int} (s t : Int) (w : World) (ha : SlII w v xss) (hdr : SlI w dv draws) (hv : chainOk s t xss = true) (hdb : DrawsB t draws) :
    Calls Try.prog 89 #[.agg #[.int .i64 s, .int .i64 t, v], dv] w fun e w' => e = .returned (.tuple #[.bool (winMet (runAll xss draws xss.length)), .int .i64 (winState (runAll xss draws xss.length))]) ∧ Below w.heap.size w w' := by
  obtain ⟨⟨hs1, hs2⟩, ht, hls, _⟩ := chainOk_parts0 hv
  obtain ⟨da, dc, rfl, hdc, hdc', hdd⟩ := hdr
  unfold maxLen at hdc'
  have HA := Lib.hid ha
  have HD := Lib.hid hdb
  obtain ⟨a, ca, us, rfl, _, _, _, _, _⟩ := ha
  have bb := chBelow w s t (.slice a xss.length ca)
  have hcb := chBox w s t (.slice a xss.length ca)
  have HC := Lib.hid hcb
  have HBB := Lib.hid bb
  have hn6 : xss.length ≤ 6 := by omega
  have hn1 : 1 ≤ xss.length := by omega
  have hls' : ∃ n : Nat, s = (n : Int) := ⟨xss.length, hls.symm⟩
  have HL := Lib.hid hls
  obtain ⟨n, rfl⟩ : ∃ n : Nat, s = (n : Int) := hls'
  have hnn : n = xss.length := by omega
  have HN := Lib.hid hnn
  clear hls hs1 hs2 hdb hcb bb hnn
  go_enter Try.func89, Try.ntmps89
  go_wp2_with fail
  refine (everyState_any n _ (by have := HN.out; omega)).mono ?_
  rintro e w1 ⟨av, rfl, hown, hb1⟩
  rw [HN.out] at hown
  have hbx := hb1
  rcases hown.forms with ⟨_, h0⟩ | ⟨g, gc, rfl, hg, hg1, hgc, hgc2⟩
  · have := upTo_length xss.length; rw [h0] at this; simp at this; omega
  rw [upTo_length] at hown hgc ⊢
  unfold maxLen at hgc2
  have hg' : w.heap.size + 1 ≤ g := by simpa using hg
  clear hg1 hg hbx
  have hown2 : OwnI w1 (w.heap.size + 1) (.slice (some ⟨g, 0, none⟩) xss.length gc) (upTo xss.length) := hown.lower (by simp)
  have hb2 : Below (w.heap.size + 1) (w.alloc (chObj n t (.slice a xss.length ca))) w1 := hb1.mono (by simp)
  clear hown hb1
  go_wp2
  go_loopw [7] (fun i wr => ∃ k : Nat, k ≤ draws.length ∧ i = .int .i64 ((k : Int) - 1) ∧ OwnI wr (w.heap.size + 1) (.slice (some ⟨g, 0, none⟩) xss.length gc) (runAll xss (draws.drop k) xss.length) ∧ Below (w.heap.size + 1) (w.alloc (chObj n t (.slice a xss.length ca))) wr) (fun i _ => (intOf i + 1).toNat)
  case atStart => exact ⟨draws.length, Nat.le_refl _, by go_num, by simpa [runAll] using hown2, hb2⟩
  case round =>
    clear hown2 hb2
    obtain ⟨k, hk, rfl, hown, hbx⟩ := hrel
    have hbw := (HBB.out).trans (hbx.mono (by omega))
    have hsz1 : w.heap.size + 1 ≤ wr.heap.size := by have := hbx.size; simpa using this
    cases k with
    | zero =>
      rw [show ((0 : Nat) : Int) - 1 = -1 from rfl]
      rw [List.drop_zero] at hown
      have hll := runAll_length xss xss.length draws
      generalize hrun : runAll xss draws xss.length = l at hown hll
      have HRUN := Lib.hid hrun
      clear hrun
      obtain ⟨wo, rfl⟩ : ∃ wo : World, wo = wr := ⟨_, rfl⟩
      have HLL := Lib.hid hll
      have hl0 : 0 < l.length := by omega
      have K := Lib.hid (allSame_any _ hown.sl hl0)
      have g0 := hown.cell (i := 0) hl0
      rw [head_get hl0] at g0
      obtain ⟨h, hq⟩ : ∃ h : Int, h = l.headD 0 := ⟨_, rfl⟩
      rw [← hq] at g0
      have HQ := Lib.hid hq
      have k0 := fun d os => cell_regrown g0 d os
      have i2 : 0 < xss.length := by omega
      clear hown hll hq g0 hl0
      go_wp2_with fail
      refine (K.out).mono ?_
      rintro e w2 ⟨rfl, rfl⟩
      generalize hA : allAs l = A
      have HAA := Lib.hid hA
      clear hA
      cases A
      · clear k0
        go_wp2
        go_ret2
        exact ⟨by rw [HRUN.out]; exact ret_win HAA.out, hbw⟩
      · go_wp2_with fail
        refine wp_region_quiet_below (by kernel_rfl) (by kernel_rfl) ?_
        repeat (first | go_big_quiet_skip | quiet_step (fail))
        refine wpQuiet_nil ?_
        intro _ hw'
        obtain ⟨⟨dq, osq⟩, hw''⟩ := hw'
        subst hw''
        have bq := hbw.trans ((below_regrown wo dq osq).mono hbw.size)
        generalize grow (redrawn wo dq) osq = wq at bq ⊢
        clear k0
        go_wp2
        go_ret2
        rw [HQ.out]
        exact ⟨by rw [HRUN.out]; exact ret_win2 HAA.out, bq⟩
    | succ k =>
      have hkd : ((k + 1 : Nat) : Int) - 1 = (k : Int) := by omega
      rw [hkd]
      have hlk := runAll_length xss xss.length (draws.drop (k + 1))
      have hin := runAll_in hv (draws := draws.drop (k + 1)) (fun x hx => HD.out x (List.mem_of_mem_drop hx))
      have hstep := runAll_drop (xss := xss) (n := xss.length) (k := k) (draws := draws) (by omega)
      have hdk := HD.out draws[k] (List.getElem_mem (by omega))
      generalize runAll xss (draws.drop (k + 1)) xss.length = l at hown hlk hin hstep
      generalize hdd2 : draws[k] = d at hstep hdk
      have HDD := Lib.hid hdd2
      have HS := Lib.hid hstep
      have HLK := Lib.hid hlk
      clear hstep hdd2 hkd
      go_wp2
      go_loopw [22] (fun i wr => ∃ j : Nat, j ≤ xss.length ∧ i = .int .i64 j ∧ OwnI wr (w.heap.size + 1) (.slice (some ⟨g, 0, none⟩) xss.length gc) ((stepAll xss d l).take j ++ l.drop j) ∧ Below (w.heap.size + 1) (w.alloc (chObj n t (.slice a xss.length ca))) wr) (fun i _ => xss.length - (intOf i).toNat)
      case atStart => exact ⟨0, Nat.zero_le _, rfl, by simpa using hown, hbx⟩
      case round =>
        clear hown hbx hbw hsz1
        obtain ⟨j, hj, rfl, hown, hby⟩ := hrel
        have hbr := (HBB.out).trans (hby.mono (by omega))
        have hsz1 : w.heap.size + 1 ≤ wr.heap.size := by have := hby.size; simpa using this
        obtain ⟨_, c0, c1, c2⟩ := (HC.out).below (by simpa using hby)
        simp only [Nat.zero_add] at c0 c1 c2
        have kc0 := fun d os => cell_regrown c0 d os
        have kc1 := fun d os => cell_regrown c1 d os
        have kc2 := fun d os => cell_regrown c2 d os
        clear c0 c1 c2
        by_cases hjt : j < xss.length
        · have hjl : j < l.length := by rw [HLK.out]; exact hjt
          have gc0 := hown.cell (i := j) (by rw [mixLen (by omega)]; exact hjl)
          rw [mixGet hjl] at gc0
          have hx := hin l[j] (List.getElem_mem hjl)
          obtain ⟨y, hy⟩ := Int.eq_ofNat_of_zero_le hx.1
          rw [hy] at gc0 hx
          have HY := Lib.hid hy
          have HO := Lib.hid hown
          have hyl : y < xss.length := by omega
          obtain ⟨db, doff, rfl, gd⟩ := (hdd.below hbr).one (i64s_get (show k < draws.length by omega))
          rw [HDD.out] at gd
          have k1 := fun d os => cell_regrown gc0 d os
          have k2 := fun d os => cell_regrown gd d os
          have i0 : (0 : Int) ≤ (j : Int) := by omega
          have i1 : (j : Int) < (xss.length : Int) := by omega
          have i2 : (0 : Int) ≤ (k : Int) := by omega
          have i3 : (k : Int) < (draws.length : Int) := by omega
          clear hy hown gd
          go_wp2_with fail
          refine wp_region_below_tail 10 (by kernel_rfl) (by kernel_rfl) ?_
          simp only [List.take_succ_cons, List.take_zero, List.drop_succ_cons, List.drop_zero]
          repeat (first | go_big_quiet_skip | quiet_step (exact Calls.regrown_of (stepByDraw_b n t d y _ (((HA.out).below hbr).below (below_regrown _ _ _)) hv hdk hyl)))
          refine wpQuiet_nil ?_
          intro _ hw'
          obtain ⟨⟨dq, osq⟩, hw''⟩ := hw'
          subst hw''
          have bq0 := below_regrown wr dq osq
          have bq := hby.trans (bq0.mono hsz1)
          have howq := (HO.out).below bq0
          clear k1 k2 kc0 kc1 kc2
          generalize grow (redrawn wr dq) osq = wq at bq0 bq howq ⊢
          have gc1 := howq.cell (i := j) (by rw [mixLen (by omega)]; exact hjl)
          have gf := howq.free j
          have own' := howq.set j (nxt xss d l[j])
          rw [mixStep hjl, HY.out] at own'
          have HOwn := Lib.hid own'
          clear own' howq gc0
          go_wp2
          go_roundw
          case rel => exact ⟨j + 1, by omega, by go_num, HOwn.out, bq.setCell hg' _⟩
          case measure => simp [intOf]; omega
        · obtain rfl : j = xss.length := by omega
          have hT : (stepAll xss d l).take xss.length ++ l.drop xss.length = runAll xss (draws.drop k) xss.length := by
            rw [HS.out, List.take_of_length_le (by simp [stepAll]; rw [HLK.out]; exact Nat.le_refl _), List.drop_eq_nil_of_le (by rw [HLK.out]; exact Nat.le_refl _), List.append_nil]
          rw [hT] at hown
          clear hT kc0 kc1 kc2
          go_wp2
          go_roundw
          case rel => exact ⟨k, by omega, by go_num, hown, hby⟩
          case measure => simp [intOf]
end Go.Proofs.Ythheijekdpboaaa
