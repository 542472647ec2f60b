/-
  FnDraws: plain part: how many draws lead to each state, and a run by draws. With it: Windows: all states run through draws from the last to the first. slices.Max, slices.Min, allSame.
-/
import Derived.Test.YtijpkcdalmlaiaaZRowFnPlantPackets6
import Derived.Test.YtijpkcdalmlaiaaZRowFnPlantPackets2
set_option linter.unusedVariables false
set_option linter.unusedSimpArgs false
namespace Go.Proofs.Ytijpkcdalmlaiaa
open Go.RowKit Go.Sort
def nxt (xss : List (List Int)) (d x : Int) : Int := (((toOf (xss.getD x.toNat []) d).getD 0 : Nat) : Int)
def stepAll (xss : List (List Int)) (d : Int) (at' : List Int) : List Int := at'.map (nxt xss d)
def runAll (xss : List (List Int)) (draws : List Int) (n : Nat) : List Int := draws.foldr (stepAll xss) (upTo n)
def DrawsB (t : Int) (draws : List Int) : Prop := ∀ d ∈ draws, 0 ≤ d ∧ d < t
def InN (n : Nat) (l : List Int) : Prop := ∀ x ∈ l, 0 ≤ x ∧ x < n
theorem upTo_in (n : Nat) : InN n (upTo n) := by
  intro x hx
  simp [upTo] at hx
  obtain ⟨i, hi, rfl⟩ := hx
  omega
theorem nxt_spec {s t : Int} {xss : List (List Int)} (h : chainOk s t xss = true) {d : Int} (hd : 0 ≤ d ∧ d < t) {k : Nat} (hk : k < xss.length) :
    ∃ i, toOf xss[k] d = some i ∧ nxt xss d k = (i : Int) ∧ i < xss.length := by
  obtain ⟨hB, hl, hs⟩ := rowB_of h hk
  obtain ⟨h1, h2, h3, h4⟩ := chainOk_parts0 h
  have hne : xss[k] ≠ [] := by intro e; rw [e] at hl; simp at hl; omega
  obtain ⟨i, e1, _, e3⟩ := toFrom_lt xss[k] d 0 0 (by omega) hne (fun x hx => (hB.2 x hx).1)
  refine ⟨i, e1, ?_, by omega⟩
  unfold nxt
  have : xss.getD (k : Int).toNat [] = xss[k] := by simp [hk]
  rw [this]
  unfold toOf
  rw [e1]; rfl
theorem stepAll_in {s t : Int} {xss : List (List Int)} (h : chainOk s t xss = true) {d : Int} (hd : 0 ≤ d ∧ d < t) {l : List Int} (hl : InN xss.length l) : InN xss.length (stepAll xss d l) := by
  intro x hx
  simp [stepAll] at hx
  obtain ⟨y, hy, rfl⟩ := hx
  have hy2 := hl y hy
  obtain ⟨k, rfl⟩ := Int.eq_ofNat_of_zero_le hy2.1
  obtain ⟨i, _, e2, e3⟩ := nxt_spec h hd (k := k) (by omega)
  rw [e2]; omega
theorem runAll_in {s t : Int} {xss : List (List Int)} (h : chainOk s t xss = true) : ∀ {draws : List Int}, DrawsB t draws → InN xss.length (runAll xss draws xss.length)
  | [], _ => upTo_in _
  | d :: ds, hd => stepAll_in h (hd d (by simp)) (runAll_in h (fun x hx => hd x (by simp [hx])))
theorem runAll_length (xss : List (List Int)) (n : Nat) : ∀ draws : List Int, (runAll xss draws n).length = n
  | [] => by simp [runAll, upTo]
  | d :: ds => by
    have := runAll_length xss n ds
    unfold runAll at this ⊢
    simp [stepAll, this]
theorem runAll_drop {xss : List (List Int)} {draws : List Int} {n k : Nat} (hk : k < draws.length) : runAll xss (draws.drop k) n = stepAll xss draws[k] (runAll xss (draws.drop (k + 1)) n) := by
  rw [List.drop_eq_getElem_cons hk]; rfl
theorem mixStep {xss : List (List Int)} {d : Int} {l : List Int} {i : Nat} (hi : i < l.length) :
    ((stepAll xss d l).take i ++ l.drop i).set i (nxt xss d l[i]) = (stepAll xss d l).take (i + 1) ++ l.drop (i + 1) := by
  have h1 : i < (stepAll xss d l).length := by simp [stepAll]; exact hi
  rw [List.set_append_right _ _ (by simp; omega), List.take_succ_eq_append_getElem h1, List.drop_eq_getElem_cons hi, List.append_assoc]
  have e2 : i - ((stepAll xss d l).take i).length = 0 := by simp [stepAll]; omega
  rw [e2, List.set_cons_zero]
  simp [stepAll]
theorem mixGet {xss : List (List Int)} {d : Int} {l : List Int} {i : Nat} (hi : i < l.length) :
    ((stepAll xss d l).take i ++ l.drop i)[i]'(by simp [stepAll]; omega) = l[i] := by
  rw [List.getElem_append_right (by rw [List.length_take]; omega)]
  simp [stepAll, Nat.min_eq_left (Nat.le_of_lt hi)]
theorem mixLen {xss : List (List Int)} {d : Int} {l : List Int} {i : Nat} (hi : i ≤ l.length) : ((stepAll xss d l).take i ++ l.drop i).length = l.length := by
  simp [stepAll]; omega
def allAs (l : List Int) : Bool := l.all fun x => decide (x = l.headD 0)
def winMet (l : List Int) : Bool := allAs l
def winState (l : List Int) : Int := if allAs l = true then l.headD 0 else 0

theorem head_get {l : List Int} (h : 0 < l.length) : l[0] = l.headD 0 := by
  cases l with
  | nil => simp at h
  | cons x l => rfl
theorem head_one {l : List Int} (h : 0 < l.length) : (l.take 1).all (fun x => decide (x = l.headD 0)) = true := by
  cases l with
  | nil => simp at h
  | cons x l => simp
theorem all_succ {l : List Int} {j : Nat} {c : Int} (h : (l.take j).all (fun x => decide (x = c)) = true) (hj : j < l.length) (he : l[j] = c) : (l.take (j + 1)).all (fun x => decide (x = c)) = true := by
  rw [List.take_succ_eq_append_getElem hj, List.all_append, h]; simp [he]
theorem allAs_no {l : List Int} {j : Nat} (hj : j < l.length) (he : ¬ l[j] = l.headD 0) : allAs l = false := by
  unfold allAs
  rw [List.all_eq_false]
  exact ⟨l[j], List.getElem_mem hj, by simpa using he⟩
theorem ret_win {l : List Int} (h : allAs l = false) : Ending.returned (.tuple #[.bool false, .int .i64 0]) = .returned (.tuple #[.bool (winMet l), .int .i64 (winState l)]) := by
  unfold winMet winState; rw [h]; rfl
theorem ret_win2 {l : List Int} (h : allAs l = true) : Ending.returned (.tuple #[.bool true, .int .i64 (l.headD 0)]) = .returned (.tuple #[.bool (winMet l), .int .i64 (winState l)]) := by
  unfold winMet winState; rw [h]; rfl
/-- the class form of the contract of l01To -/
theorem l01To_b {v : Value} {xss : List (List Int)} (b o : Nat) (s t d : Int) (k : Nat) (w : World) (hc : ChainAt w b o s t v) (ha : SlII w v xss) (hv : chainOk s t xss = true) (hd : 0 ≤ d ∧ d < t) (hk : k < xss.length) :
    Calls Try.prog 142 #[.pointer (some ⟨b, o, none⟩), .int .i64 k, .int .i64 d] w fun e w' => e = .returned (.int .i64 (nxt xss d k)) ∧ Below w.heap.size w w' := by
  obtain ⟨hB, hl, _⟩ := rowB_of hv hk
  obtain ⟨i, e1, e2, _⟩ := nxt_spec hv hd hk
  refine (l01To_any b o s t d k w hc ha hk hB hl).mono fun e w' ⟨h1, h2⟩ => ?_
  subst h2
  exact ⟨by rw [h1, e1, e2]; rfl, Below.refl _ _⟩
theorem stepByDraw_b {v : Value} {xss : List (List Int)} (s t d : Int) (k : Nat) (w : World) (ha : SlII w v xss) (hv : chainOk s t xss = true) (hd : 0 ≤ d ∧ d < t) (hk : k < xss.length) :
    Calls Try.prog 139 #[.agg #[.int .i64 s, .int .i64 t, v], .int .i64 k, .int .i64 d] w fun e w' => e = .returned (.int .i64 (nxt xss d k)) ∧ Below w.heap.size w w' := by
  obtain ⟨hB, hl, _⟩ := rowB_of hv hk
  obtain ⟨i, e1, e2, _⟩ := nxt_spec hv hd hk
  refine (stepByDraw_any s t d k w ha hk hB).mono fun e w' ⟨h1, h2⟩ => ?_
  exact ⟨by rw [h1, e1, e2]; rfl, h2⟩
set_option maxHeartbeats 2000000 in
theorem l09Window_any {v dv : Value} {xss : List (List Int)} {draws : List Int} (b o : Nat) (s t : Int) (w : World) (hc : ChainAt w b o s t v) (ha : SlII w v xss) (hdr : SlI w dv draws) (hv : chainOk s t xss = true) (hdb : DrawsB t draws) :
    Calls Try.prog 135 #[.pointer (some ⟨b, o, none⟩), dv] w fun e w' => e = .returned (.tuple #[.bool (winMet (runAll xss draws xss.length)), .int .i64 (winState (runAll xss draws xss.length))]) ∧ Below w.heap.size w w' := by
  obtain ⟨⟨hs1, hs2⟩, ht, hls, _⟩ := chainOk_parts0 hv
  obtain ⟨da, dc, rfl, hdc, hdc', hdd⟩ := hdr
  unfold maxLen at hdc'
  have HC := Lib.hid hc
  have HA := Lib.hid ha
  have HD := Lib.hid hdb
  obtain ⟨c00, c0, _, _⟩ := hc
  have hn6 : xss.length ≤ 6 := by omega
  have hn1 : 1 ≤ xss.length := by omega
  have HL := Lib.hid hls
  rw [← hls] at c0
  clear hls hs1 hs2 hdb ha
  go_enter Try.func135, Try.ntmps135
  go_wp2_with fail
  refine (l02All_any xss.length _ (by omega)).mono ?_
  rintro e w1 ⟨av, rfl, hown, hb1⟩
  rcases hown.forms with ⟨_, h0⟩ | ⟨g, gc, rfl, hg, hg1, hgc, hgc2⟩
  · have := upTo_length xss.length; rw [h0] at this; simp at this; omega
  rw [upTo_length] at hown hgc ⊢
  unfold maxLen at hgc2
  clear hg1
  go_wp2
  go_loopw [7] (fun i wr => ∃ k : Nat, k ≤ draws.length ∧ i = .int .i64 ((k : Int) - 1) ∧ OwnI wr w.heap.size (.slice (some ⟨g, 0, none⟩) xss.length gc) (runAll xss (draws.drop k) xss.length) ∧ Below w.heap.size w wr) (fun i _ => (intOf i + 1).toNat)
  case atStart => exact ⟨draws.length, Nat.le_refl _, by go_num, by simpa [runAll] using hown, hb1⟩
  case round =>
    clear hown hb1
    obtain ⟨k, hk, rfl, hown, hbw⟩ := hrel
    cases k with
    | zero =>
      rw [show ((0 : Nat) : Int) - 1 = -1 from rfl]
      rw [List.drop_zero] at hown
      have hll := runAll_length xss xss.length draws
      generalize hrun : runAll xss draws xss.length = l at hown hll
      have HRUN := Lib.hid hrun
      clear hrun
      obtain ⟨wo, rfl⟩ : ∃ wo : World, wo = wr := ⟨_, rfl⟩
      have HO := Lib.hid hown
      have HLL := Lib.hid hll
      clear hown hll
      obtain ⟨h, hh⟩ : ∃ h : Int, h = l.headD 0 := ⟨_, rfl⟩
      have HH := Lib.hid hh
      clear hh
      go_wp2
      go_loopw [9] (fun i wr => ∃ j : Nat, 1 ≤ j ∧ j ≤ xss.length ∧ i = .int .i64 j ∧ (l.take j).all (fun x => decide (x = h)) = true ∧ Below wo.heap.size wo wr) (fun i _ => xss.length - (intOf i).toNat)
      case atStart => exact ⟨1, by omega, by omega, rfl, by rw [HH.out]; exact head_one (by rw [HLL.out]; omega), Below.refl _ _⟩
      case round =>
        obtain ⟨j, hj1, hj, rfl, hall, hbr⟩ := hrel
        have HAL := Lib.hid hall
        have howr := (HO.out).below hbr
        have g0 := howr.cell (i := 0) (by rw [HLL.out]; omega)
        have hh : l[0]'(by rw [HLL.out]; omega) = l.headD 0 := head_get (by rw [HLL.out]; omega)
        rw [hh, ← HH.out] at g0
        have k0 := fun d os => cell_regrown g0 d os
        have bw := Below.trans hbw (hbr.mono hbw.size)
        clear hall hh
        by_cases hjt : j < xss.length
        · have hjl : j < l.length := by rw [HLL.out]; exact hjt
          have gj := howr.cell (i := j) hjl
          have kj := fun d os => cell_regrown gj d os
          have i0 : (0 : Int) ≤ (j : Int) := by omega
          have i1 : (j : Int) < (xss.length : Int) := by omega
          have i2 : (0 : Int) < (xss.length : Int) := by omega
          have i2n : 0 < xss.length := by omega
          clear howr
          go_wp2_with fail
          refine wp_region_quiet_below (by kernel_rfl) (by kernel_rfl) ?_
          repeat (first | go_big_quiet_skip | quiet_step (fail))
          refine wpQuiet_nil ?_
          intro _ hw'
          obtain ⟨⟨dq, osq⟩, hw''⟩ := hw'
          subst hw''
          have bq := hbr.trans ((below_regrown wr dq osq).mono hbr.size)
          generalize grow (redrawn wr dq) osq = wq at bq ⊢
          clear k0 kj g0 gj
          by_cases he : l[j] = h
          · have ht : (l[j] != h) = false := by simp [he]
            have HE := Lib.hid he
            clear he
            go_wp2
            go_roundw
            case rel => exact ⟨j + 1, by omega, by omega, by go_num, all_succ HAL.out hjl HE.out, bq⟩
            case measure => simp [intOf]; omega
          · have ht : (l[j] != h) = true := by simp [he]
            have HE := Lib.hid he
            clear he
            go_wp2
            go_ret2
            exact ⟨by rw [HRUN.out]; exact ret_win (allAs_no hjl (by rw [← HH.out]; exact HE.out)), Below.trans hbw (bq.mono hbw.size)⟩
        · obtain rfl : j = xss.length := by omega
          have i2 : (0 : Int) < (xss.length : Int) := by omega
          have i2n : 0 < xss.length := by omega
          clear howr
          go_wp2_with fail
          refine wp_region_quiet_below (by kernel_rfl) (by kernel_rfl) ?_
          repeat (first | go_big_quiet_skip | quiet_step (fail))
          refine wpQuiet_nil ?_
          intro _ hw'
          obtain ⟨⟨dq, osq⟩, hw''⟩ := hw'
          subst hw''
          have bq := hbr.trans ((below_regrown wr dq osq).mono hbr.size)
          generalize grow (redrawn wr dq) osq = wq at bq ⊢
          clear k0 g0
          go_wp2
          go_ret2
          rw [HH.out]
          exact ⟨by rw [HRUN.out]; exact ret_win2 (by unfold allAs; have := HAL.out; rw [HH.out] at this; rwa [List.take_of_length_le (by rw [HLL.out]; exact Nat.le_refl _)] at this), Below.trans hbw (bq.mono hbw.size)⟩
    | succ k =>
      have hkd : ((k + 1 : Nat) : Int) - 1 = (k : Int) := by omega
      rw [hkd]
      have hlk := runAll_length xss xss.length (draws.drop (k + 1))
      have hin := runAll_in hv (draws := draws.drop (k + 1)) (fun x hx => HD.out x (List.mem_of_mem_drop hx))
      have hstep := runAll_drop (xss := xss) (n := xss.length) (k := k) (draws := draws) (by omega)
      have hdk := HD.out draws[k] (List.getElem_mem (by omega))
      generalize runAll xss (draws.drop (k + 1)) xss.length = l at hown hlk hin hstep
      generalize hdd2 : draws[k] = d at hstep hdk
      have HDD := Lib.hid hdd2
      have HS := Lib.hid hstep
      have HLK := Lib.hid hlk
      clear hstep hdd2 hkd
      go_wp2
      go_loopw [8] (fun i wr => ∃ j : Nat, j ≤ xss.length ∧ i = .int .i64 j ∧ OwnI wr w.heap.size (.slice (some ⟨g, 0, none⟩) xss.length gc) ((stepAll xss d l).take j ++ l.drop j) ∧ Below w.heap.size w wr) (fun i _ => xss.length - (intOf i).toNat)
      case atStart => exact ⟨0, Nat.zero_le _, rfl, by simpa using hown, hbw⟩
      case round =>
        clear hown hbw
        obtain ⟨j, hj, rfl, hown, hbr⟩ := hrel
        by_cases hjt : j < xss.length
        · have hjl : j < l.length := by rw [HLK.out]; exact hjt
          have gc0 := hown.cell (i := j) (by rw [mixLen (by omega)]; exact hjl)
          rw [mixGet hjl] at gc0
          have hx := hin l[j] (List.getElem_mem hjl)
          obtain ⟨y, hy⟩ := Int.eq_ofNat_of_zero_le hx.1
          rw [hy] at gc0 hx
          have HY := Lib.hid hy
          have HO := Lib.hid hown
          have hyl : y < xss.length := by omega
          obtain ⟨db, doff, rfl, gd⟩ := (hdd.below hbr).one (i64s_get (show k < draws.length by omega))
          rw [HDD.out] at gd
          have k1 := fun d os => cell_regrown gc0 d os
          have k2 := fun d os => cell_regrown gd d os
          have i0 : (0 : Int) ≤ (j : Int) := by omega
          have i1 : (j : Int) < (xss.length : Int) := by omega
          have i2 : (0 : Int) ≤ (k : Int) := by omega
          have i3 : (k : Int) < (draws.length : Int) := by omega
          clear hy hown gd
          go_wp2_with fail
          refine wp_region_below_tail 13 (by kernel_rfl) (by kernel_rfl) ?_
          simp only [List.take_succ_cons, List.take_zero, List.drop_succ_cons, List.drop_zero]
          repeat (first | go_big_quiet_skip | quiet_step (exact Calls.regrown_of (l01To_b b o s t d y _ (((HC.out).below hbr).below (below_regrown _ _ _)) (((HA.out).below hbr).below (below_regrown _ _ _)) hv hdk hyl)))
          refine wpQuiet_nil ?_
          intro _ hw'
          obtain ⟨⟨dq, osq⟩, hw''⟩ := hw'
          subst hw''
          have bq0 := below_regrown wr dq osq
          have bq := hbr.trans (bq0.mono hbr.size)
          have howq := (HO.out).below bq0
          clear k1 k2
          generalize grow (redrawn wr dq) osq = wq at bq0 bq howq ⊢
          have gc1 := howq.cell (i := j) (by rw [mixLen (by omega)]; exact hjl)
          have gf := howq.free j
          have own' := howq.set j (nxt xss d l[j])
          rw [mixStep hjl, HY.out] at own'
          have HOwn := Lib.hid own'
          clear own' howq gc0
          go_wp2
          go_roundw
          case rel => exact ⟨j + 1, by omega, by go_num, HOwn.out, bq.setCell hg _⟩
          case measure => simp [intOf]; omega
        · obtain rfl : j = xss.length := by omega
          have hT : (stepAll xss d l).take xss.length ++ l.drop xss.length = runAll xss (draws.drop k) xss.length := by
            rw [HS.out, List.take_of_length_le (by simp [stepAll]; rw [HLK.out]; exact Nat.le_refl _), List.drop_eq_nil_of_le (by rw [HLK.out]; exact Nat.le_refl _), List.append_nil]
          rw [hT] at hown
          clear hT
          go_wp2
          go_roundw
          case rel => exact ⟨k, by omega, by go_num, hown, hbr⟩
          case measure => simp [intOf]
end Go.Proofs.Ytijpkcdalmlaiaa
namespace Go.Proofs.Ytijpkcdalmlaiaa
open Go.RowKit Go.Sort
def mxTo (l : List Int) (j : Nat) : Int := (l.take j).foldl max (l.headD 0)
def mnTo (l : List Int) (j : Nat) : Int := (l.take j).foldl min (l.headD 0)
theorem mxTo_succ {l : List Int} {j : Nat} (hj : j < l.length) : mxTo l (j + 1) = max (mxTo l j) l[j] := by
  unfold mxTo; rw [List.take_succ_eq_append_getElem hj, List.foldl_append]; rfl
theorem mnTo_succ {l : List Int} {j : Nat} (hj : j < l.length) : mnTo l (j + 1) = min (mnTo l j) l[j] := by
  unfold mnTo; rw [List.take_succ_eq_append_getElem hj, List.foldl_append]; rfl
theorem foldl_max_ge : ∀ (l : List Int) (a : Int), a ≤ l.foldl max a ∧ ∀ x ∈ l, x ≤ l.foldl max a
  | [], a => ⟨Int.le_refl _, by simp⟩
  | y :: l, a => by
    obtain ⟨h1, h2⟩ := foldl_max_ge l (max a y)
    rw [List.foldl_cons]
    refine ⟨by omega, fun x hx => ?_⟩
    simp at hx
    rcases hx with rfl | hx
    · omega
    · exact h2 x hx
theorem foldl_min_le : ∀ (l : List Int) (a : Int), l.foldl min a ≤ a ∧ ∀ x ∈ l, l.foldl min a ≤ x
  | [], a => ⟨Int.le_refl _, by simp⟩
  | y :: l, a => by
    obtain ⟨h1, h2⟩ := foldl_min_le l (min a y)
    rw [List.foldl_cons]
    refine ⟨by omega, fun x hx => ?_⟩
    simp at hx
    rcases hx with rfl | hx
    · omega
    · exact h2 x hx
theorem foldl_same : ∀ (l : List Int) (a : Int), (∀ x ∈ l, x = a) → l.foldl max a = a ∧ l.foldl min a = a
  | [], _, _ => ⟨rfl, rfl⟩
  | y :: l, a, h => by
    have hy : y = a := h y (by simp)
    subst hy
    have := foldl_same l y (fun x hx => h x (by simp [hx]))
    simpa using this
theorem allAs_mm (l : List Int) : decide (mxTo l l.length = mnTo l l.length) = allAs l := by
  unfold mxTo mnTo
  rw [List.take_length]
  by_cases h : allAs l = true
  · rw [h]
    have h2 : ∀ x ∈ l, x = l.headD 0 := by
      intro x hx
      unfold allAs at h
      rw [List.all_eq_true] at h
      simpa using h x hx
    obtain ⟨h3, h4⟩ := foldl_same l _ h2
    rw [h3, h4]; simp
  · have h' : allAs l = false := by simpa using h
    rw [h']
    simp only [decide_eq_false_iff_not]
    intro e
    apply h
    unfold allAs
    rw [List.all_eq_true]
    intro x hx
    have h1 := (foldl_max_ge l (l.headD 0))
    have h2 := (foldl_min_le l (l.headD 0))
    have h3 := h1.2 x hx
    have h4 := h2.2 x hx
    exact decide_eq_true (by omega)
set_option maxHeartbeats 400000 in
theorem Max_any {v : Value} {l : List Int} (w : World) (ha : SlI w v l) (hne : 0 < l.length) :
    Calls Try.prog 143 #[v] w fun e w' => e = .returned (.int .i64 (mxTo l l.length)) ∧ w = w' := by
  obtain ⟨a, c, rfl, hc, hc', hrd⟩ := ha
  unfold maxLen at hc'
  have hm : l.length ≤ 9223372036854775807 := by omega
  have hm1 : ¬ ((l.length : Int) < 1) := by omega
  obtain ⟨b, off, rfl, g0⟩ := hrd.one (i64s_get hne)
  have hh := head_get hne
  rw [hh, Nat.add_zero] at g0
  have e1 : mxTo l 1 = l.headD 0 := by
    cases l with
    | nil => simp at hne
    | cons x l => simp [mxTo]
  obtain ⟨h, hq⟩ : ∃ h : Int, h = l.headD 0 := ⟨_, rfl⟩
  rw [← hq] at g0 e1
  have E1 := Lib.hid e1
  clear hh hc hc' hq e1
  go_enter Try.func143, Try.ntmps143
  go_wp2
  go_loopw [3, 4] (fun m i wr => ∃ j : Nat, 1 ≤ j ∧ j ≤ l.length ∧ i = .int .i64 j ∧ m = .int .i64 (mxTo l j) ∧ wr = w) (fun _ i _ => l.length - (intOf i).toNat)
  case atStart => exact ⟨1, by omega, by omega, rfl, vi E1.out.symm, rfl⟩
  case round =>
    obtain ⟨j, hj1, hj, rfl, rfl, rfl⟩ := hrel
    clear g0
    by_cases hjt : j < l.length
    · have hs := mxTo_succ hjt
      have HS := Lib.hid hs
      obtain ⟨b', off', he, gj⟩ := hrd.one (i64s_get hjt)
      simp at he
      obtain ⟨rfl, rfl⟩ := he
      clear hs
      go_wp2
      go_roundw
      case rel => exact ⟨j + 1, by omega, by omega, by go_num, vi (by rw [HS.out]; split <;> omega), trivial⟩
      case measure => simp [intOf]; omega
    · obtain rfl : j = l.length := by omega
      go_wp2
      go_ret
      exact ⟨rfl, rfl⟩
set_option maxHeartbeats 400000 in
theorem Min_any {v : Value} {l : List Int} (w : World) (ha : SlI w v l) (hne : 0 < l.length) :
    Calls Try.prog 144 #[v] w fun e w' => e = .returned (.int .i64 (mnTo l l.length)) ∧ w = w' := by
  obtain ⟨a, c, rfl, hc, hc', hrd⟩ := ha
  unfold maxLen at hc'
  have hm : l.length ≤ 9223372036854775807 := by omega
  have hm1 : ¬ ((l.length : Int) < 1) := by omega
  obtain ⟨b, off, rfl, g0⟩ := hrd.one (i64s_get hne)
  have hh := head_get hne
  rw [hh, Nat.add_zero] at g0
  have e1 : mnTo l 1 = l.headD 0 := by
    cases l with
    | nil => simp at hne
    | cons x l => simp [mnTo]
  obtain ⟨h, hq⟩ : ∃ h : Int, h = l.headD 0 := ⟨_, rfl⟩
  rw [← hq] at g0 e1
  have E1 := Lib.hid e1
  clear hh hc hc' hq e1
  go_enter Try.func144, Try.ntmps144
  go_wp2
  go_loopw [3, 4] (fun m i wr => ∃ j : Nat, 1 ≤ j ∧ j ≤ l.length ∧ i = .int .i64 j ∧ m = .int .i64 (mnTo l j) ∧ wr = w) (fun _ i _ => l.length - (intOf i).toNat)
  case atStart => exact ⟨1, by omega, by omega, rfl, vi E1.out.symm, rfl⟩
  case round =>
    obtain ⟨j, hj1, hj, rfl, rfl, rfl⟩ := hrel
    clear g0
    by_cases hjt : j < l.length
    · have hs := mnTo_succ hjt
      have HS := Lib.hid hs
      obtain ⟨b', off', he, gj⟩ := hrd.one (i64s_get hjt)
      simp at he
      obtain ⟨rfl, rfl⟩ := he
      clear hs
      go_wp2
      go_roundw
      case rel => exact ⟨j + 1, by omega, by omega, by go_num, vi (by rw [HS.out]; split <;> omega), trivial⟩
      case measure => simp [intOf]; omega
    · obtain rfl : j = l.length := by omega
      go_wp2
      go_ret
      exact ⟨rfl, rfl⟩

theorem allSame_any {v : Value} {l : List Int} (w : World) (ha : SlI w v l) (hne : 0 < l.length) :
    Calls Try.prog 140 #[v] w fun e w' => e = .returned (.bool (allAs l)) ∧ w = w' := by
  have K1 := Lib.hid (Max_any w ha hne)
  have K2 := Lib.hid (Min_any w ha hne)
  obtain ⟨a, c, rfl, _, _, _⟩ := ha
  have hm := allAs_mm l
  have HM := Lib.hid hm
  generalize mxTo l l.length = m1 at K1 HM
  generalize mnTo l l.length = m2 at K2 HM
  have ht : (m1 == m2) = decide (m1 = m2) := by by_cases h : m1 = m2 <;> simp [h]
  have HT := Lib.hid ht
  clear hm ht
  go_enter Try.func140, Try.ntmps140
  go_wp2_with fail
  refine (K1.out).mono ?_
  rintro e w' ⟨rfl, rfl⟩
  go_wp2_with fail
  refine (K2.out).mono ?_
  rintro e w' ⟨rfl, rfl⟩
  go_wp2
  go_ret
  exact ⟨rb (by rw [← HM.out]; exact HT.out), rfl⟩

set_option maxHeartbeats 2000000 in
theorem window_any {v dv : Value} {xss : List (List Int)} {draws : List Int} (s t : Int) (w : World) (ha : SlII w v xss) (hdr : SlI w dv draws) (hv : chainOk s t xss = true) (hdb : DrawsB t draws) :
    Calls Try.prog 129 #[.agg #[.int .i64 s, .int .i64 t, v], dv] w fun e w' => e = .returned (.tuple #[.bool (winMet (runAll xss draws xss.length)), .int .i64 (winState (runAll xss draws xss.length))]) ∧ Below w.heap.size w w' := by
  obtain ⟨⟨hs1, hs2⟩, ht, hls, _⟩ := chainOk_parts0 hv
  obtain ⟨da, dc, rfl, hdc, hdc', hdd⟩ := hdr
  unfold maxLen at hdc'
  have HA := Lib.hid ha
  have HD := Lib.hid hdb
  obtain ⟨a, ca, us, rfl, _, _, _, _, _⟩ := ha
  have bb := chBelow w s t (.slice a xss.length ca)
  have hcb := chBox w s t (.slice a xss.length ca)
  have HC := Lib.hid hcb
  have HBB := Lib.hid bb
  have hn6 : xss.length ≤ 6 := by omega
  have hn1 : 1 ≤ xss.length := by omega
  have hls' : ∃ n : Nat, s = (n : Int) := ⟨xss.length, hls.symm⟩
  have HL := Lib.hid hls
  obtain ⟨n, rfl⟩ : ∃ n : Nat, s = (n : Int) := hls'
  have hnn : n = xss.length := by omega
  have HN := Lib.hid hnn
  clear hls hs1 hs2 hdb hcb bb hnn
  go_enter Try.func129, Try.ntmps129
  go_wp2_with fail
  refine (everyState_any n _ (by have := HN.out; omega)).mono ?_
  rintro e w1 ⟨av, rfl, hown, hb1⟩
  rw [HN.out] at hown
  have hbx := hb1
  rcases hown.forms with ⟨_, h0⟩ | ⟨g, gc, rfl, hg, hg1, hgc, hgc2⟩
  · have := upTo_length xss.length; rw [h0] at this; simp at this; omega
  rw [upTo_length] at hown hgc ⊢
  unfold maxLen at hgc2
  have hg' : w.heap.size + 1 ≤ g := by simpa using hg
  clear hg1 hg hbx
  have hown2 : OwnI w1 (w.heap.size + 1) (.slice (some ⟨g, 0, none⟩) xss.length gc) (upTo xss.length) := hown.lower (by simp)
  have hb2 : Below (w.heap.size + 1) (w.alloc (chObj n t (.slice a xss.length ca))) w1 := hb1.mono (by simp)
  clear hown hb1
  go_wp2
  go_loopw [7] (fun i wr => ∃ k : Nat, k ≤ draws.length ∧ i = .int .i64 ((k : Int) - 1) ∧ OwnI wr (w.heap.size + 1) (.slice (some ⟨g, 0, none⟩) xss.length gc) (runAll xss (draws.drop k) xss.length) ∧ Below (w.heap.size + 1) (w.alloc (chObj n t (.slice a xss.length ca))) wr) (fun i _ => (intOf i + 1).toNat)
  case atStart => exact ⟨draws.length, Nat.le_refl _, by go_num, by simpa [runAll] using hown2, hb2⟩
  case round =>
    clear hown2 hb2
    obtain ⟨k, hk, rfl, hown, hbx⟩ := hrel
    have hbw := (HBB.out).trans (hbx.mono (by omega))
    have hsz1 : w.heap.size + 1 ≤ wr.heap.size := by have := hbx.size; simpa using this
    cases k with
    | zero =>
      rw [show ((0 : Nat) : Int) - 1 = -1 from rfl]
      rw [List.drop_zero] at hown
      have hll := runAll_length xss xss.length draws
      generalize hrun : runAll xss draws xss.length = l at hown hll
      have HRUN := Lib.hid hrun
      clear hrun
      obtain ⟨wo, rfl⟩ : ∃ wo : World, wo = wr := ⟨_, rfl⟩
      have HLL := Lib.hid hll
      have hl0 : 0 < l.length := by omega
      have K := Lib.hid (allSame_any _ hown.sl hl0)
      have g0 := hown.cell (i := 0) hl0
      rw [head_get hl0] at g0
      obtain ⟨h, hq⟩ : ∃ h : Int, h = l.headD 0 := ⟨_, rfl⟩
      rw [← hq] at g0
      have HQ := Lib.hid hq
      have k0 := fun d os => cell_regrown g0 d os
      have i2 : 0 < xss.length := by omega
      clear hown hll hq g0 hl0
      go_wp2_with fail
      refine (K.out).mono ?_
      rintro e w2 ⟨rfl, rfl⟩
      generalize hA : allAs l = A
      have HAA := Lib.hid hA
      clear hA
      cases A
      · clear k0
        go_wp2
        go_ret2
        exact ⟨by rw [HRUN.out]; exact ret_win HAA.out, hbw⟩
      · go_wp2_with fail
        refine wp_region_quiet_below (by kernel_rfl) (by kernel_rfl) ?_
        repeat (first | go_big_quiet_skip | quiet_step (fail))
        refine wpQuiet_nil ?_
        intro _ hw'
        obtain ⟨⟨dq, osq⟩, hw''⟩ := hw'
        subst hw''
        have bq := hbw.trans ((below_regrown wo dq osq).mono hbw.size)
        generalize grow (redrawn wo dq) osq = wq at bq ⊢
        clear k0
        go_wp2
        go_ret2
        rw [HQ.out]
        exact ⟨by rw [HRUN.out]; exact ret_win2 HAA.out, bq⟩
    | succ k =>
      have hkd : ((k + 1 : Nat) : Int) - 1 = (k : Int) := by omega
      rw [hkd]
      have hlk := runAll_length xss xss.length (draws.drop (k + 1))
      have hin := runAll_in hv (draws := draws.drop (k + 1)) (fun x hx => HD.out x (List.mem_of_mem_drop hx))
      have hstep := runAll_drop (xss := xss) (n := xss.length) (k := k) (draws := draws) (by omega)
      have hdk := HD.out draws[k] (List.getElem_mem (by omega))
      generalize runAll xss (draws.drop (k + 1)) xss.length = l at hown hlk hin hstep
      generalize hdd2 : draws[k] = d at hstep hdk
      have HDD := Lib.hid hdd2
      have HS := Lib.hid hstep
      have HLK := Lib.hid hlk
      clear hstep hdd2 hkd
      go_wp2
      go_loopw [22] (fun i wr => ∃ j : Nat, j ≤ xss.length ∧ i = .int .i64 j ∧ OwnI wr (w.heap.size + 1) (.slice (some ⟨g, 0, none⟩) xss.length gc) ((stepAll xss d l).take j ++ l.drop j) ∧ Below (w.heap.size + 1) (w.alloc (chObj n t (.slice a xss.length ca))) wr) (fun i _ => xss.length - (intOf i).toNat)
      case atStart => exact ⟨0, Nat.zero_le _, rfl, by simpa using hown, hbx⟩
      case round =>
        clear hown hbx hbw hsz1
        obtain ⟨j, hj, rfl, hown, hby⟩ := hrel
        have hbr := (HBB.out).trans (hby.mono (by omega))
        have hsz1 : w.heap.size + 1 ≤ wr.heap.size := by have := hby.size; simpa using this
        obtain ⟨_, c0, c1, c2⟩ := (HC.out).below (by simpa using hby)
        simp only [Nat.zero_add] at c0 c1 c2
        have kc0 := fun d os => cell_regrown c0 d os
        have kc1 := fun d os => cell_regrown c1 d os
        have kc2 := fun d os => cell_regrown c2 d os
        clear c0 c1 c2
        by_cases hjt : j < xss.length
        · have hjl : j < l.length := by rw [HLK.out]; exact hjt
          have gc0 := hown.cell (i := j) (by rw [mixLen (by omega)]; exact hjl)
          rw [mixGet hjl] at gc0
          have hx := hin l[j] (List.getElem_mem hjl)
          obtain ⟨y, hy⟩ := Int.eq_ofNat_of_zero_le hx.1
          rw [hy] at gc0 hx
          have HY := Lib.hid hy
          have HO := Lib.hid hown
          have hyl : y < xss.length := by omega
          obtain ⟨db, doff, rfl, gd⟩ := (hdd.below hbr).one (i64s_get (show k < draws.length by omega))
          rw [HDD.out] at gd
          have k1 := fun d os => cell_regrown gc0 d os
          have k2 := fun d os => cell_regrown gd d os
          have i0 : (0 : Int) ≤ (j : Int) := by omega
          have i1 : (j : Int) < (xss.length : Int) := by omega
          have i2 : (0 : Int) ≤ (k : Int) := by omega
          have i3 : (k : Int) < (draws.length : Int) := by omega
          clear hy hown gd
          go_wp2_with fail
          refine wp_region_below_tail 10 (by kernel_rfl) (by kernel_rfl) ?_
          simp only [List.take_succ_cons, List.take_zero, List.drop_succ_cons, List.drop_zero]
          repeat (first | go_big_quiet_skip | quiet_step (exact Calls.regrown_of (stepByDraw_b n t d y _ (((HA.out).below hbr).below (below_regrown _ _ _)) hv hdk hyl)))
          refine wpQuiet_nil ?_
          intro _ hw'
          obtain ⟨⟨dq, osq⟩, hw''⟩ := hw'
          subst hw''
          have bq0 := below_regrown wr dq osq
          have bq := hby.trans (bq0.mono hsz1)
          have howq := (HO.out).below bq0
          clear k1 k2 kc0 kc1 kc2
          generalize grow (redrawn wr dq) osq = wq at bq0 bq howq ⊢
          have gc1 := howq.cell (i := j) (by rw [mixLen (by omega)]; exact hjl)
          have gf := howq.free j
          have own' := howq.set j (nxt xss d l[j])
          rw [mixStep hjl, HY.out] at own'
          have HOwn := Lib.hid own'
          clear own' howq gc0
          go_wp2
          go_roundw
          case rel => exact ⟨j + 1, by omega, by go_num, HOwn.out, bq.setCell hg' _⟩
          case measure => simp [intOf]; omega
        · obtain rfl : j = xss.length := by omega
          have hT : (stepAll xss d l).take xss.length ++ l.drop xss.length = runAll xss (draws.drop k) xss.length := by
            rw [HS.out, List.take_of_length_le (by simp [stepAll]; rw [HLK.out]; exact Nat.le_refl _), List.drop_eq_nil_of_le (by rw [HLK.out]; exact Nat.le_refl _), List.append_nil]
          rw [hT] at hown
          clear hT kc0 kc1 kc2
          go_wp2
          go_roundw
          case rel => exact ⟨k, by omega, by go_num, hown, hby⟩
          case measure => simp [intOf]
end Go.Proofs.Ytijpkcdalmlaiaa
namespace Go.Proofs.Ytijpkcdalmlaiaa
open Go.RowKit Go.Sort
theorem gD_at {α : Type} {l : List α} {k : Nat} {d : α} (h : k < l.length) : l.getD k d = l[k] := by
  rw [List.getD_eq_getElem?_getD, List.getElem?_eq_getElem h]; rfl
theorem toFrom_at : ∀ (r : List Int) (d q : Int) (k i : Nat), q ≤ d → toFrom r d q k = some i → k ≤ i ∧ i - k < r.length ∧ q + (r.take (i - k)).sum ≤ d ∧ d < q + (r.take (i - k + 1)).sum
  | [], _, _, _, _, _, h => by simp [toFrom] at h
  | x :: r, d, q, k, i, hq, h => by
    unfold toFrom at h
    split at h
    · rename_i hlt
      simp at h
      subst h
      simp
      omega
    · rename_i hge
      obtain ⟨h1, h2, h3, h4⟩ := toFrom_at r d (q + x) (k + 1) i (by omega) h
      obtain ⟨j, rfl⟩ : ∃ j, i = k + 1 + j := ⟨i - (k + 1), by omega⟩
      have e1 : k + 1 + j - (k + 1) = j := by omega
      have e2 : k + 1 + j - k = j + 1 := by omega
      rw [e1] at h2 h3 h4
      rw [e2]
      simp only [List.take_succ_cons, List.sum_cons, List.length_cons]
      omega
theorem take_mono {r : List Int} (h : ∀ x ∈ r, 0 ≤ x) : ∀ {a b : Nat}, a ≤ b → (r.take a).sum ≤ (r.take b).sum := by
  intro a b hab
  obtain ⟨c, rfl⟩ : ∃ c, b = a + c := ⟨b - a, by omega⟩
  clear hab
  induction c with
  | zero => exact Int.le_refl _
  | succ c ih =>
    by_cases hl : a + c < r.length
    · have := sum_succ (r := r) hl
      have h2 := h _ (List.getElem_mem hl)
      rw [show a + (c + 1) = a + c + 1 by omega, this]
      omega
    · rw [List.take_of_length_le (show r.length ≤ a + (c + 1) by omega)]
      rw [List.take_of_length_le (show r.length ≤ a + c by omega)] at ih
      exact ih
/-- how many of the first n draws lead to each state -/
def cntD (r : List Int) : Nat → List Int
  | 0 => List.replicate r.length 0
  | n + 1 => (cntD r n).set ((toOf r n).getD 0) ((cntD r n).getD ((toOf r n).getD 0) 0 + 1)
theorem cntD_len (r : List Int) : ∀ n, (cntD r n).length = r.length
  | 0 => by simp [cntD]
  | n + 1 => by unfold cntD; rw [List.length_set, cntD_len r n]
theorem cntD_get {r : List Int} (h : ∀ x ∈ r, 0 ≤ x) (hne : r ≠ []) : ∀ (n : Nat), (n : Int) ≤ r.sum → ∀ j (hj : j < r.length), (cntD r n).getD j 0 = max 0 (min ((n : Int) - (r.take j).sum) r[j])
  | 0, _, j, hj => by
    have hz : (cntD r 0).getD j 0 = 0 := by
      unfold cntD
      rw [List.getD_eq_getElem?_getD, List.getElem?_replicate]
      split <;> rfl
    rw [hz]
    have := take_mono h (Nat.zero_le j)
    simp at this
    simp
    omega
  | n + 1, hs, j, hj => by
    have ih := cntD_get h hne n (by omega) j hj
    obtain ⟨i, hi, _, hil⟩ := toFrom_lt r (n : Int) 0 0 (by omega) hne h
    have hto : toOf r n = some i := hi
    obtain ⟨_, _, h3, h4⟩ := toFrom_at r n 0 0 i (by omega) hi
    simp only [Nat.sub_zero, Int.zero_add] at h3 h4
    have hil2 : i < r.length := by omega
    have hsi := sum_succ (r := r) hil2
    have hsj := sum_succ (r := r) hj
    unfold cntD
    rw [hto, Option.getD_some]
    by_cases e : j = i
    · subst e
      rw [List.getD_eq_getElem?_getD, List.getElem?_set, if_pos rfl, if_pos (by rw [cntD_len]; exact hj)]
      simp only [Option.getD_some]
      rw [ih]
      simp only [Int.natCast_add]
      omega
    · have hset : ((cntD r n).set i ((cntD r n).getD i 0 + 1)).getD j 0 = (cntD r n).getD j 0 := by
        rw [List.getD_eq_getElem?_getD, List.getElem?_set, if_neg (by omega), List.getD_eq_getElem?_getD]
      rw [hset, ih]
      simp only [Int.natCast_add]
      rcases Nat.lt_or_gt_of_ne e with hlt | hgt
      · have := take_mono h (show j + 1 ≤ i by omega)
        omega
      · have := take_mono h (show i + 1 ≤ j by omega)
        omega
theorem cntD_all {r : List Int} (h : ∀ x ∈ r, 0 ≤ x) (hne : r ≠ []) {t : Nat} (ht : r.sum = (t : Int)) : cntD r t = r := by
  refine List.ext_getElem (cntD_len r t) (fun j h1 h2 => ?_)
  have := cntD_get h hne t (by omega) j h2
  rw [gD_at (show j < (cntD r t).length from h1)] at this
  rw [this]
  have hsj := sum_succ (r := r) h2
  have hm := take_mono h (show j + 1 ≤ r.length by omega)
  rw [List.take_length] at hm
  have h0 := h _ (List.getElem_mem h2)
  omega
/-- a run by the first k draws -/
def runN (xss : List (List Int)) (s : Int) (ds : List Int) : Nat → List Int
  | 0 => [s]
  | k + 1 => runN xss s ds k ++ [nxt xss (ds.getD k 0) ((runN xss s ds k).getD k 0)]
theorem runN_len (xss : List (List Int)) (s : Int) (ds : List Int) : ∀ k, (runN xss s ds k).length = k + 1
  | 0 => rfl
  | k + 1 => by unfold runN; rw [List.length_append, runN_len xss s ds k]; rfl
theorem runN_get {xss : List (List Int)} {s : Int} {ds : List Int} {j : Nat} : ∀ {k : Nat}, j ≤ k → (runN xss s ds k).getD j 0 = (runN xss s ds j).getD j 0
  | 0, h => by obtain rfl : j = 0 := by omega
               rfl
  | k + 1, h => by
    by_cases e : j = k + 1
    · subst e; rfl
    · rw [← runN_get (show j ≤ k by omega)]
      conv => lhs; unfold runN
      rw [List.getD_eq_getElem?_getD, List.getElem?_append_left (by rw [runN_len]; omega), List.getD_eq_getElem?_getD]
theorem runN_next {xss : List (List Int)} {s : Int} {ds : List Int} {j k : Nat} (h : j < k) : (runN xss s ds k).getD (j + 1) 0 = nxt xss (ds.getD j 0) ((runN xss s ds k).getD j 0) := by
  rw [runN_get (show j + 1 ≤ k by omega), runN_get (show j ≤ k by omega)]
  conv => lhs; unfold runN
  rw [List.getD_eq_getElem?_getD, List.getElem?_append_right (by rw [runN_len]; omega), runN_len]
  simp
theorem runN_zero {xss : List (List Int)} {s : Int} {ds : List Int} {k : Nat} : (runN xss s ds k).getD 0 0 = s := by rw [runN_get (Nat.zero_le k)]; rfl
theorem runN_in {s t : Int} {xss : List (List Int)} (h : chainOk s t xss = true) {x : Int} (hx : 0 ≤ x ∧ x < xss.length) {ds : List Int} (hd : DrawsB t ds) : ∀ k, k ≤ ds.length → InN xss.length (runN xss x ds k)
  | 0, _ => by intro y hy; simp [runN] at hy; subst hy; exact hx
  | k + 1, hk => by
    have ih := runN_in h hx hd k (by omega)
    intro y hy
    unfold runN at hy
    simp only [List.mem_append, List.mem_singleton] at hy
    rcases hy with hy | rfl
    · exact ih y hy
    · have hkl : k < (runN xss x ds k).length := by rw [runN_len]; omega
      have hm := ih _ (List.getElem_mem hkl)
      have hdk := hd _ (List.getElem_mem (show k < ds.length by omega))
      rw [gD_at hkl, gD_at (show k < ds.length by omega)]
      obtain ⟨z, hz⟩ := Int.eq_ofNat_of_zero_le hm.1
      rw [hz] at hm ⊢
      have := stepAll_in h hdk (l := [(z : Int)]) (fun y hy => by simp at hy; subst hy; exact hm)
      exact this _ (by simp [stepAll])
end Go.Proofs.Ytijpkcdalmlaiaa
