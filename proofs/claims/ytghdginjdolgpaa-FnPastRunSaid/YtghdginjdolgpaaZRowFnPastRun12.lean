/-
  Runs by maps: plain facts for the laws. With it: Maps: valid ones and picks, the reference's side; one step. Runs by maps: forward and from the past, both sides; picks applied.
-/
import Derived.Test.YtghdginjdolgpaaZRowFnPastRun11
set_option linter.unusedVariables false
set_option linter.unusedSimpArgs false
namespace Go.Proofs.Ytghdginjdolgpaa
open Go.RowKit Go.Sort

set_option maxHeartbeats 400000 in
theorem l05Map_ok {u : Value} {xs : List Int} (s : Int) (w : World) (ha : SlI w u xs) (hl : (xs.length : Int) = s) (hx : ∀ x ∈ xs, 0 ≤ x ∧ x < s) (hs : s ≤ 6) :
    Calls Try.prog 87 #[u, .int .i64 s] w fun e w' => e = .returned (.bool true) ∧ w = w' := by
  obtain ⟨a, ca, rfl, hca, hca', ha⟩ := ha
  have HX := Lib.hid hx
  have t1 : ((xs.length : Int) == s) = true := by simp [hl]
  have hxl : xs.length ≤ 6 := by omega
  clear hx
  go_enter Try.func87, Try.ntmps87
  go_wp2
  go_loopw [5] (fun i wr => ∃ k : Nat, k ≤ xs.length ∧ i = .int .i64 k ∧ wr = w) (fun i _ => xs.length - (intOf i).toNat)
  case atStart => exact ⟨0, Nat.zero_le _, rfl, rfl⟩
  case round =>
    obtain ⟨k, hk, rfl, rfl⟩ := hrel
    by_cases hlt : k < xs.length
    · obtain ⟨b, off, rfl, gc⟩ := ha.one (i64s_get hlt)
      have i1 : (k : Int) < (xs.length : Int) := by omega
      have hx := HX.out _ (List.getElem_mem hlt)
      generalize xs[k] = x at gc hx
      have E1 := Lib.hid (inR_ok (x := x) (a := 0) (b := s - 1) (by omega))
      clear hx
      go_wp2_with (go_at_call 86; refine (l00In_any _ _ _ _).mono ?_; rintro e w' ⟨rfl, rfl⟩; rw [E1.out])
      go_roundw
      case rel => exact ⟨k + 1, by omega, by go_num, trivial⟩
      case measure => simp [intOf]; omega
    · obtain rfl : k = xs.length := by omega
      go_wp2
      go_ret
      exact ⟨rfl, rfl⟩

set_option maxRecDepth 100000 in
set_option maxHeartbeats 4000000 in
theorem l05Ok_ok {v : Value} {ms : List (Int × List Int)} {s t : Int} (b : Nat) (w : World) (hb : MpAt w b s t v) (ha : SlM w v ms) (hv : mapsOk s t ms) :
    Calls Try.prog 81 #[.pointer (some ⟨b, 0, none⟩)] w fun e w' => e = .returned (.bool true) ∧ Below w.heap.size w w' := by
  have HA := Lib.hid (fun W (h : Below w.heap.size w W) => ha.below h)
  have X := Lib.hid hb
  obtain ⟨a, ca, rfl, hca, hca'⟩ := ha.form
  obtain ⟨⟨hs1, hs2⟩, ⟨ht1, ht2⟩, ⟨hl1, hl2⟩, hrow, hsum⟩ := id hv
  have E1 := Lib.hid (inR_ok (x := s) (a := 1) (b := 6) (by omega))
  have E2 := Lib.hid (inR_ok (x := t) (a := 1) (b := 60) (by omega))
  have E3 := Lib.hid (inR_ok (x := (ms.length : Int)) (a := 1) (b := 60) (by omega))
  have HV := Lib.hid hv
  have HROW := Lib.hid hrow
  have HSUM := Lib.hid (show sumW ms ms.length = t by rw [sumW_all]; exact hsum)
  obtain ⟨x0, x1, x2, x3⟩ := hb
  clear hv hrow hsum ha
  go_enter Try.func81, Try.ntmps81
  go_wp2_with (go_at_call 86; refine (l00In_any _ _ _ _).mono ?_; rintro e w' ⟨rfl, rfl⟩; first | rw [E1.out] | rw [E2.out] | rw [E3.out])
  go_loopw [3, 4] (fun sm i wr => ∃ (k : Nat) (S : Int), k ≤ ms.length ∧ i = .int .i64 k ∧ sm = .int .i64 S ∧ Hid (S = sumW ms k) ∧ Below w.heap.size w wr) (fun _ i _ => ms.length - (intOf i).toNat)
  case atStart => exact ⟨0, 0, Nat.zero_le _, rfl, rfl, Lib.hid rfl, Below.refl _ _⟩
  case round =>
    clear x0 x1 x2 x3
    obtain ⟨k, S, hk, rfl, rfl, hS, hbw⟩ := hrel
    have HBW := Lib.hid hbw
    obtain ⟨x0, x1, x2, x3⟩ := X.out.below hbw
    by_cases hlt : k < ms.length
    · obtain ⟨b, off, ra, rc, rfl, hb, d0, d1, sr⟩ := (HA.out _ hbw).at_ hlt
      obtain ⟨hm1, hm2, hm3⟩ := HROW.out _ (List.getElem_mem hlt)
      have hwt := HV.out.wt hlt
      have hss := sumW_succ hlt
      have hsb := HV.out.sums (k := k) hk
      rw [← hS.out] at hss hsb
      have HAT := Lib.hid (fun W (h : Below wr.heap.size wr W) => show W.cell? ⟨b, off + k * 2, none⟩ = some (.int .i64 ms[k].1) from by rw [h.cell (p := ⟨b, off + k * 2, none⟩) hb]; exact d0)
      generalize ms[k] = m at d0 d1 sr hm1 hm2 hm3 hwt hss HAT
      obtain ⟨mw, mr⟩ := m
      simp only at d0 d1 sr hm1 hm2 hm3 hwt hss HAT
      have HSS := Lib.hid hss
      have HM3 := Lib.hid hm3
      have SR := Lib.hid (fun W (h : Below wr.heap.size wr W) => sr.below h)
      have E4 := inR_ok (x := mw) (a := 1) (b := t) (by omega)
      have HM2 := Lib.hid hm2
      have i1 : (k : Int) < (ms.length : Int) := by omega
      have i0 : (0 : Int) ≤ (k : Int) := by omega
      have hmr : mr.length ≤ 6 := by omega
      have r1 : IntKind.i64.wrap (S + mw) = S + mw := IntWalk.i64_in _ (by omega)
      have k1 := fun d os => cell_regrown x1 d os
      have k2 := fun d os => cell_regrown x2 d os
      have k3 := fun d os => cell_regrown x3 d os
      have k4 := fun d os => cell_regrown d0 d os
      have k5 := fun d os => cell_regrown d1 d os
      have D1 := Lib.hid (show ∀ W, Calls Try.prog 86 #[.int .i64 mw, .int .i64 1, .int .i64 t] W fun e w' => e = .returned (.bool true) ∧ Below W.heap.size W w' from fun W => by
        have h := l00In_b mw 1 t W
        rw [E4] at h
        exact h)
      have D2 := Lib.hid (show ∀ W, Below wr.heap.size wr W → Calls Try.prog 87 #[.slice ra mr.length rc, .int .i64 s] W fun e w' => e = .returned (.bool true) ∧ Below W.heap.size W w' from fun W h =>
        (l05Map_ok s W (SR.out W h) HM2.out HM3.out hs2).mono fun _ _ ⟨h1, h2⟩ => ⟨h1, h2 ▸ Below.refl _ _⟩)
      clear hss hm3 sr hwt hm2 E4
      go_wp2_with fail
      refine wp_region_quiet_below (by kernel_rfl) (by kernel_rfl) ?_
      repeat (first | go_big_quiet_skip | quiet_step (first | (with_reducible exact Calls.regrown_of (D1.out _)) | (with_reducible exact Calls.regrown_of (D2.out _ (below_regrown _ _ _)))))
      refine wpQuiet_nil ?_
      intro _ hw'
      obtain ⟨⟨dq, osq⟩, hw''⟩ := hw'
      subst hw''
      have bq0 := below_regrown wr dq osq
      have bq := hbw.trans (bq0.mono hbw.size)
      generalize grow (redrawn wr dq) osq = wq at bq bq0 ⊢
      have z3 := HAT.out _ bq0
      obtain ⟨y0, y1, y2, y3⟩ := X.out.below bq
      clear k1 k2 k3 k4 k5 x0 x1 x2 x3 d0 d1 D1 D2
      go_wp2
      go_roundw
      case rel => exact ⟨k + 1, S + mw, by omega, by go_num, rfl, Lib.hid HSS.out.symm, bq⟩
      case measure => simp [intOf]; omega
    · obtain rfl : k = ms.length := by omega
      have hst : (S == t) = true := by rw [hS.out, HSUM.out]; simp
      go_wp2
      go_ret
      exact ⟨rfl, hbw⟩

set_option maxHeartbeats 400000 in
theorem l05Picks_ok {v pv : Value} {ms : List (Int × List Int)} {ps : List Int} {s t : Int} (b : Nat) (w : World) (hb : MpAt w b s t v) (ha : SlM w v ms) (hp : SlI w pv ps) (hl2 : ms.length ≤ 60) (hpb : PicksB ms.length ps) (hl : ps.length ≤ 200) :
    Calls Try.prog 82 #[.pointer (some ⟨b, 0, none⟩), pv] w fun e w' => e = .returned (.bool true) ∧ Below w.heap.size w w' := by
  obtain ⟨a, ca, rfl, hca, hca'⟩ := ha.form
  have X := Lib.hid hb
  have HP := Lib.hid (fun W (h : Below w.heap.size w W) => hp.below h)
  obtain ⟨pa, pc, rfl, _, _, _⟩ := id hp
  have HPB := Lib.hid hpb
  clear hp hpb ha hb
  go_enter Try.func82, Try.ntmps82
  go_wp2
  go_loopw [5] (fun i wr => ∃ k : Nat, k ≤ ps.length ∧ i = .int .i64 k ∧ Below w.heap.size w wr) (fun i _ => ps.length - (intOf i).toNat)
  case atStart => exact ⟨0, Nat.zero_le _, rfl, Below.refl _ _⟩
  case round =>
    obtain ⟨k, hk, rfl, hbw⟩ := hrel
    by_cases hlt : k < ps.length
    · obtain ⟨x0, x1, x2, x3⟩ := X.out.below hbw
      obtain ⟨_, _, he, _, _, rd⟩ := HP.out _ hbw
      simp only [Value.slice.injEq] at he
      obtain ⟨rfl, _, rfl⟩ := he
      obtain ⟨rb, ro, rfl, gl⟩ := rd.one (i64s_get hlt)
      have hx := HPB.out _ (List.getElem_mem hlt)
      generalize ps[k] = x at gl hx
      have E1 := inR_ok (x := x) (a := 0) (b := (ms.length : Int) - 1) (by omega)
      have D1 := Lib.hid (show ∀ W, Calls Try.prog 86 #[.int .i64 x, .int .i64 0, .int .i64 ((ms.length : Int) - 1)] W fun e w' => e = .returned (.bool true) ∧ Below W.heap.size W w' from fun W => by
        have h := l00In_b x 0 ((ms.length : Int) - 1) W
        rw [E1] at h
        exact h)
      have k3 := fun d os => cell_regrown x3 d os
      have k4 := fun d os => cell_regrown gl d os
      have i1 : (k : Int) < (ps.length : Int) := by omega
      have i0 : (0 : Int) ≤ (k : Int) := by omega
      have r1 : IntKind.i64.wrap ((ms.length : Int) - 1) = (ms.length : Int) - 1 := IntWalk.i64_in _ (by omega)
      clear E1 hx rd
      go_wp2_with fail
      refine wp_region_quiet_below (by kernel_rfl) (by kernel_rfl) ?_
      repeat (first | go_big_quiet_skip | quiet_step (with_reducible exact Calls.regrown_of (D1.out _)))
      refine wpQuiet_nil ?_
      intro _ hw'
      obtain ⟨⟨dq, osq⟩, hw''⟩ := hw'
      subst hw''
      have bq := hbw.trans ((below_regrown wr dq osq).mono hbw.size)
      generalize grow (redrawn wr dq) osq = wq at bq ⊢
      clear k3 k4 x0 x1 x2 x3 gl D1
      go_wp2
      go_roundw
      case rel => exact ⟨k + 1, by omega, by go_num, bq⟩
      case measure => simp [intOf]; omega
    · obtain rfl : k = ps.length := by omega
      have i2 : (ps.length : Int) ≤ 200 := by omega
      go_wp2
      go_ret
      exact ⟨rfl, hbw⟩

set_option maxHeartbeats 400000 in
theorem l05Asked_ok {v pv : Value} {ms : List (Int × List Int)} {ps : List Int} {s t : Int} (b : Nat) (w : World) (hb : MpAt w b s t v) (ha : SlM w v ms) (hp : SlI w pv ps) (hv : mapsOk s t ms) (hpb : PicksB ms.length ps) (hl : ps.length ≤ 200) :
    Calls Try.prog 55 #[.pointer (some ⟨b, 0, none⟩), pv] w fun e w' => e = .returned (.int .i64 0) ∧ Below w.heap.size w w' := by
  have X := Lib.hid hb
  have HA := Lib.hid (fun W (h : Below w.heap.size w W) => ha.below h)
  have HP := Lib.hid (fun W (h : Below w.heap.size w W) => hp.below h)
  have HV := Lib.hid hv
  have HPB := Lib.hid hpb
  obtain ⟨_, _, ⟨_, hl2⟩, _⟩ := id hv
  obtain ⟨pa, pc, rfl, _, _, _⟩ := id hp
  clear hb ha hp hv hpb
  go_enter Try.func55, Try.ntmps55
  go_wp2_with fail
  refine (l05Ok_ok b _ X.out (HA.out _ (Below.refl _ _)) HV.out).mono ?_
  rintro e w1 ⟨rfl, b1⟩
  go_wp2_with fail
  refine (l05Picks_ok b _ (X.out.below b1) (HA.out _ b1) (HP.out _ b1) hl2 HPB.out hl).mono ?_
  rintro e w2 ⟨rfl, b2⟩
  have b3 := b1.trans (b2.mono b1.size)
  go_wp2
  go_ret
  exact ⟨rfl, b3⟩

set_option maxHeartbeats 400000 in
theorem l05All_any (n : Nat) (w : World) (hn : n ≤ 1000) :
    Calls Try.prog 56 #[.int .i64 n] w fun e w' => ∃ v, e = .returned v ∧ OwnI w' w.heap.size v (upTo n) ∧ Below w.heap.size w w' := by
  go_enter Try.func56, Try.ntmps56
  go_wp2
  go_loopw [3, 4] (fun v i wr => ∃ k : Nat, k ≤ n ∧ i = .int .i64 k ∧ OwnI wr w.heap.size v (upTo k) ∧ Below w.heap.size w wr) (fun _ i _ => n - (intOf i).toNat)
  case atStart => exact ⟨0, Nat.zero_le _, rfl, OwnI.empty _ (Nat.le_refl _), (Below.refl _ _).alloc (Nat.le_refl _) _⟩
  case round =>
    obtain ⟨k, hk, rfl, hown, hbw⟩ := hrel
    by_cases hlt : k < n
    · have hsz := hbw.size
      have hl := upTo_length k
      go_wp2_with (at_builtin; refine append_i64 _ _ _ _ rfl rfl rfl hown rfl (by omega) (by omega) ?_)
      intro v' w1 hown1 hb1 hsz1
      rw [← upTo_succ] at hown1
      have hb2 := (hbw.alloc hsz _).trans hb1
      clear hown hb1
      go_wp2
      go_roundw
      case rel => exact ⟨k + 1, by omega, by go_num, hown1, hb2⟩
      case measure => simp [intOf]; omega
    · obtain rfl : k = n := by omega
      go_wp2
      go_ret
      exact ⟨_, rfl, hown, hbw⟩
theorem allAs_all {l : List Int} : allAs l = true ↔ ∀ (i : Nat) (h : i < l.length), l[i] = l.headD 0 := by
  unfold allAs
  rw [List.all_eq_true]
  simp only [beq_iff_eq, decide_eq_true_eq]
  constructor
  · intro h i hi; exact h _ (List.getElem_mem hi)
  · intro h x hx
    obtain ⟨i, hi, rfl⟩ := List.mem_iff_getElem.1 hx
    exact h i hi
theorem allAs_not {l : List Int} {i : Nat} (h : i < l.length) (hne : l[i] ≠ l.headD 0) : allAs l = false := by
  cases e : allAs l with
  | false => rfl
  | true => exact absurd (allAs_all.1 e i h) hne

set_option maxHeartbeats 1000000 in
theorem l05Equal_any {v : Value} {l : List Int} (w : World) (ha : SlI w v l) :
    Calls Try.prog 57 #[v] w fun e w' => e = .returned (.bool (allAs l)) ∧ Below w.heap.size w w' := by
  have HA := Lib.hid (fun W (h : Below w.heap.size w W) => ha.below h)
  obtain ⟨a, c, rfl, _, hc2, _⟩ := id ha
  unfold maxLen at hc2
  clear ha
  go_enter Try.func57, Try.ntmps57
  go_wp2
  go_loopw [3] (fun i wr => ∃ k : Nat, 1 ≤ k ∧ (k ≤ l.length ∨ k = 1) ∧ i = .int .i64 k ∧ Hid (∀ (j : Nat) (h : j < l.length), j < k → l[j] = l.headD 0) ∧ Below w.heap.size w wr) (fun i _ => l.length - (intOf i).toNat)
  case atStart => exact ⟨1, Nat.le_refl _, .inr rfl, rfl, Lib.hid (fun j h hj => by
    obtain rfl : j = 0 := by omega
    cases l with
    | nil => simp at h
    | cons x l => rfl), Below.refl _ _⟩
  case round =>
    obtain ⟨k, hk1, hk, rfl, hno, hbw⟩ := hrel
    by_cases hlt : k < l.length
    · obtain ⟨_, _, he, _, _, rd⟩ := HA.out _ hbw
      simp only [Value.slice.injEq] at he
      obtain ⟨rfl, _, rfl⟩ := he
      have h0l : 0 < l.length := by omega
      obtain ⟨rb, ro, rfl, gl⟩ := rd.one (i64s_get hlt)
      obtain ⟨_, _, he, g0⟩ := rd.one (i64s_get h0l)
      simp only [Option.some.injEq, Addr.mk.injEq] at he
      obtain ⟨rfl, rfl, _⟩ := he
      simp only [Nat.add_zero] at g0
      have hh : l[0] = l.headD 0 := by
        cases l with
        | nil => simp at h0l
        | cons x l => rfl
      rw [hh] at g0
      have HN := Lib.hid (fun h => allAs_not (l := l) hlt h)
      have HY := Lib.hid (show l[k] = l.headD 0 → ∀ (j : Nat) (h : j < l.length), j < k + 1 → l[j] = l.headD 0 from fun h j hj hjk => by
        by_cases hjk2 : j = k
        · subst hjk2; exact h
        · exact hno.out j hj (by omega))
      generalize l[k] = x at gl HN HY
      obtain ⟨y, hy⟩ : ∃ y, y = l.headD 0 := ⟨_, rfl⟩
      rw [← hy] at g0 HN
      have HYY := Lib.hid hy
      clear hh hy rd
      have k1 := fun d os => cell_regrown gl d os
      have k2 := fun d os => cell_regrown g0 d os
      have i0 : (0 : Int) ≤ (k : Int) := by omega
      have i1 : (k : Int) < (l.length : Int) := by omega
      have i2 : (0 : Int) < (l.length : Int) := by omega
      by_cases hxy : x = y
      · have t1 : (x != y) = false := by simp [hxy]
        have HXY := Lib.hid hxy
        clear hxy
        go_wp2_with fail
        refine wp_region_quiet_below (by kernel_rfl) (by kernel_rfl) ?_
        repeat (first | go_big_quiet_skip | quiet_step (fail))
        refine wpQuiet_nil ?_
        intro _ hw'
        obtain ⟨⟨dq, osq⟩, hw''⟩ := hw'
        subst hw''
        have bq := hbw.trans ((below_regrown wr dq osq).mono hbw.size)
        generalize grow (redrawn wr dq) osq = wq at bq ⊢
        clear k1 k2 gl g0
        go_wp2
        go_roundw
        case rel => exact ⟨k + 1, by omega, .inl (by omega), by go_num, Lib.hid (HY.out (by rw [← HYY.out]; exact HXY.out)), bq⟩
        case measure => simp [intOf]; omega
      · have t1 : (x != y) = true := by simp [hxy]
        have HXY := Lib.hid hxy
        clear hxy
        go_wp2_with fail
        refine wp_region_quiet_below (by kernel_rfl) (by kernel_rfl) ?_
        repeat (first | go_big_quiet_skip | quiet_step (fail))
        refine wpQuiet_nil ?_
        intro _ hw'
        obtain ⟨⟨dq, osq⟩, hw''⟩ := hw'
        subst hw''
        have bq := hbw.trans ((below_regrown wr dq osq).mono hbw.size)
        generalize grow (redrawn wr dq) osq = wq at bq ⊢
        clear k1 k2 gl g0
        go_wp2
        go_ret
        exact ⟨rbf (HN.out HXY.out), bq⟩
    · have hall : allAs l = true := allAs_all.2 (fun i hi => hno.out i hi (by omega))
      have hkl : (l.length : Int) ≤ (k : Int) := by omega
      have HALL := Lib.hid hall
      clear hall
      go_wp2
      go_ret
      exact ⟨rbt HALL.out, hbw⟩

set_option maxRecDepth 100000 in
set_option maxHeartbeats 2000000 in
theorem l05By_any {v u : Value} {ms : List (Int × List Int)} {st : List Int} {s t : Int} (b p : Nat) (w : World) (hb : MpAt w b s t v) (ha : SlM w v ms) (hu : SlI w u st) (hv : mapsOk s t ms) (hp : p < ms.length) (hst : ∀ x ∈ st, 0 ≤ x ∧ x < s) (hl : st.length ≤ 100) :
    Calls Try.prog 58 #[.pointer (some ⟨b, 0, none⟩), u, .int .i64 p] w fun e w' => ∃ r, e = .returned r ∧ OwnI w' w.heap.size r (byM ms st p) ∧ Below w.heap.size w w' := by
  have HA := Lib.hid (fun W (h : Below w.heap.size w W) => ha.below h)
  have HU := Lib.hid (fun W (h : Below w.heap.size w W) => hu.below h)
  have X := Lib.hid hb
  obtain ⟨a, ca, rfl, _, _⟩ := ha.form
  obtain ⟨ua, uc, rfl, _, _, _⟩ := id hu
  obtain ⟨_, _, ⟨_, hl2⟩, hrow, _⟩ := id hv
  have HV := Lib.hid hv
  have HST := Lib.hid hst
  have HROW := Lib.hid hrow
  have own0 := Lib.hid (OwnI.empty w (base := w.heap.size) (Nat.le_refl _))
  have b0 := Lib.hid ((Below.refl w.heap.size w).alloc (Nat.le_refl _) (.cells #[] 2))
  clear hv hst hrow ha hu hb
  go_enter Try.func58, Try.ntmps58
  go_wp2
  go_loopw [7, 8] (fun o i wr => ∃ (j : Nat), j ≤ st.length ∧ i = .int .i64 j ∧ OwnI wr w.heap.size o (byP ms p st j) ∧ Below w.heap.size w wr) (fun _ i _ => st.length - (intOf i).toNat)
  case atStart => exact ⟨0, Nat.zero_le _, rfl, own0.out, b0.out⟩
  case round =>
    clear own0 b0
    obtain ⟨j, hj, rfl, hown, hbw⟩ := hrel
    have HBW := Lib.hid hbw
    have HO := Lib.hid hown
    clear hown
    by_cases hjt : j < st.length
    · obtain ⟨x0, x1, x2, x3⟩ := X.out.below hbw
      obtain ⟨b, off, ra, rc, rfl, hb, d0, d1, sr⟩ := (HA.out _ hbw).at_ hp
      obtain ⟨_, hm2, _⟩ := HROW.out _ (List.getElem_mem hp)
      obtain ⟨_, _, he, _, _, rd⟩ := HU.out _ hbw
      simp only [Value.slice.injEq] at he
      obtain ⟨rfl, _, rfl⟩ := he
      obtain ⟨rb, ro, rfl, gl⟩ := rd.one (i64s_get hjt)
      have hx := HST.out _ (List.getElem_mem hjt)
      have hbt := byM_take (ms := ms) (p := p) hjt
      generalize st[j] = x at gl hx hbt
      obtain ⟨x, rfl⟩ := Int.eq_ofNat_of_zero_le hx.1
      have hxl : x < ms[p].2.length := by omega
      have hg := goM_at hp hxl
      rw [hg] at hbt
      obtain ⟨_, _, he, _, _, rd2⟩ := sr
      simp only [Value.slice.injEq] at he
      obtain ⟨rfl, _, rfl⟩ := he
      obtain ⟨rb2, ro2, rfl, gl2⟩ := rd2.one (i64s_get hxl)
      generalize ms[p].2[x] = y at gl2 hbt hg
      clear hg rd2 rd
      generalize ms[p].2.length = ml at *
      have i1 : (j : Int) < (st.length : Int) := by omega
      have i0 : (0 : Int) ≤ (j : Int) := by omega
      have i2 : (p : Int) < (ms.length : Int) := by omega
      have i3 : (0 : Int) ≤ (p : Int) := by omega
      have i4 : (x : Int) < (ml : Int) := by omega
      have i5 : (0 : Int) ≤ (x : Int) := by omega
      have HBT := Lib.hid hbt
      have hlm : (byP ms p st j).length < 16777216 := by have := byP_len ms p st j; omega
      have k0 := fun d os => cell_regrown x3 d os
      have k1 := fun d os => cell_regrown d1 d os
      have k2 := fun d os => cell_regrown gl d os
      have k3 := fun d os => cell_regrown gl2 d os
      clear hbt
      go_wp2_with fail
      go_region_law (first
        | (refine step_appJ (w0 := w) (w1 := wr) rfl (.tmp 16) (.tmp 31) rfl (y := y) rfl HO.out HBW.out (by (repeat (first | exact Below.refl _ _ | refine Below.drew ?_ | refine Below.alloc ?_ (by simp) _))) rfl (by first | (simp [go_sem]; done) | fail) hlm ?_; intro v5 w5 o5 hb5; rw [← HBT.out] at o5)
        | fail "no arm")
      all_goals
        go_wp2
        go_roundw
        case rel => exact ⟨j + 1, by omega, by go_num, o5, hb5⟩
        case measure => simp [intOf]; omega
    · obtain rfl : j = st.length := by omega
      have ho := HO.out
      rw [byP_all] at ho
      go_wp2
      go_ret
      exact ⟨_, rfl, ho, HBW.out⟩
end Go.Proofs.Ytghdginjdolgpaa
namespace Go.Proofs.Ytghdginjdolgpaa
open Go.RowKit Go.Sort
def seqM (ms : List (Int × List Int)) (n : Nat) (ps : List Int) : List Int := ps.foldl (byM ms) (upTo n)
def fwM (ms : List (Int × List Int)) (n : Nat) (ps : List Int) (j : Nat) : List Int := seqM ms n (ps.take j)
theorem fwM_zero (ms : List (Int × List Int)) (n : Nat) (ps : List Int) : fwM ms n ps 0 = upTo n := rfl
theorem fwM_succ {ms : List (Int × List Int)} {n : Nat} {ps : List Int} {j : Nat} (h : j < ps.length) : fwM ms n ps (j + 1) = byM ms (fwM ms n ps j) ps[j] := by
  unfold fwM seqM
  rw [List.take_succ_eq_append_getElem h, List.foldl_append]; rfl
theorem fwM_all (ms : List (Int × List Int)) (n : Nat) (ps : List Int) : fwM ms n ps ps.length = seqM ms n ps := by unfold fwM; rw [List.take_length]
theorem upTo_inM {n : Nat} {x : Int} (h : x ∈ upTo n) : 0 ≤ x ∧ x < n := by
  unfold upTo at h
  rw [List.mem_map] at h
  obtain ⟨i, h, rfl⟩ := h
  have := List.mem_range.1 h; omega
theorem byM_in {s t : Int} {ms : List (Int × List Int)} (hv : mapsOk s t ms) {p : Int} (hp : 0 ≤ p ∧ p < (ms.length : Int)) {st : List Int} (hst : ∀ x ∈ st, 0 ≤ x ∧ x < s) : ∀ x ∈ byM ms st p, 0 ≤ x ∧ x < s := by
  intro x hx
  unfold byM at hx
  rw [List.mem_map] at hx
  obtain ⟨y, hy, rfl⟩ := hx
  exact goM_in hv hp (hst y hy)
theorem foldM_in {s t : Int} {ms : List (Int × List Int)} (hv : mapsOk s t ms) : ∀ {ps : List Int}, PicksB ms.length ps → ∀ {st : List Int}, (∀ x ∈ st, 0 ≤ x ∧ x < s) → (∀ x ∈ ps.foldl (byM ms) st, 0 ≤ x ∧ x < s) ∧ (ps.foldl (byM ms) st).length = st.length
  | [], _, st, h => ⟨h, rfl⟩
  | p :: ps, hp, st, h => by
    rw [List.foldl_cons]
    have h1 := foldM_in hv (ps := ps) (fun q hq => hp q (by simp [hq])) (byM_in hv (hp p (by simp)) h)
    exact ⟨h1.1, by rw [h1.2]; simp [byM]⟩
theorem PicksB.take {n : Nat} {ps : List Int} (h : PicksB n ps) (j : Nat) : PicksB n (ps.take j) := fun p hp => h p (List.mem_of_mem_take hp)
theorem seqM_in {n : Nat} {t : Int} {ms : List (Int × List Int)} (hv : mapsOk n t ms) {ps : List Int} (hp : PicksB ms.length ps) : (∀ x ∈ seqM ms n ps, 0 ≤ x ∧ x < (n : Int)) ∧ (seqM ms n ps).length = n := by
  have h := foldM_in hv hp (st := upTo n) (fun x hx => upTo_inM hx)
  exact ⟨h.1, by have := h.2; rw [upTo_length] at this; exact this⟩
theorem fwM_in {n : Nat} {t : Int} {ms : List (Int × List Int)} (hv : mapsOk n t ms) {ps : List Int} (hp : PicksB ms.length ps) (j : Nat) : (∀ x ∈ fwM ms n ps j, 0 ≤ x ∧ x < (n : Int)) ∧ (fwM ms n ps j).length = n := seqM_in hv (hp.take j)
def hdI (l : List Int) : Int := l.headD 0
/-- the first of the lists whose elements are all the same -/
def firstR (n : Nat) (f : Nat → List Int) : Int × Int × Int :=
  match (List.range (n + 1)).find? (fun k => allAs (f k)) with
  | some k => (hdI (f k), (k : Int), 0)
  | none => (0, 0, 6)
def tupJ (r : Int × Int × Int) : Value := .tuple #[.int .i64 r.1, .int .i64 r.2.1, .int .i64 r.2.2]
theorem firstR_some {n : Nat} {f : Nat → List Int} {k : Nat} (hk : k ≤ n) (h : allAs (f k) = true) (hno : ∀ j, j < k → allAs (f j) = false) : firstR n f = (hdI (f k), (k : Int), 0) := by
  have : (List.range (n + 1)).find? (fun k => allAs (f k)) = some k := by
    rw [List.find?_range_eq_some]
    exact ⟨h, by simp; omega, fun j hj => by simp [hno j hj]⟩
  unfold firstR
  rw [this]
theorem firstR_none {n : Nat} {f : Nat → List Int} (hno : ∀ j, j ≤ n → allAs (f j) = false) : firstR n f = (0, 0, 6) := by
  have : (List.range (n + 1)).find? (fun k => allAs (f k)) = none := by
    rw [List.find?_eq_none]
    intro k hk
    have := List.mem_range.1 hk
    simp [hno k (by omega)]
  unfold firstR
  rw [this]
theorem firstR_spec (n : Nat) (f : Nat → List Int) : (∃ k, k ≤ n ∧ firstR n f = (hdI (f k), (k : Int), 0) ∧ allAs (f k) = true ∧ ∀ j, j < k → allAs (f j) = false) ∨ (firstR n f = (0, 0, 6) ∧ ∀ j, j ≤ n → allAs (f j) = false) := by
  cases hf : (List.range (n + 1)).find? (fun k => allAs (f k)) with
  | none =>
    right
    have h : ∀ j, j ≤ n → allAs (f j) = false := fun j hj => by
      rw [List.find?_eq_none] at hf
      have := hf j (List.mem_range.2 (by omega))
      simpa using this
    exact ⟨firstR_none h, h⟩
  | some k =>
    left
    rw [List.find?_range_eq_some] at hf
    obtain ⟨h1, h2, h3⟩ := hf
    have hk : k ≤ n := by simp at h2; omega
    have hn : ∀ j, j < k → allAs (f j) = false := fun j hj => by simpa using h3 j hj
    exact ⟨k, hk, firstR_some hk h1 hn, h1, hn⟩
theorem headJ {l : List Int} (h : 0 < l.length) : l[0] = hdI l := by
  cases l with
  | nil => simp at h
  | cons x l => rfl
/-- the first element of a list that is not empty -/
theorem SlI.first {w : World} {v : Value} {l : List Int} (h : SlI w v l) (hl : 0 < l.length) : ∃ b off c, v = .slice (some ⟨b, off, none⟩) l.length c ∧ w.cell? ⟨b, off, none⟩ = some (.int .i64 (hdI l)) := by
  obtain ⟨a, c, rfl, _, _, rd⟩ := h
  obtain ⟨b, off, rfl, g⟩ := rd.one (i64s_get hl)
  rw [headJ hl] at g
  exact ⟨b, off, c, rfl, by simpa using g⟩
theorem SlI.nth {w : World} {ad : Option Addr} {n c : Nat} {xs : List Int} (h : SlI w (.slice ad n c) xs) {k : Nat} (hk : k < xs.length) : ∃ b off, ad = some ⟨b, off, none⟩ ∧ w.cell? ⟨b, off + k, none⟩ = some (.int .i64 xs[k]) := by
  obtain ⟨b, off, h1, _, h2⟩ := h.at_ hk
  exact ⟨b, off, h1, h2⟩

set_option maxRecDepth 100000 in
set_option maxHeartbeats 4000000 in
theorem ImplForwardRun_any {v pv : Value} {ms : List (Int × List Int)} {ps : List Int} {t : Int} (n : Nat) (w : World) (ha : SlM w v ms) (hp : SlI w pv ps) (hv : mapsOk n t ms) (hpb : PicksB ms.length ps) (hl : ps.length ≤ 100) :
    Calls Try.prog 19 #[.agg #[.int .i64 n, .int .i64 t, v], pv] w fun e w' => e = .returned (tupJ (firstR ps.length (fwM ms n ps))) ∧ Below w.heap.size w w' := by
  have HA := Lib.hid (fun W (h : Below w.heap.size w W) => ha.below h)
  have HP := Lib.hid (fun W (h : Below w.heap.size w W) => hp.below h)
  obtain ⟨a, ca, rfl, _, _⟩ := ha.form
  obtain ⟨pa, pc, rfl, _, _, _⟩ := id hp
  have BX := Lib.hid (mpBelow w n t (.slice a ms.length ca))
  have X := Lib.hid (MpAt.new w n t (.slice a ms.length ca))
  obtain ⟨⟨hn1, hn2⟩, _⟩ := id hv
  have HV := Lib.hid hv
  have HPB := Lib.hid hpb
  clear hv hpb ha hp
  go_enter Try.func19, Try.ntmps19
  go_wp2_with fail
  refine (picksCode_ok _ (HA.out _ BX.out) (HP.out _ BX.out) HV.out HPB.out (by omega)).mono ?_
  rintro e w1 ⟨rfl, b1⟩
  have X1 := Lib.hid (X.out.below b1)
  have B1 := Lib.hid (BX.out.trans (b1.mono BX.out.size))
  obtain ⟨x0, x1, x2, x3⟩ := X1.out
  clear b1
  go_wp2_with fail
  refine (everyState_any n _ (by omega)).mono ?_
  rintro e w2 ⟨sv, rfl, o2, b2⟩
  have O2 := Lib.hid o2
  have B2 := Lib.hid b2
  clear x0 x1 x2 x3 o2 b2
  go_wp2
  go_loopw [8, 9] (fun sv k wr => ∃ (j : Nat), j ≤ ps.length ∧ k = .int .i64 j ∧ Hid (∀ i, i < j → allAs (fwM ms n ps i) = false) ∧ OwnI wr w1.heap.size sv (fwM ms n ps j) ∧ Below w1.heap.size w1 wr) (fun _ k _ => ps.length - (intOf k).toNat)
  case atStart => exact ⟨0, Nat.zero_le _, rfl, Lib.hid (fun i hi => absurd hi (by omega)), O2.out, B2.out⟩
  case round =>
    clear O2 B2
    obtain ⟨j, hj, rfl, hno, hown, hbw⟩ := hrel
    obtain ⟨hin, hlen⟩ := fwM_in HV.out HPB.out j
    have HBW := Lib.hid hbw
    have HIN := Lib.hid hin
    have HNX := Lib.hid (fun h => fwM_succ (ms := ms) (n := n) (ps := ps) (j := j) h)
    have h0l : 0 < (fwM ms n ps j).length := by omega
    obtain ⟨fb, fo, fc, rfl, g0⟩ := hown.sl.first h0l
    rw [hlen] at hown ⊢
    have HO := Lib.hid hown
    have h0l' := Lib.hid h0l
    have HLEN := Lib.hid hlen
    have HFS := Lib.hid (fun h1 h2 => firstR_some (n := ps.length) (f := fwM ms n ps) (k := j) hj h1 h2)
    generalize hm : allAs (fwM ms n ps j) = M
    have HM := Lib.hid hm
    clear hm hin hown h0l hlen
    have hn0 : (0 : Int) < (n : Int) := by omega
    cases M
    · by_cases hlt : j < ps.length
      · have t1 : ((j : Int) == (ps.length : Int)) = false := by rw [beq_eq_false_iff_ne]; omega
        obtain ⟨x0, x1, x2, x3⟩ := X1.out.below hbw
        have bw2 := B1.out.trans (hbw.mono B1.out.size)
        obtain ⟨rb, ro, rfl, gl⟩ := (HP.out _ bw2).nth hlt
        have hx := HPB.out _ (List.getElem_mem hlt)
        have hnx := HNX.out hlt
        generalize ps[j] = x at gl hx hnx
        obtain ⟨x, rfl⟩ := Int.eq_ofNat_of_zero_le hx.1
        have hxl : x < ms.length := by omega
        have HNX2 := Lib.hid hnx
        have BW2 := Lib.hid bw2
        have i0 : (0 : Int) ≤ (j : Int) := by omega
        have i1 : (j : Int) < (ps.length : Int) := by omega
        have k0 := fun d os => cell_regrown x1 d os
        have k1 := fun d os => cell_regrown x2 d os
        have k2 := fun d os => cell_regrown x3 d os
        have k3 := fun d os => cell_regrown gl d os
        clear hx hnx bw2 x0 hbw
        go_wp2_with fail
        refine (allSame_any _ HO.out.sl h0l'.out).mono ?_
        rintro e w3 ⟨rfl, rfl⟩
        rw [HM.out]
        go_wp2_with fail
        go_region_law (first
          | (go_simp; go_at_call 54; refine (goBy_any x _ ((HA.out _ BW2.out).below (by (repeat (first | exact Below.refl _ _ | refine Below.drew ?_ | refine Below.alloc ?_ (by simp) _)))) (HO.out.sl.below (by (repeat (first | exact Below.refl _ _ | refine Below.drew ?_ | refine Below.alloc ?_ (by simp) _)))) HV.out hxl HIN.out (by have := HLEN.out; omega)).mono ?_; rintro e w4 ⟨r, rfl, o4, b4⟩; have bw4 := below_of (a := wr) (by (repeat (first | exact Below.refl _ _ | refine Below.drew ?_ | refine Below.alloc ?_ (by simp) _))) b4)
          | fail "no arm")
        all_goals
          have HM9 := Lib.hid (show ∀ i, i < j + 1 → allAs (fwM ms n ps i) = false from fun i hi => by
            by_cases hij : i = j
            · subst hij; exact HM.out
            · exact hno.out i (by omega))
          have HB9 := Lib.hid (HBW.out.trans (bw4.mono HBW.out.size))
          have HO9 := Lib.hid (o4.lower (base' := w1.heap.size) (by have := HBW.out.size; simp; omega))
          clear o4 b4 bw4 k0 k1 k2 k3 x1 x2 x3 gl
          go_wp2
          go_roundw
          case rel => exact ⟨j + 1, by omega, by go_num, HM9, by rw [HNX2.out]; exact HO9.out, HB9.out⟩
          case measure => simp [intOf]; omega
      · obtain rfl : j = ps.length := by omega
        have hR := firstR_none (n := ps.length) (f := fwM ms n ps) (fun i hi => by
          by_cases hij : i = ps.length
          · subst hij; exact HM.out
          · exact hno.out i (by omega))
        have HR := Lib.hid hR
        have t1 : ((ps.length : Int) == (ps.length : Int)) = true := by simp
        clear hR
        go_wp2_with fail
        refine (allSame_any _ HO.out.sl h0l'.out).mono ?_
        rintro e w3 ⟨rfl, rfl⟩
        rw [HM.out]
        go_wp2
        go_ret3
        exact ⟨by rw [HR.out]; rfl, B1.out.trans (hbw.mono B1.out.size)⟩
    · have HR := Lib.hid (HFS.out HM.out hno.out)
      go_wp2_with fail
      refine (allSame_any _ HO.out.sl h0l'.out).mono ?_
      rintro e w3 ⟨rfl, rfl⟩
      rw [HM.out]
      go_wp2
      go_ret3
      exact ⟨by rw [HR.out]; rfl, B1.out.trans (hbw.mono B1.out.size)⟩

set_option maxRecDepth 100000 in
set_option maxHeartbeats 4000000 in
theorem SpecForwardRun_any {v pv : Value} {ms : List (Int × List Int)} {ps : List Int} {t : Int} (n : Nat) (w : World) (ha : SlM w v ms) (hp : SlI w pv ps) (hv : mapsOk n t ms) (hpb : PicksB ms.length ps) (hl : ps.length ≤ 100) :
    Calls Try.prog 20 #[.agg #[.int .i64 n, .int .i64 t, v], pv] w fun e w' => e = .returned (tupJ (firstR ps.length (fwM ms n ps))) ∧ Below w.heap.size w w' := by
  have HA := Lib.hid (fun W (h : Below w.heap.size w W) => ha.below h)
  have HP := Lib.hid (fun W (h : Below w.heap.size w W) => hp.below h)
  obtain ⟨a, ca, rfl, _, _⟩ := ha.form
  obtain ⟨pa, pc, rfl, _, _, _⟩ := id hp
  have BX := Lib.hid (mpBelow w n t (.slice a ms.length ca))
  have X := Lib.hid (MpAt.new w n t (.slice a ms.length ca))
  obtain ⟨⟨hn1, hn2⟩, _⟩ := id hv
  have HV := Lib.hid hv
  have HPB := Lib.hid hpb
  clear hv hpb ha hp
  go_enter Try.func20, Try.ntmps20
  go_wp2_with fail
  refine (l05Asked_ok w.heap.size _ X.out (HA.out _ BX.out) (HP.out _ BX.out) HV.out HPB.out (by omega)).mono ?_
  rintro e w1 ⟨rfl, b1⟩
  have X1 := Lib.hid (X.out.below b1)
  have B1 := Lib.hid (BX.out.trans (b1.mono BX.out.size))
  obtain ⟨x0, x1, x2, x3⟩ := X1.out
  clear b1
  go_wp2_with fail
  refine (l05All_any n _ (by omega)).mono ?_
  rintro e w2 ⟨sv, rfl, o2, b2⟩
  have O2 := Lib.hid o2
  have B2 := Lib.hid b2
  clear x0 x1 x2 x3 o2 b2
  go_wp2
  go_loopw [8, 9] (fun sv k wr => ∃ (j : Nat), j ≤ ps.length + 1 ∧ k = .int .i64 j ∧ Hid (∀ i, i < j → allAs (fwM ms n ps i) = false) ∧ OwnI wr w1.heap.size sv (fwM ms n ps (min j ps.length)) ∧ Below w1.heap.size w1 wr) (fun _ k _ => ps.length + 1 - (intOf k).toNat)
  case atStart => exact ⟨0, Nat.zero_le _, rfl, Lib.hid (fun i hi => absurd hi (by omega)), by rw [Nat.zero_min]; exact O2.out, B2.out⟩
  case round =>
    clear O2 B2
    obtain ⟨j, hj, rfl, hno, hown, hbw⟩ := hrel
    by_cases hjl : j ≤ ps.length
    · rw [Nat.min_eq_left hjl] at hown
      obtain ⟨hin, hlen⟩ := fwM_in HV.out HPB.out j
      have HBW := Lib.hid hbw
      have HIN := Lib.hid hin
      have HNX := Lib.hid (fun h => fwM_succ (ms := ms) (n := n) (ps := ps) (j := j) h)
      have h0l : 0 < (fwM ms n ps j).length := by omega
      obtain ⟨fb, fo, fc, rfl, g0⟩ := hown.sl.first h0l
      rw [hlen] at hown ⊢
      have HO := Lib.hid hown
      have HLEN := Lib.hid hlen
      have HFS := Lib.hid (fun h1 h2 => firstR_some (n := ps.length) (f := fwM ms n ps) (k := j) hjl h1 h2)
      have HG0 := Lib.hid (fun W (h : Below wr.heap.size wr W) => show ∃ fb' fo' , (fb, fo) = (fb', fo') ∧ W.cell? ⟨fb', fo', none⟩ = some (.int .i64 (hdI (fwM ms n ps j))) from by
        obtain ⟨b', o', c', he, hg⟩ := (hown.sl.below h).first h0l
        simp only [Value.slice.injEq, Option.some.injEq, Addr.mk.injEq] at he
        obtain ⟨⟨rfl, rfl, _⟩, _⟩ := he
        exact ⟨_, _, rfl, hg⟩)
      generalize hm : allAs (fwM ms n ps j) = M
      have HM := Lib.hid hm
      clear hm hin hown h0l hlen g0
      have hn0 : (0 : Int) < (n : Int) := by omega
      have i9 : (j : Int) ≤ (ps.length : Int) := by omega
      cases M
      · have HM9 := Lib.hid (show ∀ i, i < j + 1 → allAs (fwM ms n ps i) = false from fun i hi => by
          by_cases hij : i = j
          · subst hij; exact HM.out
          · exact hno.out i (by omega))
        go_wp2_with fail
        refine (l05Equal_any _ HO.out.sl).mono ?_
        rintro e w3 ⟨rfl, b3⟩
        rw [HM.out]
        have B3 := Lib.hid (HBW.out.trans (b3.mono HBW.out.size))
        have O3 := Lib.hid (HO.out.below b3)
        clear b3
        by_cases hlt : j < ps.length
        · obtain ⟨x0, x1, x2, x3⟩ := X1.out.below B3.out
          have bw2 := B1.out.trans (B3.out.mono B1.out.size)
          obtain ⟨rb, ro, rfl, gl⟩ := (HP.out _ bw2).nth hlt
          have hx := HPB.out _ (List.getElem_mem hlt)
          have hnx := HNX.out hlt
          generalize ps[j] = x at gl hx hnx
          obtain ⟨x, rfl⟩ := Int.eq_ofNat_of_zero_le hx.1
          have hxl : x < ms.length := by omega
          have HNX2 := Lib.hid hnx
          have BW2 := Lib.hid bw2
          have i0 : (0 : Int) ≤ (j : Int) := by omega
          have i1 : (j : Int) < (ps.length : Int) := by omega
          clear hx hnx bw2 x0 hbw i9
          go_wp2_with fail
          refine (l05By_any w.heap.size x _ (X1.out.below B3.out) (HA.out _ BW2.out) O3.out.sl HV.out hxl HIN.out (by have := HLEN.out; omega)).mono ?_
          rintro e w4 ⟨r, rfl, o4, b4⟩
          have HB9 := Lib.hid (B3.out.trans (b4.mono B3.out.size))
          have HO9 := Lib.hid (o4.lower (base' := w1.heap.size) B3.out.size)
          clear o4 b4 x1 x2 x3 gl
          go_wp2
          go_roundw
          case rel => exact ⟨j + 1, by omega, by go_num, HM9, by rw [Nat.min_eq_left (by omega), HNX2.out]; exact HO9.out, HB9.out⟩
          case measure => simp [intOf]; omega
        · obtain rfl : j = ps.length := by omega
          have HO9 := Lib.hid (O3.out)
          go_wp2
          go_roundw
          case rel => exact ⟨ps.length + 1, by omega, by go_num, HM9, by rw [Nat.min_eq_right (by omega)]; exact HO9.out, B3.out⟩
          case measure => simp [intOf]
      · have HR := Lib.hid (HFS.out HM.out hno.out)
        go_wp2_with fail
        refine (l05Equal_any _ HO.out.sl).mono ?_
        rintro e w3 ⟨rfl, b3⟩
        rw [HM.out]
        have B3 := Lib.hid (HBW.out.trans (b3.mono HBW.out.size))
        obtain ⟨fb', fo', he, g0⟩ := HG0.out _ b3
        simp only [Prod.mk.injEq] at he
        obtain ⟨rfl, rfl⟩ := he
        go_wp2
        go_ret3
        exact ⟨by rw [HR.out]; rfl, B1.out.trans (B3.out.mono B1.out.size)⟩
    · have hR := Lib.hid (firstR_none (n := ps.length) (f := fwM ms n ps) (fun i hi => hno.out i (by omega)))
      have i9 : ¬ (j : Int) ≤ (ps.length : Int) := by omega
      go_wp2
      go_ret3
      exact ⟨by rw [hR.out]; rfl, B1.out.trans (hbw.mono B1.out.size)⟩

set_option maxRecDepth 100000 in
set_option maxHeartbeats 4000000 in
theorem ImplApplyPicks_any {v pv : Value} {ms : List (Int × List Int)} {ps : List Int} {t : Int} (n : Nat) (w : World) (ha : SlM w v ms) (hp : SlI w pv ps) (hv : mapsOk n t ms) (hpb : PicksB ms.length ps) (hl : ps.length ≤ 100) :
    Calls Try.prog 21 #[.agg #[.int .i64 n, .int .i64 t, v], pv] w fun e w' => ∃ u, e = .returned (.tuple #[u, .int .i64 0]) ∧ OwnI w' w.heap.size u (seqM ms n ps) ∧ Below w.heap.size w w' := by
  have HA := Lib.hid (fun W (h : Below w.heap.size w W) => ha.below h)
  have HP := Lib.hid (fun W (h : Below w.heap.size w W) => hp.below h)
  obtain ⟨a, ca, rfl, _, _⟩ := ha.form
  obtain ⟨pa, pc, rfl, _, _, _⟩ := id hp
  have BX := Lib.hid (mpBelow w n t (.slice a ms.length ca))
  have X := Lib.hid (MpAt.new w n t (.slice a ms.length ca))
  obtain ⟨⟨hn1, hn2⟩, _⟩ := id hv
  have HV := Lib.hid hv
  have HPB := Lib.hid hpb
  clear hv hpb ha hp
  go_enter Try.func21, Try.ntmps21
  go_wp2_with fail
  refine (picksCode_ok _ (HA.out _ BX.out) (HP.out _ BX.out) HV.out HPB.out (by omega)).mono ?_
  rintro e w1 ⟨rfl, b1⟩
  have X1 := Lib.hid (X.out.below b1)
  have B1 := Lib.hid (BX.out.trans (b1.mono BX.out.size))
  obtain ⟨x0, x1, x2, x3⟩ := X1.out
  clear b1
  go_wp2_with fail
  refine (everyState_any n _ (by omega)).mono ?_
  rintro e w2 ⟨sv, rfl, o2, b2⟩
  have O2 := Lib.hid o2
  have B2 := Lib.hid b2
  clear x0 x1 x2 x3 o2 b2
  go_wp2
  go_loopw [7, 21] (fun sv k wr => ∃ (j : Nat), j ≤ ps.length ∧ k = .int .i64 j ∧ OwnI wr w1.heap.size sv (fwM ms n ps j) ∧ Below w1.heap.size w1 wr) (fun _ k _ => ps.length - (intOf k).toNat)
  case atStart => exact ⟨0, Nat.zero_le _, rfl, O2.out, B2.out⟩
  case round =>
    clear O2 B2
    obtain ⟨j, hj, rfl, hown, hbw⟩ := hrel
    have HBW := Lib.hid hbw
    by_cases hlt : j < ps.length
    · obtain ⟨hin, hlen⟩ := fwM_in HV.out HPB.out j
      have HIN := Lib.hid hin
      have HLEN := Lib.hid hlen
      have hnx := fwM_succ (ms := ms) (n := n) hlt
      have HO := Lib.hid hown
      obtain ⟨x0, x1, x2, x3⟩ := X1.out.below hbw
      have bw2 := B1.out.trans (hbw.mono B1.out.size)
      obtain ⟨rb, ro, rfl, gl⟩ := (HP.out _ bw2).nth hlt
      have hx := HPB.out _ (List.getElem_mem hlt)
      generalize ps[j] = x at gl hx hnx
      obtain ⟨x, rfl⟩ := Int.eq_ofNat_of_zero_le hx.1
      have hxl : x < ms.length := by omega
      have HNX2 := Lib.hid hnx
      have BW2 := Lib.hid bw2
      have i1 : (j : Int) < (ps.length : Int) := by omega
      clear hx hnx bw2 x0 hbw hin hlen hown
      go_wp2_with fail
      refine (goBy_any x _ (HA.out _ BW2.out) HO.out.sl HV.out hxl HIN.out (by have := HLEN.out; omega)).mono ?_
      rintro e w4 ⟨r, rfl, o4, b4⟩
      have HB9 := Lib.hid (HBW.out.trans (b4.mono HBW.out.size))
      have HO9 := Lib.hid (o4.lower (base' := w1.heap.size) HBW.out.size)
      clear o4 b4 x1 x2 x3 gl
      go_wp2
      go_roundw
      case rel => exact ⟨j + 1, by omega, by go_num, by rw [HNX2.out]; exact HO9.out, HB9.out⟩
      case measure => simp [intOf]; omega
    · obtain rfl : j = ps.length := by omega
      rw [fwM_all] at hown
      go_wp2
      go_ret2
      exact ⟨_, rfl, hown.lower B1.out.size, B1.out.trans (hbw.mono B1.out.size)⟩

set_option maxRecDepth 100000 in
set_option maxHeartbeats 4000000 in
theorem SpecApplyPicks_any {v pv : Value} {ms : List (Int × List Int)} {ps : List Int} {t : Int} (n : Nat) (w : World) (ha : SlM w v ms) (hp : SlI w pv ps) (hv : mapsOk n t ms) (hpb : PicksB ms.length ps) (hl : ps.length ≤ 100) :
    Calls Try.prog 26 #[.agg #[.int .i64 n, .int .i64 t, v], pv] w fun e w' => ∃ u, e = .returned (.tuple #[u, .int .i64 0]) ∧ OwnI w' w.heap.size u (seqM ms n ps) ∧ Below w.heap.size w w' := by
  have HA := Lib.hid (fun W (h : Below w.heap.size w W) => ha.below h)
  have HP := Lib.hid (fun W (h : Below w.heap.size w W) => hp.below h)
  obtain ⟨a, ca, rfl, _, _⟩ := ha.form
  obtain ⟨pa, pc, rfl, _, _, _⟩ := id hp
  have BX := Lib.hid (mpBelow w n t (.slice a ms.length ca))
  have X := Lib.hid (MpAt.new w n t (.slice a ms.length ca))
  obtain ⟨⟨hn1, hn2⟩, _⟩ := id hv
  have HV := Lib.hid hv
  have HPB := Lib.hid hpb
  clear hv hpb ha hp
  go_enter Try.func26, Try.ntmps26
  go_wp2_with fail
  refine (l05Asked_ok w.heap.size _ X.out (HA.out _ BX.out) (HP.out _ BX.out) HV.out HPB.out (by omega)).mono ?_
  rintro e w1 ⟨rfl, b1⟩
  have X1 := Lib.hid (X.out.below b1)
  have B1 := Lib.hid (BX.out.trans (b1.mono BX.out.size))
  obtain ⟨x0, x1, x2, x3⟩ := X1.out
  clear b1
  go_wp2_with fail
  refine (l05All_any n _ (by omega)).mono ?_
  rintro e w2 ⟨sv, rfl, o2, b2⟩
  have O2 := Lib.hid o2
  have B2 := Lib.hid b2
  clear x0 x1 x2 x3 o2 b2
  go_wp2
  go_loopw [7, 8] (fun sv k wr => ∃ (j : Nat), j ≤ ps.length ∧ k = .int .i64 j ∧ OwnI wr w1.heap.size sv (fwM ms n ps j) ∧ Below w1.heap.size w1 wr) (fun _ k _ => ps.length - (intOf k).toNat)
  case atStart => exact ⟨0, Nat.zero_le _, rfl, O2.out, B2.out⟩
  case round =>
    clear O2 B2
    obtain ⟨j, hj, rfl, hown, hbw⟩ := hrel
    have HBW := Lib.hid hbw
    by_cases hlt : j < ps.length
    · obtain ⟨hin, hlen⟩ := fwM_in HV.out HPB.out j
      have HIN := Lib.hid hin
      have HLEN := Lib.hid hlen
      have hnx := fwM_succ (ms := ms) (n := n) hlt
      have HO := Lib.hid hown
      have bw2 := B1.out.trans (hbw.mono B1.out.size)
      obtain ⟨rb, ro, rfl, gl⟩ := (HP.out _ bw2).nth hlt
      have hx := HPB.out _ (List.getElem_mem hlt)
      generalize ps[j] = x at gl hx hnx
      obtain ⟨x, rfl⟩ := Int.eq_ofNat_of_zero_le hx.1
      have hxl : x < ms.length := by omega
      have HNX2 := Lib.hid hnx
      have BW2 := Lib.hid bw2
      have i1 : (j : Int) < (ps.length : Int) := by omega
      clear hx hnx bw2 hbw hin hlen hown
      go_wp2_with fail
      refine (l05By_any w.heap.size x _ (X1.out.below HBW.out) (HA.out _ BW2.out) HO.out.sl HV.out hxl HIN.out (by have := HLEN.out; omega)).mono ?_
      rintro e w4 ⟨r, rfl, o4, b4⟩
      have HB9 := Lib.hid (HBW.out.trans (b4.mono HBW.out.size))
      have HO9 := Lib.hid (o4.lower (base' := w1.heap.size) HBW.out.size)
      clear o4 b4 gl
      go_wp2
      go_roundw
      case rel => exact ⟨j + 1, by omega, by go_num, by rw [HNX2.out]; exact HO9.out, HB9.out⟩
      case measure => simp [intOf]; omega
    · obtain rfl : j = ps.length := by omega
      rw [fwM_all] at hown
      go_wp2
      go_ret2
      exact ⟨_, rfl, hown.lower B1.out.size, B1.out.trans (hbw.mono B1.out.size)⟩
end Go.Proofs.Ytghdginjdolgpaa
namespace Go.Proofs.Ytghdginjdolgpaa
open Go.RowKit Go.Sort
def sameTo (l : List Int) (x : Nat) : Bool := (l.take x).all (fun y => decide (y = hdI l))
theorem sameTo_one {l : List Int} (h : 0 < l.length) : sameTo l 1 = true := by
  cases l with
  | nil => simp at h
  | cons a l => simp [sameTo, hdI]
theorem sameTo_succ {l : List Int} {x : Nat} (h : x < l.length) : sameTo l (x + 1) = (sameTo l x && decide (l[x] = hdI l)) := by
  unfold sameTo
  rw [List.take_succ_eq_append_getElem h, List.all_append]; simp
theorem sameTo_all (l : List Int) : sameTo l l.length = allAs l := by
  unfold sameTo allAs hdI
  rw [List.take_length]
theorem SlI.takeJ {w : World} {ad : Option Addr} {n c : Nat} {xs : List Int} (h : SlI w (.slice ad n c) xs) {i : Nat} (hi : i ≤ xs.length) : SlI w (.slice ad i c) (xs.take i) := by
  obtain ⟨a, c', he, h2, h3, h4⟩ := h
  simp only [Value.slice.injEq] at he
  obtain ⟨rfl, rfl, rfl⟩ := he
  have hl : (xs.take i).length = i := by rw [List.length_take]; omega
  refine ⟨ad, c, by rw [hl], by omega, h3, fun j u hu => h4 j u ?_⟩
  have hj : j < (xs.take i).length := by rw [← i64s_length]; exact (List.getElem?_eq_some_iff.1 hu).1
  have hjx : j < xs.length := by omega
  rw [i64s_get hj] at hu
  rw [i64s_get hjx, ← hu]; simp
/-- what the law of runs forward looks at -/
theorem firstR_law (n : Nat) (f : Nat → List Int) : ∃ (a b c l : Int), firstR n f = (a, b, c) ∧ ((c = 0 ∧ l = b ∧ 0 ≤ b ∧ b ≤ n) ∨ (c = 6 ∧ l = (n : Int) + 1)) ∧ ∀ i : Nat, i ≤ n → (i : Int) ≤ l → (allAs (f i) = decide ((i : Int) = l)) ∧ (allAs (f i) = true → hdI (f i) = a) := by
  rcases firstR_spec n f with ⟨k, hk, h1, h2, h3⟩ | ⟨h1, h2⟩
  · refine ⟨_, _, _, k, h1, .inl ⟨rfl, rfl, by omega, by omega⟩, fun i hi hik => ?_⟩
    rcases Nat.lt_or_ge i k with h | h
    · rw [h3 i h]
      exact ⟨by symm; rw [decide_eq_false_iff_not]; omega, by intro h; cases h⟩
    · obtain rfl : i = k := by omega
      rw [h2]
      exact ⟨by simp, fun _ => rfl⟩
  · refine ⟨_, _, _, (n : Int) + 1, h1, .inr ⟨rfl, rfl⟩, fun i hi hik => ?_⟩
    rw [h2 i hi]
    exact ⟨by symm; rw [decide_eq_false_iff_not]; omega, by intro h; cases h⟩
end Go.Proofs.Ytghdginjdolgpaa
