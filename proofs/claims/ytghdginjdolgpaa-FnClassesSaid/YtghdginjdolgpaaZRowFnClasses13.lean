/-
  The program's entries for classes and what is reached; lists looked through by the law.
-/
import Derived.Test.YtghdginjdolgpaaZRowFnClasses12
set_option linter.unusedVariables false
set_option linter.unusedSimpArgs false
namespace Go.Proofs.Ytghdginjdolgpaa
open Go.RowKit Go.Sort

set_option maxHeartbeats 1000000 in
theorem ClassesOf_any {v : Value} {xss : List (List Int)} {t : Int} (n : Nat) (w : World) (ha : SlII w v xss) (hv : chainOk n t xss = true) :
    Calls Try.prog 28 #[.agg #[.int .i64 n, .int .i64 t, v]] w fun e w' => ∃ (r : Value) (cs : List Int) (nx : Int), e = .returned (.tuple #[r, .int .i64 0]) ∧ cs.length = n ∧ ClsI xss n cs nx ∧ OwnI w' w.heap.size r cs ∧ Below w.heap.size w w' := by
  have HA := Lib.hid (fun W (h : Below w.heap.size w W) => ha.below h)
  obtain ⟨a, ca, us, rfl, _, _, _, _, _⟩ := ha
  have HV := Lib.hid hv
  have BX := Lib.hid (chBelow w n t (.slice a xss.length ca))
  have X := Lib.hid (chBox w n t (.slice a xss.length ca))
  clear hv
  go_enter Try.func28, Try.ntmps28
  go_wp2_with fail
  refine (ValidChain_any n t _ (HA.out _ BX.out)).mono ?_
  rintro e w1 ⟨rfl, b1⟩
  rw [HV.out]
  have B1 := Lib.hid (BX.out.trans (b1.mono BX.out.size))
  obtain ⟨y00, y0, y1, y2⟩ := X.out.below b1
  simp only [Nat.zero_add] at y0 y1 y2
  clear b1
  go_wp2_with fail
  refine (classes_any n _ (HA.out _ B1.out) HV.out).mono ?_
  rintro e w2 ⟨r, cs, nx, rfl, h1, h2, o2, b2⟩
  go_wp2
  go_ret2
  exact ⟨_, cs, nx, rfl, h1, h2, o2.lower B1.out.size, B1.out.trans (b2.mono B1.out.size)⟩

set_option maxHeartbeats 1000000 in
theorem ClosedClasses_any {v : Value} {xss : List (List Int)} {t : Int} (n : Nat) (w : World) (ha : SlII w v xss) (hv : chainOk n t xss = true) :
    Calls Try.prog 29 #[.agg #[.int .i64 n, .int .i64 t, v]] w fun e w' => ∃ (r : Value), e = .returned (.tuple #[r, .int .i64 0]) ∧ OwnII w' w.heap.size r (closedN xss n n) ∧ Below w.heap.size w w' := by
  have HA := Lib.hid (fun W (h : Below w.heap.size w W) => ha.below h)
  obtain ⟨a, ca, us, rfl, _, _, _, _, _⟩ := ha
  have HV := Lib.hid hv
  have BX := Lib.hid (chBelow w n t (.slice a xss.length ca))
  have X := Lib.hid (chBox w n t (.slice a xss.length ca))
  clear hv
  go_enter Try.func29, Try.ntmps29
  go_wp2_with fail
  refine (ValidChain_any n t _ (HA.out _ BX.out)).mono ?_
  rintro e w1 ⟨rfl, b1⟩
  rw [HV.out]
  have B1 := Lib.hid (BX.out.trans (b1.mono BX.out.size))
  obtain ⟨y00, y0, y1, y2⟩ := X.out.below b1
  simp only [Nat.zero_add] at y0 y1 y2
  clear b1
  go_wp2_with fail
  refine (closed_any n _ (HA.out _ B1.out) HV.out).mono ?_
  rintro e w2 ⟨r, rfl, o2, b2⟩
  go_wp2
  go_ret2
  exact ⟨_, rfl, o2.lower B1.out.size, B1.out.trans (b2.mono B1.out.size)⟩

set_option maxHeartbeats 1000000 in
theorem IsConnected_any {v : Value} {xss : List (List Int)} {t : Int} (n : Nat) (w : World) (ha : SlII w v xss) (hv : chainOk n t xss = true) :
    Calls Try.prog 30 #[.agg #[.int .i64 n, .int .i64 t, v]] w fun e w' => e = .returned (.tuple #[.bool (connB xss n), .int .i64 0]) ∧ Below w.heap.size w w' := by
  have HA := Lib.hid (fun W (h : Below w.heap.size w W) => ha.below h)
  obtain ⟨a, ca, us, rfl, _, _, _, _, _⟩ := ha
  have HV := Lib.hid hv
  have BX := Lib.hid (chBelow w n t (.slice a xss.length ca))
  have X := Lib.hid (chBox w n t (.slice a xss.length ca))
  generalize hcb : connB xss n = CB
  have HCB := Lib.hid hcb
  clear hv hcb
  go_enter Try.func30, Try.ntmps30
  go_wp2_with fail
  refine (ValidChain_any n t _ (HA.out _ BX.out)).mono ?_
  rintro e w1 ⟨rfl, b1⟩
  rw [HV.out]
  have B1 := Lib.hid (BX.out.trans (b1.mono BX.out.size))
  obtain ⟨y00, y0, y1, y2⟩ := X.out.below b1
  simp only [Nat.zero_add] at y0 y1 y2
  clear b1
  go_wp2_with fail
  refine (connected_any n _ (HA.out _ B1.out) HV.out).mono ?_
  rintro e w2 ⟨rfl, b2⟩
  rw [HCB.out]
  go_wp2
  go_ret2
  exact ⟨by rw [← HCB.out]; rfl, B1.out.trans (b2.mono B1.out.size)⟩

set_option maxHeartbeats 2000000 in
theorem stateCode_ok {v u : Value} {xss : List (List Int)} {xs : List Int} {t : Int} (n : Nat) (w : World) (ha : SlII w v xss) (hv : chainOk n t xss = true) (hu : SlI w u xs) (hx : ∀ x ∈ xs, 0 ≤ x ∧ x < (n : Int)) (hl : xs.length ≤ 100) :
    Calls Try.prog 67 #[.agg #[.int .i64 n, .int .i64 t, v], u] w fun e w' => e = .returned (.int .i64 0) ∧ Below w.heap.size w w' := by
  have HA := Lib.hid (fun W (h : Below w.heap.size w W) => ha.below h)
  have HU := Lib.hid (fun W (h : Below w.heap.size w W) => hu.below h)
  obtain ⟨a, ca, us, rfl, _, _, _, _, _⟩ := ha
  obtain ⟨ua, uc, rfl, _, _, _⟩ := id hu
  obtain ⟨⟨hn1, hn2⟩, _, _, _⟩ := chainOk_parts0 hv
  have HV := Lib.hid hv
  have HX := Lib.hid hx
  have BX := Lib.hid (chBelow w n t (.slice a xss.length ca))
  have X := Lib.hid (chBox w n t (.slice a xss.length ca))
  clear hv hx hu
  go_enter Try.func67, Try.ntmps67
  go_wp2_with fail
  refine (ValidChain_any n t _ (HA.out _ BX.out)).mono ?_
  rintro e w1 ⟨rfl, b1⟩
  rw [HV.out]
  have B1 := Lib.hid (BX.out.trans (b1.mono BX.out.size))
  have X1 := Lib.hid (X.out.below b1)
  clear b1
  go_wp2
  go_loopw [12] (fun i wr => ∃ k : Nat, k ≤ xs.length ∧ i = .int .i64 k ∧ Below w1.heap.size w1 wr) (fun i _ => xs.length - (intOf i).toNat)
  case atStart => exact ⟨0, Nat.zero_le _, rfl, Below.refl _ _⟩
  case round =>
    obtain ⟨k, hk, rfl, hbw⟩ := hrel
    by_cases hlt : k < xs.length
    · obtain ⟨y00, y0, y1, y2⟩ := X1.out.below hbw
      simp only [Nat.zero_add] at y0 y1 y2
      obtain ⟨rb, ro, rfl, _, gx⟩ := (HU.out _ (B1.out.trans (hbw.mono B1.out.size))).at_ hlt
      have hxr := HX.out _ (List.getElem_mem hlt)
      generalize xs[k] = x at gx hxr
      have i1 : (k : Int) < (xs.length : Int) := by omega
      have E1 := Lib.hid (show inR x 0 ((n : Int) - 1) = true from inR_iff.2 (by omega))
      clear hxr
      go_wp2_with fail
      refine (isState_c n t x _ hn1 (by omega)).mono ?_
      rintro e w3 ⟨rfl, b3⟩
      rw [E1.out]
      have hb3 := hbw.trans (b3.mono hbw.size)
      clear b3 y00 y0 y1 y2 gx
      go_wp2
      go_roundw
      case rel => exact ⟨k + 1, by omega, by go_num, hb3⟩
      case measure => simp [intOf]; omega
    · obtain rfl : k = xs.length := by omega
      go_wp2
      go_ret
      exact ⟨rfl, B1.out.trans (hbw.mono B1.out.size)⟩

set_option maxHeartbeats 2000000 in
theorem CanReach_any {v : Value} {xss : List (List Int)} {t : Int} (n k : Nat) (w : World) (ha : SlII w v xss) (hv : chainOk n t xss = true) (hk : k < n) :
    Calls Try.prog 31 #[.agg #[.int .i64 n, .int .i64 t, v], .int .i64 k] w fun e w' => ∃ r, e = .returned (.tuple #[r, .int .i64 0]) ∧ OwnI w' w.heap.size r (reachL xss n k) ∧ Below w.heap.size w w' := by
  have HA := Lib.hid (fun W (h : Below w.heap.size w W) => ha.below h)
  obtain ⟨a, ca, us, rfl, _, _, _, _, _⟩ := ha
  obtain ⟨⟨hn1, hn2⟩, _, _, _⟩ := chainOk_parts0 hv
  have HV := Lib.hid hv
  have X := Lib.hid (chBox w n t (.slice a xss.length ca))
  obtain ⟨W1, hW1⟩ : ∃ W1, W1 = w.alloc (chObj n t (.slice a xss.length ca)) := ⟨_, rfl⟩
  have BX := Lib.hid (chBelow w n t (.slice a xss.length ca))
  rw [← hW1] at BX X
  have Z1 := Lib.hid (show W1.heap.size = w.heap.size + 1 by rw [hW1]; simp)
  have HW1 := Lib.hid (show w.alloc (.cells #[.int .i64 n, .int .i64 t, .slice a xss.length ca] 26) = W1 from hW1.symm)
  have bA : Below W1.heap.size W1 (W1.alloc (.cells #[.int .i64 k] 2)) := (Below.refl _ _).alloc (Nat.le_refl _) _
  have L1 := Lib.hid (OwnI.lit1 W1 (base := W1.heap.size) (Nat.le_refl _) k)
  have X2 := Lib.hid (X.out.below bA)
  have B2 := Lib.hid (BX.out.trans (bA.mono BX.out.size))
  have l1 := L1.out.sl
  rw [Z1.out] at l1
  have HL1 := Lib.hid l1
  have hre : memsL (reachB xss n k) n = reachL xss n k := rfl
  have HRE := Lib.hid hre
  clear hv hW1 bA L1 l1 hre
  go_enter Try.func31, Try.ntmps31
  go_wp2_with fail
  rw [HW1.out]
  refine (stateCode_ok n _ (HA.out _ B2.out) HV.out HL1.out (fun x hx => by simp at hx; subst hx; omega) (by simp)).mono ?_
  rintro e w3 ⟨rfl, b3⟩
  have B3 := Lib.hid (B2.out.trans (b3.mono B2.out.size))
  obtain ⟨y00, y0, y1, y2⟩ := X2.out.below b3
  simp only [Nat.zero_add] at y0 y1 y2
  clear b3
  go_wp2_with fail
  refine (reach_any n k _ (HA.out _ B3.out) HV.out hk).mono ?_
  rintro e w4 ⟨g, rfl, o4, b4⟩
  have B4 := Lib.hid (B3.out.trans (b4.mono B3.out.size))
  have O4 := Lib.hid o4
  clear o4 b4 y00 y0 y1 y2
  go_wp2_with fail
  refine (membersOf_any _ _ O4.out (reachB_len _ _ _) (by omega)).mono ?_
  rintro e w5 ⟨r, rfl, o5, b5⟩
  rw [HRE.out] at o5
  go_wp2
  go_ret2
  exact ⟨_, rfl, o5.lower B4.out.size, B4.out.trans (b5.mono B4.out.size)⟩

set_option maxHeartbeats 1000000 in
theorem a2Has_any {u : Value} {xs : List Int} (x : Int) (w : World) (ha : SlI w u xs) :
    Calls Try.prog 32 #[u, .int .i64 x] w fun e w' => e = .returned (.bool (decide (x ∈ xs))) ∧ w = w' := by
  obtain ⟨a, ca, rfl, hca, hca', ha⟩ := ha
  unfold maxLen at hca'
  go_enter Try.func32, Try.ntmps32
  go_wp2
  go_loopw [5] (fun i wr => ∃ k : Nat, k ≤ xs.length ∧ i = .int .i64 k ∧ Hid (¬ x ∈ xs.take k) ∧ wr = w) (fun i _ => xs.length - (intOf i).toNat)
  case atStart => exact ⟨0, Nat.zero_le _, rfl, by simp [Hid], rfl⟩
  case round =>
    obtain ⟨k, hk, rfl, hno, rfl⟩ := hrel
    by_cases hlt : k < xs.length
    · obtain ⟨b, off, rfl, gc⟩ := ha.one (i64s_get hlt)
      have i1 : (k : Int) < (xs.length : Int) := by omega
      by_cases he : xs[k] = x
      · have HE := Lib.hid he
        have ht : (xs[k] == x) = true := by simp [he]
        clear he
        go_wp2
        go_ret
        exact ⟨rb (by symm; simp; rw [← HE.out]; exact List.getElem_mem hlt), rfl⟩
      · have HE := Lib.hid he
        have ht : (xs[k] == x) = false := by simp [he]
        clear he
        go_wp2
        go_roundw
        case rel => exact ⟨k + 1, by omega, by go_num, by
          unfold Hid at *
          rw [List.take_succ_eq_append_getElem hlt, List.mem_append]
          rintro (h | h)
          · exact hno h
          · simp at h; exact HE h.symm, trivial⟩
        case measure => simp [intOf]; omega
    · go_wp2
      go_ret
      exact ⟨rb (by symm; simp; have := hno.out; rw [List.take_of_length_le (by omega)] at this; exact this), rfl⟩

set_option maxHeartbeats 1000000 in
theorem a2Same_refl {u v : Value} {xs : List Int} (w : World) (ha : SlI w u xs) (hb : SlI w v xs) :
    Calls Try.prog 33 #[u, v] w fun e w' => e = .returned (.bool true) ∧ Below w.heap.size w w' := by
  have HA := Lib.hid (fun W (h : Below w.heap.size w W) => ha.below h)
  have HB := Lib.hid (fun W (h : Below w.heap.size w W) => hb.below h)
  obtain ⟨a, ca, rfl, hca, hca', _⟩ := ha
  obtain ⟨b, cb, rfl, hcb, hcb', _⟩ := hb
  unfold maxLen at hca' hcb'
  have hne : ((xs.length : Int) != (xs.length : Int)) = false := by simp
  go_enter Try.func33, Try.ntmps33
  go_wp2
  go_loopw [5] (fun i wr => ∃ k : Nat, k ≤ xs.length ∧ i = .int .i64 k ∧ Below w.heap.size w wr) (fun i _ => xs.length - (intOf i).toNat)
  case atStart => exact ⟨0, Nat.zero_le _, rfl, Below.refl _ _⟩
  case round =>
    obtain ⟨k, hk, rfl, hbr⟩ := hrel
    by_cases hlt : k < xs.length
    · have i0 : (0 : Int) ≤ (k : Int) := by omega
      have i1 : (k : Int) < (xs.length : Int) := by omega
      obtain ⟨b1, o1, rfl, _, g1⟩ := (HA.out _ hbr).at_ hlt
      obtain ⟨b2, o2, rfl, _, g2⟩ := (HB.out _ hbr).at_ hlt
      generalize xs[k] = x at g1 g2
      have k1 := fun d os => cell_regrown g1 d os
      have k2 := fun d os => cell_regrown g2 d os
      have hxx : (x != x) = false := by simp
      go_wp2_with fail
      refine wp_region_quiet_below (by kernel_rfl) (by kernel_rfl) ?_
      repeat (first | go_big_quiet_skip | quiet_step (fail))
      refine wpQuiet_nil ?_
      intro _ hw'
      obtain ⟨⟨dq, osq⟩, hw''⟩ := hw'
      subst hw''
      have bq := hbr.trans ((below_regrown wr dq osq).mono hbr.size)
      generalize grow (redrawn wr dq) osq = wq at bq ⊢
      clear k1 k2 g1 g2
      go_wp2
      go_roundw
      case rel => exact ⟨k + 1, by omega, by go_num, bq⟩
      case measure => simp [intOf]; omega
    · go_wp2
      go_ret
      exact ⟨rfl, hbr⟩
end Go.Proofs.Ytghdginjdolgpaa
