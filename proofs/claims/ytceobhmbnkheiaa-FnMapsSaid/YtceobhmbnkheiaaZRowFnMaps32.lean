/-
  The text of maps: the program's walk.
-/
import Derived.Test.YtceobhmbnkheiaaZRowFnMaps29
import Derived.Test.YtceobhmbnkheiaaZRowFnMaps24
import Derived.Test.YtceobhmbnkheiaaZRowFnMaps21
import Derived.Test.YtceobhmbnkheiaaZRowFnMaps12
set_option linter.unusedVariables false
set_option linter.unusedSimpArgs false
namespace Go.Proofs.Ytceobhmbnkheiaa
open Go.RowKit Go.Sort
theorem decIB_two {n : Int} (h0 : 0 ≤ n) (h1 : n < 100) : (decIB n).size ≤ 2 := by
  rw [decIB_pos h0]
  exact decB_size_le (k := 1) (by omega)
theorem sepB_size {b : ByteArray} (hb : b.size = 1) : ∀ {r : List ByteArray}, (∀ x ∈ r, x.size ≤ 2) → (sepB b r).size ≤ 3 * r.length
  | [], _ => by show (0 : Nat) ≤ _; exact Nat.zero_le _
  | x :: r, h => by
    have h1 := sepB_size hb (r := r) (fun y hy => h y (by simp [hy]))
    have h2 := h x (by simp)
    show (b ++ (x ++ sepB b r)).size ≤ _
    rw [ByteArray.size_append, ByteArray.size_append, List.length_cons]; omega
theorem decsB_small {xs : List Int} (h : ∀ x ∈ xs, 0 ≤ x ∧ x < 100) : (decsB xs ⟨#[32]⟩).size ≤ 3 * xs.length := by
  cases xs with
  | nil => show (0 : Nat) ≤ _; exact Nat.zero_le _
  | cons x r =>
    unfold decsB
    rw [List.map_cons, joinB_sep, ByteArray.size_append]
    have h1 := decIB_two (h x (by simp)).1 (h x (by simp)).2
    have h2 := sepB_size (b := ⟨#[32]⟩) rfl (r := r.map decIB) (fun y hy => by
      rw [List.mem_map] at hy
      obtain ⟨z, hz, rfl⟩ := hy
      exact decIB_two (h z (by simp [hz])).1 (h z (by simp [hz])).2)
    rw [List.length_map] at h2
    rw [List.length_cons]; omega
theorem linesMp_append : ∀ (ms : List (Int × List Int)) (acc : ByteArray), linesMp acc ms = linesMp acc (ms.drop 0) := fun _ _ => rfl
theorem mapLn_eq (wt : Int) (tl : List Int) : mapLn (wt, tl) = (((⟨#[109, 97, 112, 32]⟩ ++ decIB wt) ++ ⟨#[32, 58, 32]⟩) ++ decsB tl ⟨#[32]⟩) ++ ⟨#[10]⟩ := rfl
theorem mapsTx_size {n t : Int} {ms : List (Int × List Int)} (h : mapsOk n t ms) : (mapsTx n t ms).size ≤ 8000 := by
  obtain ⟨h1, h2, h3, hrow, _⟩ := id h
  have key : ∀ (l : List (Int × List Int)) (acc : ByteArray), (∀ m ∈ l, m.1 < 100 ∧ 0 ≤ m.1 ∧ m.2.length ≤ 6 ∧ ∀ x ∈ m.2, 0 ≤ x ∧ x < 100) → (linesMp acc l).size ≤ acc.size + 40 * l.length := by
    intro l
    induction l with
    | nil => intro acc _; simp [linesMp]
    | cons m l ih =>
      intro acc hl
      have hm := hl m (by simp)
      have h1 := ih (acc ++ mapLn m) (fun x hx => hl x (by simp [hx]))
      have h2 := decIB_two hm.2.1 hm.1
      have h3 := decsB_small hm.2.2.2
      have h4 : (mapLn m).size ≤ 40 := by
        unfold mapLn
        simp only [ByteArray.size_append]
        show 4 + _ + 3 + _ + 1 ≤ 40
        have := hm.2.2.1
        omega
      show (linesMp (acc ++ mapLn m) l).size ≤ _
      rw [ByteArray.size_append] at h1
      rw [List.length_cons]; omega
  have h4 := key ms (headLn n t) (fun m hm => by
    have hr := hrow m hm
    obtain ⟨i, hi, rfl⟩ := List.mem_iff_getElem.1 hm
    have := h.wt hi
    exact ⟨by omega, by omega, by have := hr.2.1; omega, fun x hx => by have := hr.2.2 x hx; omega⟩)
  have h5 := decsB_small (xs := [n, t]) (by simp; omega)
  have h6 : (headLn n t).size ≤ 20 := by
    unfold headLn
    simp only [ByteArray.size_append]
    show 5 + _ + 1 ≤ 20
    simp at h5; omega
  unfold mapsTx
  omega

set_option maxRecDepth 100000 in
set_option maxHeartbeats 4000000 in
theorem mapsText_any {v : Value} {ms : List (Int × List Int)} (n T : Nat) (w : World) (ha : SlM w v ms) (hv : mapsOk n T ms) :
    Calls Try.prog 62 #[.agg #[.int .i64 n, .int .i64 T, v]] w fun e w' => e = .returned (.string (mapsTx n T ms)) ∧ Below w.heap.size w w' := by
  have HA := Lib.hid (fun W (h : Below w.heap.size w W) => ha.below h)
  obtain ⟨a, ca, rfl, hca, hca2⟩ := ha.form
  unfold maxLen at hca2
  have HV := Lib.hid hv
  obtain ⟨⟨hn1, hn6⟩, ⟨ht1, ht60⟩, ⟨hl1, hl60⟩, hrow, _⟩ := id hv
  have HROW := Lib.hid hrow
  obtain ⟨W1, hW1⟩ : ∃ W1, W1 = w.alloc (.cells #[.int .i64 n, .int .i64 T, .slice a ms.length ca] 26) := ⟨_, rfl⟩
  have b1 : Below w.heap.size w W1 := by rw [hW1]; exact (Below.refl _ _).alloc (Nat.le_refl _) _
  have X := Lib.hid (fun W (h : Below W1.heap.size W1 W) => (show MpAt W1 w.heap.size n T (.slice a ms.length ca) by rw [hW1]; exact MpAt.new w n T _).below h)
  have B1 := Lib.hid b1
  have HW1 := Lib.hid hW1.symm
  have b2 : Below W1.heap.size W1 (W1.alloc (.cells #[.int .i64 n, .int .i64 T] 2)) := (Below.refl _ _).alloc (Nat.le_refl _) _
  have S2 := Lib.hid (show SlI (W1.alloc (.cells #[.int .i64 n, .int .i64 T] 2)) (.slice (some ⟨W1.heap.size, 0, none⟩) 2 2) [(n : Int), (T : Int)] from ⟨_, _, rfl, Nat.le_refl _, by decide, rd_new W1 #[.int .i64 n, .int .i64 T] 2⟩)
  have IN2 := Lib.hid (show In64 [(n : Int), (T : Int)] from by intro y hy; simp at hy; omega)
  have hds := decsB_small (xs := [(n : Int), (T : Int)]) (by simp; omega)
  have D1 := Lib.hid (decimals_any ⟨#[32]⟩ _ S2.out (by simp) IN2.out (by decide))
  have HB2 := Lib.hid b2
  generalize hd : decsB [(n : Int), (T : Int)] ⟨#[32]⟩ = ds at hds D1
  simp only [List.length_cons, List.length_nil] at hds
  have HT := Lib.hid (show mapsTx n T ms = linesMp ((⟨#[109, 97, 112, 115, 32]⟩ ++ ds) ++ ⟨#[10]⟩) ms from by unfold mapsTx headLn; rw [hd])
  have z1 : ¬ 9223372036854775807 < 5 + ds.size := by omega
  have z2 : ¬ 9223372036854775807 < 5 + ds.size + 1 := by omega
  obtain ⟨x0, x1, x2, x3⟩ := X.out _ (Below.refl _ _)
  clear ha hv hrow hW1 b1 b2 hd
  go_enter Try.func62, Try.ntmps62
  go_upto_region 1 with (fail)
  rw [HW1.out]
  go_wp2_with fail
  refine D1.out.mono ?_
  rintro e w2 ⟨rfl, b2⟩
  have C2 := Lib.hid (HB2.out.trans (b2.mono HB2.out.size))
  clear D1 b2 x0 x1 x2 x3
  obtain ⟨x0, x1, x2, x3⟩ := X.out _ C2.out
  have B2 := Lib.hid (B1.out.trans (C2.out.mono B1.out.size))
  go_wp2
  clear x0 x1 x2 x3
  go_loopw [3, 17] (fun tv iv wr => ∃ (k : Nat) (acc : ByteArray), k ≤ ms.length ∧ iv = .int .i64 k ∧ tv = .string acc ∧ acc.size ≤ 20 + 40 * k ∧ Hid (linesMp ((⟨#[109, 97, 112, 115, 32]⟩ ++ ds) ++ ⟨#[10]⟩) ms = linesMp acc (ms.drop k)) ∧ Below w.heap.size w wr) (fun _ iv _ => ms.length - (intOf iv).toNat)
  case atStart => exact ⟨0, _, Nat.zero_le _, rfl, rfl, by rw [ByteArray.size_append, ByteArray.size_append]; show 5 + _ + 1 ≤ _; omega, rfl, B2.out⟩
  case round =>
    clear B2 z1 z2
    obtain ⟨k, acc, hk, rfl, rfl, hsz, hln, hbr⟩ := hrel
    have HBR := Lib.hid hbr
    have k0 : (0 : Int) ≤ (k : Int) := by omega
    by_cases hlt : k < ms.length
    · have i1 : (k : Int) < (ms.length : Int) := by omega
      obtain ⟨mb, mo, ra, rca, wt, tl, hae, hmb, hwt, htl, gm1, gm2, sm⟩ := (HA.out _ hbr).atJ2 hlt
      subst hae
      have hr := HROW.out _ (List.getElem_mem hlt)
      have hwb := HV.out.wt hlt
      have hst := linesMp_step (acc := acc) hlt
      have he : ms[k] = (wt, tl) := by rw [hwt, htl]
      rw [he] at hst hr hwb
      rw [mapLn_eq] at hst
      simp only at hr hwb
      have s1 := decIB_two (n := wt) (by omega) (by omega)
      have s2 := decsB_small (xs := tl) (fun x hx => by have := hr.2.2 x hx; omega)
      have hl6 : tl.length ≤ 6 := by have := hr.2.1; omega
      have IN := Lib.hid (show In64 tl from fun x hx => by have := hr.2.2 x hx; omega)
      have D1 := Lib.hid (fun u => decimal_any wt u (by omega) (by omega))
      have bA : Below wr.heap.size wr (wr.alloc (.cells #[.int .i64 wt, .slice ra tl.length rca] 43)) := (Below.refl _ _).alloc (Nat.le_refl _) _
      have SM := Lib.hid (fun W (h : Below wr.heap.size wr W) => sm.below h)
      have D2 := Lib.hid (fun W (h : Below wr.heap.size wr W) => decimals_any ⟨#[32]⟩ W (SM.out _ h) (by omega) IN.out (by decide))
      generalize decIB wt = da at s1 D1 hst
      generalize decsB tl ⟨#[32]⟩ = db at s2 D2 hst
      have HST := Lib.hid hst
      have z1 : ¬ 9223372036854775807 < 4 + da.size := by omega
      have z2 : ¬ 9223372036854775807 < 4 + da.size + 3 := by omega
      have z3 : ¬ 9223372036854775807 < 4 + da.size + 3 + db.size := by omega
      have z4 : ¬ 9223372036854775807 < 4 + da.size + 3 + db.size + 1 := by omega
      have z5 : ¬ 9223372036854775807 < acc.size + (4 + da.size + 3 + db.size + 1) := by omega
      obtain ⟨wa, hwa⟩ : ∃ wa, wa = wr.alloc (.cells #[.int .i64 wt, .slice ra tl.length rca] 43) := ⟨_, rfl⟩
      have CX := Lib.hid (show CellsAt wa wr.heap.size [.int .i64 wt, .slice ra tl.length rca] by rw [hwa]; exact CellsAt.new' _ _ _ rfl)
      have HWA := Lib.hid hwa.symm
      rw [← hwa] at bA
      have BA := Lib.hid bA
      have D2 := Lib.hid (fun W (h : Below wa.heap.size wa W) => D2.out W (BA.out.trans (h.mono BA.out.size)))
      have BWA := Lib.hid (HBR.out.trans (bA.mono HBR.out.size))
      have e0 : wa.cell? ⟨wr.heap.size, 0, none⟩ = some (.int .i64 wt) := CX.out.get 0 _ rfl
      have e1 : wa.cell? ⟨wr.heap.size, 1, none⟩ = some (.slice ra tl.length rca) := CX.out.get 1 _ rfl
      have k1 := fun d os => cell_regrown e0 d os
      have k2 := fun d os => cell_regrown e1 d os
      clear hst hr hwb hwt htl he sm bA hwa hbr
      go_upto_region 5 with (fail)
      rw [HWA.out]
      refine wp_region_quiet_below (by kernel_rfl) (by kernel_rfl) ?_
      repeat (first | go_big_quiet_skip | quiet_step (first | (with_reducible exact Calls.regrown_of (D1.out _)) | (with_reducible exact Calls.regrown_of (D2.out _ (below_regrown _ _ _)))))
      refine wpQuiet_nil ?_
      intro _ hw'
      obtain ⟨⟨dq, osq⟩, hw''⟩ := hw'
      subst hw''
      have bq := BWA.out.trans ((below_regrown wa dq osq).mono BWA.out.size)
      generalize grow (redrawn wa dq) osq = wq at bq ⊢
      clear k1 k2 e0 e1 gm1 gm2 D1 D2
      go_wp2
      go_roundw
      case rel => exact ⟨k + 1, _, by omega, by go_num, rfl, by simp only [ByteArray.size_append]; show acc.size + (4 + _ + 3 + _ + 1) ≤ _; omega, by unfold Hid at *; rw [hln, HST], bq⟩
      case measure => simp [intOf]; omega
    · obtain rfl : k = ms.length := by omega
      have HTT := Lib.hid (show mapsTx n T ms = acc from by rw [HT.out, hln.out]; simp [linesMp])
      go_wp2
      go_ret
      exact ⟨rs HTT.out.symm, HBR.out⟩

set_option maxHeartbeats 1000000 in
theorem ImplMapsText_any {v : Value} {ms : List (Int × List Int)} (n T : Nat) (w : World) (ha : SlM w v ms) (hv : mapsOk n T ms) :
    Calls Try.prog 20 #[.agg #[.int .i64 n, .int .i64 T, v]] w fun e w' => e = .returned (.string (mapsTx n T ms)) ∧ Below w.heap.size w w' := by
  have HA := Lib.hid (fun W (h : Below w.heap.size w W) => ha.below h)
  obtain ⟨a, ca, rfl, hca, hca2⟩ := ha.form
  have HV := Lib.hid hv
  obtain ⟨W1, hW1⟩ : ∃ W1, W1 = w.alloc (.cells #[.int .i64 n, .int .i64 T, .slice a ms.length ca] 26) := ⟨_, rfl⟩
  have b1 : Below w.heap.size w W1 := by rw [hW1]; exact (Below.refl _ _).alloc (Nat.le_refl _) _
  have X := Lib.hid (fun W (h : Below W1.heap.size W1 W) => (show MpAt W1 w.heap.size n T (.slice a ms.length ca) by rw [hW1]; exact MpAt.new w n T _).below h)
  have B1 := Lib.hid b1
  have HW1 := Lib.hid hW1.symm
  obtain ⟨x0, x1, x2, x3⟩ := X.out _ (Below.refl _ _)
  generalize hT : mapsTx n T ms = S
  have HT := Lib.hid hT
  clear ha hv hW1 b1 hT
  go_enter Try.func20, Try.ntmps20
  go_wp2_with fail
  rw [HW1.out]
  refine (ValidMaps_ok _ (HA.out _ B1.out) HV.out).mono ?_
  rintro e w2 ⟨rfl, b2⟩
  have B2 := Lib.hid (B1.out.trans (b2.mono B1.out.size))
  clear x0 x1 x2 x3
  obtain ⟨x0, x1, x2, x3⟩ := X.out _ b2
  clear b2
  go_wp2_with fail
  refine (mapsText_any n T _ (HA.out _ B2.out) HV.out).mono ?_
  rintro e w3 ⟨rfl, b3⟩
  rw [HT.out]
  have B3 := Lib.hid (B2.out.trans (b3.mono B2.out.size))
  clear b3
  go_wp2
  go_ret
  exact ⟨rfl, B3.out⟩
end Go.Proofs.Ytceobhmbnkheiaa
