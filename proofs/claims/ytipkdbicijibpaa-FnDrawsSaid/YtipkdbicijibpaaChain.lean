/-
  Which chains are valid: the reference's look and the program's.
-/
import Derived.Test.YtipkdbicijibpaaBaseII
namespace Go.Proofs.Ytipkdbicijibpaa
open Go.RowKit Go.Sort

theorem l00In_b (x a b : Int) (w : World) :
    Calls Try.prog 52 #[.int .i64 x, .int .i64 a, .int .i64 b] w fun e w' => e = .returned (.bool (inR x a b)) ∧ Below w.heap.size w w' :=
  (l00In_any x a b w).mono fun _ _ ⟨h, hw⟩ => ⟨h, hw ▸ Below.refl _ _⟩
theorem inRange_b (x a b : Int) (w : World) :
    Calls Try.prog 70 #[.int .i64 x, .int .i64 a, .int .i64 b] w fun e w' => e = .returned (.bool (inR x a b)) ∧ Below w.heap.size w w' :=
  (inRange_any x a b w).mono fun _ _ ⟨h, hw⟩ => ⟨h, hw ▸ Below.refl _ _⟩

theorem rbf {b : Bool} (h : b = false) : Ending.returned (.bool false) = .returned (.bool b) := by rw [h]
theorem rbt {b : Bool} (h : b = true) : Ending.returned (.bool true) = .returned (.bool b) := by rw [h]
def inAll (r : List Int) (t : Int) : Bool := r.all fun x => inR x 0 t
def rowOk (s t : Int) (r : List Int) : Bool := decide ((r.length : Int) = s) && (inAll r t && decide (r.sum = t))
def rowsOk (s t : Int) (xss : List (List Int)) : Bool := xss.all (rowOk s t)
def chainOk (s t : Int) (xss : List (List Int)) : Bool := inR s 1 6 && (inR t 1 60 && (decide ((xss.length : Int) = s) && rowsOk s t xss))
theorem inAll_succ {r : List Int} {t : Int} {j : Nat} (h : inAll (r.take j) t = true) (hj : j < r.length) (hx : inR r[j] 0 t = true) : inAll (r.take (j + 1)) t = true := by
  unfold inAll at *
  rw [List.take_succ_eq_append_getElem hj, List.all_append, h]
  simp [hx]
theorem inAll_false {r : List Int} {t : Int} {j : Nat} (hj : j < r.length) (hx : inR r[j] 0 t = false) : inAll r t = false := by
  unfold inAll
  rw [List.all_eq_false]
  exact ⟨r[j], List.getElem_mem hj, by simp [hx]⟩
theorem sum_succ {r : List Int} {j : Nat} (hj : j < r.length) : (r.take (j + 1)).sum = (r.take j).sum + r[j] := by
  rw [List.take_succ_eq_append_getElem hj, List.sum_append]; simp
theorem inAll_sum {t : Int} (ht : t ≤ 60) : ∀ {r : List Int}, inAll r t = true → 0 ≤ r.sum ∧ r.sum ≤ 60 * (r.length : Int)
  | [], _ => by simp
  | x :: r, h => by
    unfold inAll at h
    rw [List.all_cons, Bool.and_eq_true] at h
    have h1 := inR_iff.1 h.1
    have h2 := inAll_sum ht (r := r) h.2
    simp only [List.sum_cons, List.length_cons]
    omega
theorem rowsOk_succ {s t : Int} {xss : List (List Int)} {k : Nat} (h : rowsOk s t (xss.take k) = true) (hk : k < xss.length) (hx : rowOk s t xss[k] = true) : rowsOk s t (xss.take (k + 1)) = true := by
  unfold rowsOk at *
  rw [List.take_succ_eq_append_getElem hk, List.all_append, h]
  simp [hx]
theorem rowsOk_false {s t : Int} {xss : List (List Int)} {k : Nat} (hk : k < xss.length) (hx : rowOk s t xss[k] = false) : rowsOk s t xss = false := by
  unfold rowsOk
  rw [List.all_eq_false]
  exact ⟨xss[k], List.getElem_mem hk, by simp [hx]⟩
theorem rowOk_len {s t : Int} {r : List Int} (h : ¬ (r.length : Int) = s) : rowOk s t r = false := by simp [rowOk, h]
theorem rowOk_in {s t : Int} {r : List Int} (h : inAll r t = false) : rowOk s t r = false := by simp [rowOk, h]
theorem rowOk_sum {s t : Int} {r : List Int} (h : ¬ r.sum = t) : rowOk s t r = false := by simp [rowOk, h]
theorem rowOk_yes {s t : Int} {r : List Int} (h1 : (r.length : Int) = s) (h2 : inAll r t = true) (h3 : r.sum = t) : rowOk s t r = true := by simp [rowOk, h1, h2, h3]

/-- three cells: a chain -/
def ChainAt (w : World) (b o : Nat) (s t : Int) (v : Value) : Prop :=
  b < w.heap.size ∧ w.cell? ⟨b, o, none⟩ = some (.int .i64 s) ∧ w.cell? ⟨b, o + 1, none⟩ = some (.int .i64 t) ∧ w.cell? ⟨b, o + 2, none⟩ = some v
theorem ChainAt.below {w w' : World} {b o : Nat} {s t : Int} {v : Value} (h : ChainAt w b o s t v) (hb : Below w.heap.size w w') : ChainAt w' b o s t v :=
  ⟨Nat.lt_of_lt_of_le h.1 hb.size, by rw [hb.cell (p := ⟨b, o, none⟩) h.1]; exact h.2.1, by rw [hb.cell (p := ⟨b, o + 1, none⟩) h.1]; exact h.2.2.1, by rw [hb.cell (p := ⟨b, o + 2, none⟩) h.1]; exact h.2.2.2⟩

/-- a row at its place -/
def RowAt (w : World) (b off k : Nat) (u : Value) (r : List Int) : Prop := b < w.heap.size ∧ w.cell? ⟨b, off + k, none⟩ = some u ∧ SlI w u r
theorem RowAt.below {w w' : World} {b off k : Nat} {u : Value} {r : List Int} (h : RowAt w b off k u r) (hb : Below w.heap.size w w') : RowAt w' b off k u r :=
  ⟨Nat.lt_of_lt_of_le h.1 hb.size, by rw [hb.cell (p := ⟨b, off + k, none⟩) h.1]; exact h.2.1, h.2.2.below hb⟩
theorem SlII.rowAt {w : World} {ad : Option Addr} {vs : List Value} {xss : List (List Int)} (hl : vs.length = xss.length) (h : Rd w ad vs) (hr : ∀ (i : Nat) (hi : i < xss.length) u, vs[i]? = some u → SlI w u xss[i]) {k : Nat} (hk : k < xss.length) :
    ∃ u b off, ad = some ⟨b, off, none⟩ ∧ RowAt w b off k u xss[k] := by
  obtain ⟨b, off, h1, h2, h3⟩ := h k _ (List.getElem?_eq_getElem (by omega : k < vs.length))
  exact ⟨_, b, off, h1, h2, h3, hr k hk _ (List.getElem?_eq_getElem (by omega))⟩
set_option maxRecDepth 100000 in
set_option maxHeartbeats 2000000 in
theorem l01Ok_rows {v : Value} {xss : List (List Int)} (b o : Nat) (s t : Int) (w : World) (hc : ChainAt w b o s t v) (ha : SlII w v xss) (hs : inR s 1 6 = true) (ht : inR t 1 60 = true) (hl : (xss.length : Int) = s) :
    Calls Try.prog 51 #[.pointer (some ⟨b, o, none⟩)] w fun e w' => e = .returned (.bool (chainOk s t xss)) ∧ Below w.heap.size w w' := by
  obtain ⟨a, ca, us, rfl, hca, hca', hul, hrd, hrow⟩ := ha
  unfold maxLen at hca'
  have hn : xss.length ≤ 9223372036854775807 := by omega
  have HC := Lib.hid hc
  have HU := Lib.hid hul
  have HR := Lib.hid hrow
  obtain ⟨c0, c1, c2, c3⟩ := hc
  have k1 := fun d os => cell_regrown c1 d os
  have k2 := fun d os => cell_regrown c2 d os
  have k3 := fun d os => cell_regrown c3 d os
  clear hca hca' hul hrow
  have hls : ((xss.length : Int) != s) = false := by simp [hl]
  have hsb := inR_iff.1 hs
  have htb := inR_iff.1 ht
  have hs1 : 1 ≤ s := hsb.1
  have hs6 : s ≤ 6 := hsb.2
  have ht1 : 1 ≤ t := htb.1
  have ht60 : t ≤ 60 := htb.2
  have HL := Lib.hid hl
  have HD : Hid (chainOk s t xss = rowsOk s t xss) := by unfold Hid chainOk; rw [hs, ht, decide_eq_true hl]; rfl
  clear hl hsb htb
  go_enter Try.func51, Try.ntmps51
  go_wp2_with fail
  have bw := Below.refl w.heap.size w
  refine wp_region_quiet_below (by kernel_rfl) (by kernel_rfl) ?_
  repeat (first | go_big_quiet_skip | quiet_step (exact Calls.regrown_of (l00In_b _ _ _ _)))
  refine wpQuiet_nil ?_
  intro _ hw'
  obtain ⟨⟨dq, osq⟩, hw''⟩ := hw'
  subst hw''
  have bq := bw.trans ((below_regrown w dq osq).mono bw.size)
  generalize grow (redrawn w dq) osq = wq at bq ⊢
  clear k1 k2 k3 bw
  go_wp2
  go_loopw [3] (fun i wr => ∃ k : Nat, k ≤ xss.length ∧ i = .int .i64 k ∧ rowsOk s t (xss.take k) = true ∧ Below w.heap.size w wr) (fun i _ => xss.length - (intOf i).toNat)
  case atStart => exact ⟨0, Nat.zero_le _, rfl, by simp [rowsOk], bq⟩
  case round =>
    clear bq
    obtain ⟨k, hk, rfl, hall, hbw⟩ := hrel
    have HA := Lib.hid hall
    clear hall
    by_cases hlt : k < xss.length
    · obtain ⟨x, ba, oa, rfl, hrowk⟩ := SlII.rowAt HU.out hrd HR.out hlt
      generalize hr : xss[k] = r at hrowk
      have HRW := Lib.hid hr
      obtain ⟨ra, rc, rfl, hrc, hrc', hrr⟩ := id hrowk.2.2
      unfold maxLen at hrc'
      have HRK := Lib.hid hrowk
      obtain ⟨d0, d1, d2, d3⟩ := HC.out.below hbw
      obtain ⟨g0, ga, _⟩ := HRK.out.below hbw
      have k1 := fun d os => cell_regrown d1 d os
      have k2 := fun d os => cell_regrown d2 d os
      have k3 := fun d os => cell_regrown d3 d os
      have k4 := fun d os => cell_regrown ga d os
      have i0 : (0 : Int) ≤ (k : Int) := by omega
      have i1 : (k : Int) < (xss.length : Int) := by omega
      clear hr hrc hrowk
      by_cases hrl : (r.length : Int) = s
      · have hrs : ((r.length : Int) != s) = false := by simp [hrl]
        have hr6 : r.length ≤ 6 := by omega
        have HRL := Lib.hid hrl
        clear hrl
        go_wp2_with fail
        refine wp_region_quiet_below (by kernel_rfl) (by kernel_rfl) ?_
        repeat (first | go_big_quiet_skip | quiet_step (fail))
        refine wpQuiet_nil ?_
        intro _ hw'
        obtain ⟨⟨dq, osq⟩, hw''⟩ := hw'
        subst hw''
        have bq := hbw.trans ((below_regrown wr dq osq).mono hbw.size)
        generalize grow (redrawn wr dq) osq = wq at bq ⊢
        clear k1 k2 k3 k4 d1 d2 d3 ga
        go_wp2
        go_loopw [4, 5] (fun q i wr => ∃ j : Nat, j ≤ r.length ∧ i = .int .i64 j ∧ q = .int .i64 (r.take j).sum ∧ inAll (r.take j) t = true ∧ Below w.heap.size w wr) (fun _ i _ => r.length - (intOf i).toNat)
        case atStart => exact ⟨0, Nat.zero_le _, rfl, rfl, by simp [inAll], bq⟩
        case round =>
          clear bq hbw
          obtain ⟨j, hj, rfl, rfl, hin, hbr⟩ := hrel
          have hsum := inAll_sum ht60 hin
          have hlen : (r.take j).length ≤ 6 := by simp; omega
          have hsb0 : 0 ≤ (r.take j).sum := hsum.1
          have hsb1 : (r.take j).sum ≤ 1000 := by omega
          have HIN := Lib.hid hin
          clear hin hsum
          obtain ⟨d0, d1, d2, d3⟩ := HC.out.below hbr
          obtain ⟨g0, ga, _⟩ := HRK.out.below hbr
          have k1 := fun d os => cell_regrown d1 d os
          have k2 := fun d os => cell_regrown d2 d os
          have k3 := fun d os => cell_regrown d3 d os
          have k4 := fun d os => cell_regrown ga d os
          by_cases hjt : j < r.length
          · obtain ⟨rb, ro, rfl, gr⟩ := (hrr.below hbr).one (i64s_get hjt)
            have k5 := fun d os => cell_regrown gr d os
            have i2 : (0 : Int) ≤ (j : Int) := by omega
            have i3 : (j : Int) < (r.length : Int) := by omega
            by_cases hx : inR r[j] 0 t = true
            · have hxb := inR_iff.1 hx
              have hx0 : 0 ≤ r[j] := hxb.1
              have hx1 : r[j] ≤ 60 := by omega
              clear hxb
              go_wp2_with fail
              refine wp_region_quiet_below (by kernel_rfl) (by kernel_rfl) ?_
              repeat (first | go_big_quiet_skip | quiet_step (exact Calls.regrown_of (l00In_b _ _ _ _)))
              refine wpQuiet_nil ?_
              intro _ hw'
              obtain ⟨⟨dq, osq⟩, hw''⟩ := hw'
              subst hw''
              have bq2 := hbr.trans ((below_regrown wr dq osq).mono hbr.size)
              generalize grow (redrawn wr dq) osq = wq2 at bq2 ⊢
              clear k1 k2 k3 k4 k5 d1 d2 d3 ga gr
              obtain ⟨d0, d1, d2, d3⟩ := HC.out.below bq2
              obtain ⟨g0, ga, _⟩ := HRK.out.below bq2
              obtain ⟨rb2, ro2, he, gr⟩ := (hrr.below bq2).one (i64s_get hjt)
              simp at he
              obtain ⟨rfl, rfl⟩ := he
              go_wp2
              go_roundw
              case rel => exact ⟨j + 1, by omega, by go_num, vi (sum_succ hjt).symm, inAll_succ HIN.out hjt hx, bq2⟩
              case measure => simp [intOf]; omega
            · have hx' : inR r[j] 0 t = false := by simpa using hx
              go_wp2_with fail
              refine wp_region_quiet_below (by kernel_rfl) (by kernel_rfl) ?_
              repeat (first | go_big_quiet_skip | quiet_step (exact Calls.regrown_of (l00In_b _ _ _ _)))
              refine wpQuiet_nil ?_
              intro _ hw'
              obtain ⟨⟨dq, osq⟩, hw''⟩ := hw'
              subst hw''
              have bq2 := hbr.trans ((below_regrown wr dq osq).mono hbr.size)
              generalize grow (redrawn wr dq) osq = wq2 at bq2 ⊢
              clear k1 k2 k3 k4 k5
              go_wp2
              go_ret
              exact ⟨rbf (by rw [HD.out]; exact rowsOk_false hlt (by rw [HRW.out]; exact rowOk_in (inAll_false hjt hx'))), bq2⟩
          · obtain rfl : j = r.length := by omega
            have hin2 := HIN.out
            rw [List.take_length] at hin2 hsb0 hsb1
            have HI2 := Lib.hid hin2
            clear hin2 hjt hj hlen HIN
            by_cases hst : r.sum = t
            · have hst' : (r.sum != t) = false := by simp [hst]
              have HST := Lib.hid hst
              clear hst k1 k2 k3 k4
              go_wp2
              go_roundw
              case rel => exact ⟨k + 1, by omega, by go_num, rowsOk_succ HA.out hlt (by rw [HRW.out]; exact rowOk_yes HRL.out HI2.out HST.out), hbr⟩
              case measure => simp [intOf]; omega
            · have hst' : (r.sum != t) = true := by simp [hst]
              have HST := Lib.hid hst
              clear hst k1 k2 k3 k4
              go_wp2
              go_ret
              exact ⟨rbf (by rw [HD.out]; exact rowsOk_false hlt (by rw [HRW.out]; exact rowOk_sum HST.out)), hbr⟩
      · have hrs : ((r.length : Int) != s) = true := by simp [hrl]
        have HRL := Lib.hid hrl
        clear hrl
        go_wp2_with fail
        refine wp_region_quiet_below (by kernel_rfl) (by kernel_rfl) ?_
        repeat (first | go_big_quiet_skip | quiet_step (fail))
        refine wpQuiet_nil ?_
        intro _ hw'
        obtain ⟨⟨dq, osq⟩, hw''⟩ := hw'
        subst hw''
        have bq := hbw.trans ((below_regrown wr dq osq).mono hbw.size)
        generalize grow (redrawn wr dq) osq = wq at bq ⊢
        clear k1 k2 k3 k4 d1 d2 d3 ga
        go_wp2
        go_ret
        exact ⟨rbf (by rw [HD.out]; exact rowsOk_false hlt (by rw [HRW.out]; exact rowOk_len HRL.out)), bq⟩
    · have ht := HA.out
      obtain ⟨d0, d1, d2, d3⟩ := HC.out.below hbw
      obtain rfl : k = xss.length := by omega
      go_wp2
      go_ret
      exact ⟨rb (by rw [HD.out]; rw [List.take_of_length_le (Nat.le_refl _)] at ht; exact ht.symm), hbw⟩
set_option maxRecDepth 100000 in
set_option maxHeartbeats 2000000 in
theorem l01Ok_bad1 {v : Value} {xss : List (List Int)} (b o : Nat) (s t : Int) (w : World) (hc : ChainAt w b o s t v) (ha : SlII w v xss) (hs : inR s 1 6 = true) (ht : inR t 1 60 = true) (hl : ¬ (xss.length : Int) = s) :
    Calls Try.prog 51 #[.pointer (some ⟨b, o, none⟩)] w fun e w' => e = .returned (.bool (chainOk s t xss)) ∧ Below w.heap.size w w' := by
  obtain ⟨a, ca, us, rfl, hca, hca', hul, hrd, hrow⟩ := ha
  unfold maxLen at hca'
  have hn : xss.length ≤ 9223372036854775807 := by omega
  have HC := Lib.hid hc
  have HU := Lib.hid hul
  have HR := Lib.hid hrow
  obtain ⟨c0, c1, c2, c3⟩ := hc
  have k1 := fun d os => cell_regrown c1 d os
  have k2 := fun d os => cell_regrown c2 d os
  have k3 := fun d os => cell_regrown c3 d os
  clear hca hca' hul hrow
  have hls : ((xss.length : Int) != s) = true := by simp [hl]
  have HD : Hid (chainOk s t xss = false) := by unfold Hid chainOk; simp [hl]
  clear hl
  go_enter Try.func51, Try.ntmps51
  go_wp2_with fail
  have bw := Below.refl w.heap.size w
  refine wp_region_quiet_below (by kernel_rfl) (by kernel_rfl) ?_
  repeat (first | go_big_quiet_skip | quiet_step (exact Calls.regrown_of (l00In_b _ _ _ _)))
  refine wpQuiet_nil ?_
  intro _ hw'
  obtain ⟨⟨dq, osq⟩, hw''⟩ := hw'
  subst hw''
  have bq := bw.trans ((below_regrown w dq osq).mono bw.size)
  generalize grow (redrawn w dq) osq = wq at bq ⊢
  go_wp2
  go_ret
  exact ⟨rbf HD.out, bq⟩
set_option maxRecDepth 100000 in
set_option maxHeartbeats 2000000 in
theorem l01Ok_bad2 {v : Value} {xss : List (List Int)} (b o : Nat) (s t : Int) (w : World) (hc : ChainAt w b o s t v) (ha : SlII w v xss) (hs : inR s 1 6 = true) (ht : ¬ inR t 1 60 = true) :
    Calls Try.prog 51 #[.pointer (some ⟨b, o, none⟩)] w fun e w' => e = .returned (.bool (chainOk s t xss)) ∧ Below w.heap.size w w' := by
  obtain ⟨a, ca, us, rfl, hca, hca', hul, hrd, hrow⟩ := ha
  unfold maxLen at hca'
  have hn : xss.length ≤ 9223372036854775807 := by omega
  have HC := Lib.hid hc
  have HU := Lib.hid hul
  have HR := Lib.hid hrow
  obtain ⟨c0, c1, c2, c3⟩ := hc
  have k1 := fun d os => cell_regrown c1 d os
  have k2 := fun d os => cell_regrown c2 d os
  have k3 := fun d os => cell_regrown c3 d os
  clear hca hca' hul hrow
  have ht' : inR t 1 60 = false := by simpa using ht
  have HD : Hid (chainOk s t xss = false) := by unfold Hid chainOk; simp [ht']
  clear ht
  go_enter Try.func51, Try.ntmps51
  go_wp2_with fail
  have bw := Below.refl w.heap.size w
  refine wp_region_quiet_below (by kernel_rfl) (by kernel_rfl) ?_
  repeat (first | go_big_quiet_skip | quiet_step (exact Calls.regrown_of (l00In_b _ _ _ _)))
  refine wpQuiet_nil ?_
  intro _ hw'
  obtain ⟨⟨dq, osq⟩, hw''⟩ := hw'
  subst hw''
  have bq := bw.trans ((below_regrown w dq osq).mono bw.size)
  generalize grow (redrawn w dq) osq = wq at bq ⊢
  go_wp2
  go_ret
  exact ⟨rbf HD.out, bq⟩
set_option maxRecDepth 100000 in
set_option maxHeartbeats 2000000 in
theorem l01Ok_bad3 {v : Value} {xss : List (List Int)} (b o : Nat) (s t : Int) (w : World) (hc : ChainAt w b o s t v) (ha : SlII w v xss) (hs : ¬ inR s 1 6 = true) :
    Calls Try.prog 51 #[.pointer (some ⟨b, o, none⟩)] w fun e w' => e = .returned (.bool (chainOk s t xss)) ∧ Below w.heap.size w w' := by
  obtain ⟨a, ca, us, rfl, hca, hca', hul, hrd, hrow⟩ := ha
  unfold maxLen at hca'
  have hn : xss.length ≤ 9223372036854775807 := by omega
  have HC := Lib.hid hc
  have HU := Lib.hid hul
  have HR := Lib.hid hrow
  obtain ⟨c0, c1, c2, c3⟩ := hc
  have k1 := fun d os => cell_regrown c1 d os
  have k2 := fun d os => cell_regrown c2 d os
  have k3 := fun d os => cell_regrown c3 d os
  clear hca hca' hul hrow
  have hs' : inR s 1 6 = false := by simpa using hs
  have HD : Hid (chainOk s t xss = false) := by unfold Hid chainOk; simp [hs']
  clear hs
  go_enter Try.func51, Try.ntmps51
  go_wp2_with fail
  have bw := Below.refl w.heap.size w
  refine wp_region_quiet_below (by kernel_rfl) (by kernel_rfl) ?_
  repeat (first | go_big_quiet_skip | quiet_step (exact Calls.regrown_of (l00In_b _ _ _ _)))
  refine wpQuiet_nil ?_
  intro _ hw'
  obtain ⟨⟨dq, osq⟩, hw''⟩ := hw'
  subst hw''
  have bq := bw.trans ((below_regrown w dq osq).mono bw.size)
  generalize grow (redrawn w dq) osq = wq at bq ⊢
  go_wp2
  go_ret
  exact ⟨rbf HD.out, bq⟩
theorem l01Ok_any {v : Value} {xss : List (List Int)} (b o : Nat) (s t : Int) (w : World) (hc : ChainAt w b o s t v) (ha : SlII w v xss) :
    Calls Try.prog 51 #[.pointer (some ⟨b, o, none⟩)] w fun e w' => e = .returned (.bool (chainOk s t xss)) ∧ Below w.heap.size w w' := by
  by_cases hs : inR s 1 6 = true
  · by_cases ht : inR t 1 60 = true
    · by_cases hl : (xss.length : Int) = s
      · exact l01Ok_rows b o s t w hc ha hs ht hl
      · exact l01Ok_bad1 b o s t w hc ha hs ht hl
    · exact l01Ok_bad2 b o s t w hc ha hs ht
  · exact l01Ok_bad3 b o s t w hc ha hs
end Go.Proofs.Ytipkdbicijibpaa
