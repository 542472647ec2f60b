/-
  Small words for laws whose arguments are []int64. With it: The law package's own helpers on [][]int64: counted, copied, equal. Which chains are valid: the reference's look and the program's. Which chains are valid: the program's look. Chains and services: counted, copied, compared. Which services are valid. Which records are valid for a valid service. Arguments of laws: boxed services. One step by a draw: the reference's and the program's.
-/
import Derived.Test.YtofpelmplcoegaaGreatZRowFnPlantScript3
import Derived.Lib.QuietBelow
set_option linter.unusedVariables false
set_option linter.unusedSimpArgs false
namespace Go.Proofs.YtofpelmplcoegaaGreat
open Go.RowKit Go.Sort

def sz1 (l : Int) (n : Nat) : Int := if l - n < 0 then -1 else l - n
def szRows : Int → List (List Int) → Int
  | l, [] => l
  | l, r :: rs => if sz1 l r.length < 0 then -1 else szRows (sz1 l r.length) rs
def szII (l : Int) (xss : List (List Int)) : Int := if l - xss.length < 0 then -1 else szRows (l - xss.length) xss
theorem SlII.row {w : World} {ad : Option Addr} {vs : List Value} {xss : List (List Int)} (hl : vs.length = xss.length) (h : Rd w ad vs) (hr : ∀ (i : Nat) (hi : i < xss.length) u, vs[i]? = some u → SlI w u xss[i]) {k : Nat} (hk : k < xss.length) :
    ∃ u b off, ad = some ⟨b, off, none⟩ ∧ w.cell? ⟨b, off + k, none⟩ = some u ∧ SlI w u xss[k] := by
  obtain ⟨b, off, h1, h2⟩ := h.one (List.getElem?_eq_getElem (by omega : k < vs.length))
  exact ⟨_, b, off, h1, h2, hr k hk _ (List.getElem?_eq_getElem (by omega))⟩

end Go.Proofs.YtofpelmplcoegaaGreat
namespace Go.Proofs.YtofpelmplcoegaaGreat
open Go.RowKit Go.Sort

theorem l00In_b (x a b : Int) (w : World) :
    Calls Tryz.prog 85 #[.int .i64 x, .int .i64 a, .int .i64 b] w fun e w' => e = .returned (.bool (inR x a b)) ∧ Below w.heap.size w w' :=
  (l00In_any x a b w).mono fun _ _ ⟨h, hw⟩ => ⟨h, hw ▸ Below.refl _ _⟩
theorem rbf {b : Bool} (h : b = false) : Ending.returned (.bool false) = .returned (.bool b) := by rw [h]
theorem rbt {b : Bool} (h : b = true) : Ending.returned (.bool true) = .returned (.bool b) := by rw [h]
def inAll (r : List Int) (t : Int) : Bool := r.all fun x => inR x 0 t
def rowOk (s t : Int) (r : List Int) : Bool := decide ((r.length : Int) = s) && (inAll r t && decide (r.sum = t))
def rowsOk (s t : Int) (xss : List (List Int)) : Bool := xss.all (rowOk s t)
def chainOk (s t : Int) (xss : List (List Int)) : Bool := inR s 1 6 && (inR t 1 60 && (decide ((xss.length : Int) = s) && rowsOk s t xss))
theorem inAll_succ {r : List Int} {t : Int} {j : Nat} (h : inAll (r.take j) t = true) (hj : j < r.length) (hx : inR r[j] 0 t = true) : inAll (r.take (j + 1)) t = true := by
  unfold inAll at *
  rw [List.take_succ_eq_append_getElem hj, List.all_append, h]
  simp [hx]
theorem inAll_false {r : List Int} {t : Int} {j : Nat} (hj : j < r.length) (hx : inR r[j] 0 t = false) : inAll r t = false := by
  unfold inAll
  rw [List.all_eq_false]
  exact ⟨r[j], List.getElem_mem hj, by simp [hx]⟩
theorem sum_succ {r : List Int} {j : Nat} (hj : j < r.length) : (r.take (j + 1)).sum = (r.take j).sum + r[j] := by
  rw [List.take_succ_eq_append_getElem hj, List.sum_append]; simp
theorem inAll_sum {t : Int} (ht : t ≤ 60) : ∀ {r : List Int}, inAll r t = true → 0 ≤ r.sum ∧ r.sum ≤ 60 * (r.length : Int)
  | [], _ => by simp
  | x :: r, h => by
    unfold inAll at h
    rw [List.all_cons, Bool.and_eq_true] at h
    have h1 := inR_iff.1 h.1
    have h2 := inAll_sum ht (r := r) h.2
    simp only [List.sum_cons, List.length_cons]
    omega
theorem rowsOk_succ {s t : Int} {xss : List (List Int)} {k : Nat} (h : rowsOk s t (xss.take k) = true) (hk : k < xss.length) (hx : rowOk s t xss[k] = true) : rowsOk s t (xss.take (k + 1)) = true := by
  unfold rowsOk at *
  rw [List.take_succ_eq_append_getElem hk, List.all_append, h]
  simp [hx]
theorem rowsOk_false {s t : Int} {xss : List (List Int)} {k : Nat} (hk : k < xss.length) (hx : rowOk s t xss[k] = false) : rowsOk s t xss = false := by
  unfold rowsOk
  rw [List.all_eq_false]
  exact ⟨xss[k], List.getElem_mem hk, by simp [hx]⟩
theorem rowOk_len {s t : Int} {r : List Int} (h : ¬ (r.length : Int) = s) : rowOk s t r = false := by simp [rowOk, h]
theorem rowOk_in {s t : Int} {r : List Int} (h : inAll r t = false) : rowOk s t r = false := by simp [rowOk, h]
theorem rowOk_sum {s t : Int} {r : List Int} (h : ¬ r.sum = t) : rowOk s t r = false := by simp [rowOk, h]
theorem rowOk_yes {s t : Int} {r : List Int} (h1 : (r.length : Int) = s) (h2 : inAll r t = true) (h3 : r.sum = t) : rowOk s t r = true := by simp [rowOk, h1, h2, h3]

/-- three cells: a chain -/
def ChainAt (w : World) (b o : Nat) (s t : Int) (v : Value) : Prop :=
  b < w.heap.size ∧ w.cell? ⟨b, o, none⟩ = some (.int .i64 s) ∧ w.cell? ⟨b, o + 1, none⟩ = some (.int .i64 t) ∧ w.cell? ⟨b, o + 2, none⟩ = some v
theorem ChainAt.below {w w' : World} {b o : Nat} {s t : Int} {v : Value} (h : ChainAt w b o s t v) (hb : Below w.heap.size w w') : ChainAt w' b o s t v :=
  ⟨Nat.lt_of_lt_of_le h.1 hb.size, by rw [hb.cell (p := ⟨b, o, none⟩) h.1]; exact h.2.1, by rw [hb.cell (p := ⟨b, o + 1, none⟩) h.1]; exact h.2.2.1, by rw [hb.cell (p := ⟨b, o + 2, none⟩) h.1]; exact h.2.2.2⟩

/-- a row at its place -/
def RowAt (w : World) (b off k : Nat) (u : Value) (r : List Int) : Prop := b < w.heap.size ∧ w.cell? ⟨b, off + k, none⟩ = some u ∧ SlI w u r
theorem RowAt.below {w w' : World} {b off k : Nat} {u : Value} {r : List Int} (h : RowAt w b off k u r) (hb : Below w.heap.size w w') : RowAt w' b off k u r :=
  ⟨Nat.lt_of_lt_of_le h.1 hb.size, by rw [hb.cell (p := ⟨b, off + k, none⟩) h.1]; exact h.2.1, h.2.2.below hb⟩
theorem SlII.rowAt {w : World} {ad : Option Addr} {vs : List Value} {xss : List (List Int)} (hl : vs.length = xss.length) (h : Rd w ad vs) (hr : ∀ (i : Nat) (hi : i < xss.length) u, vs[i]? = some u → SlI w u xss[i]) {k : Nat} (hk : k < xss.length) :
    ∃ u b off, ad = some ⟨b, off, none⟩ ∧ RowAt w b off k u xss[k] := by
  obtain ⟨b, off, h1, h2, h3⟩ := h k _ (List.getElem?_eq_getElem (by omega : k < vs.length))
  exact ⟨_, b, off, h1, h2, h3, hr k hk _ (List.getElem?_eq_getElem (by omega))⟩
set_option maxRecDepth 100000 in
set_option maxHeartbeats 2000000 in
theorem l01Ok_rows {v : Value} {xss : List (List Int)} (b o : Nat) (s t : Int) (w : World) (hc : ChainAt w b o s t v) (ha : SlII w v xss) (hs : inR s 1 6 = true) (ht : inR t 1 60 = true) (hl : (xss.length : Int) = s) :
    Calls Tryz.prog 100 #[.pointer (some ⟨b, o, none⟩)] w fun e w' => e = .returned (.bool (chainOk s t xss)) ∧ Below w.heap.size w w' := by
  obtain ⟨a, ca, us, rfl, hca, hca', hul, hrd, hrow⟩ := ha
  unfold maxLen at hca'
  have hn : xss.length ≤ 9223372036854775807 := by omega
  have HC := Lib.hid hc
  have HU := Lib.hid hul
  have HR := Lib.hid hrow
  obtain ⟨c0, c1, c2, c3⟩ := hc
  have k1 := fun d os => cell_regrown c1 d os
  have k2 := fun d os => cell_regrown c2 d os
  have k3 := fun d os => cell_regrown c3 d os
  clear hca hca' hul hrow
  have hls : ((xss.length : Int) != s) = false := by simp [hl]
  have hsb := inR_iff.1 hs
  have htb := inR_iff.1 ht
  have hs1 : 1 ≤ s := hsb.1
  have hs6 : s ≤ 6 := hsb.2
  have ht1 : 1 ≤ t := htb.1
  have ht60 : t ≤ 60 := htb.2
  have HL := Lib.hid hl
  have HD : Hid (chainOk s t xss = rowsOk s t xss) := by unfold Hid chainOk; rw [hs, ht, decide_eq_true hl]; rfl
  clear hl hsb htb
  go_enter Tryz.func100, Tryz.ntmps100
  go_wp2_with fail
  have bw := Below.refl w.heap.size w
  refine wp_region_quiet_below (by kernel_rfl) (by kernel_rfl) ?_
  repeat (first | go_big_quiet_skip | quiet_step (exact Calls.regrown_of (l00In_b _ _ _ _)))
  refine wpQuiet_nil ?_
  intro _ hw'
  obtain ⟨⟨dq, osq⟩, hw''⟩ := hw'
  subst hw''
  have bq := bw.trans ((below_regrown w dq osq).mono bw.size)
  generalize grow (redrawn w dq) osq = wq at bq ⊢
  clear k1 k2 k3 bw
  go_wp2
  go_loopw [3] (fun i wr => ∃ k : Nat, k ≤ xss.length ∧ i = .int .i64 k ∧ rowsOk s t (xss.take k) = true ∧ Below w.heap.size w wr) (fun i _ => xss.length - (intOf i).toNat)
  case atStart => exact ⟨0, Nat.zero_le _, rfl, by simp [rowsOk], bq⟩
  case round =>
    clear bq
    obtain ⟨k, hk, rfl, hall, hbw⟩ := hrel
    have HA := Lib.hid hall
    clear hall
    by_cases hlt : k < xss.length
    · obtain ⟨x, ba, oa, rfl, hrowk⟩ := SlII.rowAt HU.out hrd HR.out hlt
      generalize hr : xss[k] = r at hrowk
      have HRW := Lib.hid hr
      obtain ⟨ra, rc, rfl, hrc, hrc', hrr⟩ := id hrowk.2.2
      unfold maxLen at hrc'
      have HRK := Lib.hid hrowk
      obtain ⟨d0, d1, d2, d3⟩ := HC.out.below hbw
      obtain ⟨g0, ga, _⟩ := HRK.out.below hbw
      have k1 := fun d os => cell_regrown d1 d os
      have k2 := fun d os => cell_regrown d2 d os
      have k3 := fun d os => cell_regrown d3 d os
      have k4 := fun d os => cell_regrown ga d os
      have i0 : (0 : Int) ≤ (k : Int) := by omega
      have i1 : (k : Int) < (xss.length : Int) := by omega
      clear hr hrc hrowk
      by_cases hrl : (r.length : Int) = s
      · have hrs : ((r.length : Int) != s) = false := by simp [hrl]
        have hr6 : r.length ≤ 6 := by omega
        have HRL := Lib.hid hrl
        clear hrl
        go_wp2_with fail
        refine wp_region_quiet_below (by kernel_rfl) (by kernel_rfl) ?_
        repeat (first | go_big_quiet_skip | quiet_step (fail))
        refine wpQuiet_nil ?_
        intro _ hw'
        obtain ⟨⟨dq, osq⟩, hw''⟩ := hw'
        subst hw''
        have bq := hbw.trans ((below_regrown wr dq osq).mono hbw.size)
        generalize grow (redrawn wr dq) osq = wq at bq ⊢
        clear k1 k2 k3 k4 d1 d2 d3 ga
        go_wp2
        go_loopw [4, 5] (fun q i wr => ∃ j : Nat, j ≤ r.length ∧ i = .int .i64 j ∧ q = .int .i64 (r.take j).sum ∧ inAll (r.take j) t = true ∧ Below w.heap.size w wr) (fun _ i _ => r.length - (intOf i).toNat)
        case atStart => exact ⟨0, Nat.zero_le _, rfl, rfl, by simp [inAll], bq⟩
        case round =>
          clear bq hbw
          obtain ⟨j, hj, rfl, rfl, hin, hbr⟩ := hrel
          have hsum := inAll_sum ht60 hin
          have hlen : (r.take j).length ≤ 6 := by simp; omega
          have hsb0 : 0 ≤ (r.take j).sum := hsum.1
          have hsb1 : (r.take j).sum ≤ 1000 := by omega
          have HIN := Lib.hid hin
          clear hin hsum
          obtain ⟨d0, d1, d2, d3⟩ := HC.out.below hbr
          obtain ⟨g0, ga, _⟩ := HRK.out.below hbr
          have k1 := fun d os => cell_regrown d1 d os
          have k2 := fun d os => cell_regrown d2 d os
          have k3 := fun d os => cell_regrown d3 d os
          have k4 := fun d os => cell_regrown ga d os
          by_cases hjt : j < r.length
          · obtain ⟨rb, ro, rfl, gr⟩ := (hrr.below hbr).one (i64s_get hjt)
            have k5 := fun d os => cell_regrown gr d os
            have i2 : (0 : Int) ≤ (j : Int) := by omega
            have i3 : (j : Int) < (r.length : Int) := by omega
            by_cases hx : inR r[j] 0 t = true
            · have hxb := inR_iff.1 hx
              have hx0 : 0 ≤ r[j] := hxb.1
              have hx1 : r[j] ≤ 60 := by omega
              clear hxb
              go_wp2_with fail
              refine wp_region_quiet_below (by kernel_rfl) (by kernel_rfl) ?_
              repeat (first | go_big_quiet_skip | quiet_step (exact Calls.regrown_of (l00In_b _ _ _ _)))
              refine wpQuiet_nil ?_
              intro _ hw'
              obtain ⟨⟨dq, osq⟩, hw''⟩ := hw'
              subst hw''
              have bq2 := hbr.trans ((below_regrown wr dq osq).mono hbr.size)
              generalize grow (redrawn wr dq) osq = wq2 at bq2 ⊢
              clear k1 k2 k3 k4 k5 d1 d2 d3 ga gr
              obtain ⟨d0, d1, d2, d3⟩ := HC.out.below bq2
              obtain ⟨g0, ga, _⟩ := HRK.out.below bq2
              obtain ⟨rb2, ro2, he, gr⟩ := (hrr.below bq2).one (i64s_get hjt)
              simp at he
              obtain ⟨rfl, rfl⟩ := he
              go_wp2
              go_roundw
              case rel => exact ⟨j + 1, by omega, by go_num, vi (sum_succ hjt).symm, inAll_succ HIN.out hjt hx, bq2⟩
              case measure => simp [intOf]; omega
            · have hx' : inR r[j] 0 t = false := by simpa using hx
              go_wp2_with fail
              refine wp_region_quiet_below (by kernel_rfl) (by kernel_rfl) ?_
              repeat (first | go_big_quiet_skip | quiet_step (exact Calls.regrown_of (l00In_b _ _ _ _)))
              refine wpQuiet_nil ?_
              intro _ hw'
              obtain ⟨⟨dq, osq⟩, hw''⟩ := hw'
              subst hw''
              have bq2 := hbr.trans ((below_regrown wr dq osq).mono hbr.size)
              generalize grow (redrawn wr dq) osq = wq2 at bq2 ⊢
              clear k1 k2 k3 k4 k5
              go_wp2
              go_ret
              exact ⟨rbf (by rw [HD.out]; exact rowsOk_false hlt (by rw [HRW.out]; exact rowOk_in (inAll_false hjt hx'))), bq2⟩
          · obtain rfl : j = r.length := by omega
            have hin2 := HIN.out
            rw [List.take_length] at hin2 hsb0 hsb1
            have HI2 := Lib.hid hin2
            clear hin2 hjt hj hlen HIN
            by_cases hst : r.sum = t
            · have hst' : (r.sum != t) = false := by simp [hst]
              have HST := Lib.hid hst
              clear hst k1 k2 k3 k4
              go_wp2
              go_roundw
              case rel => exact ⟨k + 1, by omega, by go_num, rowsOk_succ HA.out hlt (by rw [HRW.out]; exact rowOk_yes HRL.out HI2.out HST.out), hbr⟩
              case measure => simp [intOf]; omega
            · have hst' : (r.sum != t) = true := by simp [hst]
              have HST := Lib.hid hst
              clear hst k1 k2 k3 k4
              go_wp2
              go_ret
              exact ⟨rbf (by rw [HD.out]; exact rowsOk_false hlt (by rw [HRW.out]; exact rowOk_sum HST.out)), hbr⟩
      · have hrs : ((r.length : Int) != s) = true := by simp [hrl]
        have HRL := Lib.hid hrl
        clear hrl
        go_wp2_with fail
        refine wp_region_quiet_below (by kernel_rfl) (by kernel_rfl) ?_
        repeat (first | go_big_quiet_skip | quiet_step (fail))
        refine wpQuiet_nil ?_
        intro _ hw'
        obtain ⟨⟨dq, osq⟩, hw''⟩ := hw'
        subst hw''
        have bq := hbw.trans ((below_regrown wr dq osq).mono hbw.size)
        generalize grow (redrawn wr dq) osq = wq at bq ⊢
        clear k1 k2 k3 k4 d1 d2 d3 ga
        go_wp2
        go_ret
        exact ⟨rbf (by rw [HD.out]; exact rowsOk_false hlt (by rw [HRW.out]; exact rowOk_len HRL.out)), bq⟩
    · have ht := HA.out
      obtain ⟨d0, d1, d2, d3⟩ := HC.out.below hbw
      obtain rfl : k = xss.length := by omega
      go_wp2
      go_ret
      exact ⟨rb (by rw [HD.out]; rw [List.take_of_length_le (Nat.le_refl _)] at ht; exact ht.symm), hbw⟩
set_option maxRecDepth 100000 in
set_option maxHeartbeats 2000000 in
theorem l01Ok_bad1 {v : Value} {xss : List (List Int)} (b o : Nat) (s t : Int) (w : World) (hc : ChainAt w b o s t v) (ha : SlII w v xss) (hs : inR s 1 6 = true) (ht : inR t 1 60 = true) (hl : ¬ (xss.length : Int) = s) :
    Calls Tryz.prog 100 #[.pointer (some ⟨b, o, none⟩)] w fun e w' => e = .returned (.bool (chainOk s t xss)) ∧ Below w.heap.size w w' := by
  obtain ⟨a, ca, us, rfl, hca, hca', hul, hrd, hrow⟩ := ha
  unfold maxLen at hca'
  have hn : xss.length ≤ 9223372036854775807 := by omega
  have HC := Lib.hid hc
  have HU := Lib.hid hul
  have HR := Lib.hid hrow
  obtain ⟨c0, c1, c2, c3⟩ := hc
  have k1 := fun d os => cell_regrown c1 d os
  have k2 := fun d os => cell_regrown c2 d os
  have k3 := fun d os => cell_regrown c3 d os
  clear hca hca' hul hrow
  have hls : ((xss.length : Int) != s) = true := by simp [hl]
  have HD : Hid (chainOk s t xss = false) := by unfold Hid chainOk; simp [hl]
  clear hl
  go_enter Tryz.func100, Tryz.ntmps100
  go_wp2_with fail
  have bw := Below.refl w.heap.size w
  refine wp_region_quiet_below (by kernel_rfl) (by kernel_rfl) ?_
  repeat (first | go_big_quiet_skip | quiet_step (exact Calls.regrown_of (l00In_b _ _ _ _)))
  refine wpQuiet_nil ?_
  intro _ hw'
  obtain ⟨⟨dq, osq⟩, hw''⟩ := hw'
  subst hw''
  have bq := bw.trans ((below_regrown w dq osq).mono bw.size)
  generalize grow (redrawn w dq) osq = wq at bq ⊢
  go_wp2
  go_ret
  exact ⟨rbf HD.out, bq⟩
set_option maxRecDepth 100000 in
set_option maxHeartbeats 2000000 in
theorem l01Ok_bad2 {v : Value} {xss : List (List Int)} (b o : Nat) (s t : Int) (w : World) (hc : ChainAt w b o s t v) (ha : SlII w v xss) (hs : inR s 1 6 = true) (ht : ¬ inR t 1 60 = true) :
    Calls Tryz.prog 100 #[.pointer (some ⟨b, o, none⟩)] w fun e w' => e = .returned (.bool (chainOk s t xss)) ∧ Below w.heap.size w w' := by
  obtain ⟨a, ca, us, rfl, hca, hca', hul, hrd, hrow⟩ := ha
  unfold maxLen at hca'
  have hn : xss.length ≤ 9223372036854775807 := by omega
  have HC := Lib.hid hc
  have HU := Lib.hid hul
  have HR := Lib.hid hrow
  obtain ⟨c0, c1, c2, c3⟩ := hc
  have k1 := fun d os => cell_regrown c1 d os
  have k2 := fun d os => cell_regrown c2 d os
  have k3 := fun d os => cell_regrown c3 d os
  clear hca hca' hul hrow
  have ht' : inR t 1 60 = false := by simpa using ht
  have HD : Hid (chainOk s t xss = false) := by unfold Hid chainOk; simp [ht']
  clear ht
  go_enter Tryz.func100, Tryz.ntmps100
  go_wp2_with fail
  have bw := Below.refl w.heap.size w
  refine wp_region_quiet_below (by kernel_rfl) (by kernel_rfl) ?_
  repeat (first | go_big_quiet_skip | quiet_step (exact Calls.regrown_of (l00In_b _ _ _ _)))
  refine wpQuiet_nil ?_
  intro _ hw'
  obtain ⟨⟨dq, osq⟩, hw''⟩ := hw'
  subst hw''
  have bq := bw.trans ((below_regrown w dq osq).mono bw.size)
  generalize grow (redrawn w dq) osq = wq at bq ⊢
  go_wp2
  go_ret
  exact ⟨rbf HD.out, bq⟩
set_option maxRecDepth 100000 in
set_option maxHeartbeats 2000000 in
theorem l01Ok_bad3 {v : Value} {xss : List (List Int)} (b o : Nat) (s t : Int) (w : World) (hc : ChainAt w b o s t v) (ha : SlII w v xss) (hs : ¬ inR s 1 6 = true) :
    Calls Tryz.prog 100 #[.pointer (some ⟨b, o, none⟩)] w fun e w' => e = .returned (.bool (chainOk s t xss)) ∧ Below w.heap.size w w' := by
  obtain ⟨a, ca, us, rfl, hca, hca', hul, hrd, hrow⟩ := ha
  unfold maxLen at hca'
  have hn : xss.length ≤ 9223372036854775807 := by omega
  have HC := Lib.hid hc
  have HU := Lib.hid hul
  have HR := Lib.hid hrow
  obtain ⟨c0, c1, c2, c3⟩ := hc
  have k1 := fun d os => cell_regrown c1 d os
  have k2 := fun d os => cell_regrown c2 d os
  have k3 := fun d os => cell_regrown c3 d os
  clear hca hca' hul hrow
  have hs' : inR s 1 6 = false := by simpa using hs
  have HD : Hid (chainOk s t xss = false) := by unfold Hid chainOk; simp [hs']
  clear hs
  go_enter Tryz.func100, Tryz.ntmps100
  go_wp2_with fail
  have bw := Below.refl w.heap.size w
  refine wp_region_quiet_below (by kernel_rfl) (by kernel_rfl) ?_
  repeat (first | go_big_quiet_skip | quiet_step (exact Calls.regrown_of (l00In_b _ _ _ _)))
  refine wpQuiet_nil ?_
  intro _ hw'
  obtain ⟨⟨dq, osq⟩, hw''⟩ := hw'
  subst hw''
  have bq := bw.trans ((below_regrown w dq osq).mono bw.size)
  generalize grow (redrawn w dq) osq = wq at bq ⊢
  go_wp2
  go_ret
  exact ⟨rbf HD.out, bq⟩
theorem l01Ok_any {v : Value} {xss : List (List Int)} (b o : Nat) (s t : Int) (w : World) (hc : ChainAt w b o s t v) (ha : SlII w v xss) :
    Calls Tryz.prog 100 #[.pointer (some ⟨b, o, none⟩)] w fun e w' => e = .returned (.bool (chainOk s t xss)) ∧ Below w.heap.size w w' := by
  by_cases hs : inR s 1 6 = true
  · by_cases ht : inR t 1 60 = true
    · by_cases hl : (xss.length : Int) = s
      · exact l01Ok_rows b o s t w hc ha hs ht hl
      · exact l01Ok_bad1 b o s t w hc ha hs ht hl
    · exact l01Ok_bad2 b o s t w hc ha hs ht
  · exact l01Ok_bad3 b o s t w hc ha hs
end Go.Proofs.YtofpelmplcoegaaGreat
namespace Go.Proofs.YtofpelmplcoegaaGreat
open Go.RowKit Go.Sort
/-- a boxed chain -/
def chObj (s t : Int) (v : Value) : Obj := .cells #[.int .i64 s, .int .i64 t, v] 40
theorem chBox (w : World) (s t : Int) (v : Value) : ChainAt (w.alloc (chObj s t v)) w.heap.size 0 s t v := by
  unfold chObj ChainAt
  refine ⟨by simp, ?_, ?_, ?_⟩ <;> simp [go_sem]
theorem chBelow (w : World) (s t : Int) (v : Value) : Below w.heap.size w (w.alloc (chObj s t v)) := (Below.refl _ _).alloc (Nat.le_refl _) _

set_option maxRecDepth 100000 in
set_option maxHeartbeats 2000000 in
theorem ValidChain_rows {v : Value} {xss : List (List Int)} (s t : Int) (w : World) (ha : SlII w v xss) (hs : inR s 1 6 = true) (ht : inR t 1 60 = true) (hl : (xss.length : Int) = s) :
    Calls Tryz.prog 86 #[.agg #[.int .i64 s, .int .i64 t, v]] w fun e w' => e = .returned (.bool (chainOk s t xss)) ∧ Below w.heap.size w w' := by
  obtain ⟨a, ca, us, rfl, hca, hca', hul, hrd, hrow⟩ := ha
  unfold maxLen at hca'
  have hn : xss.length ≤ 9223372036854775807 := by omega
  have HU := Lib.hid hul
  have HR := Lib.hid hrow
  have hls : ((xss.length : Int) != s) = false := by simp [hl]
  have hsb := inR_iff.1 hs
  have htb := inR_iff.1 ht
  have hs1 : 1 ≤ s := hsb.1
  have hs6 : s ≤ 6 := hsb.2
  have ht1 : 1 ≤ t := htb.1
  have ht60 : t ≤ 60 := htb.2
  have HL := Lib.hid hl
  have HD : Hid (chainOk s t xss = rowsOk s t xss) := by unfold Hid chainOk; rw [hs, ht, decide_eq_true hl]; rfl
  have HC := Lib.hid (chBox w s t (.slice a xss.length ca))
  have HB := Lib.hid (chBelow w s t (.slice a xss.length ca))
  clear hl hsb htb hca hca' hul hrow
  go_enter Tryz.func86, Tryz.ntmps86
  go_wp2_with (go_at_call 87; refine (inRange_any _ _ _ _).mono ?_; rintro e w' ⟨rfl, rfl⟩)
  go_loopw [29] (fun i wr => ∃ k : Nat, k ≤ xss.length ∧ i = .int .i64 k ∧ rowsOk s t (xss.take k) = true ∧ Below (w.heap.size + 1) (w.alloc (chObj s t (.slice a xss.length ca))) wr) (fun i _ => xss.length - (intOf i).toNat)
  case atStart => exact ⟨0, Nat.zero_le _, rfl, by simp [rowsOk], Below.refl _ _⟩
  case round =>
    obtain ⟨k, hk, rfl, hall, hbw⟩ := hrel
    have HA := Lib.hid hall
    clear hall
    obtain ⟨d0, d1, d2, d3⟩ := HC.out.below (by simpa using hbw)
    have hbw0 := HB.out.trans (hbw.mono (by omega))
    by_cases hlt : k < xss.length
    · obtain ⟨x, ba, oa, rfl, hrowk⟩ := SlII.rowAt HU.out hrd HR.out hlt
      generalize hr : xss[k] = r at hrowk
      have HRW := Lib.hid hr
      obtain ⟨ra, rc, rfl, hrc, hrc', hrr⟩ := id hrowk.2.2
      unfold maxLen at hrc'
      have HRK := Lib.hid hrowk
      obtain ⟨g0, ga, _⟩ := HRK.out.below hbw0
      have i1 : (k : Int) < (xss.length : Int) := by omega
      clear hr hrc hrowk
      by_cases hrl : (r.length : Int) = s
      · have hrs : ((r.length : Int) != s) = false := by simp [hrl]
        have hr6 : r.length ≤ 6 := by omega
        have HRL := Lib.hid hrl
        clear hrl
        go_wp2
        go_loopw [5, 40] (fun q i wr => ∃ j : Nat, j ≤ r.length ∧ i = .int .i64 j ∧ q = .int .i64 (r.take j).sum ∧ inAll (r.take j) t = true ∧ Below (w.heap.size + 1) (w.alloc (chObj s t (.slice (some ⟨ba, oa, none⟩) xss.length ca))) wr) (fun _ i _ => r.length - (intOf i).toNat)
        case atStart => exact ⟨0, Nat.zero_le _, rfl, rfl, by simp [inAll], hbw⟩
        case round =>
          clear d1 d2 d3 ga hbw hbw0
          obtain ⟨j, hj, rfl, rfl, hin, hbr⟩ := hrel
          have hsum := inAll_sum ht60 hin
          have hlen : (r.take j).length ≤ 6 := by simp; omega
          have hsb0 : 0 ≤ (r.take j).sum := hsum.1
          have hsb1 : (r.take j).sum ≤ 1000 := by omega
          have HIN := Lib.hid hin
          clear hin hsum
          obtain ⟨d0, d1, d2, d3⟩ := HC.out.below (by simpa using hbr)
          have hbr0 := HB.out.trans (hbr.mono (by omega))
          obtain ⟨g0, ga, _⟩ := HRK.out.below hbr0
          by_cases hjt : j < r.length
          · obtain ⟨rb, ro, rfl, gr⟩ := (hrr.below hbr0).one (i64s_get hjt)
            have i3 : (j : Int) < (r.length : Int) := by omega
            by_cases hx : inR r[j] 0 t = true
            · have hxb := inR_iff.1 hx
              have hx0 : 0 ≤ r[j] := hxb.1
              have hx1 : r[j] ≤ 60 := by omega
              clear hxb
              go_wp2_with (go_at_call 87; refine (inRange_any _ _ _ _).mono ?_; rintro e w' ⟨rfl, rfl⟩)
              go_roundw
              case rel => exact ⟨j + 1, by omega, by go_num, vi (sum_succ hjt).symm, inAll_succ HIN.out hjt hx, hbr⟩
              case measure => simp [intOf]; omega
            · have hx' : inR r[j] 0 t = false := by simpa using hx
              go_wp2_with (go_at_call 87; refine (inRange_any _ _ _ _).mono ?_; rintro e w' ⟨rfl, rfl⟩)
              go_ret
              exact ⟨rbf (by rw [HD.out]; exact rowsOk_false hlt (by rw [HRW.out]; exact rowOk_in (inAll_false hjt hx'))), hbr0⟩
          · obtain rfl : j = r.length := by omega
            have hin2 := HIN.out
            rw [List.take_length] at hin2 hsb0 hsb1
            have HI2 := Lib.hid hin2
            clear hin2 hjt hj hlen HIN
            by_cases hst : r.sum = t
            · have hst' : (r.sum != t) = false := by simp [hst]
              have HST := Lib.hid hst
              clear hst
              go_wp2
              go_roundw
              case rel => exact ⟨k + 1, by omega, by go_num, rowsOk_succ HA.out hlt (by rw [HRW.out]; exact rowOk_yes HRL.out HI2.out HST.out), hbr⟩
              case measure => simp [intOf]; omega
            · have hst' : (r.sum != t) = true := by simp [hst]
              have HST := Lib.hid hst
              clear hst
              go_wp2
              go_ret
              exact ⟨rbf (by rw [HD.out]; exact rowsOk_false hlt (by rw [HRW.out]; exact rowOk_sum HST.out)), hbr0⟩
      · have hrs : ((r.length : Int) != s) = true := by simp [hrl]
        have HRL := Lib.hid hrl
        clear hrl
        go_wp2
        go_ret
        exact ⟨rbf (by rw [HD.out]; exact rowsOk_false hlt (by rw [HRW.out]; exact rowOk_len HRL.out)), hbw0⟩
    · have ht := HA.out
      obtain rfl : k = xss.length := by omega
      go_wp2
      go_ret
      exact ⟨rbt (by rw [HD.out]; rw [List.take_of_length_le (Nat.le_refl _)] at ht; exact ht), hbw0⟩

set_option maxHeartbeats 400000 in
theorem ValidChain_any {v : Value} {xss : List (List Int)} (s t : Int) (w : World) (ha : SlII w v xss) :
    Calls Tryz.prog 86 #[.agg #[.int .i64 s, .int .i64 t, v]] w fun e w' => e = .returned (.bool (chainOk s t xss)) ∧ Below w.heap.size w w' := by
  by_cases hs : inR s 1 6 = true
  · by_cases ht : inR t 1 60 = true
    · by_cases hl : (xss.length : Int) = s
      · exact ValidChain_rows s t w ha hs ht hl
      · have hls : ((xss.length : Int) != s) = true := by simp [hl]
        have HD : Hid (chainOk s t xss = false) := by unfold Hid chainOk; simp [hl]
        obtain ⟨a, ca, us, rfl, _, _, _, _, _⟩ := ha
        have HL := Lib.hid hl
        clear hl
        go_enter Tryz.func86, Tryz.ntmps86
        go_wp2_with (go_at_call 87; refine (inRange_any _ _ _ _).mono ?_; rintro e w' ⟨rfl, rfl⟩)
        go_ret
        exact ⟨rbf HD.out, chBelow _ _ _ _⟩
    · have ht' : inR t 1 60 = false := by simpa using ht
      have HD : Hid (chainOk s t xss = false) := by unfold Hid chainOk; simp [ht']
      obtain ⟨a, ca, us, rfl, _, _, _, _, _⟩ := ha
      clear ht
      go_enter Tryz.func86, Tryz.ntmps86
      go_wp2_with (go_at_call 87; refine (inRange_any _ _ _ _).mono ?_; rintro e w' ⟨rfl, rfl⟩)
      go_ret
      exact ⟨rbf HD.out, chBelow _ _ _ _⟩
  · have hs' : inR s 1 6 = false := by simpa using hs
    have HD : Hid (chainOk s t xss = false) := by unfold Hid chainOk; simp [hs']
    obtain ⟨a, ca, us, rfl, _, _, _, _, _⟩ := ha
    clear hs
    go_enter Tryz.func86, Tryz.ntmps86
    go_wp2_with (go_at_call 87; refine (inRange_any _ _ _ _).mono ?_; rintro e w' ⟨rfl, rfl⟩)
    go_ret
    exact ⟨rbf HD.out, chBelow _ _ _ _⟩
end Go.Proofs.YtofpelmplcoegaaGreat
namespace Go.Proofs.YtofpelmplcoegaaGreat
open Go.RowKit Go.Sort
def chSame (s t : Int) (xss : List (List Int)) (s' t' : Int) (yss : List (List Int)) : Bool := decide (s = s') && (decide (t = t') && decide (xss = yss))
/-- a service's six cells -/
def svA (s t : Int) (v : Value) (base samples workers : Int) : Value := .agg #[.int .i64 s, .int .i64 t, v, .int .i64 base, .int .i64 samples, .int .i64 workers]
def svSame (s t : Int) (xss : List (List Int)) (bs sm wk s' t' : Int) (yss : List (List Int)) (bs' sm' wk' : Int) : Bool := chSame s t xss s' t' yss && (decide (bs = bs') && (decide (sm = sm') && decide (wk = wk')))
def serviceOk (s t : Int) (xss : List (List Int)) (bs sm wk : Int) : Bool := chainOk s t xss && (inR sm 1 8 && (inR wk 1 4 && inR bs 0 999999992))
end Go.Proofs.YtofpelmplcoegaaGreat
namespace Go.Proofs.YtofpelmplcoegaaGreat
open Go.RowKit Go.Sort
/-- six cells: a service -/
def ServAt (w : World) (b o : Nat) (s t : Int) (v : Value) (bs sm wk : Int) : Prop :=
  ChainAt w b o s t v ∧ w.cell? ⟨b, o + 3, none⟩ = some (.int .i64 bs) ∧ w.cell? ⟨b, o + 4, none⟩ = some (.int .i64 sm) ∧ w.cell? ⟨b, o + 5, none⟩ = some (.int .i64 wk)
theorem ServAt.below {w w' : World} {b o : Nat} {s t : Int} {v : Value} {bs sm wk : Int} (h : ServAt w b o s t v bs sm wk) (hb : Below w.heap.size w w') : ServAt w' b o s t v bs sm wk :=
  ⟨h.1.below hb, by rw [hb.cell (p := ⟨b, o + 3, none⟩) h.1.1]; exact h.2.1, by rw [hb.cell (p := ⟨b, o + 4, none⟩) h.1.1]; exact h.2.2.1, by rw [hb.cell (p := ⟨b, o + 5, none⟩) h.1.1]; exact h.2.2.2⟩
def svObj (s t : Int) (v : Value) (bs sm wk : Int) : Obj := .cells #[.int .i64 s, .int .i64 t, v, .int .i64 bs, .int .i64 sm, .int .i64 wk] 42
theorem svBox (w : World) (s t : Int) (v : Value) (bs sm wk : Int) : ServAt (w.alloc (svObj s t v bs sm wk)) w.heap.size 0 s t v bs sm wk := by
  unfold svObj ServAt ChainAt
  refine ⟨⟨by simp, ?_, ?_, ?_⟩, ?_, ?_, ?_⟩ <;> simp [go_sem]

set_option maxHeartbeats 1000000 in
theorem l09Ok_any {v : Value} {xss : List (List Int)} (b o : Nat) (s t bs sm wk : Int) (w : World) (hc : ServAt w b o s t v bs sm wk) (ha : SlII w v xss) :
    Calls Tryz.prog 64 #[.pointer (some ⟨b, o, none⟩)] w fun e w' => e = .returned (.bool (serviceOk s t xss bs sm wk)) ∧ Below w.heap.size w w' := by
  have K := l01Ok_any b o s t w hc.1 ha
  obtain ⟨c0, c3, c4, c5⟩ := hc
  have c00 := c0.1
  generalize hq : chainOk s t xss = q at K
  have HK := Lib.hid K
  have HQ := Lib.hid hq
  clear K hq c0 ha
  cases q
  · have HD : Hid (serviceOk s t xss bs sm wk = false) := by unfold Hid serviceOk; rw [HQ.out]; rfl
    go_enter Tryz.func64, Tryz.ntmps64
    go_wp2_with fail
    refine (HK.out).mono ?_
    rintro e w1 ⟨rfl, b1⟩
    have d3 := (b1.cell (p := ⟨b, o + 3, none⟩) c00).trans c3
    have d4 := (b1.cell (p := ⟨b, o + 4, none⟩) c00).trans c4
    have d5 := (b1.cell (p := ⟨b, o + 5, none⟩) c00).trans c5
    go_wp2_with (go_at_call 85; refine (l00In_any _ _ _ _).mono ?_; rintro e w' ⟨rfl, rfl⟩)
    go_ret
    exact ⟨rbf HD.out, b1⟩
  · by_cases h1 : inR sm 1 8 = true
    · by_cases h2 : inR wk 1 4 = true
      · generalize h3 : inR bs 0 999999992 = r
        have HR := Lib.hid h3
        have HD : Hid (serviceOk s t xss bs sm wk = r) := by unfold Hid serviceOk; rw [HQ.out, h1, h2, HR.out]; rfl
        clear h3
        go_enter Tryz.func64, Tryz.ntmps64
        go_wp2_with fail
        refine (HK.out).mono ?_
        rintro e w1 ⟨rfl, b1⟩
        have d3 := (b1.cell (p := ⟨b, o + 3, none⟩) c00).trans c3
        have d4 := (b1.cell (p := ⟨b, o + 4, none⟩) c00).trans c4
        have d5 := (b1.cell (p := ⟨b, o + 5, none⟩) c00).trans c5
        go_wp2_with (go_at_call 85; refine (l00In_any _ _ _ _).mono ?_; rintro e w' ⟨rfl, rfl⟩; try rw [HR.out])
        go_ret
        exact ⟨rb HD.out.symm, b1⟩
      · have h2' : inR wk 1 4 = false := by simpa using h2
        have HD : Hid (serviceOk s t xss bs sm wk = false) := by unfold Hid serviceOk; rw [h2']; simp
        clear h2
        go_enter Tryz.func64, Tryz.ntmps64
        go_wp2_with fail
        refine (HK.out).mono ?_
        rintro e w1 ⟨rfl, b1⟩
        have d3 := (b1.cell (p := ⟨b, o + 3, none⟩) c00).trans c3
        have d4 := (b1.cell (p := ⟨b, o + 4, none⟩) c00).trans c4
        have d5 := (b1.cell (p := ⟨b, o + 5, none⟩) c00).trans c5
        go_wp2_with (go_at_call 85; refine (l00In_any _ _ _ _).mono ?_; rintro e w' ⟨rfl, rfl⟩)
        go_ret
        exact ⟨rbf HD.out, b1⟩
    · have h1' : inR sm 1 8 = false := by simpa using h1
      have HD : Hid (serviceOk s t xss bs sm wk = false) := by unfold Hid serviceOk; rw [h1']; simp
      clear h1
      go_enter Tryz.func64, Tryz.ntmps64
      go_wp2_with fail
      refine (HK.out).mono ?_
      rintro e w1 ⟨rfl, b1⟩
      have d3 := (b1.cell (p := ⟨b, o + 3, none⟩) c00).trans c3
      have d4 := (b1.cell (p := ⟨b, o + 4, none⟩) c00).trans c4
      have d5 := (b1.cell (p := ⟨b, o + 5, none⟩) c00).trans c5
      go_wp2_with (go_at_call 85; refine (l00In_any _ _ _ _).mono ?_; rintro e w' ⟨rfl, rfl⟩)
      go_ret
      exact ⟨rbf HD.out, b1⟩

set_option maxHeartbeats 1000000 in
theorem ImplValidService_any {v : Value} {xss : List (List Int)} (s t bs sm wk : Int) (w : World) (ha : SlII w v xss) :
    Calls Tryz.prog 56 #[.agg #[.int .i64 s, .int .i64 t, v, .int .i64 bs, .int .i64 sm, .int .i64 wk]] w fun e w' => e = .returned (.bool (serviceOk s t xss bs sm wk)) ∧ Below w.heap.size w w' := by
  have bb : Below w.heap.size w (w.alloc (svObj s t v bs sm wk)) := (Below.refl _ _).alloc (Nat.le_refl _) _
  have hc := svBox w s t v bs sm wk
  have K := ValidChain_any s t _ (ha.below bb)
  obtain ⟨a, ca, us, rfl, _, _, _, _, _⟩ := ha
  obtain ⟨c0, c3, c4, c5⟩ := hc
  have c00 := c0.1
  generalize hq : chainOk s t xss = q at K
  have HK := Lib.hid K
  have HQ := Lib.hid hq
  clear K hq c0
  have C3 := Lib.hid c3
  have C4 := Lib.hid c4
  have C5 := Lib.hid c5
  clear c3 c4 c5
  cases q
  · have HD : Hid (serviceOk s t xss bs sm wk = false) := by unfold Hid serviceOk; rw [HQ.out]; rfl
    go_enter Tryz.func56, Tryz.ntmps56
    go_wp2_with fail
    refine (HK.out).mono ?_
    rintro e w1 ⟨rfl, b1⟩
    have d3 := (b1.cell (p := ⟨w.heap.size, 0 + 3, none⟩) c00).trans C3.out
    have d4 := (b1.cell (p := ⟨w.heap.size, 0 + 4, none⟩) c00).trans C4.out
    have d5 := (b1.cell (p := ⟨w.heap.size, 0 + 5, none⟩) c00).trans C5.out
    simp only [Nat.zero_add] at d3 d4 d5
    go_wp2_with (go_at_call 87; refine (inRange_any _ _ _ _).mono ?_; rintro e w' ⟨rfl, rfl⟩)
    go_ret
    exact ⟨rbf HD.out, bb.trans (b1.mono (by simp))⟩
  · by_cases h1 : inR sm 1 8 = true
    · by_cases h2 : inR wk 1 4 = true
      · generalize h3 : inR bs 0 999999992 = r
        have HR := Lib.hid h3
        have HD : Hid (serviceOk s t xss bs sm wk = r) := by unfold Hid serviceOk; rw [HQ.out, h1, h2, HR.out]; rfl
        clear h3
        go_enter Tryz.func56, Tryz.ntmps56
        go_wp2_with fail
        refine (HK.out).mono ?_
        rintro e w1 ⟨rfl, b1⟩
        have d3 := (b1.cell (p := ⟨w.heap.size, 0 + 3, none⟩) c00).trans C3.out
        have d4 := (b1.cell (p := ⟨w.heap.size, 0 + 4, none⟩) c00).trans C4.out
        have d5 := (b1.cell (p := ⟨w.heap.size, 0 + 5, none⟩) c00).trans C5.out
        simp only [Nat.zero_add] at d3 d4 d5
        go_wp2_with (go_at_call 87; refine (inRange_any _ _ _ _).mono ?_; rintro e w' ⟨rfl, rfl⟩; try rw [HR.out])
        go_ret
        exact ⟨rb HD.out.symm, bb.trans (b1.mono (by simp))⟩
      · have h2' : inR wk 1 4 = false := by simpa using h2
        have HD : Hid (serviceOk s t xss bs sm wk = false) := by unfold Hid serviceOk; rw [h2']; simp
        clear h2
        go_enter Tryz.func56, Tryz.ntmps56
        go_wp2_with fail
        refine (HK.out).mono ?_
        rintro e w1 ⟨rfl, b1⟩
        have d3 := (b1.cell (p := ⟨w.heap.size, 0 + 3, none⟩) c00).trans C3.out
        have d4 := (b1.cell (p := ⟨w.heap.size, 0 + 4, none⟩) c00).trans C4.out
        have d5 := (b1.cell (p := ⟨w.heap.size, 0 + 5, none⟩) c00).trans C5.out
        simp only [Nat.zero_add] at d3 d4 d5
        go_wp2_with (go_at_call 87; refine (inRange_any _ _ _ _).mono ?_; rintro e w' ⟨rfl, rfl⟩)
        go_ret
        exact ⟨rbf HD.out, bb.trans (b1.mono (by simp))⟩
    · have h1' : inR sm 1 8 = false := by simpa using h1
      have HD : Hid (serviceOk s t xss bs sm wk = false) := by unfold Hid serviceOk; rw [h1']; simp
      clear h1
      go_enter Tryz.func56, Tryz.ntmps56
      go_wp2_with fail
      refine (HK.out).mono ?_
      rintro e w1 ⟨rfl, b1⟩
      have d3 := (b1.cell (p := ⟨w.heap.size, 0 + 3, none⟩) c00).trans C3.out
      have d4 := (b1.cell (p := ⟨w.heap.size, 0 + 4, none⟩) c00).trans C4.out
      have d5 := (b1.cell (p := ⟨w.heap.size, 0 + 5, none⟩) c00).trans C5.out
      simp only [Nat.zero_add] at d3 d4 d5
      go_wp2_with (go_at_call 87; refine (inRange_any _ _ _ _).mono ?_; rintro e w' ⟨rfl, rfl⟩)
      go_ret
      exact ⟨rbf HD.out, bb.trans (b1.mono (by simp))⟩
end Go.Proofs.YtofpelmplcoegaaGreat
namespace Go.Proofs.YtofpelmplcoegaaGreat
open Go.RowKit Go.Sort
def recOk (st sm k s v : Int) : Bool := inR s 0 (sm - 1) && (if k = 1 then inR v 1 7 else if k = 2 then inR v 0 (st - 1) else if k = 3 then decide (v = 0) else false)

set_option maxHeartbeats 1000000 in
theorem l09Record_any {u : Value} (b o : Nat) (st t bs sm wk k s v : Int) (w : World) (hc : ServAt w b o st t u bs sm wk) (hs1 : 1 ≤ sm) (hs2 : sm ≤ 8) (ht1 : 1 ≤ st) (ht2 : st ≤ 6) :
    Calls Tryz.prog 137 #[.pointer (some ⟨b, o, none⟩), .agg #[.int .i64 k, .int .i64 s, .int .i64 v]] w fun e w' => e = .returned (.bool (recOk st sm k s v)) ∧ Below w.heap.size w w' := by
  have e1 : IntKind.i64.wrap (sm - 1) = sm - 1 := IntWalk.i64_in _ (by omega)
  have e2 : IntKind.i64.wrap (st - 1) = st - 1 := IntWalk.i64_in _ (by omega)
  have E1 := Lib.hid e1
  have E2 := Lib.hid e2
  clear e1 e2
  obtain ⟨⟨c00, c0, _, _⟩, _, c4, _⟩ := hc
  have bb : Below w.heap.size w (w.alloc (.cells #[.int .i64 k, .int .i64 s, .int .i64 v] 118)) := (Below.refl _ _).alloc (Nat.le_refl _) _
  have d0 := (bb.cell (p := ⟨b, o, none⟩) c00).trans c0
  have d4 := (bb.cell (p := ⟨b, o + 4, none⟩) c00).trans c4
  have r0 : (w.alloc (.cells #[.int .i64 k, .int .i64 s, .int .i64 v] 118)).cell? ⟨w.heap.size, 0, none⟩ = some (.int .i64 k) := by simp
  have r1 : (w.alloc (.cells #[.int .i64 k, .int .i64 s, .int .i64 v] 118)).cell? ⟨w.heap.size, 1, none⟩ = some (.int .i64 s) := by simp
  have r2 : (w.alloc (.cells #[.int .i64 k, .int .i64 s, .int .i64 v] 118)).cell? ⟨w.heap.size, 2, none⟩ = some (.int .i64 v) := by simp
  clear c0 c4
  have zz : w.heap.size < (w.alloc (.cells #[.int .i64 k, .int .i64 s, .int .i64 v] 118)).heap.size := by simp
  have D0 := Lib.hid d0
  have R0 := Lib.hid r0
  have R2 := Lib.hid r2
  have k1 := fun d os => cell_regrown d4 d os
  have k2 := fun d os => cell_regrown r1 d os
  clear d0 r0 r1 r2 d4
  by_cases hs : inR s 0 (sm - 1) = true
  · by_cases h1 : k = 1
    · subst h1
      have HD : Hid (recOk st sm 1 s v = inR v 1 7) := by unfold Hid recOk; rw [hs]; rfl
      go_enter Tryz.func137, Tryz.ntmps137
      go_wp2_with fail
      have e1 := E1.out
      have bw := Below.refl (w.alloc (.cells #[.int .i64 1, .int .i64 s, .int .i64 v] 118)).heap.size (w.alloc (.cells #[.int .i64 1, .int .i64 s, .int .i64 v] 118))
      refine wp_region_quiet_below (by kernel_rfl) (by kernel_rfl) ?_
      repeat (first | go_big_quiet_skip | quiet_step (exact Calls.regrown_of (l00In_b _ _ _ _)))
      refine wpQuiet_nil ?_
      intro _ hw'
      obtain ⟨⟨dq, osq⟩, hw''⟩ := hw'
      subst hw''
      have bq := bw.trans ((below_regrown (w.alloc (.cells #[.int .i64 1, .int .i64 s, .int .i64 v] 118)) dq osq).mono bw.size)
      generalize grow (redrawn (w.alloc (.cells #[.int .i64 1, .int .i64 s, .int .i64 v] 118)) dq) osq = wq at bq ⊢
      clear k1 k2 e1
      have r0 := (bq.cell (p := ⟨w.heap.size, 0, none⟩) zz).trans R0.out
      have r2 := (bq.cell (p := ⟨w.heap.size, 2, none⟩) zz).trans R2.out
      go_wp2_with (go_at_call 85; refine (l00In_any _ _ _ _).mono ?_; rintro e w' ⟨rfl, rfl⟩)
      go_ret
      exact ⟨rb HD.out.symm, bb.trans (bq.mono (by simp))⟩
    · by_cases h2 : k = 2
      · subst h2
        have HD : Hid (recOk st sm 2 s v = inR v 0 (st - 1)) := by unfold Hid recOk; rw [hs]; rfl
        go_enter Tryz.func137, Tryz.ntmps137
        go_wp2_with fail
        have e1 := E1.out
        have bw := Below.refl (w.alloc (.cells #[.int .i64 2, .int .i64 s, .int .i64 v] 118)).heap.size (w.alloc (.cells #[.int .i64 2, .int .i64 s, .int .i64 v] 118))
        refine wp_region_quiet_below (by kernel_rfl) (by kernel_rfl) ?_
        repeat (first | go_big_quiet_skip | quiet_step (exact Calls.regrown_of (l00In_b _ _ _ _)))
        refine wpQuiet_nil ?_
        intro _ hw'
        obtain ⟨⟨dq, osq⟩, hw''⟩ := hw'
        subst hw''
        have bq := bw.trans ((below_regrown (w.alloc (.cells #[.int .i64 2, .int .i64 s, .int .i64 v] 118)) dq osq).mono bw.size)
        generalize grow (redrawn (w.alloc (.cells #[.int .i64 2, .int .i64 s, .int .i64 v] 118)) dq) osq = wq at bq ⊢
        clear k1 k2 e1
        have r0 := (bq.cell (p := ⟨w.heap.size, 0, none⟩) zz).trans R0.out
        have r2 := (bq.cell (p := ⟨w.heap.size, 2, none⟩) zz).trans R2.out
        have d0 := (bq.cell (p := ⟨b, o, none⟩) (Nat.lt_of_lt_of_le c00 bb.size)).trans D0.out
        have k1 := fun d os => cell_regrown r2 d os
        have k2 := fun d os => cell_regrown d0 d os
        have e2 := E2.out
        go_wp2_with fail
        refine wp_region_quiet_below (by kernel_rfl) (by kernel_rfl) ?_
        repeat (first | go_big_quiet_skip | quiet_step (exact Calls.regrown_of (l00In_b _ _ _ _)))
        refine wpQuiet_nil ?_
        intro _ hw'
        obtain ⟨⟨dq, osq⟩, hw''⟩ := hw'
        subst hw''
        have bq2 := bq.trans ((below_regrown wq dq osq).mono bq.size)
        generalize grow (redrawn wq dq) osq = wq2 at bq2 ⊢
        go_wp2
        go_ret
        exact ⟨rb HD.out.symm, bb.trans (bq2.mono (by simp))⟩
      · by_cases h3 : k = 3
        · subst h3
          have HD : Hid (recOk st sm 3 s v = decide (v = 0)) := by unfold Hid recOk; rw [hs]; rfl
          go_enter Tryz.func137, Tryz.ntmps137
          go_wp2_with fail
          have e1 := E1.out
          have bw := Below.refl (w.alloc (.cells #[.int .i64 3, .int .i64 s, .int .i64 v] 118)).heap.size (w.alloc (.cells #[.int .i64 3, .int .i64 s, .int .i64 v] 118))
          refine wp_region_quiet_below (by kernel_rfl) (by kernel_rfl) ?_
          repeat (first | go_big_quiet_skip | quiet_step (exact Calls.regrown_of (l00In_b _ _ _ _)))
          refine wpQuiet_nil ?_
          intro _ hw'
          obtain ⟨⟨dq, osq⟩, hw''⟩ := hw'
          subst hw''
          have bq := bw.trans ((below_regrown (w.alloc (.cells #[.int .i64 3, .int .i64 s, .int .i64 v] 118)) dq osq).mono bw.size)
          generalize grow (redrawn (w.alloc (.cells #[.int .i64 3, .int .i64 s, .int .i64 v] 118)) dq) osq = wq at bq ⊢
          clear k1 k2 e1
          have r0 := (bq.cell (p := ⟨w.heap.size, 0, none⟩) zz).trans R0.out
          have r2 := (bq.cell (p := ⟨w.heap.size, 2, none⟩) zz).trans R2.out
          have t0 : (v == 0) = decide (v = 0) := by by_cases h : v = 0 <;> simp [h]
          go_wp2_with (go_at_call 85; refine (l00In_any _ _ _ _).mono ?_; rintro e w' ⟨rfl, rfl⟩)
          go_ret
          exact ⟨rb HD.out.symm, bb.trans (bq.mono (by simp))⟩
        · have HD : Hid (recOk st sm k s v = false) := by unfold Hid recOk; rw [if_neg h1, if_neg h2, if_neg h3]; simp
          have t1 : (k == 1) = false := by simp [h1]
          have t2 : (k == 2) = false := by simp [h2]
          have t3 : (k == 3) = false := by simp [h3]
          clear h1 h2 h3
          go_enter Tryz.func137, Tryz.ntmps137
          go_wp2_with fail
          have e1 := E1.out
          have bw := Below.refl (w.alloc (.cells #[.int .i64 k, .int .i64 s, .int .i64 v] 118)).heap.size (w.alloc (.cells #[.int .i64 k, .int .i64 s, .int .i64 v] 118))
          refine wp_region_quiet_below (by kernel_rfl) (by kernel_rfl) ?_
          repeat (first | go_big_quiet_skip | quiet_step (exact Calls.regrown_of (l00In_b _ _ _ _)))
          refine wpQuiet_nil ?_
          intro _ hw'
          obtain ⟨⟨dq, osq⟩, hw''⟩ := hw'
          subst hw''
          have bq := bw.trans ((below_regrown (w.alloc (.cells #[.int .i64 k, .int .i64 s, .int .i64 v] 118)) dq osq).mono bw.size)
          generalize grow (redrawn (w.alloc (.cells #[.int .i64 k, .int .i64 s, .int .i64 v] 118)) dq) osq = wq at bq ⊢
          clear k1 k2 e1
          have r0 := (bq.cell (p := ⟨w.heap.size, 0, none⟩) zz).trans R0.out
          have r2 := (bq.cell (p := ⟨w.heap.size, 2, none⟩) zz).trans R2.out
          go_wp2_with (go_at_call 85; refine (l00In_any _ _ _ _).mono ?_; rintro e w' ⟨rfl, rfl⟩)
          go_ret
          exact ⟨rbf HD.out, bb.trans (bq.mono (by simp))⟩
  · have hs' : inR s 0 (sm - 1) = false := by simpa using hs
    have HD : Hid (recOk st sm k s v = false) := by unfold Hid recOk; rw [hs']; rfl
    clear hs
    go_enter Tryz.func137, Tryz.ntmps137
    go_wp2_with fail
    have e1 := E1.out
    have bw := Below.refl (w.alloc (.cells #[.int .i64 k, .int .i64 s, .int .i64 v] 118)).heap.size (w.alloc (.cells #[.int .i64 k, .int .i64 s, .int .i64 v] 118))
    refine wp_region_quiet_below (by kernel_rfl) (by kernel_rfl) ?_
    repeat (first | go_big_quiet_skip | quiet_step (exact Calls.regrown_of (l00In_b _ _ _ _)))
    refine wpQuiet_nil ?_
    intro _ hw'
    obtain ⟨⟨dq, osq⟩, hw''⟩ := hw'
    subst hw''
    have bq := bw.trans ((below_regrown (w.alloc (.cells #[.int .i64 k, .int .i64 s, .int .i64 v] 118)) dq osq).mono bw.size)
    generalize grow (redrawn (w.alloc (.cells #[.int .i64 k, .int .i64 s, .int .i64 v] 118)) dq) osq = wq at bq ⊢
    clear k1 k2 e1
    have r0 := (bq.cell (p := ⟨w.heap.size, 0, none⟩) zz).trans R0.out
    have r2 := (bq.cell (p := ⟨w.heap.size, 2, none⟩) zz).trans R2.out
    go_wp2_with (go_at_call 85; refine (l00In_any _ _ _ _).mono ?_; rintro e w' ⟨rfl, rfl⟩)
    go_ret
    exact ⟨rbf HD.out, bb.trans (bq.mono (by simp))⟩

theorem serviceOk_parts {s t : Int} {xss : List (List Int)} {bs sm wk : Int} (h : serviceOk s t xss bs sm wk = true) :
    chainOk s t xss = true ∧ (1 ≤ sm ∧ sm ≤ 8) ∧ (1 ≤ wk ∧ wk ≤ 4) ∧ (0 ≤ bs ∧ bs ≤ 999999992) := by
  unfold serviceOk at h
  rw [Bool.and_eq_true, Bool.and_eq_true, Bool.and_eq_true] at h
  exact ⟨h.1, inR_iff.1 h.2.1, inR_iff.1 h.2.2.1, inR_iff.1 h.2.2.2⟩
theorem chainOk_parts {s t : Int} {xss : List (List Int)} (h : chainOk s t xss = true) : (1 ≤ s ∧ s ≤ 6) ∧ (1 ≤ t ∧ t ≤ 60) ∧ (xss.length : Int) = s ∧ rowsOk s t xss = true := by
  unfold chainOk at h
  rw [Bool.and_eq_true, Bool.and_eq_true, Bool.and_eq_true] at h
  exact ⟨inR_iff.1 h.1, inR_iff.1 h.2.1, of_decide_eq_true h.2.2.1, h.2.2.2⟩
def recSvOk (s t : Int) (xss : List (List Int)) (bs sm wk k x v : Int) : Bool := serviceOk s t xss bs sm wk && recOk s sm k x v
end Go.Proofs.YtofpelmplcoegaaGreat
namespace Go.Proofs.YtofpelmplcoegaaGreat
open Go.RowKit Go.Sort
/-- six cells of a service given as an argument -/
def argObj (s t : Int) (v : Value) (bs sm wk : Int) : Obj := .cells #[.int .i64 s, .int .i64 t, v, .int .i64 bs, .int .i64 sm, .int .i64 wk] 26
end Go.Proofs.YtofpelmplcoegaaGreat
namespace Go.Proofs.YtofpelmplcoegaaGreat
open Go.RowKit Go.Sort
/-- from index k on, with sum q so far -/
def toFrom : List Int → Int → Int → Nat → Option Nat
  | [], _, _, _ => none
  | x :: r, d, q, k => if d < q + x then some k else toFrom r d (q + x) (k + 1)
def toOf (r : List Int) (d : Int) : Option Nat := toFrom r d 0 0
theorem toFrom_lt : ∀ (r : List Int) (d q : Int) (k : Nat), d < q + r.sum → r ≠ [] → (∀ x ∈ r, 0 ≤ x) → ∃ i, toFrom r d q k = some i ∧ k ≤ i ∧ i < k + r.length
  | [], _, _, _, _, h, _ => absurd rfl h
  | x :: r, d, q, k, hd, _, hx => by
    unfold toFrom
    by_cases h : d < q + x
    · exact ⟨k, by rw [if_pos h], Nat.le_refl _, by simp⟩
    · rw [if_neg h]
      rw [List.sum_cons] at hd
      cases r with
      | nil => simp at hd; omega
      | cons y r =>
        obtain ⟨i, h1, h2, h3⟩ := toFrom_lt (y :: r) d (q + x) (k + 1) (by omega) (by simp) (fun z hz => hx z (by simp [hz]))
        exact ⟨i, h1, by omega, by simp at h3 ⊢; omega⟩
theorem toOf_step {r : List Int} {d : Int} {j : Nat} (hj : j < r.length) : toFrom (r.drop j) d (r.take j).sum j = if d < (r.take j).sum + r[j] then some j else toFrom (r.drop (j + 1)) d (r.take (j + 1)).sum (j + 1) := by
  rw [List.drop_eq_getElem_cons hj]
  have : (r.take (j + 1)).sum = (r.take j).sum + r[j] := sum_succ hj
  rw [this]
  rfl
/-- the row is right for a total -/
def RowB (r : List Int) : Prop := r.length ≤ 6 ∧ ∀ x ∈ r, 0 ≤ x ∧ x ≤ 60
theorem RowB.sum {r : List Int} (h : RowB r) (j : Nat) : 0 ≤ (r.take j).sum ∧ (r.take j).sum ≤ 1000 := by
  have hin : inAll (r.take j) 60 = true := by
    unfold inAll
    rw [List.all_eq_true]
    intro x hx
    have := h.2 x (List.mem_of_mem_take hx)
    exact inR_iff.2 this
  have h2 := inAll_sum (t := 60) (by omega) hin
  have h3 : (r.take j).length ≤ 6 := by rw [List.length_take]; have := h.1; omega
  omega
theorem chainOk_parts0 {s t : Int} {xss : List (List Int)} (h : chainOk s t xss = true) : (1 ≤ s ∧ s ≤ 6) ∧ (1 ≤ t ∧ t ≤ 60) ∧ (xss.length : Int) = s ∧ rowsOk s t xss = true := by
  unfold chainOk at h
  rw [Bool.and_eq_true, Bool.and_eq_true, Bool.and_eq_true] at h
  exact ⟨inR_iff.1 h.1, inR_iff.1 h.2.1, of_decide_eq_true h.2.2.1, h.2.2.2⟩
theorem rowB_of {s t : Int} {xss : List (List Int)} (h : chainOk s t xss = true) {k : Nat} (hk : k < xss.length) : RowB xss[k] ∧ (xss[k].length : Int) = s ∧ xss[k].sum = t := by
  unfold chainOk at h
  rw [Bool.and_eq_true, Bool.and_eq_true, Bool.and_eq_true] at h
  have hs := inR_iff.1 h.1
  have ht := inR_iff.1 h.2.1
  have hr := h.2.2.2
  unfold rowsOk at hr
  rw [List.all_eq_true] at hr
  have := hr _ (List.getElem_mem hk)
  unfold rowOk at this
  rw [Bool.and_eq_true, Bool.and_eq_true] at this
  have hl := of_decide_eq_true this.1
  have ha := this.2.1
  unfold inAll at ha
  rw [List.all_eq_true] at ha
  refine ⟨⟨by omega, fun x hx => ?_⟩, hl, of_decide_eq_true this.2.2⟩
  have := inR_iff.1 (ha x hx)
  omega

set_option maxHeartbeats 1000000 in
theorem l01To_any {v : Value} {xss : List (List Int)} (b o : Nat) (s t d : Int) (k : Nat) (w : World) (hc : ChainAt w b o s t v) (ha : SlII w v xss) (hk : k < xss.length) (hB : RowB xss[k]) (hls : (xss[k].length : Int) = s) :
    Calls Tryz.prog 145 #[.pointer (some ⟨b, o, none⟩), .int .i64 k, .int .i64 d] w fun e w' => e = .returned (.int .i64 (((toOf xss[k] d).map Int.ofNat).getD 0)) ∧ w = w' := by
  obtain ⟨a, ca, us, rfl, hca, hca', hul, hrd, hrow⟩ := ha
  obtain ⟨x, ba, oa, rfl, hrowk⟩ := SlII.rowAt hul hrd hrow hk
  generalize hr : xss[k] = r at hrowk hB hls
  obtain ⟨g0, ga, ra, rc, rfl, hrc, hrc', hrr⟩ := hrowk
  obtain ⟨c00, c0, _, c2⟩ := hc
  unfold maxLen at hca' hrc'
  have i1 : (k : Int) < (xss.length : Int) := by omega
  have hr6 : r.length ≤ 6 := hB.1
  have HB := Lib.hid hB
  have HL := Lib.hid hls
  clear hr hul hrd hrow hca hca' hrc hB hls
  go_enter Tryz.func145, Tryz.ntmps145
  go_wp2
  go_loopw [7, 8] (fun q i wr => ∃ j : Nat, j ≤ r.length ∧ i = .int .i64 j ∧ q = .int .i64 (r.take j).sum ∧ toOf r d = toFrom (r.drop j) d (r.take j).sum j ∧ wr = w) (fun _ i _ => r.length - (intOf i).toNat)
  case atStart => exact ⟨0, Nat.zero_le _, rfl, rfl, rfl, rfl⟩
  case round =>
    obtain ⟨j, hj, rfl, rfl, hto, rfl⟩ := hrel
    have HT := Lib.hid hto
    clear hto
    have hs0 := (HB.out.sum j).1
    have hs1 := (HB.out.sum j).2
    have hls := HL.out
    by_cases hjt : j < r.length
    · have hjs : (j : Int) < s := by omega
      obtain ⟨rb, ro, rfl, gr⟩ := hrr.one (i64s_get hjt)
      have hx := HB.out.2 r[j] (List.getElem_mem hjt)
      have hx0 : 0 ≤ r[j] := hx.1
      have hx1 : r[j] ≤ 60 := hx.2
      have hst := toOf_step (d := d) hjt
      have HST := Lib.hid hst
      have i3 : (j : Int) < (r.length : Int) := by omega
      clear hls hx hst
      by_cases hd : d < (r.take j).sum + r[j]
      · go_wp2
        go_ret
        exact ⟨ri (by rw [HT.out, HST.out, if_pos hd]; rfl), rfl⟩
      · go_wp2
        go_roundw
        case rel => exact ⟨j + 1, by omega, by go_num, vi (sum_succ hjt).symm, by rw [HT.out, HST.out, if_neg (by omega)], trivial⟩
        case measure => simp [intOf]; omega
    · have hjs : ¬ (j : Int) < s := by omega
      obtain rfl : j = r.length := by omega
      clear hls
      go_wp2
      go_ret
      exact ⟨ri (by rw [HT.out]; simp [toFrom]), rfl⟩

set_option maxHeartbeats 1000000 in
theorem stepByDraw_any {v : Value} {xss : List (List Int)} (s t d : Int) (k : Nat) (w : World) (ha : SlII w v xss) (hk : k < xss.length) (hB : RowB xss[k]) :
    Calls Tryz.prog 142 #[.agg #[.int .i64 s, .int .i64 t, v], .int .i64 k, .int .i64 d] w fun e w' => e = .returned (.int .i64 (((toOf xss[k] d).map Int.ofNat).getD (-1))) ∧ Below w.heap.size w w' := by
  obtain ⟨a, ca, us, rfl, hca, hca', hul, hrd, hrow⟩ := ha
  obtain ⟨x, ba, oa, rfl, hrowk⟩ := SlII.rowAt hul hrd hrow hk
  generalize hr : xss[k] = r at hrowk hB
  obtain ⟨ra, rc, rfl, hrc, hrc', _⟩ := id hrowk.2.2
  have bb : Below w.heap.size w (w.alloc (chObj s t (.slice (some ⟨ba, oa, none⟩) xss.length ca))) := chBelow _ _ _ _
  obtain ⟨g0, ga, ra', rc', he, _, _, hrr⟩ := hrowk.below bb
  simp at he
  obtain ⟨rfl, rfl⟩ := he
  unfold maxLen at hca' hrc'
  have i1 : (k : Int) < (xss.length : Int) := by omega
  have hr6 : r.length ≤ 6 := hB.1
  have HB := Lib.hid hB
  have HBB := Lib.hid bb
  clear hr hul hrd hrow hca hca' hrc hB hrowk bb
  have GA := Lib.hid ga
  go_enter Tryz.func142, Tryz.ntmps142
  unfold chObj at ga
  go_wp2
  clear ga
  go_loopw [7, 16] (fun q i wr => ∃ j : Nat, j ≤ r.length ∧ i = .int .i64 j ∧ q = .int .i64 (r.take j).sum ∧ toOf r d = toFrom (r.drop j) d (r.take j).sum j ∧ wr = w.alloc (chObj s t (.slice (some ⟨ba, oa, none⟩) xss.length ca))) (fun _ i _ => r.length - (intOf i).toNat)
  case atStart => exact ⟨0, Nat.zero_le _, rfl, rfl, rfl, rfl⟩
  case round =>
    obtain ⟨j, hj, rfl, rfl, hto, rfl⟩ := hrel
    have HT := Lib.hid hto
    clear hto
    have hs0 := (HB.out.sum j).1
    have hs1 := (HB.out.sum j).2
    by_cases hjt : j < r.length
    · obtain ⟨rb, ro, rfl, gr⟩ := hrr.one (i64s_get hjt)
      have hx := HB.out.2 r[j] (List.getElem_mem hjt)
      have hx0 : 0 ≤ r[j] := hx.1
      have hx1 : r[j] ≤ 60 := hx.2
      have hst := toOf_step (d := d) hjt
      have HST := Lib.hid hst
      have i3 : (j : Int) < (r.length : Int) := by omega
      clear hx hst
      by_cases hd : d < (r.take j).sum + r[j]
      · go_wp2
        go_ret
        exact ⟨ri (by rw [HT.out, HST.out, if_pos hd]; rfl), HBB.out⟩
      · go_wp2
        go_roundw
        case rel => exact ⟨j + 1, by omega, by go_num, vi (sum_succ hjt).symm, by rw [HT.out, HST.out, if_neg (by omega)], trivial⟩
        case measure => simp [intOf]; omega
    · obtain rfl : j = r.length := by omega
      go_wp2
      go_ret
      exact ⟨ri (by rw [HT.out]; simp [toFrom]), HBB.out⟩

def upTo (n : Nat) : List Int := (List.range n).map fun (i : Nat) => (i : Int)
theorem upTo_succ (n : Nat) : upTo (n + 1) = upTo n ++ [(n : Int)] := by simp [upTo, List.range_succ]
theorem upTo_length (n : Nat) : (upTo n).length = n := by simp [upTo]

set_option maxHeartbeats 400000 in
theorem l02All_any (n : Nat) (w : World) (hn : n ≤ 1000) :
    Calls Tryz.prog 144 #[.int .i64 n] w fun e w' => ∃ v, e = .returned v ∧ OwnI w' w.heap.size v (upTo n) ∧ Below w.heap.size w w' := by
  go_enter Tryz.func144, Tryz.ntmps144
  go_wp2
  go_loopw [3, 4] (fun v i wr => ∃ k : Nat, k ≤ n ∧ i = .int .i64 k ∧ OwnI wr w.heap.size v (upTo k) ∧ Below w.heap.size w wr) (fun _ i _ => n - (intOf i).toNat)
  case atStart => exact ⟨0, Nat.zero_le _, rfl, OwnI.empty _ (Nat.le_refl _), (Below.refl _ _).alloc (Nat.le_refl _) _⟩
  case round =>
    obtain ⟨k, hk, rfl, hown, hbw⟩ := hrel
    by_cases hlt : k < n
    · have hsz := hbw.size
      have hl := upTo_length k
      go_wp2_with (at_builtin; refine append_i64 _ _ _ _ rfl rfl rfl hown rfl (by omega) (by omega) ?_)
      intro v' w1 hown1 hb1 hsz1
      rw [← upTo_succ] at hown1
      have hb2 := (hbw.alloc hsz _).trans hb1
      clear hown hb1
      go_wp2
      go_roundw
      case rel => exact ⟨k + 1, by omega, by go_num, hown1, hb2⟩
      case measure => simp [intOf]; omega
    · obtain rfl : k = n := by omega
      go_wp2
      go_ret
      exact ⟨_, rfl, hown, hbw⟩

set_option maxHeartbeats 400000 in
theorem everyState_any (n : Nat) (w : World) (hn : n ≤ 1000) :
    Calls Tryz.prog 141 #[.int .i64 n] w fun e w' => ∃ v, e = .returned v ∧ OwnI w' w.heap.size v (upTo n) ∧ Below w.heap.size w w' := by
  go_enter Tryz.func141, Tryz.ntmps141
  go_wp2
  go_loopw [3, 7] (fun v i wr => ∃ k : Nat, k ≤ n ∧ i = .int .i64 k ∧ OwnI wr w.heap.size v (upTo k) ∧ Below w.heap.size w wr) (fun _ i _ => n - (intOf i).toNat)
  case atStart => exact ⟨0, Nat.zero_le _, rfl, OwnI.empty _ (Nat.le_refl _), (Below.refl _ _).alloc (Nat.le_refl _) _⟩
  case round =>
    obtain ⟨k, hk, rfl, hown, hbw⟩ := hrel
    by_cases hlt : k < n
    · have hsz := hbw.size
      have hl := upTo_length k
      go_wp2_with (at_builtin; refine append_i64 _ _ _ _ rfl rfl rfl hown rfl (by omega) (by omega) ?_)
      intro v' w1 hown1 hb1 hsz1
      rw [← upTo_succ] at hown1
      have hb2 := (hbw.alloc hsz _).trans hb1
      clear hown hb1
      go_wp2
      go_roundw
      case rel => exact ⟨k + 1, by omega, by go_num, hown1, hb2⟩
      case measure => simp [intOf]; omega
    · obtain rfl : k = n := by omega
      go_wp2
      go_ret
      exact ⟨_, rfl, hown, hbw⟩
end Go.Proofs.YtofpelmplcoegaaGreat
namespace Go.Proofs.YtofpelmplcoegaaGreat
open Go.RowKit
end Go.Proofs.YtofpelmplcoegaaGreat
