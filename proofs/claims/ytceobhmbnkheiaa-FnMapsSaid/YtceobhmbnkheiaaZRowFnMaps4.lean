/-
  A search by impl.RunByDraws$1. With it: The law package's own helpers on [][]int64: counted, copied, equal. Small words for laws whose arguments are []int64. Which chains are valid: the reference's look and the program's. Which chains are valid: the program's look. Chains and services: counted, copied, compared. Which services are valid. Arguments of laws: boxed services. Marks written into what a law has handed in: what is made later, and what was there before, stays. Frames: what stays where some blocks alone are written; cells of a new block. One step by a draw: the reference's and the program's. Searches: plain laws.
-/
import Derived.Test.YtceobhmbnkheiaaZRowFnMaps3
import Derived.Lib.QuietBelow
set_option linter.unusedVariables false
set_option linter.unusedSimpArgs false
namespace Go.Proofs.Ytceobhmbnkheiaa
open Go.RowKit Go.Sort

def sz1 (l : Int) (n : Nat) : Int := if l - n < 0 then -1 else l - n
def szRows : Int → List (List Int) → Int
  | l, [] => l
  | l, r :: rs => if sz1 l r.length < 0 then -1 else szRows (sz1 l r.length) rs
def szII (l : Int) (xss : List (List Int)) : Int := if l - xss.length < 0 then -1 else szRows (l - xss.length) xss
theorem sz1_le {l : Int} {n : Nat} : sz1 l n ≤ l ∨ sz1 l n = -1 := by unfold sz1; split <;> omega
theorem szRows_nonneg : ∀ {xss : List (List Int)} {l : Int}, 0 ≤ szRows l xss → 0 ≤ l ∧ szRows l xss ≤ l ∧ ∀ r ∈ xss, (r.length : Int) ≤ l
  | [], l, h => ⟨h, Int.le_refl _, by simp⟩
  | r :: rs, l, h => by
    unfold szRows at h ⊢
    by_cases h1 : sz1 l r.length < 0
    · rw [if_pos h1] at h; omega
    · rw [if_neg h1] at h ⊢
      obtain ⟨h2, h3, h4⟩ := szRows_nonneg h
      have h5 : sz1 l r.length = l - r.length := by unfold sz1 at h1 ⊢; split <;> simp_all
      refine ⟨by omega, by omega, fun x hx => ?_⟩
      simp at hx
      rcases hx with rfl | hx
      · omega
      · have := h4 x hx; omega
theorem szII_nonneg {xss : List (List Int)} {l : Int} (h : 0 ≤ szII l xss) : (xss.length : Int) ≤ l ∧ szII l xss ≤ l ∧ ∀ r ∈ xss, (r.length : Int) ≤ l := by
  unfold szII at h ⊢
  split at h
  · omega
  · rename_i h1
    rw [if_neg h1]
    obtain ⟨h2, h3, h4⟩ := szRows_nonneg h
    exact ⟨by omega, by omega, fun r hr => by have := h4 r hr; omega⟩
theorem szII_range (l : Int) (xss : List (List Int)) (h : l ≤ 1048576) : -1 ≤ szII l xss ∧ szII l xss ≤ 1048576 := by
  have key : ∀ (xss : List (List Int)) (l : Int), 0 ≤ l → l ≤ 1048576 → -1 ≤ szRows l xss ∧ szRows l xss ≤ 1048576 := by
    intro xss
    induction xss with
    | nil => intro l h0 h1; unfold szRows; omega
    | cons r rs ih =>
      intro l h0 h1
      unfold szRows
      split
      · omega
      · rename_i h2
        have h5 : sz1 l r.length = l - r.length := by unfold sz1 at h2 ⊢; split <;> simp_all
        exact ih _ (by omega) (by omega)
  unfold szII
  split
  · omega
  · exact key _ _ (by omega) (by omega)
theorem SlII.row {w : World} {ad : Option Addr} {vs : List Value} {xss : List (List Int)} (hl : vs.length = xss.length) (h : Rd w ad vs) (hr : ∀ (i : Nat) (hi : i < xss.length) u, vs[i]? = some u → SlI w u xss[i]) {k : Nat} (hk : k < xss.length) :
    ∃ u b off, ad = some ⟨b, off, none⟩ ∧ w.cell? ⟨b, off + k, none⟩ = some u ∧ SlI w u xss[k] := by
  obtain ⟨b, off, h1, h2⟩ := h.one (List.getElem?_eq_getElem (by omega : k < vs.length))
  exact ⟨_, b, off, h1, h2, hr k hk _ (List.getElem?_eq_getElem (by omega))⟩

theorem fillg {α : Type} {xs : List α} {z : α} {k : Nat} (h : k < xs.length) : (xs.take k ++ List.replicate (xs.length - k) z).set k xs[k] = xs.take (k+1) ++ List.replicate (xs.length - (k+1)) z := by
  rw [List.set_append_right _ _ (by simp; omega), List.take_succ_eq_append_getElem h, List.append_assoc]
  congr 1
  have e : xs.length - k = (xs.length - (k+1)) + 1 := by omega
  have e2 : k - (xs.take k).length = 0 := by simp; omega
  rw [e, e2, List.replicate_succ, List.set_cons_zero]; rfl
theorem Rows2.nils (w : World) (base n : Nat) : Rows2 w base (List.replicate n (.slice none 0 0)) (List.replicate n []) := by
  refine ⟨by simp, fun i u xs hu hx => ?_, fun i j u v g _ hu hv hg => ?_⟩
  · rw [List.getElem?_replicate] at hu hx
    split at hu
    · rename_i h
      rw [if_pos h] at hx
      simp at hu hx; subst hu hx; exact OwnI.nil _ _
    · simp at hu
  · rw [List.getElem?_replicate] at hu
    split at hu
    · simp at hu; subst hu; simp [Value.ownBlock] at hg
    · simp at hu
/-- storing a new row -/
theorem rows_store {w w1 : World} {base g n c : Nat} {vs : List Value} {xss : List (List Int)} {u : Value} {xs : List Int} (k : Nat)
    (h1 : w.ownsRow base 32 1 (.slice (some ⟨g, 0, none⟩) n c) n vs) (h2 : Rows2 w base vs xss) (hbase : base ≤ w.heap.size) (hu : OwnI w1 w.heap.size u xs) (hb : Below w.heap.size w w1) :
    (w1.setCell ⟨g, k, none⟩ u).ownsRow base 32 1 (.slice (some ⟨g, 0, none⟩) n c) n (vs.set k u) ∧ Rows2 (w1.setCell ⟨g, k, none⟩ u) base (vs.set k u) (xss.set k xs) := by
  have h3 := ownsRow_below h1 hb
  have h4 := World.ownsRow.stored h3 k u
  refine ⟨h4.1, ?_⟩
  have h5 : Rows2 w1 base (vs.set k u) (xss.set k xs) := Rows2.set (B := w.heap.size) (h2.below hb) (hu.lower hbase) (fun i v g hv hg => (h2.lt i v g hv hg).2) (fun g hg => (hu.lt g hg).1)
  exact h5.kept h3 h4.2

end Go.Proofs.Ytceobhmbnkheiaa
namespace Go.Proofs.Ytceobhmbnkheiaa
open Go.RowKit
end Go.Proofs.Ytceobhmbnkheiaa
namespace Go.Proofs.Ytceobhmbnkheiaa
open Go.RowKit Go.Sort

theorem l00In_b (x a b : Int) (w : World) :
    Calls Try.prog 40 #[.int .i64 x, .int .i64 a, .int .i64 b] w fun e w' => e = .returned (.bool (inR x a b)) ∧ Below w.heap.size w w' :=
  (l00In_any x a b w).mono fun _ _ ⟨h, hw⟩ => ⟨h, hw ▸ Below.refl _ _⟩
theorem inRange_b (x a b : Int) (w : World) :
    Calls Try.prog 39 #[.int .i64 x, .int .i64 a, .int .i64 b] w fun e w' => e = .returned (.bool (inR x a b)) ∧ Below w.heap.size w w' :=
  (inRange_any x a b w).mono fun _ _ ⟨h, hw⟩ => ⟨h, hw ▸ Below.refl _ _⟩

theorem rbf {b : Bool} (h : b = false) : Ending.returned (.bool false) = .returned (.bool b) := by rw [h]
theorem rbt {b : Bool} (h : b = true) : Ending.returned (.bool true) = .returned (.bool b) := by rw [h]
def inAll (r : List Int) (t : Int) : Bool := r.all fun x => inR x 0 t
def rowOk (s t : Int) (r : List Int) : Bool := decide ((r.length : Int) = s) && (inAll r t && decide (r.sum = t))
def rowsOk (s t : Int) (xss : List (List Int)) : Bool := xss.all (rowOk s t)
def chainOk (s t : Int) (xss : List (List Int)) : Bool := inR s 1 6 && (inR t 1 60 && (decide ((xss.length : Int) = s) && rowsOk s t xss))
theorem inAll_succ {r : List Int} {t : Int} {j : Nat} (h : inAll (r.take j) t = true) (hj : j < r.length) (hx : inR r[j] 0 t = true) : inAll (r.take (j + 1)) t = true := by
  unfold inAll at *
  rw [List.take_succ_eq_append_getElem hj, List.all_append, h]
  simp [hx]
theorem inAll_false {r : List Int} {t : Int} {j : Nat} (hj : j < r.length) (hx : inR r[j] 0 t = false) : inAll r t = false := by
  unfold inAll
  rw [List.all_eq_false]
  exact ⟨r[j], List.getElem_mem hj, by simp [hx]⟩
theorem sum_succ {r : List Int} {j : Nat} (hj : j < r.length) : (r.take (j + 1)).sum = (r.take j).sum + r[j] := by
  rw [List.take_succ_eq_append_getElem hj, List.sum_append]; simp
theorem inAll_sum {t : Int} (ht : t ≤ 60) : ∀ {r : List Int}, inAll r t = true → 0 ≤ r.sum ∧ r.sum ≤ 60 * (r.length : Int)
  | [], _ => by simp
  | x :: r, h => by
    unfold inAll at h
    rw [List.all_cons, Bool.and_eq_true] at h
    have h1 := inR_iff.1 h.1
    have h2 := inAll_sum ht (r := r) h.2
    simp only [List.sum_cons, List.length_cons]
    omega
theorem rowsOk_succ {s t : Int} {xss : List (List Int)} {k : Nat} (h : rowsOk s t (xss.take k) = true) (hk : k < xss.length) (hx : rowOk s t xss[k] = true) : rowsOk s t (xss.take (k + 1)) = true := by
  unfold rowsOk at *
  rw [List.take_succ_eq_append_getElem hk, List.all_append, h]
  simp [hx]
theorem rowsOk_false {s t : Int} {xss : List (List Int)} {k : Nat} (hk : k < xss.length) (hx : rowOk s t xss[k] = false) : rowsOk s t xss = false := by
  unfold rowsOk
  rw [List.all_eq_false]
  exact ⟨xss[k], List.getElem_mem hk, by simp [hx]⟩
theorem rowOk_len {s t : Int} {r : List Int} (h : ¬ (r.length : Int) = s) : rowOk s t r = false := by simp [rowOk, h]
theorem rowOk_in {s t : Int} {r : List Int} (h : inAll r t = false) : rowOk s t r = false := by simp [rowOk, h]
theorem rowOk_sum {s t : Int} {r : List Int} (h : ¬ r.sum = t) : rowOk s t r = false := by simp [rowOk, h]
theorem rowOk_yes {s t : Int} {r : List Int} (h1 : (r.length : Int) = s) (h2 : inAll r t = true) (h3 : r.sum = t) : rowOk s t r = true := by simp [rowOk, h1, h2, h3]

/-- three cells: a chain -/
def ChainAt (w : World) (b o : Nat) (s t : Int) (v : Value) : Prop :=
  b < w.heap.size ∧ w.cell? ⟨b, o, none⟩ = some (.int .i64 s) ∧ w.cell? ⟨b, o + 1, none⟩ = some (.int .i64 t) ∧ w.cell? ⟨b, o + 2, none⟩ = some v
theorem ChainAt.below {w w' : World} {b o : Nat} {s t : Int} {v : Value} (h : ChainAt w b o s t v) (hb : Below w.heap.size w w') : ChainAt w' b o s t v :=
  ⟨Nat.lt_of_lt_of_le h.1 hb.size, by rw [hb.cell (p := ⟨b, o, none⟩) h.1]; exact h.2.1, by rw [hb.cell (p := ⟨b, o + 1, none⟩) h.1]; exact h.2.2.1, by rw [hb.cell (p := ⟨b, o + 2, none⟩) h.1]; exact h.2.2.2⟩

/-- a row at its place -/
def RowAt (w : World) (b off k : Nat) (u : Value) (r : List Int) : Prop := b < w.heap.size ∧ w.cell? ⟨b, off + k, none⟩ = some u ∧ SlI w u r
theorem RowAt.below {w w' : World} {b off k : Nat} {u : Value} {r : List Int} (h : RowAt w b off k u r) (hb : Below w.heap.size w w') : RowAt w' b off k u r :=
  ⟨Nat.lt_of_lt_of_le h.1 hb.size, by rw [hb.cell (p := ⟨b, off + k, none⟩) h.1]; exact h.2.1, h.2.2.below hb⟩
theorem SlII.rowAt {w : World} {ad : Option Addr} {vs : List Value} {xss : List (List Int)} (hl : vs.length = xss.length) (h : Rd w ad vs) (hr : ∀ (i : Nat) (hi : i < xss.length) u, vs[i]? = some u → SlI w u xss[i]) {k : Nat} (hk : k < xss.length) :
    ∃ u b off, ad = some ⟨b, off, none⟩ ∧ RowAt w b off k u xss[k] := by
  obtain ⟨b, off, h1, h2, h3⟩ := h k _ (List.getElem?_eq_getElem (by omega : k < vs.length))
  exact ⟨_, b, off, h1, h2, h3, hr k hk _ (List.getElem?_eq_getElem (by omega))⟩
set_option maxRecDepth 100000 in
set_option maxHeartbeats 2000000 in
theorem l01Ok_rows {v : Value} {xss : List (List Int)} (b o : Nat) (s t : Int) (w : World) (hc : ChainAt w b o s t v) (ha : SlII w v xss) (hs : inR s 1 6 = true) (ht : inR t 1 60 = true) (hl : (xss.length : Int) = s) :
    Calls Try.prog 74 #[.pointer (some ⟨b, o, none⟩)] w fun e w' => e = .returned (.bool (chainOk s t xss)) ∧ Below w.heap.size w w' := by
  obtain ⟨a, ca, us, rfl, hca, hca', hul, hrd, hrow⟩ := ha
  unfold maxLen at hca'
  have hn : xss.length ≤ 9223372036854775807 := by omega
  have HC := Lib.hid hc
  have HU := Lib.hid hul
  have HR := Lib.hid hrow
  obtain ⟨c0, c1, c2, c3⟩ := hc
  have k1 := fun d os => cell_regrown c1 d os
  have k2 := fun d os => cell_regrown c2 d os
  have k3 := fun d os => cell_regrown c3 d os
  clear hca hca' hul hrow
  have hls : ((xss.length : Int) != s) = false := by simp [hl]
  have hsb := inR_iff.1 hs
  have htb := inR_iff.1 ht
  have hs1 : 1 ≤ s := hsb.1
  have hs6 : s ≤ 6 := hsb.2
  have ht1 : 1 ≤ t := htb.1
  have ht60 : t ≤ 60 := htb.2
  have HL := Lib.hid hl
  have HD : Hid (chainOk s t xss = rowsOk s t xss) := by unfold Hid chainOk; rw [hs, ht, decide_eq_true hl]; rfl
  clear hl hsb htb
  go_enter Try.func74, Try.ntmps74
  go_wp2_with fail
  have bw := Below.refl w.heap.size w
  refine wp_region_quiet_below (by kernel_rfl) (by kernel_rfl) ?_
  repeat (first | go_big_quiet_skip | quiet_step (exact Calls.regrown_of (l00In_b _ _ _ _)))
  refine wpQuiet_nil ?_
  intro _ hw'
  obtain ⟨⟨dq, osq⟩, hw''⟩ := hw'
  subst hw''
  have bq := bw.trans ((below_regrown w dq osq).mono bw.size)
  generalize grow (redrawn w dq) osq = wq at bq ⊢
  clear k1 k2 k3 bw
  go_wp2
  go_loopw [3] (fun i wr => ∃ k : Nat, k ≤ xss.length ∧ i = .int .i64 k ∧ rowsOk s t (xss.take k) = true ∧ Below w.heap.size w wr) (fun i _ => xss.length - (intOf i).toNat)
  case atStart => exact ⟨0, Nat.zero_le _, rfl, by simp [rowsOk], bq⟩
  case round =>
    clear bq
    obtain ⟨k, hk, rfl, hall, hbw⟩ := hrel
    have HA := Lib.hid hall
    clear hall
    by_cases hlt : k < xss.length
    · obtain ⟨x, ba, oa, rfl, hrowk⟩ := SlII.rowAt HU.out hrd HR.out hlt
      generalize hr : xss[k] = r at hrowk
      have HRW := Lib.hid hr
      obtain ⟨ra, rc, rfl, hrc, hrc', hrr⟩ := id hrowk.2.2
      unfold maxLen at hrc'
      have HRK := Lib.hid hrowk
      obtain ⟨d0, d1, d2, d3⟩ := HC.out.below hbw
      obtain ⟨g0, ga, _⟩ := HRK.out.below hbw
      have k1 := fun d os => cell_regrown d1 d os
      have k2 := fun d os => cell_regrown d2 d os
      have k3 := fun d os => cell_regrown d3 d os
      have k4 := fun d os => cell_regrown ga d os
      have i0 : (0 : Int) ≤ (k : Int) := by omega
      have i1 : (k : Int) < (xss.length : Int) := by omega
      clear hr hrc hrowk
      by_cases hrl : (r.length : Int) = s
      · have hrs : ((r.length : Int) != s) = false := by simp [hrl]
        have hr6 : r.length ≤ 6 := by omega
        have HRL := Lib.hid hrl
        clear hrl
        go_wp2_with fail
        refine wp_region_quiet_below (by kernel_rfl) (by kernel_rfl) ?_
        repeat (first | go_big_quiet_skip | quiet_step (fail))
        refine wpQuiet_nil ?_
        intro _ hw'
        obtain ⟨⟨dq, osq⟩, hw''⟩ := hw'
        subst hw''
        have bq := hbw.trans ((below_regrown wr dq osq).mono hbw.size)
        generalize grow (redrawn wr dq) osq = wq at bq ⊢
        clear k1 k2 k3 k4 d1 d2 d3 ga
        go_wp2
        go_loopw [4, 5] (fun q i wr => ∃ j : Nat, j ≤ r.length ∧ i = .int .i64 j ∧ q = .int .i64 (r.take j).sum ∧ inAll (r.take j) t = true ∧ Below w.heap.size w wr) (fun _ i _ => r.length - (intOf i).toNat)
        case atStart => exact ⟨0, Nat.zero_le _, rfl, rfl, by simp [inAll], bq⟩
        case round =>
          clear bq hbw
          obtain ⟨j, hj, rfl, rfl, hin, hbr⟩ := hrel
          have hsum := inAll_sum ht60 hin
          have hlen : (r.take j).length ≤ 6 := by simp; omega
          have hsb0 : 0 ≤ (r.take j).sum := hsum.1
          have hsb1 : (r.take j).sum ≤ 1000 := by omega
          have HIN := Lib.hid hin
          clear hin hsum
          obtain ⟨d0, d1, d2, d3⟩ := HC.out.below hbr
          obtain ⟨g0, ga, _⟩ := HRK.out.below hbr
          have k1 := fun d os => cell_regrown d1 d os
          have k2 := fun d os => cell_regrown d2 d os
          have k3 := fun d os => cell_regrown d3 d os
          have k4 := fun d os => cell_regrown ga d os
          by_cases hjt : j < r.length
          · obtain ⟨rb, ro, rfl, gr⟩ := (hrr.below hbr).one (i64s_get hjt)
            have k5 := fun d os => cell_regrown gr d os
            have i2 : (0 : Int) ≤ (j : Int) := by omega
            have i3 : (j : Int) < (r.length : Int) := by omega
            by_cases hx : inR r[j] 0 t = true
            · have hxb := inR_iff.1 hx
              have hx0 : 0 ≤ r[j] := hxb.1
              have hx1 : r[j] ≤ 60 := by omega
              clear hxb
              go_wp2_with fail
              refine wp_region_quiet_below (by kernel_rfl) (by kernel_rfl) ?_
              repeat (first | go_big_quiet_skip | quiet_step (exact Calls.regrown_of (l00In_b _ _ _ _)))
              refine wpQuiet_nil ?_
              intro _ hw'
              obtain ⟨⟨dq, osq⟩, hw''⟩ := hw'
              subst hw''
              have bq2 := hbr.trans ((below_regrown wr dq osq).mono hbr.size)
              generalize grow (redrawn wr dq) osq = wq2 at bq2 ⊢
              clear k1 k2 k3 k4 k5 d1 d2 d3 ga gr
              obtain ⟨d0, d1, d2, d3⟩ := HC.out.below bq2
              obtain ⟨g0, ga, _⟩ := HRK.out.below bq2
              obtain ⟨rb2, ro2, he, gr⟩ := (hrr.below bq2).one (i64s_get hjt)
              simp at he
              obtain ⟨rfl, rfl⟩ := he
              go_wp2
              go_roundw
              case rel => exact ⟨j + 1, by omega, by go_num, vi (sum_succ hjt).symm, inAll_succ HIN.out hjt hx, bq2⟩
              case measure => simp [intOf]; omega
            · have hx' : inR r[j] 0 t = false := by simpa using hx
              go_wp2_with fail
              refine wp_region_quiet_below (by kernel_rfl) (by kernel_rfl) ?_
              repeat (first | go_big_quiet_skip | quiet_step (exact Calls.regrown_of (l00In_b _ _ _ _)))
              refine wpQuiet_nil ?_
              intro _ hw'
              obtain ⟨⟨dq, osq⟩, hw''⟩ := hw'
              subst hw''
              have bq2 := hbr.trans ((below_regrown wr dq osq).mono hbr.size)
              generalize grow (redrawn wr dq) osq = wq2 at bq2 ⊢
              clear k1 k2 k3 k4 k5
              go_wp2
              go_ret
              exact ⟨rbf (by rw [HD.out]; exact rowsOk_false hlt (by rw [HRW.out]; exact rowOk_in (inAll_false hjt hx'))), bq2⟩
          · obtain rfl : j = r.length := by omega
            have hin2 := HIN.out
            rw [List.take_length] at hin2 hsb0 hsb1
            have HI2 := Lib.hid hin2
            clear hin2 hjt hj hlen HIN
            by_cases hst : r.sum = t
            · have hst' : (r.sum != t) = false := by simp [hst]
              have HST := Lib.hid hst
              clear hst k1 k2 k3 k4
              go_wp2
              go_roundw
              case rel => exact ⟨k + 1, by omega, by go_num, rowsOk_succ HA.out hlt (by rw [HRW.out]; exact rowOk_yes HRL.out HI2.out HST.out), hbr⟩
              case measure => simp [intOf]; omega
            · have hst' : (r.sum != t) = true := by simp [hst]
              have HST := Lib.hid hst
              clear hst k1 k2 k3 k4
              go_wp2
              go_ret
              exact ⟨rbf (by rw [HD.out]; exact rowsOk_false hlt (by rw [HRW.out]; exact rowOk_sum HST.out)), hbr⟩
      · have hrs : ((r.length : Int) != s) = true := by simp [hrl]
        have HRL := Lib.hid hrl
        clear hrl
        go_wp2_with fail
        refine wp_region_quiet_below (by kernel_rfl) (by kernel_rfl) ?_
        repeat (first | go_big_quiet_skip | quiet_step (fail))
        refine wpQuiet_nil ?_
        intro _ hw'
        obtain ⟨⟨dq, osq⟩, hw''⟩ := hw'
        subst hw''
        have bq := hbw.trans ((below_regrown wr dq osq).mono hbw.size)
        generalize grow (redrawn wr dq) osq = wq at bq ⊢
        clear k1 k2 k3 k4 d1 d2 d3 ga
        go_wp2
        go_ret
        exact ⟨rbf (by rw [HD.out]; exact rowsOk_false hlt (by rw [HRW.out]; exact rowOk_len HRL.out)), bq⟩
    · have ht := HA.out
      obtain ⟨d0, d1, d2, d3⟩ := HC.out.below hbw
      obtain rfl : k = xss.length := by omega
      go_wp2
      go_ret
      exact ⟨rb (by rw [HD.out]; rw [List.take_of_length_le (Nat.le_refl _)] at ht; exact ht.symm), hbw⟩
set_option maxRecDepth 100000 in
set_option maxHeartbeats 2000000 in
theorem l01Ok_bad1 {v : Value} {xss : List (List Int)} (b o : Nat) (s t : Int) (w : World) (hc : ChainAt w b o s t v) (ha : SlII w v xss) (hs : inR s 1 6 = true) (ht : inR t 1 60 = true) (hl : ¬ (xss.length : Int) = s) :
    Calls Try.prog 74 #[.pointer (some ⟨b, o, none⟩)] w fun e w' => e = .returned (.bool (chainOk s t xss)) ∧ Below w.heap.size w w' := by
  obtain ⟨a, ca, us, rfl, hca, hca', hul, hrd, hrow⟩ := ha
  unfold maxLen at hca'
  have hn : xss.length ≤ 9223372036854775807 := by omega
  have HC := Lib.hid hc
  have HU := Lib.hid hul
  have HR := Lib.hid hrow
  obtain ⟨c0, c1, c2, c3⟩ := hc
  have k1 := fun d os => cell_regrown c1 d os
  have k2 := fun d os => cell_regrown c2 d os
  have k3 := fun d os => cell_regrown c3 d os
  clear hca hca' hul hrow
  have hls : ((xss.length : Int) != s) = true := by simp [hl]
  have HD : Hid (chainOk s t xss = false) := by unfold Hid chainOk; simp [hl]
  clear hl
  go_enter Try.func74, Try.ntmps74
  go_wp2_with fail
  have bw := Below.refl w.heap.size w
  refine wp_region_quiet_below (by kernel_rfl) (by kernel_rfl) ?_
  repeat (first | go_big_quiet_skip | quiet_step (exact Calls.regrown_of (l00In_b _ _ _ _)))
  refine wpQuiet_nil ?_
  intro _ hw'
  obtain ⟨⟨dq, osq⟩, hw''⟩ := hw'
  subst hw''
  have bq := bw.trans ((below_regrown w dq osq).mono bw.size)
  generalize grow (redrawn w dq) osq = wq at bq ⊢
  go_wp2
  go_ret
  exact ⟨rbf HD.out, bq⟩
set_option maxRecDepth 100000 in
set_option maxHeartbeats 2000000 in
theorem l01Ok_bad2 {v : Value} {xss : List (List Int)} (b o : Nat) (s t : Int) (w : World) (hc : ChainAt w b o s t v) (ha : SlII w v xss) (hs : inR s 1 6 = true) (ht : ¬ inR t 1 60 = true) :
    Calls Try.prog 74 #[.pointer (some ⟨b, o, none⟩)] w fun e w' => e = .returned (.bool (chainOk s t xss)) ∧ Below w.heap.size w w' := by
  obtain ⟨a, ca, us, rfl, hca, hca', hul, hrd, hrow⟩ := ha
  unfold maxLen at hca'
  have hn : xss.length ≤ 9223372036854775807 := by omega
  have HC := Lib.hid hc
  have HU := Lib.hid hul
  have HR := Lib.hid hrow
  obtain ⟨c0, c1, c2, c3⟩ := hc
  have k1 := fun d os => cell_regrown c1 d os
  have k2 := fun d os => cell_regrown c2 d os
  have k3 := fun d os => cell_regrown c3 d os
  clear hca hca' hul hrow
  have ht' : inR t 1 60 = false := by simpa using ht
  have HD : Hid (chainOk s t xss = false) := by unfold Hid chainOk; simp [ht']
  clear ht
  go_enter Try.func74, Try.ntmps74
  go_wp2_with fail
  have bw := Below.refl w.heap.size w
  refine wp_region_quiet_below (by kernel_rfl) (by kernel_rfl) ?_
  repeat (first | go_big_quiet_skip | quiet_step (exact Calls.regrown_of (l00In_b _ _ _ _)))
  refine wpQuiet_nil ?_
  intro _ hw'
  obtain ⟨⟨dq, osq⟩, hw''⟩ := hw'
  subst hw''
  have bq := bw.trans ((below_regrown w dq osq).mono bw.size)
  generalize grow (redrawn w dq) osq = wq at bq ⊢
  go_wp2
  go_ret
  exact ⟨rbf HD.out, bq⟩
set_option maxRecDepth 100000 in
set_option maxHeartbeats 2000000 in
theorem l01Ok_bad3 {v : Value} {xss : List (List Int)} (b o : Nat) (s t : Int) (w : World) (hc : ChainAt w b o s t v) (ha : SlII w v xss) (hs : ¬ inR s 1 6 = true) :
    Calls Try.prog 74 #[.pointer (some ⟨b, o, none⟩)] w fun e w' => e = .returned (.bool (chainOk s t xss)) ∧ Below w.heap.size w w' := by
  obtain ⟨a, ca, us, rfl, hca, hca', hul, hrd, hrow⟩ := ha
  unfold maxLen at hca'
  have hn : xss.length ≤ 9223372036854775807 := by omega
  have HC := Lib.hid hc
  have HU := Lib.hid hul
  have HR := Lib.hid hrow
  obtain ⟨c0, c1, c2, c3⟩ := hc
  have k1 := fun d os => cell_regrown c1 d os
  have k2 := fun d os => cell_regrown c2 d os
  have k3 := fun d os => cell_regrown c3 d os
  clear hca hca' hul hrow
  have hs' : inR s 1 6 = false := by simpa using hs
  have HD : Hid (chainOk s t xss = false) := by unfold Hid chainOk; simp [hs']
  clear hs
  go_enter Try.func74, Try.ntmps74
  go_wp2_with fail
  have bw := Below.refl w.heap.size w
  refine wp_region_quiet_below (by kernel_rfl) (by kernel_rfl) ?_
  repeat (first | go_big_quiet_skip | quiet_step (exact Calls.regrown_of (l00In_b _ _ _ _)))
  refine wpQuiet_nil ?_
  intro _ hw'
  obtain ⟨⟨dq, osq⟩, hw''⟩ := hw'
  subst hw''
  have bq := bw.trans ((below_regrown w dq osq).mono bw.size)
  generalize grow (redrawn w dq) osq = wq at bq ⊢
  go_wp2
  go_ret
  exact ⟨rbf HD.out, bq⟩
theorem l01Ok_any {v : Value} {xss : List (List Int)} (b o : Nat) (s t : Int) (w : World) (hc : ChainAt w b o s t v) (ha : SlII w v xss) :
    Calls Try.prog 74 #[.pointer (some ⟨b, o, none⟩)] w fun e w' => e = .returned (.bool (chainOk s t xss)) ∧ Below w.heap.size w w' := by
  by_cases hs : inR s 1 6 = true
  · by_cases ht : inR t 1 60 = true
    · by_cases hl : (xss.length : Int) = s
      · exact l01Ok_rows b o s t w hc ha hs ht hl
      · exact l01Ok_bad1 b o s t w hc ha hs ht hl
    · exact l01Ok_bad2 b o s t w hc ha hs ht
  · exact l01Ok_bad3 b o s t w hc ha hs
end Go.Proofs.Ytceobhmbnkheiaa
namespace Go.Proofs.Ytceobhmbnkheiaa
open Go.RowKit Go.Sort
/-- a boxed chain -/
def chObj (s t : Int) (v : Value) : Obj := .cells #[.int .i64 s, .int .i64 t, v] 52
theorem chBox (w : World) (s t : Int) (v : Value) : ChainAt (w.alloc (chObj s t v)) w.heap.size 0 s t v := by
  unfold chObj ChainAt
  refine ⟨by simp, ?_, ?_, ?_⟩ <;> simp [go_sem]
theorem chBelow (w : World) (s t : Int) (v : Value) : Below w.heap.size w (w.alloc (chObj s t v)) := (Below.refl _ _).alloc (Nat.le_refl _) _

set_option maxRecDepth 100000 in
set_option maxHeartbeats 2000000 in
theorem ValidChain_rows {v : Value} {xss : List (List Int)} (s t : Int) (w : World) (ha : SlII w v xss) (hs : inR s 1 6 = true) (ht : inR t 1 60 = true) (hl : (xss.length : Int) = s) :
    Calls Try.prog 72 #[.agg #[.int .i64 s, .int .i64 t, v]] w fun e w' => e = .returned (.bool (chainOk s t xss)) ∧ Below w.heap.size w w' := by
  obtain ⟨a, ca, us, rfl, hca, hca', hul, hrd, hrow⟩ := ha
  unfold maxLen at hca'
  have hn : xss.length ≤ 9223372036854775807 := by omega
  have HU := Lib.hid hul
  have HR := Lib.hid hrow
  have hls : ((xss.length : Int) != s) = false := by simp [hl]
  have hsb := inR_iff.1 hs
  have htb := inR_iff.1 ht
  have hs1 : 1 ≤ s := hsb.1
  have hs6 : s ≤ 6 := hsb.2
  have ht1 : 1 ≤ t := htb.1
  have ht60 : t ≤ 60 := htb.2
  have HL := Lib.hid hl
  have HD : Hid (chainOk s t xss = rowsOk s t xss) := by unfold Hid chainOk; rw [hs, ht, decide_eq_true hl]; rfl
  have HC := Lib.hid (chBox w s t (.slice a xss.length ca))
  have HB := Lib.hid (chBelow w s t (.slice a xss.length ca))
  clear hl hsb htb hca hca' hul hrow
  go_enter Try.func72, Try.ntmps72
  go_wp2_with (go_at_call 39; refine (inRange_any _ _ _ _).mono ?_; rintro e w' ⟨rfl, rfl⟩)
  go_loopw [29] (fun i wr => ∃ k : Nat, k ≤ xss.length ∧ i = .int .i64 k ∧ rowsOk s t (xss.take k) = true ∧ Below (w.heap.size + 1) (w.alloc (chObj s t (.slice a xss.length ca))) wr) (fun i _ => xss.length - (intOf i).toNat)
  case atStart => exact ⟨0, Nat.zero_le _, rfl, by simp [rowsOk], Below.refl _ _⟩
  case round =>
    obtain ⟨k, hk, rfl, hall, hbw⟩ := hrel
    have HA := Lib.hid hall
    clear hall
    obtain ⟨d0, d1, d2, d3⟩ := HC.out.below (by simpa using hbw)
    have hbw0 := HB.out.trans (hbw.mono (by omega))
    by_cases hlt : k < xss.length
    · obtain ⟨x, ba, oa, rfl, hrowk⟩ := SlII.rowAt HU.out hrd HR.out hlt
      generalize hr : xss[k] = r at hrowk
      have HRW := Lib.hid hr
      obtain ⟨ra, rc, rfl, hrc, hrc', hrr⟩ := id hrowk.2.2
      unfold maxLen at hrc'
      have HRK := Lib.hid hrowk
      obtain ⟨g0, ga, _⟩ := HRK.out.below hbw0
      have i1 : (k : Int) < (xss.length : Int) := by omega
      clear hr hrc hrowk
      by_cases hrl : (r.length : Int) = s
      · have hrs : ((r.length : Int) != s) = false := by simp [hrl]
        have hr6 : r.length ≤ 6 := by omega
        have HRL := Lib.hid hrl
        clear hrl
        go_wp2
        go_loopw [5, 40] (fun q i wr => ∃ j : Nat, j ≤ r.length ∧ i = .int .i64 j ∧ q = .int .i64 (r.take j).sum ∧ inAll (r.take j) t = true ∧ Below (w.heap.size + 1) (w.alloc (chObj s t (.slice (some ⟨ba, oa, none⟩) xss.length ca))) wr) (fun _ i _ => r.length - (intOf i).toNat)
        case atStart => exact ⟨0, Nat.zero_le _, rfl, rfl, by simp [inAll], hbw⟩
        case round =>
          clear d1 d2 d3 ga hbw hbw0
          obtain ⟨j, hj, rfl, rfl, hin, hbr⟩ := hrel
          have hsum := inAll_sum ht60 hin
          have hlen : (r.take j).length ≤ 6 := by simp; omega
          have hsb0 : 0 ≤ (r.take j).sum := hsum.1
          have hsb1 : (r.take j).sum ≤ 1000 := by omega
          have HIN := Lib.hid hin
          clear hin hsum
          obtain ⟨d0, d1, d2, d3⟩ := HC.out.below (by simpa using hbr)
          have hbr0 := HB.out.trans (hbr.mono (by omega))
          obtain ⟨g0, ga, _⟩ := HRK.out.below hbr0
          by_cases hjt : j < r.length
          · obtain ⟨rb, ro, rfl, gr⟩ := (hrr.below hbr0).one (i64s_get hjt)
            have i3 : (j : Int) < (r.length : Int) := by omega
            by_cases hx : inR r[j] 0 t = true
            · have hxb := inR_iff.1 hx
              have hx0 : 0 ≤ r[j] := hxb.1
              have hx1 : r[j] ≤ 60 := by omega
              clear hxb
              go_wp2_with (go_at_call 39; refine (inRange_any _ _ _ _).mono ?_; rintro e w' ⟨rfl, rfl⟩)
              go_roundw
              case rel => exact ⟨j + 1, by omega, by go_num, vi (sum_succ hjt).symm, inAll_succ HIN.out hjt hx, hbr⟩
              case measure => simp [intOf]; omega
            · have hx' : inR r[j] 0 t = false := by simpa using hx
              go_wp2_with (go_at_call 39; refine (inRange_any _ _ _ _).mono ?_; rintro e w' ⟨rfl, rfl⟩)
              go_ret
              exact ⟨rbf (by rw [HD.out]; exact rowsOk_false hlt (by rw [HRW.out]; exact rowOk_in (inAll_false hjt hx'))), hbr0⟩
          · obtain rfl : j = r.length := by omega
            have hin2 := HIN.out
            rw [List.take_length] at hin2 hsb0 hsb1
            have HI2 := Lib.hid hin2
            clear hin2 hjt hj hlen HIN
            by_cases hst : r.sum = t
            · have hst' : (r.sum != t) = false := by simp [hst]
              have HST := Lib.hid hst
              clear hst
              go_wp2
              go_roundw
              case rel => exact ⟨k + 1, by omega, by go_num, rowsOk_succ HA.out hlt (by rw [HRW.out]; exact rowOk_yes HRL.out HI2.out HST.out), hbr⟩
              case measure => simp [intOf]; omega
            · have hst' : (r.sum != t) = true := by simp [hst]
              have HST := Lib.hid hst
              clear hst
              go_wp2
              go_ret
              exact ⟨rbf (by rw [HD.out]; exact rowsOk_false hlt (by rw [HRW.out]; exact rowOk_sum HST.out)), hbr0⟩
      · have hrs : ((r.length : Int) != s) = true := by simp [hrl]
        have HRL := Lib.hid hrl
        clear hrl
        go_wp2
        go_ret
        exact ⟨rbf (by rw [HD.out]; exact rowsOk_false hlt (by rw [HRW.out]; exact rowOk_len HRL.out)), hbw0⟩
    · have ht := HA.out
      obtain rfl : k = xss.length := by omega
      go_wp2
      go_ret
      exact ⟨rbt (by rw [HD.out]; rw [List.take_of_length_le (Nat.le_refl _)] at ht; exact ht), hbw0⟩

set_option maxHeartbeats 400000 in
theorem ValidChain_any {v : Value} {xss : List (List Int)} (s t : Int) (w : World) (ha : SlII w v xss) :
    Calls Try.prog 72 #[.agg #[.int .i64 s, .int .i64 t, v]] w fun e w' => e = .returned (.bool (chainOk s t xss)) ∧ Below w.heap.size w w' := by
  by_cases hs : inR s 1 6 = true
  · by_cases ht : inR t 1 60 = true
    · by_cases hl : (xss.length : Int) = s
      · exact ValidChain_rows s t w ha hs ht hl
      · have hls : ((xss.length : Int) != s) = true := by simp [hl]
        have HD : Hid (chainOk s t xss = false) := by unfold Hid chainOk; simp [hl]
        obtain ⟨a, ca, us, rfl, _, _, _, _, _⟩ := ha
        have HL := Lib.hid hl
        clear hl
        go_enter Try.func72, Try.ntmps72
        go_wp2_with (go_at_call 39; refine (inRange_any _ _ _ _).mono ?_; rintro e w' ⟨rfl, rfl⟩)
        go_ret
        exact ⟨rbf HD.out, chBelow _ _ _ _⟩
    · have ht' : inR t 1 60 = false := by simpa using ht
      have HD : Hid (chainOk s t xss = false) := by unfold Hid chainOk; simp [ht']
      obtain ⟨a, ca, us, rfl, _, _, _, _, _⟩ := ha
      clear ht
      go_enter Try.func72, Try.ntmps72
      go_wp2_with (go_at_call 39; refine (inRange_any _ _ _ _).mono ?_; rintro e w' ⟨rfl, rfl⟩)
      go_ret
      exact ⟨rbf HD.out, chBelow _ _ _ _⟩
  · have hs' : inR s 1 6 = false := by simpa using hs
    have HD : Hid (chainOk s t xss = false) := by unfold Hid chainOk; simp [hs']
    obtain ⟨a, ca, us, rfl, _, _, _, _, _⟩ := ha
    clear hs
    go_enter Try.func72, Try.ntmps72
    go_wp2_with (go_at_call 39; refine (inRange_any _ _ _ _).mono ?_; rintro e w' ⟨rfl, rfl⟩)
    go_ret
    exact ⟨rbf HD.out, chBelow _ _ _ _⟩
end Go.Proofs.Ytceobhmbnkheiaa
namespace Go.Proofs.Ytceobhmbnkheiaa
open Go.RowKit Go.Sort
def chSame (s t : Int) (xss : List (List Int)) (s' t' : Int) (yss : List (List Int)) : Bool := decide (s = s') && (decide (t = t') && decide (xss = yss))
def serviceOk (s t : Int) (xss : List (List Int)) (bs sm wk : Int) : Bool := chainOk s t xss && (inR sm 1 8 && (inR wk 1 4 && inR bs 0 999999992))
end Go.Proofs.Ytceobhmbnkheiaa
namespace Go.Proofs.Ytceobhmbnkheiaa
open Go.RowKit Go.Sort
/-- six cells: a service -/
def ServAt (w : World) (b o : Nat) (s t : Int) (v : Value) (bs sm wk : Int) : Prop :=
  ChainAt w b o s t v ∧ w.cell? ⟨b, o + 3, none⟩ = some (.int .i64 bs) ∧ w.cell? ⟨b, o + 4, none⟩ = some (.int .i64 sm) ∧ w.cell? ⟨b, o + 5, none⟩ = some (.int .i64 wk)
theorem ServAt.below {w w' : World} {b o : Nat} {s t : Int} {v : Value} {bs sm wk : Int} (h : ServAt w b o s t v bs sm wk) (hb : Below w.heap.size w w') : ServAt w' b o s t v bs sm wk :=
  ⟨h.1.below hb, by rw [hb.cell (p := ⟨b, o + 3, none⟩) h.1.1]; exact h.2.1, by rw [hb.cell (p := ⟨b, o + 4, none⟩) h.1.1]; exact h.2.2.1, by rw [hb.cell (p := ⟨b, o + 5, none⟩) h.1.1]; exact h.2.2.2⟩
end Go.Proofs.Ytceobhmbnkheiaa
namespace Go.Proofs.Ytceobhmbnkheiaa
open Go.RowKit Go.Sort
theorem szII_ok {xss : List (List Int)} {l1 : Int} (h : szII 1048576 xss = l1) (hl : ¬ l1 < 0) : xss.length ≤ 1048576 ∧ ∀ r ∈ xss, r.length ≤ 1048576 := by
  have := szII_nonneg (l := 1048576) (xss := xss) (by rw [h]; omega)
  exact ⟨by omega, fun r hr => by have := this.2.2 r hr; omega⟩
end Go.Proofs.Ytceobhmbnkheiaa
namespace Go.Proofs.Ytceobhmbnkheiaa
open Go.RowKit Go.Sort
/-- all but blocks from lo to hi stays -/
structure Mid (lo hi : Nat) (w w' : World) : Prop where
  os : w'.os = w.os
  tape : w'.tape = w.tape
  output : w'.output = w.output
  size : w.heap.size ≤ w'.heap.size
  block : ∀ k, k < w.heap.size → (k < lo ∨ hi ≤ k) → w'.heap[k]? = w.heap[k]?
theorem Mid.refl (lo hi : Nat) (w : World) : Mid lo hi w w := ⟨rfl, rfl, rfl, Nat.le_refl _, fun _ _ _ => rfl⟩
theorem Mid.trans {lo hi : Nat} {a b c : World} (h : Mid lo hi a b) (k : Mid lo hi b c) : Mid lo hi a c :=
  ⟨k.os.trans h.os, k.tape.trans h.tape, k.output.trans h.output, Nat.le_trans h.size k.size, fun i hi' hx => (k.block i (Nat.lt_of_lt_of_le hi' h.size) hx).trans (h.block i hi' hx)⟩
theorem Mid.below {lo hi : Nat} {w w' : World} (h : Mid lo hi w w') (hlo : lo ≤ w.heap.size) : Below lo w w' := ⟨h.os, h.tape, h.output, h.size, fun k hk => h.block k (Nat.lt_of_lt_of_le hk hlo) (.inl hk)⟩
theorem Mid.of_below {lo hi : Nat} {w w' : World} (h : Below w.heap.size w w') : Mid lo hi w w' := ⟨h.os, h.tape, h.output, h.size, fun k hk _ => h.block k hk⟩
theorem Mid.of_grown {lo hi : Nat} {w w' : World} {row : Option Nat} (h : w.grownBy w' row) (hr : ∀ g, row = some g → lo ≤ g ∧ g < hi) : Mid lo hi w w' :=
  ⟨h.os, h.tape, h.output, h.size, fun k hk hx => h.block k hk (by
    intro e
    have := hr k e.symm
    omega)⟩
theorem ownsRow_mid {w w' : World} {lo hi base e size n : Nat} {v : Value} {xs : List Value} (h : w.ownsRow base e size v n xs) (hm : Mid lo hi w w') (hb : hi ≤ base) : w'.ownsRow base e size v n xs := by
  refine ⟨h.1, ?_⟩
  rcases h.2 with h2 | ⟨g, cap, cur, h1, h2, h3, h4⟩
  · exact .inl h2
  · refine .inr ⟨g, cap, cur, h1, h2, ?_, h4⟩
    rw [hm.block g (Array.getElem?_eq_some_iff.1 h3).1 (.inr (by omega))]; exact h3
def sumL (xss : List (List Int)) : Nat := (xss.map List.length).sum
theorem sumL_take {xss : List (List Int)} {k : Nat} (h : k < xss.length) : sumL (xss.take (k + 1)) = sumL (xss.take k) + xss[k].length := by
  unfold sumL; rw [List.take_succ_eq_append_getElem h, List.map_append, List.sum_append]; simp
theorem sumL_le (xss : List (List Int)) (k : Nat) : sumL (xss.take k) ≤ sumL xss := by
  unfold sumL
  conv => rhs; rw [← List.take_append_drop k xss]
  rw [List.map_append, List.sum_append]; omega
theorem szRows_sum : ∀ {xss : List (List Int)} {l : Int}, 0 ≤ szRows l xss → (sumL xss : Int) ≤ l
  | [], l, h => by simpa [sumL, szRows] using h
  | r :: rs, l, h => by
    unfold szRows at h
    by_cases h1 : sz1 l r.length < 0
    · rw [if_pos h1] at h; omega
    · rw [if_neg h1] at h
      have h2 := szRows_sum h
      have h5 : sz1 l r.length = l - r.length := by unfold sz1 at h1 ⊢; split <;> simp_all
      rw [h5] at h2
      have : sumL (r :: rs) = r.length + sumL rs := by simp [sumL]
      omega
theorem szII_sum {xss : List (List Int)} {l l1 : Int} (h : szII l xss = l1) (hl : ¬ l1 < 0) (hb : l ≤ 1048576) : sumL xss ≤ 1048576 := by
  unfold szII at h
  split at h
  · omega
  · have := szRows_sum (xss := xss) (l := l - xss.length) (by omega)
    omega
/-- rows whose blocks lie below B -/
def OwnIIB (w : World) (base B : Nat) (v : Value) (xss : List (List Int)) : Prop :=
  ∃ vs, w.ownsRow base 32 1 v xss.length vs ∧ Rows2 w base vs xss ∧ ∀ (i : Nat) (u : Value) (g : Nat), vs[i]? = some u → u.ownBlock = some g → g < B
theorem OwnII.b {w : World} {base : Nat} {v : Value} {xss : List (List Int)} (h : OwnII w base v xss) : OwnIIB w base w.heap.size v xss := by
  obtain ⟨vs, h1, h2⟩ := h
  exact ⟨vs, h1, h2, fun i u g hu hg => (h2.lt i u g hu hg).2⟩
theorem OwnIIB.below {w w' : World} {base B : Nat} {v : Value} {xss : List (List Int)} (h : OwnIIB w base B v xss) (hb : Below w.heap.size w w') : OwnIIB w' base B v xss := by
  obtain ⟨vs, h1, h2, h3⟩ := h
  exact ⟨vs, ownsRow_below h1 hb, h2.below hb, h3⟩
theorem OwnIIB.ii {w : World} {base B : Nat} {v : Value} {xss : List (List Int)} (h : OwnIIB w base B v xss) : OwnII w base v xss := by
  obtain ⟨vs, h1, h2, _⟩ := h
  exact ⟨vs, h1, h2⟩
theorem OwnIIB.sl {w : World} {base B : Nat} {v : Value} {xss : List (List Int)} (h : OwnIIB w base B v xss) : SlII w v xss := h.ii.sl
end Go.Proofs.Ytceobhmbnkheiaa
namespace Go.Proofs.Ytceobhmbnkheiaa
open Go.RowKit Go.Sort
/-- the first cells of a block -/
def CellsAt (w : World) (b : Nat) (vs : List Value) : Prop := b < w.heap.size ∧ ∀ i u, vs[i]? = some u → w.cell? ⟨b, i, none⟩ = some u
theorem CellsAt.new (w : World) (vs : List Value) (T : Nat) : CellsAt (w.alloc (.cells vs.toArray T)) w.heap.size vs := by
  refine ⟨by simp, fun i u h => ?_⟩
  simp [go_sem, h]
theorem CellsAt.new' (w : World) (vs : List Value) (T : Nat) {b : Nat} (hb : b = w.heap.size) : CellsAt (w.alloc (.cells vs.toArray T)) b vs := by
  subst hb; exact CellsAt.new w vs T
theorem CellsAt.below {w w' : World} {b : Nat} {vs : List Value} (h : CellsAt w b vs) (hb : Below w.heap.size w w') : CellsAt w' b vs :=
  ⟨Nat.lt_of_lt_of_le h.1 hb.size, fun i u hu => by rw [hb.cell (p := ⟨b, i, none⟩) h.1]; exact h.2 i u hu⟩
theorem CellsAt.get {w : World} {b : Nat} {vs : List Value} (h : CellsAt w b vs) (i : Nat) (u : Value) (hu : vs[i]? = some u) : w.cell? ⟨b, i, none⟩ = some u := h.2 i u hu
/-- all blocks but those of S stay -/
structure Fs (S : Nat → Prop) (w w' : World) : Prop where
  os : w'.os = w.os
  tape : w'.tape = w.tape
  output : w'.output = w.output
  size : w.heap.size ≤ w'.heap.size
  block : ∀ k, k < w.heap.size → ¬ S k → w'.heap[k]? = w.heap[k]?
theorem Fs.trans {S : Nat → Prop} {a b c : World} (h : Fs S a b) (k : Fs S b c) : Fs S a c :=
  ⟨k.os.trans h.os, k.tape.trans h.tape, k.output.trans h.output, Nat.le_trans h.size k.size, fun i hi hx => (k.block i (Nat.lt_of_lt_of_le hi h.size) hx).trans (h.block i hi hx)⟩
theorem Fs.of_below {S : Nat → Prop} {w w' : World} (h : Below w.heap.size w w') : Fs S w w' := ⟨h.os, h.tape, h.output, h.size, fun k hk _ => h.block k hk⟩
theorem Fs.below {S : Nat → Prop} {w w' : World} (h : Fs S w w') {B : Nat} (hB : B ≤ w.heap.size) (hS : ∀ k, S k → B ≤ k) : Below B w w' :=
  ⟨h.os, h.tape, h.output, h.size, fun k hk => h.block k (Nat.lt_of_lt_of_le hk hB) (fun hs => by have := hS k hs; omega)⟩
theorem Fs.of_mid {lo hi : Nat} {w w' : World} (h : Mid lo hi w w') : Fs (fun k => lo ≤ k ∧ k < hi) w w' := ⟨h.os, h.tape, h.output, h.size, fun k hk hx => h.block k hk (by omega)⟩
theorem Fs.of_grown {S : Nat → Prop} {w w' : World} {row : Option Nat} (h : w.grownBy w' row) (hr : ∀ g, row = some g → S g) : Fs S w w' :=
  ⟨h.os, h.tape, h.output, h.size, fun k hk hx => h.block k hk (fun e => hx (hr k e.symm))⟩
theorem Fs.cell {S : Nat → Prop} {w w' : World} (h : Fs S w w') {p : Addr} (hp : p.block < w.heap.size) (hn : ¬ S p.block) : w'.cell? p = w.cell? p :=
  World.cell?_of_block (h.block p.block hp hn)
theorem Fs.mono {S T : Nat → Prop} {w w' : World} (h : Fs S w w') (hST : ∀ k, S k → T k) : Fs T w w' :=
  ⟨h.os, h.tape, h.output, h.size, fun k hk hx => h.block k hk (fun hs => hx (hST k hs))⟩
theorem CellsAt.fs {S : Nat → Prop} {w w' : World} {b : Nat} {vs : List Value} (h : CellsAt w b vs) (hf : Fs S w w') (hS : ¬ S b) : CellsAt w' b vs :=
  ⟨Nat.lt_of_lt_of_le h.1 hf.size, fun i u hu => by rw [hf.cell (p := ⟨b, i, none⟩) h.1 hS]; exact h.2 i u hu⟩
theorem ownsRow_fs {S : Nat → Prop} {w w' : World} {base e size n : Nat} {v : Value} {xs : List Value} (h : w.ownsRow base e size v n xs) (hf : Fs S w w') (hS : ∀ k, S k → k < base) : w'.ownsRow base e size v n xs := by
  refine ⟨h.1, ?_⟩
  rcases h.2 with h2 | ⟨g, cap, cur, h1, h2, h3, h4⟩
  · exact .inl h2
  · refine .inr ⟨g, cap, cur, h1, h2, ?_, h4⟩
    rw [hf.block g (Array.getElem?_eq_some_iff.1 h3).1 (fun hs => by have := hS g hs; omega)]; exact h3
theorem OwnI.fs {S : Nat → Prop} {w w' : World} {base : Nat} {v : Value} {xs : List Int} (h : OwnI w base v xs) (hf : Fs S w w') (hS : ∀ k, S k → k < base) : OwnI w' base v xs := ownsRow_fs h hf hS
theorem OwnII.fs {S : Nat → Prop} {w w' : World} {base : Nat} {v : Value} {xss : List (List Int)} (h : OwnII w base v xss) (hf : Fs S w w') (hS : ∀ k, S k → k < base) : OwnII w' base v xss := by
  obtain ⟨vs, h1, h2⟩ := h
  exact ⟨vs, ownsRow_fs h1 hf hS, h2.1, fun i u xs hu hx => ownsRow_fs (h2.2.1 i u xs hu hx) hf hS, h2.2.2⟩
end Go.Proofs.Ytceobhmbnkheiaa
namespace Go.Proofs.Ytceobhmbnkheiaa
open Go.RowKit Go.Sort
/-- from index k on, with sum q so far -/
def toFrom : List Int → Int → Int → Nat → Option Nat
  | [], _, _, _ => none
  | x :: r, d, q, k => if d < q + x then some k else toFrom r d (q + x) (k + 1)
def toOf (r : List Int) (d : Int) : Option Nat := toFrom r d 0 0
theorem toFrom_lt : ∀ (r : List Int) (d q : Int) (k : Nat), d < q + r.sum → r ≠ [] → (∀ x ∈ r, 0 ≤ x) → ∃ i, toFrom r d q k = some i ∧ k ≤ i ∧ i < k + r.length
  | [], _, _, _, _, h, _ => absurd rfl h
  | x :: r, d, q, k, hd, _, hx => by
    unfold toFrom
    by_cases h : d < q + x
    · exact ⟨k, by rw [if_pos h], Nat.le_refl _, by simp⟩
    · rw [if_neg h]
      rw [List.sum_cons] at hd
      cases r with
      | nil => simp at hd; omega
      | cons y r =>
        obtain ⟨i, h1, h2, h3⟩ := toFrom_lt (y :: r) d (q + x) (k + 1) (by omega) (by simp) (fun z hz => hx z (by simp [hz]))
        exact ⟨i, h1, by omega, by simp at h3 ⊢; omega⟩
theorem toOf_step {r : List Int} {d : Int} {j : Nat} (hj : j < r.length) : toFrom (r.drop j) d (r.take j).sum j = if d < (r.take j).sum + r[j] then some j else toFrom (r.drop (j + 1)) d (r.take (j + 1)).sum (j + 1) := by
  rw [List.drop_eq_getElem_cons hj]
  have : (r.take (j + 1)).sum = (r.take j).sum + r[j] := sum_succ hj
  rw [this]
  rfl
/-- the row is right for a total -/
def RowB (r : List Int) : Prop := r.length ≤ 6 ∧ ∀ x ∈ r, 0 ≤ x ∧ x ≤ 60
theorem RowB.sum {r : List Int} (h : RowB r) (j : Nat) : 0 ≤ (r.take j).sum ∧ (r.take j).sum ≤ 1000 := by
  have hin : inAll (r.take j) 60 = true := by
    unfold inAll
    rw [List.all_eq_true]
    intro x hx
    have := h.2 x (List.mem_of_mem_take hx)
    exact inR_iff.2 this
  have h2 := inAll_sum (t := 60) (by omega) hin
  have h3 : (r.take j).length ≤ 6 := by rw [List.length_take]; have := h.1; omega
  omega
theorem chainOk_parts0 {s t : Int} {xss : List (List Int)} (h : chainOk s t xss = true) : (1 ≤ s ∧ s ≤ 6) ∧ (1 ≤ t ∧ t ≤ 60) ∧ (xss.length : Int) = s ∧ rowsOk s t xss = true := by
  unfold chainOk at h
  rw [Bool.and_eq_true, Bool.and_eq_true, Bool.and_eq_true] at h
  exact ⟨inR_iff.1 h.1, inR_iff.1 h.2.1, of_decide_eq_true h.2.2.1, h.2.2.2⟩
theorem rowB_of {s t : Int} {xss : List (List Int)} (h : chainOk s t xss = true) {k : Nat} (hk : k < xss.length) : RowB xss[k] ∧ (xss[k].length : Int) = s ∧ xss[k].sum = t := by
  unfold chainOk at h
  rw [Bool.and_eq_true, Bool.and_eq_true, Bool.and_eq_true] at h
  have hs := inR_iff.1 h.1
  have ht := inR_iff.1 h.2.1
  have hr := h.2.2.2
  unfold rowsOk at hr
  rw [List.all_eq_true] at hr
  have := hr _ (List.getElem_mem hk)
  unfold rowOk at this
  rw [Bool.and_eq_true, Bool.and_eq_true] at this
  have hl := of_decide_eq_true this.1
  have ha := this.2.1
  unfold inAll at ha
  rw [List.all_eq_true] at ha
  refine ⟨⟨by omega, fun x hx => ?_⟩, hl, of_decide_eq_true this.2.2⟩
  have := inR_iff.1 (ha x hx)
  omega

set_option maxHeartbeats 1000000 in
theorem l01To_any {v : Value} {xss : List (List Int)} (b o : Nat) (s t d : Int) (k : Nat) (w : World) (hc : ChainAt w b o s t v) (ha : SlII w v xss) (hk : k < xss.length) (hB : RowB xss[k]) (hls : (xss[k].length : Int) = s) :
    Calls Try.prog 75 #[.pointer (some ⟨b, o, none⟩), .int .i64 k, .int .i64 d] w fun e w' => e = .returned (.int .i64 (((toOf xss[k] d).map Int.ofNat).getD 0)) ∧ w = w' := by
  obtain ⟨a, ca, us, rfl, hca, hca', hul, hrd, hrow⟩ := ha
  obtain ⟨x, ba, oa, rfl, hrowk⟩ := SlII.rowAt hul hrd hrow hk
  generalize hr : xss[k] = r at hrowk hB hls
  obtain ⟨g0, ga, ra, rc, rfl, hrc, hrc', hrr⟩ := hrowk
  obtain ⟨c00, c0, _, c2⟩ := hc
  unfold maxLen at hca' hrc'
  have i1 : (k : Int) < (xss.length : Int) := by omega
  have hr6 : r.length ≤ 6 := hB.1
  have HB := Lib.hid hB
  have HL := Lib.hid hls
  clear hr hul hrd hrow hca hca' hrc hB hls
  go_enter Try.func75, Try.ntmps75
  go_wp2
  go_loopw [7, 8] (fun q i wr => ∃ j : Nat, j ≤ r.length ∧ i = .int .i64 j ∧ q = .int .i64 (r.take j).sum ∧ toOf r d = toFrom (r.drop j) d (r.take j).sum j ∧ wr = w) (fun _ i _ => r.length - (intOf i).toNat)
  case atStart => exact ⟨0, Nat.zero_le _, rfl, rfl, rfl, rfl⟩
  case round =>
    obtain ⟨j, hj, rfl, rfl, hto, rfl⟩ := hrel
    have HT := Lib.hid hto
    clear hto
    have hs0 := (HB.out.sum j).1
    have hs1 := (HB.out.sum j).2
    have hls := HL.out
    by_cases hjt : j < r.length
    · have hjs : (j : Int) < s := by omega
      obtain ⟨rb, ro, rfl, gr⟩ := hrr.one (i64s_get hjt)
      have hx := HB.out.2 r[j] (List.getElem_mem hjt)
      have hx0 : 0 ≤ r[j] := hx.1
      have hx1 : r[j] ≤ 60 := hx.2
      have hst := toOf_step (d := d) hjt
      have HST := Lib.hid hst
      have i3 : (j : Int) < (r.length : Int) := by omega
      clear hls hx hst
      by_cases hd : d < (r.take j).sum + r[j]
      · go_wp2
        go_ret
        exact ⟨ri (by rw [HT.out, HST.out, if_pos hd]; rfl), rfl⟩
      · go_wp2
        go_roundw
        case rel => exact ⟨j + 1, by omega, by go_num, vi (sum_succ hjt).symm, by rw [HT.out, HST.out, if_neg (by omega)], trivial⟩
        case measure => simp [intOf]; omega
    · have hjs : ¬ (j : Int) < s := by omega
      obtain rfl : j = r.length := by omega
      clear hls
      go_wp2
      go_ret
      exact ⟨ri (by rw [HT.out]; simp [toFrom]), rfl⟩

set_option maxHeartbeats 1000000 in
theorem stepByDraw_any {v : Value} {xss : List (List Int)} (s t d : Int) (k : Nat) (w : World) (ha : SlII w v xss) (hk : k < xss.length) (hB : RowB xss[k]) :
    Calls Try.prog 73 #[.agg #[.int .i64 s, .int .i64 t, v], .int .i64 k, .int .i64 d] w fun e w' => e = .returned (.int .i64 (((toOf xss[k] d).map Int.ofNat).getD (-1))) ∧ Below w.heap.size w w' := by
  obtain ⟨a, ca, us, rfl, hca, hca', hul, hrd, hrow⟩ := ha
  obtain ⟨x, ba, oa, rfl, hrowk⟩ := SlII.rowAt hul hrd hrow hk
  generalize hr : xss[k] = r at hrowk hB
  obtain ⟨ra, rc, rfl, hrc, hrc', _⟩ := id hrowk.2.2
  have bb : Below w.heap.size w (w.alloc (chObj s t (.slice (some ⟨ba, oa, none⟩) xss.length ca))) := chBelow _ _ _ _
  obtain ⟨g0, ga, ra', rc', he, _, _, hrr⟩ := hrowk.below bb
  simp at he
  obtain ⟨rfl, rfl⟩ := he
  unfold maxLen at hca' hrc'
  have i1 : (k : Int) < (xss.length : Int) := by omega
  have hr6 : r.length ≤ 6 := hB.1
  have HB := Lib.hid hB
  have HBB := Lib.hid bb
  clear hr hul hrd hrow hca hca' hrc hB hrowk bb
  have GA := Lib.hid ga
  go_enter Try.func73, Try.ntmps73
  unfold chObj at ga
  go_wp2
  clear ga
  go_loopw [7, 16] (fun q i wr => ∃ j : Nat, j ≤ r.length ∧ i = .int .i64 j ∧ q = .int .i64 (r.take j).sum ∧ toOf r d = toFrom (r.drop j) d (r.take j).sum j ∧ wr = w.alloc (chObj s t (.slice (some ⟨ba, oa, none⟩) xss.length ca))) (fun _ i _ => r.length - (intOf i).toNat)
  case atStart => exact ⟨0, Nat.zero_le _, rfl, rfl, rfl, rfl⟩
  case round =>
    obtain ⟨j, hj, rfl, rfl, hto, rfl⟩ := hrel
    have HT := Lib.hid hto
    clear hto
    have hs0 := (HB.out.sum j).1
    have hs1 := (HB.out.sum j).2
    by_cases hjt : j < r.length
    · obtain ⟨rb, ro, rfl, gr⟩ := hrr.one (i64s_get hjt)
      have hx := HB.out.2 r[j] (List.getElem_mem hjt)
      have hx0 : 0 ≤ r[j] := hx.1
      have hx1 : r[j] ≤ 60 := hx.2
      have hst := toOf_step (d := d) hjt
      have HST := Lib.hid hst
      have i3 : (j : Int) < (r.length : Int) := by omega
      clear hx hst
      by_cases hd : d < (r.take j).sum + r[j]
      · go_wp2
        go_ret
        exact ⟨ri (by rw [HT.out, HST.out, if_pos hd]; rfl), HBB.out⟩
      · go_wp2
        go_roundw
        case rel => exact ⟨j + 1, by omega, by go_num, vi (sum_succ hjt).symm, by rw [HT.out, HST.out, if_neg (by omega)], trivial⟩
        case measure => simp [intOf]; omega
    · obtain rfl : j = r.length := by omega
      go_wp2
      go_ret
      exact ⟨ri (by rw [HT.out]; simp [toFrom]), HBB.out⟩

def upTo (n : Nat) : List Int := (List.range n).map fun (i : Nat) => (i : Int)
theorem upTo_succ (n : Nat) : upTo (n + 1) = upTo n ++ [(n : Int)] := by simp [upTo, List.range_succ]
theorem upTo_length (n : Nat) : (upTo n).length = n := by simp [upTo]

set_option maxHeartbeats 400000 in
theorem everyState_any (n : Nat) (w : World) (hn : n ≤ 1000) :
    Calls Try.prog 50 #[.int .i64 n] w fun e w' => ∃ v, e = .returned v ∧ OwnI w' w.heap.size v (upTo n) ∧ Below w.heap.size w w' := by
  go_enter Try.func50, Try.ntmps50
  go_wp2
  go_loopw [3, 7] (fun v i wr => ∃ k : Nat, k ≤ n ∧ i = .int .i64 k ∧ OwnI wr w.heap.size v (upTo k) ∧ Below w.heap.size w wr) (fun _ i _ => n - (intOf i).toNat)
  case atStart => exact ⟨0, Nat.zero_le _, rfl, OwnI.empty _ (Nat.le_refl _), (Below.refl _ _).alloc (Nat.le_refl _) _⟩
  case round =>
    obtain ⟨k, hk, rfl, hown, hbw⟩ := hrel
    by_cases hlt : k < n
    · have hsz := hbw.size
      have hl := upTo_length k
      go_wp2_with (at_builtin; refine append_i64 _ _ _ _ rfl rfl rfl hown rfl (by omega) (by omega) ?_)
      intro v' w1 hown1 hb1 hsz1
      rw [← upTo_succ] at hown1
      have hb2 := (hbw.alloc hsz _).trans hb1
      clear hown hb1
      go_wp2
      go_roundw
      case rel => exact ⟨k + 1, by omega, by go_num, hown1, hb2⟩
      case measure => simp [intOf]; omega
    · obtain rfl : k = n := by omega
      go_wp2
      go_ret
      exact ⟨_, rfl, hown, hbw⟩
end Go.Proofs.Ytceobhmbnkheiaa
namespace Go.Proofs.Ytceobhmbnkheiaa
open Go.RowKit Go.Sort
def ixP (p : Int → Bool) : List Int → Nat → Int
  | [], _ => -1
  | x :: r, k => if p x = true then (k : Int) else ixP p r (k + 1)
theorem ixP_any (p : Int → Bool) : ∀ (l : List Int) (k : Nat), decide (0 ≤ ixP p l k) = l.any p
  | [], k => by simp [ixP]
  | x :: r, k => by
    unfold ixP
    by_cases h : p x = true
    · rw [if_pos h]; simp [h]
    · rw [if_neg h, ixP_any p r (k + 1)]; simp [h]
theorem ixP_step {p : Int → Bool} {l : List Int} {k : Nat} (h : k < l.length) : ixP p (l.drop k) k = if p l[k] = true then (k : Int) else ixP p (l.drop (k + 1)) (k + 1) := by
  rw [List.drop_eq_getElem_cons h]; rfl
theorem ixP_bd (p : Int → Bool) : ∀ (l : List Int) (k : Nat), -1 ≤ ixP p l k ∧ ixP p l k < k + l.length
  | [], k => by simp [ixP]; omega
  | x :: r, k => by
    unfold ixP
    have := ixP_bd p r (k + 1)
    split
    · simp; omega
    · simp at this ⊢; omega

def ixRow (p : List Int → Bool) : List (List Int) → Nat → Int
  | [], _ => -1
  | x :: r, k => if p x = true then (k : Int) else ixRow p r (k + 1)
theorem ixRow_any (p : List Int → Bool) : ∀ (l : List (List Int)) (k : Nat), decide (0 ≤ ixRow p l k) = l.any p
  | [], k => by simp [ixRow]
  | x :: r, k => by
    unfold ixRow
    by_cases h : p x = true
    · rw [if_pos h]; simp [h]
    · rw [if_neg h, ixRow_any p r (k + 1)]; simp [h]
theorem ixRow_step {p : List Int → Bool} {l : List (List Int)} {k : Nat} (h : k < l.length) : ixRow p (l.drop k) k = if p l[k] = true then (k : Int) else ixRow p (l.drop (k + 1)) (k + 1) := by
  rw [List.drop_eq_getElem_cons h]; rfl
theorem ixRow_bd (p : List Int → Bool) : ∀ (l : List (List Int)) (k : Nat), -1 ≤ ixRow p l k ∧ ixRow p l k < k + l.length
  | [], k => by simp [ixRow]; omega
  | x :: r, k => by
    unfold ixRow
    have := ixRow_bd p r (k + 1)
    split
    · simp; omega
    · simp at this ⊢; omega
end Go.Proofs.Ytceobhmbnkheiaa
namespace Go.Proofs.Ytceobhmbnkheiaa
open Go.RowKit Go.Sort
end Go.Proofs.Ytceobhmbnkheiaa
