/-
  A search by impl.RunByDraws$1. With it: The law package's own helpers on [][]int64: counted, copied, equal. Which chains are valid: the reference's look and the program's. Which chains are valid: the program's look. One step by a draw: the reference's and the program's. Chains and services: counted, copied, compared. Which services are valid. Searches: plain laws.
-/
import Derived.Test.YtpmabnohdabbdaaZRowStepPaths3
import Derived.Lib.QuietBelow
set_option linter.unusedVariables false
set_option linter.unusedSimpArgs false
namespace Go.Proofs.Ytpmabnohdabbdaa
open Go.RowKit Go.Sort

def sz1 (l : Int) (n : Nat) : Int := if l - n < 0 then -1 else l - n
def szRows : Int → List (List Int) → Int
  | l, [] => l
  | l, r :: rs => if sz1 l r.length < 0 then -1 else szRows (sz1 l r.length) rs
def szII (l : Int) (xss : List (List Int)) : Int := if l - xss.length < 0 then -1 else szRows (l - xss.length) xss
theorem sz1_le {l : Int} {n : Nat} : sz1 l n ≤ l ∨ sz1 l n = -1 := by unfold sz1; split <;> omega
theorem szRows_nonneg : ∀ {xss : List (List Int)} {l : Int}, 0 ≤ szRows l xss → 0 ≤ l ∧ szRows l xss ≤ l ∧ ∀ r ∈ xss, (r.length : Int) ≤ l
  | [], l, h => ⟨h, Int.le_refl _, by simp⟩
  | r :: rs, l, h => by
    unfold szRows at h ⊢
    by_cases h1 : sz1 l r.length < 0
    · rw [if_pos h1] at h; omega
    · rw [if_neg h1] at h ⊢
      obtain ⟨h2, h3, h4⟩ := szRows_nonneg h
      have h5 : sz1 l r.length = l - r.length := by unfold sz1 at h1 ⊢; split <;> simp_all
      refine ⟨by omega, by omega, fun x hx => ?_⟩
      simp at hx
      rcases hx with rfl | hx
      · omega
      · have := h4 x hx; omega
theorem szII_nonneg {xss : List (List Int)} {l : Int} (h : 0 ≤ szII l xss) : (xss.length : Int) ≤ l ∧ szII l xss ≤ l ∧ ∀ r ∈ xss, (r.length : Int) ≤ l := by
  unfold szII at h ⊢
  split at h
  · omega
  · rename_i h1
    rw [if_neg h1]
    obtain ⟨h2, h3, h4⟩ := szRows_nonneg h
    exact ⟨by omega, by omega, fun r hr => by have := h4 r hr; omega⟩
theorem szII_range (l : Int) (xss : List (List Int)) (h : l ≤ 1048576) : -1 ≤ szII l xss ∧ szII l xss ≤ 1048576 := by
  have key : ∀ (xss : List (List Int)) (l : Int), 0 ≤ l → l ≤ 1048576 → -1 ≤ szRows l xss ∧ szRows l xss ≤ 1048576 := by
    intro xss
    induction xss with
    | nil => intro l h0 h1; unfold szRows; omega
    | cons r rs ih =>
      intro l h0 h1
      unfold szRows
      split
      · omega
      · rename_i h2
        have h5 : sz1 l r.length = l - r.length := by unfold sz1 at h2 ⊢; split <;> simp_all
        exact ih _ (by omega) (by omega)
  unfold szII
  split
  · omega
  · exact key _ _ (by omega) (by omega)
theorem SlII.row {w : World} {ad : Option Addr} {vs : List Value} {xss : List (List Int)} (hl : vs.length = xss.length) (h : Rd w ad vs) (hr : ∀ (i : Nat) (hi : i < xss.length) u, vs[i]? = some u → SlI w u xss[i]) {k : Nat} (hk : k < xss.length) :
    ∃ u b off, ad = some ⟨b, off, none⟩ ∧ w.cell? ⟨b, off + k, none⟩ = some u ∧ SlI w u xss[k] := by
  obtain ⟨b, off, h1, h2⟩ := h.one (List.getElem?_eq_getElem (by omega : k < vs.length))
  exact ⟨_, b, off, h1, h2, hr k hk _ (List.getElem?_eq_getElem (by omega))⟩

set_option maxHeartbeats 400000 in
theorem szInt64S_any {u : Value} {xs : List Int} (l : Int) (w : World) (ha : SlI w u xs) (h0 : 0 ≤ l) (h1 : l ≤ 1048576) :
    Calls Try.prog 128 #[u, .int .i64 l] w fun e w' => e = .returned (.int .i64 (sz1 l xs.length)) ∧ w = w' := by
  obtain ⟨a, ca, rfl, hca, hca', ha⟩ := ha
  unfold maxLen at hca'
  by_cases h : l - xs.length < 0
  · have hs : Hid (sz1 l xs.length = -1) := by unfold Hid sz1; rw [if_pos h]
    go_enter Try.func128, Try.ntmps128
    go_wp2
    go_ret
    exact ⟨ri hs.out.symm, rfl⟩
  · have hs : Hid (sz1 l xs.length = l - xs.length) := by unfold Hid sz1; rw [if_neg h]
    go_enter Try.func128, Try.ntmps128
    go_wp2
    go_ret
    exact ⟨ri hs.out.symm, rfl⟩

set_option maxHeartbeats 800000 in
theorem szInt64SS_any {u : Value} {xss : List (List Int)} (l : Int) (w : World) (ha : SlII w u xss) (h0 : 0 ≤ l) (h1 : l ≤ 1048576) :
    Calls Try.prog 58 #[u, .int .i64 l] w fun e w' => e = .returned (.int .i64 (szII l xss)) ∧ Below w.heap.size w w' := by
  obtain ⟨a, ca, vs, rfl, hca, hca', hvl, hrd, hrows⟩ := ha
  unfold maxLen at hca'
  by_cases h : l - xss.length < 0
  · have hs : Hid (szII l xss = -1) := by unfold Hid szII; rw [if_pos h]
    clear hrd hrows
    have HV := Lib.hid hvl
    clear hvl
    go_enter Try.func58, Try.ntmps58
    go_wp2
    go_ret
    exact ⟨ri hs.out.symm, Below.refl _ _⟩
  · have hs : Hid (szII l xss = szRows (l - xss.length) xss) := by unfold Hid szII; rw [if_neg h]
    have HV := Lib.hid hvl
    have HR := Lib.hid hrows
    clear hvl hrows
    go_enter Try.func58, Try.ntmps58
    go_wp2
    go_loopw [1, 5] (fun q i wr => ∃ (k : Nat) (m : Int), k ≤ xss.length ∧ i = .int .i64 k ∧ q = .int .i64 m ∧ 0 ≤ m ∧ m ≤ 1048576 ∧ szII l xss = szRows m (xss.drop k) ∧ Below w.heap.size w wr) (fun _ i _ => xss.length - (intOf i).toNat)
    case atStart => exact ⟨0, _, Nat.zero_le _, rfl, rfl, by omega, by omega, by rw [hs.out]; rfl, Below.refl _ _⟩
    case round =>
      obtain ⟨k, m, hk, rfl, rfl, hm0, hm1, hsz, hbw⟩ := hrel
      have HS := Lib.hid hsz
      clear hsz
      by_cases hlt : k < xss.length
      · obtain ⟨x, b, off, rfl, hc, hx⟩ := SlII.row (HV.out) (hrd.below hbw) (fun i hi u hu => (HR.out i hi u hu).below hbw) hlt
        have hstep : szRows m (xss.drop k) = if sz1 m xss[k].length < 0 then -1 else szRows (sz1 m xss[k].length) (xss.drop (k+1)) := by rw [List.drop_eq_getElem_cons hlt]; rfl
        have HT := Lib.hid hstep
        clear hstep hrd
        generalize hq : sz1 m xss[k].length = q at HT
        have hqb : q ≤ m ∨ q = -1 := by rw [← hq]; exact sz1_le
        have HQ := Lib.hid hq
        clear hq
        by_cases hneg : q < 0
        · go_wp2_with (go_at_call 128; refine (szInt64S_any m _ hx hm0 hm1).mono ?_; rintro e w' ⟨rfl, rfl⟩; rw [HQ.out])
          go_ret
          exact ⟨ri (by rw [HS.out, HT.out, if_pos hneg]), hbw⟩
        · go_wp2_with (go_at_call 128; refine (szInt64S_any m _ hx hm0 hm1).mono ?_; rintro e w' ⟨rfl, rfl⟩; rw [HQ.out])
          go_roundw
          case rel => exact ⟨k + 1, q, by omega, by go_num, rfl, by omega, by omega, by rw [HS.out, HT.out, if_neg (by omega)], hbw⟩
          case measure => simp [intOf]; omega
      · obtain rfl : k = xss.length := by omega
        go_wp2
        go_ret
        exact ⟨ri (by rw [HS.out]; simp [szRows]), hbw⟩

set_option maxHeartbeats 800000 in
theorem eqInt64SS_any {u v : Value} {xss yss : List (List Int)} (w : World) (ha : SlII w u xss) (hb : SlII w v yss) :
    Calls Try.prog 18 #[u, v] w fun e w' => e = .returned (.bool (decide (xss = yss))) ∧ Below w.heap.size w w' := by
  obtain ⟨a, ca, us, rfl, hca, hca', hul, hrda, hrowa⟩ := ha
  obtain ⟨b, cb, vs, rfl, hcb, hcb', hvl, hrdb, hrowb⟩ := hb
  unfold maxLen at hca' hcb'
  have hm : xss.length ≤ 9223372036854775807 := by omega
  have hn : yss.length ≤ 9223372036854775807 := by omega
  have HU := Lib.hid hul
  have HV := Lib.hid hvl
  have HA := Lib.hid hrowa
  have HB := Lib.hid hrowb
  clear hca hca' hcb hcb' hul hvl hrowa hrowb
  by_cases hl : xss.length = yss.length
  · have HL := Lib.hid hl
    clear hl
    have h1 : ((xss.length : Int) != (yss.length : Int)) = false := by simp [HL.out]
    go_enter Try.func18, Try.ntmps18
    go_wp2
    go_loopw [5] (fun i wr => ∃ k : Nat, k ≤ xss.length ∧ i = .int .i64 k ∧ xss.take k = yss.take k ∧ Below w.heap.size w wr) (fun i _ => xss.length - (intOf i).toNat)
    case atStart => exact ⟨0, Nat.zero_le _, rfl, rfl, Below.refl _ _⟩
    case round =>
      obtain ⟨k, hk, rfl, ht, hbw⟩ := hrel
      have HT := Lib.hid ht
      clear ht
      by_cases hlt : k < xss.length
      · have hj : k < yss.length := by rw [← HL.out]; exact hlt
        obtain ⟨x, ba, oa, rfl, ga, sx⟩ := SlII.row HU.out (hrda.below hbw) (fun i hi u hu => (HA.out i hi u hu).below hbw) hlt
        obtain ⟨y, bb, ob, rfl, gb, sy⟩ := SlII.row HV.out (hrdb.below hbw) (fun i hi u hu => (HB.out i hi u hu).below hbw) hj
        have ka := fun d os => cell_regrown ga d os
        have kb := fun d os => cell_regrown gb d os
        have i0 : (0 : Int) ≤ (k : Int) := by omega
        have i1 : (k : Int) < (xss.length : Int) := by omega
        have i2 : (k : Int) < (yss.length : Int) := by omega
        clear hrda hrdb ga gb
        go_wp2_with fail
        refine wp_region_quiet_below (by kernel_rfl) (by kernel_rfl) ?_
        repeat (quiet_step (exact Calls.regrown_of (eqInt64S_any _ (sx.below (below_regrown _ _ _)) (sy.below (below_regrown _ _ _)))))
        refine wpQuiet_nil ?_
        intro _ hw'
        obtain ⟨⟨dq, osq⟩, hw''⟩ := hw'
        subst hw''
        have bq := hbw.trans ((below_regrown wr dq osq).mono hbw.size)
        clear ka kb
        generalize hd : decide (xss[k] = yss[k]) = d
        have HE := Lib.hid hd
        clear hd
        cases d
        · go_wp2
          go_ret
          exact ⟨rb (by symm; simp; intro e; subst e; have := HE.out; simp at this), bq⟩
        · go_wp2
          go_roundw
          case rel => exact ⟨k + 1, by omega, by go_num, by rw [List.take_succ_eq_append_getElem hlt, List.take_succ_eq_append_getElem hj, HT.out, of_decide_eq_true HE.out], bq⟩
          case measure => simp [intOf]; omega
      · have ht := HT.out
        clear hrda hrdb
        go_wp2
        go_ret
        exact ⟨rb (by symm; simp; rw [List.take_of_length_le (by omega), List.take_of_length_le (by rw [← HL.out]; omega)] at ht; exact ht), hbw⟩
  · have h1 : ((xss.length : Int) != (yss.length : Int)) = true := by simp; omega
    have HL := Lib.hid hl
    clear hl hrda hrdb
    go_enter Try.func18, Try.ntmps18
    go_wp2
    go_ret
    exact ⟨rb (by symm; simp; intro h; exact HL.out (by rw [h])), Below.refl _ _⟩

theorem fillg {α : Type} {xs : List α} {z : α} {k : Nat} (h : k < xs.length) : (xs.take k ++ List.replicate (xs.length - k) z).set k xs[k] = xs.take (k+1) ++ List.replicate (xs.length - (k+1)) z := by
  rw [List.set_append_right _ _ (by simp; omega), List.take_succ_eq_append_getElem h, List.append_assoc]
  congr 1
  have e : xs.length - k = (xs.length - (k+1)) + 1 := by omega
  have e2 : k - (xs.take k).length = 0 := by simp; omega
  rw [e, e2, List.replicate_succ, List.set_cons_zero]; rfl
theorem Rows2.nils (w : World) (base n : Nat) : Rows2 w base (List.replicate n (.slice none 0 0)) (List.replicate n []) := by
  refine ⟨by simp, fun i u xs hu hx => ?_, fun i j u v g _ hu hv hg => ?_⟩
  · rw [List.getElem?_replicate] at hu hx
    split at hu
    · rename_i h
      rw [if_pos h] at hx
      simp at hu hx; subst hu hx; exact OwnI.nil _ _
    · simp at hu
  · rw [List.getElem?_replicate] at hu
    split at hu
    · simp at hu; subst hu; simp [Value.ownBlock] at hg
    · simp at hu
/-- storing a new row -/
theorem rows_store {w w1 : World} {base g n c : Nat} {vs : List Value} {xss : List (List Int)} {u : Value} {xs : List Int} (k : Nat)
    (h1 : w.ownsRow base 59 1 (.slice (some ⟨g, 0, none⟩) n c) n vs) (h2 : Rows2 w base vs xss) (hbase : base ≤ w.heap.size) (hu : OwnI w1 w.heap.size u xs) (hb : Below w.heap.size w w1) :
    (w1.setCell ⟨g, k, none⟩ u).ownsRow base 59 1 (.slice (some ⟨g, 0, none⟩) n c) n (vs.set k u) ∧ Rows2 (w1.setCell ⟨g, k, none⟩ u) base (vs.set k u) (xss.set k xs) := by
  have h3 := ownsRow_below h1 hb
  have h4 := World.ownsRow.stored h3 k u
  refine ⟨h4.1, ?_⟩
  have h5 : Rows2 w1 base (vs.set k u) (xss.set k xs) := Rows2.set (B := w.heap.size) (h2.below hb) (hu.lower hbase) (fun i v g hv hg => (h2.lt i v g hv hg).2) (fun g hg => (hu.lt g hg).1)
  exact h5.kept h3 h4.2

set_option maxHeartbeats 800000 in
theorem toInt64SS_any {u : Value} {xss : List (List Int)} (w : World) (ha : SlII w u xss) (hl : xss.length ≤ 1048576) (hrl : ∀ r ∈ xss, r.length ≤ 1048576) :
    Calls Try.prog 63 #[u] w fun e w' => ∃ v, e = .returned v ∧ OwnII w' w.heap.size v xss ∧ Below w.heap.size w w' := by
  obtain ⟨a, ca, us, rfl, hca, hca', hul, hrd, hrow⟩ := ha
  have HU := Lib.hid hul
  have HR := Lib.hid hrow
  have HL := Lib.hid hrl
  clear hca hca' hul hrow hrl
  go_enter Try.func63, Try.ntmps63
  go_wp2_with (at_make; refine make_one tI64S rfl w _ _ rfl rfl xss.length rfl rfl rfl rfl (by omega) ?_)
  intro w1 hown hb1 hsz
  go_wp2
  go_loopw [4] (fun i wr => ∃ (k : Nat) (vs : List Value), k ≤ xss.length ∧ i = .int .i64 k ∧ wr.ownsRow w.heap.size 59 1 (.slice (some ⟨w.heap.size, 0, none⟩) xss.length xss.length) xss.length vs ∧ Rows2 wr w.heap.size vs (xss.take k ++ List.replicate (xss.length - k) []) ∧ Below w.heap.size w wr) (fun i _ => xss.length - (intOf i).toNat)
  case atStart => exact ⟨0, _, Nat.zero_le _, rfl, hown, by simpa using Rows2.nils _ _ _, hb1⟩
  case round =>
    clear hown hb1
    obtain ⟨k, vs, hk, rfl, hown, hrows, hbw⟩ := hrel
    by_cases hlt : k < xss.length
    · obtain ⟨x, ba, oa, rfl, ga, sx⟩ := SlII.row HU.out (hrd.below hbw) (fun i hi u hu => (HR.out i hi u hu).below hbw) hlt
      have hxl : xss[k].length ≤ 1048576 := HL.out _ (List.getElem_mem hlt)
      clear hrd
      go_wp2_with fail
      refine (toInt64S_any _ sx hxl).mono ?_
      rintro e w2 ⟨u, rfl, hu, b2⟩
      obtain ⟨ad2, cc2, rfl, _, _, _⟩ := id hu.sl
      have hst := rows_store k hown hrows hbw.size hu b2
      rw [fillg hlt] at hst
      have gf := World.ownsRow.frozenAt (ownsRow_below hown b2) k
      have gc := World.ownsRow.cellAt (ownsRow_below hown b2) k (by omega)
      have hvl : k < vs.length := by have := hown.1; omega
      rw [List.getElem?_eq_getElem hvl] at gc
      have bb := hbw.trans (b2.mono hbw.size)
      have HST := Lib.hid hst
      have hi0 : (k : Int) < (xss.length : Int) := by omega
      clear hst hown hrows hu b2 hbw
      go_wp2
      go_roundw
      case rel => exact ⟨k + 1, _, by omega, by go_num, HST.out.1, HST.out.2, bb.setCell (by simp) _⟩
      case measure => simp [intOf]; omega
    · obtain rfl : k = xss.length := by omega
      go_wp2
      go_ret
      exact ⟨_, rfl, ⟨vs, hown, by simpa using hrows⟩, hbw⟩
end Go.Proofs.Ytpmabnohdabbdaa
namespace Go.Proofs.Ytpmabnohdabbdaa
open Go.RowKit Go.Sort

theorem l00In_b (x a b : Int) (w : World) :
    Calls Try.prog 81 #[.int .i64 x, .int .i64 a, .int .i64 b] w fun e w' => e = .returned (.bool (inR x a b)) ∧ Below w.heap.size w w' :=
  (l00In_any x a b w).mono fun _ _ ⟨h, hw⟩ => ⟨h, hw ▸ Below.refl _ _⟩
theorem inRange_b (x a b : Int) (w : World) :
    Calls Try.prog 85 #[.int .i64 x, .int .i64 a, .int .i64 b] w fun e w' => e = .returned (.bool (inR x a b)) ∧ Below w.heap.size w w' :=
  (inRange_any x a b w).mono fun _ _ ⟨h, hw⟩ => ⟨h, hw ▸ Below.refl _ _⟩

theorem rbf {b : Bool} (h : b = false) : Ending.returned (.bool false) = .returned (.bool b) := by rw [h]
theorem rbt {b : Bool} (h : b = true) : Ending.returned (.bool true) = .returned (.bool b) := by rw [h]
def inAll (r : List Int) (t : Int) : Bool := r.all fun x => inR x 0 t
def rowOk (s t : Int) (r : List Int) : Bool := decide ((r.length : Int) = s) && (inAll r t && decide (r.sum = t))
def rowsOk (s t : Int) (xss : List (List Int)) : Bool := xss.all (rowOk s t)
def chainOk (s t : Int) (xss : List (List Int)) : Bool := inR s 1 6 && (inR t 1 60 && (decide ((xss.length : Int) = s) && rowsOk s t xss))
theorem inAll_succ {r : List Int} {t : Int} {j : Nat} (h : inAll (r.take j) t = true) (hj : j < r.length) (hx : inR r[j] 0 t = true) : inAll (r.take (j + 1)) t = true := by
  unfold inAll at *
  rw [List.take_succ_eq_append_getElem hj, List.all_append, h]
  simp [hx]
theorem inAll_false {r : List Int} {t : Int} {j : Nat} (hj : j < r.length) (hx : inR r[j] 0 t = false) : inAll r t = false := by
  unfold inAll
  rw [List.all_eq_false]
  exact ⟨r[j], List.getElem_mem hj, by simp [hx]⟩
theorem sum_succ {r : List Int} {j : Nat} (hj : j < r.length) : (r.take (j + 1)).sum = (r.take j).sum + r[j] := by
  rw [List.take_succ_eq_append_getElem hj, List.sum_append]; simp
theorem inAll_sum {t : Int} (ht : t ≤ 60) : ∀ {r : List Int}, inAll r t = true → 0 ≤ r.sum ∧ r.sum ≤ 60 * (r.length : Int)
  | [], _ => by simp
  | x :: r, h => by
    unfold inAll at h
    rw [List.all_cons, Bool.and_eq_true] at h
    have h1 := inR_iff.1 h.1
    have h2 := inAll_sum ht (r := r) h.2
    simp only [List.sum_cons, List.length_cons]
    omega
theorem rowsOk_succ {s t : Int} {xss : List (List Int)} {k : Nat} (h : rowsOk s t (xss.take k) = true) (hk : k < xss.length) (hx : rowOk s t xss[k] = true) : rowsOk s t (xss.take (k + 1)) = true := by
  unfold rowsOk at *
  rw [List.take_succ_eq_append_getElem hk, List.all_append, h]
  simp [hx]
theorem rowsOk_false {s t : Int} {xss : List (List Int)} {k : Nat} (hk : k < xss.length) (hx : rowOk s t xss[k] = false) : rowsOk s t xss = false := by
  unfold rowsOk
  rw [List.all_eq_false]
  exact ⟨xss[k], List.getElem_mem hk, by simp [hx]⟩
theorem rowOk_len {s t : Int} {r : List Int} (h : ¬ (r.length : Int) = s) : rowOk s t r = false := by simp [rowOk, h]
theorem rowOk_in {s t : Int} {r : List Int} (h : inAll r t = false) : rowOk s t r = false := by simp [rowOk, h]
theorem rowOk_sum {s t : Int} {r : List Int} (h : ¬ r.sum = t) : rowOk s t r = false := by simp [rowOk, h]
theorem rowOk_yes {s t : Int} {r : List Int} (h1 : (r.length : Int) = s) (h2 : inAll r t = true) (h3 : r.sum = t) : rowOk s t r = true := by simp [rowOk, h1, h2, h3]

/-- three cells: a chain -/
def ChainAt (w : World) (b o : Nat) (s t : Int) (v : Value) : Prop :=
  b < w.heap.size ∧ w.cell? ⟨b, o, none⟩ = some (.int .i64 s) ∧ w.cell? ⟨b, o + 1, none⟩ = some (.int .i64 t) ∧ w.cell? ⟨b, o + 2, none⟩ = some v
theorem ChainAt.below {w w' : World} {b o : Nat} {s t : Int} {v : Value} (h : ChainAt w b o s t v) (hb : Below w.heap.size w w') : ChainAt w' b o s t v :=
  ⟨Nat.lt_of_lt_of_le h.1 hb.size, by rw [hb.cell (p := ⟨b, o, none⟩) h.1]; exact h.2.1, by rw [hb.cell (p := ⟨b, o + 1, none⟩) h.1]; exact h.2.2.1, by rw [hb.cell (p := ⟨b, o + 2, none⟩) h.1]; exact h.2.2.2⟩

/-- a row at its place -/
def RowAt (w : World) (b off k : Nat) (u : Value) (r : List Int) : Prop := b < w.heap.size ∧ w.cell? ⟨b, off + k, none⟩ = some u ∧ SlI w u r
theorem RowAt.below {w w' : World} {b off k : Nat} {u : Value} {r : List Int} (h : RowAt w b off k u r) (hb : Below w.heap.size w w') : RowAt w' b off k u r :=
  ⟨Nat.lt_of_lt_of_le h.1 hb.size, by rw [hb.cell (p := ⟨b, off + k, none⟩) h.1]; exact h.2.1, h.2.2.below hb⟩
theorem SlII.rowAt {w : World} {ad : Option Addr} {vs : List Value} {xss : List (List Int)} (hl : vs.length = xss.length) (h : Rd w ad vs) (hr : ∀ (i : Nat) (hi : i < xss.length) u, vs[i]? = some u → SlI w u xss[i]) {k : Nat} (hk : k < xss.length) :
    ∃ u b off, ad = some ⟨b, off, none⟩ ∧ RowAt w b off k u xss[k] := by
  obtain ⟨b, off, h1, h2, h3⟩ := h k _ (List.getElem?_eq_getElem (by omega : k < vs.length))
  exact ⟨_, b, off, h1, h2, h3, hr k hk _ (List.getElem?_eq_getElem (by omega))⟩
set_option maxRecDepth 100000 in
set_option maxHeartbeats 2000000 in
theorem l01Ok_rows {v : Value} {xss : List (List Int)} (b o : Nat) (s t : Int) (w : World) (hc : ChainAt w b o s t v) (ha : SlII w v xss) (hs : inR s 1 6 = true) (ht : inR t 1 60 = true) (hl : (xss.length : Int) = s) :
    Calls Try.prog 126 #[.pointer (some ⟨b, o, none⟩)] w fun e w' => e = .returned (.bool (chainOk s t xss)) ∧ Below w.heap.size w w' := by
  obtain ⟨a, ca, us, rfl, hca, hca', hul, hrd, hrow⟩ := ha
  unfold maxLen at hca'
  have hn : xss.length ≤ 9223372036854775807 := by omega
  have HC := Lib.hid hc
  have HU := Lib.hid hul
  have HR := Lib.hid hrow
  obtain ⟨c0, c1, c2, c3⟩ := hc
  have k1 := fun d os => cell_regrown c1 d os
  have k2 := fun d os => cell_regrown c2 d os
  have k3 := fun d os => cell_regrown c3 d os
  clear hca hca' hul hrow
  have hls : ((xss.length : Int) != s) = false := by simp [hl]
  have hsb := inR_iff.1 hs
  have htb := inR_iff.1 ht
  have hs1 : 1 ≤ s := hsb.1
  have hs6 : s ≤ 6 := hsb.2
  have ht1 : 1 ≤ t := htb.1
  have ht60 : t ≤ 60 := htb.2
  have HL := Lib.hid hl
  have HD : Hid (chainOk s t xss = rowsOk s t xss) := by unfold Hid chainOk; rw [hs, ht, decide_eq_true hl]; rfl
  clear hl hsb htb
  go_enter Try.func126, Try.ntmps126
  go_wp2_with fail
  have bw := Below.refl w.heap.size w
  refine wp_region_quiet_below (by kernel_rfl) (by kernel_rfl) ?_
  repeat (first | go_big_quiet_skip | quiet_step (exact Calls.regrown_of (l00In_b _ _ _ _)))
  refine wpQuiet_nil ?_
  intro _ hw'
  obtain ⟨⟨dq, osq⟩, hw''⟩ := hw'
  subst hw''
  have bq := bw.trans ((below_regrown w dq osq).mono bw.size)
  generalize grow (redrawn w dq) osq = wq at bq ⊢
  clear k1 k2 k3 bw
  go_wp2
  go_loopw [3] (fun i wr => ∃ k : Nat, k ≤ xss.length ∧ i = .int .i64 k ∧ rowsOk s t (xss.take k) = true ∧ Below w.heap.size w wr) (fun i _ => xss.length - (intOf i).toNat)
  case atStart => exact ⟨0, Nat.zero_le _, rfl, by simp [rowsOk], bq⟩
  case round =>
    clear bq
    obtain ⟨k, hk, rfl, hall, hbw⟩ := hrel
    have HA := Lib.hid hall
    clear hall
    by_cases hlt : k < xss.length
    · obtain ⟨x, ba, oa, rfl, hrowk⟩ := SlII.rowAt HU.out hrd HR.out hlt
      generalize hr : xss[k] = r at hrowk
      have HRW := Lib.hid hr
      obtain ⟨ra, rc, rfl, hrc, hrc', hrr⟩ := id hrowk.2.2
      unfold maxLen at hrc'
      have HRK := Lib.hid hrowk
      obtain ⟨d0, d1, d2, d3⟩ := HC.out.below hbw
      obtain ⟨g0, ga, _⟩ := HRK.out.below hbw
      have k1 := fun d os => cell_regrown d1 d os
      have k2 := fun d os => cell_regrown d2 d os
      have k3 := fun d os => cell_regrown d3 d os
      have k4 := fun d os => cell_regrown ga d os
      have i0 : (0 : Int) ≤ (k : Int) := by omega
      have i1 : (k : Int) < (xss.length : Int) := by omega
      clear hr hrc hrowk
      by_cases hrl : (r.length : Int) = s
      · have hrs : ((r.length : Int) != s) = false := by simp [hrl]
        have hr6 : r.length ≤ 6 := by omega
        have HRL := Lib.hid hrl
        clear hrl
        go_wp2_with fail
        refine wp_region_quiet_below (by kernel_rfl) (by kernel_rfl) ?_
        repeat (first | go_big_quiet_skip | quiet_step (fail))
        refine wpQuiet_nil ?_
        intro _ hw'
        obtain ⟨⟨dq, osq⟩, hw''⟩ := hw'
        subst hw''
        have bq := hbw.trans ((below_regrown wr dq osq).mono hbw.size)
        generalize grow (redrawn wr dq) osq = wq at bq ⊢
        clear k1 k2 k3 k4 d1 d2 d3 ga
        go_wp2
        go_loopw [4, 5] (fun q i wr => ∃ j : Nat, j ≤ r.length ∧ i = .int .i64 j ∧ q = .int .i64 (r.take j).sum ∧ inAll (r.take j) t = true ∧ Below w.heap.size w wr) (fun _ i _ => r.length - (intOf i).toNat)
        case atStart => exact ⟨0, Nat.zero_le _, rfl, rfl, by simp [inAll], bq⟩
        case round =>
          clear bq hbw
          obtain ⟨j, hj, rfl, rfl, hin, hbr⟩ := hrel
          have hsum := inAll_sum ht60 hin
          have hlen : (r.take j).length ≤ 6 := by simp; omega
          have hsb0 : 0 ≤ (r.take j).sum := hsum.1
          have hsb1 : (r.take j).sum ≤ 1000 := by omega
          have HIN := Lib.hid hin
          clear hin hsum
          obtain ⟨d0, d1, d2, d3⟩ := HC.out.below hbr
          obtain ⟨g0, ga, _⟩ := HRK.out.below hbr
          have k1 := fun d os => cell_regrown d1 d os
          have k2 := fun d os => cell_regrown d2 d os
          have k3 := fun d os => cell_regrown d3 d os
          have k4 := fun d os => cell_regrown ga d os
          by_cases hjt : j < r.length
          · obtain ⟨rb, ro, rfl, gr⟩ := (hrr.below hbr).one (i64s_get hjt)
            have k5 := fun d os => cell_regrown gr d os
            have i2 : (0 : Int) ≤ (j : Int) := by omega
            have i3 : (j : Int) < (r.length : Int) := by omega
            by_cases hx : inR r[j] 0 t = true
            · have hxb := inR_iff.1 hx
              have hx0 : 0 ≤ r[j] := hxb.1
              have hx1 : r[j] ≤ 60 := by omega
              clear hxb
              go_wp2_with fail
              refine wp_region_quiet_below (by kernel_rfl) (by kernel_rfl) ?_
              repeat (first | go_big_quiet_skip | quiet_step (exact Calls.regrown_of (l00In_b _ _ _ _)))
              refine wpQuiet_nil ?_
              intro _ hw'
              obtain ⟨⟨dq, osq⟩, hw''⟩ := hw'
              subst hw''
              have bq2 := hbr.trans ((below_regrown wr dq osq).mono hbr.size)
              generalize grow (redrawn wr dq) osq = wq2 at bq2 ⊢
              clear k1 k2 k3 k4 k5 d1 d2 d3 ga gr
              obtain ⟨d0, d1, d2, d3⟩ := HC.out.below bq2
              obtain ⟨g0, ga, _⟩ := HRK.out.below bq2
              obtain ⟨rb2, ro2, he, gr⟩ := (hrr.below bq2).one (i64s_get hjt)
              simp at he
              obtain ⟨rfl, rfl⟩ := he
              go_wp2
              go_roundw
              case rel => exact ⟨j + 1, by omega, by go_num, vi (sum_succ hjt).symm, inAll_succ HIN.out hjt hx, bq2⟩
              case measure => simp [intOf]; omega
            · have hx' : inR r[j] 0 t = false := by simpa using hx
              go_wp2_with fail
              refine wp_region_quiet_below (by kernel_rfl) (by kernel_rfl) ?_
              repeat (first | go_big_quiet_skip | quiet_step (exact Calls.regrown_of (l00In_b _ _ _ _)))
              refine wpQuiet_nil ?_
              intro _ hw'
              obtain ⟨⟨dq, osq⟩, hw''⟩ := hw'
              subst hw''
              have bq2 := hbr.trans ((below_regrown wr dq osq).mono hbr.size)
              generalize grow (redrawn wr dq) osq = wq2 at bq2 ⊢
              clear k1 k2 k3 k4 k5
              go_wp2
              go_ret
              exact ⟨rbf (by rw [HD.out]; exact rowsOk_false hlt (by rw [HRW.out]; exact rowOk_in (inAll_false hjt hx'))), bq2⟩
          · obtain rfl : j = r.length := by omega
            have hin2 := HIN.out
            rw [List.take_length] at hin2 hsb0 hsb1
            have HI2 := Lib.hid hin2
            clear hin2 hjt hj hlen HIN
            by_cases hst : r.sum = t
            · have hst' : (r.sum != t) = false := by simp [hst]
              have HST := Lib.hid hst
              clear hst k1 k2 k3 k4
              go_wp2
              go_roundw
              case rel => exact ⟨k + 1, by omega, by go_num, rowsOk_succ HA.out hlt (by rw [HRW.out]; exact rowOk_yes HRL.out HI2.out HST.out), hbr⟩
              case measure => simp [intOf]; omega
            · have hst' : (r.sum != t) = true := by simp [hst]
              have HST := Lib.hid hst
              clear hst k1 k2 k3 k4
              go_wp2
              go_ret
              exact ⟨rbf (by rw [HD.out]; exact rowsOk_false hlt (by rw [HRW.out]; exact rowOk_sum HST.out)), hbr⟩
      · have hrs : ((r.length : Int) != s) = true := by simp [hrl]
        have HRL := Lib.hid hrl
        clear hrl
        go_wp2_with fail
        refine wp_region_quiet_below (by kernel_rfl) (by kernel_rfl) ?_
        repeat (first | go_big_quiet_skip | quiet_step (fail))
        refine wpQuiet_nil ?_
        intro _ hw'
        obtain ⟨⟨dq, osq⟩, hw''⟩ := hw'
        subst hw''
        have bq := hbw.trans ((below_regrown wr dq osq).mono hbw.size)
        generalize grow (redrawn wr dq) osq = wq at bq ⊢
        clear k1 k2 k3 k4 d1 d2 d3 ga
        go_wp2
        go_ret
        exact ⟨rbf (by rw [HD.out]; exact rowsOk_false hlt (by rw [HRW.out]; exact rowOk_len HRL.out)), bq⟩
    · have ht := HA.out
      obtain ⟨d0, d1, d2, d3⟩ := HC.out.below hbw
      obtain rfl : k = xss.length := by omega
      go_wp2
      go_ret
      exact ⟨rb (by rw [HD.out]; rw [List.take_of_length_le (Nat.le_refl _)] at ht; exact ht.symm), hbw⟩
set_option maxRecDepth 100000 in
set_option maxHeartbeats 2000000 in
theorem l01Ok_bad1 {v : Value} {xss : List (List Int)} (b o : Nat) (s t : Int) (w : World) (hc : ChainAt w b o s t v) (ha : SlII w v xss) (hs : inR s 1 6 = true) (ht : inR t 1 60 = true) (hl : ¬ (xss.length : Int) = s) :
    Calls Try.prog 126 #[.pointer (some ⟨b, o, none⟩)] w fun e w' => e = .returned (.bool (chainOk s t xss)) ∧ Below w.heap.size w w' := by
  obtain ⟨a, ca, us, rfl, hca, hca', hul, hrd, hrow⟩ := ha
  unfold maxLen at hca'
  have hn : xss.length ≤ 9223372036854775807 := by omega
  have HC := Lib.hid hc
  have HU := Lib.hid hul
  have HR := Lib.hid hrow
  obtain ⟨c0, c1, c2, c3⟩ := hc
  have k1 := fun d os => cell_regrown c1 d os
  have k2 := fun d os => cell_regrown c2 d os
  have k3 := fun d os => cell_regrown c3 d os
  clear hca hca' hul hrow
  have hls : ((xss.length : Int) != s) = true := by simp [hl]
  have HD : Hid (chainOk s t xss = false) := by unfold Hid chainOk; simp [hl]
  clear hl
  go_enter Try.func126, Try.ntmps126
  go_wp2_with fail
  have bw := Below.refl w.heap.size w
  refine wp_region_quiet_below (by kernel_rfl) (by kernel_rfl) ?_
  repeat (first | go_big_quiet_skip | quiet_step (exact Calls.regrown_of (l00In_b _ _ _ _)))
  refine wpQuiet_nil ?_
  intro _ hw'
  obtain ⟨⟨dq, osq⟩, hw''⟩ := hw'
  subst hw''
  have bq := bw.trans ((below_regrown w dq osq).mono bw.size)
  generalize grow (redrawn w dq) osq = wq at bq ⊢
  go_wp2
  go_ret
  exact ⟨rbf HD.out, bq⟩
set_option maxRecDepth 100000 in
set_option maxHeartbeats 2000000 in
theorem l01Ok_bad2 {v : Value} {xss : List (List Int)} (b o : Nat) (s t : Int) (w : World) (hc : ChainAt w b o s t v) (ha : SlII w v xss) (hs : inR s 1 6 = true) (ht : ¬ inR t 1 60 = true) :
    Calls Try.prog 126 #[.pointer (some ⟨b, o, none⟩)] w fun e w' => e = .returned (.bool (chainOk s t xss)) ∧ Below w.heap.size w w' := by
  obtain ⟨a, ca, us, rfl, hca, hca', hul, hrd, hrow⟩ := ha
  unfold maxLen at hca'
  have hn : xss.length ≤ 9223372036854775807 := by omega
  have HC := Lib.hid hc
  have HU := Lib.hid hul
  have HR := Lib.hid hrow
  obtain ⟨c0, c1, c2, c3⟩ := hc
  have k1 := fun d os => cell_regrown c1 d os
  have k2 := fun d os => cell_regrown c2 d os
  have k3 := fun d os => cell_regrown c3 d os
  clear hca hca' hul hrow
  have ht' : inR t 1 60 = false := by simpa using ht
  have HD : Hid (chainOk s t xss = false) := by unfold Hid chainOk; simp [ht']
  clear ht
  go_enter Try.func126, Try.ntmps126
  go_wp2_with fail
  have bw := Below.refl w.heap.size w
  refine wp_region_quiet_below (by kernel_rfl) (by kernel_rfl) ?_
  repeat (first | go_big_quiet_skip | quiet_step (exact Calls.regrown_of (l00In_b _ _ _ _)))
  refine wpQuiet_nil ?_
  intro _ hw'
  obtain ⟨⟨dq, osq⟩, hw''⟩ := hw'
  subst hw''
  have bq := bw.trans ((below_regrown w dq osq).mono bw.size)
  generalize grow (redrawn w dq) osq = wq at bq ⊢
  go_wp2
  go_ret
  exact ⟨rbf HD.out, bq⟩
set_option maxRecDepth 100000 in
set_option maxHeartbeats 2000000 in
theorem l01Ok_bad3 {v : Value} {xss : List (List Int)} (b o : Nat) (s t : Int) (w : World) (hc : ChainAt w b o s t v) (ha : SlII w v xss) (hs : ¬ inR s 1 6 = true) :
    Calls Try.prog 126 #[.pointer (some ⟨b, o, none⟩)] w fun e w' => e = .returned (.bool (chainOk s t xss)) ∧ Below w.heap.size w w' := by
  obtain ⟨a, ca, us, rfl, hca, hca', hul, hrd, hrow⟩ := ha
  unfold maxLen at hca'
  have hn : xss.length ≤ 9223372036854775807 := by omega
  have HC := Lib.hid hc
  have HU := Lib.hid hul
  have HR := Lib.hid hrow
  obtain ⟨c0, c1, c2, c3⟩ := hc
  have k1 := fun d os => cell_regrown c1 d os
  have k2 := fun d os => cell_regrown c2 d os
  have k3 := fun d os => cell_regrown c3 d os
  clear hca hca' hul hrow
  have hs' : inR s 1 6 = false := by simpa using hs
  have HD : Hid (chainOk s t xss = false) := by unfold Hid chainOk; simp [hs']
  clear hs
  go_enter Try.func126, Try.ntmps126
  go_wp2_with fail
  have bw := Below.refl w.heap.size w
  refine wp_region_quiet_below (by kernel_rfl) (by kernel_rfl) ?_
  repeat (first | go_big_quiet_skip | quiet_step (exact Calls.regrown_of (l00In_b _ _ _ _)))
  refine wpQuiet_nil ?_
  intro _ hw'
  obtain ⟨⟨dq, osq⟩, hw''⟩ := hw'
  subst hw''
  have bq := bw.trans ((below_regrown w dq osq).mono bw.size)
  generalize grow (redrawn w dq) osq = wq at bq ⊢
  go_wp2
  go_ret
  exact ⟨rbf HD.out, bq⟩
theorem l01Ok_any {v : Value} {xss : List (List Int)} (b o : Nat) (s t : Int) (w : World) (hc : ChainAt w b o s t v) (ha : SlII w v xss) :
    Calls Try.prog 126 #[.pointer (some ⟨b, o, none⟩)] w fun e w' => e = .returned (.bool (chainOk s t xss)) ∧ Below w.heap.size w w' := by
  by_cases hs : inR s 1 6 = true
  · by_cases ht : inR t 1 60 = true
    · by_cases hl : (xss.length : Int) = s
      · exact l01Ok_rows b o s t w hc ha hs ht hl
      · exact l01Ok_bad1 b o s t w hc ha hs ht hl
    · exact l01Ok_bad2 b o s t w hc ha hs ht
  · exact l01Ok_bad3 b o s t w hc ha hs
end Go.Proofs.Ytpmabnohdabbdaa
namespace Go.Proofs.Ytpmabnohdabbdaa
open Go.RowKit Go.Sort
/-- a boxed chain -/
def chObj (s t : Int) (v : Value) : Obj := .cells #[.int .i64 s, .int .i64 t, v] 37
theorem chBox (w : World) (s t : Int) (v : Value) : ChainAt (w.alloc (chObj s t v)) w.heap.size 0 s t v := by
  unfold chObj ChainAt
  refine ⟨by simp, ?_, ?_, ?_⟩ <;> simp [go_sem]
theorem chBelow (w : World) (s t : Int) (v : Value) : Below w.heap.size w (w.alloc (chObj s t v)) := (Below.refl _ _).alloc (Nat.le_refl _) _

set_option maxRecDepth 100000 in
set_option maxHeartbeats 2000000 in
theorem ValidChain_rows {v : Value} {xss : List (List Int)} (s t : Int) (w : World) (ha : SlII w v xss) (hs : inR s 1 6 = true) (ht : inR t 1 60 = true) (hl : (xss.length : Int) = s) :
    Calls Try.prog 124 #[.agg #[.int .i64 s, .int .i64 t, v]] w fun e w' => e = .returned (.bool (chainOk s t xss)) ∧ Below w.heap.size w w' := by
  obtain ⟨a, ca, us, rfl, hca, hca', hul, hrd, hrow⟩ := ha
  unfold maxLen at hca'
  have hn : xss.length ≤ 9223372036854775807 := by omega
  have HU := Lib.hid hul
  have HR := Lib.hid hrow
  have hls : ((xss.length : Int) != s) = false := by simp [hl]
  have hsb := inR_iff.1 hs
  have htb := inR_iff.1 ht
  have hs1 : 1 ≤ s := hsb.1
  have hs6 : s ≤ 6 := hsb.2
  have ht1 : 1 ≤ t := htb.1
  have ht60 : t ≤ 60 := htb.2
  have HL := Lib.hid hl
  have HD : Hid (chainOk s t xss = rowsOk s t xss) := by unfold Hid chainOk; rw [hs, ht, decide_eq_true hl]; rfl
  have HC := Lib.hid (chBox w s t (.slice a xss.length ca))
  have HB := Lib.hid (chBelow w s t (.slice a xss.length ca))
  clear hl hsb htb hca hca' hul hrow
  go_enter Try.func124, Try.ntmps124
  go_wp2_with (go_at_call 85; refine (inRange_any _ _ _ _).mono ?_; rintro e w' ⟨rfl, rfl⟩)
  go_loopw [29] (fun i wr => ∃ k : Nat, k ≤ xss.length ∧ i = .int .i64 k ∧ rowsOk s t (xss.take k) = true ∧ Below (w.heap.size + 1) (w.alloc (chObj s t (.slice a xss.length ca))) wr) (fun i _ => xss.length - (intOf i).toNat)
  case atStart => exact ⟨0, Nat.zero_le _, rfl, by simp [rowsOk], Below.refl _ _⟩
  case round =>
    obtain ⟨k, hk, rfl, hall, hbw⟩ := hrel
    have HA := Lib.hid hall
    clear hall
    obtain ⟨d0, d1, d2, d3⟩ := HC.out.below (by simpa using hbw)
    have hbw0 := HB.out.trans (hbw.mono (by omega))
    by_cases hlt : k < xss.length
    · obtain ⟨x, ba, oa, rfl, hrowk⟩ := SlII.rowAt HU.out hrd HR.out hlt
      generalize hr : xss[k] = r at hrowk
      have HRW := Lib.hid hr
      obtain ⟨ra, rc, rfl, hrc, hrc', hrr⟩ := id hrowk.2.2
      unfold maxLen at hrc'
      have HRK := Lib.hid hrowk
      obtain ⟨g0, ga, _⟩ := HRK.out.below hbw0
      have i1 : (k : Int) < (xss.length : Int) := by omega
      clear hr hrc hrowk
      by_cases hrl : (r.length : Int) = s
      · have hrs : ((r.length : Int) != s) = false := by simp [hrl]
        have hr6 : r.length ≤ 6 := by omega
        have HRL := Lib.hid hrl
        clear hrl
        go_wp2
        go_loopw [5, 40] (fun q i wr => ∃ j : Nat, j ≤ r.length ∧ i = .int .i64 j ∧ q = .int .i64 (r.take j).sum ∧ inAll (r.take j) t = true ∧ Below (w.heap.size + 1) (w.alloc (chObj s t (.slice (some ⟨ba, oa, none⟩) xss.length ca))) wr) (fun _ i _ => r.length - (intOf i).toNat)
        case atStart => exact ⟨0, Nat.zero_le _, rfl, rfl, by simp [inAll], hbw⟩
        case round =>
          clear d1 d2 d3 ga hbw hbw0
          obtain ⟨j, hj, rfl, rfl, hin, hbr⟩ := hrel
          have hsum := inAll_sum ht60 hin
          have hlen : (r.take j).length ≤ 6 := by simp; omega
          have hsb0 : 0 ≤ (r.take j).sum := hsum.1
          have hsb1 : (r.take j).sum ≤ 1000 := by omega
          have HIN := Lib.hid hin
          clear hin hsum
          obtain ⟨d0, d1, d2, d3⟩ := HC.out.below (by simpa using hbr)
          have hbr0 := HB.out.trans (hbr.mono (by omega))
          obtain ⟨g0, ga, _⟩ := HRK.out.below hbr0
          by_cases hjt : j < r.length
          · obtain ⟨rb, ro, rfl, gr⟩ := (hrr.below hbr0).one (i64s_get hjt)
            have i3 : (j : Int) < (r.length : Int) := by omega
            by_cases hx : inR r[j] 0 t = true
            · have hxb := inR_iff.1 hx
              have hx0 : 0 ≤ r[j] := hxb.1
              have hx1 : r[j] ≤ 60 := by omega
              clear hxb
              go_wp2_with (go_at_call 85; refine (inRange_any _ _ _ _).mono ?_; rintro e w' ⟨rfl, rfl⟩)
              go_roundw
              case rel => exact ⟨j + 1, by omega, by go_num, vi (sum_succ hjt).symm, inAll_succ HIN.out hjt hx, hbr⟩
              case measure => simp [intOf]; omega
            · have hx' : inR r[j] 0 t = false := by simpa using hx
              go_wp2_with (go_at_call 85; refine (inRange_any _ _ _ _).mono ?_; rintro e w' ⟨rfl, rfl⟩)
              go_ret
              exact ⟨rbf (by rw [HD.out]; exact rowsOk_false hlt (by rw [HRW.out]; exact rowOk_in (inAll_false hjt hx'))), hbr0⟩
          · obtain rfl : j = r.length := by omega
            have hin2 := HIN.out
            rw [List.take_length] at hin2 hsb0 hsb1
            have HI2 := Lib.hid hin2
            clear hin2 hjt hj hlen HIN
            by_cases hst : r.sum = t
            · have hst' : (r.sum != t) = false := by simp [hst]
              have HST := Lib.hid hst
              clear hst
              go_wp2
              go_roundw
              case rel => exact ⟨k + 1, by omega, by go_num, rowsOk_succ HA.out hlt (by rw [HRW.out]; exact rowOk_yes HRL.out HI2.out HST.out), hbr⟩
              case measure => simp [intOf]; omega
            · have hst' : (r.sum != t) = true := by simp [hst]
              have HST := Lib.hid hst
              clear hst
              go_wp2
              go_ret
              exact ⟨rbf (by rw [HD.out]; exact rowsOk_false hlt (by rw [HRW.out]; exact rowOk_sum HST.out)), hbr0⟩
      · have hrs : ((r.length : Int) != s) = true := by simp [hrl]
        have HRL := Lib.hid hrl
        clear hrl
        go_wp2
        go_ret
        exact ⟨rbf (by rw [HD.out]; exact rowsOk_false hlt (by rw [HRW.out]; exact rowOk_len HRL.out)), hbw0⟩
    · have ht := HA.out
      obtain rfl : k = xss.length := by omega
      go_wp2
      go_ret
      exact ⟨rbt (by rw [HD.out]; rw [List.take_of_length_le (Nat.le_refl _)] at ht; exact ht), hbw0⟩

set_option maxHeartbeats 400000 in
theorem ValidChain_any {v : Value} {xss : List (List Int)} (s t : Int) (w : World) (ha : SlII w v xss) :
    Calls Try.prog 124 #[.agg #[.int .i64 s, .int .i64 t, v]] w fun e w' => e = .returned (.bool (chainOk s t xss)) ∧ Below w.heap.size w w' := by
  by_cases hs : inR s 1 6 = true
  · by_cases ht : inR t 1 60 = true
    · by_cases hl : (xss.length : Int) = s
      · exact ValidChain_rows s t w ha hs ht hl
      · have hls : ((xss.length : Int) != s) = true := by simp [hl]
        have HD : Hid (chainOk s t xss = false) := by unfold Hid chainOk; simp [hl]
        obtain ⟨a, ca, us, rfl, _, _, _, _, _⟩ := ha
        have HL := Lib.hid hl
        clear hl
        go_enter Try.func124, Try.ntmps124
        go_wp2_with (go_at_call 85; refine (inRange_any _ _ _ _).mono ?_; rintro e w' ⟨rfl, rfl⟩)
        go_ret
        exact ⟨rbf HD.out, chBelow _ _ _ _⟩
    · have ht' : inR t 1 60 = false := by simpa using ht
      have HD : Hid (chainOk s t xss = false) := by unfold Hid chainOk; simp [ht']
      obtain ⟨a, ca, us, rfl, _, _, _, _, _⟩ := ha
      clear ht
      go_enter Try.func124, Try.ntmps124
      go_wp2_with (go_at_call 85; refine (inRange_any _ _ _ _).mono ?_; rintro e w' ⟨rfl, rfl⟩)
      go_ret
      exact ⟨rbf HD.out, chBelow _ _ _ _⟩
  · have hs' : inR s 1 6 = false := by simpa using hs
    have HD : Hid (chainOk s t xss = false) := by unfold Hid chainOk; simp [hs']
    obtain ⟨a, ca, us, rfl, _, _, _, _, _⟩ := ha
    clear hs
    go_enter Try.func124, Try.ntmps124
    go_wp2_with (go_at_call 85; refine (inRange_any _ _ _ _).mono ?_; rintro e w' ⟨rfl, rfl⟩)
    go_ret
    exact ⟨rbf HD.out, chBelow _ _ _ _⟩
end Go.Proofs.Ytpmabnohdabbdaa
namespace Go.Proofs.Ytpmabnohdabbdaa
open Go.RowKit Go.Sort
/-- from index k on, with sum q so far -/
def toFrom : List Int → Int → Int → Nat → Option Nat
  | [], _, _, _ => none
  | x :: r, d, q, k => if d < q + x then some k else toFrom r d (q + x) (k + 1)
def toOf (r : List Int) (d : Int) : Option Nat := toFrom r d 0 0
theorem toFrom_lt : ∀ (r : List Int) (d q : Int) (k : Nat), d < q + r.sum → r ≠ [] → (∀ x ∈ r, 0 ≤ x) → ∃ i, toFrom r d q k = some i ∧ k ≤ i ∧ i < k + r.length
  | [], _, _, _, _, h, _ => absurd rfl h
  | x :: r, d, q, k, hd, _, hx => by
    unfold toFrom
    by_cases h : d < q + x
    · exact ⟨k, by rw [if_pos h], Nat.le_refl _, by simp⟩
    · rw [if_neg h]
      rw [List.sum_cons] at hd
      cases r with
      | nil => simp at hd; omega
      | cons y r =>
        obtain ⟨i, h1, h2, h3⟩ := toFrom_lt (y :: r) d (q + x) (k + 1) (by omega) (by simp) (fun z hz => hx z (by simp [hz]))
        exact ⟨i, h1, by omega, by simp at h3 ⊢; omega⟩
theorem toOf_step {r : List Int} {d : Int} {j : Nat} (hj : j < r.length) : toFrom (r.drop j) d (r.take j).sum j = if d < (r.take j).sum + r[j] then some j else toFrom (r.drop (j + 1)) d (r.take (j + 1)).sum (j + 1) := by
  rw [List.drop_eq_getElem_cons hj]
  have : (r.take (j + 1)).sum = (r.take j).sum + r[j] := sum_succ hj
  rw [this]
  rfl
/-- the row is right for a total -/
def RowB (r : List Int) : Prop := r.length ≤ 6 ∧ ∀ x ∈ r, 0 ≤ x ∧ x ≤ 60
theorem RowB.sum {r : List Int} (h : RowB r) (j : Nat) : 0 ≤ (r.take j).sum ∧ (r.take j).sum ≤ 1000 := by
  have hin : inAll (r.take j) 60 = true := by
    unfold inAll
    rw [List.all_eq_true]
    intro x hx
    have := h.2 x (List.mem_of_mem_take hx)
    exact inR_iff.2 this
  have h2 := inAll_sum (t := 60) (by omega) hin
  have h3 : (r.take j).length ≤ 6 := by rw [List.length_take]; have := h.1; omega
  omega
theorem chainOk_parts0 {s t : Int} {xss : List (List Int)} (h : chainOk s t xss = true) : (1 ≤ s ∧ s ≤ 6) ∧ (1 ≤ t ∧ t ≤ 60) ∧ (xss.length : Int) = s ∧ rowsOk s t xss = true := by
  unfold chainOk at h
  rw [Bool.and_eq_true, Bool.and_eq_true, Bool.and_eq_true] at h
  exact ⟨inR_iff.1 h.1, inR_iff.1 h.2.1, of_decide_eq_true h.2.2.1, h.2.2.2⟩
theorem rowB_of {s t : Int} {xss : List (List Int)} (h : chainOk s t xss = true) {k : Nat} (hk : k < xss.length) : RowB xss[k] ∧ (xss[k].length : Int) = s ∧ xss[k].sum = t := by
  unfold chainOk at h
  rw [Bool.and_eq_true, Bool.and_eq_true, Bool.and_eq_true] at h
  have hs := inR_iff.1 h.1
  have ht := inR_iff.1 h.2.1
  have hr := h.2.2.2
  unfold rowsOk at hr
  rw [List.all_eq_true] at hr
  have := hr _ (List.getElem_mem hk)
  unfold rowOk at this
  rw [Bool.and_eq_true, Bool.and_eq_true] at this
  have hl := of_decide_eq_true this.1
  have ha := this.2.1
  unfold inAll at ha
  rw [List.all_eq_true] at ha
  refine ⟨⟨by omega, fun x hx => ?_⟩, hl, of_decide_eq_true this.2.2⟩
  have := inR_iff.1 (ha x hx)
  omega

set_option maxHeartbeats 1000000 in
theorem l01To_any {v : Value} {xss : List (List Int)} (b o : Nat) (s t d : Int) (k : Nat) (w : World) (hc : ChainAt w b o s t v) (ha : SlII w v xss) (hk : k < xss.length) (hB : RowB xss[k]) (hls : (xss[k].length : Int) = s) :
    Calls Try.prog 127 #[.pointer (some ⟨b, o, none⟩), .int .i64 k, .int .i64 d] w fun e w' => e = .returned (.int .i64 (((toOf xss[k] d).map Int.ofNat).getD 0)) ∧ w = w' := by
  obtain ⟨a, ca, us, rfl, hca, hca', hul, hrd, hrow⟩ := ha
  obtain ⟨x, ba, oa, rfl, hrowk⟩ := SlII.rowAt hul hrd hrow hk
  generalize hr : xss[k] = r at hrowk hB hls
  obtain ⟨g0, ga, ra, rc, rfl, hrc, hrc', hrr⟩ := hrowk
  obtain ⟨c00, c0, _, c2⟩ := hc
  unfold maxLen at hca' hrc'
  have i1 : (k : Int) < (xss.length : Int) := by omega
  have hr6 : r.length ≤ 6 := hB.1
  have HB := Lib.hid hB
  have HL := Lib.hid hls
  clear hr hul hrd hrow hca hca' hrc hB hls
  go_enter Try.func127, Try.ntmps127
  go_wp2
  go_loopw [7, 8] (fun q i wr => ∃ j : Nat, j ≤ r.length ∧ i = .int .i64 j ∧ q = .int .i64 (r.take j).sum ∧ toOf r d = toFrom (r.drop j) d (r.take j).sum j ∧ wr = w) (fun _ i _ => r.length - (intOf i).toNat)
  case atStart => exact ⟨0, Nat.zero_le _, rfl, rfl, rfl, rfl⟩
  case round =>
    obtain ⟨j, hj, rfl, rfl, hto, rfl⟩ := hrel
    have HT := Lib.hid hto
    clear hto
    have hs0 := (HB.out.sum j).1
    have hs1 := (HB.out.sum j).2
    have hls := HL.out
    by_cases hjt : j < r.length
    · have hjs : (j : Int) < s := by omega
      obtain ⟨rb, ro, rfl, gr⟩ := hrr.one (i64s_get hjt)
      have hx := HB.out.2 r[j] (List.getElem_mem hjt)
      have hx0 : 0 ≤ r[j] := hx.1
      have hx1 : r[j] ≤ 60 := hx.2
      have hst := toOf_step (d := d) hjt
      have HST := Lib.hid hst
      have i3 : (j : Int) < (r.length : Int) := by omega
      clear hls hx hst
      by_cases hd : d < (r.take j).sum + r[j]
      · go_wp2
        go_ret
        exact ⟨ri (by rw [HT.out, HST.out, if_pos hd]; rfl), rfl⟩
      · go_wp2
        go_roundw
        case rel => exact ⟨j + 1, by omega, by go_num, vi (sum_succ hjt).symm, by rw [HT.out, HST.out, if_neg (by omega)], trivial⟩
        case measure => simp [intOf]; omega
    · have hjs : ¬ (j : Int) < s := by omega
      obtain rfl : j = r.length := by omega
      clear hls
      go_wp2
      go_ret
      exact ⟨ri (by rw [HT.out]; simp [toFrom]), rfl⟩

set_option maxHeartbeats 1000000 in
theorem stepByDraw_any {v : Value} {xss : List (List Int)} (s t d : Int) (k : Nat) (w : World) (ha : SlII w v xss) (hk : k < xss.length) (hB : RowB xss[k]) :
    Calls Try.prog 125 #[.agg #[.int .i64 s, .int .i64 t, v], .int .i64 k, .int .i64 d] w fun e w' => e = .returned (.int .i64 (((toOf xss[k] d).map Int.ofNat).getD (-1))) ∧ Below w.heap.size w w' := by
  obtain ⟨a, ca, us, rfl, hca, hca', hul, hrd, hrow⟩ := ha
  obtain ⟨x, ba, oa, rfl, hrowk⟩ := SlII.rowAt hul hrd hrow hk
  generalize hr : xss[k] = r at hrowk hB
  obtain ⟨ra, rc, rfl, hrc, hrc', _⟩ := id hrowk.2.2
  have bb : Below w.heap.size w (w.alloc (chObj s t (.slice (some ⟨ba, oa, none⟩) xss.length ca))) := chBelow _ _ _ _
  obtain ⟨g0, ga, ra', rc', he, _, _, hrr⟩ := hrowk.below bb
  simp at he
  obtain ⟨rfl, rfl⟩ := he
  unfold maxLen at hca' hrc'
  have i1 : (k : Int) < (xss.length : Int) := by omega
  have hr6 : r.length ≤ 6 := hB.1
  have HB := Lib.hid hB
  have HBB := Lib.hid bb
  clear hr hul hrd hrow hca hca' hrc hB hrowk bb
  have GA := Lib.hid ga
  go_enter Try.func125, Try.ntmps125
  unfold chObj at ga
  go_wp2
  clear ga
  go_loopw [7, 16] (fun q i wr => ∃ j : Nat, j ≤ r.length ∧ i = .int .i64 j ∧ q = .int .i64 (r.take j).sum ∧ toOf r d = toFrom (r.drop j) d (r.take j).sum j ∧ wr = w.alloc (chObj s t (.slice (some ⟨ba, oa, none⟩) xss.length ca))) (fun _ i _ => r.length - (intOf i).toNat)
  case atStart => exact ⟨0, Nat.zero_le _, rfl, rfl, rfl, rfl⟩
  case round =>
    obtain ⟨j, hj, rfl, rfl, hto, rfl⟩ := hrel
    have HT := Lib.hid hto
    clear hto
    have hs0 := (HB.out.sum j).1
    have hs1 := (HB.out.sum j).2
    by_cases hjt : j < r.length
    · obtain ⟨rb, ro, rfl, gr⟩ := hrr.one (i64s_get hjt)
      have hx := HB.out.2 r[j] (List.getElem_mem hjt)
      have hx0 : 0 ≤ r[j] := hx.1
      have hx1 : r[j] ≤ 60 := hx.2
      have hst := toOf_step (d := d) hjt
      have HST := Lib.hid hst
      have i3 : (j : Int) < (r.length : Int) := by omega
      clear hx hst
      by_cases hd : d < (r.take j).sum + r[j]
      · go_wp2
        go_ret
        exact ⟨ri (by rw [HT.out, HST.out, if_pos hd]; rfl), HBB.out⟩
      · go_wp2
        go_roundw
        case rel => exact ⟨j + 1, by omega, by go_num, vi (sum_succ hjt).symm, by rw [HT.out, HST.out, if_neg (by omega)], trivial⟩
        case measure => simp [intOf]; omega
    · obtain rfl : j = r.length := by omega
      go_wp2
      go_ret
      exact ⟨ri (by rw [HT.out]; simp [toFrom]), HBB.out⟩

def upTo (n : Nat) : List Int := (List.range n).map fun (i : Nat) => (i : Int)
theorem upTo_succ (n : Nat) : upTo (n + 1) = upTo n ++ [(n : Int)] := by simp [upTo, List.range_succ]
theorem upTo_length (n : Nat) : (upTo n).length = n := by simp [upTo]

set_option maxHeartbeats 400000 in
theorem l02All_any (n : Nat) (w : World) (hn : n ≤ 1000) :
    Calls Try.prog 184 #[.int .i64 n] w fun e w' => ∃ v, e = .returned v ∧ OwnI w' w.heap.size v (upTo n) ∧ Below w.heap.size w w' := by
  go_enter Try.func184, Try.ntmps184
  go_wp2
  go_loopw [3, 4] (fun v i wr => ∃ k : Nat, k ≤ n ∧ i = .int .i64 k ∧ OwnI wr w.heap.size v (upTo k) ∧ Below w.heap.size w wr) (fun _ i _ => n - (intOf i).toNat)
  case atStart => exact ⟨0, Nat.zero_le _, rfl, OwnI.empty _ (Nat.le_refl _), (Below.refl _ _).alloc (Nat.le_refl _) _⟩
  case round =>
    obtain ⟨k, hk, rfl, hown, hbw⟩ := hrel
    by_cases hlt : k < n
    · have hsz := hbw.size
      have hl := upTo_length k
      go_wp2_with (at_builtin; refine append_i64 _ _ _ _ rfl rfl rfl hown rfl (by omega) (by omega) ?_)
      intro v' w1 hown1 hb1 hsz1
      rw [← upTo_succ] at hown1
      have hb2 := (hbw.alloc hsz _).trans hb1
      clear hown hb1
      go_wp2
      go_roundw
      case rel => exact ⟨k + 1, by omega, by go_num, hown1, hb2⟩
      case measure => simp [intOf]; omega
    · obtain rfl : k = n := by omega
      go_wp2
      go_ret
      exact ⟨_, rfl, hown, hbw⟩

set_option maxHeartbeats 400000 in
theorem everyState_any (n : Nat) (w : World) (hn : n ≤ 1000) :
    Calls Try.prog 102 #[.int .i64 n] w fun e w' => ∃ v, e = .returned v ∧ OwnI w' w.heap.size v (upTo n) ∧ Below w.heap.size w w' := by
  go_enter Try.func102, Try.ntmps102
  go_wp2
  go_loopw [3, 7] (fun v i wr => ∃ k : Nat, k ≤ n ∧ i = .int .i64 k ∧ OwnI wr w.heap.size v (upTo k) ∧ Below w.heap.size w wr) (fun _ i _ => n - (intOf i).toNat)
  case atStart => exact ⟨0, Nat.zero_le _, rfl, OwnI.empty _ (Nat.le_refl _), (Below.refl _ _).alloc (Nat.le_refl _) _⟩
  case round =>
    obtain ⟨k, hk, rfl, hown, hbw⟩ := hrel
    by_cases hlt : k < n
    · have hsz := hbw.size
      have hl := upTo_length k
      go_wp2_with (at_builtin; refine append_i64 _ _ _ _ rfl rfl rfl hown rfl (by omega) (by omega) ?_)
      intro v' w1 hown1 hb1 hsz1
      rw [← upTo_succ] at hown1
      have hb2 := (hbw.alloc hsz _).trans hb1
      clear hown hb1
      go_wp2
      go_roundw
      case rel => exact ⟨k + 1, by omega, by go_num, hown1, hb2⟩
      case measure => simp [intOf]; omega
    · obtain rfl : k = n := by omega
      go_wp2
      go_ret
      exact ⟨_, rfl, hown, hbw⟩
end Go.Proofs.Ytpmabnohdabbdaa
namespace Go.Proofs.Ytpmabnohdabbdaa
open Go.RowKit Go.Sort
set_option maxHeartbeats 400000 in
theorem szChain_any {u : Value} {xss : List (List Int)} (s t l : Int) (w : World) (ha : SlII w u xss) (h0 : 0 ≤ l) (h1 : l ≤ 1048576) :
    Calls Try.prog 14 #[.agg #[.int .i64 s, .int .i64 t, u], .int .i64 l] w fun e w' => e = .returned (.int .i64 (szII l xss)) ∧ Below w.heap.size w w' := by
  have hr := szII_range l xss h1
  obtain ⟨a, ca, us, rfl, hca, hca', hul, hrd, hrow⟩ := ha
  have ha : ∀ u : World, Below w.heap.size w u → SlII u (.slice a xss.length ca) xss := fun u hb => SlII.below ⟨a, ca, us, rfl, hca, hca', hul, hrd, hrow⟩ hb
  have HA := Lib.hid ha
  clear ha hca hca' hul hrd hrow
  go_enter Try.func14, Try.ntmps14
  go_wp2_with fail
  refine (szInt64SS_any l _ (HA.out _ ((Below.refl _ _).alloc (Nat.le_refl _) _)) h0 h1).mono ?_
  rintro e w1 ⟨rfl, b1⟩
  generalize hz : szII l xss = q at hr ⊢
  have HZ := Lib.hid hz
  clear hz
  by_cases hq : q < 0
  · obtain rfl : q = -1 := by omega
    go_wp2
    go_ret
    exact ⟨ri HZ.out.symm, ((Below.refl _ _).alloc (Nat.le_refl _) _).trans (b1.mono (by simp))⟩
  · go_wp2
    go_ret
    exact ⟨ri HZ.out.symm, ((Below.refl _ _).alloc (Nat.le_refl _) _).trans (b1.mono (by simp))⟩
set_option maxHeartbeats 800000 in
theorem toChain_any {u : Value} {xss : List (List Int)} (s t : Int) (w : World) (ha : SlII w u xss) (hl : xss.length ≤ 1048576) (hrl : ∀ r ∈ xss, r.length ≤ 1048576) :
    Calls Try.prog 16 #[.agg #[.int .i64 s, .int .i64 t, u]] w fun e w' => ∃ v, e = .returned (.agg #[.int .i64 s, .int .i64 t, v]) ∧ OwnII w' w.heap.size v xss ∧ Below w.heap.size w w' := by
  obtain ⟨a, ca, us, rfl, hca, hca', hul, hrd, hrow⟩ := ha
  have ha : ∀ u : World, Below w.heap.size w u → SlII u (.slice a xss.length ca) xss := fun u hb => SlII.below ⟨a, ca, us, rfl, hca, hca', hul, hrd, hrow⟩ hb
  have HA := Lib.hid ha
  have HL := Lib.hid hrl
  clear ha hca hca' hul hrd hrow hrl
  go_enter Try.func16, Try.ntmps16
  go_wp2_with fail
  refine (toInt64SS_any _ (HA.out _ ((((Below.refl _ _).alloc (Nat.le_refl _) _).alloc (by simp) _).alloc (by simp <;> omega) _)) hl HL.out).mono ?_
  rintro e w1 ⟨v, rfl, hv, b1⟩
  obtain ⟨ad, cc, _, rfl, _⟩ := id hv.sl
  have c0 := b1.cell (p := ⟨w.heap.size + 1 + 1, 0, none⟩) (by simp <;> omega)
  have cf0 := b1.frozen (p := ⟨w.heap.size + 1 + 1, 0, none⟩) (by simp <;> omega)
  have c1 := b1.cell (p := ⟨w.heap.size + 1 + 1, 1, none⟩) (by simp <;> omega)
  have cf1 := b1.frozen (p := ⟨w.heap.size + 1 + 1, 1, none⟩) (by simp <;> omega)
  have c2 := b1.cell (p := ⟨w.heap.size + 1 + 1, 2, none⟩) (by simp <;> omega)
  have cf2 := b1.frozen (p := ⟨w.heap.size + 1 + 1, 2, none⟩) (by simp <;> omega)
  have d0 := b1.cell (p := ⟨w.heap.size + 1, 0, none⟩) (by simp <;> omega)
  have df0 := b1.frozen (p := ⟨w.heap.size + 1, 0, none⟩) (by simp <;> omega)
  have d1 := b1.cell (p := ⟨w.heap.size + 1, 1, none⟩) (by simp <;> omega)
  have df1 := b1.frozen (p := ⟨w.heap.size + 1, 1, none⟩) (by simp <;> omega)
  have d2 := b1.cell (p := ⟨w.heap.size + 1, 2, none⟩) (by simp <;> omega)
  have df2 := b1.frozen (p := ⟨w.heap.size + 1, 2, none⟩) (by simp <;> omega)
  simp [go_sem] at c0 cf0 c1 cf1 c2 cf2 d0 df0 d1 df1 d2 df2
  have z1 := b1.size
  simp at z1
  go_wp2
  refine bodyPost_ret (v := .agg #[.int .i64 s, .int .i64 t, .slice ad xss.length cc]) (by simp [results, Try.results16, go_sem, d0, d1, d2]) rfl ⟨_, rfl, ?_, ?_⟩
  · exact ((((hv.setCell (by simp) _).setCell (by simp <;> omega) _).setCell (by simp <;> omega) _).setCell (by simp <;> omega) _).lower (by simp <;> omega)
  · exact ((((((((Below.refl _ _).alloc (Nat.le_refl _) _).alloc (by simp) _).alloc (by simp <;> omega) _).trans (b1.mono (by simp <;> omega))).setCell (by simp <;> omega) _).setCell (by simp) _).setCell (by simp) _).setCell (by simp) _
def chSame (s t : Int) (xss : List (List Int)) (s' t' : Int) (yss : List (List Int)) : Bool := decide (s = s') && (decide (t = t') && decide (xss = yss))
set_option maxHeartbeats 400000 in
theorem eqChain_any {u v : Value} {xss yss : List (List Int)} (s t s' t' : Int) (w : World) (ha : SlII w u xss) (hb : SlII w v yss) :
    Calls Try.prog 19 #[.agg #[.int .i64 s, .int .i64 t, u], .agg #[.int .i64 s', .int .i64 t', v]] w fun e w' => e = .returned (.bool (chSame s t xss s' t' yss)) ∧ Below w.heap.size w w' := by
  obtain ⟨a, ca, h1⟩ := id ha
  obtain ⟨b, cb, h2⟩ := id hb
  obtain ⟨us, rfl, _⟩ := h1
  obtain ⟨vs, rfl, _⟩ := h2
  have HA := Lib.hid ha
  have HB := Lib.hid hb
  clear ha hb
  have bb := ((Below.refl w.heap.size w).alloc (Nat.le_refl _) (.cells #[.int .i64 s, .int .i64 t, .slice a xss.length ca] 37)).alloc (by simp) (.cells #[.int .i64 s', .int .i64 t', .slice b yss.length cb] 37)
  by_cases hn : s = s'
  · subst hn
    have ht : (s != s) = false := by simp
    by_cases hm : t = t'
    · subst hm
      have ht2 : (t != t) = false := by simp
      go_enter Try.func19, Try.ntmps19
      go_wp2_with fail
      refine (eqInt64SS_any _ (HA.out.below bb) (HB.out.below bb)).mono ?_
      rintro e w1 ⟨rfl, b1⟩
      generalize hd : decide (xss = yss) = d
      have HD := Lib.hid hd
      clear hd
      cases d
      · go_wp2
        go_ret
        exact ⟨rb (by unfold chSame; rw [HD.out]; simp), bb.trans (b1.mono (by simp <;> omega))⟩
      · go_wp2
        go_ret
        exact ⟨rb (by unfold chSame; rw [HD.out]; simp), bb.trans (b1.mono (by simp <;> omega))⟩
    · have ht2 : (t != t') = true := by simp [hm]
      have HM := Lib.hid hm
      clear hm
      go_enter Try.func19, Try.ntmps19
      go_wp2
      go_ret
      exact ⟨rb (by simp [chSame, HM.out]), bb⟩
  · have ht : (s != s') = true := by simp [hn]
    have HN := Lib.hid hn
    clear hn
    go_enter Try.func19, Try.ntmps19
    go_wp2
    go_ret
    exact ⟨rb (by simp [chSame, HN.out]), bb⟩

def serviceOk (s t : Int) (xss : List (List Int)) (bs sm wk : Int) : Bool := chainOk s t xss && (inR sm 1 8 && (inR wk 1 4 && inR bs 0 999999992))
end Go.Proofs.Ytpmabnohdabbdaa
namespace Go.Proofs.Ytpmabnohdabbdaa
open Go.RowKit Go.Sort
/-- six cells: a service -/
def ServAt (w : World) (b o : Nat) (s t : Int) (v : Value) (bs sm wk : Int) : Prop :=
  ChainAt w b o s t v ∧ w.cell? ⟨b, o + 3, none⟩ = some (.int .i64 bs) ∧ w.cell? ⟨b, o + 4, none⟩ = some (.int .i64 sm) ∧ w.cell? ⟨b, o + 5, none⟩ = some (.int .i64 wk)
theorem ServAt.below {w w' : World} {b o : Nat} {s t : Int} {v : Value} {bs sm wk : Int} (h : ServAt w b o s t v bs sm wk) (hb : Below w.heap.size w w') : ServAt w' b o s t v bs sm wk :=
  ⟨h.1.below hb, by rw [hb.cell (p := ⟨b, o + 3, none⟩) h.1.1]; exact h.2.1, by rw [hb.cell (p := ⟨b, o + 4, none⟩) h.1.1]; exact h.2.2.1, by rw [hb.cell (p := ⟨b, o + 5, none⟩) h.1.1]; exact h.2.2.2⟩
end Go.Proofs.Ytpmabnohdabbdaa
namespace Go.Proofs.Ytpmabnohdabbdaa
open Go.RowKit Go.Sort
def ixP (p : Int → Bool) : List Int → Nat → Int
  | [], _ => -1
  | x :: r, k => if p x = true then (k : Int) else ixP p r (k + 1)
theorem ixP_any (p : Int → Bool) : ∀ (l : List Int) (k : Nat), decide (0 ≤ ixP p l k) = l.any p
  | [], k => by simp [ixP]
  | x :: r, k => by
    unfold ixP
    by_cases h : p x = true
    · rw [if_pos h]; simp [h]
    · rw [if_neg h, ixP_any p r (k + 1)]; simp [h]
theorem ixP_step {p : Int → Bool} {l : List Int} {k : Nat} (h : k < l.length) : ixP p (l.drop k) k = if p l[k] = true then (k : Int) else ixP p (l.drop (k + 1)) (k + 1) := by
  rw [List.drop_eq_getElem_cons h]; rfl
theorem ixP_bd (p : Int → Bool) : ∀ (l : List Int) (k : Nat), -1 ≤ ixP p l k ∧ ixP p l k < k + l.length
  | [], k => by simp [ixP]; omega
  | x :: r, k => by
    unfold ixP
    have := ixP_bd p r (k + 1)
    split
    · simp; omega
    · simp at this ⊢; omega

def ixRow (p : List Int → Bool) : List (List Int) → Nat → Int
  | [], _ => -1
  | x :: r, k => if p x = true then (k : Int) else ixRow p r (k + 1)
theorem ixRow_any (p : List Int → Bool) : ∀ (l : List (List Int)) (k : Nat), decide (0 ≤ ixRow p l k) = l.any p
  | [], k => by simp [ixRow]
  | x :: r, k => by
    unfold ixRow
    by_cases h : p x = true
    · rw [if_pos h]; simp [h]
    · rw [if_neg h, ixRow_any p r (k + 1)]; simp [h]
theorem ixRow_step {p : List Int → Bool} {l : List (List Int)} {k : Nat} (h : k < l.length) : ixRow p (l.drop k) k = if p l[k] = true then (k : Int) else ixRow p (l.drop (k + 1)) (k + 1) := by
  rw [List.drop_eq_getElem_cons h]; rfl
theorem ixRow_bd (p : List Int → Bool) : ∀ (l : List (List Int)) (k : Nat), -1 ≤ ixRow p l k ∧ ixRow p l k < k + l.length
  | [], k => by simp [ixRow]; omega
  | x :: r, k => by
    unfold ixRow
    have := ixRow_bd p r (k + 1)
    split
    · simp; omega
    · simp at this ⊢; omega
end Go.Proofs.Ytpmabnohdabbdaa
namespace Go.Proofs.Ytpmabnohdabbdaa
open Go.RowKit Go.Sort
end Go.Proofs.Ytpmabnohdabbdaa
