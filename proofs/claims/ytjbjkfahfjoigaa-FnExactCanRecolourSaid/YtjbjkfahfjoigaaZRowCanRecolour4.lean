/-
  Graphs: copied, counted, compared. With it: The law package's own helpers on [][]int64: counted, copied, equal. Small words for laws whose arguments are []int64. Which chains are valid: the reference's look and the program's. Which chains are valid: the program's look. Chains and services: counted, copied, compared. Which services are valid. Arguments of laws: boxed services. Marks written into what a law has handed in: what is made later, and what was there before, stays. Frames: what stays where some blocks alone are written; cells of a new block. Slices of slices of flat elements (rows of bools, of ints): read, owned, grown. One step by a draw: the reference's and the program's. Searches: plain laws. A search by impl.RunByDraws$1.
-/
import Derived.Test.YtjbjkfahfjoigaaZRowCanRecolour3
import Derived.Lib.QuietBelow
set_option linter.unusedVariables false
set_option linter.unusedSimpArgs false
namespace Go.Proofs.Ytjbjkfahfjoigaa
open Go.RowKit Go.Sort

def sz1 (l : Int) (n : Nat) : Int := if l - n < 0 then -1 else l - n
def szRows : Int → List (List Int) → Int
  | l, [] => l
  | l, r :: rs => if sz1 l r.length < 0 then -1 else szRows (sz1 l r.length) rs
def szII (l : Int) (xss : List (List Int)) : Int := if l - xss.length < 0 then -1 else szRows (l - xss.length) xss
theorem sz1_le {l : Int} {n : Nat} : sz1 l n ≤ l ∨ sz1 l n = -1 := by unfold sz1; split <;> omega
theorem szRows_nonneg : ∀ {xss : List (List Int)} {l : Int}, 0 ≤ szRows l xss → 0 ≤ l ∧ szRows l xss ≤ l ∧ ∀ r ∈ xss, (r.length : Int) ≤ l
  | [], l, h => ⟨h, Int.le_refl _, by simp⟩
  | r :: rs, l, h => by
    unfold szRows at h ⊢
    by_cases h1 : sz1 l r.length < 0
    · rw [if_pos h1] at h; omega
    · rw [if_neg h1] at h ⊢
      obtain ⟨h2, h3, h4⟩ := szRows_nonneg h
      have h5 : sz1 l r.length = l - r.length := by unfold sz1 at h1 ⊢; split <;> simp_all
      refine ⟨by omega, by omega, fun x hx => ?_⟩
      simp at hx
      rcases hx with rfl | hx
      · omega
      · have := h4 x hx; omega
theorem szII_nonneg {xss : List (List Int)} {l : Int} (h : 0 ≤ szII l xss) : (xss.length : Int) ≤ l ∧ szII l xss ≤ l ∧ ∀ r ∈ xss, (r.length : Int) ≤ l := by
  unfold szII at h ⊢
  split at h
  · omega
  · rename_i h1
    rw [if_neg h1]
    obtain ⟨h2, h3, h4⟩ := szRows_nonneg h
    exact ⟨by omega, by omega, fun r hr => by have := h4 r hr; omega⟩
theorem szII_range (l : Int) (xss : List (List Int)) (h : l ≤ 1048576) : -1 ≤ szII l xss ∧ szII l xss ≤ 1048576 := by
  have key : ∀ (xss : List (List Int)) (l : Int), 0 ≤ l → l ≤ 1048576 → -1 ≤ szRows l xss ∧ szRows l xss ≤ 1048576 := by
    intro xss
    induction xss with
    | nil => intro l h0 h1; unfold szRows; omega
    | cons r rs ih =>
      intro l h0 h1
      unfold szRows
      split
      · omega
      · rename_i h2
        have h5 : sz1 l r.length = l - r.length := by unfold sz1 at h2 ⊢; split <;> simp_all
        exact ih _ (by omega) (by omega)
  unfold szII
  split
  · omega
  · exact key _ _ (by omega) (by omega)
theorem SlII.row {w : World} {ad : Option Addr} {vs : List Value} {xss : List (List Int)} (hl : vs.length = xss.length) (h : Rd w ad vs) (hr : ∀ (i : Nat) (hi : i < xss.length) u, vs[i]? = some u → SlI w u xss[i]) {k : Nat} (hk : k < xss.length) :
    ∃ u b off, ad = some ⟨b, off, none⟩ ∧ w.cell? ⟨b, off + k, none⟩ = some u ∧ SlI w u xss[k] := by
  obtain ⟨b, off, h1, h2⟩ := h.one (List.getElem?_eq_getElem (by omega : k < vs.length))
  exact ⟨_, b, off, h1, h2, hr k hk _ (List.getElem?_eq_getElem (by omega))⟩

set_option maxHeartbeats 400000 in
theorem szInt64S_any {u : Value} {xs : List Int} (l : Int) (w : World) (ha : SlI w u xs) (h0 : 0 ≤ l) (h1 : l ≤ 1048576) :
    Calls Try.prog 56 #[u, .int .i64 l] w fun e w' => e = .returned (.int .i64 (sz1 l xs.length)) ∧ w = w' := by
  obtain ⟨a, ca, rfl, hca, hca', ha⟩ := ha
  unfold maxLen at hca'
  by_cases h : l - xs.length < 0
  · have hs : Hid (sz1 l xs.length = -1) := by unfold Hid sz1; rw [if_pos h]
    go_enter Try.func56, Try.ntmps56
    go_wp2
    go_ret
    exact ⟨ri hs.out.symm, rfl⟩
  · have hs : Hid (sz1 l xs.length = l - xs.length) := by unfold Hid sz1; rw [if_neg h]
    go_enter Try.func56, Try.ntmps56
    go_wp2
    go_ret
    exact ⟨ri hs.out.symm, rfl⟩

set_option maxHeartbeats 800000 in
theorem szInt64SS_any {u : Value} {xss : List (List Int)} (l : Int) (w : World) (ha : SlII w u xss) (h0 : 0 ≤ l) (h1 : l ≤ 1048576) :
    Calls Try.prog 26 #[u, .int .i64 l] w fun e w' => e = .returned (.int .i64 (szII l xss)) ∧ Below w.heap.size w w' := by
  obtain ⟨a, ca, vs, rfl, hca, hca', hvl, hrd, hrows⟩ := ha
  unfold maxLen at hca'
  by_cases h : l - xss.length < 0
  · have hs : Hid (szII l xss = -1) := by unfold Hid szII; rw [if_pos h]
    clear hrd hrows
    have HV := Lib.hid hvl
    clear hvl
    go_enter Try.func26, Try.ntmps26
    go_wp2
    go_ret
    exact ⟨ri hs.out.symm, Below.refl _ _⟩
  · have hs : Hid (szII l xss = szRows (l - xss.length) xss) := by unfold Hid szII; rw [if_neg h]
    have HV := Lib.hid hvl
    have HR := Lib.hid hrows
    clear hvl hrows
    go_enter Try.func26, Try.ntmps26
    go_wp2
    go_loopw [1, 5] (fun q i wr => ∃ (k : Nat) (m : Int), k ≤ xss.length ∧ i = .int .i64 k ∧ q = .int .i64 m ∧ 0 ≤ m ∧ m ≤ 1048576 ∧ szII l xss = szRows m (xss.drop k) ∧ Below w.heap.size w wr) (fun _ i _ => xss.length - (intOf i).toNat)
    case atStart => exact ⟨0, _, Nat.zero_le _, rfl, rfl, by omega, by omega, by rw [hs.out]; rfl, Below.refl _ _⟩
    case round =>
      obtain ⟨k, m, hk, rfl, rfl, hm0, hm1, hsz, hbw⟩ := hrel
      have HS := Lib.hid hsz
      clear hsz
      by_cases hlt : k < xss.length
      · obtain ⟨x, b, off, rfl, hc, hx⟩ := SlII.row (HV.out) (hrd.below hbw) (fun i hi u hu => (HR.out i hi u hu).below hbw) hlt
        have hstep : szRows m (xss.drop k) = if sz1 m xss[k].length < 0 then -1 else szRows (sz1 m xss[k].length) (xss.drop (k+1)) := by rw [List.drop_eq_getElem_cons hlt]; rfl
        have HT := Lib.hid hstep
        clear hstep hrd
        generalize hq : sz1 m xss[k].length = q at HT
        have hqb : q ≤ m ∨ q = -1 := by rw [← hq]; exact sz1_le
        have HQ := Lib.hid hq
        clear hq
        by_cases hneg : q < 0
        · go_wp2_with (go_at_call 56; refine (szInt64S_any m _ hx hm0 hm1).mono ?_; rintro e w' ⟨rfl, rfl⟩; rw [HQ.out])
          go_ret
          exact ⟨ri (by rw [HS.out, HT.out, if_pos hneg]), hbw⟩
        · go_wp2_with (go_at_call 56; refine (szInt64S_any m _ hx hm0 hm1).mono ?_; rintro e w' ⟨rfl, rfl⟩; rw [HQ.out])
          go_roundw
          case rel => exact ⟨k + 1, q, by omega, by go_num, rfl, by omega, by omega, by rw [HS.out, HT.out, if_neg (by omega)], hbw⟩
          case measure => simp [intOf]; omega
      · obtain rfl : k = xss.length := by omega
        go_wp2
        go_ret
        exact ⟨ri (by rw [HS.out]; simp [szRows]), hbw⟩

set_option maxHeartbeats 800000 in
theorem eqInt64SS_any {u v : Value} {xss yss : List (List Int)} (w : World) (ha : SlII w u xss) (hb : SlII w v yss) :
    Calls Try.prog 23 #[u, v] w fun e w' => e = .returned (.bool (decide (xss = yss))) ∧ Below w.heap.size w w' := by
  obtain ⟨a, ca, us, rfl, hca, hca', hul, hrda, hrowa⟩ := ha
  obtain ⟨b, cb, vs, rfl, hcb, hcb', hvl, hrdb, hrowb⟩ := hb
  unfold maxLen at hca' hcb'
  have hm : xss.length ≤ 9223372036854775807 := by omega
  have hn : yss.length ≤ 9223372036854775807 := by omega
  have HU := Lib.hid hul
  have HV := Lib.hid hvl
  have HA := Lib.hid hrowa
  have HB := Lib.hid hrowb
  clear hca hca' hcb hcb' hul hvl hrowa hrowb
  by_cases hl : xss.length = yss.length
  · have HL := Lib.hid hl
    clear hl
    have h1 : ((xss.length : Int) != (yss.length : Int)) = false := by simp [HL.out]
    go_enter Try.func23, Try.ntmps23
    go_wp2
    go_loopw [5] (fun i wr => ∃ k : Nat, k ≤ xss.length ∧ i = .int .i64 k ∧ xss.take k = yss.take k ∧ Below w.heap.size w wr) (fun i _ => xss.length - (intOf i).toNat)
    case atStart => exact ⟨0, Nat.zero_le _, rfl, rfl, Below.refl _ _⟩
    case round =>
      obtain ⟨k, hk, rfl, ht, hbw⟩ := hrel
      have HT := Lib.hid ht
      clear ht
      by_cases hlt : k < xss.length
      · have hj : k < yss.length := by rw [← HL.out]; exact hlt
        obtain ⟨x, ba, oa, rfl, ga, sx⟩ := SlII.row HU.out (hrda.below hbw) (fun i hi u hu => (HA.out i hi u hu).below hbw) hlt
        obtain ⟨y, bb, ob, rfl, gb, sy⟩ := SlII.row HV.out (hrdb.below hbw) (fun i hi u hu => (HB.out i hi u hu).below hbw) hj
        have ka := fun d os => cell_regrown ga d os
        have kb := fun d os => cell_regrown gb d os
        have i0 : (0 : Int) ≤ (k : Int) := by omega
        have i1 : (k : Int) < (xss.length : Int) := by omega
        have i2 : (k : Int) < (yss.length : Int) := by omega
        clear hrda hrdb ga gb
        go_wp2_with fail
        refine wp_region_quiet_below (by kernel_rfl) (by kernel_rfl) ?_
        repeat (quiet_step (exact Calls.regrown_of (eqInt64S_any _ (sx.below (below_regrown _ _ _)) (sy.below (below_regrown _ _ _)))))
        refine wpQuiet_nil ?_
        intro _ hw'
        obtain ⟨⟨dq, osq⟩, hw''⟩ := hw'
        subst hw''
        have bq := hbw.trans ((below_regrown wr dq osq).mono hbw.size)
        clear ka kb
        generalize hd : decide (xss[k] = yss[k]) = d
        have HE := Lib.hid hd
        clear hd
        cases d
        · go_wp2
          go_ret
          exact ⟨rb (by symm; simp; intro e; subst e; have := HE.out; simp at this), bq⟩
        · go_wp2
          go_roundw
          case rel => exact ⟨k + 1, by omega, by go_num, by rw [List.take_succ_eq_append_getElem hlt, List.take_succ_eq_append_getElem hj, HT.out, of_decide_eq_true HE.out], bq⟩
          case measure => simp [intOf]; omega
      · have ht := HT.out
        clear hrda hrdb
        go_wp2
        go_ret
        exact ⟨rb (by symm; simp; rw [List.take_of_length_le (by omega), List.take_of_length_le (by rw [← HL.out]; omega)] at ht; exact ht), hbw⟩
  · have h1 : ((xss.length : Int) != (yss.length : Int)) = true := by simp; omega
    have HL := Lib.hid hl
    clear hl hrda hrdb
    go_enter Try.func23, Try.ntmps23
    go_wp2
    go_ret
    exact ⟨rb (by symm; simp; intro h; exact HL.out (by rw [h])), Below.refl _ _⟩

theorem fillg {α : Type} {xs : List α} {z : α} {k : Nat} (h : k < xs.length) : (xs.take k ++ List.replicate (xs.length - k) z).set k xs[k] = xs.take (k+1) ++ List.replicate (xs.length - (k+1)) z := by
  rw [List.set_append_right _ _ (by simp; omega), List.take_succ_eq_append_getElem h, List.append_assoc]
  congr 1
  have e : xs.length - k = (xs.length - (k+1)) + 1 := by omega
  have e2 : k - (xs.take k).length = 0 := by simp; omega
  rw [e, e2, List.replicate_succ, List.set_cons_zero]; rfl
theorem Rows2.nils (w : World) (base n : Nat) : Rows2 w base (List.replicate n (.slice none 0 0)) (List.replicate n []) := by
  refine ⟨by simp, fun i u xs hu hx => ?_, fun i j u v g _ hu hv hg => ?_⟩
  · rw [List.getElem?_replicate] at hu hx
    split at hu
    · rename_i h
      rw [if_pos h] at hx
      simp at hu hx; subst hu hx; exact OwnI.nil _ _
    · simp at hu
  · rw [List.getElem?_replicate] at hu
    split at hu
    · simp at hu; subst hu; simp [Value.ownBlock] at hg
    · simp at hu
/-- storing a new row -/
theorem rows_store {w w1 : World} {base g n c : Nat} {vs : List Value} {xss : List (List Int)} {u : Value} {xs : List Int} (k : Nat)
    (h1 : w.ownsRow base 42 1 (.slice (some ⟨g, 0, none⟩) n c) n vs) (h2 : Rows2 w base vs xss) (hbase : base ≤ w.heap.size) (hu : OwnI w1 w.heap.size u xs) (hb : Below w.heap.size w w1) :
    (w1.setCell ⟨g, k, none⟩ u).ownsRow base 42 1 (.slice (some ⟨g, 0, none⟩) n c) n (vs.set k u) ∧ Rows2 (w1.setCell ⟨g, k, none⟩ u) base (vs.set k u) (xss.set k xs) := by
  have h3 := ownsRow_below h1 hb
  have h4 := World.ownsRow.stored h3 k u
  refine ⟨h4.1, ?_⟩
  have h5 : Rows2 w1 base (vs.set k u) (xss.set k xs) := Rows2.set (B := w.heap.size) (h2.below hb) (hu.lower hbase) (fun i v g hv hg => (h2.lt i v g hv hg).2) (fun g hg => (hu.lt g hg).1)
  exact h5.kept h3 h4.2

set_option maxHeartbeats 800000 in
theorem toInt64SS_any {u : Value} {xss : List (List Int)} (w : World) (ha : SlII w u xss) (hl : xss.length ≤ 1048576) (hrl : ∀ r ∈ xss, r.length ≤ 1048576) :
    Calls Try.prog 31 #[u] w fun e w' => ∃ v, e = .returned v ∧ OwnII w' w.heap.size v xss ∧ Below w.heap.size w w' := by
  obtain ⟨a, ca, us, rfl, hca, hca', hul, hrd, hrow⟩ := ha
  have HU := Lib.hid hul
  have HR := Lib.hid hrow
  have HL := Lib.hid hrl
  clear hca hca' hul hrow hrl
  go_enter Try.func31, Try.ntmps31
  go_wp2_with (at_make; refine make_one tI64S rfl w _ _ rfl rfl xss.length rfl rfl rfl rfl (by omega) ?_)
  intro w1 hown hb1 hsz
  go_wp2
  go_loopw [4] (fun i wr => ∃ (k : Nat) (vs : List Value), k ≤ xss.length ∧ i = .int .i64 k ∧ wr.ownsRow w.heap.size 42 1 (.slice (some ⟨w.heap.size, 0, none⟩) xss.length xss.length) xss.length vs ∧ Rows2 wr w.heap.size vs (xss.take k ++ List.replicate (xss.length - k) []) ∧ Below w.heap.size w wr) (fun i _ => xss.length - (intOf i).toNat)
  case atStart => exact ⟨0, _, Nat.zero_le _, rfl, hown, by simpa using Rows2.nils _ _ _, hb1⟩
  case round =>
    clear hown hb1
    obtain ⟨k, vs, hk, rfl, hown, hrows, hbw⟩ := hrel
    by_cases hlt : k < xss.length
    · obtain ⟨x, ba, oa, rfl, ga, sx⟩ := SlII.row HU.out (hrd.below hbw) (fun i hi u hu => (HR.out i hi u hu).below hbw) hlt
      have hxl : xss[k].length ≤ 1048576 := HL.out _ (List.getElem_mem hlt)
      clear hrd
      go_wp2_with fail
      refine (toInt64S_any _ sx hxl).mono ?_
      rintro e w2 ⟨u, rfl, hu, b2⟩
      obtain ⟨ad2, cc2, rfl, _, _, _⟩ := id hu.sl
      have hst := rows_store k hown hrows hbw.size hu b2
      rw [fillg hlt] at hst
      have gf := World.ownsRow.frozenAt (ownsRow_below hown b2) k
      have gc := World.ownsRow.cellAt (ownsRow_below hown b2) k (by omega)
      have hvl : k < vs.length := by have := hown.1; omega
      rw [List.getElem?_eq_getElem hvl] at gc
      have bb := hbw.trans (b2.mono hbw.size)
      have HST := Lib.hid hst
      have hi0 : (k : Int) < (xss.length : Int) := by omega
      clear hst hown hrows hu b2 hbw
      go_wp2
      go_roundw
      case rel => exact ⟨k + 1, _, by omega, by go_num, HST.out.1, HST.out.2, bb.setCell (by simp) _⟩
      case measure => simp [intOf]; omega
    · obtain rfl : k = xss.length := by omega
      go_wp2
      go_ret
      exact ⟨_, rfl, ⟨vs, hown, by simpa using hrows⟩, hbw⟩
end Go.Proofs.Ytjbjkfahfjoigaa
namespace Go.Proofs.Ytjbjkfahfjoigaa
open Go.RowKit
theorem eqInt64S_refl {u v : Value} {xs : List Int} (w : World) (ha : SlI w u xs) (hb : SlI w v xs) :
    Calls Try.prog 53 #[u, v] w fun e w' => e = .returned (.bool true) ∧ Below w.heap.size w w' :=
  (eqInt64S_any w ha hb).mono fun e w' ⟨h, hb⟩ => ⟨by rw [h]; simp, hb⟩
theorem eqInt64SS_refl {u v : Value} {xs : List (List Int)} (w : World) (ha : SlII w u xs) (hb : SlII w v xs) :
    Calls Try.prog 23 #[u, v] w fun e w' => e = .returned (.bool true) ∧ Below w.heap.size w w' :=
  (eqInt64SS_any w ha hb).mono fun e w' ⟨h, hb⟩ => ⟨by rw [h]; simp, hb⟩
end Go.Proofs.Ytjbjkfahfjoigaa
namespace Go.Proofs.Ytjbjkfahfjoigaa
open Go.RowKit Go.Sort

theorem l00In_b (x a b : Int) (w : World) :
    Calls Try.prog 15 #[.int .i64 x, .int .i64 a, .int .i64 b] w fun e w' => e = .returned (.bool (inR x a b)) ∧ Below w.heap.size w w' :=
  (l00In_any x a b w).mono fun _ _ ⟨h, hw⟩ => ⟨h, hw ▸ Below.refl _ _⟩
theorem inRange_b (x a b : Int) (w : World) :
    Calls Try.prog 19 #[.int .i64 x, .int .i64 a, .int .i64 b] w fun e w' => e = .returned (.bool (inR x a b)) ∧ Below w.heap.size w w' :=
  (inRange_any x a b w).mono fun _ _ ⟨h, hw⟩ => ⟨h, hw ▸ Below.refl _ _⟩

theorem rbf {b : Bool} (h : b = false) : Ending.returned (.bool false) = .returned (.bool b) := by rw [h]
theorem rbt {b : Bool} (h : b = true) : Ending.returned (.bool true) = .returned (.bool b) := by rw [h]
def inAll (r : List Int) (t : Int) : Bool := r.all fun x => inR x 0 t
def rowOk (s t : Int) (r : List Int) : Bool := decide ((r.length : Int) = s) && (inAll r t && decide (r.sum = t))
def rowsOk (s t : Int) (xss : List (List Int)) : Bool := xss.all (rowOk s t)
def chainOk (s t : Int) (xss : List (List Int)) : Bool := inR s 1 6 && (inR t 1 60 && (decide ((xss.length : Int) = s) && rowsOk s t xss))
theorem inAll_succ {r : List Int} {t : Int} {j : Nat} (h : inAll (r.take j) t = true) (hj : j < r.length) (hx : inR r[j] 0 t = true) : inAll (r.take (j + 1)) t = true := by
  unfold inAll at *
  rw [List.take_succ_eq_append_getElem hj, List.all_append, h]
  simp [hx]
theorem inAll_false {r : List Int} {t : Int} {j : Nat} (hj : j < r.length) (hx : inR r[j] 0 t = false) : inAll r t = false := by
  unfold inAll
  rw [List.all_eq_false]
  exact ⟨r[j], List.getElem_mem hj, by simp [hx]⟩
theorem sum_succ {r : List Int} {j : Nat} (hj : j < r.length) : (r.take (j + 1)).sum = (r.take j).sum + r[j] := by
  rw [List.take_succ_eq_append_getElem hj, List.sum_append]; simp
theorem inAll_sum {t : Int} (ht : t ≤ 60) : ∀ {r : List Int}, inAll r t = true → 0 ≤ r.sum ∧ r.sum ≤ 60 * (r.length : Int)
  | [], _ => by simp
  | x :: r, h => by
    unfold inAll at h
    rw [List.all_cons, Bool.and_eq_true] at h
    have h1 := inR_iff.1 h.1
    have h2 := inAll_sum ht (r := r) h.2
    simp only [List.sum_cons, List.length_cons]
    omega
theorem rowsOk_succ {s t : Int} {xss : List (List Int)} {k : Nat} (h : rowsOk s t (xss.take k) = true) (hk : k < xss.length) (hx : rowOk s t xss[k] = true) : rowsOk s t (xss.take (k + 1)) = true := by
  unfold rowsOk at *
  rw [List.take_succ_eq_append_getElem hk, List.all_append, h]
  simp [hx]
theorem rowsOk_false {s t : Int} {xss : List (List Int)} {k : Nat} (hk : k < xss.length) (hx : rowOk s t xss[k] = false) : rowsOk s t xss = false := by
  unfold rowsOk
  rw [List.all_eq_false]
  exact ⟨xss[k], List.getElem_mem hk, by simp [hx]⟩
theorem rowOk_len {s t : Int} {r : List Int} (h : ¬ (r.length : Int) = s) : rowOk s t r = false := by simp [rowOk, h]
theorem rowOk_in {s t : Int} {r : List Int} (h : inAll r t = false) : rowOk s t r = false := by simp [rowOk, h]
theorem rowOk_sum {s t : Int} {r : List Int} (h : ¬ r.sum = t) : rowOk s t r = false := by simp [rowOk, h]
theorem rowOk_yes {s t : Int} {r : List Int} (h1 : (r.length : Int) = s) (h2 : inAll r t = true) (h3 : r.sum = t) : rowOk s t r = true := by simp [rowOk, h1, h2, h3]

/-- three cells: a chain -/
def ChainAt (w : World) (b o : Nat) (s t : Int) (v : Value) : Prop :=
  b < w.heap.size ∧ w.cell? ⟨b, o, none⟩ = some (.int .i64 s) ∧ w.cell? ⟨b, o + 1, none⟩ = some (.int .i64 t) ∧ w.cell? ⟨b, o + 2, none⟩ = some v
theorem ChainAt.below {w w' : World} {b o : Nat} {s t : Int} {v : Value} (h : ChainAt w b o s t v) (hb : Below w.heap.size w w') : ChainAt w' b o s t v :=
  ⟨Nat.lt_of_lt_of_le h.1 hb.size, by rw [hb.cell (p := ⟨b, o, none⟩) h.1]; exact h.2.1, by rw [hb.cell (p := ⟨b, o + 1, none⟩) h.1]; exact h.2.2.1, by rw [hb.cell (p := ⟨b, o + 2, none⟩) h.1]; exact h.2.2.2⟩

/-- a row at its place -/
def RowAt (w : World) (b off k : Nat) (u : Value) (r : List Int) : Prop := b < w.heap.size ∧ w.cell? ⟨b, off + k, none⟩ = some u ∧ SlI w u r
theorem RowAt.below {w w' : World} {b off k : Nat} {u : Value} {r : List Int} (h : RowAt w b off k u r) (hb : Below w.heap.size w w') : RowAt w' b off k u r :=
  ⟨Nat.lt_of_lt_of_le h.1 hb.size, by rw [hb.cell (p := ⟨b, off + k, none⟩) h.1]; exact h.2.1, h.2.2.below hb⟩
theorem SlII.rowAt {w : World} {ad : Option Addr} {vs : List Value} {xss : List (List Int)} (hl : vs.length = xss.length) (h : Rd w ad vs) (hr : ∀ (i : Nat) (hi : i < xss.length) u, vs[i]? = some u → SlI w u xss[i]) {k : Nat} (hk : k < xss.length) :
    ∃ u b off, ad = some ⟨b, off, none⟩ ∧ RowAt w b off k u xss[k] := by
  obtain ⟨b, off, h1, h2, h3⟩ := h k _ (List.getElem?_eq_getElem (by omega : k < vs.length))
  exact ⟨_, b, off, h1, h2, h3, hr k hk _ (List.getElem?_eq_getElem (by omega))⟩
end Go.Proofs.Ytjbjkfahfjoigaa
namespace Go.Proofs.Ytjbjkfahfjoigaa
open Go.RowKit Go.Sort
/-- a boxed chain -/
def chObj (s t : Int) (v : Value) : Obj := .cells #[.int .i64 s, .int .i64 t, v] 24
theorem chBox (w : World) (s t : Int) (v : Value) : ChainAt (w.alloc (chObj s t v)) w.heap.size 0 s t v := by
  unfold chObj ChainAt
  refine ⟨by simp, ?_, ?_, ?_⟩ <;> simp [go_sem]
theorem chBelow (w : World) (s t : Int) (v : Value) : Below w.heap.size w (w.alloc (chObj s t v)) := (Below.refl _ _).alloc (Nat.le_refl _) _

end Go.Proofs.Ytjbjkfahfjoigaa
namespace Go.Proofs.Ytjbjkfahfjoigaa
open Go.RowKit Go.Sort
def chSame (s t : Int) (xss : List (List Int)) (s' t' : Int) (yss : List (List Int)) : Bool := decide (s = s') && (decide (t = t') && decide (xss = yss))
set_option maxHeartbeats 400000 in
theorem eqChain_any {u v : Value} {xss yss : List (List Int)} (s t s' t' : Int) (w : World) (ha : SlII w u xss) (hb : SlII w v yss) :
    Calls Try.prog 7 #[.agg #[.int .i64 s, .int .i64 t, u], .agg #[.int .i64 s', .int .i64 t', v]] w fun e w' => e = .returned (.bool (chSame s t xss s' t' yss)) ∧ Below w.heap.size w w' := by
  obtain ⟨a, ca, h1⟩ := id ha
  obtain ⟨b, cb, h2⟩ := id hb
  obtain ⟨us, rfl, _⟩ := h1
  obtain ⟨vs, rfl, _⟩ := h2
  have HA := Lib.hid ha
  have HB := Lib.hid hb
  clear ha hb
  have bb := ((Below.refl w.heap.size w).alloc (Nat.le_refl _) (.cells #[.int .i64 s, .int .i64 t, .slice a xss.length ca] 24)).alloc (by simp) (.cells #[.int .i64 s', .int .i64 t', .slice b yss.length cb] 24)
  by_cases hn : s = s'
  · subst hn
    have ht : (s != s) = false := by simp
    by_cases hm : t = t'
    · subst hm
      have ht2 : (t != t) = false := by simp
      go_enter Try.func7, Try.ntmps7
      go_wp2_with fail
      refine (eqInt64SS_any _ (HA.out.below bb) (HB.out.below bb)).mono ?_
      rintro e w1 ⟨rfl, b1⟩
      generalize hd : decide (xss = yss) = d
      have HD := Lib.hid hd
      clear hd
      cases d
      · go_wp2
        go_ret
        exact ⟨rb (by unfold chSame; rw [HD.out]; simp), bb.trans (b1.mono (by simp <;> omega))⟩
      · go_wp2
        go_ret
        exact ⟨rb (by unfold chSame; rw [HD.out]; simp), bb.trans (b1.mono (by simp <;> omega))⟩
    · have ht2 : (t != t') = true := by simp [hm]
      have HM := Lib.hid hm
      clear hm
      go_enter Try.func7, Try.ntmps7
      go_wp2
      go_ret
      exact ⟨rb (by simp [chSame, HM.out]), bb⟩
  · have ht : (s != s') = true := by simp [hn]
    have HN := Lib.hid hn
    clear hn
    go_enter Try.func7, Try.ntmps7
    go_wp2
    go_ret
    exact ⟨rb (by simp [chSame, HN.out]), bb⟩

def serviceOk (s t : Int) (xss : List (List Int)) (bs sm wk : Int) : Bool := chainOk s t xss && (inR sm 1 8 && (inR wk 1 4 && inR bs 0 999999992))
end Go.Proofs.Ytjbjkfahfjoigaa
namespace Go.Proofs.Ytjbjkfahfjoigaa
open Go.RowKit Go.Sort
/-- six cells: a service -/
def ServAt (w : World) (b o : Nat) (s t : Int) (v : Value) (bs sm wk : Int) : Prop :=
  ChainAt w b o s t v ∧ w.cell? ⟨b, o + 3, none⟩ = some (.int .i64 bs) ∧ w.cell? ⟨b, o + 4, none⟩ = some (.int .i64 sm) ∧ w.cell? ⟨b, o + 5, none⟩ = some (.int .i64 wk)
theorem ServAt.below {w w' : World} {b o : Nat} {s t : Int} {v : Value} {bs sm wk : Int} (h : ServAt w b o s t v bs sm wk) (hb : Below w.heap.size w w') : ServAt w' b o s t v bs sm wk :=
  ⟨h.1.below hb, by rw [hb.cell (p := ⟨b, o + 3, none⟩) h.1.1]; exact h.2.1, by rw [hb.cell (p := ⟨b, o + 4, none⟩) h.1.1]; exact h.2.2.1, by rw [hb.cell (p := ⟨b, o + 5, none⟩) h.1.1]; exact h.2.2.2⟩
end Go.Proofs.Ytjbjkfahfjoigaa
namespace Go.Proofs.Ytjbjkfahfjoigaa
open Go.RowKit Go.Sort
theorem szII_ok {xss : List (List Int)} {l1 : Int} (h : szII 1048576 xss = l1) (hl : ¬ l1 < 0) : xss.length ≤ 1048576 ∧ ∀ r ∈ xss, r.length ≤ 1048576 := by
  have := szII_nonneg (l := 1048576) (xss := xss) (by rw [h]; omega)
  exact ⟨by omega, fun r hr => by have := this.2.2 r hr; omega⟩
end Go.Proofs.Ytjbjkfahfjoigaa
namespace Go.Proofs.Ytjbjkfahfjoigaa
open Go.RowKit Go.Sort
/-- all but blocks from lo to hi stays -/
structure Mid (lo hi : Nat) (w w' : World) : Prop where
  os : w'.os = w.os
  tape : w'.tape = w.tape
  output : w'.output = w.output
  size : w.heap.size ≤ w'.heap.size
  block : ∀ k, k < w.heap.size → (k < lo ∨ hi ≤ k) → w'.heap[k]? = w.heap[k]?
theorem Mid.refl (lo hi : Nat) (w : World) : Mid lo hi w w := ⟨rfl, rfl, rfl, Nat.le_refl _, fun _ _ _ => rfl⟩
theorem Mid.trans {lo hi : Nat} {a b c : World} (h : Mid lo hi a b) (k : Mid lo hi b c) : Mid lo hi a c :=
  ⟨k.os.trans h.os, k.tape.trans h.tape, k.output.trans h.output, Nat.le_trans h.size k.size, fun i hi' hx => (k.block i (Nat.lt_of_lt_of_le hi' h.size) hx).trans (h.block i hi' hx)⟩
theorem Mid.below {lo hi : Nat} {w w' : World} (h : Mid lo hi w w') (hlo : lo ≤ w.heap.size) : Below lo w w' := ⟨h.os, h.tape, h.output, h.size, fun k hk => h.block k (Nat.lt_of_lt_of_le hk hlo) (.inl hk)⟩
theorem Mid.of_below {lo hi : Nat} {w w' : World} (h : Below w.heap.size w w') : Mid lo hi w w' := ⟨h.os, h.tape, h.output, h.size, fun k hk _ => h.block k hk⟩
theorem Mid.of_grown {lo hi : Nat} {w w' : World} {row : Option Nat} (h : w.grownBy w' row) (hr : ∀ g, row = some g → lo ≤ g ∧ g < hi) : Mid lo hi w w' :=
  ⟨h.os, h.tape, h.output, h.size, fun k hk hx => h.block k hk (by
    intro e
    have := hr k e.symm
    omega)⟩
theorem ownsRow_mid {w w' : World} {lo hi base e size n : Nat} {v : Value} {xs : List Value} (h : w.ownsRow base e size v n xs) (hm : Mid lo hi w w') (hb : hi ≤ base) : w'.ownsRow base e size v n xs := by
  refine ⟨h.1, ?_⟩
  rcases h.2 with h2 | ⟨g, cap, cur, h1, h2, h3, h4⟩
  · exact .inl h2
  · refine .inr ⟨g, cap, cur, h1, h2, ?_, h4⟩
    rw [hm.block g (Array.getElem?_eq_some_iff.1 h3).1 (.inr (by omega))]; exact h3
def sumL (xss : List (List Int)) : Nat := (xss.map List.length).sum
theorem sumL_take {xss : List (List Int)} {k : Nat} (h : k < xss.length) : sumL (xss.take (k + 1)) = sumL (xss.take k) + xss[k].length := by
  unfold sumL; rw [List.take_succ_eq_append_getElem h, List.map_append, List.sum_append]; simp
theorem sumL_le (xss : List (List Int)) (k : Nat) : sumL (xss.take k) ≤ sumL xss := by
  unfold sumL
  conv => rhs; rw [← List.take_append_drop k xss]
  rw [List.map_append, List.sum_append]; omega
theorem szRows_sum : ∀ {xss : List (List Int)} {l : Int}, 0 ≤ szRows l xss → (sumL xss : Int) ≤ l
  | [], l, h => by simpa [sumL, szRows] using h
  | r :: rs, l, h => by
    unfold szRows at h
    by_cases h1 : sz1 l r.length < 0
    · rw [if_pos h1] at h; omega
    · rw [if_neg h1] at h
      have h2 := szRows_sum h
      have h5 : sz1 l r.length = l - r.length := by unfold sz1 at h1 ⊢; split <;> simp_all
      rw [h5] at h2
      have : sumL (r :: rs) = r.length + sumL rs := by simp [sumL]
      omega
theorem szII_sum {xss : List (List Int)} {l l1 : Int} (h : szII l xss = l1) (hl : ¬ l1 < 0) (hb : l ≤ 1048576) : sumL xss ≤ 1048576 := by
  unfold szII at h
  split at h
  · omega
  · have := szRows_sum (xss := xss) (l := l - xss.length) (by omega)
    omega
/-- rows whose blocks lie below B -/
def OwnIIB (w : World) (base B : Nat) (v : Value) (xss : List (List Int)) : Prop :=
  ∃ vs, w.ownsRow base 42 1 v xss.length vs ∧ Rows2 w base vs xss ∧ ∀ (i : Nat) (u : Value) (g : Nat), vs[i]? = some u → u.ownBlock = some g → g < B
theorem OwnII.b {w : World} {base : Nat} {v : Value} {xss : List (List Int)} (h : OwnII w base v xss) : OwnIIB w base w.heap.size v xss := by
  obtain ⟨vs, h1, h2⟩ := h
  exact ⟨vs, h1, h2, fun i u g hu hg => (h2.lt i u g hu hg).2⟩
theorem OwnIIB.below {w w' : World} {base B : Nat} {v : Value} {xss : List (List Int)} (h : OwnIIB w base B v xss) (hb : Below w.heap.size w w') : OwnIIB w' base B v xss := by
  obtain ⟨vs, h1, h2, h3⟩ := h
  exact ⟨vs, ownsRow_below h1 hb, h2.below hb, h3⟩
theorem OwnIIB.ii {w : World} {base B : Nat} {v : Value} {xss : List (List Int)} (h : OwnIIB w base B v xss) : OwnII w base v xss := by
  obtain ⟨vs, h1, h2, _⟩ := h
  exact ⟨vs, h1, h2⟩
theorem OwnIIB.sl {w : World} {base B : Nat} {v : Value} {xss : List (List Int)} (h : OwnIIB w base B v xss) : SlII w v xss := h.ii.sl
set_option maxHeartbeats 1000000 in
theorem markInt64SS_any {v : Value} {xss : List (List Int)} (m : Int) (base B : Nat) (w : World) (hm0 : 0 ≤ m) (hm : m + sumL xss ≤ 1000000000000) (ha : OwnIIB w base B v xss) :
    Calls Try.prog 24 #[v, .int .i64 m] w fun e w' => e = .returned (.int .i64 (m + sumL xss)) ∧ Mid base B w w' := by
  obtain ⟨vs, h1, h2, h3⟩ := ha
  obtain ⟨ad, c, rfl, hc1, hc2, _⟩ := ownsRow_rd h1
  unfold maxLen at hc2
  have HV := Lib.hid h2
  have HB := Lib.hid h3
  clear h2 h3
  go_enter Try.func24, Try.ntmps24
  go_wp2
  go_loopw [1, 5] (fun q i wr => ∃ (k : Nat) (Q : Int), k ≤ xss.length ∧ i = .int .i64 k ∧ q = .int .i64 Q ∧ Hid (Q = m + sumL (xss.take k)) ∧ 0 ≤ Q ∧ Q ≤ 1000000000000 ∧ wr.ownsRow base 42 1 (.slice ad xss.length c) xss.length vs ∧ Hid (∀ (i : Nat) (u : Value) (xs : List Int), k ≤ i → vs[i]? = some u → xss[i]? = some xs → OwnI wr base u xs) ∧ Mid base B w wr) (fun _ i _ => xss.length - (intOf i).toNat)
  case atStart => exact ⟨0, m, Nat.zero_le _, rfl, rfl, by simp [Hid, sumL], hm0, by omega, h1, (fun i u xs _ hu hx => HV.out.2.1 i u xs hu hx), Mid.refl _ _ _⟩
  case round =>
    clear h1
    obtain ⟨k, Q, hk, rfl, rfl, hQ, hQ0, hQ1, hown, hrows, hmid⟩ := hrel
    by_cases hlt : k < xss.length
    · have hvl : k < vs.length := by rw [HV.out.1]; exact hlt
      obtain ⟨ad', c', he, _, _, hrd⟩ := ownsRow_rd hown
      simp at he
      obtain ⟨rfl, rfl⟩ := he
      obtain ⟨b, off, rfl, hcell⟩ := hrd.one (List.getElem?_eq_getElem hvl)
      have hu := hrows.out k vs[k] xss[k] (Nat.le_refl _) (List.getElem?_eq_getElem hvl) (List.getElem?_eq_getElem hlt)
      have hle := sumL_le xss (k + 1)
      have hst := sumL_take hlt
      have i1 : (k : Int) < (xss.length : Int) := by omega
      have hbq : Q + xss[k].length ≤ 1000000000000 := by have := hQ.out; omega
      have HST := Lib.hid hst
      have hvk : vs[k]? = some vs[k] := List.getElem?_eq_getElem hvl
      generalize vs[k] = u at hcell hu hvk
      obtain ⟨ua, uc, rfl, _⟩ := id hu.sl
      have HVK := Lib.hid hvk
      clear hst hle hvk
      go_wp2_with fail
      refine (markInt64S_any Q base _ hQ0 hbq hu).mono ?_
      rintro e w2 ⟨rfl, o2, g2⟩
      have hrow : Mid base B wr w2 := Mid.of_grown g2 (fun g hg => ⟨(hu.lt g hg).1, HB.out k _ g HVK.out hg⟩)
      have own2 : w2.ownsRow base 42 1 (.slice (some ⟨b, off, none⟩) xss.length c) xss.length vs := World.ownsRow.kept hown g2 (by
        cases hb : (Value.slice (some ⟨b, off, none⟩) xss.length c).ownBlock with
        | none => exact .inl rfl
        | some g => exact .inr (fun e => hu.apart hown e.symm hb))
      have rows2 : Hid (∀ (i : Nat) (u : Value) (xs : List Int), k + 1 ≤ i → vs[i]? = some u → xss[i]? = some xs → OwnI w2 base u xs) := by
        intro i u' xs' hi hu' hx'
        have h5 := hrows.out i u' xs' (by omega) hu' hx'
        refine h5.kept g2 ?_
        cases hb : u'.ownBlock with
        | none => exact .inl rfl
        | some g => exact .inr (fun e => HV.out.2.2 i k u' _ g (by omega) hu' HVK.out hb e.symm)
      have hm2 := hmid.trans hrow
      clear hown hrows hu o2 g2 hmid
      go_wp2
      go_roundw
      case rel => exact ⟨k + 1, Q + xss[k].length, by omega, by go_num, rfl, by have := hQ.out; have := HST.out; unfold Hid; omega, by omega, by omega, own2, rows2, hm2⟩
      case measure => simp [intOf]; omega
    · obtain rfl : k = xss.length := by omega
      go_wp2
      go_ret
      exact ⟨ri (by rw [hQ.out, List.take_length]), hmid⟩

set_option maxHeartbeats 400000 in
theorem markChain_any {v : Value} {xss : List (List Int)} (s t m : Int) (base B : Nat) (w : World) (hm0 : 0 ≤ m) (hm : m + sumL xss ≤ 1000000000000) (ha : OwnIIB w base B v xss) :
    Calls Try.prog 8 #[.agg #[.int .i64 s, .int .i64 t, v], .int .i64 m] w fun e w' => e = .returned (.int .i64 (m + sumL xss)) ∧ Mid base B w w' := by
  obtain ⟨a, ca, us, rfl, _⟩ := id ha.ii.sl
  have bx : Below w.heap.size w (w.alloc (chObj s t (.slice a xss.length ca))) := chBelow w s t _
  have hb := ha.below bx
  clear ha
  go_enter Try.func8, Try.ntmps8
  go_wp2_with fail
  refine (markInt64SS_any m base B _ hm0 hm hb).mono ?_
  rintro e w2 ⟨rfl, m2⟩
  go_wp2
  go_ret
  exact ⟨rfl, (Mid.of_below bx).trans m2⟩
end Go.Proofs.Ytjbjkfahfjoigaa
namespace Go.Proofs.Ytjbjkfahfjoigaa
open Go.RowKit Go.Sort
/-- the first cells of a block -/
def CellsAt (w : World) (b : Nat) (vs : List Value) : Prop := b < w.heap.size ∧ ∀ i u, vs[i]? = some u → w.cell? ⟨b, i, none⟩ = some u
theorem CellsAt.new (w : World) (vs : List Value) (T : Nat) : CellsAt (w.alloc (.cells vs.toArray T)) w.heap.size vs := by
  refine ⟨by simp, fun i u h => ?_⟩
  simp [go_sem, h]
theorem CellsAt.new' (w : World) (vs : List Value) (T : Nat) {b : Nat} (hb : b = w.heap.size) : CellsAt (w.alloc (.cells vs.toArray T)) b vs := by
  subst hb; exact CellsAt.new w vs T
theorem CellsAt.below {w w' : World} {b : Nat} {vs : List Value} (h : CellsAt w b vs) (hb : Below w.heap.size w w') : CellsAt w' b vs :=
  ⟨Nat.lt_of_lt_of_le h.1 hb.size, fun i u hu => by rw [hb.cell (p := ⟨b, i, none⟩) h.1]; exact h.2 i u hu⟩
theorem CellsAt.get {w : World} {b : Nat} {vs : List Value} (h : CellsAt w b vs) (i : Nat) (u : Value) (hu : vs[i]? = some u) : w.cell? ⟨b, i, none⟩ = some u := h.2 i u hu
/-- all blocks but those of S stay -/
structure Fs (S : Nat → Prop) (w w' : World) : Prop where
  os : w'.os = w.os
  tape : w'.tape = w.tape
  output : w'.output = w.output
  size : w.heap.size ≤ w'.heap.size
  block : ∀ k, k < w.heap.size → ¬ S k → w'.heap[k]? = w.heap[k]?
theorem Fs.trans {S : Nat → Prop} {a b c : World} (h : Fs S a b) (k : Fs S b c) : Fs S a c :=
  ⟨k.os.trans h.os, k.tape.trans h.tape, k.output.trans h.output, Nat.le_trans h.size k.size, fun i hi hx => (k.block i (Nat.lt_of_lt_of_le hi h.size) hx).trans (h.block i hi hx)⟩
theorem Fs.of_below {S : Nat → Prop} {w w' : World} (h : Below w.heap.size w w') : Fs S w w' := ⟨h.os, h.tape, h.output, h.size, fun k hk _ => h.block k hk⟩
theorem Fs.below {S : Nat → Prop} {w w' : World} (h : Fs S w w') {B : Nat} (hB : B ≤ w.heap.size) (hS : ∀ k, S k → B ≤ k) : Below B w w' :=
  ⟨h.os, h.tape, h.output, h.size, fun k hk => h.block k (Nat.lt_of_lt_of_le hk hB) (fun hs => by have := hS k hs; omega)⟩
theorem Fs.of_mid {lo hi : Nat} {w w' : World} (h : Mid lo hi w w') : Fs (fun k => lo ≤ k ∧ k < hi) w w' := ⟨h.os, h.tape, h.output, h.size, fun k hk hx => h.block k hk (by omega)⟩
theorem Fs.of_grown {S : Nat → Prop} {w w' : World} {row : Option Nat} (h : w.grownBy w' row) (hr : ∀ g, row = some g → S g) : Fs S w w' :=
  ⟨h.os, h.tape, h.output, h.size, fun k hk hx => h.block k hk (fun e => hx (hr k e.symm))⟩
theorem Fs.cell {S : Nat → Prop} {w w' : World} (h : Fs S w w') {p : Addr} (hp : p.block < w.heap.size) (hn : ¬ S p.block) : w'.cell? p = w.cell? p :=
  World.cell?_of_block (h.block p.block hp hn)
theorem Fs.mono {S T : Nat → Prop} {w w' : World} (h : Fs S w w') (hST : ∀ k, S k → T k) : Fs T w w' :=
  ⟨h.os, h.tape, h.output, h.size, fun k hk hx => h.block k hk (fun hs => hx (hST k hs))⟩
theorem CellsAt.fs {S : Nat → Prop} {w w' : World} {b : Nat} {vs : List Value} (h : CellsAt w b vs) (hf : Fs S w w') (hS : ¬ S b) : CellsAt w' b vs :=
  ⟨Nat.lt_of_lt_of_le h.1 hf.size, fun i u hu => by rw [hf.cell (p := ⟨b, i, none⟩) h.1 hS]; exact h.2 i u hu⟩
theorem ownsRow_fs {S : Nat → Prop} {w w' : World} {base e size n : Nat} {v : Value} {xs : List Value} (h : w.ownsRow base e size v n xs) (hf : Fs S w w') (hS : ∀ k, S k → k < base) : w'.ownsRow base e size v n xs := by
  refine ⟨h.1, ?_⟩
  rcases h.2 with h2 | ⟨g, cap, cur, h1, h2, h3, h4⟩
  · exact .inl h2
  · refine .inr ⟨g, cap, cur, h1, h2, ?_, h4⟩
    rw [hf.block g (Array.getElem?_eq_some_iff.1 h3).1 (fun hs => by have := hS g hs; omega)]; exact h3
theorem OwnI.fs {S : Nat → Prop} {w w' : World} {base : Nat} {v : Value} {xs : List Int} (h : OwnI w base v xs) (hf : Fs S w w') (hS : ∀ k, S k → k < base) : OwnI w' base v xs := ownsRow_fs h hf hS
theorem OwnII.fs {S : Nat → Prop} {w w' : World} {base : Nat} {v : Value} {xss : List (List Int)} (h : OwnII w base v xss) (hf : Fs S w w') (hS : ∀ k, S k → k < base) : OwnII w' base v xss := by
  obtain ⟨vs, h1, h2⟩ := h
  exact ⟨vs, ownsRow_fs h1 hf hS, h2.1, fun i u xs hu hx => ownsRow_fs (h2.2.1 i u xs hu hx) hf hS, h2.2.2⟩
end Go.Proofs.Ytjbjkfahfjoigaa
namespace Go.Proofs.Ytjbjkfahfjoigaa
open Go.RowKit Go.Sort
def CellV := {v : Value // v.oneCell' = true}
def encR (x : CellV) : List Value := [x.1]
theorem encR_one (x : CellV) (u : Value) (h : u ∈ encR x) : u.oneCell' = true := by
  simp [encR] at h
  subst h
  exact x.2
/-- F: the rows; R: the slice of them -/
structure FRow (α : Type) where
  F : Flat α
  R : Flat CellV
  enc : R.enc = encR
  one : R.size = 1
  ne : R.E ≠ F.E
def PairR {α : Type} (P : Value → List α → Prop) (us : List CellV) (xss : List (List α)) : Prop :=
  us.length = xss.length ∧ ∀ (i : Nat) (u : CellV) (xs : List α), us[i]? = some u → xss[i]? = some xs → P u.1 xs
theorem PairR.imp {α : Type} {P Q : Value → List α → Prop} {us : List CellV} {xss : List (List α)} (h : PairR P us xss) (hpq : ∀ v xs, P v xs → Q v xs) : PairR Q us xss :=
  ⟨h.1, fun i u m hu hm => hpq _ _ (h.2 i u m hu hm)⟩
theorem flat_fs2 {α : Type} {F : Flat α} {w w' : World} {base : Nat} {v : Value} {xs : List α} {S : Nat → Prop} (h : F.Own w base v xs) (hf : Fs S w w') (hS : ∀ k, S k → k < base) : F.Own w' base v xs := by
  refine ⟨h.1, ?_⟩
  rcases h.2 with h2 | ⟨g, c, cur, h1, h2, h3, h4⟩
  · exact .inl h2
  · refine .inr ⟨g, c, cur, h1, h2, ?_, h4⟩
    rw [hf.block g (Array.getElem?_eq_some_iff.1 h3).1 (fun hx => by have := hS g hx; omega)]; exact h3
theorem Flat.Own.one {α : Type} {F : Flat α} {w : World} {base : Nat} {v : Value} {xs : List α} (h : F.Own w base v xs) : v.oneCell' = true := by
  rcases h.2 with ⟨rfl, _⟩ | ⟨g, c, cur, rfl, _⟩ <;> rfl
/-- rows of one type are apart from those of another one -/
theorem flat_apart {α β : Type} {F : Flat α} {G : Flat β} {w : World} {base base' : Nat} {u v : Value} {xs : List α} {ys : List β} (hne : G.E ≠ F.E) (h : F.Own w base u xs) (h2 : G.Own w base' v ys) {g : Nat} (hu : u.ownBlock = some g) : v.ownBlock ≠ some g := by
  intro hv
  rcases h.2 with ⟨rfl, _⟩ | ⟨g1, c1, cur1, rfl, _, k1, _⟩
  · simp [Value.ownBlock] at hu
  · rcases h2.2 with ⟨rfl, _⟩ | ⟨g2, c2, cur2, rfl, _, k2, _⟩
    · simp [Value.ownBlock] at hv
    · simp [Value.ownBlock] at hu hv
      subst hu
      subst hv
      rw [k1] at k2
      simp at k2
      exact hne k2.2.symm
theorem flat_kept {α : Type} {F : Flat α} {w w' : World} {base : Nat} {u : Value} {xs : List α} {row : Option Nat} (h : F.Own w base u xs) (hg : w.grownBy w' row) (hne : u.ownBlock = none ∨ u.ownBlock ≠ row) : F.Own w' base u xs := by
  refine ⟨h.1, ?_⟩
  rcases h.2 with h2 | ⟨g, c, cur, rfl, h2, h3, h4⟩
  · exact .inl h2
  · refine .inr ⟨g, c, cur, rfl, h2, ?_, h4⟩
    have hne' : some g ≠ row := by
      rcases hne with e | e
      · simp [Value.ownBlock] at e
      · exact e
    rw [hg.block g (Array.getElem?_eq_some_iff.1 h3).1 hne']; exact h3
theorem Flat.Own.typed {α : Type} {F : Flat α} {w : World} {base : Nat} {v : Value} {xs : List α} (h : F.Own w base v xs) {g : Nat} (hg : v.ownBlock = some g) : ∃ cur, w.heap[g]? = some (.cells cur F.E) := by
  rcases h.2 with ⟨rfl, _⟩ | ⟨g', c, cur, rfl, _, h3, _⟩
  · simp [Value.ownBlock] at hg
  · simp only [Value.ownBlock, Option.some.injEq] at hg
    subst hg
    exact ⟨cur, h3⟩
theorem Flat.Own.fsT {α : Type} {F : Flat α} {S : Nat → Prop} {w w' : World} {base e : Nat} {v : Value} {xs : List α} (h : F.Own w base v xs) (hf : Fs S w w') (hT : ∀ g, S g → ∃ cur, w.heap[g]? = some (.cells cur e)) (hne : F.E ≠ e) : F.Own w' base v xs := by
  refine ⟨h.1, ?_⟩
  rcases h.2 with h2 | ⟨g, c, cur, rfl, h2, h3, h4⟩
  · exact .inl h2
  · refine .inr ⟨g, c, cur, rfl, h2, ?_, h4⟩
    rw [hf.block g (Array.getElem?_eq_some_iff.1 h3).1 (fun hs => by
      obtain ⟨cur', hc⟩ := hT g hs
      rw [h3] at hc
      simp at hc
      exact hne hc.2)]; exact h3
theorem Fs.alloc {S : Nat → Prop} {w w' : World} (h : Fs S w w') (o : Obj) : Fs S w (w'.alloc o) := h.trans (Fs.of_below ((Below.refl _ _).alloc (Nat.le_refl _) o))
namespace FRow
variable {α : Type} {G : FRow α}
def Sl (G : FRow α) (w : World) (v : Value) (xss : List (List α)) : Prop := ∃ us, G.R.Sl w v us ∧ PairR (G.F.Sl w) us xss
def Own (G : FRow α) (w : World) (base : Nat) (v : Value) (xss : List (List α)) : Prop := ∃ us, G.R.Own w base v us ∧ PairR (G.F.Own w base) us xss
theorem Sl.below {w w' : World} {v : Value} {ms : List (List α)} (h : G.Sl w v ms) (hb : Below w.heap.size w w') : G.Sl w' v ms := by
  obtain ⟨us, h1, h2⟩ := h
  exact ⟨us, h1.below hb, h2.imp (fun v xs h => h.below hb)⟩
theorem Own.below {w w' : World} {base : Nat} {v : Value} {ms : List (List α)} (h : G.Own w base v ms) (hb : Below w.heap.size w w') : G.Own w' base v ms := by
  obtain ⟨us, h1, h2⟩ := h
  exact ⟨us, h1.below hb, h2.imp (fun v xs h => h.below hb)⟩
theorem Own.lower {w : World} {base base' : Nat} {v : Value} {ms : List (List α)} (h : G.Own w base v ms) (hb : base' ≤ base) : G.Own w base' v ms := by
  obtain ⟨us, h1, h2⟩ := h
  exact ⟨us, h1.lower hb, h2.imp (fun v xs h => h.lower hb)⟩
theorem Own.sl {w : World} {base : Nat} {v : Value} {ms : List (List α)} (h : G.Own w base v ms) : G.Sl w v ms := by
  obtain ⟨us, h1, h2⟩ := h
  exact ⟨us, h1.sl, h2.imp (fun v xs h => h.sl)⟩
theorem Own.nil (w : World) (base : Nat) : G.Own w base (.slice none 0 0) [] := ⟨[], Flat.Own.nil _ _, rfl, by intro i u m h; simp at h⟩
theorem Own.empty (w : World) {base : Nat} (hb : base ≤ w.heap.size) : G.Own (w.alloc (.cells #[] G.R.E)) base (.slice (some ⟨w.heap.size, 0, none⟩) 0 0) [] :=
  ⟨[], Flat.Own.empty w hb, rfl, by intro i u m h; simp at h⟩
theorem Own.fs {w w' : World} {base : Nat} {v : Value} {ms : List (List α)} {S : Nat → Prop} (h : G.Own w base v ms) (hf : Fs S w w') (hS : ∀ k, S k → k < base) : G.Own w' base v ms := by
  obtain ⟨us, h1, h2⟩ := h
  exact ⟨us, flat_fs2 h1 hf hS, h2.imp (fun v xs h => flat_fs2 h hf hS)⟩
theorem Sl.form {w : World} {v : Value} {ms : List (List α)} (h : G.Sl w v ms) : ∃ ad c, v = .slice ad ms.length c ∧ ms.length ≤ c ∧ c ≤ maxLen := by
  obtain ⟨us, ⟨ad, c, h1, h2, h3, _⟩, h4, _⟩ := h
  exact ⟨ad, c, by rw [← h4]; exact h1, by rw [← h4]; exact h2, h3⟩
theorem Sl.at_ {w : World} {ad : Option Addr} {n c : Nat} {ms : List (List α)} (h : G.Sl w (.slice ad n c) ms) {i : Nat} (hi : i < ms.length) :
    ∃ b off ra rc, ad = some ⟨b, off, none⟩ ∧ b < w.heap.size ∧ w.cell? ⟨b, off + i, none⟩ = some (.slice ra ms[i].length rc) ∧ G.F.Sl w (.slice ra ms[i].length rc) ms[i] := by
  obtain ⟨us, h1, h2, h3⟩ := h
  have hu : i < us.length := by omega
  obtain ⟨b, off, h4, h5, h6⟩ := h1.at_ hu
  have e2 := h3 i us[i] ms[i] (List.getElem?_eq_getElem hu) (List.getElem?_eq_getElem hi)
  obtain ⟨ra, rc, e3, e4, e5, e6⟩ := e2
  have k0 := h6 0 us[i].1 (by rw [G.enc]; rfl)
  rw [e3, show off + (i * G.R.size + 0) = off + i from by rw [G.one]; omega] at k0
  exact ⟨b, off, ra, rc, h4, h5, k0, ra, rc, rfl, e4, e5, e6⟩
/-- append(v, u): a row more -/
theorem append {ops : Array Oper} {rest : List Oper} {o : Oper} {a : Act} {Q : Exit → Act → World → Prop} (G : FRow α) (w : World) (s x : Operand) (hg : o.guard = none)
    (ho : o.op = .call { callee := .builtin .append, args := #[s, x], argTypes := #[G.R.T, G.R.T] })
    {base : Nat} {v u : Value} {ms : List (List α)} {xs : List α} (hs : a.eval s = v) (hown : G.Own w base v ms) (hu : G.F.Own w base u xs) {t g0 : Nat} (hg0 : w.heap.size = g0) (hx : a.eval x = .slice (some ⟨g0, 0, none⟩) 1 1)
    (hlen : ms.length < 16777216) (hbase : base ≤ w.heap.size)
    (h : ∀ v' w', G.Own w' base v' (ms ++ [xs]) → Below base (w.alloc (.cells #[u] t)) w' → Fs (fun k => v.ownBlock = some k) (w.alloc (.cells #[u] t)) w' → wpList Try.prog ops Q rest (a.put o.dst v') w') : wpList Try.prog ops Q (o :: rest) a (w.alloc (.cells #[u] t)) := by
  subst hg0
  obtain ⟨us, h1, h2⟩ := hown
  have bx : Below w.heap.size w (w.alloc (.cells #[u] t)) := (Below.refl _ _).alloc (Nat.le_refl _) _
  have h1' := h1.below bx
  have hu' := hu.below bx
  obtain ⟨c, hc⟩ : ∃ c : CellV, c.1 = u := ⟨⟨u, hu.one⟩, rfl⟩
  refine Flat.append G.R _ s x hg ho (ys := [c]) hs h1' hx (by
    have := rd_new w #[u] t
    have e : G.R.encs [c] = [u] := by
      unfold Flat.encs
      rw [G.enc]
      show [c.1] ++ [] = [u]
      rw [hc]; rfl
    rw [e]; exact this) (by rw [h2.1]; simp; omega) (by simp; omega) (fun v' w' k1 k2 k3 => ?_)
  have key : ∀ (v0 : Value) (zs : List α), G.F.Own (w.alloc (.cells #[u] t)) base v0 zs → G.F.Own w' base v0 zs := fun v0 zs ho => flat_kept ho k2 (by
    cases hb : v0.ownBlock with
    | none => exact .inl rfl
    | some g => exact .inr (Ne.symm (flat_apart G.ne ho h1' hb)))
  refine h v' w' ⟨_, k1, by simp [h2.1], fun i u0 m hi hm => ?_⟩ k3 (Fs.of_grown k2 (fun g hg => hg))
  have hul := h2.1
  by_cases hlt : i < us.length
  · rw [List.getElem?_append_left hlt] at hi
    rw [List.getElem?_append_left (by rw [← h2.1]; exact hlt)] at hm
    exact key _ _ ((h2.2 i u0 m hi hm).below bx)
  · rw [List.getElem?_append_right (by omega)] at hi hm
    have h0 : i - us.length = 0 := by
      rcases Nat.eq_zero_or_pos (i - us.length) with e | e
      · exact e
      · rw [List.getElem?_eq_none (by simp; omega)] at hi; simp at hi
    rw [h0] at hi
    rw [← h2.1, h0] at hm
    simp at hi hm
    subst hi hm
    rw [hc]
    exact key _ _ hu'
theorem Own.typed {w : World} {base : Nat} {v : Value} {ms : List (List α)} (h : G.Own w base v ms) {g : Nat} (hg : v.ownBlock = some g) : ∃ cur, w.heap[g]? = some (.cells cur G.R.E) := by
  obtain ⟨us, h1, _⟩ := h
  exact h1.typed hg
theorem Own.fsT {S : Nat → Prop} {w w' : World} {base e : Nat} {v : Value} {ms : List (List α)} (h : G.Own w base v ms) (hf : Fs S w w') (hT : ∀ g, S g → ∃ cur, w.heap[g]? = some (.cells cur e)) (h1 : G.R.E ≠ e) (h2 : G.F.E ≠ e) : G.Own w' base v ms := by
  obtain ⟨us, k1, k2⟩ := h
  exact ⟨us, k1.fsT hf hT h1, k2.imp (fun v xs h => h.fsT hf hT h2)⟩
end FRow
end Go.Proofs.Ytjbjkfahfjoigaa
namespace Go.Proofs.Ytjbjkfahfjoigaa
open Go.RowKit Go.Sort
/-- from index k on, with sum q so far -/
def toFrom : List Int → Int → Int → Nat → Option Nat
  | [], _, _, _ => none
  | x :: r, d, q, k => if d < q + x then some k else toFrom r d (q + x) (k + 1)
def toOf (r : List Int) (d : Int) : Option Nat := toFrom r d 0 0
theorem toFrom_lt : ∀ (r : List Int) (d q : Int) (k : Nat), d < q + r.sum → r ≠ [] → (∀ x ∈ r, 0 ≤ x) → ∃ i, toFrom r d q k = some i ∧ k ≤ i ∧ i < k + r.length
  | [], _, _, _, _, h, _ => absurd rfl h
  | x :: r, d, q, k, hd, _, hx => by
    unfold toFrom
    by_cases h : d < q + x
    · exact ⟨k, by rw [if_pos h], Nat.le_refl _, by simp⟩
    · rw [if_neg h]
      rw [List.sum_cons] at hd
      cases r with
      | nil => simp at hd; omega
      | cons y r =>
        obtain ⟨i, h1, h2, h3⟩ := toFrom_lt (y :: r) d (q + x) (k + 1) (by omega) (by simp) (fun z hz => hx z (by simp [hz]))
        exact ⟨i, h1, by omega, by simp at h3 ⊢; omega⟩
theorem toOf_step {r : List Int} {d : Int} {j : Nat} (hj : j < r.length) : toFrom (r.drop j) d (r.take j).sum j = if d < (r.take j).sum + r[j] then some j else toFrom (r.drop (j + 1)) d (r.take (j + 1)).sum (j + 1) := by
  rw [List.drop_eq_getElem_cons hj]
  have : (r.take (j + 1)).sum = (r.take j).sum + r[j] := sum_succ hj
  rw [this]
  rfl
/-- the row is right for a total -/
def RowB (r : List Int) : Prop := r.length ≤ 6 ∧ ∀ x ∈ r, 0 ≤ x ∧ x ≤ 60
theorem RowB.sum {r : List Int} (h : RowB r) (j : Nat) : 0 ≤ (r.take j).sum ∧ (r.take j).sum ≤ 1000 := by
  have hin : inAll (r.take j) 60 = true := by
    unfold inAll
    rw [List.all_eq_true]
    intro x hx
    have := h.2 x (List.mem_of_mem_take hx)
    exact inR_iff.2 this
  have h2 := inAll_sum (t := 60) (by omega) hin
  have h3 : (r.take j).length ≤ 6 := by rw [List.length_take]; have := h.1; omega
  omega
theorem chainOk_parts0 {s t : Int} {xss : List (List Int)} (h : chainOk s t xss = true) : (1 ≤ s ∧ s ≤ 6) ∧ (1 ≤ t ∧ t ≤ 60) ∧ (xss.length : Int) = s ∧ rowsOk s t xss = true := by
  unfold chainOk at h
  rw [Bool.and_eq_true, Bool.and_eq_true, Bool.and_eq_true] at h
  exact ⟨inR_iff.1 h.1, inR_iff.1 h.2.1, of_decide_eq_true h.2.2.1, h.2.2.2⟩
theorem rowB_of {s t : Int} {xss : List (List Int)} (h : chainOk s t xss = true) {k : Nat} (hk : k < xss.length) : RowB xss[k] ∧ (xss[k].length : Int) = s ∧ xss[k].sum = t := by
  unfold chainOk at h
  rw [Bool.and_eq_true, Bool.and_eq_true, Bool.and_eq_true] at h
  have hs := inR_iff.1 h.1
  have ht := inR_iff.1 h.2.1
  have hr := h.2.2.2
  unfold rowsOk at hr
  rw [List.all_eq_true] at hr
  have := hr _ (List.getElem_mem hk)
  unfold rowOk at this
  rw [Bool.and_eq_true, Bool.and_eq_true] at this
  have hl := of_decide_eq_true this.1
  have ha := this.2.1
  unfold inAll at ha
  rw [List.all_eq_true] at ha
  refine ⟨⟨by omega, fun x hx => ?_⟩, hl, of_decide_eq_true this.2.2⟩
  have := inR_iff.1 (ha x hx)
  omega

def upTo (n : Nat) : List Int := (List.range n).map fun (i : Nat) => (i : Int)
theorem upTo_succ (n : Nat) : upTo (n + 1) = upTo n ++ [(n : Int)] := by simp [upTo, List.range_succ]
theorem upTo_length (n : Nat) : (upTo n).length = n := by simp [upTo]

set_option maxHeartbeats 400000 in
theorem l02All_any (n : Nat) (w : World) (hn : n ≤ 1000) :
    Calls Try.prog 71 #[.int .i64 n] w fun e w' => ∃ v, e = .returned v ∧ OwnI w' w.heap.size v (upTo n) ∧ Below w.heap.size w w' := by
  go_enter Try.func71, Try.ntmps71
  go_wp2
  go_loopw [3, 4] (fun v i wr => ∃ k : Nat, k ≤ n ∧ i = .int .i64 k ∧ OwnI wr w.heap.size v (upTo k) ∧ Below w.heap.size w wr) (fun _ i _ => n - (intOf i).toNat)
  case atStart => exact ⟨0, Nat.zero_le _, rfl, OwnI.empty _ (Nat.le_refl _), (Below.refl _ _).alloc (Nat.le_refl _) _⟩
  case round =>
    obtain ⟨k, hk, rfl, hown, hbw⟩ := hrel
    by_cases hlt : k < n
    · have hsz := hbw.size
      have hl := upTo_length k
      go_wp2_with (at_builtin; refine append_i64 _ _ _ _ rfl rfl rfl hown rfl (by omega) (by omega) ?_)
      intro v' w1 hown1 hb1 hsz1
      rw [← upTo_succ] at hown1
      have hb2 := (hbw.alloc hsz _).trans hb1
      clear hown hb1
      go_wp2
      go_roundw
      case rel => exact ⟨k + 1, by omega, by go_num, hown1, hb2⟩
      case measure => simp [intOf]; omega
    · obtain rfl : k = n := by omega
      go_wp2
      go_ret
      exact ⟨_, rfl, hown, hbw⟩

end Go.Proofs.Ytjbjkfahfjoigaa
namespace Go.Proofs.Ytjbjkfahfjoigaa
open Go.RowKit Go.Sort
def ixP (p : Int → Bool) : List Int → Nat → Int
  | [], _ => -1
  | x :: r, k => if p x = true then (k : Int) else ixP p r (k + 1)
theorem ixP_any (p : Int → Bool) : ∀ (l : List Int) (k : Nat), decide (0 ≤ ixP p l k) = l.any p
  | [], k => by simp [ixP]
  | x :: r, k => by
    unfold ixP
    by_cases h : p x = true
    · rw [if_pos h]; simp [h]
    · rw [if_neg h, ixP_any p r (k + 1)]; simp [h]
theorem ixP_step {p : Int → Bool} {l : List Int} {k : Nat} (h : k < l.length) : ixP p (l.drop k) k = if p l[k] = true then (k : Int) else ixP p (l.drop (k + 1)) (k + 1) := by
  rw [List.drop_eq_getElem_cons h]; rfl
theorem ixP_bd (p : Int → Bool) : ∀ (l : List Int) (k : Nat), -1 ≤ ixP p l k ∧ ixP p l k < k + l.length
  | [], k => by simp [ixP]; omega
  | x :: r, k => by
    unfold ixP
    have := ixP_bd p r (k + 1)
    split
    · simp; omega
    · simp at this ⊢; omega

def ixRow (p : List Int → Bool) : List (List Int) → Nat → Int
  | [], _ => -1
  | x :: r, k => if p x = true then (k : Int) else ixRow p r (k + 1)
theorem ixRow_any (p : List Int → Bool) : ∀ (l : List (List Int)) (k : Nat), decide (0 ≤ ixRow p l k) = l.any p
  | [], k => by simp [ixRow]
  | x :: r, k => by
    unfold ixRow
    by_cases h : p x = true
    · rw [if_pos h]; simp [h]
    · rw [if_neg h, ixRow_any p r (k + 1)]; simp [h]
theorem ixRow_step {p : List Int → Bool} {l : List (List Int)} {k : Nat} (h : k < l.length) : ixRow p (l.drop k) k = if p l[k] = true then (k : Int) else ixRow p (l.drop (k + 1)) (k + 1) := by
  rw [List.drop_eq_getElem_cons h]; rfl
theorem ixRow_bd (p : List Int → Bool) : ∀ (l : List (List Int)) (k : Nat), -1 ≤ ixRow p l k ∧ ixRow p l k < k + l.length
  | [], k => by simp [ixRow]; omega
  | x :: r, k => by
    unfold ixRow
    have := ixRow_bd p r (k + 1)
    split
    · simp; omega
    · simp at this ⊢; omega
end Go.Proofs.Ytjbjkfahfjoigaa
namespace Go.Proofs.Ytjbjkfahfjoigaa
open Go.RowKit Go.Sort
end Go.Proofs.Ytjbjkfahfjoigaa
namespace Go.Proofs.Ytjbjkfahfjoigaa
open Go.RowKit Go.Sort
def graphV (n : Int) (v : Value) : Value := .agg #[.int .i64 n, v]
set_option maxHeartbeats 400000 in
theorem szGraph_any {u : Value} {xss : List (List Int)} (n l : Int) (w : World) (ha : SlII w u xss) (h0 : 0 ≤ l) (h1 : l ≤ 1048576) :
    Calls Try.prog 10 #[.agg #[.int .i64 n, u], .int .i64 l] w fun e w' => e = .returned (.int .i64 (szII l xss)) ∧ Below w.heap.size w w' := by
  have hr := szII_range l xss h1
  obtain ⟨a, ca, us, rfl, hca, hca', hul, hrd, hrow⟩ := ha
  have ha : ∀ u : World, Below w.heap.size w u → SlII u (.slice a xss.length ca) xss := fun u hb => SlII.below ⟨a, ca, us, rfl, hca, hca', hul, hrd, hrow⟩ hb
  have HA := Lib.hid ha
  clear ha hca hca' hul hrd hrow
  go_enter Try.func10, Try.ntmps10
  go_wp2_with fail
  refine (szInt64SS_any l _ (HA.out _ ((Below.refl _ _).alloc (Nat.le_refl _) _)) h0 h1).mono ?_
  rintro e w1 ⟨rfl, b1⟩
  generalize hz : szII l xss = q at hr ⊢
  have HZ := Lib.hid hz
  clear hz
  by_cases hq : q < 0
  · obtain rfl : q = -1 := by omega
    go_wp2
    go_ret
    exact ⟨ri HZ.out.symm, ((Below.refl _ _).alloc (Nat.le_refl _) _).trans (b1.mono (by simp))⟩
  · go_wp2
    go_ret
    exact ⟨ri HZ.out.symm, ((Below.refl _ _).alloc (Nat.le_refl _) _).trans (b1.mono (by simp))⟩
set_option maxHeartbeats 400000 in
theorem toGraph_any {u : Value} {xss : List (List Int)} (n : Int) (w : World) (ha : SlII w u xss) (hl : xss.length ≤ 1048576) (hrl : ∀ r ∈ xss, r.length ≤ 1048576) :
    Calls Try.prog 12 #[.agg #[.int .i64 n, u]] w fun e w' => ∃ v, e = .returned (.agg #[.int .i64 n, v]) ∧ OwnII w' w.heap.size v xss ∧ Below w.heap.size w w' := by
  obtain ⟨a, ca, us, rfl, hca, hca', hul, hrd, hrow⟩ := ha
  have ha : ∀ u : World, Below w.heap.size w u → SlII u (.slice a xss.length ca) xss := fun u hb => SlII.below ⟨a, ca, us, rfl, hca, hca', hul, hrd, hrow⟩ hb
  have HA := Lib.hid ha
  have HL := Lib.hid hrl
  clear ha hca hca' hul hrd hrow hrl
  go_enter Try.func12, Try.ntmps12
  go_wp2_with fail
  refine (toInt64SS_any _ (HA.out _ ((((Below.refl _ _).alloc (Nat.le_refl _) _).alloc (by simp) _).alloc (by simp <;> omega) _)) hl HL.out).mono ?_
  rintro e w1 ⟨v, rfl, hv, b1⟩
  obtain ⟨ad, cc, _, rfl, _⟩ := id hv.sl
  have c2 := b1.cell (p := ⟨w.heap.size + 1 + 1, 0, none⟩) (by simp)
  have c3 := b1.cell (p := ⟨w.heap.size + 1 + 1, 1, none⟩) (by simp)
  have f3 := b1.frozen (p := ⟨w.heap.size + 1 + 1, 1, none⟩) (by simp)
  have d0 := b1.cell (p := ⟨w.heap.size + 1, 0, none⟩) (by simp)
  have d1 := b1.cell (p := ⟨w.heap.size + 1, 1, none⟩) (by simp)
  have e0 := b1.frozen (p := ⟨w.heap.size + 1, 0, none⟩) (by simp)
  have e1 := b1.frozen (p := ⟨w.heap.size + 1, 1, none⟩) (by simp)
  simp [go_sem] at c2 c3 f3 d0 d1 e0 e1
  have z1 := b1.size
  simp at z1
  go_wp2
  refine bodyPost_ret (v := .agg #[.int .i64 n, .slice ad xss.length cc]) (by simp [results, Try.results12, go_sem, d0, d1]) rfl ⟨_, rfl, ?_, ?_⟩
  · exact (((hv.setCell (by simp) _).setCell (by simp <;> omega) _).setCell (by simp <;> omega) _).lower (by simp <;> omega)
  · exact (((((((Below.refl _ _).alloc (Nat.le_refl _) _).alloc (by simp) _).alloc (by simp <;> omega) _).trans (b1.mono (by simp <;> omega))).setCell (by simp <;> omega) _).setCell (by simp) _).setCell (by simp) _
set_option maxHeartbeats 400000 in
theorem eqGraph_any {u v : Value} {xss yss : List (List Int)} (n m : Int) (w : World) (ha : SlII w u xss) (hb : SlII w v yss) :
    Calls Try.prog 14 #[.agg #[.int .i64 n, u], .agg #[.int .i64 m, v]] w fun e w' => e = .returned (.bool (decide (n = m) && decide (xss = yss))) ∧ Below w.heap.size w w' := by
  obtain ⟨a, ca, h1⟩ := id ha
  obtain ⟨b, cb, h2⟩ := id hb
  obtain ⟨us, rfl, _⟩ := h1
  obtain ⟨vs, rfl, _⟩ := h2
  have HA := Lib.hid ha
  have HB := Lib.hid hb
  clear ha hb
  by_cases hn : n = m
  · subst hn
    have ht : (n != n) = false := by simp
    go_enter Try.func14, Try.ntmps14
    go_wp2_with fail
    have bb := ((Below.refl w.heap.size w).alloc (Nat.le_refl _) (.cells #[.int .i64 n, .slice a xss.length ca] 35)).alloc (by simp) (.cells #[.int .i64 n, .slice b yss.length cb] 35)
    refine (eqInt64SS_any _ (HA.out.below bb) (HB.out.below bb)).mono ?_
    rintro e w1 ⟨rfl, b1⟩
    generalize hd : decide (xss = yss) = d
    have HD := Lib.hid hd
    clear hd
    cases d
    · go_wp2
      go_ret
      exact ⟨rb (by rw [HD.out]; simp), bb.trans (b1.mono (by simp <;> omega))⟩
    · go_wp2
      go_ret
      exact ⟨rb (by rw [HD.out]; simp), bb.trans (b1.mono (by simp <;> omega))⟩
  · have ht : (n != m) = true := by simp [hn]
    have HN := Lib.hid hn
    clear hn
    go_enter Try.func14, Try.ntmps14
    go_wp2
    go_ret
    exact ⟨rb (by simp [HN.out]), ((Below.refl _ _).alloc (Nat.le_refl _) _).alloc (by simp) _⟩
end Go.Proofs.Ytjbjkfahfjoigaa
