/-
  The law package's own helpers on [][]int64: counted, copied, equal.
-/
import Derived.Test.YtmhpbkckmjdojaaBase
import Derived.Test.YtmhpbkckmjdojaaLibII
import Derived.Lib.QuietBelow
namespace Go.Proofs.Ytmhpbkckmjdojaa
open Go.RowKit Go.Sort

def sz1 (l : Int) (n : Nat) : Int := if l - n < 0 then -1 else l - n
def szRows : Int → List (List Int) → Int
  | l, [] => l
  | l, r :: rs => if sz1 l r.length < 0 then -1 else szRows (sz1 l r.length) rs
def szII (l : Int) (xss : List (List Int)) : Int := if l - xss.length < 0 then -1 else szRows (l - xss.length) xss
theorem sz1_le {l : Int} {n : Nat} : sz1 l n ≤ l ∨ sz1 l n = -1 := by unfold sz1; split <;> omega
theorem szRows_nonneg : ∀ {xss : List (List Int)} {l : Int}, 0 ≤ szRows l xss → 0 ≤ l ∧ szRows l xss ≤ l ∧ ∀ r ∈ xss, (r.length : Int) ≤ l
  | [], l, h => ⟨h, Int.le_refl _, by simp⟩
  | r :: rs, l, h => by
    unfold szRows at h ⊢
    by_cases h1 : sz1 l r.length < 0
    · rw [if_pos h1] at h; omega
    · rw [if_neg h1] at h ⊢
      obtain ⟨h2, h3, h4⟩ := szRows_nonneg h
      have h5 : sz1 l r.length = l - r.length := by unfold sz1 at h1 ⊢; split <;> simp_all
      refine ⟨by omega, by omega, fun x hx => ?_⟩
      simp at hx
      rcases hx with rfl | hx
      · omega
      · have := h4 x hx; omega
theorem szII_nonneg {xss : List (List Int)} {l : Int} (h : 0 ≤ szII l xss) : (xss.length : Int) ≤ l ∧ szII l xss ≤ l ∧ ∀ r ∈ xss, (r.length : Int) ≤ l := by
  unfold szII at h ⊢
  split at h
  · omega
  · rename_i h1
    rw [if_neg h1]
    obtain ⟨h2, h3, h4⟩ := szRows_nonneg h
    exact ⟨by omega, by omega, fun r hr => by have := h4 r hr; omega⟩
theorem szII_range (l : Int) (xss : List (List Int)) (h : l ≤ 1048576) : -1 ≤ szII l xss ∧ szII l xss ≤ 1048576 := by
  have key : ∀ (xss : List (List Int)) (l : Int), 0 ≤ l → l ≤ 1048576 → -1 ≤ szRows l xss ∧ szRows l xss ≤ 1048576 := by
    intro xss
    induction xss with
    | nil => intro l h0 h1; unfold szRows; omega
    | cons r rs ih =>
      intro l h0 h1
      unfold szRows
      split
      · omega
      · rename_i h2
        have h5 : sz1 l r.length = l - r.length := by unfold sz1 at h2 ⊢; split <;> simp_all
        exact ih _ (by omega) (by omega)
  unfold szII
  split
  · omega
  · exact key _ _ (by omega) (by omega)
theorem SlII.row {w : World} {ad : Option Addr} {vs : List Value} {xss : List (List Int)} (hl : vs.length = xss.length) (h : Rd w ad vs) (hr : ∀ (i : Nat) (hi : i < xss.length) u, vs[i]? = some u → SlI w u xss[i]) {k : Nat} (hk : k < xss.length) :
    ∃ u b off, ad = some ⟨b, off, none⟩ ∧ w.cell? ⟨b, off + k, none⟩ = some u ∧ SlI w u xss[k] := by
  obtain ⟨b, off, h1, h2⟩ := h.one (List.getElem?_eq_getElem (by omega : k < vs.length))
  exact ⟨_, b, off, h1, h2, hr k hk _ (List.getElem?_eq_getElem (by omega))⟩

set_option maxHeartbeats 400000 in
theorem szInt64S_any {u : Value} {xs : List Int} (l : Int) (w : World) (ha : SlI w u xs) (h0 : 0 ≤ l) (h1 : l ≤ 1048576) :
    Calls Try.prog 45 #[u, .int .i64 l] w fun e w' => e = .returned (.int .i64 (sz1 l xs.length)) ∧ w = w' := by
  obtain ⟨a, ca, rfl, hca, hca', ha⟩ := ha
  unfold maxLen at hca'
  by_cases h : l - xs.length < 0
  · have hs : Hid (sz1 l xs.length = -1) := by unfold Hid sz1; rw [if_pos h]
    go_enter Try.func45, Try.ntmps45
    go_wp2
    go_ret
    exact ⟨ri hs.out.symm, rfl⟩
  · have hs : Hid (sz1 l xs.length = l - xs.length) := by unfold Hid sz1; rw [if_neg h]
    go_enter Try.func45, Try.ntmps45
    go_wp2
    go_ret
    exact ⟨ri hs.out.symm, rfl⟩

set_option maxHeartbeats 800000 in
theorem szInt64SS_any {u : Value} {xss : List (List Int)} (l : Int) (w : World) (ha : SlII w u xss) (h0 : 0 ≤ l) (h1 : l ≤ 1048576) :
    Calls Try.prog 23 #[u, .int .i64 l] w fun e w' => e = .returned (.int .i64 (szII l xss)) ∧ Below w.heap.size w w' := by
  obtain ⟨a, ca, vs, rfl, hca, hca', hvl, hrd, hrows⟩ := ha
  unfold maxLen at hca'
  by_cases h : l - xss.length < 0
  · have hs : Hid (szII l xss = -1) := by unfold Hid szII; rw [if_pos h]
    clear hrd hrows
    have HV := Lib.hid hvl
    clear hvl
    go_enter Try.func23, Try.ntmps23
    go_wp2
    go_ret
    exact ⟨ri hs.out.symm, Below.refl _ _⟩
  · have hs : Hid (szII l xss = szRows (l - xss.length) xss) := by unfold Hid szII; rw [if_neg h]
    have HV := Lib.hid hvl
    have HR := Lib.hid hrows
    clear hvl hrows
    go_enter Try.func23, Try.ntmps23
    go_wp2
    go_loopw [1, 5] (fun q i wr => ∃ (k : Nat) (m : Int), k ≤ xss.length ∧ i = .int .i64 k ∧ q = .int .i64 m ∧ 0 ≤ m ∧ m ≤ 1048576 ∧ szII l xss = szRows m (xss.drop k) ∧ Below w.heap.size w wr) (fun _ i _ => xss.length - (intOf i).toNat)
    case atStart => exact ⟨0, _, Nat.zero_le _, rfl, rfl, by omega, by omega, by rw [hs.out]; rfl, Below.refl _ _⟩
    case round =>
      obtain ⟨k, m, hk, rfl, rfl, hm0, hm1, hsz, hbw⟩ := hrel
      have HS := Lib.hid hsz
      clear hsz
      by_cases hlt : k < xss.length
      · obtain ⟨x, b, off, rfl, hc, hx⟩ := SlII.row (HV.out) (hrd.below hbw) (fun i hi u hu => (HR.out i hi u hu).below hbw) hlt
        have hstep : szRows m (xss.drop k) = if sz1 m xss[k].length < 0 then -1 else szRows (sz1 m xss[k].length) (xss.drop (k+1)) := by rw [List.drop_eq_getElem_cons hlt]; rfl
        have HT := Lib.hid hstep
        clear hstep hrd
        generalize hq : sz1 m xss[k].length = q at HT
        have hqb : q ≤ m ∨ q = -1 := by rw [← hq]; exact sz1_le
        have HQ := Lib.hid hq
        clear hq
        by_cases hneg : q < 0
        · go_wp2_with (go_at_call 45; refine (szInt64S_any m _ hx hm0 hm1).mono ?_; rintro e w' ⟨rfl, rfl⟩; rw [HQ.out])
          go_ret
          exact ⟨ri (by rw [HS.out, HT.out, if_pos hneg]), hbw⟩
        · go_wp2_with (go_at_call 45; refine (szInt64S_any m _ hx hm0 hm1).mono ?_; rintro e w' ⟨rfl, rfl⟩; rw [HQ.out])
          go_roundw
          case rel => exact ⟨k + 1, q, by omega, by go_num, rfl, by omega, by omega, by rw [HS.out, HT.out, if_neg (by omega)], hbw⟩
          case measure => simp [intOf]; omega
      · obtain rfl : k = xss.length := by omega
        go_wp2
        go_ret
        exact ⟨ri (by rw [HS.out]; simp [szRows]), hbw⟩

set_option maxHeartbeats 800000 in
theorem eqInt64SS_any {u v : Value} {xss yss : List (List Int)} (w : World) (ha : SlII w u xss) (hb : SlII w v yss) :
    Calls Try.prog 11 #[u, v] w fun e w' => e = .returned (.bool (decide (xss = yss))) ∧ Below w.heap.size w w' := by
  obtain ⟨a, ca, us, rfl, hca, hca', hul, hrda, hrowa⟩ := ha
  obtain ⟨b, cb, vs, rfl, hcb, hcb', hvl, hrdb, hrowb⟩ := hb
  unfold maxLen at hca' hcb'
  have hm : xss.length ≤ 9223372036854775807 := by omega
  have hn : yss.length ≤ 9223372036854775807 := by omega
  have HU := Lib.hid hul
  have HV := Lib.hid hvl
  have HA := Lib.hid hrowa
  have HB := Lib.hid hrowb
  clear hca hca' hcb hcb' hul hvl hrowa hrowb
  by_cases hl : xss.length = yss.length
  · have HL := Lib.hid hl
    clear hl
    have h1 : ((xss.length : Int) != (yss.length : Int)) = false := by simp [HL.out]
    go_enter Try.func11, Try.ntmps11
    go_wp2
    go_loopw [5] (fun i wr => ∃ k : Nat, k ≤ xss.length ∧ i = .int .i64 k ∧ xss.take k = yss.take k ∧ Below w.heap.size w wr) (fun i _ => xss.length - (intOf i).toNat)
    case atStart => exact ⟨0, Nat.zero_le _, rfl, rfl, Below.refl _ _⟩
    case round =>
      obtain ⟨k, hk, rfl, ht, hbw⟩ := hrel
      have HT := Lib.hid ht
      clear ht
      by_cases hlt : k < xss.length
      · have hj : k < yss.length := by rw [← HL.out]; exact hlt
        obtain ⟨x, ba, oa, rfl, ga, sx⟩ := SlII.row HU.out (hrda.below hbw) (fun i hi u hu => (HA.out i hi u hu).below hbw) hlt
        obtain ⟨y, bb, ob, rfl, gb, sy⟩ := SlII.row HV.out (hrdb.below hbw) (fun i hi u hu => (HB.out i hi u hu).below hbw) hj
        have ka := fun d os => cell_regrown ga d os
        have kb := fun d os => cell_regrown gb d os
        have i0 : (0 : Int) ≤ (k : Int) := by omega
        have i1 : (k : Int) < (xss.length : Int) := by omega
        have i2 : (k : Int) < (yss.length : Int) := by omega
        clear hrda hrdb ga gb
        go_wp2_with fail
        refine wp_region_quiet_below (by kernel_rfl) (by kernel_rfl) ?_
        repeat (quiet_step (exact Calls.regrown_of (eqInt64S_any _ (sx.below (below_regrown _ _ _)) (sy.below (below_regrown _ _ _)))))
        refine wpQuiet_nil ?_
        intro _ hw'
        obtain ⟨⟨dq, osq⟩, hw''⟩ := hw'
        subst hw''
        have bq := hbw.trans ((below_regrown wr dq osq).mono hbw.size)
        clear ka kb
        generalize hd : decide (xss[k] = yss[k]) = d
        have HE := Lib.hid hd
        clear hd
        cases d
        · go_wp2
          go_ret
          exact ⟨rb (by symm; simp; intro e; subst e; have := HE.out; simp at this), bq⟩
        · go_wp2
          go_roundw
          case rel => exact ⟨k + 1, by omega, by go_num, by rw [List.take_succ_eq_append_getElem hlt, List.take_succ_eq_append_getElem hj, HT.out, of_decide_eq_true HE.out], bq⟩
          case measure => simp [intOf]; omega
      · have ht := HT.out
        clear hrda hrdb
        go_wp2
        go_ret
        exact ⟨rb (by symm; simp; rw [List.take_of_length_le (by omega), List.take_of_length_le (by rw [← HL.out]; omega)] at ht; exact ht), hbw⟩
  · have h1 : ((xss.length : Int) != (yss.length : Int)) = true := by simp; omega
    have HL := Lib.hid hl
    clear hl hrda hrdb
    go_enter Try.func11, Try.ntmps11
    go_wp2
    go_ret
    exact ⟨rb (by symm; simp; intro h; exact HL.out (by rw [h])), Below.refl _ _⟩

theorem fillg {α : Type} {xs : List α} {z : α} {k : Nat} (h : k < xs.length) : (xs.take k ++ List.replicate (xs.length - k) z).set k xs[k] = xs.take (k+1) ++ List.replicate (xs.length - (k+1)) z := by
  rw [List.set_append_right _ _ (by simp; omega), List.take_succ_eq_append_getElem h, List.append_assoc]
  congr 1
  have e : xs.length - k = (xs.length - (k+1)) + 1 := by omega
  have e2 : k - (xs.take k).length = 0 := by simp; omega
  rw [e, e2, List.replicate_succ, List.set_cons_zero]; rfl
theorem Rows2.nils (w : World) (base n : Nat) : Rows2 w base (List.replicate n (.slice none 0 0)) (List.replicate n []) := by
  refine ⟨by simp, fun i u xs hu hx => ?_, fun i j u v g _ hu hv hg => ?_⟩
  · rw [List.getElem?_replicate] at hu hx
    split at hu
    · rename_i h
      rw [if_pos h] at hx
      simp at hu hx; subst hu hx; exact OwnI.nil _ _
    · simp at hu
  · rw [List.getElem?_replicate] at hu
    split at hu
    · simp at hu; subst hu; simp [Value.ownBlock] at hg
    · simp at hu
/-- storing a new row -/
theorem rows_store {w w1 : World} {base g n c : Nat} {vs : List Value} {xss : List (List Int)} {u : Value} {xs : List Int} (k : Nat)
    (h1 : w.ownsRow base 25 1 (.slice (some ⟨g, 0, none⟩) n c) n vs) (h2 : Rows2 w base vs xss) (hbase : base ≤ w.heap.size) (hu : OwnI w1 w.heap.size u xs) (hb : Below w.heap.size w w1) :
    (w1.setCell ⟨g, k, none⟩ u).ownsRow base 25 1 (.slice (some ⟨g, 0, none⟩) n c) n (vs.set k u) ∧ Rows2 (w1.setCell ⟨g, k, none⟩ u) base (vs.set k u) (xss.set k xs) := by
  have h3 := ownsRow_below h1 hb
  have h4 := World.ownsRow.stored h3 k u
  refine ⟨h4.1, ?_⟩
  have h5 : Rows2 w1 base (vs.set k u) (xss.set k xs) := Rows2.set (B := w.heap.size) (h2.below hb) (hu.lower hbase) (fun i v g hv hg => (h2.lt i v g hv hg).2) (fun g hg => (hu.lt g hg).1)
  exact h5.kept h3 h4.2

set_option maxHeartbeats 800000 in
theorem toInt64SS_any {u : Value} {xss : List (List Int)} (w : World) (ha : SlII w u xss) (hl : xss.length ≤ 1048576) (hrl : ∀ r ∈ xss, r.length ≤ 1048576) :
    Calls Try.prog 27 #[u] w fun e w' => ∃ v, e = .returned v ∧ OwnII w' w.heap.size v xss ∧ Below w.heap.size w w' := by
  obtain ⟨a, ca, us, rfl, hca, hca', hul, hrd, hrow⟩ := ha
  have HU := Lib.hid hul
  have HR := Lib.hid hrow
  have HL := Lib.hid hrl
  clear hca hca' hul hrow hrl
  go_enter Try.func27, Try.ntmps27
  go_wp2_with (at_make; refine make_one tI64S rfl w _ _ rfl rfl xss.length rfl rfl rfl rfl (by omega) ?_)
  intro w1 hown hb1 hsz
  go_wp2
  go_loopw [4] (fun i wr => ∃ (k : Nat) (vs : List Value), k ≤ xss.length ∧ i = .int .i64 k ∧ wr.ownsRow w.heap.size 25 1 (.slice (some ⟨w.heap.size, 0, none⟩) xss.length xss.length) xss.length vs ∧ Rows2 wr w.heap.size vs (xss.take k ++ List.replicate (xss.length - k) []) ∧ Below w.heap.size w wr) (fun i _ => xss.length - (intOf i).toNat)
  case atStart => exact ⟨0, _, Nat.zero_le _, rfl, hown, by simpa using Rows2.nils _ _ _, hb1⟩
  case round =>
    clear hown hb1
    obtain ⟨k, vs, hk, rfl, hown, hrows, hbw⟩ := hrel
    by_cases hlt : k < xss.length
    · obtain ⟨x, ba, oa, rfl, ga, sx⟩ := SlII.row HU.out (hrd.below hbw) (fun i hi u hu => (HR.out i hi u hu).below hbw) hlt
      have hxl : xss[k].length ≤ 1048576 := HL.out _ (List.getElem_mem hlt)
      clear hrd
      go_wp2_with fail
      refine (toInt64S_any _ sx hxl).mono ?_
      rintro e w2 ⟨u, rfl, hu, b2⟩
      obtain ⟨ad2, cc2, rfl, _, _, _⟩ := id hu.sl
      have hst := rows_store k hown hrows hbw.size hu b2
      rw [fillg hlt] at hst
      have gf := World.ownsRow.frozenAt (ownsRow_below hown b2) k
      have gc := World.ownsRow.cellAt (ownsRow_below hown b2) k (by omega)
      have hvl : k < vs.length := by have := hown.1; omega
      rw [List.getElem?_eq_getElem hvl] at gc
      have bb := hbw.trans (b2.mono hbw.size)
      have HST := Lib.hid hst
      have hi0 : (k : Int) < (xss.length : Int) := by omega
      clear hst hown hrows hu b2 hbw
      go_wp2
      go_roundw
      case rel => exact ⟨k + 1, _, by omega, by go_num, HST.out.1, HST.out.2, bb.setCell (by simp) _⟩
      case measure => simp [intOf]; omega
    · obtain rfl : k = xss.length := by omega
      go_wp2
      go_ret
      exact ⟨_, rfl, ⟨vs, hown, by simpa using hrows⟩, hbw⟩
end Go.Proofs.Ytmhpbkckmjdojaa
