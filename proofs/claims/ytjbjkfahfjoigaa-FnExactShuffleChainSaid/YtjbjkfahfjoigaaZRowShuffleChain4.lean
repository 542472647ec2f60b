/-
  One step by a draw: the reference's and the program's. With it: The law package's own helpers on [][]int64: counted, copied, equal. Decks: all orders of few cards, as the reference lists them; the place of a deck among them. Graphs: copied, counted, compared. SameGraph, both. Rising runs: a deck's place among all, its runs, both sides. Which chains are valid: the reference's look and the program's. Which chains are valid: the program's look.
-/
import Derived.Test.YtjbjkfahfjoigaaZRowShuffleChain3
import Derived.Lib.QuietBelow
set_option linter.unusedVariables false
set_option linter.unusedSimpArgs false
namespace Go.Proofs.Ytjbjkfahfjoigaa
open Go.RowKit Go.Sort

def sz1 (l : Int) (n : Nat) : Int := if l - n < 0 then -1 else l - n
def szRows : Int → List (List Int) → Int
  | l, [] => l
  | l, r :: rs => if sz1 l r.length < 0 then -1 else szRows (sz1 l r.length) rs
def szII (l : Int) (xss : List (List Int)) : Int := if l - xss.length < 0 then -1 else szRows (l - xss.length) xss
theorem sz1_le {l : Int} {n : Nat} : sz1 l n ≤ l ∨ sz1 l n = -1 := by unfold sz1; split <;> omega
theorem szRows_nonneg : ∀ {xss : List (List Int)} {l : Int}, 0 ≤ szRows l xss → 0 ≤ l ∧ szRows l xss ≤ l ∧ ∀ r ∈ xss, (r.length : Int) ≤ l
  | [], l, h => ⟨h, Int.le_refl _, by simp⟩
  | r :: rs, l, h => by
    unfold szRows at h ⊢
    by_cases h1 : sz1 l r.length < 0
    · rw [if_pos h1] at h; omega
    · rw [if_neg h1] at h ⊢
      obtain ⟨h2, h3, h4⟩ := szRows_nonneg h
      have h5 : sz1 l r.length = l - r.length := by unfold sz1 at h1 ⊢; split <;> simp_all
      refine ⟨by omega, by omega, fun x hx => ?_⟩
      simp at hx
      rcases hx with rfl | hx
      · omega
      · have := h4 x hx; omega
theorem szII_nonneg {xss : List (List Int)} {l : Int} (h : 0 ≤ szII l xss) : (xss.length : Int) ≤ l ∧ szII l xss ≤ l ∧ ∀ r ∈ xss, (r.length : Int) ≤ l := by
  unfold szII at h ⊢
  split at h
  · omega
  · rename_i h1
    rw [if_neg h1]
    obtain ⟨h2, h3, h4⟩ := szRows_nonneg h
    exact ⟨by omega, by omega, fun r hr => by have := h4 r hr; omega⟩
theorem szII_range (l : Int) (xss : List (List Int)) (h : l ≤ 1048576) : -1 ≤ szII l xss ∧ szII l xss ≤ 1048576 := by
  have key : ∀ (xss : List (List Int)) (l : Int), 0 ≤ l → l ≤ 1048576 → -1 ≤ szRows l xss ∧ szRows l xss ≤ 1048576 := by
    intro xss
    induction xss with
    | nil => intro l h0 h1; unfold szRows; omega
    | cons r rs ih =>
      intro l h0 h1
      unfold szRows
      split
      · omega
      · rename_i h2
        have h5 : sz1 l r.length = l - r.length := by unfold sz1 at h2 ⊢; split <;> simp_all
        exact ih _ (by omega) (by omega)
  unfold szII
  split
  · omega
  · exact key _ _ (by omega) (by omega)
theorem SlII.row {w : World} {ad : Option Addr} {vs : List Value} {xss : List (List Int)} (hl : vs.length = xss.length) (h : Rd w ad vs) (hr : ∀ (i : Nat) (hi : i < xss.length) u, vs[i]? = some u → SlI w u xss[i]) {k : Nat} (hk : k < xss.length) :
    ∃ u b off, ad = some ⟨b, off, none⟩ ∧ w.cell? ⟨b, off + k, none⟩ = some u ∧ SlI w u xss[k] := by
  obtain ⟨b, off, h1, h2⟩ := h.one (List.getElem?_eq_getElem (by omega : k < vs.length))
  exact ⟨_, b, off, h1, h2, hr k hk _ (List.getElem?_eq_getElem (by omega))⟩

set_option maxHeartbeats 400000 in
theorem szInt64S_any {u : Value} {xs : List Int} (l : Int) (w : World) (ha : SlI w u xs) (h0 : 0 ≤ l) (h1 : l ≤ 1048576) :
    Calls Try.prog 56 #[u, .int .i64 l] w fun e w' => e = .returned (.int .i64 (sz1 l xs.length)) ∧ w = w' := by
  obtain ⟨a, ca, rfl, hca, hca', ha⟩ := ha
  unfold maxLen at hca'
  by_cases h : l - xs.length < 0
  · have hs : Hid (sz1 l xs.length = -1) := by unfold Hid sz1; rw [if_pos h]
    go_enter Try.func56, Try.ntmps56
    go_wp2
    go_ret
    exact ⟨ri hs.out.symm, rfl⟩
  · have hs : Hid (sz1 l xs.length = l - xs.length) := by unfold Hid sz1; rw [if_neg h]
    go_enter Try.func56, Try.ntmps56
    go_wp2
    go_ret
    exact ⟨ri hs.out.symm, rfl⟩

set_option maxHeartbeats 800000 in
theorem szInt64SS_any {u : Value} {xss : List (List Int)} (l : Int) (w : World) (ha : SlII w u xss) (h0 : 0 ≤ l) (h1 : l ≤ 1048576) :
    Calls Try.prog 26 #[u, .int .i64 l] w fun e w' => e = .returned (.int .i64 (szII l xss)) ∧ Below w.heap.size w w' := by
  obtain ⟨a, ca, vs, rfl, hca, hca', hvl, hrd, hrows⟩ := ha
  unfold maxLen at hca'
  by_cases h : l - xss.length < 0
  · have hs : Hid (szII l xss = -1) := by unfold Hid szII; rw [if_pos h]
    clear hrd hrows
    have HV := Lib.hid hvl
    clear hvl
    go_enter Try.func26, Try.ntmps26
    go_wp2
    go_ret
    exact ⟨ri hs.out.symm, Below.refl _ _⟩
  · have hs : Hid (szII l xss = szRows (l - xss.length) xss) := by unfold Hid szII; rw [if_neg h]
    have HV := Lib.hid hvl
    have HR := Lib.hid hrows
    clear hvl hrows
    go_enter Try.func26, Try.ntmps26
    go_wp2
    go_loopw [1, 5] (fun q i wr => ∃ (k : Nat) (m : Int), k ≤ xss.length ∧ i = .int .i64 k ∧ q = .int .i64 m ∧ 0 ≤ m ∧ m ≤ 1048576 ∧ szII l xss = szRows m (xss.drop k) ∧ Below w.heap.size w wr) (fun _ i _ => xss.length - (intOf i).toNat)
    case atStart => exact ⟨0, _, Nat.zero_le _, rfl, rfl, by omega, by omega, by rw [hs.out]; rfl, Below.refl _ _⟩
    case round =>
      obtain ⟨k, m, hk, rfl, rfl, hm0, hm1, hsz, hbw⟩ := hrel
      have HS := Lib.hid hsz
      clear hsz
      by_cases hlt : k < xss.length
      · obtain ⟨x, b, off, rfl, hc, hx⟩ := SlII.row (HV.out) (hrd.below hbw) (fun i hi u hu => (HR.out i hi u hu).below hbw) hlt
        have hstep : szRows m (xss.drop k) = if sz1 m xss[k].length < 0 then -1 else szRows (sz1 m xss[k].length) (xss.drop (k+1)) := by rw [List.drop_eq_getElem_cons hlt]; rfl
        have HT := Lib.hid hstep
        clear hstep hrd
        generalize hq : sz1 m xss[k].length = q at HT
        have hqb : q ≤ m ∨ q = -1 := by rw [← hq]; exact sz1_le
        have HQ := Lib.hid hq
        clear hq
        by_cases hneg : q < 0
        · go_wp2_with (go_at_call 56; refine (szInt64S_any m _ hx hm0 hm1).mono ?_; rintro e w' ⟨rfl, rfl⟩; rw [HQ.out])
          go_ret
          exact ⟨ri (by rw [HS.out, HT.out, if_pos hneg]), hbw⟩
        · go_wp2_with (go_at_call 56; refine (szInt64S_any m _ hx hm0 hm1).mono ?_; rintro e w' ⟨rfl, rfl⟩; rw [HQ.out])
          go_roundw
          case rel => exact ⟨k + 1, q, by omega, by go_num, rfl, by omega, by omega, by rw [HS.out, HT.out, if_neg (by omega)], hbw⟩
          case measure => simp [intOf]; omega
      · obtain rfl : k = xss.length := by omega
        go_wp2
        go_ret
        exact ⟨ri (by rw [HS.out]; simp [szRows]), hbw⟩

set_option maxHeartbeats 800000 in
theorem eqInt64SS_any {u v : Value} {xss yss : List (List Int)} (w : World) (ha : SlII w u xss) (hb : SlII w v yss) :
    Calls Try.prog 23 #[u, v] w fun e w' => e = .returned (.bool (decide (xss = yss))) ∧ Below w.heap.size w w' := by
  obtain ⟨a, ca, us, rfl, hca, hca', hul, hrda, hrowa⟩ := ha
  obtain ⟨b, cb, vs, rfl, hcb, hcb', hvl, hrdb, hrowb⟩ := hb
  unfold maxLen at hca' hcb'
  have hm : xss.length ≤ 9223372036854775807 := by omega
  have hn : yss.length ≤ 9223372036854775807 := by omega
  have HU := Lib.hid hul
  have HV := Lib.hid hvl
  have HA := Lib.hid hrowa
  have HB := Lib.hid hrowb
  clear hca hca' hcb hcb' hul hvl hrowa hrowb
  by_cases hl : xss.length = yss.length
  · have HL := Lib.hid hl
    clear hl
    have h1 : ((xss.length : Int) != (yss.length : Int)) = false := by simp [HL.out]
    go_enter Try.func23, Try.ntmps23
    go_wp2
    go_loopw [5] (fun i wr => ∃ k : Nat, k ≤ xss.length ∧ i = .int .i64 k ∧ xss.take k = yss.take k ∧ Below w.heap.size w wr) (fun i _ => xss.length - (intOf i).toNat)
    case atStart => exact ⟨0, Nat.zero_le _, rfl, rfl, Below.refl _ _⟩
    case round =>
      obtain ⟨k, hk, rfl, ht, hbw⟩ := hrel
      have HT := Lib.hid ht
      clear ht
      by_cases hlt : k < xss.length
      · have hj : k < yss.length := by rw [← HL.out]; exact hlt
        obtain ⟨x, ba, oa, rfl, ga, sx⟩ := SlII.row HU.out (hrda.below hbw) (fun i hi u hu => (HA.out i hi u hu).below hbw) hlt
        obtain ⟨y, bb, ob, rfl, gb, sy⟩ := SlII.row HV.out (hrdb.below hbw) (fun i hi u hu => (HB.out i hi u hu).below hbw) hj
        have ka := fun d os => cell_regrown ga d os
        have kb := fun d os => cell_regrown gb d os
        have i0 : (0 : Int) ≤ (k : Int) := by omega
        have i1 : (k : Int) < (xss.length : Int) := by omega
        have i2 : (k : Int) < (yss.length : Int) := by omega
        clear hrda hrdb ga gb
        go_wp2_with fail
        refine wp_region_quiet_below (by kernel_rfl) (by kernel_rfl) ?_
        repeat (quiet_step (exact Calls.regrown_of (eqInt64S_any _ (sx.below (below_regrown _ _ _)) (sy.below (below_regrown _ _ _)))))
        refine wpQuiet_nil ?_
        intro _ hw'
        obtain ⟨⟨dq, osq⟩, hw''⟩ := hw'
        subst hw''
        have bq := hbw.trans ((below_regrown wr dq osq).mono hbw.size)
        clear ka kb
        generalize hd : decide (xss[k] = yss[k]) = d
        have HE := Lib.hid hd
        clear hd
        cases d
        · go_wp2
          go_ret
          exact ⟨rb (by symm; simp; intro e; subst e; have := HE.out; simp at this), bq⟩
        · go_wp2
          go_roundw
          case rel => exact ⟨k + 1, by omega, by go_num, by rw [List.take_succ_eq_append_getElem hlt, List.take_succ_eq_append_getElem hj, HT.out, of_decide_eq_true HE.out], bq⟩
          case measure => simp [intOf]; omega
      · have ht := HT.out
        clear hrda hrdb
        go_wp2
        go_ret
        exact ⟨rb (by symm; simp; rw [List.take_of_length_le (by omega), List.take_of_length_le (by rw [← HL.out]; omega)] at ht; exact ht), hbw⟩
  · have h1 : ((xss.length : Int) != (yss.length : Int)) = true := by simp; omega
    have HL := Lib.hid hl
    clear hl hrda hrdb
    go_enter Try.func23, Try.ntmps23
    go_wp2
    go_ret
    exact ⟨rb (by symm; simp; intro h; exact HL.out (by rw [h])), Below.refl _ _⟩

theorem fillg {α : Type} {xs : List α} {z : α} {k : Nat} (h : k < xs.length) : (xs.take k ++ List.replicate (xs.length - k) z).set k xs[k] = xs.take (k+1) ++ List.replicate (xs.length - (k+1)) z := by
  rw [List.set_append_right _ _ (by simp; omega), List.take_succ_eq_append_getElem h, List.append_assoc]
  congr 1
  have e : xs.length - k = (xs.length - (k+1)) + 1 := by omega
  have e2 : k - (xs.take k).length = 0 := by simp; omega
  rw [e, e2, List.replicate_succ, List.set_cons_zero]; rfl
theorem Rows2.nils (w : World) (base n : Nat) : Rows2 w base (List.replicate n (.slice none 0 0)) (List.replicate n []) := by
  refine ⟨by simp, fun i u xs hu hx => ?_, fun i j u v g _ hu hv hg => ?_⟩
  · rw [List.getElem?_replicate] at hu hx
    split at hu
    · rename_i h
      rw [if_pos h] at hx
      simp at hu hx; subst hu hx; exact OwnI.nil _ _
    · simp at hu
  · rw [List.getElem?_replicate] at hu
    split at hu
    · simp at hu; subst hu; simp [Value.ownBlock] at hg
    · simp at hu
/-- storing a new row -/
theorem rows_store {w w1 : World} {base g n c : Nat} {vs : List Value} {xss : List (List Int)} {u : Value} {xs : List Int} (k : Nat)
    (h1 : w.ownsRow base 42 1 (.slice (some ⟨g, 0, none⟩) n c) n vs) (h2 : Rows2 w base vs xss) (hbase : base ≤ w.heap.size) (hu : OwnI w1 w.heap.size u xs) (hb : Below w.heap.size w w1) :
    (w1.setCell ⟨g, k, none⟩ u).ownsRow base 42 1 (.slice (some ⟨g, 0, none⟩) n c) n (vs.set k u) ∧ Rows2 (w1.setCell ⟨g, k, none⟩ u) base (vs.set k u) (xss.set k xs) := by
  have h3 := ownsRow_below h1 hb
  have h4 := World.ownsRow.stored h3 k u
  refine ⟨h4.1, ?_⟩
  have h5 : Rows2 w1 base (vs.set k u) (xss.set k xs) := Rows2.set (B := w.heap.size) (h2.below hb) (hu.lower hbase) (fun i v g hv hg => (h2.lt i v g hv hg).2) (fun g hg => (hu.lt g hg).1)
  exact h5.kept h3 h4.2

set_option maxHeartbeats 800000 in
theorem toInt64SS_any {u : Value} {xss : List (List Int)} (w : World) (ha : SlII w u xss) (hl : xss.length ≤ 1048576) (hrl : ∀ r ∈ xss, r.length ≤ 1048576) :
    Calls Try.prog 31 #[u] w fun e w' => ∃ v, e = .returned v ∧ OwnII w' w.heap.size v xss ∧ Below w.heap.size w w' := by
  obtain ⟨a, ca, us, rfl, hca, hca', hul, hrd, hrow⟩ := ha
  have HU := Lib.hid hul
  have HR := Lib.hid hrow
  have HL := Lib.hid hrl
  clear hca hca' hul hrow hrl
  go_enter Try.func31, Try.ntmps31
  go_wp2_with (at_make; refine make_one tI64S rfl w _ _ rfl rfl xss.length rfl rfl rfl rfl (by omega) ?_)
  intro w1 hown hb1 hsz
  go_wp2
  go_loopw [4] (fun i wr => ∃ (k : Nat) (vs : List Value), k ≤ xss.length ∧ i = .int .i64 k ∧ wr.ownsRow w.heap.size 42 1 (.slice (some ⟨w.heap.size, 0, none⟩) xss.length xss.length) xss.length vs ∧ Rows2 wr w.heap.size vs (xss.take k ++ List.replicate (xss.length - k) []) ∧ Below w.heap.size w wr) (fun i _ => xss.length - (intOf i).toNat)
  case atStart => exact ⟨0, _, Nat.zero_le _, rfl, hown, by simpa using Rows2.nils _ _ _, hb1⟩
  case round =>
    clear hown hb1
    obtain ⟨k, vs, hk, rfl, hown, hrows, hbw⟩ := hrel
    by_cases hlt : k < xss.length
    · obtain ⟨x, ba, oa, rfl, ga, sx⟩ := SlII.row HU.out (hrd.below hbw) (fun i hi u hu => (HR.out i hi u hu).below hbw) hlt
      have hxl : xss[k].length ≤ 1048576 := HL.out _ (List.getElem_mem hlt)
      clear hrd
      go_wp2_with fail
      refine (toInt64S_any _ sx hxl).mono ?_
      rintro e w2 ⟨u, rfl, hu, b2⟩
      obtain ⟨ad2, cc2, rfl, _, _, _⟩ := id hu.sl
      have hst := rows_store k hown hrows hbw.size hu b2
      rw [fillg hlt] at hst
      have gf := World.ownsRow.frozenAt (ownsRow_below hown b2) k
      have gc := World.ownsRow.cellAt (ownsRow_below hown b2) k (by omega)
      have hvl : k < vs.length := by have := hown.1; omega
      rw [List.getElem?_eq_getElem hvl] at gc
      have bb := hbw.trans (b2.mono hbw.size)
      have HST := Lib.hid hst
      have hi0 : (k : Int) < (xss.length : Int) := by omega
      clear hst hown hrows hu b2 hbw
      go_wp2
      go_roundw
      case rel => exact ⟨k + 1, _, by omega, by go_num, HST.out.1, HST.out.2, bb.setCell (by simp) _⟩
      case measure => simp [intOf]; omega
    · obtain rfl : k = xss.length := by omega
      go_wp2
      go_ret
      exact ⟨_, rfl, ⟨vs, hown, by simpa using hrows⟩, hbw⟩
end Go.Proofs.Ytjbjkfahfjoigaa
namespace Go.Proofs.Ytjbjkfahfjoigaa
open Go.RowKit

/-- append(v, u) on owned rows, u a row that has been made since -/
theorem append_row {ops : Array Oper} {rest : List Oper} {o : Oper} {a : Act} {Q : Exit → Act → World → Prop} (w0 w : World) (s x : Operand) (hg : o.guard = none)
    (ho : o.op = .call { callee := .builtin .append, args := #[s, x], argTypes := #[22, 22] })
    {base : Nat} {v u : Value} {xss : List (List Int)} {xs : List Int} (hs : a.eval s = v) (hown : OwnII w0 base v xss) (hb : Below w0.heap.size w0 w) (hu : OwnI w w0.heap.size u xs) {t : Nat} (hx : a.eval x = .slice (some ⟨w.heap.size, 0, none⟩) 1 1)
    (hlen : xss.length < 16777216) (hbase : base ≤ w0.heap.size)
    (h : ∀ v' w', OwnII w' base v' (xss ++ [xs]) → Below base (w.alloc (.cells #[u] t)) w' → w.heap.size < w'.heap.size → wpList Try.prog ops Q rest (a.put o.dst v') w') : wpList Try.prog ops Q (o :: rest) a (w.alloc (.cells #[u] t)) := by
  obtain ⟨vs, h1, h2⟩ := hown
  have hlt := h2.lt
  have h1' := ownsRow_below h1 hb
  have h2' := h2.below hb
  have hu1 : u.oneCell' = true := by
    rcases hu.2 with ⟨rfl, _⟩ | ⟨g, c, cur, rfl, _⟩ <;> rfl
  refine append_one tI64S w u hu1 s x hg ho hs h1' hx hlen (Nat.le_trans hbase hb.size) (fun v' w' k1 k2 k3 k4 => ?_)
  refine h v' w' ⟨vs ++ [u], ?_, ?_⟩ k3 k4
  · rw [List.length_append]; exact k1
  · have hsn : Rows2 w base (vs ++ [u]) (xss ++ [xs]) := Rows2.snoc (B := w0.heap.size) h2' (hu.lower hbase) (fun i v g hv hg => (hlt i v g hv hg).2) (fun g hg => (hu.lt g hg).1)
    exact (hsn.below ((Below.refl _ _).alloc (Nat.le_refl _) _)).kept (h1'.alloc (.cells #[u] t)) k2

/-- the next longer decks of one -/
def extD (c : Nat) (d : List Int) : List (List Int) := ((upTo' c).filter (fun x => !decide (x ∈ d))).map (fun x => d ++ [x])
where upTo' (n : Nat) : List Int := (List.range n).map fun (i : Nat) => (i : Int)
def extN (c : Nat) (d : List Int) (x : Nat) : List (List Int) := ((extD.upTo' x).filter (fun x => !decide (x ∈ d))).map (fun x => d ++ [x])
def decksL (c : Nat) : Nat → List (List Int)
  | 0 => [[]]
  | k + 1 => (decksL c k).flatMap (extD c)
theorem extN_full (c : Nat) (d : List Int) : extN c d c = extD c d := rfl
theorem extN_zero (c : Nat) (d : List Int) : extN c d 0 = [] := rfl
theorem extN_no {c x : Nat} {d : List Int} (h : (x : Int) ∈ d) : extN c d (x + 1) = extN c d x := by
  simp [extN, extD.upTo', List.range_succ, List.filter_append, h]
theorem extN_yes {c x : Nat} {d : List Int} (h : ¬ (x : Int) ∈ d) : extN c d (x + 1) = extN c d x ++ [d ++ [(x : Int)]] := by
  simp [extN, extD.upTo', List.range_succ, List.filter_append, h]
theorem extN_length (c x : Nat) (d : List Int) : (extN c d x).length ≤ x := by
  unfold extN
  rw [List.length_map]
  refine Nat.le_trans (List.length_filter_le _ _) ?_
  simp [extD.upTo']
theorem decks_small {c k : Nat} (hc1 : 1 ≤ c) (hc : c ≤ 3) (hk : k ≤ c) : (decksL c k).length ≤ 6 ∧ ∀ d ∈ decksL c k, d.length = k := by
  have h : ∀ c, c ≤ 3 → ∀ k, k ≤ c → 1 ≤ c → ((decksL c k).length ≤ 6 ∧ ∀ d ∈ decksL c k, d.length = k) := by decide
  exact h c hc k hk hc1
theorem flat_take (l : List (List Int)) (f : List Int → List (List Int)) {i : Nat} (h : i < l.length) : (l.take (i + 1)).flatMap f = (l.take i).flatMap f ++ f l[i] := by
  rw [List.take_succ_eq_append_getElem h, List.flatMap_append]; simp
theorem flat_take_le (l : List (List Int)) (f : List Int → List (List Int)) (i : Nat) : ((l.take i).flatMap f).length ≤ (l.flatMap f).length := by
  conv => rhs; rw [← List.take_append_drop i l]
  rw [List.flatMap_append, List.length_append]; omega

set_option maxHeartbeats 400000 in
theorem l00Has_any {u : Value} {xs : List Int} (x : Int) (w : World) (ha : SlI w u xs) :
    Calls Try.prog 37 #[u, .int .i64 x] w fun e w' => e = .returned (.bool (decide (x ∈ xs))) ∧ w = w' := by
  obtain ⟨a, ca, rfl, hca, hca', ha⟩ := ha
  unfold maxLen at hca'
  go_enter Try.func37, Try.ntmps37
  go_wp2
  go_loopw [5] (fun i wr => ∃ k : Nat, k ≤ xs.length ∧ i = .int .i64 k ∧ Hid (¬ x ∈ xs.take k) ∧ wr = w) (fun i _ => xs.length - (intOf i).toNat)
  case atStart => exact ⟨0, Nat.zero_le _, rfl, by simp [Hid], rfl⟩
  case round =>
    obtain ⟨k, hk, rfl, hno, rfl⟩ := hrel
    by_cases hlt : k < xs.length
    · obtain ⟨b, off, rfl, gc⟩ := ha.one (i64s_get hlt)
      have i1 : (k : Int) < (xs.length : Int) := by omega
      by_cases he : xs[k] = x
      · have HE := Lib.hid he
        have ht : (xs[k] == x) = true := by simp [he]
        clear he
        go_wp2
        go_ret
        exact ⟨rb (by symm; simp; rw [← HE.out]; exact List.getElem_mem hlt), rfl⟩
      · have HE := Lib.hid he
        have ht : (xs[k] == x) = false := by simp [he]
        clear he
        go_wp2
        go_roundw
        case rel => exact ⟨k + 1, by omega, by go_num, by
          unfold Hid at *
          rw [List.take_succ_eq_append_getElem hlt, List.mem_append]
          rintro (h | h)
          · exact hno h
          · simp at h; exact HE h.symm, trivial⟩
        case measure => simp [intOf]; omega
    · go_wp2
      go_ret
      exact ⟨rb (by symm; simp; have := hno.out; rw [List.take_of_length_le (by omega)] at this; exact this), rfl⟩

set_option maxHeartbeats 400000 in
theorem l00Own_any {u : Value} {xs : List Int} (w : World) (ha : SlI w u xs) (hl : xs.length ≤ 1048576) :
    Calls Try.prog 38 #[u] w fun e w' => ∃ v, e = .returned v ∧ OwnI w' w.heap.size v xs ∧ Below w.heap.size w w' := by
  have bx : Below w.heap.size w (w.alloc (.cells #[] 2)) := (Below.refl _ _).alloc (Nat.le_refl _) _
  have hb := ha.below bx
  have hown := OwnI.empty w (base := w.heap.size) (Nat.le_refl _)
  obtain ⟨a, ca, rfl, _⟩ := id ha
  clear ha
  go_enter Try.func38, Try.ntmps38
  go_wp2_with (at_builtin; refine append_SlI _ _ _ rfl rfl rfl hown rfl hb (by simp; omega) (by simp) ?_)
  intro v' w1 hown1 hg1 hb1
  go_wp2
  go_ret
  exact ⟨_, rfl, hown1, bx.trans hb1⟩

theorem OwnII.one (w : World) {base : Nat} {u : Value} {xs : List Int} (hu : OwnI w base u xs) (hb : base ≤ w.heap.size) :
    OwnII (w.alloc (.cells #[u] 42)) base (.slice (some ⟨w.heap.size, 0, none⟩) 1 1) [xs] := by
  have hu1 : u.oneCell' = true := by rcases hu.2 with ⟨rfl, _⟩ | ⟨g, c, cur, rfl, _⟩ <;> rfl
  refine ⟨[u], World.ownsRow_lit (base := base) (e := 42) (size := 1) w #[u] 1 hb (by simp [maxLen]) (by simp), rfl, ?_, ?_⟩
  · intro i u' xs' h1 h2
    cases i with
    | zero => simp at h1 h2; subst h1 h2; exact hu.below ((Below.refl _ _).alloc (Nat.le_refl _) _)
    | succ i => simp at h1
  · intro i j u' v' g hij h1 h2
    cases i with
    | zero => cases j with
      | zero => exact absurd rfl hij
      | succ j => simp at h2
    | succ i => simp at h1

theorem OwnI.empty' (w : World) {base : Nat} (hb : base ≤ w.heap.size) : OwnI (w.alloc (.cells #[] 2)) base (.slice (some ⟨w.heap.size, 0, none⟩) 0 0) [] := OwnI.empty w hb

set_option maxHeartbeats 4000000 in
theorem l07Decks_any (c : Nat) (w : World) (h1 : 1 ≤ c) (h3 : c ≤ 3) :
    Calls Try.prog 16 #[.int .i64 c] w fun e w' => ∃ v, e = .returned v ∧ OwnII w' w.heap.size v (decksL c c) ∧ Below w.heap.size w w' := by
  have e0 := OwnI.empty w (base := w.heap.size) (Nat.le_refl _)
  have e1 := OwnII.one (w.alloc (.cells #[] 2)) e0 (by simp)
  rw [show (w.alloc (.cells #[] 2)).heap.size = w.heap.size + 1 by simp] at e1
  have b1 : Below w.heap.size w ((w.alloc (.cells #[] 2)).alloc (.cells #[.slice (some ⟨w.heap.size, 0, none⟩) 0 0] 42)) := ((Below.refl _ _).alloc (Nat.le_refl _) _).alloc (by simp) _
  clear e0
  go_enter Try.func16, Try.ntmps16
  go_wp2
  go_loopw [3, 4, 5, 6, 7] (fun v k _ _ _ wr => ∃ kk : Nat, kk ≤ c ∧ k = .int .i64 kk ∧ OwnII wr w.heap.size v (decksL c kk) ∧ Below w.heap.size w wr) (fun _ k _ _ _ _ => c - (intOf k).toNat)
  case atStart => exact ⟨0, Nat.zero_le _, rfl, e1, b1⟩
  case round =>
    clear e1 b1
    obtain ⟨kk, hkk, rfl, hown, hbw⟩ := hrel
    obtain ⟨wo, rfl⟩ : ∃ wo : World, wo = wr := ⟨_, rfl⟩
    by_cases hk : kk < c
    · obtain ⟨hd1, hd2⟩ := decks_small h1 h3 (k := kk) (by omega)
      have hd3 := (decks_small h1 h3 (k := kk + 1) (by omega)).1
      obtain ⟨D, hD⟩ : ∃ D, D = decksL c kk := ⟨_, rfl⟩
      have hDs : decksL c (kk + 1) = D.flatMap (extD c) := by rw [hD]; rfl
      rw [← hD] at hown hd1 hd2
      rw [hDs] at hd3
      have HDS := Lib.hid hDs
      have HD2 := Lib.hid hd2
      clear hDs hD hd2
      obtain ⟨pa, pc, pv, rfl, pl, pm, pvl, prd, prow⟩ := id hown.sl
      unfold maxLen at pm
      have HV := Lib.hid pvl
      have HR := Lib.hid prow
      clear pvl prow
      have hs0 := hbw.size
      go_wp2
      go_loopw [5, 6, 7] (fun v i _ wr => ∃ ii : Nat, ii ≤ D.length ∧ i = .int .i64 ii ∧ OwnII wr wo.heap.size v ((D.take ii).flatMap (extD c)) ∧ Below wo.heap.size wo wr) (fun _ i _ _ => D.length - (intOf i).toNat)
      case atStart => exact ⟨0, Nat.zero_le _, rfl, OwnII.empty _ (Nat.le_refl _), (Below.refl _ _).alloc (Nat.le_refl _) _⟩
      case round =>
        obtain ⟨ii, hii, rfl, hnx, hbo⟩ := hrel
        obtain ⟨wp, rfl⟩ : ∃ wp : World, wp = wr := ⟨_, rfl⟩
        by_cases hi : ii < D.length
        · have hlen := flat_take_le D (extD c) ii
          have hdl := HD2.out _ (List.getElem_mem hi)
          have hft := flat_take D (extD c) hi
          obtain ⟨d, hd⟩ : ∃ d, d = D[ii] := ⟨_, rfl⟩
          obtain ⟨L, hL⟩ : ∃ L, L = (D.take ii).flatMap (extD c) := ⟨_, rfl⟩
          rw [← hL] at hnx hlen hft
          rw [← hd] at hdl hft
          have HL := Lib.hid hL
          have HFT := Lib.hid hft
          have HDD := Lib.hid hd
          have hdl' : d.length ≤ 3 := by omega
          clear hL hft hd hdl
          go_wp2
          go_loopw [5, 7] (fun v x wr => ∃ xx : Nat, xx ≤ c ∧ x = .int .i64 xx ∧ OwnII wr wo.heap.size v (L ++ extN c d xx) ∧ Below wo.heap.size wo wr) (fun _ x _ => c - (intOf x).toNat)
          case atStart => exact ⟨0, Nat.zero_le _, rfl, by simpa [extN_zero] using hnx, hbo⟩
          case round =>
            clear hnx hbo
            obtain ⟨xx, hxx, rfl, hnx, hbr⟩ := hrel
            by_cases hx : xx < c
            · obtain ⟨u, bb, oo, rfl, hcell, hu⟩ := SlII.row HV.out (prd.below hbr) (fun i hi u hu => (HR.out i hi u hu).below hbr) hi
              rw [← HDD.out] at hu
              obtain ⟨ua, uc, rfl, _⟩ := id hu
              have i1 : (ii : Int) < (D.length : Int) := by omega
              have hel := extN_length c xx d
              have hwl := hbw.trans (hbr.mono hbw.size)
              have hws := hbr.size
              have hln2 : (L ++ extN c d xx).length < 16777216 := by rw [List.length_append]; omega
              by_cases hm : (xx : Int) ∈ d
              · have hdm : decide ((xx : Int) ∈ d) = true := by simpa using hm
                have HDM := Lib.hid hdm
                have HM := Lib.hid hm
                clear hm hdm
                go_wp2_with (go_at_call 37; refine (l00Has_any _ _ hu).mono ?_; rintro e w' ⟨rfl, rfl⟩; rw [HDM.out])
                go_roundw
                case rel => exact ⟨xx + 1, by omega, by go_num, by rw [extN_no HM.out]; exact hnx, hbr⟩
                case measure => simp [intOf]; omega
              · have hdm : decide ((xx : Int) ∈ d) = false := by simpa using hm
                have HDM := Lib.hid hdm
                have HM := Lib.hid hm
                clear hm hdm
                go_wp2_with (first
                  | (go_at_call 37; refine (l00Has_any _ _ hu).mono ?_; rintro e w' ⟨rfl, rfl⟩; rw [HDM.out])
                  | (go_at_call 38; refine (l00Own_any _ hu (by omega)).mono ?_; rintro e w2 ⟨v2, rfl, o2, b2⟩; have z2 := b2.size)
                  | (at_builtin; refine append_i64 _ _ (.tmp 39) (.tmp 41) rfl rfl rfl o2 rfl (by omega) b2.size ?_; intro v3 w3 o3 b3 z3; have b23 : Below wr.heap.size wr w3 := (b2.alloc z2 _).trans b3; obtain ⟨va, vc, rfl, _⟩ := id o3.sl; simp only [List.length_append, List.length_cons, List.length_nil, Nat.zero_add] at o3)
                  | (at_builtin; refine append_row wr w3 (.tmp 34) (.tmp 43) rfl rfl rfl hnx b23 o3 rfl hln2 hws ?_; intro v4 w4 o4 b4 z4))
                rw [List.append_assoc, ← extN_yes HM.out] at o4
                have z3 := b23.size
                have bp : Below wo.heap.size wo w4 := ((hbr.trans (b23.mono hbr.size)).alloc (Nat.le_trans hbr.size z3) _).trans b4
                clear hnx o2 b2 o3 b3 b23 b4 hcell hu
                go_wp2
                go_roundw
                case rel => exact ⟨xx + 1, by omega, by go_num, o4, bp⟩
                case measure => simp [intOf]; omega
            · obtain rfl : xx = c := by omega
              go_wp2
              go_roundw
              case rel => exact ⟨ii + 1, by omega, by go_num, by rw [HFT.out]; exact hnx, hbr⟩
              case measure => simp [intOf]; omega
        · obtain rfl : ii = D.length := by omega
          go_wp2
          go_roundw
          case rel => exact ⟨kk + 1, by omega, by go_num, by rw [HDS.out]; have := hnx.lower hs0; simpa using this, hbw.trans (hbo.mono hbw.size)⟩
          case measure => simp [intOf]; omega
    · obtain rfl : kk = c := by omega
      go_wp2
      go_ret
      exact ⟨_, rfl, hown, hbw⟩
end Go.Proofs.Ytjbjkfahfjoigaa
namespace Go.Proofs.Ytjbjkfahfjoigaa
open Go.RowKit Go.Sort
def graphV (n : Int) (v : Value) : Value := .agg #[.int .i64 n, v]
set_option maxHeartbeats 400000 in
theorem szGraph_any {u : Value} {xss : List (List Int)} (n l : Int) (w : World) (ha : SlII w u xss) (h0 : 0 ≤ l) (h1 : l ≤ 1048576) :
    Calls Try.prog 10 #[.agg #[.int .i64 n, u], .int .i64 l] w fun e w' => e = .returned (.int .i64 (szII l xss)) ∧ Below w.heap.size w w' := by
  have hr := szII_range l xss h1
  obtain ⟨a, ca, us, rfl, hca, hca', hul, hrd, hrow⟩ := ha
  have ha : ∀ u : World, Below w.heap.size w u → SlII u (.slice a xss.length ca) xss := fun u hb => SlII.below ⟨a, ca, us, rfl, hca, hca', hul, hrd, hrow⟩ hb
  have HA := Lib.hid ha
  clear ha hca hca' hul hrd hrow
  go_enter Try.func10, Try.ntmps10
  go_wp2_with fail
  refine (szInt64SS_any l _ (HA.out _ ((Below.refl _ _).alloc (Nat.le_refl _) _)) h0 h1).mono ?_
  rintro e w1 ⟨rfl, b1⟩
  generalize hz : szII l xss = q at hr ⊢
  have HZ := Lib.hid hz
  clear hz
  by_cases hq : q < 0
  · obtain rfl : q = -1 := by omega
    go_wp2
    go_ret
    exact ⟨ri HZ.out.symm, ((Below.refl _ _).alloc (Nat.le_refl _) _).trans (b1.mono (by simp))⟩
  · go_wp2
    go_ret
    exact ⟨ri HZ.out.symm, ((Below.refl _ _).alloc (Nat.le_refl _) _).trans (b1.mono (by simp))⟩
set_option maxHeartbeats 400000 in
theorem toGraph_any {u : Value} {xss : List (List Int)} (n : Int) (w : World) (ha : SlII w u xss) (hl : xss.length ≤ 1048576) (hrl : ∀ r ∈ xss, r.length ≤ 1048576) :
    Calls Try.prog 12 #[.agg #[.int .i64 n, u]] w fun e w' => ∃ v, e = .returned (.agg #[.int .i64 n, v]) ∧ OwnII w' w.heap.size v xss ∧ Below w.heap.size w w' := by
  obtain ⟨a, ca, us, rfl, hca, hca', hul, hrd, hrow⟩ := ha
  have ha : ∀ u : World, Below w.heap.size w u → SlII u (.slice a xss.length ca) xss := fun u hb => SlII.below ⟨a, ca, us, rfl, hca, hca', hul, hrd, hrow⟩ hb
  have HA := Lib.hid ha
  have HL := Lib.hid hrl
  clear ha hca hca' hul hrd hrow hrl
  go_enter Try.func12, Try.ntmps12
  go_wp2_with fail
  refine (toInt64SS_any _ (HA.out _ ((((Below.refl _ _).alloc (Nat.le_refl _) _).alloc (by simp) _).alloc (by simp <;> omega) _)) hl HL.out).mono ?_
  rintro e w1 ⟨v, rfl, hv, b1⟩
  obtain ⟨ad, cc, _, rfl, _⟩ := id hv.sl
  have c2 := b1.cell (p := ⟨w.heap.size + 1 + 1, 0, none⟩) (by simp)
  have c3 := b1.cell (p := ⟨w.heap.size + 1 + 1, 1, none⟩) (by simp)
  have f3 := b1.frozen (p := ⟨w.heap.size + 1 + 1, 1, none⟩) (by simp)
  have d0 := b1.cell (p := ⟨w.heap.size + 1, 0, none⟩) (by simp)
  have d1 := b1.cell (p := ⟨w.heap.size + 1, 1, none⟩) (by simp)
  have e0 := b1.frozen (p := ⟨w.heap.size + 1, 0, none⟩) (by simp)
  have e1 := b1.frozen (p := ⟨w.heap.size + 1, 1, none⟩) (by simp)
  simp [go_sem] at c2 c3 f3 d0 d1 e0 e1
  have z1 := b1.size
  simp at z1
  go_wp2
  refine bodyPost_ret (v := .agg #[.int .i64 n, .slice ad xss.length cc]) (by simp [results, Try.results12, go_sem, d0, d1]) rfl ⟨_, rfl, ?_, ?_⟩
  · exact (((hv.setCell (by simp) _).setCell (by simp <;> omega) _).setCell (by simp <;> omega) _).lower (by simp <;> omega)
  · exact (((((((Below.refl _ _).alloc (Nat.le_refl _) _).alloc (by simp) _).alloc (by simp <;> omega) _).trans (b1.mono (by simp <;> omega))).setCell (by simp <;> omega) _).setCell (by simp) _).setCell (by simp) _
set_option maxHeartbeats 400000 in
theorem eqGraph_any {u v : Value} {xss yss : List (List Int)} (n m : Int) (w : World) (ha : SlII w u xss) (hb : SlII w v yss) :
    Calls Try.prog 14 #[.agg #[.int .i64 n, u], .agg #[.int .i64 m, v]] w fun e w' => e = .returned (.bool (decide (n = m) && decide (xss = yss))) ∧ Below w.heap.size w w' := by
  obtain ⟨a, ca, h1⟩ := id ha
  obtain ⟨b, cb, h2⟩ := id hb
  obtain ⟨us, rfl, _⟩ := h1
  obtain ⟨vs, rfl, _⟩ := h2
  have HA := Lib.hid ha
  have HB := Lib.hid hb
  clear ha hb
  by_cases hn : n = m
  · subst hn
    have ht : (n != n) = false := by simp
    go_enter Try.func14, Try.ntmps14
    go_wp2_with fail
    have bb := ((Below.refl w.heap.size w).alloc (Nat.le_refl _) (.cells #[.int .i64 n, .slice a xss.length ca] 35)).alloc (by simp) (.cells #[.int .i64 n, .slice b yss.length cb] 35)
    refine (eqInt64SS_any _ (HA.out.below bb) (HB.out.below bb)).mono ?_
    rintro e w1 ⟨rfl, b1⟩
    generalize hd : decide (xss = yss) = d
    have HD := Lib.hid hd
    clear hd
    cases d
    · go_wp2
      go_ret
      exact ⟨rb (by rw [HD.out]; simp), bb.trans (b1.mono (by simp <;> omega))⟩
    · go_wp2
      go_ret
      exact ⟨rb (by rw [HD.out]; simp), bb.trans (b1.mono (by simp <;> omega))⟩
  · have ht : (n != m) = true := by simp [hn]
    have HN := Lib.hid hn
    clear hn
    go_enter Try.func14, Try.ntmps14
    go_wp2
    go_ret
    exact ⟨rb (by simp [HN.out]), ((Below.refl _ _).alloc (Nat.le_refl _) _).alloc (by simp) _⟩
end Go.Proofs.Ytjbjkfahfjoigaa
namespace Go.Proofs.Ytjbjkfahfjoigaa
open Go.RowKit Go.Sort
set_option maxHeartbeats 400000 in
theorem l00Same_any {u v : Value} {xs ys : List Int} (w : World) (ha : SlI w u xs) (hb : SlI w v ys) :
    Calls Try.prog 42 #[u, v] w fun e w' => e = .returned (.bool (decide (xs = ys))) ∧ Below w.heap.size w w' := by
  obtain ⟨a, ca, rfl, hca, hca', ha⟩ := ha
  obtain ⟨b, cb, rfl, hcb, hcb', hb⟩ := hb
  unfold maxLen at hca' hcb'
  have hm : xs.length ≤ 9223372036854775807 := by omega
  have hn : ys.length ≤ 9223372036854775807 := by omega
  clear hca hca' hcb hcb'
  by_cases hl : xs.length = ys.length
  · have HL := Lib.hid hl
    clear hl
    have h1 : ((xs.length : Int) != (ys.length : Int)) = false := by simp [HL.out]
    go_enter Try.func42, Try.ntmps42
    go_wp2
    go_loopw [5] (fun i wr => ∃ k : Nat, k ≤ xs.length ∧ i = .int .i64 k ∧ xs.take k = ys.take k ∧ Below w.heap.size w wr) (fun i _ => xs.length - (intOf i).toNat)
    case atStart => exact ⟨0, Nat.zero_le _, rfl, rfl, Below.refl _ _⟩
    case round =>
      obtain ⟨k, hk, rfl, ht, hbw⟩ := hrel
      have ha' := ha.below hbw
      have hb' := hb.below hbw
      clear ha hb
      have HT := Lib.hid ht
      clear ht
      by_cases hlt : k < xs.length
      · have hj : k < ys.length := by rw [← HL.out]; exact hlt
        obtain ⟨ba, oa, rfl, ga⟩ := ha'.one (i64s_get hlt)
        obtain ⟨bb, ob, rfl, gb⟩ := hb'.one (i64s_get hj)
        clear ha' hb'
        go_wp2_with fail
        go_quiet (fail)
        go_wp2
        · go_ret
          have hx : (xs[k] != ys[k]) = true := by assumption
          have hne : ¬ xs[k] = ys[k] := by simpa using hx
          exact ⟨rb (by simp [ne_of_get hlt hj hne]), below_drewN hbw _⟩
        · have hx : (xs[k] != ys[k]) = false := by assumption
          have he : xs[k] = ys[k] := by simpa using hx
          go_roundw
          case rel => exact ⟨k + 1, by omega, by go_num, take_eq_succ HT.out hlt hj he, below_drewN hbw _⟩
          case measure => simp [intOf]; omega
      · have ht := HT.out
        go_wp2
        go_ret
        exact ⟨rb (by symm; simp; rw [List.take_of_length_le (by omega), List.take_of_length_le (by rw [← HL.out]; omega)] at ht; exact ht), hbw⟩
  · have h1 : ((xs.length : Int) != (ys.length : Int)) = true := by simp; omega
    have HL := Lib.hid hl
    clear hl
    go_enter Try.func42, Try.ntmps42
    go_wp2
    go_ret
    exact ⟨rb (by symm; simp; intro h; exact HL.out (by rw [h])), Below.refl _ _⟩

set_option maxHeartbeats 400000 in
theorem Equal_any {u v : Value} {xs ys : List Int} (w : World) (ha : SlI w u xs) (hb : SlI w v ys) :
    Calls Try.prog 52 #[u, v] w fun e w' => e = .returned (.bool (decide (xs = ys))) ∧ Below w.heap.size w w' := by
  obtain ⟨a, ca, rfl, hca, hca', ha⟩ := ha
  obtain ⟨b, cb, rfl, hcb, hcb', hb⟩ := hb
  unfold maxLen at hca' hcb'
  have hm : xs.length ≤ 9223372036854775807 := by omega
  have hn : ys.length ≤ 9223372036854775807 := by omega
  clear hca hca' hcb hcb'
  by_cases hl : xs.length = ys.length
  · have HL := Lib.hid hl
    clear hl
    have h1 : ((xs.length : Int) != (ys.length : Int)) = false := by simp [HL.out]
    go_enter Try.func52, Try.ntmps52
    go_wp2
    go_loopw [13] (fun i wr => ∃ k : Nat, k ≤ xs.length ∧ i = .int .i64 k ∧ xs.take k = ys.take k ∧ Below w.heap.size w wr) (fun i _ => xs.length - (intOf i).toNat)
    case atStart => exact ⟨0, Nat.zero_le _, rfl, rfl, Below.refl _ _⟩
    case round =>
      obtain ⟨k, hk, rfl, ht, hbw⟩ := hrel
      have ha' := ha.below hbw
      have hb' := hb.below hbw
      clear ha hb
      have HT := Lib.hid ht
      clear ht
      by_cases hlt : k < xs.length
      · have hj : k < ys.length := by rw [← HL.out]; exact hlt
        obtain ⟨ba, oa, rfl, ga⟩ := ha'.one (i64s_get hlt)
        obtain ⟨bb, ob, rfl, gb⟩ := hb'.one (i64s_get hj)
        clear ha' hb'
        go_wp2_with fail
        go_quiet (fail)
        go_wp2
        · go_ret
          have hx : (xs[k] != ys[k]) = true := by assumption
          have hne : ¬ xs[k] = ys[k] := by simpa using hx
          exact ⟨rb (by simp [ne_of_get hlt hj hne]), below_drewN hbw _⟩
        · have hx : (xs[k] != ys[k]) = false := by assumption
          have he : xs[k] = ys[k] := by simpa using hx
          go_roundw
          case rel => exact ⟨k + 1, by omega, by go_num, take_eq_succ HT.out hlt hj he, below_drewN hbw _⟩
          case measure => simp [intOf]; omega
      · have ht := HT.out
        go_wp2
        go_ret
        exact ⟨rb (by symm; simp; rw [List.take_of_length_le (by omega), List.take_of_length_le (by rw [← HL.out]; omega)] at ht; exact ht), hbw⟩
  · have h1 : ((xs.length : Int) != (ys.length : Int)) = true := by simp; omega
    have HL := Lib.hid hl
    clear hl
    go_enter Try.func52, Try.ntmps52
    go_wp2
    go_ret
    exact ⟨rb (by symm; simp; intro h; exact HL.out (by rw [h])), Below.refl _ _⟩


end Go.Proofs.Ytjbjkfahfjoigaa
namespace Go.Proofs.Ytjbjkfahfjoigaa
open Go.RowKit

def findFrom : List (List Int) → List Int → Nat → Int
  | [], _, _ => -1
  | d :: ds, x, k => if d = x then (k : Int) else findFrom ds x (k + 1)
def findD (x : List Int) : Int := if inR x.length 1 3 = true then findFrom (decksL x.length x.length) x 0 else -1
def lastIx (l : List Int) (x : Int) : Nat → Int
  | 0 => -1
  | i + 1 => if l.getD i 0 = x then (i : Int) else lastIx l x i
def runsN (l : List Int) : Nat → Int
  | 0 => 1
  | k + 1 => if lastIx l ((k : Int) + 1) l.length < lastIx l k l.length then runsN l k + 1 else runsN l k
def ixFrom : List Int → Int → Nat → Int
  | [], _, _ => -1
  | y :: r, x, k => if x = y then (k : Int) else ixFrom r x (k + 1)
def runsM (l : List Int) : Nat → Int
  | 0 => 1
  | k + 1 => if ixFrom l ((k : Int) + 1) 0 < ixFrom l k 0 then runsM l k + 1 else runsM l k
theorem findFrom_ge : ∀ (D : List (List Int)) (x : List Int) (k : Nat), 0 ≤ findFrom D x k ↔ x ∈ D
  | [], x, k => by simp [findFrom]
  | d :: ds, x, k => by
    unfold findFrom
    by_cases h : d = x
    · rw [if_pos h]; simp [h]
    · rw [if_neg h, findFrom_ge ds x (k + 1)]; simp [Ne.symm h]
theorem findFrom_step {D : List (List Int)} {x : List Int} {k : Nat} (h : k < D.length) : findFrom (D.drop k) x k = if D[k] = x then (k : Int) else findFrom (D.drop (k + 1)) x (k + 1) := by
  rw [List.drop_eq_getElem_cons h]; rfl
theorem ixFrom_step {l : List Int} {x : Int} {k : Nat} (h : k < l.length) : ixFrom (l.drop k) x k = if x = l[k] then (k : Int) else ixFrom (l.drop (k + 1)) x (k + 1) := by
  rw [List.drop_eq_getElem_cons h]; rfl
theorem lastIx_bd (l : List Int) (x : Int) : ∀ i, -1 ≤ lastIx l x i ∧ lastIx l x i < i
  | 0 => by simp [lastIx]
  | i + 1 => by
    unfold lastIx
    have := lastIx_bd l x i
    split <;> omega
theorem ixFrom_bd : ∀ (l : List Int) (x : Int) (k : Nat), -1 ≤ ixFrom l x k ∧ ixFrom l x k < k + l.length
  | [], x, k => by simp [ixFrom] <;> omega
  | y :: r, x, k => by
    unfold ixFrom
    have := ixFrom_bd r x (k + 1)
    split
    · simp; omega
    · simp at this ⊢; omega
theorem runsN_bd (l : List Int) : ∀ k, 1 ≤ runsN l k ∧ runsN l k ≤ 1 + k
  | 0 => by simp [runsN]
  | k + 1 => by have := runsN_bd l k; unfold runsN; split <;> omega
theorem runsM_bd (l : List Int) : ∀ k, 1 ≤ runsM l k ∧ runsM l k ≤ 1 + k
  | 0 => by simp [runsM]
  | k + 1 => by have := runsM_bd l k; unfold runsM; split <;> omega
def ordTail (n : Int) : List Int → List Int → Bool
  | _, [] => true
  | s, x :: r => inR x 0 (n - 1) && (!decide (x ∈ s) && ordTail n (s ++ [x]) r)
def ordOk (n : Nat) (l : List Int) : Bool := ordTail n [] l && decide (l.length = n)
def seenL (s : List Int) (n : Nat) : List Bool := (List.range n).map fun (j : Nat) => decide ((j : Int) ∈ s)
theorem seenL_length (s : List Int) (n : Nat) : (seenL s n).length = n := by simp [seenL]
theorem seenL_get {s : List Int} {n j : Nat} (h : j < n) : (seenL s n)[j]'(by simp [seenL]; exact h) = decide ((j : Int) ∈ s) := by simp [seenL]
theorem seenL_nil (n : Nat) : seenL [] n = List.replicate n false := by
  apply List.ext_getElem <;> simp [seenL]
theorem seenL_set {s : List Int} {n j : Nat} : (seenL s n).set j true = seenL (s ++ [(j : Int)]) n := by
  apply List.ext_getElem
  · simp [seenL]
  · intro i h1 h2
    simp [seenL] at h1
    rw [List.getElem_set]
    simp [seenL]
    by_cases h : j = i
    · simp [h]
    · simp [h]; omega
theorem ordTail_step {n : Int} {l : List Int} {k : Nat} (h : k < l.length) : ordTail n (l.take k) (l.drop k) = (inR l[k] 0 (n - 1) && (!decide (l[k] ∈ l.take k) && ordTail n (l.take (k + 1)) (l.drop (k + 1)))) := by
  rw [List.drop_eq_getElem_cons h, List.take_succ_eq_append_getElem h]; rfl

set_option maxHeartbeats 1000000 in
theorem l07Find_any {u : Value} {xs : List Int} (w : World) (ha : SlI w u xs) :
    Calls Try.prog 18 #[u] w fun e w' => e = .returned (.int .i64 (findD xs)) ∧ Below w.heap.size w w' := by
  obtain ⟨a, ca, rfl, hca, hca', _⟩ := id ha
  unfold maxLen at hca'
  have HA := Lib.hid (fun W (h : Below w.heap.size w W) => ha.below h)
  clear ha
  generalize hin : inR xs.length 1 3 = I
  cases I
  · have hf : findD xs = -1 := by unfold findD; rw [hin]; rfl
    have HF := Lib.hid hf
    have HI := Lib.hid hin
    clear hf hin
    go_enter Try.func18, Try.ntmps18
    go_wp2_with (go_at_call 15; refine (l00In_any _ _ _ _).mono ?_; rintro e w' ⟨rfl, rfl⟩; rw [HI.out])
    go_ret
    exact ⟨ri HF.out.symm, Below.refl _ _⟩
  · have hf : findD xs = findFrom (decksL xs.length xs.length) xs 0 := by unfold findD; rw [hin]; rfl
    have hb := inR_iff.1 hin
    have hd := (decks_small (c := xs.length) (k := xs.length) (by omega) (by omega) (Nat.le_refl _)).1
    have hn1 : 1 ≤ xs.length := by omega
    have hn3 : xs.length ≤ 3 := by omega
    generalize hDD : decksL xs.length xs.length = D at hf hd
    have HD := Lib.hid hDD
    have HF := Lib.hid hf
    have HI := Lib.hid hin
    clear hf hin hDD hb
    go_enter Try.func18, Try.ntmps18
    go_wp2_with (go_at_call 15; refine (l00In_any _ _ _ _).mono ?_; rintro e w' ⟨rfl, rfl⟩; rw [HI.out])
    refine (l07Decks_any xs.length _ hn1 hn3).mono ?_
    rintro e w1 ⟨v1, rfl, o1, b1⟩
    rw [HD.out] at o1
    obtain ⟨pa, pc, pv, rfl, pl, pm, pvl, prd, prow⟩ := id o1.sl
    unfold maxLen at pm
    have HV := Lib.hid pvl
    have HR := Lib.hid prow
    clear o1 pvl prow
    go_wp2
    go_loopw [4] (fun i wr => ∃ k : Nat, k ≤ D.length ∧ i = .int .i64 k ∧ Hid (findD xs = findFrom (D.drop k) xs k) ∧ Below w1.heap.size w1 wr) (fun i _ => D.length - (intOf i).toNat)
    case atStart => exact ⟨0, Nat.zero_le _, rfl, HF.out, Below.refl _ _⟩
    case round =>
      obtain ⟨k, hk, rfl, hfr, hbr⟩ := hrel
      have hbw := b1.trans (hbr.mono b1.size)
      by_cases hlt : k < D.length
      · obtain ⟨x, bb, oo, rfl, hcell, hx⟩ := SlII.row HV.out (prd.below hbr) (fun i hi u hu => (HR.out i hi u hu).below hbr) hlt
        have hst := findFrom_step (x := xs) hlt
        have HS := Lib.hid hst
        have i1 : (k : Int) < (D.length : Int) := by omega
        generalize hdd : decide (D[k] = xs) = d
        have HDD := Lib.hid hdd
        clear hst hdd
        obtain ⟨xa, xc, rfl, _⟩ := id hx
        cases d
        · go_wp2_with (go_at_call 42; refine (l00Same_any _ hx (HA.out _ hbw)).mono ?_; rintro e w' ⟨rfl, b2⟩; rw [HDD.out])
          go_roundw
          case rel => exact ⟨k + 1, by omega, by go_num, by unfold Hid at *; rw [hfr, HS, if_neg (of_decide_eq_false HDD)], hbr.trans (b2.mono hbr.size)⟩
          case measure => simp [intOf]; omega
        · go_wp2_with (go_at_call 42; refine (l00Same_any _ hx (HA.out _ hbw)).mono ?_; rintro e w' ⟨rfl, b2⟩; rw [HDD.out])
          go_ret
          exact ⟨ri (by rw [hfr.out, HS.out, if_pos (of_decide_eq_true HDD.out)]), hbw.trans (b2.mono hbw.size)⟩
      · obtain rfl : k = D.length := by omega
        go_wp2
        go_ret
        exact ⟨ri (by rw [hfr.out]; simp [findFrom]), hbw⟩

def runsR (x : List Int) : Int × Int := if 0 ≤ findD x then (runsN x (x.length - 1), 0) else (0, 2)
def tupII (r : Int × Int) : Value := .tuple #[.int .i64 r.1, .int .i64 r.2]
theorem findD_len {x : List Int} (h : 0 ≤ findD x) : 1 ≤ x.length ∧ x.length ≤ 3 := by
  unfold findD at h
  split at h
  · rename_i hi; have := inR_iff.1 hi; omega
  · omega
set_option maxHeartbeats 400000 in
theorem Index_any {u : Value} {xs : List Int} (x : Int) (w : World) (ha : SlI w u xs) :
    Calls Try.prog 72 #[u, .int .i64 x] w fun e w' => e = .returned (.int .i64 (ixFrom xs x 0)) ∧ w = w' := by
  obtain ⟨a, ca, rfl, hca, hca', ha⟩ := ha
  unfold maxLen at hca'
  go_enter Try.func72, Try.ntmps72
  go_wp2
  go_loopw [5, 8] (fun _ i wr => ∃ k : Nat, k ≤ xs.length ∧ i = .int .i64 k ∧ Hid (ixFrom xs x 0 = ixFrom (xs.drop k) x k) ∧ wr = w) (fun _ i _ => xs.length - (intOf i).toNat)
  case atStart => exact ⟨0, Nat.zero_le _, rfl, rfl, rfl⟩
  case round =>
    obtain ⟨k, hk, rfl, hno, rfl⟩ := hrel
    by_cases hlt : k < xs.length
    · obtain ⟨b, off, rfl, gc⟩ := ha.one (i64s_get hlt)
      have i1 : (k : Int) < (xs.length : Int) := by omega
      have hst := ixFrom_step (x := x) hlt
      have HS := Lib.hid hst
      clear hst
      by_cases he : x = xs[k]
      · have HE := Lib.hid he
        have ht : (x == xs[k]) = true := by simpa using he
        clear he
        go_wp2
        go_ret
        exact ⟨ri (by rw [hno.out, HS.out, if_pos HE.out]), rfl⟩
      · have HE := Lib.hid he
        have ht : (x == xs[k]) = false := by simpa using he
        clear he
        go_wp2
        go_roundw
        case rel => exact ⟨k + 1, by omega, by go_num, by unfold Hid at *; rw [hno, HS, if_neg HE], trivial⟩
        case measure => simp [intOf]; omega
    · obtain rfl : k = xs.length := by omega
      go_wp2
      go_ret
      exact ⟨ri (by rw [hno.out]; simp [ixFrom]), rfl⟩

theorem FB_own_set {w : World} {base g n c : Nat} {xs : List Bool} (h : FB.Own w base (.slice (some ⟨g, 0, none⟩) n c) xs) (i : Nat) (x : Bool) :
    FB.Own (w.setCell ⟨g, i, none⟩ (.bool x)) base (.slice (some ⟨g, 0, none⟩) n c) (xs.set i x) := by
  obtain rfl := h.len_of
  have := (World.ownsRow.stored (base := base) h i (.bool x)).1
  unfold Flat.Own
  rw [List.length_set, FB_encs]
  rw [FB_encs] at this
  simpa [List.map_set] using this
theorem FB_own_cell {w : World} {base g n c : Nat} {xs : List Bool} (h : FB.Own w base (.slice (some ⟨g, 0, none⟩) n c) xs) {i : Nat} (hi : i < xs.length) : w.cell? ⟨g, i, none⟩ = some (.bool xs[i]) := by
  have := h.cell (i := i) (j := 0) hi (by decide)
  have e : i * FB.size + 0 = i := by show i * 1 + 0 = i; omega
  rw [e] at this
  exact this
def isDeckB (x : List Int) : Bool := inR x.length 1 3 && ordOk x.length x
/-- the same decks are right on both sides, and have the same runs -/
theorem deck_law : ∀ x : List Int, (0 ≤ findD x ↔ isDeckB x = true) ∧ (0 ≤ findD x → runsN x (x.length - 1) = runsM x (x.length - 1)) := by
  have all : ∀ n, n ≤ 3 → ∀ d ∈ decksL n n, runsN d (d.length - 1) = runsM d (d.length - 1) ∧ isDeckB d = decide (1 ≤ n) := by decide
  have key : ∀ x : List Int, isDeckB x = true → x ∈ decksL x.length x.length := by
    intro x hx
    unfold isDeckB at hx
    rw [Bool.and_eq_true] at hx
    have hl := inR_iff.1 hx.1
    have ho := hx.2
    unfold ordOk at ho
    rw [Bool.and_eq_true] at ho
    have ho := ho.1
    have c1 : ∀ y : Int, inR y 0 0 = true → y = 0 := by intro y h; have := inR_iff.1 h; omega
    have c2 : ∀ y : Int, inR y 0 1 = true → y = 0 ∨ y = 1 := by intro y h; have := inR_iff.1 h; omega
    have c3 : ∀ y : Int, inR y 0 2 = true → y = 0 ∨ y = 1 ∨ y = 2 := by intro y h; have := inR_iff.1 h; omega
    match x, hl, ho with
    | [a], _, ho =>
      simp [ordTail] at ho
      obtain rfl := c1 a ho
      decide
    | [a, b], _, ho =>
      simp [ordTail] at ho
      obtain ⟨h1, h2, h3⟩ := ho
      rcases c2 a h1 with rfl | rfl <;> rcases c2 b h2 with rfl | rfl <;> first | decide | (exact absurd rfl h3)
    | [a, b, c], _, ho =>
      simp [ordTail] at ho
      obtain ⟨h1, h2, h3, h4, h5, h6⟩ := ho
      rcases c3 a h1 with rfl | rfl | rfl <;> rcases c3 b h2 with rfl | rfl | rfl <;> rcases c3 c h4 with rfl | rfl | rfl <;> first | decide | (exact absurd rfl h3) | (exact absurd rfl h5) | (exact absurd rfl h6)
    | [], hl, _ => simp at hl
    | a :: b :: c :: d :: r, hl, _ => simp at hl; omega
  intro x
  have hf : 0 ≤ findD x ↔ (1 ≤ x.length ∧ x.length ≤ 3) ∧ x ∈ decksL x.length x.length := by
    unfold findD
    by_cases h : inR x.length 1 3 = true
    · rw [if_pos h, findFrom_ge]
      have := inR_iff.1 h
      constructor
      · intro h; exact ⟨by omega, h⟩
      · intro h; exact h.2
    · rw [if_neg h]
      constructor
      · intro h; omega
      · intro h2; exact absurd (inR_iff.2 (by omega)) h
  refine ⟨⟨fun h => ?_, fun h => ?_⟩, fun h => ?_⟩
  · have h2 := hf.1 h
    have := (all _ h2.1.2 _ h2.2).2
    rw [this]; simp; omega
  · have h2 := h
    unfold isDeckB at h2
    rw [Bool.and_eq_true] at h2
    have := inR_iff.1 h2.1
    exact hf.2 ⟨by omega, key x h⟩
  · have h2 := hf.1 h
    exact (all _ h2.1.2 _ h2.2).1
end Go.Proofs.Ytjbjkfahfjoigaa
namespace Go.Proofs.Ytjbjkfahfjoigaa
open Go.RowKit Go.Sort

theorem l00In_b (x a b : Int) (w : World) :
    Calls Try.prog 15 #[.int .i64 x, .int .i64 a, .int .i64 b] w fun e w' => e = .returned (.bool (inR x a b)) ∧ Below w.heap.size w w' :=
  (l00In_any x a b w).mono fun _ _ ⟨h, hw⟩ => ⟨h, hw ▸ Below.refl _ _⟩
theorem inRange_b (x a b : Int) (w : World) :
    Calls Try.prog 19 #[.int .i64 x, .int .i64 a, .int .i64 b] w fun e w' => e = .returned (.bool (inR x a b)) ∧ Below w.heap.size w w' :=
  (inRange_any x a b w).mono fun _ _ ⟨h, hw⟩ => ⟨h, hw ▸ Below.refl _ _⟩

theorem rbf {b : Bool} (h : b = false) : Ending.returned (.bool false) = .returned (.bool b) := by rw [h]
theorem rbt {b : Bool} (h : b = true) : Ending.returned (.bool true) = .returned (.bool b) := by rw [h]
def inAll (r : List Int) (t : Int) : Bool := r.all fun x => inR x 0 t
def rowOk (s t : Int) (r : List Int) : Bool := decide ((r.length : Int) = s) && (inAll r t && decide (r.sum = t))
def rowsOk (s t : Int) (xss : List (List Int)) : Bool := xss.all (rowOk s t)
def chainOk (s t : Int) (xss : List (List Int)) : Bool := inR s 1 6 && (inR t 1 60 && (decide ((xss.length : Int) = s) && rowsOk s t xss))
theorem inAll_succ {r : List Int} {t : Int} {j : Nat} (h : inAll (r.take j) t = true) (hj : j < r.length) (hx : inR r[j] 0 t = true) : inAll (r.take (j + 1)) t = true := by
  unfold inAll at *
  rw [List.take_succ_eq_append_getElem hj, List.all_append, h]
  simp [hx]
theorem inAll_false {r : List Int} {t : Int} {j : Nat} (hj : j < r.length) (hx : inR r[j] 0 t = false) : inAll r t = false := by
  unfold inAll
  rw [List.all_eq_false]
  exact ⟨r[j], List.getElem_mem hj, by simp [hx]⟩
theorem sum_succ {r : List Int} {j : Nat} (hj : j < r.length) : (r.take (j + 1)).sum = (r.take j).sum + r[j] := by
  rw [List.take_succ_eq_append_getElem hj, List.sum_append]; simp
theorem inAll_sum {t : Int} (ht : t ≤ 60) : ∀ {r : List Int}, inAll r t = true → 0 ≤ r.sum ∧ r.sum ≤ 60 * (r.length : Int)
  | [], _ => by simp
  | x :: r, h => by
    unfold inAll at h
    rw [List.all_cons, Bool.and_eq_true] at h
    have h1 := inR_iff.1 h.1
    have h2 := inAll_sum ht (r := r) h.2
    simp only [List.sum_cons, List.length_cons]
    omega
theorem rowsOk_succ {s t : Int} {xss : List (List Int)} {k : Nat} (h : rowsOk s t (xss.take k) = true) (hk : k < xss.length) (hx : rowOk s t xss[k] = true) : rowsOk s t (xss.take (k + 1)) = true := by
  unfold rowsOk at *
  rw [List.take_succ_eq_append_getElem hk, List.all_append, h]
  simp [hx]
theorem rowsOk_false {s t : Int} {xss : List (List Int)} {k : Nat} (hk : k < xss.length) (hx : rowOk s t xss[k] = false) : rowsOk s t xss = false := by
  unfold rowsOk
  rw [List.all_eq_false]
  exact ⟨xss[k], List.getElem_mem hk, by simp [hx]⟩
theorem rowOk_len {s t : Int} {r : List Int} (h : ¬ (r.length : Int) = s) : rowOk s t r = false := by simp [rowOk, h]
theorem rowOk_in {s t : Int} {r : List Int} (h : inAll r t = false) : rowOk s t r = false := by simp [rowOk, h]
theorem rowOk_sum {s t : Int} {r : List Int} (h : ¬ r.sum = t) : rowOk s t r = false := by simp [rowOk, h]
theorem rowOk_yes {s t : Int} {r : List Int} (h1 : (r.length : Int) = s) (h2 : inAll r t = true) (h3 : r.sum = t) : rowOk s t r = true := by simp [rowOk, h1, h2, h3]

/-- three cells: a chain -/
def ChainAt (w : World) (b o : Nat) (s t : Int) (v : Value) : Prop :=
  b < w.heap.size ∧ w.cell? ⟨b, o, none⟩ = some (.int .i64 s) ∧ w.cell? ⟨b, o + 1, none⟩ = some (.int .i64 t) ∧ w.cell? ⟨b, o + 2, none⟩ = some v
theorem ChainAt.below {w w' : World} {b o : Nat} {s t : Int} {v : Value} (h : ChainAt w b o s t v) (hb : Below w.heap.size w w') : ChainAt w' b o s t v :=
  ⟨Nat.lt_of_lt_of_le h.1 hb.size, by rw [hb.cell (p := ⟨b, o, none⟩) h.1]; exact h.2.1, by rw [hb.cell (p := ⟨b, o + 1, none⟩) h.1]; exact h.2.2.1, by rw [hb.cell (p := ⟨b, o + 2, none⟩) h.1]; exact h.2.2.2⟩

/-- a row at its place -/
def RowAt (w : World) (b off k : Nat) (u : Value) (r : List Int) : Prop := b < w.heap.size ∧ w.cell? ⟨b, off + k, none⟩ = some u ∧ SlI w u r
theorem RowAt.below {w w' : World} {b off k : Nat} {u : Value} {r : List Int} (h : RowAt w b off k u r) (hb : Below w.heap.size w w') : RowAt w' b off k u r :=
  ⟨Nat.lt_of_lt_of_le h.1 hb.size, by rw [hb.cell (p := ⟨b, off + k, none⟩) h.1]; exact h.2.1, h.2.2.below hb⟩
theorem SlII.rowAt {w : World} {ad : Option Addr} {vs : List Value} {xss : List (List Int)} (hl : vs.length = xss.length) (h : Rd w ad vs) (hr : ∀ (i : Nat) (hi : i < xss.length) u, vs[i]? = some u → SlI w u xss[i]) {k : Nat} (hk : k < xss.length) :
    ∃ u b off, ad = some ⟨b, off, none⟩ ∧ RowAt w b off k u xss[k] := by
  obtain ⟨b, off, h1, h2, h3⟩ := h k _ (List.getElem?_eq_getElem (by omega : k < vs.length))
  exact ⟨_, b, off, h1, h2, h3, hr k hk _ (List.getElem?_eq_getElem (by omega))⟩
end Go.Proofs.Ytjbjkfahfjoigaa
namespace Go.Proofs.Ytjbjkfahfjoigaa
open Go.RowKit Go.Sort
/-- a boxed chain -/
def chObj (s t : Int) (v : Value) : Obj := .cells #[.int .i64 s, .int .i64 t, v] 24
theorem chBox (w : World) (s t : Int) (v : Value) : ChainAt (w.alloc (chObj s t v)) w.heap.size 0 s t v := by
  unfold chObj ChainAt
  refine ⟨by simp, ?_, ?_, ?_⟩ <;> simp [go_sem]
theorem chBelow (w : World) (s t : Int) (v : Value) : Below w.heap.size w (w.alloc (chObj s t v)) := (Below.refl _ _).alloc (Nat.le_refl _) _

end Go.Proofs.Ytjbjkfahfjoigaa
namespace Go.Proofs.Ytjbjkfahfjoigaa
open Go.RowKit Go.Sort
/-- from index k on, with sum q so far -/
def toFrom : List Int → Int → Int → Nat → Option Nat
  | [], _, _, _ => none
  | x :: r, d, q, k => if d < q + x then some k else toFrom r d (q + x) (k + 1)
def toOf (r : List Int) (d : Int) : Option Nat := toFrom r d 0 0
theorem toFrom_lt : ∀ (r : List Int) (d q : Int) (k : Nat), d < q + r.sum → r ≠ [] → (∀ x ∈ r, 0 ≤ x) → ∃ i, toFrom r d q k = some i ∧ k ≤ i ∧ i < k + r.length
  | [], _, _, _, _, h, _ => absurd rfl h
  | x :: r, d, q, k, hd, _, hx => by
    unfold toFrom
    by_cases h : d < q + x
    · exact ⟨k, by rw [if_pos h], Nat.le_refl _, by simp⟩
    · rw [if_neg h]
      rw [List.sum_cons] at hd
      cases r with
      | nil => simp at hd; omega
      | cons y r =>
        obtain ⟨i, h1, h2, h3⟩ := toFrom_lt (y :: r) d (q + x) (k + 1) (by omega) (by simp) (fun z hz => hx z (by simp [hz]))
        exact ⟨i, h1, by omega, by simp at h3 ⊢; omega⟩
theorem toOf_step {r : List Int} {d : Int} {j : Nat} (hj : j < r.length) : toFrom (r.drop j) d (r.take j).sum j = if d < (r.take j).sum + r[j] then some j else toFrom (r.drop (j + 1)) d (r.take (j + 1)).sum (j + 1) := by
  rw [List.drop_eq_getElem_cons hj]
  have : (r.take (j + 1)).sum = (r.take j).sum + r[j] := sum_succ hj
  rw [this]
  rfl
/-- the row is right for a total -/
def RowB (r : List Int) : Prop := r.length ≤ 6 ∧ ∀ x ∈ r, 0 ≤ x ∧ x ≤ 60
theorem RowB.sum {r : List Int} (h : RowB r) (j : Nat) : 0 ≤ (r.take j).sum ∧ (r.take j).sum ≤ 1000 := by
  have hin : inAll (r.take j) 60 = true := by
    unfold inAll
    rw [List.all_eq_true]
    intro x hx
    have := h.2 x (List.mem_of_mem_take hx)
    exact inR_iff.2 this
  have h2 := inAll_sum (t := 60) (by omega) hin
  have h3 : (r.take j).length ≤ 6 := by rw [List.length_take]; have := h.1; omega
  omega
theorem chainOk_parts0 {s t : Int} {xss : List (List Int)} (h : chainOk s t xss = true) : (1 ≤ s ∧ s ≤ 6) ∧ (1 ≤ t ∧ t ≤ 60) ∧ (xss.length : Int) = s ∧ rowsOk s t xss = true := by
  unfold chainOk at h
  rw [Bool.and_eq_true, Bool.and_eq_true, Bool.and_eq_true] at h
  exact ⟨inR_iff.1 h.1, inR_iff.1 h.2.1, of_decide_eq_true h.2.2.1, h.2.2.2⟩
theorem rowB_of {s t : Int} {xss : List (List Int)} (h : chainOk s t xss = true) {k : Nat} (hk : k < xss.length) : RowB xss[k] ∧ (xss[k].length : Int) = s ∧ xss[k].sum = t := by
  unfold chainOk at h
  rw [Bool.and_eq_true, Bool.and_eq_true, Bool.and_eq_true] at h
  have hs := inR_iff.1 h.1
  have ht := inR_iff.1 h.2.1
  have hr := h.2.2.2
  unfold rowsOk at hr
  rw [List.all_eq_true] at hr
  have := hr _ (List.getElem_mem hk)
  unfold rowOk at this
  rw [Bool.and_eq_true, Bool.and_eq_true] at this
  have hl := of_decide_eq_true this.1
  have ha := this.2.1
  unfold inAll at ha
  rw [List.all_eq_true] at ha
  refine ⟨⟨by omega, fun x hx => ?_⟩, hl, of_decide_eq_true this.2.2⟩
  have := inR_iff.1 (ha x hx)
  omega

def upTo (n : Nat) : List Int := (List.range n).map fun (i : Nat) => (i : Int)
theorem upTo_succ (n : Nat) : upTo (n + 1) = upTo n ++ [(n : Int)] := by simp [upTo, List.range_succ]
theorem upTo_length (n : Nat) : (upTo n).length = n := by simp [upTo]

set_option maxHeartbeats 400000 in
theorem l02All_any (n : Nat) (w : World) (hn : n ≤ 1000) :
    Calls Try.prog 71 #[.int .i64 n] w fun e w' => ∃ v, e = .returned v ∧ OwnI w' w.heap.size v (upTo n) ∧ Below w.heap.size w w' := by
  go_enter Try.func71, Try.ntmps71
  go_wp2
  go_loopw [3, 4] (fun v i wr => ∃ k : Nat, k ≤ n ∧ i = .int .i64 k ∧ OwnI wr w.heap.size v (upTo k) ∧ Below w.heap.size w wr) (fun _ i _ => n - (intOf i).toNat)
  case atStart => exact ⟨0, Nat.zero_le _, rfl, OwnI.empty _ (Nat.le_refl _), (Below.refl _ _).alloc (Nat.le_refl _) _⟩
  case round =>
    obtain ⟨k, hk, rfl, hown, hbw⟩ := hrel
    by_cases hlt : k < n
    · have hsz := hbw.size
      have hl := upTo_length k
      go_wp2_with (at_builtin; refine append_i64 _ _ _ _ rfl rfl rfl hown rfl (by omega) (by omega) ?_)
      intro v' w1 hown1 hb1 hsz1
      rw [← upTo_succ] at hown1
      have hb2 := (hbw.alloc hsz _).trans hb1
      clear hown hb1
      go_wp2
      go_roundw
      case rel => exact ⟨k + 1, by omega, by go_num, hown1, hb2⟩
      case measure => simp [intOf]; omega
    · obtain rfl : k = n := by omega
      go_wp2
      go_ret
      exact ⟨_, rfl, hown, hbw⟩

end Go.Proofs.Ytjbjkfahfjoigaa
