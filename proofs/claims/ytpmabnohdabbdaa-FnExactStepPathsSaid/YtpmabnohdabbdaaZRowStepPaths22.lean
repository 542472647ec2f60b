/-
  The program's paths of the steps of another chain. With it: Pairs of states, and the program's paths of them.
-/
import Derived.Test.YtpmabnohdabbdaaZRowStepPaths21
set_option linter.unusedVariables false
set_option linter.unusedSimpArgs false
namespace Go.Proofs.Ytpmabnohdabbdaa
open Go.RowKit Go.Sort

def FPair : Flat (Nat × Nat) := ⟨104, 106, .agg #[.int .i64 0, .int .i64 0], 2, 16, fun p => [.int .i64 p.1, .int .i64 p.2], Try.underlying104, by kernel_rfl, rfl, by decide, by decide, fun _ => rfl, by intro x u h; simp at h; rcases h with rfl | rfl <;> rfl⟩
theorem chain_nat {n t : Int} {xss : List (List Int)} (h : chainOk n t xss = true) : ∃ m : Nat, n = (m : Int) ∧ 1 ≤ m ∧ m ≤ 6 := by
  obtain ⟨⟨h1, h2⟩, _, _, _⟩ := chainOk_parts0 h
  exact ⟨n.toNat, by omega, by omega, by omega⟩

theorem FPair_at {w : World} {ad : Option Addr} {n c : Nat} {xs : List (Nat × Nat)} (h : FPair.Sl w (.slice ad n c) xs) {k : Nat} (hk : k < xs.length) :
    ∃ b off, ad = some ⟨b, off, none⟩ ∧ b < w.heap.size ∧ w.cell? ⟨b, off + k * 2, none⟩ = some (.int .i64 (xs[k].1 : Int)) ∧ w.cell? ⟨b, off + k * 2 + 1, none⟩ = some (.int .i64 (xs[k].2 : Int)) := by
  obtain ⟨b, off, h1, h2, h3⟩ := h.at_ hk
  refine ⟨b, off, h1, h2, ?_, ?_⟩
  · have := h3 0 (.int .i64 (xs[k].1 : Int)) rfl
    have e : off + (k * FPair.size + 0) = off + k * 2 := by show off + (k * 2 + 0) = _; omega
    rw [e] at this; exact this
  · have := h3 1 (.int .i64 (xs[k].2 : Int)) rfl
    have e : off + (k * FPair.size + 1) = off + k * 2 + 1 := by show off + (k * 2 + 1) = _; omega
    rw [e] at this; exact this
theorem FPair_kept {w w' : World} {base base' n : Nat} {v pv : Value} {vs : List Value} {ps : List (Nat × Nat)} (h : FPair.Own w base' pv ps) (h2 : w.ownsRow base 59 1 v n vs) (hg : w.grownBy w' v.ownBlock) : FPair.Own w' base' pv ps := by
  refine World.ownsRow.kept h hg ?_
  cases hb : pv.ownBlock with
  | none => exact .inl rfl
  | some g =>
    refine .inr fun hv => ?_
    have hv2 := hv.symm
    rcases h.2 with ⟨rfl, _⟩ | ⟨g1, c1, cur1, rfl, _, k1, _⟩
    · simp [Value.ownBlock] at hb
    · rcases h2.2 with ⟨rfl, _⟩ | ⟨g2, c2, cur2, rfl, _, k2, _⟩
      · simp [Value.ownBlock] at hv2
      · simp [Value.ownBlock] at hb hv2
        subst hb
        subst hv2
        rw [k1] at k2
        simp at k2
        exact absurd k2.2 (by decide)
theorem append_rowP {ops : Array Oper} {rest : List Oper} {o : Oper} {a : Act} {Q : Exit → Act → World → Prop} (w0 w : World) (s x : Operand) (hg : o.guard = none)
    (ho : o.op = .call { callee := .builtin .append, args := #[s, x], argTypes := #[22, 22] })
    {base base' : Nat} {v u pv : Value} {ps : List (Nat × Nat)} {xss : List (List Int)} {xs : List Int} (hs : a.eval s = v) (hown : OwnII w0 base v xss) (hb : Below w0.heap.size w0 w) (hu : OwnI w w0.heap.size u xs) (hp : FPair.Own w base' pv ps) {t : Nat} (hx : a.eval x = .slice (some ⟨w.heap.size, 0, none⟩) 1 1)
    (hlen : xss.length < 16777216) (hbase : base ≤ w0.heap.size)
    (h : ∀ v' w', OwnII w' base v' (xss ++ [xs]) → FPair.Own w' base' pv ps → Below base (w.alloc (.cells #[u] t)) w' → w.heap.size < w'.heap.size → wpList Try.prog ops Q rest (a.put o.dst v') w') : wpList Try.prog ops Q (o :: rest) a (w.alloc (.cells #[u] t)) := by
  obtain ⟨vs, h1, h2⟩ := hown
  have hlt := h2.lt
  have h1' := ownsRow_below h1 hb
  have h2' := h2.below hb
  have hu1 : u.oneCell' = true := by
    rcases hu.2 with ⟨rfl, _⟩ | ⟨g, c, cur, rfl, _⟩ <;> rfl
  refine append_one tI64S w u hu1 s x hg ho hs h1' hx hlen (Nat.le_trans hbase hb.size) (fun v' w' k1 k2 k3 k4 => ?_)
  refine h v' w' ⟨vs ++ [u], ?_, ?_⟩ (FPair_kept (hp.alloc _) (h1'.alloc (.cells #[u] t)) k2) k3 k4
  · rw [List.length_append]; exact k1
  · have hsn : Rows2 w base (vs ++ [u]) (xss ++ [xs]) := Rows2.snoc (B := w0.heap.size) h2' (hu.lower hbase) (fun i v g hv hg => (hlt i v g hv hg).2) (fun g hg => (hu.lt g hg).1)
    exact (hsn.below ((Below.refl _ _).alloc (Nat.le_refl _) _)).kept (h1'.alloc (.cells #[u] t)) k2
def wantL (q : Nat → Nat → Bool) (s k : Nat) : List (Nat × Nat) := ((List.range k).filter fun t => !decide (s = t) && q s t).map fun t => (s, t)
def pairsL (q : Nat → Nat → Bool) (n : Nat) : Nat → List (Nat × Nat)
  | 0 => []
  | k + 1 => pairsL q n k ++ wantL q k n
theorem wantL_succ (q : Nat → Nat → Bool) (s k : Nat) : wantL q s (k + 1) = wantL q s k ++ if (!decide (s = k) && q s k) = true then [(s, k)] else [] := by
  unfold wantL
  rw [List.range_succ, List.filter_append, List.map_append]
  by_cases h : (!decide (s = k) && q s k) = true
  · rw [if_pos h]; simp only [List.filter_cons, h, if_true, List.filter_nil, List.map_cons, List.map_nil]
  · rw [if_neg h]; simp only [List.filter_cons, h, List.filter_nil]; simp
theorem wantL_yes {q : Nat → Nat → Bool} {s k : Nat} (h : ¬ s = k) (h2 : q s k = true) : wantL q s (k + 1) = wantL q s k ++ [(s, k)] := by
  rw [wantL_succ, decide_eq_false h, h2]; rfl
theorem wantL_no {q : Nat → Nat → Bool} {s k : Nat} (h : s = k ∨ q s k = false) : wantL q s (k + 1) = wantL q s k := by
  rw [wantL_succ]
  rcases h with h | h
  · rw [decide_eq_true h]; simp
  · rw [h]; simp
theorem wantL_len (q : Nat → Nat → Bool) (s k : Nat) : (wantL q s k).length ≤ k := by
  unfold wantL
  rw [List.length_map]
  exact Nat.le_trans (List.length_filter_le _ _) (by simp)
theorem pairsL_len (q : Nat → Nat → Bool) (n : Nat) : ∀ k, (pairsL q n k).length ≤ k * n
  | 0 => by simp [pairsL]
  | k + 1 => by
    have h1 := pairsL_len q n k
    have h2 := wantL_len q k n
    show (pairsL q n k ++ wantL q k n).length ≤ _
    rw [List.length_append, Nat.add_mul]
    omega
theorem wantL_mem {q : Nat → Nat → Bool} {s k : Nat} {p : Nat × Nat} (h : p ∈ wantL q s k) : p.1 = s ∧ p.2 < k := by
  unfold wantL at h
  rw [List.mem_map] at h
  obtain ⟨t, ht, rfl⟩ := h
  rw [List.mem_filter, List.mem_range] at ht
  exact ⟨rfl, ht.1⟩
theorem pairsL_mem {q : Nat → Nat → Bool} {n : Nat} : ∀ {k : Nat} {p : Nat × Nat}, p ∈ pairsL q n k → p.1 < k ∧ p.2 < n
  | 0, _, h => by simp [pairsL] at h
  | k + 1, p, h => by
    rcases List.mem_append.1 (show p ∈ pairsL q n k ++ wantL q k n from h) with h | h
    · have := pairsL_mem h; exact ⟨by omega, this.2⟩
    · have := wantL_mem h; exact ⟨by omega, this.2⟩
/-- the paths of pairs -/
noncomputable def pathsL (xss : List (List Int)) (n : Nat) (ps : List (Nat × Nat)) : List (List Int) := ps.map fun p => intsL (firstG (edgeP xss) n p.1 p.2)
theorem pathsL_len (xss : List (List Int)) (n : Nat) (ps : List (Nat × Nat)) : (pathsL xss n ps).length = ps.length := by simp [pathsL]
theorem pathsL_succ {xss : List (List Int)} {n : Nat} {ps : List (Nat × Nat)} {k : Nat} (h : k < ps.length) : pathsL xss n (ps.take (k + 1)) = pathsL xss n (ps.take k) ++ [intsL (firstG (edgeP xss) n ps[k].1 ps[k].2)] := by
  unfold pathsL
  rw [List.take_succ_eq_append_getElem h, List.map_append]; rfl
noncomputable def conC (n t : Int) (xss : List (List Int)) : Int := if chainOk n t xss = true then (if connB xss n.toNat = true then 0 else 4) else 1
theorem conC_zero {n t : Int} {xss : List (List Int)} (h : conC n t xss = 0) : chainOk n t xss = true ∧ connB xss n.toNat = true := by
  unfold conC at h
  split at h
  · split at h
    · exact ⟨‹_›, ‹_›⟩
    · omega
  · omega
def allQ : Nat → Nat → Bool := fun _ _ => true
noncomputable def pathsR (n t : Int) (xss : List (List Int)) : List (List Int) × Int := if conC n t xss = 0 then (pathsL xss n.toNat (pairsL allQ n.toNat n.toNat), 0) else ([], conC n t xss)
noncomputable def twoC (n t : Int) (xss : List (List Int)) (m u : Int) (yss : List (List Int)) : Int :=
  if (chainOk n t xss && chainOk m u yss) = true then (if n = m then (if (connB xss n.toNat && connB yss m.toNat) = true then 0 else 4) else 2) else 1
noncomputable def stepsR (n t : Int) (xss : List (List Int)) (m u : Int) (yss : List (List Int)) : List (List Int) × Int :=
  if twoC n t xss m u yss = 0 then (pathsL xss n.toNat (pairsL (edgeP yss) n.toNat n.toNat), 0) else ([], twoC n t xss m u yss)

set_option maxRecDepth 100000 in
set_option maxHeartbeats 4000000 in
theorem pairsOfAll_any {a : Option Addr} (ca n : Nat) (tt : Int) (q : Nat → Nat → Bool) (w : World) (hn : n ≤ 6)
    (hf : ∀ W s t, Below w.heap.size w W → s < n → t < n → Calls Try.prog 147 #[.int .i64 ((s : Nat) : Int), .int .i64 ((t : Nat) : Int)] W fun e w' => e = .returned (.bool (q s t)) ∧ Below W.heap.size W w') :
    Calls Try.prog 146 #[.agg #[.int .i64 n, .int .i64 tt, .slice a n ca], .func (.func 147) #[] #[]] w fun e w' => ∃ r, e = .returned r ∧ FPair.Own w' w.heap.size r (pairsL q n n) ∧ Below w.heap.size w w' := by
  have HF := Lib.hid hf
  have BX := Lib.hid (chBelow w n tt (.slice a n ca))
  have X := Lib.hid (chBox w n tt (.slice a n ca))
  obtain ⟨W1, hW1⟩ : ∃ W1, W1 = w.alloc (chObj n tt (.slice a n ca)) := ⟨_, rfl⟩
  rw [← hW1] at BX X
  have Z1 := Lib.hid (show W1.heap.size = w.heap.size + 1 by rw [hW1]; simp)
  have HW1 := Lib.hid (show w.alloc (.cells #[.int .i64 n, .int .i64 tt, .slice a n ca] 37) = W1 from hW1.symm)
  have E0 := Lib.hid (show FPair.Own (W1.alloc (.cells #[] 106)) W1.heap.size (.slice (some ⟨W1.heap.size, 0, none⟩) 0 0) [] from Flat.Own.empty W1 (Nat.le_refl _))
  have B0 := Lib.hid ((Below.refl W1.heap.size W1).alloc (Nat.le_refl _) (.cells #[] 106))
  have X1 := Lib.hid (X.out.below B0.out)
  obtain ⟨c00, x0, x1, x2⟩ := X1.out
  simp only [Nat.zero_add] at x0 x1 x2
  clear hf hW1
  go_enter Try.func146, Try.ntmps146
  go_wp2_with fail
  rw [HW1.out]
  go_loopw [5, 11] (fun r i wr => ∃ k : Nat, k ≤ n ∧ i = .int .i64 k ∧ FPair.Own wr W1.heap.size r (pairsL q n k) ∧ Below W1.heap.size W1 wr) (fun _ i _ => n - (intOf i).toNat)
  case atStart => exact ⟨0, Nat.zero_le _, rfl, by have h0 := E0.out; rw [Z1.out] at h0 ⊢; exact h0, B0.out⟩
  case round =>
    clear E0 B0 X1 x0 x1 x2 c00
    obtain ⟨k, hk, rfl, hown, hbw⟩ := hrel
    have HBW := Lib.hid hbw
    by_cases hkn : k < n
    · obtain ⟨c00, x0, x1, x2⟩ := X.out.below hbw
      simp only [Nat.zero_add] at x0 x1 x2
      have i1 : (k : Int) < (n : Int) := by omega
      have HO := Lib.hid (show FPair.Own wr W1.heap.size u5 (pairsL q n k ++ wantL q k 0) from by show FPair.Own _ _ _ (pairsL q n k ++ []); rw [List.append_nil]; exact hown)
      have hpl := pairsL_len q n k
      have hkn6 : k * n ≤ 36 := Nat.mul_le_mul (by omega : k ≤ 6) hn
      clear hown
      go_wp2
      go_loopw [5, 16] (fun r i wi => ∃ j : Nat, j ≤ n ∧ i = .int .i64 j ∧ FPair.Own wi W1.heap.size r (pairsL q n k ++ wantL q k j) ∧ Below W1.heap.size W1 wi) (fun _ i _ => n - (intOf i).toNat)
      case atStart => exact ⟨0, Nat.zero_le _, rfl, HO.out, HBW.out⟩
      case round =>
        clear HO HBW hbw x0 x1 x2 c00
        obtain ⟨j, hj, rfl, hown, hbw⟩ := hrel
        have HBW := Lib.hid hbw
        have HO := Lib.hid hown
        clear hown
        by_cases hjn : j < n
        · have i2 : (j : Int) < (n : Int) := by omega
          by_cases hkj : k = j
          · have t1 : ((k : Int) != (j : Int)) = false := by subst hkj; simp
            have HO2 := Lib.hid (show FPair.Own wr W1.heap.size u5 (pairsL q n k ++ wantL q k (j + 1)) from by rw [wantL_no (.inl hkj)]; exact HO.out)
            clear hkj hbw
            go_wp2
            go_roundw
            case rel => exact ⟨j + 1, by omega, by go_num, HO2.out, HBW.out⟩
            case measure => simp [intOf]; omega
          · have t1 : ((k : Int) != (j : Int)) = true := by simp only [bne_iff_ne, ne_eq]; omega
            have HKJ := Lib.hid hkj
            have HC := Lib.hid (HF.out wr k j (BX.out.trans (hbw.mono BX.out.size)) hkn hjn)
            generalize hq : q k j = Q at HC
            have HQ := Lib.hid hq
            clear hkj hbw hq
            go_wp2_with fail
            refine HC.out.mono ?_
            rintro e w3 ⟨rfl, b3⟩
            have HB3 := Lib.hid (HBW.out.trans (b3.mono HBW.out.size))
            have HO3 := Lib.hid (HO.out.below b3)
            clear b3 HC
            cases Q
            · have HO2 := Lib.hid (show FPair.Own w3 W1.heap.size u5 (pairsL q n k ++ wantL q k (j + 1)) from by rw [wantL_no (.inr HQ.out)]; exact HO3.out)
              go_wp2
              go_roundw
              case rel => exact ⟨j + 1, by omega, by go_num, HO2.out, HB3.out⟩
              case measure => simp [intOf]; omega
            · have hwl := wantL_len q k j
              have hsz := HB3.out.size
              have ho3 := HO3.out
              go_wp2_with (at_builtin; refine Flat.append FPair _ _ _ (ys := [(k, j)]) rfl rfl rfl (ho3.alloc _) rfl (rd_new _ _ _) (by rw [List.length_append]; simp; omega) (by simp; omega) ?_)
              intro v' w4 o4 g4 b4
              have HO4 := Lib.hid (show FPair.Own w4 W1.heap.size v' (pairsL q n k ++ wantL q k (j + 1)) from by rw [wantL_yes HKJ.out HQ.out]; exact o4)
              have HB4 := Lib.hid ((HB3.out.alloc hsz _).trans b4)
              clear o4 g4 b4 ho3
              go_wp2
              go_roundw
              case rel => exact ⟨j + 1, by omega, by go_num, HO4.out, HB4.out⟩
              case measure => simp [intOf]; omega
        · obtain rfl : j = n := by omega
          clear hbw
          go_wp2
          go_roundw
          case rel => exact ⟨k + 1, by omega, by go_num, HO.out, HBW.out⟩
          case measure => simp [intOf]; omega
    · obtain rfl : k = n := by omega
      have ho := HBW.out
      go_wp2
      go_ret
      exact ⟨_, rfl, hown.lower BX.out.size, BX.out.trans (hbw.mono BX.out.size)⟩

set_option maxRecDepth 100000 in
set_option maxHeartbeats 4000000 in
theorem pairsOfStep_any (cap0 : Value) {a : Option Addr} (ca n : Nat) (tt : Int) (q : Nat → Nat → Bool) (w : World) (hn : n ≤ 6)
    (hf : ∀ W s t, Below w.heap.size w W → s < n → t < n → Calls Try.prog 148 #[.int .i64 ((s : Nat) : Int), .int .i64 ((t : Nat) : Int), cap0] W fun e w' => e = .returned (.bool (q s t)) ∧ Below W.heap.size W w') :
    Calls Try.prog 146 #[.agg #[.int .i64 n, .int .i64 tt, .slice a n ca], .func (.func 148) #[] #[cap0]] w fun e w' => ∃ r, e = .returned r ∧ FPair.Own w' w.heap.size r (pairsL q n n) ∧ Below w.heap.size w w' := by
  have HF := Lib.hid hf
  have BX := Lib.hid (chBelow w n tt (.slice a n ca))
  have X := Lib.hid (chBox w n tt (.slice a n ca))
  obtain ⟨W1, hW1⟩ : ∃ W1, W1 = w.alloc (chObj n tt (.slice a n ca)) := ⟨_, rfl⟩
  rw [← hW1] at BX X
  have Z1 := Lib.hid (show W1.heap.size = w.heap.size + 1 by rw [hW1]; simp)
  have HW1 := Lib.hid (show w.alloc (.cells #[.int .i64 n, .int .i64 tt, .slice a n ca] 37) = W1 from hW1.symm)
  have E0 := Lib.hid (show FPair.Own (W1.alloc (.cells #[] 106)) W1.heap.size (.slice (some ⟨W1.heap.size, 0, none⟩) 0 0) [] from Flat.Own.empty W1 (Nat.le_refl _))
  have B0 := Lib.hid ((Below.refl W1.heap.size W1).alloc (Nat.le_refl _) (.cells #[] 106))
  have X1 := Lib.hid (X.out.below B0.out)
  obtain ⟨c00, x0, x1, x2⟩ := X1.out
  simp only [Nat.zero_add] at x0 x1 x2
  clear hf hW1
  go_enter Try.func146, Try.ntmps146
  go_wp2_with fail
  rw [HW1.out]
  go_loopw [5, 11] (fun r i wr => ∃ k : Nat, k ≤ n ∧ i = .int .i64 k ∧ FPair.Own wr W1.heap.size r (pairsL q n k) ∧ Below W1.heap.size W1 wr) (fun _ i _ => n - (intOf i).toNat)
  case atStart => exact ⟨0, Nat.zero_le _, rfl, by have h0 := E0.out; rw [Z1.out] at h0 ⊢; exact h0, B0.out⟩
  case round =>
    clear E0 B0 X1 x0 x1 x2 c00
    obtain ⟨k, hk, rfl, hown, hbw⟩ := hrel
    have HBW := Lib.hid hbw
    by_cases hkn : k < n
    · obtain ⟨c00, x0, x1, x2⟩ := X.out.below hbw
      simp only [Nat.zero_add] at x0 x1 x2
      have i1 : (k : Int) < (n : Int) := by omega
      have HO := Lib.hid (show FPair.Own wr W1.heap.size u5 (pairsL q n k ++ wantL q k 0) from by show FPair.Own _ _ _ (pairsL q n k ++ []); rw [List.append_nil]; exact hown)
      have hpl := pairsL_len q n k
      have hkn6 : k * n ≤ 36 := Nat.mul_le_mul (by omega : k ≤ 6) hn
      clear hown
      go_wp2
      go_loopw [5, 16] (fun r i wi => ∃ j : Nat, j ≤ n ∧ i = .int .i64 j ∧ FPair.Own wi W1.heap.size r (pairsL q n k ++ wantL q k j) ∧ Below W1.heap.size W1 wi) (fun _ i _ => n - (intOf i).toNat)
      case atStart => exact ⟨0, Nat.zero_le _, rfl, HO.out, HBW.out⟩
      case round =>
        clear HO HBW hbw x0 x1 x2 c00
        obtain ⟨j, hj, rfl, hown, hbw⟩ := hrel
        have HBW := Lib.hid hbw
        have HO := Lib.hid hown
        clear hown
        by_cases hjn : j < n
        · have i2 : (j : Int) < (n : Int) := by omega
          by_cases hkj : k = j
          · have t1 : ((k : Int) != (j : Int)) = false := by subst hkj; simp
            have HO2 := Lib.hid (show FPair.Own wr W1.heap.size u5 (pairsL q n k ++ wantL q k (j + 1)) from by rw [wantL_no (.inl hkj)]; exact HO.out)
            clear hkj hbw
            go_wp2
            go_roundw
            case rel => exact ⟨j + 1, by omega, by go_num, HO2.out, HBW.out⟩
            case measure => simp [intOf]; omega
          · have t1 : ((k : Int) != (j : Int)) = true := by simp only [bne_iff_ne, ne_eq]; omega
            have HKJ := Lib.hid hkj
            have HC := Lib.hid (HF.out wr k j (BX.out.trans (hbw.mono BX.out.size)) hkn hjn)
            generalize hq : q k j = Q at HC
            have HQ := Lib.hid hq
            clear hkj hbw hq
            go_wp2_with fail
            refine HC.out.mono ?_
            rintro e w3 ⟨rfl, b3⟩
            have HB3 := Lib.hid (HBW.out.trans (b3.mono HBW.out.size))
            have HO3 := Lib.hid (HO.out.below b3)
            clear b3 HC
            cases Q
            · have HO2 := Lib.hid (show FPair.Own w3 W1.heap.size u5 (pairsL q n k ++ wantL q k (j + 1)) from by rw [wantL_no (.inr HQ.out)]; exact HO3.out)
              go_wp2
              go_roundw
              case rel => exact ⟨j + 1, by omega, by go_num, HO2.out, HB3.out⟩
              case measure => simp [intOf]; omega
            · have hwl := wantL_len q k j
              have hsz := HB3.out.size
              have ho3 := HO3.out
              go_wp2_with (at_builtin; refine Flat.append FPair _ _ _ (ys := [(k, j)]) rfl rfl rfl (ho3.alloc _) rfl (rd_new _ _ _) (by rw [List.length_append]; simp; omega) (by simp; omega) ?_)
              intro v' w4 o4 g4 b4
              have HO4 := Lib.hid (show FPair.Own w4 W1.heap.size v' (pairsL q n k ++ wantL q k (j + 1)) from by rw [wantL_yes HKJ.out HQ.out]; exact o4)
              have HB4 := Lib.hid ((HB3.out.alloc hsz _).trans b4)
              clear o4 g4 b4 ho3
              go_wp2
              go_roundw
              case rel => exact ⟨j + 1, by omega, by go_num, HO4.out, HB4.out⟩
              case measure => simp [intOf]; omega
        · obtain rfl : j = n := by omega
          clear hbw
          go_wp2
          go_roundw
          case rel => exact ⟨k + 1, by omega, by go_num, HO.out, HBW.out⟩
          case measure => simp [intOf]; omega
    · obtain rfl : k = n := by omega
      have ho := HBW.out
      go_wp2
      go_ret
      exact ⟨_, rfl, hown.lower BX.out.size, BX.out.trans (hbw.mono BX.out.size)⟩

theorem allClo_any (s t : Nat) (w : World) : Calls Try.prog 147 #[.int .i64 s, .int .i64 t] w fun e w' => e = .returned (.bool (allQ s t)) ∧ Below w.heap.size w w' := by
  go_enter Try.func147, Try.ntmps147
  go_wp2
  go_ret
  exact ⟨rfl, Below.refl _ _⟩

set_option maxHeartbeats 1000000 in
theorem allPairs_any {a : Option Addr} (ca n : Nat) (tt : Int) (w : World) (hn : n ≤ 6) :
    Calls Try.prog 73 #[.agg #[.int .i64 n, .int .i64 tt, .slice a n ca]] w fun e w' => ∃ r, e = .returned r ∧ FPair.Own w' w.heap.size r (pairsL allQ n n) ∧ Below w.heap.size w w' := by
  have BX := Lib.hid (chBelow w n tt (.slice a n ca))
  go_enter Try.func73, Try.ntmps73
  go_wp2_with fail
  refine (pairsOfAll_any ca n tt allQ _ hn (fun W s t _ _ _ => allClo_any s t W)).mono ?_
  rintro e w1 ⟨r, rfl, o1, b1⟩
  go_wp2
  go_ret
  exact ⟨_, rfl, o1.lower BX.out.size, BX.out.trans (b1.mono BX.out.size)⟩

set_option maxHeartbeats 1000000 in
theorem stepsClo_any (b n s t : Nat) {v : Value} {xss : List (List Int)} {tt : Int} (w : World) (hc : ChainAt w b 0 n tt v) (ha : SlII w v xss) (hv : chainOk n tt xss = true) (hs : s < n) (ht : t < n) :
    Calls Try.prog 148 #[.int .i64 s, .int .i64 t, .pointer (some ⟨b, 0, none⟩)] w fun e w' => e = .returned (.bool (edgeP xss s t)) ∧ Below w.heap.size w w' := by
  obtain ⟨_, _, hnx, _⟩ := chainOk_parts0 hv
  have hux : s < xss.length := by omega
  obtain ⟨a, ca, us, rfl, _, _, _, _, _⟩ := id ha
  obtain ⟨c00, x0, x1, x2⟩ := hc
  simp only [Nat.zero_add] at x0 x1 x2
  obtain ⟨lb, off, ra, rc, rfl, hb, gr, sr⟩ := ha.nthJ hux
  have hrl : xss[s].length = n := by obtain ⟨_, hl, _⟩ := rowB_of hv hux; omega
  have hnx' : xss.length = n := by omega
  rw [hrl] at gr sr
  rw [hnx'] at x2
  have hjr : t < xss[s].length := by rw [hrl]; exact ht
  obtain ⟨rbx, ro, rfl, _, gx⟩ := sr.at_ hjr
  have hE := edgeP_at hux hjr
  generalize xss[s][t] = x at gx hE
  have HE := Lib.hid hE
  have i0 : (0 : Int) ≤ (s : Int) := by omega
  have i1 : (s : Int) < (n : Int) := by omega
  have i2 : (0 : Int) ≤ (t : Int) := by omega
  have i3 : (t : Int) < (n : Int) := by omega
  clear hE sr hrl hnx hnx' ha hv
  go_enter Try.func148, Try.ntmps148
  go_wp2
  go_ret
  exact ⟨rb HE.out.symm, Below.refl _ _⟩

set_option maxHeartbeats 1000000 in
theorem steps_any {v : Value} {xss : List (List Int)} {tt : Int} (n : Nat) (w : World) (ha : SlII w v xss) (hv : chainOk n tt xss = true) :
    Calls Try.prog 80 #[.agg #[.int .i64 n, .int .i64 tt, v]] w fun e w' => ∃ r, e = .returned r ∧ FPair.Own w' w.heap.size r (pairsL (edgeP xss) n n) ∧ Below w.heap.size w w' := by
  have HA := Lib.hid (fun W (h : Below w.heap.size w W) => ha.below h)
  obtain ⟨a, ca, us, rfl, _, _, _, _, _⟩ := ha
  obtain ⟨⟨hn1, hn2⟩, ⟨ht1, ht2⟩, hnx, _⟩ := chainOk_parts0 hv
  have hnx' : xss.length = n := by omega
  rw [hnx'] at HA ⊢
  have HV := Lib.hid hv
  have BX := Lib.hid (chBelow w n tt (.slice a n ca))
  have X := Lib.hid (chBox w n tt (.slice a n ca))
  have hmf : ∀ (fn : Fn) (first cap : Array Value) (w : World), (Instr.makeFunc fn first cap).run Try.prog w = .ok (.func fn first cap) w := fun _ _ _ _ => rfl
  clear hv hnx hnx'
  go_enter Try.func80, Try.ntmps80
  go_wp2_with fail
  refine (pairsOfStep_any (.pointer (some ⟨w.heap.size, 0, none⟩)) ca n tt (edgeP xss) _ (by omega) (fun W s t hW hs ht => stepsClo_any w.heap.size n s t W (X.out.below hW) (HA.out _ (BX.out.trans (hW.mono BX.out.size))) HV.out hs ht)).mono ?_
  rintro e w1 ⟨r, rfl, o1, b1⟩
  go_wp2
  go_ret
  exact ⟨_, rfl, o1.lower BX.out.size, BX.out.trans (b1.mono BX.out.size)⟩

set_option maxHeartbeats 1000000 in
theorem connectedCode_any {v : Value} {xss : List (List Int)} (n t : Int) (w : World) (ha : SlII w v xss) :
    Calls Try.prog 72 #[.agg #[.int .i64 n, .int .i64 t, v]] w fun e w' => e = .returned (.int .i64 (conC n t xss)) ∧ Below w.heap.size w w' := by
  have HA := Lib.hid (fun W (h : Below w.heap.size w W) => ha.below h)
  obtain ⟨a, ca, us, rfl, _, _, _, _, _⟩ := ha
  have BX := Lib.hid (chBelow w n t (.slice a xss.length ca))
  have X := Lib.hid (chBox w n t (.slice a xss.length ca))
  have hcc : conC n t xss = if chainOk n t xss = true then (if connB xss n.toNat = true then 0 else 4) else 1 := rfl
  generalize hok : chainOk n t xss = OK at hcc
  have HOK := Lib.hid hok
  have HCC := Lib.hid hcc
  clear hok hcc
  go_enter Try.func72, Try.ntmps72
  go_wp2_with fail
  refine (ValidChain_any n t _ (HA.out _ BX.out)).mono ?_
  rintro e w1 ⟨rfl, b1⟩
  rw [HOK.out]
  have B1 := Lib.hid (BX.out.trans (b1.mono BX.out.size))
  obtain ⟨y00, y0, y1, y2⟩ := X.out.below b1
  simp only [Nat.zero_add] at y0 y1 y2
  clear b1
  cases OK
  · go_wp2
    go_ret
    exact ⟨ri (by rw [HCC.out]; simp), B1.out⟩
  · obtain ⟨m, rfl, _, _⟩ := chain_nat HOK.out
    have hmm : connB xss (m : Int).toNat = connB xss m := by rw [Int.toNat_natCast]
    have HCC2 := Lib.hid (show conC (m : Int) t xss = if connB xss m = true then 0 else 4 from by rw [HCC.out, hmm]; simp)
    generalize hcb : connB xss m = CB at HCC2
    have HCB := Lib.hid hcb
    clear hcb hmm
    go_wp2_with fail
    refine (connected_any m _ (HA.out _ B1.out) HOK.out).mono ?_
    rintro e w2 ⟨rfl, b2⟩
    rw [HCB.out]
    have B2 := Lib.hid (B1.out.trans (b2.mono B1.out.size))
    clear b2 y0 y1 y2 y00
    cases CB
    · go_wp2
      go_ret
      exact ⟨ri (by rw [HCC2.out]; simp), B2.out⟩
    · go_wp2
      go_ret
      exact ⟨ri (by rw [HCC2.out]; simp), B2.out⟩

set_option maxRecDepth 100000 in
set_option maxHeartbeats 4000000 in
theorem ImplPathsOf_any {v : Value} {xss : List (List Int)} (n t : Int) (w : World) (ha : SlII w v xss) :
    Calls Try.prog 17 #[.agg #[.int .i64 n, .int .i64 t, v]] w fun e w' => ∃ r, e = .returned (.tuple #[r, .int .i64 (pathsR n t xss).2]) ∧ OwnII w' w.heap.size r (pathsR n t xss).1 ∧ Below w.heap.size w w' := by
  have HA := Lib.hid (fun W (h : Below w.heap.size w W) => ha.below h)
  obtain ⟨a, ca, us, rfl, _, _, _, _, _⟩ := ha
  have BX := Lib.hid (chBelow w n t (.slice a xss.length ca))
  have X := Lib.hid (chBox w n t (.slice a xss.length ca))
  have hpr : pathsR n t xss = if conC n t xss = 0 then (pathsL xss n.toNat (pairsL allQ n.toNat n.toNat), 0) else ([], conC n t xss) := rfl
  generalize hcc : conC n t xss = C at hpr
  have HCC := Lib.hid hcc
  have HPR := Lib.hid hpr
  clear hpr hcc
  go_enter Try.func17, Try.ntmps17
  go_wp2_with fail
  refine (connectedCode_any n t _ (HA.out _ BX.out)).mono ?_
  rintro e w1 ⟨rfl, b1⟩
  rw [HCC.out]
  have B1 := Lib.hid (BX.out.trans (b1.mono BX.out.size))
  have X1 := Lib.hid (X.out.below b1)
  obtain ⟨y00, y0, y1, y2⟩ := X1.out
  simp only [Nat.zero_add] at y0 y1 y2
  clear b1
  by_cases h0 : C = 0
  · subst h0
    obtain ⟨hok, hcn⟩ := conC_zero HCC.out
    obtain ⟨m, rfl, hm1, hm6⟩ := chain_nat hok
    rw [Int.toNat_natCast] at hcn
    obtain ⟨_, _, hnx, _⟩ := chainOk_parts0 hok
    have hnx' : xss.length = m := by omega
    rw [hnx'] at HA X1 y2 ⊢
    have HOK := Lib.hid hok
    have HCN := Lib.hid hcn
    have HP2 := Lib.hid (show pathsR (m : Int) t xss = (pathsL xss m (pairsL allQ m m), 0) from by rw [HPR.out, Int.toNat_natCast]; rfl)
    have hpl := pairsL_len allQ m m
    have hmm : m * m ≤ 36 := Nat.mul_le_mul hm6 hm6
    obtain ⟨PS, hPS⟩ : ∃ PS, PS = pairsL allQ m m := ⟨_, rfl⟩
    have HMEM := Lib.hid (show ∀ p ∈ PS, p.1 < m ∧ p.2 < m from fun p hp => by rw [hPS] at hp; exact pairsL_mem hp)
    have HPS := Lib.hid hPS
    rw [← hPS] at hpl
    have E1 := Lib.hid (OwnII.empty w1 (base := w1.heap.size) (Nat.le_refl _))
    have bE : Below w1.heap.size w1 (w1.alloc (.cells #[] 59)) := (Below.refl _ _).alloc (Nat.le_refl _) _
    have BE := Lib.hid bE
    obtain ⟨z00, z0, z1, z2⟩ := X1.out.below bE
    simp only [Nat.zero_add] at z0 z1 z2
    clear hok hcn hnx hnx' hPS bE HPR
    go_wp2_with fail
    refine (allPairs_any ca m t _ hm6).mono ?_
    rintro e w2 ⟨rp, rfl, o2, b2⟩
    rw [← HPS.out] at o2
    have B2 := Lib.hid (BE.out.trans (b2.mono BE.out.size))
    have E2 := Lib.hid (E1.out.below b2)
    have OP := Lib.hid (show FPair.Own w2 w1.heap.size rp PS from o2.lower BE.out.size)
    obtain ⟨pa, pc, rfl, _, hpc, _⟩ := id o2.sl
    clear o2 b2 y0 y1 y2 y00 z0 z1 z2 z00
    go_wp2
    go_loopw [5, 17] (fun r i wr => ∃ k : Nat, k ≤ PS.length ∧ i = .int .i64 k ∧ OwnII wr w1.heap.size r (pathsL xss m (PS.take k)) ∧ Below w1.heap.size w1 wr ∧ FPair.Own wr w1.heap.size (.slice pa PS.length pc) PS) (fun _ i _ => PS.length - (intOf i).toNat)
    case atStart => exact ⟨0, Nat.zero_le _, rfl, by simpa [pathsL] using E2.out, B2.out, OP.out⟩
    case round =>
      clear E1 E2
      clear OP
      obtain ⟨k, hk, rfl, hown, hbw, hpo⟩ := hrel
      by_cases hlt : k < PS.length
      · obtain ⟨pb, po, rfl, _, gp0, gp1⟩ := FPair_at hpo.sl hlt
        obtain ⟨hp1, hp2⟩ := HMEM.out _ (List.getElem_mem hlt)
        have hst := pathsL_succ (xss := xss) (n := m) hlt
        have hll := pathsL_len xss m (PS.take k)
        generalize PS[k] = p at gp0 gp1 hp1 hp2 hst
        obtain ⟨ps, pt⟩ := p
        dsimp only at gp0 gp1 hp1 hp2 hst
        have i1 : (k : Int) < (PS.length : Int) := by omega
        have HST := Lib.hid hst
        obtain ⟨y00, y0, y1, y2⟩ := X1.out.below hbw
        simp only [Nat.zero_add] at y0 y1 y2
        have HO := Lib.hid hown
        have bD : Below wr.heap.size wr (wr.alloc (.cells #[.int .i64 ps, .int .i64 pt] 106)) := (Below.refl _ _).alloc (Nat.le_refl _) _
        have BD := Lib.hid bD
        have HB1 := Lib.hid (hbw.trans (bD.mono hbw.size))
        have HPO := Lib.hid (hpo.below bD)
        obtain ⟨z00, z0, z1, z2⟩ := X1.out.below HB1.out
        simp only [Nat.zero_add] at z0 z1 z2
        have hz1 := hbw.size
        have hll2 : (PS.take k).length = k := by rw [List.length_take]; omega
        rw [hll2] at hll
        clear hst hown hbw hpo bD
        go_wp2_with fail
        refine (firstPath_any m ps pt _ (HA.out _ (B1.out.trans (HB1.out.mono B1.out.size))) HOK.out HCN.out hp1 hp2).mono ?_
        rintro e w4 ⟨rf, rfl, o4, b4⟩
        obtain ⟨fa, fc, rfl, _, _, _⟩ := id o4.sl
        have o5 := o4.lower (base' := wr.heap.size) BD.out.size
        have b5 := BD.out.trans (b4.mono BD.out.size)
        have ho := HO.out
        have HB4 := Lib.hid (HB1.out.trans (b4.mono HB1.out.size))
        have hpo4 := HPO.out.below b4
        have hln : (pathsL xss m (PS.take k)).length < 16777216 := by omega
        clear o4 b4 y0 y1 y2 y00 z0 z1 z2 z00 gp0 gp1
        go_wp2_with (at_builtin; refine append_rowP wr _ _ _ rfl rfl rfl ho b5 o5 hpo4 rfl hln hz1 ?_)
        intro v7 w7 o7 p7 b7 z7
        have HB7 := Lib.hid ((HB4.out.alloc HB4.out.size _).trans b7)
        rw [← HST.out] at o7
        clear b7 ho o5 b5 hpo4
        go_wp2
        go_roundw
        case rel => exact ⟨k + 1, by omega, by go_num, o7, HB7.out, p7⟩
        case measure => simp [intOf]; omega
      · obtain rfl : k = PS.length := by omega
        rw [List.take_length] at hown
        have HO := Lib.hid hown
        go_wp2
        go_ret2
        exact ⟨_, by rw [HP2.out]; rfl, by rw [HP2.out]; show OwnII _ _ _ (pathsL xss m (pairsL allQ m m)); rw [← HPS.out]; exact HO.out.lower B1.out.size, B1.out.trans (hbw.mono B1.out.size)⟩
  · have h0' : ¬ ((C : Int) = 0) := h0
    have HP2 := Lib.hid (show pathsR n t xss = ([], C) from by rw [HPR.out, if_neg h0])
    have t1 : (C != 0) = true := by simp only [bne_iff_ne, ne_eq]; exact h0
    clear h0 h0'
    go_wp2
    go_ret2
    exact ⟨_, by rw [HP2.out]; rfl, by rw [HP2.out]; exact OwnII.nil _ _, B1.out⟩
end Go.Proofs.Ytpmabnohdabbdaa
namespace Go.Proofs.Ytpmabnohdabbdaa
open Go.RowKit Go.Sort
theorem ChainAt_b {w W : World} {n t : Int} {v : Value} {b : Nat} (h : ChainAt w b 0 n t v) (hb : Below w.heap.size w W) : ChainAt W b 0 n t v := h.below hb
noncomputable def pairC (n t : Int) (xss : List (List Int)) (m u : Int) (yss : List (List Int)) : Int := if (chainOk n t xss && chainOk m u yss) = true then (if n = m then 0 else 2) else 1

set_option maxHeartbeats 2000000 in
theorem pairCode_any {v y : Value} {xss yss : List (List Int)} (n t m u : Int) (w : World) (ha : SlII w v xss) (hb : SlII w y yss) :
    Calls Try.prog 122 #[.agg #[.int .i64 n, .int .i64 t, v], .agg #[.int .i64 m, .int .i64 u, y]] w fun e w' => e = .returned (.int .i64 (pairC n t xss m u yss)) ∧ Below w.heap.size w w' := by
  have HA := Lib.hid (fun W (h : Below w.heap.size w W) => ha.below h)
  have HB := Lib.hid (fun W (h : Below w.heap.size w W) => hb.below h)
  obtain ⟨a, ca, us, rfl, _, _, _, _, _⟩ := ha
  obtain ⟨a2, ca2, us2, rfl, _, _, _, _, _⟩ := hb
  have hpc : pairC n t xss m u yss = if (chainOk n t xss && chainOk m u yss) = true then (if n = m then 0 else 2) else 1 := rfl
  generalize hok : chainOk n t xss = OK at hpc
  generalize hok2 : chainOk m u yss = OK2 at hpc
  have HOK := Lib.hid hok
  have HOK2 := Lib.hid hok2
  have HPC := Lib.hid hpc
  have X := Lib.hid (chBox w n t (.slice a xss.length ca))
  have BX := Lib.hid (chBelow w n t (.slice a xss.length ca))
  have Y := Lib.hid (chBox (w.alloc (chObj n t (.slice a xss.length ca))) m u (.slice a2 yss.length ca2))
  have BY0 := Lib.hid (chBelow (w.alloc (chObj n t (.slice a xss.length ca))) m u (.slice a2 yss.length ca2))
  have X2 := Lib.hid (X.out.below BY0.out)
  have BY := Lib.hid (BX.out.trans (BY0.out.mono BX.out.size))
  have hys : (w.alloc (chObj n t (.slice a xss.length ca))).heap.size = w.heap.size + 1 := by simp
  rw [hys] at Y
  obtain ⟨W2, hW2⟩ : ∃ W2, W2 = (w.alloc (chObj n t (.slice a xss.length ca))).alloc (chObj m u (.slice a2 yss.length ca2)) := ⟨_, rfl⟩
  rw [← hW2] at Y X2 BY
  have HW2 := Lib.hid (show (w.alloc (.cells #[.int .i64 n, .int .i64 t, .slice a xss.length ca] 37)).alloc (.cells #[.int .i64 m, .int .i64 u, .slice a2 yss.length ca2] 37) = W2 from hW2.symm)
  obtain ⟨c00, x0, x1, x2⟩ := X2.out
  obtain ⟨d00, y0, y1, y2⟩ := Y.out
  simp only [Nat.zero_add] at x0 x1 x2 y0 y1 y2
  clear hok hok2 hpc hW2 hys X BX BY0
  go_enter Try.func122, Try.ntmps122
  go_wp2_with fail
  rw [HW2.out]
  refine (ValidChain_any n t _ (HA.out _ BY.out)).mono ?_
  rintro e w1 ⟨rfl, b1⟩
  rw [HOK.out]
  have B1 := Lib.hid (BY.out.trans (b1.mono BY.out.size))
  have X3 := Lib.hid (X2.out.below b1)
  have Y3 := Lib.hid (Y.out.below b1)
  clear b1 x0 x1 x2 c00 y0 y1 y2 d00
  obtain ⟨c00, x0, x1, x2⟩ := X3.out
  obtain ⟨d00, y0, y1, y2⟩ := Y3.out
  simp only [Nat.zero_add] at x0 x1 x2 y0 y1 y2
  cases OK
  · go_wp2
    go_ret
    exact ⟨ri (by rw [HPC.out]; simp), B1.out⟩
  · skip
    go_wp2_with fail
    refine (ValidChain_any m u _ (HB.out _ B1.out)).mono ?_
    rintro e w2 ⟨rfl, b2⟩
    rw [HOK2.out]
    have B2 := Lib.hid (B1.out.trans (b2.mono B1.out.size))
    have X4 := Lib.hid (X3.out.below b2)
    have Y4 := Lib.hid (Y3.out.below b2)
    clear b2 x0 x1 x2 c00 y0 y1 y2 d00
    obtain ⟨c00, x0, x1, x2⟩ := X4.out
    obtain ⟨d00, y0, y1, y2⟩ := Y4.out
    simp only [Nat.zero_add] at x0 x1 x2 y0 y1 y2
    cases OK2
    · go_wp2
      go_ret
      exact ⟨ri (by rw [HPC.out]; simp), B2.out⟩
    · by_cases hnm : n = m
      · have t1 : (n != m) = false := by subst hnm; simp
        have HP2 := Lib.hid (show pairC n t xss m u yss = 0 from by rw [HPC.out]; simp [hnm])
        clear hnm
        go_wp2
        go_ret
        exact ⟨ri HP2.out.symm, B2.out⟩
      · have t1 : (n != m) = true := by simp only [bne_iff_ne, ne_eq]; exact hnm
        have HP2 := Lib.hid (show pairC n t xss m u yss = 2 from by rw [HPC.out]; simp [hnm])
        clear hnm
        go_wp2
        go_ret
        exact ⟨ri HP2.out.symm, B2.out⟩
theorem twoC_eq (n t : Int) (xss : List (List Int)) (m u : Int) (yss : List (List Int)) : twoC n t xss m u yss = if pairC n t xss m u yss = 0 then (if (connB xss n.toNat && connB yss m.toNat) = true then 0 else 4) else pairC n t xss m u yss := by
  unfold twoC pairC
  by_cases h : (chainOk n t xss && chainOk m u yss) = true
  · rw [if_pos h, if_pos h]
    by_cases h2 : n = m
    · rw [if_pos h2, if_pos h2, if_pos rfl]
    · rw [if_neg h2, if_neg h2, if_neg (by decide)]
  · rw [if_neg h, if_neg h, if_neg (by decide)]
theorem pairC_zero {n t : Int} {xss : List (List Int)} {m u : Int} {yss : List (List Int)} (h : pairC n t xss m u yss = 0) : chainOk n t xss = true ∧ chainOk m u yss = true ∧ n = m := by
  unfold pairC at h
  split at h
  · rename_i h1
    rw [Bool.and_eq_true] at h1
    split at h
    · exact ⟨h1.1, h1.2, ‹_›⟩
    · omega
  · omega
theorem twoC_zero {n t : Int} {xss : List (List Int)} {m u : Int} {yss : List (List Int)} (h : twoC n t xss m u yss = 0) : chainOk n t xss = true ∧ chainOk m u yss = true ∧ n = m ∧ connB xss n.toNat = true ∧ connB yss m.toNat = true := by
  rw [twoC_eq] at h
  split at h
  · rename_i h1
    obtain ⟨h2, h3, h4⟩ := pairC_zero h1
    split at h
    · rename_i h5
      rw [Bool.and_eq_true] at h5
      exact ⟨h2, h3, h4, h5.1, h5.2⟩
    · omega
  · rename_i h1; exact absurd h h1

set_option maxHeartbeats 2000000 in
theorem twoCode_any {v y : Value} {xss yss : List (List Int)} (n t m u : Int) (w : World) (ha : SlII w v xss) (hb : SlII w y yss) :
    Calls Try.prog 79 #[.agg #[.int .i64 n, .int .i64 t, v], .agg #[.int .i64 m, .int .i64 u, y]] w fun e w' => e = .returned (.int .i64 (twoC n t xss m u yss)) ∧ Below w.heap.size w w' := by
  have HA := Lib.hid (fun W (h : Below w.heap.size w W) => ha.below h)
  have HB := Lib.hid (fun W (h : Below w.heap.size w W) => hb.below h)
  obtain ⟨a, ca, us, rfl, _, _, _, _, _⟩ := ha
  obtain ⟨a2, ca2, us2, rfl, _, _, _, _, _⟩ := hb
  have hpc := twoC_eq n t xss m u yss
  generalize hok : pairC n t xss m u yss = C at hpc
  have HOK := Lib.hid hok
  have HPC := Lib.hid hpc
  have X := Lib.hid (chBox w n t (.slice a xss.length ca))
  have BX := Lib.hid (chBelow w n t (.slice a xss.length ca))
  have Y := Lib.hid (chBox (w.alloc (chObj n t (.slice a xss.length ca))) m u (.slice a2 yss.length ca2))
  have BY0 := Lib.hid (chBelow (w.alloc (chObj n t (.slice a xss.length ca))) m u (.slice a2 yss.length ca2))
  have X2 := Lib.hid (X.out.below BY0.out)
  have BY := Lib.hid (BX.out.trans (BY0.out.mono BX.out.size))
  have hys : (w.alloc (chObj n t (.slice a xss.length ca))).heap.size = w.heap.size + 1 := by simp
  rw [hys] at Y
  obtain ⟨W2, hW2⟩ : ∃ W2, W2 = (w.alloc (chObj n t (.slice a xss.length ca))).alloc (chObj m u (.slice a2 yss.length ca2)) := ⟨_, rfl⟩
  rw [← hW2] at Y X2 BY
  have HW2 := Lib.hid (show (w.alloc (.cells #[.int .i64 n, .int .i64 t, .slice a xss.length ca] 37)).alloc (.cells #[.int .i64 m, .int .i64 u, .slice a2 yss.length ca2] 37) = W2 from hW2.symm)
  clear hok hpc hW2 hys X BX BY0
  go_enter Try.func79, Try.ntmps79
  go_wp2_with fail
  rw [HW2.out]
  refine (pairCode_any n t m u _ (HA.out _ BY.out) (HB.out _ BY.out)).mono ?_
  rintro e w1 ⟨rfl, b1⟩
  rw [HOK.out]
  have B1 := Lib.hid (BY.out.trans (b1.mono BY.out.size))
  have X3 := Lib.hid (X2.out.below b1)
  have Y3 := Lib.hid (Y.out.below b1)
  clear b1
  obtain ⟨c00, x0, x1, x2⟩ := X3.out
  obtain ⟨d00, y0, y1, y2⟩ := Y3.out
  simp only [Nat.zero_add] at x0 x1 x2 y0 y1 y2
  by_cases h0 : C = 0
  · subst h0
    obtain ⟨hk1, hk2, rfl⟩ := pairC_zero HOK.out
    obtain ⟨q, rfl, _, _⟩ := chain_nat hk1
    have hqq : connB xss (q : Int).toNat = connB xss q ∧ connB yss (q : Int).toNat = connB yss q := by rw [Int.toNat_natCast]; exact ⟨rfl, rfl⟩
    have HP2 := Lib.hid (show twoC (q : Int) t xss q u yss = if (connB xss q && connB yss q) = true then 0 else 4 from by rw [HPC.out, hqq.1, hqq.2]; rfl)
    generalize hc1 : connB xss q = K1 at HP2
    generalize hc2 : connB yss q = K2 at HP2
    have HC1 := Lib.hid hc1
    have HC2 := Lib.hid hc2
    have HK1 := Lib.hid hk1
    have HK2 := Lib.hid hk2
    clear hc1 hc2 hk1 hk2 hqq
    go_wp2_with fail
    refine (connected_any q _ (HA.out _ B1.out) HK1.out).mono ?_
    rintro e w2 ⟨rfl, b2⟩
    rw [HC1.out]
    have B2 := Lib.hid (B1.out.trans (b2.mono B1.out.size))
    have Y4 := Lib.hid (Y3.out.below b2)
    clear b2 x0 x1 x2 c00 y0 y1 y2 d00
    obtain ⟨d00, y0, y1, y2⟩ := Y4.out
    simp only [Nat.zero_add] at y0 y1 y2
    cases K1
    · go_wp2
      go_ret
      exact ⟨ri (by rw [HP2.out]; simp), B2.out⟩
    · skip
      go_wp2_with fail
      refine (connected_any q _ (HB.out _ B2.out) HK2.out).mono ?_
      rintro e w3 ⟨rfl, b3⟩
      rw [HC2.out]
      have B3 := Lib.hid (B2.out.trans (b3.mono B2.out.size))
      clear b3 y0 y1 y2 d00
      cases K2
      · go_wp2
        go_ret
        exact ⟨ri (by rw [HP2.out]; simp), B3.out⟩
      · go_wp2
        go_ret
        exact ⟨ri (by rw [HP2.out]; simp), B3.out⟩
  · have t1 : (C != 0) = true := by simp only [bne_iff_ne, ne_eq]; exact h0
    have HP2 := Lib.hid (show twoC n t xss m u yss = C from by rw [HPC.out, if_neg h0])
    clear h0
    go_wp2
    go_ret
    exact ⟨ri HP2.out.symm, B1.out⟩

set_option maxRecDepth 100000 in
set_option maxHeartbeats 4000000 in
theorem ImplStepPaths_any {v y : Value} {xss yss : List (List Int)} (n t m0 u0 : Int) (w : World) (ha : SlII w v xss) (hb : SlII w y yss) :
    Calls Try.prog 24 #[.agg #[.int .i64 n, .int .i64 t, v], .agg #[.int .i64 m0, .int .i64 u0, y]] w fun e w' => ∃ r, e = .returned (.tuple #[r, .int .i64 (stepsR n t xss m0 u0 yss).2]) ∧ OwnII w' w.heap.size r (stepsR n t xss m0 u0 yss).1 ∧ Below w.heap.size w w' := by
  have HA := Lib.hid (fun W (h : Below w.heap.size w W) => ha.below h)
  have HB := Lib.hid (fun W (h : Below w.heap.size w W) => hb.below h)
  obtain ⟨a, ca, us, rfl, _, _, _, _, _⟩ := ha
  obtain ⟨a2, ca2, us2, rfl, _, _, _, _, _⟩ := hb
  have X := Lib.hid (chBox w n t (.slice a xss.length ca))
  have BX := Lib.hid (chBelow w n t (.slice a xss.length ca))
  have Y := Lib.hid (chBox (w.alloc (chObj n t (.slice a xss.length ca))) m0 u0 (.slice a2 yss.length ca2))
  have BY0 := Lib.hid (chBelow (w.alloc (chObj n t (.slice a xss.length ca))) m0 u0 (.slice a2 yss.length ca2))
  have X2 := Lib.hid (X.out.below BY0.out)
  have BY := Lib.hid (BX.out.trans (BY0.out.mono BX.out.size))
  have hys : (w.alloc (chObj n t (.slice a xss.length ca))).heap.size = w.heap.size + 1 := by simp
  rw [hys] at Y
  obtain ⟨W2, hW2⟩ : ∃ W2, W2 = (w.alloc (chObj n t (.slice a xss.length ca))).alloc (chObj m0 u0 (.slice a2 yss.length ca2)) := ⟨_, rfl⟩
  rw [← hW2] at Y X2 BY
  have HW2 := Lib.hid (show (w.alloc (.cells #[.int .i64 n, .int .i64 t, .slice a xss.length ca] 37)).alloc (.cells #[.int .i64 m0, .int .i64 u0, .slice a2 yss.length ca2] 37) = W2 from hW2.symm)
  clear hW2 hys X BX BY0
  have hpr : stepsR n t xss m0 u0 yss = if twoC n t xss m0 u0 yss = 0 then (pathsL xss n.toNat (pairsL (edgeP yss) n.toNat n.toNat), 0) else ([], twoC n t xss m0 u0 yss) := rfl
  generalize hcc : twoC n t xss m0 u0 yss = C at hpr
  have HCC := Lib.hid hcc
  have HPR := Lib.hid hpr
  clear hpr hcc
  go_enter Try.func24, Try.ntmps24
  go_wp2_with fail
  rw [HW2.out]
  refine (twoCode_any n t m0 u0 _ (HA.out _ BY.out) (HB.out _ BY.out)).mono ?_
  rintro e w1 ⟨rfl, b1⟩
  rw [HCC.out]
  have B1 := Lib.hid (BY.out.trans (b1.mono BY.out.size))
  have X1 := Lib.hid (X2.out.below b1)
  have Y1 := Lib.hid (Y.out.below b1)
  obtain ⟨y00, y0, y1, y2⟩ := X1.out
  obtain ⟨q00, q0, q1, q2⟩ := Y1.out
  simp only [Nat.zero_add] at y0 y1 y2 q0 q1 q2
  clear b1
  by_cases h0 : C = 0
  · subst h0
    obtain ⟨hok, hok2, rfl, hcn, _⟩ := twoC_zero HCC.out
    obtain ⟨m, rfl, hm1, hm6⟩ := chain_nat hok
    obtain ⟨_, _, hny, _⟩ := chainOk_parts0 hok2
    have hny' : yss.length = m := by omega
    rw [hny'] at HB Y1 q2
    have HOK2 := Lib.hid hok2
    rw [Int.toNat_natCast] at hcn
    obtain ⟨_, _, hnx, _⟩ := chainOk_parts0 hok
    have hnx' : xss.length = m := by omega
    rw [hnx'] at HA X1 y2
    have HOK := Lib.hid hok
    have HCN := Lib.hid hcn
    have HP2 := Lib.hid (show stepsR (m : Int) t xss (m : Int) u0 yss = (pathsL xss m (pairsL (edgeP yss) m m), 0) from by rw [HPR.out, Int.toNat_natCast]; rfl)
    have hpl := pairsL_len (edgeP yss) m m
    have hmm : m * m ≤ 36 := Nat.mul_le_mul hm6 hm6
    obtain ⟨PS, hPS⟩ : ∃ PS, PS = pairsL (edgeP yss) m m := ⟨_, rfl⟩
    have HMEM := Lib.hid (show ∀ p ∈ PS, p.1 < m ∧ p.2 < m from fun p hp => by rw [hPS] at hp; exact pairsL_mem hp)
    have HPS := Lib.hid hPS
    rw [← hPS] at hpl
    have E1 := Lib.hid (OwnII.empty w1 (base := w1.heap.size) (Nat.le_refl _))
    have bE : Below w1.heap.size w1 (w1.alloc (.cells #[] 59)) := (Below.refl _ _).alloc (Nat.le_refl _) _
    have BE := Lib.hid bE
    obtain ⟨z00, z0, z1, z2⟩ := Y1.out.below bE
    simp only [Nat.zero_add] at z0 z1 z2
    clear hok hok2 hcn hnx hnx' hny hny' hPS bE HPR
    go_wp2_with fail
    refine (steps_any m _ (HB.out _ (B1.out.trans (BE.out.mono B1.out.size))) HOK2.out).mono ?_
    rintro e w2 ⟨rp, rfl, o2, b2⟩
    rw [← HPS.out] at o2
    have B2 := Lib.hid (BE.out.trans (b2.mono BE.out.size))
    have E2 := Lib.hid (E1.out.below b2)
    have OP := Lib.hid (show FPair.Own w2 w1.heap.size rp PS from o2.lower BE.out.size)
    obtain ⟨pa, pc, rfl, _, hpc, _⟩ := id o2.sl
    clear o2 b2 y0 y1 y2 y00 q0 q1 q2 q00 z0 z1 z2 z00
    go_wp2
    go_loopw [7, 20] (fun r i wr => ∃ k : Nat, k ≤ PS.length ∧ i = .int .i64 k ∧ OwnII wr w1.heap.size r (pathsL xss m (PS.take k)) ∧ Below w1.heap.size w1 wr ∧ FPair.Own wr w1.heap.size (.slice pa PS.length pc) PS) (fun _ i _ => PS.length - (intOf i).toNat)
    case atStart => exact ⟨0, Nat.zero_le _, rfl, by simpa [pathsL] using E2.out, B2.out, OP.out⟩
    case round =>
      clear E1 E2
      clear OP
      obtain ⟨k, hk, rfl, hown, hbw, hpo⟩ := hrel
      by_cases hlt : k < PS.length
      · obtain ⟨pb, po, rfl, _, gp0, gp1⟩ := FPair_at hpo.sl hlt
        obtain ⟨hp1, hp2⟩ := HMEM.out _ (List.getElem_mem hlt)
        have hst := pathsL_succ (xss := xss) (n := m) hlt
        have hll := pathsL_len xss m (PS.take k)
        generalize PS[k] = p at gp0 gp1 hp1 hp2 hst
        obtain ⟨ps, pt⟩ := p
        dsimp only at gp0 gp1 hp1 hp2 hst
        have i1 : (k : Int) < (PS.length : Int) := by omega
        have HST := Lib.hid hst
        obtain ⟨y00, y0, y1, y2⟩ := X1.out.below hbw
        simp only [Nat.zero_add] at y0 y1 y2
        have HO := Lib.hid hown
        have bD : Below wr.heap.size wr (wr.alloc (.cells #[.int .i64 ps, .int .i64 pt] 106)) := (Below.refl _ _).alloc (Nat.le_refl _) _
        have BD := Lib.hid bD
        have HB1 := Lib.hid (hbw.trans (bD.mono hbw.size))
        have HPO := Lib.hid (hpo.below bD)
        obtain ⟨z00, z0, z1, z2⟩ := X1.out.below HB1.out
        simp only [Nat.zero_add] at z0 z1 z2
        have hz1 := hbw.size
        have hll2 : (PS.take k).length = k := by rw [List.length_take]; omega
        rw [hll2] at hll
        clear hst hown hbw hpo bD
        go_wp2_with fail
        refine (firstPath_any m ps pt _ (HA.out _ (B1.out.trans (HB1.out.mono B1.out.size))) HOK.out HCN.out hp1 hp2).mono ?_
        rintro e w4 ⟨rf, rfl, o4, b4⟩
        obtain ⟨fa, fc, rfl, _, _, _⟩ := id o4.sl
        have o5 := o4.lower (base' := wr.heap.size) BD.out.size
        have b5 := BD.out.trans (b4.mono BD.out.size)
        have ho := HO.out
        have HB4 := Lib.hid (HB1.out.trans (b4.mono HB1.out.size))
        have hpo4 := HPO.out.below b4
        have hln : (pathsL xss m (PS.take k)).length < 16777216 := by omega
        clear o4 b4 y0 y1 y2 y00 z0 z1 z2 z00 gp0 gp1
        go_wp2_with (at_builtin; refine append_rowP wr _ _ _ rfl rfl rfl ho b5 o5 hpo4 rfl hln hz1 ?_)
        intro v7 w7 o7 p7 b7 z7
        have HB7 := Lib.hid ((HB4.out.alloc HB4.out.size _).trans b7)
        rw [← HST.out] at o7
        clear b7 ho o5 b5 hpo4
        go_wp2
        go_roundw
        case rel => exact ⟨k + 1, by omega, by go_num, o7, HB7.out, p7⟩
        case measure => simp [intOf]; omega
      · obtain rfl : k = PS.length := by omega
        rw [List.take_length] at hown
        have HO := Lib.hid hown
        go_wp2
        go_ret2
        exact ⟨_, by rw [HP2.out]; rfl, by rw [HP2.out]; show OwnII _ _ _ (pathsL xss m (pairsL (edgeP yss) m m)); rw [← HPS.out]; exact HO.out.lower B1.out.size, B1.out.trans (hbw.mono B1.out.size)⟩
  · have h0' : ¬ ((C : Int) = 0) := h0
    have HP2 := Lib.hid (show stepsR n t xss m0 u0 yss = ([], C) from by rw [HPR.out, if_neg h0])
    have t1 : (C != 0) = true := by simp only [bne_iff_ne, ne_eq]; exact h0
    clear h0 h0'
    go_wp2
    go_ret2
    exact ⟨_, by rw [HP2.out]; rfl, by rw [HP2.out]; exact OwnII.nil _ _, B1.out⟩
end Go.Proofs.Ytpmabnohdabbdaa
