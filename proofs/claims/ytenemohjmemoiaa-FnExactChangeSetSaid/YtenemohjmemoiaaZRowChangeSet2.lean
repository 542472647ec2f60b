/-
  Slices of flat elements (some one-cell fields each): read, owned, made, grown; append of any slice. With it: Chains and services: counted, copied, compared. Which services are valid. Arguments of laws: boxed services. Marks written into what a law has handed in: what is made later, and what was there before, stays. Frames: what stays where some blocks alone are written; cells of a new block. Graphs: copied, counted, compared. SameGraph, both. Graphs: valid or not, both sides. Graphs: valid or not, both sides.
-/
import Derived.Test.YtenemohjmemoiaaZRowChangeSet1
set_option linter.unusedVariables false
set_option linter.unusedSimpArgs false
namespace Go.Proofs.Ytenemohjmemoiaa
open Go.RowKit Go.Sort
def chSame (s t : Int) (xss : List (List Int)) (s' t' : Int) (yss : List (List Int)) : Bool := decide (s = s') && (decide (t = t') && decide (xss = yss))
end Go.Proofs.Ytenemohjmemoiaa
namespace Go.Proofs.Ytenemohjmemoiaa
open Go.RowKit Go.Sort
/-- six cells: a service -/
def ServAt (w : World) (b o : Nat) (s t : Int) (v : Value) (bs sm wk : Int) : Prop :=
  ChainAt w b o s t v ∧ w.cell? ⟨b, o + 3, none⟩ = some (.int .i64 bs) ∧ w.cell? ⟨b, o + 4, none⟩ = some (.int .i64 sm) ∧ w.cell? ⟨b, o + 5, none⟩ = some (.int .i64 wk)
theorem ServAt.below {w w' : World} {b o : Nat} {s t : Int} {v : Value} {bs sm wk : Int} (h : ServAt w b o s t v bs sm wk) (hb : Below w.heap.size w w') : ServAt w' b o s t v bs sm wk :=
  ⟨h.1.below hb, by rw [hb.cell (p := ⟨b, o + 3, none⟩) h.1.1]; exact h.2.1, by rw [hb.cell (p := ⟨b, o + 4, none⟩) h.1.1]; exact h.2.2.1, by rw [hb.cell (p := ⟨b, o + 5, none⟩) h.1.1]; exact h.2.2.2⟩
end Go.Proofs.Ytenemohjmemoiaa
namespace Go.Proofs.Ytenemohjmemoiaa
open Go.RowKit Go.Sort
theorem szII_ok {xss : List (List Int)} {l1 : Int} (h : szII 1048576 xss = l1) (hl : ¬ l1 < 0) : xss.length ≤ 1048576 ∧ ∀ r ∈ xss, r.length ≤ 1048576 := by
  have := szII_nonneg (l := 1048576) (xss := xss) (by rw [h]; omega)
  exact ⟨by omega, fun r hr => by have := this.2.2 r hr; omega⟩
end Go.Proofs.Ytenemohjmemoiaa
namespace Go.Proofs.Ytenemohjmemoiaa
open Go.RowKit Go.Sort
/-- all but blocks from lo to hi stays -/
structure Mid (lo hi : Nat) (w w' : World) : Prop where
  os : w'.os = w.os
  tape : w'.tape = w.tape
  output : w'.output = w.output
  size : w.heap.size ≤ w'.heap.size
  block : ∀ k, k < w.heap.size → (k < lo ∨ hi ≤ k) → w'.heap[k]? = w.heap[k]?
theorem Mid.refl (lo hi : Nat) (w : World) : Mid lo hi w w := ⟨rfl, rfl, rfl, Nat.le_refl _, fun _ _ _ => rfl⟩
theorem Mid.trans {lo hi : Nat} {a b c : World} (h : Mid lo hi a b) (k : Mid lo hi b c) : Mid lo hi a c :=
  ⟨k.os.trans h.os, k.tape.trans h.tape, k.output.trans h.output, Nat.le_trans h.size k.size, fun i hi' hx => (k.block i (Nat.lt_of_lt_of_le hi' h.size) hx).trans (h.block i hi' hx)⟩
theorem Mid.below {lo hi : Nat} {w w' : World} (h : Mid lo hi w w') (hlo : lo ≤ w.heap.size) : Below lo w w' := ⟨h.os, h.tape, h.output, h.size, fun k hk => h.block k (Nat.lt_of_lt_of_le hk hlo) (.inl hk)⟩
theorem Mid.of_below {lo hi : Nat} {w w' : World} (h : Below w.heap.size w w') : Mid lo hi w w' := ⟨h.os, h.tape, h.output, h.size, fun k hk _ => h.block k hk⟩
theorem Mid.of_grown {lo hi : Nat} {w w' : World} {row : Option Nat} (h : w.grownBy w' row) (hr : ∀ g, row = some g → lo ≤ g ∧ g < hi) : Mid lo hi w w' :=
  ⟨h.os, h.tape, h.output, h.size, fun k hk hx => h.block k hk (by
    intro e
    have := hr k e.symm
    omega)⟩
theorem ownsRow_mid {w w' : World} {lo hi base e size n : Nat} {v : Value} {xs : List Value} (h : w.ownsRow base e size v n xs) (hm : Mid lo hi w w') (hb : hi ≤ base) : w'.ownsRow base e size v n xs := by
  refine ⟨h.1, ?_⟩
  rcases h.2 with h2 | ⟨g, cap, cur, h1, h2, h3, h4⟩
  · exact .inl h2
  · refine .inr ⟨g, cap, cur, h1, h2, ?_, h4⟩
    rw [hm.block g (Array.getElem?_eq_some_iff.1 h3).1 (.inr (by omega))]; exact h3
def sumL (xss : List (List Int)) : Nat := (xss.map List.length).sum
theorem sumL_take {xss : List (List Int)} {k : Nat} (h : k < xss.length) : sumL (xss.take (k + 1)) = sumL (xss.take k) + xss[k].length := by
  unfold sumL; rw [List.take_succ_eq_append_getElem h, List.map_append, List.sum_append]; simp
theorem sumL_le (xss : List (List Int)) (k : Nat) : sumL (xss.take k) ≤ sumL xss := by
  unfold sumL
  conv => rhs; rw [← List.take_append_drop k xss]
  rw [List.map_append, List.sum_append]; omega
theorem szRows_sum : ∀ {xss : List (List Int)} {l : Int}, 0 ≤ szRows l xss → (sumL xss : Int) ≤ l
  | [], l, h => by simpa [sumL, szRows] using h
  | r :: rs, l, h => by
    unfold szRows at h
    by_cases h1 : sz1 l r.length < 0
    · rw [if_pos h1] at h; omega
    · rw [if_neg h1] at h
      have h2 := szRows_sum h
      have h5 : sz1 l r.length = l - r.length := by unfold sz1 at h1 ⊢; split <;> simp_all
      rw [h5] at h2
      have : sumL (r :: rs) = r.length + sumL rs := by simp [sumL]
      omega
theorem szII_sum {xss : List (List Int)} {l l1 : Int} (h : szII l xss = l1) (hl : ¬ l1 < 0) (hb : l ≤ 1048576) : sumL xss ≤ 1048576 := by
  unfold szII at h
  split at h
  · omega
  · have := szRows_sum (xss := xss) (l := l - xss.length) (by omega)
    omega
/-- rows whose blocks lie below B -/
def OwnIIB (w : World) (base B : Nat) (v : Value) (xss : List (List Int)) : Prop :=
  ∃ vs, w.ownsRow base 31 1 v xss.length vs ∧ Rows2 w base vs xss ∧ ∀ (i : Nat) (u : Value) (g : Nat), vs[i]? = some u → u.ownBlock = some g → g < B
theorem OwnII.b {w : World} {base : Nat} {v : Value} {xss : List (List Int)} (h : OwnII w base v xss) : OwnIIB w base w.heap.size v xss := by
  obtain ⟨vs, h1, h2⟩ := h
  exact ⟨vs, h1, h2, fun i u g hu hg => (h2.lt i u g hu hg).2⟩
theorem OwnIIB.below {w w' : World} {base B : Nat} {v : Value} {xss : List (List Int)} (h : OwnIIB w base B v xss) (hb : Below w.heap.size w w') : OwnIIB w' base B v xss := by
  obtain ⟨vs, h1, h2, h3⟩ := h
  exact ⟨vs, ownsRow_below h1 hb, h2.below hb, h3⟩
theorem OwnIIB.ii {w : World} {base B : Nat} {v : Value} {xss : List (List Int)} (h : OwnIIB w base B v xss) : OwnII w base v xss := by
  obtain ⟨vs, h1, h2, _⟩ := h
  exact ⟨vs, h1, h2⟩
theorem OwnIIB.sl {w : World} {base B : Nat} {v : Value} {xss : List (List Int)} (h : OwnIIB w base B v xss) : SlII w v xss := h.ii.sl
set_option maxHeartbeats 1000000 in
theorem markInt64SS_any {v : Value} {xss : List (List Int)} (m : Int) (base B : Nat) (w : World) (hm0 : 0 ≤ m) (hm : m + sumL xss ≤ 1000000000000) (ha : OwnIIB w base B v xss) :
    Calls Try.prog 58 #[v, .int .i64 m] w fun e w' => e = .returned (.int .i64 (m + sumL xss)) ∧ Mid base B w w' := by
  obtain ⟨vs, h1, h2, h3⟩ := ha
  obtain ⟨ad, c, rfl, hc1, hc2, _⟩ := ownsRow_rd h1
  unfold maxLen at hc2
  have HV := Lib.hid h2
  have HB := Lib.hid h3
  clear h2 h3
  go_enter Try.func58, Try.ntmps58
  go_wp2
  go_loopw [1, 5] (fun q i wr => ∃ (k : Nat) (Q : Int), k ≤ xss.length ∧ i = .int .i64 k ∧ q = .int .i64 Q ∧ Hid (Q = m + sumL (xss.take k)) ∧ 0 ≤ Q ∧ Q ≤ 1000000000000 ∧ wr.ownsRow base 31 1 (.slice ad xss.length c) xss.length vs ∧ Hid (∀ (i : Nat) (u : Value) (xs : List Int), k ≤ i → vs[i]? = some u → xss[i]? = some xs → OwnI wr base u xs) ∧ Mid base B w wr) (fun _ i _ => xss.length - (intOf i).toNat)
  case atStart => exact ⟨0, m, Nat.zero_le _, rfl, rfl, by simp [Hid, sumL], hm0, by omega, h1, (fun i u xs _ hu hx => HV.out.2.1 i u xs hu hx), Mid.refl _ _ _⟩
  case round =>
    clear h1
    obtain ⟨k, Q, hk, rfl, rfl, hQ, hQ0, hQ1, hown, hrows, hmid⟩ := hrel
    by_cases hlt : k < xss.length
    · have hvl : k < vs.length := by rw [HV.out.1]; exact hlt
      obtain ⟨ad', c', he, _, _, hrd⟩ := ownsRow_rd hown
      simp at he
      obtain ⟨rfl, rfl⟩ := he
      obtain ⟨b, off, rfl, hcell⟩ := hrd.one (List.getElem?_eq_getElem hvl)
      have hu := hrows.out k vs[k] xss[k] (Nat.le_refl _) (List.getElem?_eq_getElem hvl) (List.getElem?_eq_getElem hlt)
      have hle := sumL_le xss (k + 1)
      have hst := sumL_take hlt
      have i1 : (k : Int) < (xss.length : Int) := by omega
      have hbq : Q + xss[k].length ≤ 1000000000000 := by have := hQ.out; omega
      have HST := Lib.hid hst
      have hvk : vs[k]? = some vs[k] := List.getElem?_eq_getElem hvl
      generalize vs[k] = u at hcell hu hvk
      obtain ⟨ua, uc, rfl, _⟩ := id hu.sl
      have HVK := Lib.hid hvk
      clear hst hle hvk
      go_wp2_with fail
      refine (markInt64S_any Q base _ hQ0 hbq hu).mono ?_
      rintro e w2 ⟨rfl, o2, g2⟩
      have hrow : Mid base B wr w2 := Mid.of_grown g2 (fun g hg => ⟨(hu.lt g hg).1, HB.out k _ g HVK.out hg⟩)
      have own2 : w2.ownsRow base 31 1 (.slice (some ⟨b, off, none⟩) xss.length c) xss.length vs := World.ownsRow.kept hown g2 (by
        cases hb : (Value.slice (some ⟨b, off, none⟩) xss.length c).ownBlock with
        | none => exact .inl rfl
        | some g => exact .inr (fun e => hu.apart hown e.symm hb))
      have rows2 : Hid (∀ (i : Nat) (u : Value) (xs : List Int), k + 1 ≤ i → vs[i]? = some u → xss[i]? = some xs → OwnI w2 base u xs) := by
        intro i u' xs' hi hu' hx'
        have h5 := hrows.out i u' xs' (by omega) hu' hx'
        refine h5.kept g2 ?_
        cases hb : u'.ownBlock with
        | none => exact .inl rfl
        | some g => exact .inr (fun e => HV.out.2.2 i k u' _ g (by omega) hu' HVK.out hb e.symm)
      have hm2 := hmid.trans hrow
      clear hown hrows hu o2 g2 hmid
      go_wp2
      go_roundw
      case rel => exact ⟨k + 1, Q + xss[k].length, by omega, by go_num, rfl, by have := hQ.out; have := HST.out; unfold Hid; omega, by omega, by omega, own2, rows2, hm2⟩
      case measure => simp [intOf]; omega
    · obtain rfl : k = xss.length := by omega
      go_wp2
      go_ret
      exact ⟨ri (by rw [hQ.out, List.take_length]), hmid⟩
end Go.Proofs.Ytenemohjmemoiaa
namespace Go.Proofs.Ytenemohjmemoiaa
open Go.RowKit Go.Sort
/-- the first cells of a block -/
def CellsAt (w : World) (b : Nat) (vs : List Value) : Prop := b < w.heap.size ∧ ∀ i u, vs[i]? = some u → w.cell? ⟨b, i, none⟩ = some u
theorem CellsAt.new (w : World) (vs : List Value) (T : Nat) : CellsAt (w.alloc (.cells vs.toArray T)) w.heap.size vs := by
  refine ⟨by simp, fun i u h => ?_⟩
  simp [go_sem, h]
theorem CellsAt.new' (w : World) (vs : List Value) (T : Nat) {b : Nat} (hb : b = w.heap.size) : CellsAt (w.alloc (.cells vs.toArray T)) b vs := by
  subst hb; exact CellsAt.new w vs T
theorem CellsAt.below {w w' : World} {b : Nat} {vs : List Value} (h : CellsAt w b vs) (hb : Below w.heap.size w w') : CellsAt w' b vs :=
  ⟨Nat.lt_of_lt_of_le h.1 hb.size, fun i u hu => by rw [hb.cell (p := ⟨b, i, none⟩) h.1]; exact h.2 i u hu⟩
theorem CellsAt.get {w : World} {b : Nat} {vs : List Value} (h : CellsAt w b vs) (i : Nat) (u : Value) (hu : vs[i]? = some u) : w.cell? ⟨b, i, none⟩ = some u := h.2 i u hu
/-- all blocks but those of S stay -/
structure Fs (S : Nat → Prop) (w w' : World) : Prop where
  os : w'.os = w.os
  tape : w'.tape = w.tape
  output : w'.output = w.output
  size : w.heap.size ≤ w'.heap.size
  block : ∀ k, k < w.heap.size → ¬ S k → w'.heap[k]? = w.heap[k]?
theorem Fs.trans {S : Nat → Prop} {a b c : World} (h : Fs S a b) (k : Fs S b c) : Fs S a c :=
  ⟨k.os.trans h.os, k.tape.trans h.tape, k.output.trans h.output, Nat.le_trans h.size k.size, fun i hi hx => (k.block i (Nat.lt_of_lt_of_le hi h.size) hx).trans (h.block i hi hx)⟩
theorem Fs.of_below {S : Nat → Prop} {w w' : World} (h : Below w.heap.size w w') : Fs S w w' := ⟨h.os, h.tape, h.output, h.size, fun k hk _ => h.block k hk⟩
theorem Fs.below {S : Nat → Prop} {w w' : World} (h : Fs S w w') {B : Nat} (hB : B ≤ w.heap.size) (hS : ∀ k, S k → B ≤ k) : Below B w w' :=
  ⟨h.os, h.tape, h.output, h.size, fun k hk => h.block k (Nat.lt_of_lt_of_le hk hB) (fun hs => by have := hS k hs; omega)⟩
theorem Fs.of_mid {lo hi : Nat} {w w' : World} (h : Mid lo hi w w') : Fs (fun k => lo ≤ k ∧ k < hi) w w' := ⟨h.os, h.tape, h.output, h.size, fun k hk hx => h.block k hk (by omega)⟩
theorem Fs.of_grown {S : Nat → Prop} {w w' : World} {row : Option Nat} (h : w.grownBy w' row) (hr : ∀ g, row = some g → S g) : Fs S w w' :=
  ⟨h.os, h.tape, h.output, h.size, fun k hk hx => h.block k hk (fun e => hx (hr k e.symm))⟩
theorem Fs.cell {S : Nat → Prop} {w w' : World} (h : Fs S w w') {p : Addr} (hp : p.block < w.heap.size) (hn : ¬ S p.block) : w'.cell? p = w.cell? p :=
  World.cell?_of_block (h.block p.block hp hn)
theorem Fs.mono {S T : Nat → Prop} {w w' : World} (h : Fs S w w') (hST : ∀ k, S k → T k) : Fs T w w' :=
  ⟨h.os, h.tape, h.output, h.size, fun k hk hx => h.block k hk (fun hs => hx (hST k hs))⟩
theorem CellsAt.fs {S : Nat → Prop} {w w' : World} {b : Nat} {vs : List Value} (h : CellsAt w b vs) (hf : Fs S w w') (hS : ¬ S b) : CellsAt w' b vs :=
  ⟨Nat.lt_of_lt_of_le h.1 hf.size, fun i u hu => by rw [hf.cell (p := ⟨b, i, none⟩) h.1 hS]; exact h.2 i u hu⟩
theorem ownsRow_fs {S : Nat → Prop} {w w' : World} {base e size n : Nat} {v : Value} {xs : List Value} (h : w.ownsRow base e size v n xs) (hf : Fs S w w') (hS : ∀ k, S k → k < base) : w'.ownsRow base e size v n xs := by
  refine ⟨h.1, ?_⟩
  rcases h.2 with h2 | ⟨g, cap, cur, h1, h2, h3, h4⟩
  · exact .inl h2
  · refine .inr ⟨g, cap, cur, h1, h2, ?_, h4⟩
    rw [hf.block g (Array.getElem?_eq_some_iff.1 h3).1 (fun hs => by have := hS g hs; omega)]; exact h3
theorem OwnI.fs {S : Nat → Prop} {w w' : World} {base : Nat} {v : Value} {xs : List Int} (h : OwnI w base v xs) (hf : Fs S w w') (hS : ∀ k, S k → k < base) : OwnI w' base v xs := ownsRow_fs h hf hS
theorem OwnII.fs {S : Nat → Prop} {w w' : World} {base : Nat} {v : Value} {xss : List (List Int)} (h : OwnII w base v xss) (hf : Fs S w w') (hS : ∀ k, S k → k < base) : OwnII w' base v xss := by
  obtain ⟨vs, h1, h2⟩ := h
  exact ⟨vs, ownsRow_fs h1 hf hS, h2.1, fun i u xs hu hx => ownsRow_fs (h2.2.1 i u xs hu hx) hf hS, h2.2.2⟩
end Go.Proofs.Ytenemohjmemoiaa
namespace Go.Proofs.Ytenemohjmemoiaa
open Go.RowKit Go.Sort
def graphV (n : Int) (v : Value) : Value := .agg #[.int .i64 n, v]
set_option maxHeartbeats 400000 in
theorem szGraph_any {u : Value} {xss : List (List Int)} (n l : Int) (w : World) (ha : SlII w u xss) (h0 : 0 ≤ l) (h1 : l ≤ 1048576) :
    Calls Try.prog 14 #[.agg #[.int .i64 n, u], .int .i64 l] w fun e w' => e = .returned (.int .i64 (szII l xss)) ∧ Below w.heap.size w w' := by
  have hr := szII_range l xss h1
  obtain ⟨a, ca, us, rfl, hca, hca', hul, hrd, hrow⟩ := ha
  have ha : ∀ u : World, Below w.heap.size w u → SlII u (.slice a xss.length ca) xss := fun u hb => SlII.below ⟨a, ca, us, rfl, hca, hca', hul, hrd, hrow⟩ hb
  have HA := Lib.hid ha
  clear ha hca hca' hul hrd hrow
  go_enter Try.func14, Try.ntmps14
  go_wp2_with fail
  refine (szInt64SS_any l _ (HA.out _ ((Below.refl _ _).alloc (Nat.le_refl _) _)) h0 h1).mono ?_
  rintro e w1 ⟨rfl, b1⟩
  generalize hz : szII l xss = q at hr ⊢
  have HZ := Lib.hid hz
  clear hz
  by_cases hq : q < 0
  · obtain rfl : q = -1 := by omega
    go_wp2
    go_ret
    exact ⟨ri HZ.out.symm, ((Below.refl _ _).alloc (Nat.le_refl _) _).trans (b1.mono (by simp))⟩
  · go_wp2
    go_ret
    exact ⟨ri HZ.out.symm, ((Below.refl _ _).alloc (Nat.le_refl _) _).trans (b1.mono (by simp))⟩
set_option maxHeartbeats 400000 in
theorem toGraph_any {u : Value} {xss : List (List Int)} (n : Int) (w : World) (ha : SlII w u xss) (hl : xss.length ≤ 1048576) (hrl : ∀ r ∈ xss, r.length ≤ 1048576) :
    Calls Try.prog 16 #[.agg #[.int .i64 n, u]] w fun e w' => ∃ v, e = .returned (.agg #[.int .i64 n, v]) ∧ OwnII w' w.heap.size v xss ∧ Below w.heap.size w w' := by
  obtain ⟨a, ca, us, rfl, hca, hca', hul, hrd, hrow⟩ := ha
  have ha : ∀ u : World, Below w.heap.size w u → SlII u (.slice a xss.length ca) xss := fun u hb => SlII.below ⟨a, ca, us, rfl, hca, hca', hul, hrd, hrow⟩ hb
  have HA := Lib.hid ha
  have HL := Lib.hid hrl
  clear ha hca hca' hul hrd hrow hrl
  go_enter Try.func16, Try.ntmps16
  go_wp2_with fail
  refine (toInt64SS_any _ (HA.out _ ((((Below.refl _ _).alloc (Nat.le_refl _) _).alloc (by simp) _).alloc (by simp <;> omega) _)) hl HL.out).mono ?_
  rintro e w1 ⟨v, rfl, hv, b1⟩
  obtain ⟨ad, cc, _, rfl, _⟩ := id hv.sl
  have c2 := b1.cell (p := ⟨w.heap.size + 1 + 1, 0, none⟩) (by simp)
  have c3 := b1.cell (p := ⟨w.heap.size + 1 + 1, 1, none⟩) (by simp)
  have f3 := b1.frozen (p := ⟨w.heap.size + 1 + 1, 1, none⟩) (by simp)
  have d0 := b1.cell (p := ⟨w.heap.size + 1, 0, none⟩) (by simp)
  have d1 := b1.cell (p := ⟨w.heap.size + 1, 1, none⟩) (by simp)
  have e0 := b1.frozen (p := ⟨w.heap.size + 1, 0, none⟩) (by simp)
  have e1 := b1.frozen (p := ⟨w.heap.size + 1, 1, none⟩) (by simp)
  simp [go_sem] at c2 c3 f3 d0 d1 e0 e1
  have z1 := b1.size
  simp at z1
  go_wp2
  refine bodyPost_ret (v := .agg #[.int .i64 n, .slice ad xss.length cc]) (by simp [results, Try.results16, go_sem, d0, d1]) rfl ⟨_, rfl, ?_, ?_⟩
  · exact (((hv.setCell (by simp) _).setCell (by simp <;> omega) _).setCell (by simp <;> omega) _).lower (by simp <;> omega)
  · exact (((((((Below.refl _ _).alloc (Nat.le_refl _) _).alloc (by simp) _).alloc (by simp <;> omega) _).trans (b1.mono (by simp <;> omega))).setCell (by simp <;> omega) _).setCell (by simp) _).setCell (by simp) _
set_option maxHeartbeats 400000 in
theorem eqGraph_any {u v : Value} {xss yss : List (List Int)} (n m : Int) (w : World) (ha : SlII w u xss) (hb : SlII w v yss) :
    Calls Try.prog 11 #[.agg #[.int .i64 n, u], .agg #[.int .i64 m, v]] w fun e w' => e = .returned (.bool (decide (n = m) && decide (xss = yss))) ∧ Below w.heap.size w w' := by
  obtain ⟨a, ca, h1⟩ := id ha
  obtain ⟨b, cb, h2⟩ := id hb
  obtain ⟨us, rfl, _⟩ := h1
  obtain ⟨vs, rfl, _⟩ := h2
  have HA := Lib.hid ha
  have HB := Lib.hid hb
  clear ha hb
  by_cases hn : n = m
  · subst hn
    have ht : (n != n) = false := by simp
    go_enter Try.func11, Try.ntmps11
    go_wp2_with fail
    have bb := ((Below.refl w.heap.size w).alloc (Nat.le_refl _) (.cells #[.int .i64 n, .slice a xss.length ca] 24)).alloc (by simp) (.cells #[.int .i64 n, .slice b yss.length cb] 24)
    refine (eqInt64SS_any _ (HA.out.below bb) (HB.out.below bb)).mono ?_
    rintro e w1 ⟨rfl, b1⟩
    generalize hd : decide (xss = yss) = d
    have HD := Lib.hid hd
    clear hd
    cases d
    · go_wp2
      go_ret
      exact ⟨rb (by rw [HD.out]; simp), bb.trans (b1.mono (by simp <;> omega))⟩
    · go_wp2
      go_ret
      exact ⟨rb (by rw [HD.out]; simp), bb.trans (b1.mono (by simp <;> omega))⟩
  · have ht : (n != m) = true := by simp [hn]
    have HN := Lib.hid hn
    clear hn
    go_enter Try.func11, Try.ntmps11
    go_wp2
    go_ret
    exact ⟨rb (by simp [HN.out]), ((Below.refl _ _).alloc (Nat.le_refl _) _).alloc (by simp) _⟩
end Go.Proofs.Ytenemohjmemoiaa
namespace Go.Proofs.Ytenemohjmemoiaa
open Go.RowKit Go.Sort
end Go.Proofs.Ytenemohjmemoiaa
namespace Go.Proofs.Ytenemohjmemoiaa
open Go.RowKit Go.Sort
/-- comparison of lists, as slices.Compare has it -/
def cmpL : List Int → List Int → Int
  | [], [] => 0
  | [], _ :: _ => -1
  | _ :: _, [] => 1
  | x :: xs, y :: ys => if x = y then cmpL xs ys else if x < y then -1 else 1
def lessL : List Int → List Int → Bool
  | [], [] => false
  | [], _ :: _ => true
  | _ :: _, [] => false
  | x :: xs, y :: ys => if x = y then lessL xs ys else decide (x < y)
theorem cmpL_bd : ∀ x y : List Int, -1 ≤ cmpL x y ∧ cmpL x y ≤ 1
  | [], [] => by decide
  | [], _ :: _ => by unfold cmpL; decide
  | _ :: _, [] => by unfold cmpL; decide
  | x :: xs, y :: ys => by
    unfold cmpL
    split
    · exact cmpL_bd xs ys
    · split <;> decide
theorem cmpL_less : ∀ x y : List Int, decide (0 ≤ cmpL x y) = !lessL x y
  | [], [] => by decide
  | [], _ :: _ => by unfold cmpL lessL; decide
  | _ :: _, [] => by unfold cmpL lessL; decide
  | x :: xs, y :: ys => by
    unfold cmpL lessL
    split
    · exact cmpL_less xs ys
    · split <;> rename_i h <;> simp [h]
theorem cmpL_drop {x y : List Int} {k : Nat} (hx : k < x.length) (hy : k < y.length) : cmpL (x.drop k) (y.drop k) = if x[k] = y[k] then cmpL (x.drop (k + 1)) (y.drop (k + 1)) else if x[k] < y[k] then -1 else 1 := by
  rw [List.drop_eq_getElem_cons hx, List.drop_eq_getElem_cons hy]; rfl
theorem lessL_drop {x y : List Int} {k : Nat} (hx : k < x.length) (hy : k < y.length) : lessL (x.drop k) (y.drop k) = if x[k] = y[k] then lessL (x.drop (k + 1)) (y.drop (k + 1)) else decide (x[k] < y[k]) := by
  rw [List.drop_eq_getElem_cons hx, List.drop_eq_getElem_cons hy]; rfl
theorem inRange_q {x a b : Int} {q : Bool} (h : inR x a b = q) (w : World) : Calls Try.prog 69 #[.int .i64 x, .int .i64 a, .int .i64 b] w fun e w' => e = .returned (.bool q) ∧ Below w.heap.size w w' :=
  (inRange_any x a b w).mono fun e w' ⟨h1, h2⟩ => ⟨by rw [h1, h], by rw [h2]; exact Below.refl _ _⟩
theorem l00In_q {x a b : Int} {q : Bool} (h : inR x a b = q) (w : World) : Calls Try.prog 63 #[.int .i64 x, .int .i64 a, .int .i64 b] w fun e w' => e = .returned (.bool q) ∧ Below w.heap.size w w' :=
  (l00In_any x a b w).mono fun e w' ⟨h1, h2⟩ => ⟨by rw [h1, h], by rw [h2]; exact Below.refl _ _⟩
theorem isNaN_any (x : Int) (w : World) : Calls Try.prog 154 #[.int .i64 x] w fun e w' => e = .returned (.bool false) ∧ w = w' := by
  have h : (x != x) = false := by simp
  go_enter Try.func154, Try.ntmps154
  go_wp2
  go_ret
  exact ⟨rfl, rfl⟩
set_option maxHeartbeats 400000 in
theorem cmpCompare_any (x y : Int) (w : World) : Calls Try.prog 147 #[.int .i64 x, .int .i64 y] w fun e w' => e = .returned (.int .i64 (if x = y then 0 else if x < y then -1 else 1)) ∧ w = w' := by
  have A : ∀ q : Int, q = (if x = y then 0 else if x < y then -1 else 1) → (x < y → q = -1) ∧ (y < x → q = 1) ∧ (x = y → q = 0) := by
    intro q h
    subst h
    refine ⟨fun h => ?_, fun h => ?_, fun h => ?_⟩
    · rw [if_neg (by omega), if_pos h]
    · rw [if_neg (by omega), if_neg (by omega)]
    · rw [if_pos h]
  generalize hq : (if x = y then (0 : Int) else if x < y then -1 else 1) = q
  have hA := A q hq.symm
  have HA := Lib.hid hA
  clear A hA hq
  by_cases h1 : x < y
  · go_enter Try.func147, Try.ntmps147
    go_wp2_with (go_at_call 154; refine (isNaN_any _ _).mono ?_; rintro e w' ⟨rfl, rfl⟩)
    go_ret
    exact ⟨ri (HA.out.1 h1).symm, rfl⟩
  · by_cases h2 : y < x
    · go_enter Try.func147, Try.ntmps147
      go_wp2_with (go_at_call 154; refine (isNaN_any _ _).mono ?_; rintro e w' ⟨rfl, rfl⟩)
      go_ret
      exact ⟨ri (HA.out.2.1 h2).symm, rfl⟩
    · go_enter Try.func147, Try.ntmps147
      go_wp2_with (go_at_call 154; refine (isNaN_any _ _).mono ?_; rintro e w' ⟨rfl, rfl⟩)
      go_ret
      exact ⟨ri (HA.out.2.2 (by omega)).symm, rfl⟩
set_option maxHeartbeats 1000000 in
theorem Compare_any {u v : Value} {xs ys : List Int} (w : World) (ha : SlI w u xs) (hb : SlI w v ys) :
    Calls Try.prog 113 #[u, v] w fun e w' => e = .returned (.int .i64 (cmpL xs ys)) ∧ w = w' := by
  obtain ⟨a, ca, rfl, hca, hca', ha⟩ := ha
  obtain ⟨b, cb, rfl, hcb, hcb', hb⟩ := hb
  unfold maxLen at hca' hcb'
  go_enter Try.func113, Try.ntmps113
  go_wp2
  go_loopw [5, 6, 7, 8, 11] (fun _ _ _ _ i wr => ∃ k : Nat, k ≤ xs.length ∧ k ≤ ys.length ∧ i = .int .i64 k ∧ Hid (cmpL xs ys = cmpL (xs.drop k) (ys.drop k)) ∧ wr = w) (fun _ _ _ _ i _ => xs.length - (intOf i).toNat)
  case atStart => exact ⟨0, Nat.zero_le _, Nat.zero_le _, rfl, rfl, rfl⟩
  case round =>
    obtain ⟨k, hk, hk2, rfl, hc, rfl⟩ := hrel
    by_cases hlt : k < xs.length
    · obtain ⟨ba, oa, rfl, ga⟩ := ha.one (i64s_get hlt)
      have i1 : (k : Int) < (xs.length : Int) := by omega
      by_cases hy : k < ys.length
      · obtain ⟨bb, ob, rfl, gb⟩ := hb.one (i64s_get hy)
        have i2 : (k : Int) < (ys.length : Int) := by omega
        have hd := cmpL_drop hlt hy
        generalize hq : (if xs[k] = ys[k] then (0 : Int) else if xs[k] < ys[k] then -1 else 1) = q
        have HQ := Lib.hid hq
        have HD := Lib.hid hd
        clear hq hd
        by_cases hz : q = 0
        · have ht : (q != 0) = false := by simp [hz]
          have he : xs[k] = ys[k] := by
            have := HQ.out
            split at this
            · assumption
            · split at this <;> omega
          have HE := Lib.hid he
          clear hz he
          go_wp2_with (go_at_call 147; refine (cmpCompare_any _ _ _).mono ?_; rintro e w' ⟨rfl, rfl⟩; rw [HQ.out])
          go_roundw
          case rel => exact ⟨k + 1, by omega, by omega, by go_num, by unfold Hid at *; rw [hc, HD, if_pos HE], trivial⟩
          case measure => simp [intOf]; omega
        · have ht : (q != 0) = true := by simp [hz]
          have hv : cmpL xs ys = q := by
            rw [hc.out, HD.out]
            have := HQ.out
            split at this
            · omega
            · rename_i h; rw [if_neg h]; exact this
          have HV := Lib.hid hv
          clear hz hv
          go_wp2_with (go_at_call 147; refine (cmpCompare_any _ _ _).mono ?_; rintro e w' ⟨rfl, rfl⟩; rw [HQ.out])
          go_ret
          exact ⟨ri HV.out.symm, rfl⟩
      · obtain rfl : k = ys.length := by omega
        go_wp2
        go_ret
        exact ⟨ri (by rw [hc.out, List.drop_length, List.drop_eq_getElem_cons hlt]; rfl), rfl⟩
    · obtain rfl : k = xs.length := by omega
      by_cases hy : xs.length < ys.length
      · go_wp2
        go_ret
        exact ⟨ri (by rw [hc.out, List.drop_length, List.drop_eq_getElem_cons hy]; rfl), rfl⟩
      · have hyy : xs.length = ys.length := by omega
        have HY := Lib.hid hyy
        clear hyy
        go_wp2
        go_ret
        exact ⟨ri (by rw [hc.out, List.drop_length, List.drop_eq_nil_of_le (by rw [HY.out]; exact Nat.le_refl _)]; rfl), rfl⟩
end Go.Proofs.Ytenemohjmemoiaa
namespace Go.Proofs.Ytenemohjmemoiaa
open Go.RowKit Go.Sort
/-- an edge, with the greatest node hi and e0 + 1 as the machine has it -/
def edgeW (hi : Int) (e : List Int) : Bool := decide (e.length = 2) && (inR (e.getD 0 0) 0 hi && inR (e.getD 1 0) (IntKind.i64.wrap (e.getD 0 0 + 1)) hi)
def stepW (hi : Int) (es : List (List Int)) (k : Nat) : Bool := edgeW hi (es.getD k []) && (decide (k = 0) || lessL (es.getD (k - 1) []) (es.getD k []))
def okN (hi : Int) (es : List (List Int)) : Nat → Bool
  | 0 => true
  | k + 1 => okN hi es k && stepW hi es k
def graphOk (n : Int) (es : List (List Int)) : Bool := inR n 1 5 && okN (IntKind.i64.wrap (n - 1)) es es.length
theorem okN_false {hi : Int} {es : List (List Int)} {k : Nat} (h : stepW hi es k = false) : ∀ {m : Nat}, k < m → okN hi es m = false
  | 0, h1 => by omega
  | m + 1, h1 => by
    unfold okN
    by_cases hk : k = m
    · subst hk; rw [h]; simp
    · rw [okN_false h (show k < m by omega)]; rfl
theorem getD_at {α : Type} {l : List α} {k : Nat} {d : α} (h : k < l.length) : l.getD k d = l[k] := by
  rw [List.getD_eq_getElem?_getD, List.getElem?_eq_getElem h]; rfl
theorem len2 {e : List Int} (h : e.length = 2) : ∃ a b, e = [a, b] := by
  match e, h with
  | [a, b], _ => exact ⟨a, b, rfl⟩
theorem edgeW_no {hi : Int} {e : List Int} (h : ¬ e.length = 2) : edgeW hi e = false := by simp [edgeW, h]
theorem edgeW_two {hi a b q : Int} (h : IntKind.i64.wrap (a + 1) = q) : edgeW hi [a, b] = (inR a 0 hi && inR b q hi) := by simp [edgeW, h]
theorem Compare_b {u v : Value} {xs ys : List Int} {c : Int} (h : cmpL xs ys = c) (w : World) (ha : SlI w u xs) (hb : SlI w v ys) : Calls Try.prog 113 #[u, v] w fun e w' => e = .returned (.int .i64 c) ∧ Below w.heap.size w w' :=
  (Compare_any w ha hb).mono fun e w' ⟨h1, h2⟩ => ⟨by rw [h1, h], by rw [h2]; exact Below.refl _ _⟩
set_option maxRecDepth 100000 in
set_option maxHeartbeats 4000000 in
theorem ImplValidGraph_any {v : Value} {es : List (List Int)} (n : Int) (w : World) (ha : SlII w v es) :
    Calls Try.prog 55 #[.agg #[.int .i64 n, v]] w fun e w' => e = .returned (.bool (graphOk n es)) ∧ Below w.heap.size w w' := by
  obtain ⟨a, ca, us, rfl, hca, hca', hul, hrd, hrow⟩ := ha
  have bx : Below w.heap.size w (w.alloc (.cells #[.int .i64 n, .slice a es.length ca] 24)) := (Below.refl _ _).alloc (Nat.le_refl _) _
  have HG := Lib.hid (fun W (h : Below w.heap.size w W) => And.intro (hrd.below h) (fun i hi u hu => (hrow i hi u hu).below h))
  have X := Lib.hid (CellsAt.new w [.int .i64 n, .slice a es.length ca] 24)
  have HU := Lib.hid hul
  obtain ⟨hi, hhi⟩ : ∃ hi, IntKind.i64.wrap (n - 1) = hi := ⟨_, rfl⟩
  have hG : graphOk n es = (inR n 1 5 && okN hi es es.length) := by unfold graphOk; rw [hhi]
  have HGO := Lib.hid hG
  generalize hq : inR n 1 5 = q at hG
  have HQ := Lib.hid hq
  have HHI := Lib.hid hhi
  unfold maxLen at hca'
  clear hG hq hul hrd hrow hhi
  go_enter Try.func55, Try.ntmps55
  go_wp2
  go_loopw [3, 4, 8] (fun _ _ i wr => ∃ k : Nat, k ≤ es.length ∧ i = .int .i64 k ∧ Hid (okN hi es k = true) ∧ Below (w.alloc (.cells #[.int .i64 n, .slice a es.length ca] 24)).heap.size (w.alloc (.cells #[.int .i64 n, .slice a es.length ca] 24)) wr) (fun _ _ i _ => es.length - (intOf i).toNat)
  case atStart => exact ⟨0, Nat.zero_le _, rfl, rfl, Below.refl _ _⟩
  case round =>
    obtain ⟨k, hk, rfl, hok, hbr⟩ := hrel
    have hbw := bx.trans (hbr.mono bx.size)
    have x1 := X.out.below hbr
    have c0 := x1.get 0 _ rfl
    have c1 := x1.get 1 _ rfl
    clear x1
    by_cases hlt : k < es.length
    · obtain ⟨x, b, off, rfl, gc, sx⟩ := SlII.row HU.out (HG.out _ hbw).1 (HG.out _ hbw).2 hlt
      have i1 : (k : Int) < (es.length : Int) := by omega
      have hes : stepW hi es k = (edgeW hi es[k] && (decide (k = 0) || lessL (es.getD (k - 1) []) es[k])) := by unfold stepW; rw [getD_at hlt]
      have HES := Lib.hid hes
      have SX := Lib.hid sx
      obtain ⟨ea, ec, rfl, _, _, erd⟩ := id sx
      clear hes
      by_cases hl : es[k].length = 2
      · have ht : ((es[k].length : Int) != 2) = false := by rw [hl]; rfl
        have j0 : (0 : Int) < (es[k].length : Int) := by rw [hl]; decide
        have j1 : (1 : Int) < (es[k].length : Int) := by rw [hl]; decide
        have jn0 : 0 < es[k].length := by omega
        have jn1 : 1 < es[k].length := by omega
        obtain ⟨eb, eo, rfl, g0⟩ := erd.one (i64s_get jn0)
        obtain ⟨eb', eo', he', g1⟩ := erd.one (i64s_get jn1)
        simp only [Option.some.injEq, Addr.mk.injEq] at he'
        obtain ⟨rfl, rfl, _⟩ := he'
        obtain ⟨e0, e1, he⟩ := len2 hl
        have he0 : es[k][0] = e0 := by simp [he]
        have he1 : es[k][1] = e1 := by simp [he]
        rw [he0, Nat.add_zero] at g0
        rw [he1] at g1
        have HE := Lib.hid he
        obtain ⟨q0, hq0⟩ : ∃ q0, IntKind.i64.wrap (e0 + 1) = q0 := ⟨_, rfl⟩
        have hW : edgeW hi es[k] = (inR e0 0 hi && inR e1 q0 hi) := by rw [he]; exact edgeW_two hq0
        generalize hp1 : inR e0 0 hi = p1 at hW
        generalize hp2 : inR e1 q0 hi = p2 at hW
        have HW := Lib.hid hW
        have HP1 := Lib.hid hp1
        have HP2 := Lib.hid hp2
        have HQ0 := Lib.hid hq0
        clear hW hp1 hp2 hq0 he he0 he1 erd sx hl
        have k0 := fun d os => cell_regrown c0 d os
        have k1 := fun d os => cell_regrown c1 d os
        have kg0 := fun d os => cell_regrown g0 d os
        have kg1 := fun d os => cell_regrown g1 d os
        have NO : stepW hi es k = false → graphOk n es = false := fun h => by rw [HGO.out, okN_false h hlt]; simp
        have HNO := Lib.hid NO
        have r0 := HHI.out
        have r1 := HQ0.out
        clear NO
        cases p1
        · go_wp2_with fail
          refine wp_region_quiet_below (by kernel_rfl) (by kernel_rfl) ?_
          repeat (first | go_big_quiet_skip | quiet_step (first | (with_reducible exact Calls.regrown_of (inRange_q HP1.out _)) | (with_reducible exact Calls.regrown_of (inRange_q HP2.out _)) | (with_reducible exact Calls.regrown_of (Compare_b HC.out _ (SP.out.below (below_regrown _ _ _)) (SX.out.below (below_regrown _ _ _))))))
          refine wpQuiet_nil ?_
          intro _ hw'
          obtain ⟨⟨dq, osq⟩, hw''⟩ := hw'
          subst hw''
          have bq0 := below_regrown wr dq osq
          generalize grow (redrawn wr dq) osq = wq at bq0 ⊢
          clear r0 r1 k0 k1 kg0 kg1
          go_wp2
          go_ret
          exact ⟨rb (HNO.out (by rw [HES.out, HW.out]; rfl)).symm, hbw.trans (bq0.mono hbw.size)⟩
        · cases p2
          · go_wp2_with fail
            refine wp_region_quiet_below (by kernel_rfl) (by kernel_rfl) ?_
            repeat (first | go_big_quiet_skip | quiet_step (first | (with_reducible exact Calls.regrown_of (inRange_q HP1.out _)) | (with_reducible exact Calls.regrown_of (inRange_q HP2.out _)) | (with_reducible exact Calls.regrown_of (Compare_b HC.out _ (SP.out.below (below_regrown _ _ _)) (SX.out.below (below_regrown _ _ _))))))
            refine wpQuiet_nil ?_
            intro _ hw'
            obtain ⟨⟨dq, osq⟩, hw''⟩ := hw'
            subst hw''
            have bq0 := below_regrown wr dq osq
            generalize grow (redrawn wr dq) osq = wq at bq0 ⊢
            clear r0 r1 k0 k1 kg0 kg1
            go_wp2
            go_ret
            exact ⟨rb (HNO.out (by rw [HES.out, HW.out]; rfl)).symm, hbw.trans (bq0.mono hbw.size)⟩
          · by_cases hk0 : k = 0
            · have hk0' : decide (0 < k) = false := by simp; omega
              have HK0 := Lib.hid hk0
              clear hk0
              go_wp2_with fail
              refine wp_region_quiet_below (by kernel_rfl) (by kernel_rfl) ?_
              repeat (first | go_big_quiet_skip | quiet_step (first | (with_reducible exact Calls.regrown_of (inRange_q HP1.out _)) | (with_reducible exact Calls.regrown_of (inRange_q HP2.out _)) | (with_reducible exact Calls.regrown_of (Compare_b HC.out _ (SP.out.below (below_regrown _ _ _)) (SX.out.below (below_regrown _ _ _))))))
              refine wpQuiet_nil ?_
              intro _ hw'
              obtain ⟨⟨dq, osq⟩, hw''⟩ := hw'
              subst hw''
              have bq0 := below_regrown wr dq osq
              generalize grow (redrawn wr dq) osq = wq at bq0 ⊢
              clear r0 r1 k0 k1 kg0 kg1 hk0'
              have hb2 := hbr.trans (bq0.mono hbr.size)
              go_wp2
              go_roundw
              case rel => exact ⟨k + 1, by omega, by go_num, by unfold Hid okN; rw [hok.out, HES.out, HW.out]; simp [HK0.out], hb2⟩
              case measure => simp [intOf]; omega
            · obtain ⟨m, hm⟩ : ∃ m, k = m + 1 := ⟨k - 1, by omega⟩
              have r2 : IntKind.i64.wrap ((k : Int) - 1) = (m : Int) := by rw [IntWalk.i64_in _ (by omega)]; omega
              have hkp : decide (0 < k) = true := by simp; omega
              have hml : m < es.length := by omega
              have i3 : (0 : Int) ≤ (m : Int) := by omega
              have i4 : (m : Int) < (es.length : Int) := by omega
              obtain ⟨x', b', off', he', gc', sx'⟩ := SlII.row HU.out (HG.out _ hbw).1 (HG.out _ hbw).2 hml
              simp only [Option.some.injEq, Addr.mk.injEq] at he'
              obtain ⟨rfl, rfl, _⟩ := he'
              obtain ⟨pa, pc, rfl, _⟩ := id sx'
              have SP := Lib.hid sx'
              have kp := fun d os => cell_regrown gc' d os
              have hst : stepW hi es k = lessL es[m] es[k] := by
                have e1 : k - 1 = m := by omega
                rw [HES.out, HW.out, e1, getD_at hml]
                simp [hk0]
              have hcl := cmpL_less es[m] es[k]
              generalize hc : cmpL es[m] es[k] = c at hcl
              generalize hl3 : lessL es[m] es[k] = l3 at hst hcl
              have HST := Lib.hid hst
              have HCL := Lib.hid hcl
              have HC := Lib.hid hc
              have HM := Lib.hid hm
              clear hst hcl hc hm gc' sx' hl3
              cases l3
              · have hc0 : 0 ≤ c := by have := HCL.out; simpa using this
                go_wp2_with fail
                refine wp_region_quiet_below (by kernel_rfl) (by kernel_rfl) ?_
                repeat (first | go_big_quiet_skip | quiet_step (first | (with_reducible exact Calls.regrown_of (inRange_q HP1.out _)) | (with_reducible exact Calls.regrown_of (inRange_q HP2.out _)) | (with_reducible exact Calls.regrown_of (Compare_b HC.out _ (SP.out.below (below_regrown _ _ _)) (SX.out.below (below_regrown _ _ _))))))
                refine wpQuiet_nil ?_
                intro _ hw'
                obtain ⟨⟨dq, osq⟩, hw''⟩ := hw'
                subst hw''
                have bq0 := below_regrown wr dq osq
                generalize grow (redrawn wr dq) osq = wq at bq0 ⊢
                clear r0 r1 r2 k0 k1 kg0 kg1 kp hkp
                go_wp2
                go_ret
                exact ⟨rb (HNO.out HST.out).symm, hbw.trans (bq0.mono hbw.size)⟩
              · have hc0 : c < 0 := by have := HCL.out; simpa using this
                go_wp2_with fail
                refine wp_region_quiet_below (by kernel_rfl) (by kernel_rfl) ?_
                repeat (first | go_big_quiet_skip | quiet_step (first | (with_reducible exact Calls.regrown_of (inRange_q HP1.out _)) | (with_reducible exact Calls.regrown_of (inRange_q HP2.out _)) | (with_reducible exact Calls.regrown_of (Compare_b HC.out _ (SP.out.below (below_regrown _ _ _)) (SX.out.below (below_regrown _ _ _))))))
                refine wpQuiet_nil ?_
                intro _ hw'
                obtain ⟨⟨dq, osq⟩, hw''⟩ := hw'
                subst hw''
                have bq0 := below_regrown wr dq osq
                generalize grow (redrawn wr dq) osq = wq at bq0 ⊢
                clear r0 r1 r2 k0 k1 kg0 kg1 kp hkp
                have hb2 := hbr.trans (bq0.mono hbr.size)
                go_wp2
                go_roundw
                case rel => exact ⟨k + 1, by omega, by go_num, by unfold Hid okN; rw [hok.out, HST.out]; rfl, hb2⟩
                case measure => simp [intOf]; omega
      · have ht : ((es[k].length : Int) != 2) = true := by simp; omega
        have hno := edgeW_no (hi := hi) hl
        have HNO := Lib.hid hno
        clear hno hl
        go_wp2_with fail
        refine wp_region_quiet_below (by kernel_rfl) (by kernel_rfl) ?_
        repeat (first | go_big_quiet_skip | quiet_step (first | (with_reducible exact Calls.regrown_of (inRange_q HP1.out _))))
        refine wpQuiet_nil ?_
        intro _ hw'
        obtain ⟨⟨dq, osq⟩, hw''⟩ := hw'
        subst hw''
        have bq0 := below_regrown wr dq osq
        generalize grow (redrawn wr dq) osq = wq at bq0 ⊢
        go_wp2
        go_ret
        exact ⟨rb (by rw [HGO.out, okN_false (by rw [HES.out, HNO.out]; rfl) hlt]; simp), (hbw.trans (bq0.mono hbw.size))⟩
    · obtain rfl : k = es.length := by omega
      go_wp2_with (go_at_call 69; refine (inRange_any _ _ _ _).mono ?_; rintro e w' ⟨rfl, rfl⟩)
      go_ret
      exact ⟨rb (by rw [HGO.out, hok.out]; simp), hbw⟩
end Go.Proofs.Ytenemohjmemoiaa
namespace Go.Proofs.Ytenemohjmemoiaa
open Go.RowKit

theorem run_append_of_nil {P : Program} (w : World) (base : Nat) (t ty e : TypeId) (i : TypeInfo) (size : Nat) (ht : P.underlying t = some (.slice e)) (hi : P.info? e = some i)
    (v : Value) (n : Nat) (xs : List Value) (hown : w.ownsRow base e size v n xs) (c : Nat) : (Builtin.append_ #[t, t] ty #[v, .slice none 0 c]).run P w = .ok v w := by
  rcases hown.2 with ⟨rfl, rfl⟩ | ⟨g, cap, cur, rfl, _, _, hnc, _⟩
  · simp [Builtin.append_, run_underlying ht, sizeOf, typeInfo, hi, Builtin.lenOf, Builtin.firstCells]
  · simp [Builtin.append_, run_underlying ht, sizeOf, typeInfo, hi, Builtin.lenOf, Builtin.firstCells, hnc, storeCells]

/-- an element type E of a slice type T: its fields are one cell each -/
structure Flat (α : Type) where
  T : Nat
  E : Nat
  z : Value
  size : Nat
  bytes : Nat
  enc : α → List Value
  und : Try.prog.underlying T = some (.slice E)
  inf : (Try.prog.info? E).map (fun i => (i.zero, i.size, i.bytes)) = some (some z, size, bytes)
  zsz : z.cells.size = size
  pos : 0 < size
  few : bytes ≤ 4096
  len : ∀ x, (enc x).length = size
  one : ∀ x u, u ∈ enc x → u.oneCell' = true
namespace Flat
variable {α : Type}
def encs (F : Flat α) (xs : List α) : List Value := xs.flatMap F.enc
theorem encs_nil (F : Flat α) : F.encs [] = [] := rfl
theorem encs_cons (F : Flat α) (x : α) (xs : List α) : F.encs (x :: xs) = F.enc x ++ F.encs xs := rfl
theorem encs_append (F : Flat α) (xs ys : List α) : F.encs (xs ++ ys) = F.encs xs ++ F.encs ys := by simp [encs]
theorem encs_length (F : Flat α) : ∀ xs : List α, (F.encs xs).length = xs.length * F.size
  | [] => by simp [encs]
  | x :: xs => by rw [encs_cons, List.length_append, F.len, encs_length F xs, List.length_cons]; rw [Nat.add_mul]; omega
theorem encs_one (F : Flat α) {xs : List α} {u : Value} (h : u ∈ F.encs xs) : u.oneCell' = true := by
  unfold encs at h
  rw [List.mem_flatMap] at h
  obtain ⟨x, _, hx⟩ := h
  exact F.one x u hx
theorem encs_get (F : Flat α) : ∀ {xs : List α} {i j : Nat} (hi : i < xs.length), j < F.size → (F.encs xs)[i * F.size + j]? = (F.enc xs[i])[j]?
  | x :: xs, 0, j, _, hj => by
    rw [encs_cons, Nat.zero_mul, Nat.zero_add, List.getElem?_append_left (by rw [F.len]; exact hj)]; rfl
  | x :: xs, i + 1, j, hi, hj => by
    have h1 : (i + 1) * F.size + j = F.size + (i * F.size + j) := by rw [Nat.add_mul]; omega
    rw [encs_cons, List.getElem?_append_right (by rw [F.len]; omega), h1, F.len, Nat.add_sub_cancel_left]
    exact encs_get F (by simpa using hi) hj
/-- a slice that reads so -/
def Sl (F : Flat α) (w : World) (v : Value) (xs : List α) : Prop :=
  ∃ ad c, v = .slice ad xs.length c ∧ xs.length ≤ c ∧ c ≤ maxLen ∧ Rd w ad (F.encs xs)
def Own (F : Flat α) (w : World) (base : Nat) (v : Value) (xs : List α) : Prop := w.ownsRow base F.E F.size v xs.length (F.encs xs)
variable {F : Flat α}
theorem Sl.below {w w' : World} {v : Value} {xs : List α} (h : F.Sl w v xs) (hb : Below w.heap.size w w') : F.Sl w' v xs := by
  obtain ⟨ad, c, h1, h2, h3, h4⟩ := h
  exact ⟨ad, c, h1, h2, h3, h4.below hb⟩
theorem Sl.nil (w : World) : F.Sl w (.slice none 0 0) [] := ⟨none, 0, rfl, Nat.le_refl _, by simp [maxLen], Rd.nil _ _⟩
theorem Own.sl {w : World} {base : Nat} {v : Value} {xs : List α} (h : F.Own w base v xs) : F.Sl w v xs := by
  obtain ⟨ad, c, h1, h2, h3, h4⟩ := ownsRow_rd h
  exact ⟨ad, c, h1, h2, h3, h4⟩
theorem Own.below {w w' : World} {base : Nat} {v : Value} {xs : List α} (h : F.Own w base v xs) (hb : Below w.heap.size w w') : F.Own w' base v xs := ownsRow_below h hb
theorem Own.lower {w : World} {base base' : Nat} {v : Value} {xs : List α} (h : F.Own w base v xs) (hb : base' ≤ base) : F.Own w base' v xs := ownsRow_lower h hb
theorem Own.nil (w : World) (base : Nat) : F.Own w base (.slice none 0 0) [] := World.ownsRow_nil _ _ _ _
theorem Own.empty (w : World) {base : Nat} (hb : base ≤ w.heap.size) : F.Own (w.alloc (.cells #[] F.E)) base (.slice (some ⟨w.heap.size, 0, none⟩) 0 0) [] :=
  World.ownsRow_lit (base := base) (e := F.E) (size := F.size) w #[] 0 hb (by simp [maxLen]) (by simp)
theorem Own.grown {w w' : World} {base : Nat} {v : Value} {xs : List α} (h : F.Own w base v xs) (hg : w.grownBy w' v.ownBlock) (hb : base ≤ w.heap.size) : Below base w w' :=
  (Below.refl _ _).grown hg hb (fun k hk => (h.lt k hk).1)
theorem Own.forms {w : World} {base : Nat} {v : Value} {xs : List α} (h : F.Own w base v xs) :
    (v = .slice none 0 0 ∧ xs = []) ∨ ∃ g c, v = .slice (some ⟨g, 0, none⟩) xs.length c ∧ base ≤ g ∧ g < w.heap.size ∧ xs.length ≤ c ∧ c ≤ maxLen := by
  rcases h.2 with ⟨h1, h2⟩ | ⟨g, c, cur, h1, h2, h3, h4, h5, _⟩
  · exact .inl ⟨h1, List.length_eq_zero_iff.1 h2⟩
  · exact .inr ⟨g, c, h1, h2, (Array.getElem?_eq_some_iff.1 h3).1, h4, h5⟩
theorem Own.len_of {w : World} {base g n c : Nat} {xs : List α} (h : F.Own w base (.slice (some ⟨g, 0, none⟩) n c) xs) : n = xs.length := by
  rcases h.2 with ⟨h1, _⟩ | ⟨g', c', cur, h1, _⟩
  · simp at h1
  · simp at h1; exact h1.2.1
theorem Own.cell {w : World} {base g n c : Nat} {xs : List α} (h : F.Own w base (.slice (some ⟨g, 0, none⟩) n c) xs) {i j : Nat} (hi : i < xs.length) (hj : j < F.size) :
    w.cell? ⟨g, i * F.size + j, none⟩ = (F.enc xs[i])[j]? := by
  obtain rfl := h.len_of
  have h1 : i * F.size + j < xs.length * F.size := by
    have : (i + 1) * F.size ≤ xs.length * F.size := Nat.mul_le_mul_right _ hi
    rw [Nat.add_mul] at this; omega
  rw [World.ownsRow.cellAt h _ h1, F.encs_get hi hj]
theorem Own.free {w : World} {base g n c : Nat} {xs : List α} (h : F.Own w base (.slice (some ⟨g, 0, none⟩) n c) xs) (i : Nat) : w.frozen? ⟨g, i, none⟩ = false := by
  obtain rfl := h.len_of
  exact World.ownsRow.frozenAt h i
theorem Sl.at_ {w : World} {ad : Option Addr} {n c : Nat} {xs : List α} (h : F.Sl w (.slice ad n c) xs) {i : Nat} (hi : i < xs.length) :
    ∃ b off, ad = some ⟨b, off, none⟩ ∧ b < w.heap.size ∧ ∀ j u, (F.enc xs[i])[j]? = some u → w.cell? ⟨b, off + (i * F.size + j), none⟩ = some u := by
  obtain ⟨ad', c', he, _, _, h4⟩ := h
  simp at he
  obtain ⟨rfl, _, _⟩ := he
  have hl : i * F.size < (F.encs xs).length := by
    rw [F.encs_length]
    exact (Nat.mul_lt_mul_right F.pos).2 hi
  obtain ⟨b, off, h5, h6, h7⟩ := h4.all hl
  refine ⟨b, off, h5, h6, fun j u hu => h7 _ u ?_⟩
  have hj : j < F.size := by rw [← F.len xs[i]]; exact (List.getElem?_eq_some_iff.1 hu).1
  rw [F.encs_get hi hj]; exact hu
theorem Sl.len_of {w : World} {ad : Option Addr} {n c : Nat} {xs : List α} (h : F.Sl w (.slice ad n c) xs) : n = xs.length ∧ n ≤ c ∧ c ≤ maxLen := by
  obtain ⟨ad', c', he, h2, h3, _⟩ := h
  simp at he
  obtain ⟨_, rfl, rfl⟩ := he
  exact ⟨rfl, h2, h3⟩
/-- append of any slice on an owned one -/
theorem append {ops : Array Oper} {rest : List Oper} {o : Oper} {a : Act} {Q : Exit → Act → World → Prop} (F : Flat α) (w : World) (s x : Operand) (hg : o.guard = none)
    (ho : o.op = .call { callee := .builtin .append, args := #[s, x], argTypes := #[F.T, F.T] })
    {base : Nat} {v : Value} {xs ys : List α} (hs : a.eval s = v) (hown : F.Own w base v xs) {ad : Option Addr} {c : Nat} (hx : a.eval x = .slice ad ys.length c) (hr : Rd w ad (F.encs ys))
    (hlen : xs.length + ys.length ≤ 16777216) (hbase : base ≤ w.heap.size)
    (h : ∀ v' w', F.Own w' base v' (xs ++ ys) → w.grownBy w' v.ownBlock → Below base w w' → wpList Try.prog ops Q rest (a.put o.dst v') w') : wpList Try.prog ops Q (o :: rest) a w := by
  obtain ⟨i0, hi, hz0, hz1, hz2⟩ := info_parts F.inf
  cases ad with
  | none =>
    have h0 : ys = [] := by
      cases ys with
      | nil => rfl
      | cons y ys =>
        have hl : 0 < (F.encs (y :: ys)).length := by rw [F.encs_length]; exact Nat.mul_pos (by simp) F.pos
        obtain ⟨b, off, h1, _⟩ := hr.all hl
        simp at h1
    subst h0
    refine wpList_plain hg fun K hK => ?_
    have hrun := run_append_of_nil (P := Try.prog) w base F.T o.type F.E i0 F.size F.und hi v xs.length (F.encs xs) hown c
    unfold Oper.wp execOp
    simp only [List.length_nil] at hx
    simp only [ho, resolve, invoke, builtin, Sem.run_bind, Sem.run_pure, Result.andThen_ok, List.map_toArray, List.map_cons, List.map_nil, hs, hx, hrun]
    exact hK _ _ (h v w (by simpa using hown) (World.grownBy.refl w _) (Below.refl _ _))
  | some ad =>
    refine wpList_append_own _ hg s x _ ho base F.E i0 F.z F.size F.bytes F.und hi hz0 hz1 hz2 F.zsz F.pos v xs.length (F.encs xs) hs hown ad ys.length c (F.encs ys) hx (F.encs_length ys) ?_ (fun u hu => F.encs_one hu) (by simp [maxLen]; omega) ?_ hbase (fun v' w' h1 h2 _ => ?_)
    · intro j u hu
      obtain ⟨b, off, he, _, hc⟩ := hr j u hu
      simp at he
      subst he
      unfold Addr.add
      by_cases hj : j = 0
      · subst hj; simpa using hc
      · simpa [hj] using hc
    · have := F.few
      calc (xs.length + ys.length) * F.bytes ≤ 16777216 * 4096 := Nat.mul_le_mul hlen this
        _ ≤ 140737488355328 := by decide
    · refine h v' w' ?_ h2 ((Below.refl _ _).grown h2 hbase (fun k hk => (hown.lt k hk).1))
      unfold Own
      rw [encs_append, List.length_append]
      exact h1
/-- make -/
theorem make {ops : Array Oper} {rest : List Oper} {o : Oper} {a : Act} {Q : Exit → Act → World → Prop} (F : Flat α) (w : World) (l c : Operand) (z : α) (hz : F.z.cells.toList = F.enc z) (hg : o.guard = none) (hop : o.op = Op.makeSlice F.T l c)
    (n : Nat) {kl kc : IntKind} {L C : Int} (hl : a.eval l = .int kl L) (hc : a.eval c = .int kc C) (hL : L = (n : Int)) (hC : C = (n : Int)) (hn : n ≤ 16777216)
    (hm : (madeCells F.z.cells (n * F.size)).toList = F.encs (List.replicate n z))
    (hK : ∀ w', F.Own w' w.heap.size (.slice (some ⟨w.heap.size, 0, none⟩) n n) (List.replicate n z) → Below w.heap.size w w' → w.heap.size < w'.heap.size → wpList Try.prog ops Q rest (a.put o.dst (.slice (some ⟨w.heap.size, 0, none⟩) n n)) w') :
    wpList Try.prog ops Q (o :: rest) a w := by
  obtain ⟨i0, hi, hz0, hz1, hz2⟩ := info_parts F.inf
  refine wpList_make_full w hg l c _ hop w.heap.size F.E i0 F.z F.size F.und hi hz0 hz1 kl kc L C n hl hc hL hC ?_ (by simp [maxLen]; omega) (Nat.le_refl _) (fun w' h1 h2 => ?_)
  · rw [hz2]
    have := F.few
    calc F.bytes * n ≤ 4096 * 16777216 := Nat.mul_le_mul this hn
      _ ≤ 281474976710656 := by decide
  · rw [hm] at h1
    refine hK w' (by unfold Own; rw [List.length_replicate]; exact h1) ((Below.refl _ _).grown h2 (Nat.le_refl _) (by simp)) (h1.lt w.heap.size rfl).2
end Flat
/-- a new block's cells -/
theorem rd_new (w : World) (cs : Array Value) (t : Nat) : Rd (w.alloc (.cells cs t)) (some ⟨w.heap.size, 0, none⟩) cs.toList := by
  intro j u hu
  refine ⟨w.heap.size, 0, rfl, by simp, ?_⟩
  simp at hu
  simp [go_sem, hu]
/-- int64 -/
def FI : Flat Int := ⟨31, 2, .int .i64 0, 1, 8, fun x => [.int .i64 x], Try.underlying31, by kernel_rfl, rfl, by decide, by decide, fun _ => rfl, by intro x u h; simp at h; subst h; rfl⟩
theorem FI_encs (xs : List Int) : FI.encs xs = i64s xs := by
  induction xs with
  | nil => rfl
  | cons x xs ih => rw [Flat.encs_cons, ih]; rfl
theorem FI_own {w : World} {base : Nat} {v : Value} {xs : List Int} : FI.Own w base v xs = OwnI w base v xs := by
  unfold Flat.Own OwnI; rw [FI_encs]; rfl
theorem SlI.at_ {w : World} {ad : Option Addr} {n c : Nat} {xs : List Int} (h : SlI w (.slice ad n c) xs) {k : Nat} (hk : k < xs.length) :
    ∃ b off, ad = some ⟨b, off, none⟩ ∧ b < w.heap.size ∧ w.cell? ⟨b, off + k, none⟩ = some (.int .i64 xs[k]) := by
  obtain ⟨ad', c', he, _, _, h4⟩ := h
  simp at he
  obtain ⟨rfl, _, _⟩ := he
  exact h4 k _ (i64s_get hk)
/-- append(v, u...) on an owned []int64 -/
theorem append_SlI {ops : Array Oper} {rest : List Oper} {o : Oper} {a : Act} {Q : Exit → Act → World → Prop} (w : World) (s x : Operand) (hg : o.guard = none)
    (ho : o.op = .call { callee := .builtin .append, args := #[s, x], argTypes := #[31, 31] })
    {base : Nat} {v u : Value} {xs ys : List Int} (hs : a.eval s = v) (hown : OwnI w base v xs) (hx : a.eval x = u) (hu : SlI w u ys)
    (hlen : xs.length + ys.length ≤ 16777216) (hbase : base ≤ w.heap.size)
    (h : ∀ v' w', OwnI w' base v' (xs ++ ys) → w.grownBy w' v.ownBlock → Below base w w' → wpList Try.prog ops Q rest (a.put o.dst v') w') : wpList Try.prog ops Q (o :: rest) a w := by
  obtain ⟨ad, c, rfl, _, _, hr⟩ := hu
  rw [← FI_encs] at hr
  rw [← FI_own] at hown
  exact Flat.append FI w s x hg ho hs hown hx hr hlen hbase (fun v' w' h1 h2 h3 => h v' w' (by rw [← FI_own]; exact h1) h2 h3)

def FB : Flat Bool := ⟨111, 4, .bool false, 1, 1, fun x => [.bool x], Try.underlying111, by kernel_rfl, rfl, by decide, by decide, fun _ => rfl, by intro x u h; simp at h; subst h; rfl⟩
theorem madeCells_one' {v : Value} (hv : v.cells = #[v]) (n : Nat) : (madeCells v.cells (n * 1)).toList = List.replicate n v := by
  rw [hv, Nat.mul_one, toList_madeCells_one]
theorem FB_encs (xs : List Bool) : FB.encs xs = xs.map .bool := by
  induction xs with
  | nil => rfl
  | cons x xs ih => rw [Flat.encs_cons, ih]; rfl
theorem FB_made (n : Nat) : (madeCells FB.z.cells (n * FB.size)).toList = FB.encs (List.replicate n false) := by
  rw [FB_encs, List.map_replicate]
  exact madeCells_one' (v := .bool false) rfl n
end Go.Proofs.Ytenemohjmemoiaa
