/-
  Graphs: valid or not, both sides. With it: Small words for laws whose arguments are []int64. Arguments of laws: boxed services. Marks written into what a law has handed in: what is made later, and what was there before, stays. Frames: what stays where some blocks alone are written; cells of a new block. A search by (impl.Chain).closed$1. Decks: all orders of few cards, as the reference lists them; the place of a deck among them. Graphs: copied, counted, compared. SameGraph, both.
-/
import Derived.Test.YtpmabnohdabbdaaZRowStepPaths4
import Derived.Test.YtpmabnohdabbdaaZRowStepPaths3
set_option linter.unusedVariables false
set_option linter.unusedSimpArgs false
namespace Go.Proofs.Ytpmabnohdabbdaa
open Go.RowKit
theorem eqInt64S_refl {u v : Value} {xs : List Int} (w : World) (ha : SlI w u xs) (hb : SlI w v xs) :
    Calls Try.prog 75 #[u, v] w fun e w' => e = .returned (.bool true) ∧ Below w.heap.size w w' :=
  (eqInt64S_any w ha hb).mono fun e w' ⟨h, hb⟩ => ⟨by rw [h]; simp, hb⟩
theorem eqInt64SS_refl {u v : Value} {xs : List (List Int)} (w : World) (ha : SlII w u xs) (hb : SlII w v xs) :
    Calls Try.prog 18 #[u, v] w fun e w' => e = .returned (.bool true) ∧ Below w.heap.size w w' :=
  (eqInt64SS_any w ha hb).mono fun e w' ⟨h, hb⟩ => ⟨by rw [h]; simp, hb⟩
end Go.Proofs.Ytpmabnohdabbdaa
namespace Go.Proofs.Ytpmabnohdabbdaa
open Go.RowKit Go.Sort
theorem szII_ok {xss : List (List Int)} {l1 : Int} (h : szII 1048576 xss = l1) (hl : ¬ l1 < 0) : xss.length ≤ 1048576 ∧ ∀ r ∈ xss, r.length ≤ 1048576 := by
  have := szII_nonneg (l := 1048576) (xss := xss) (by rw [h]; omega)
  exact ⟨by omega, fun r hr => by have := this.2.2 r hr; omega⟩
end Go.Proofs.Ytpmabnohdabbdaa
namespace Go.Proofs.Ytpmabnohdabbdaa
open Go.RowKit Go.Sort
/-- all but blocks from lo to hi stays -/
structure Mid (lo hi : Nat) (w w' : World) : Prop where
  os : w'.os = w.os
  tape : w'.tape = w.tape
  output : w'.output = w.output
  size : w.heap.size ≤ w'.heap.size
  block : ∀ k, k < w.heap.size → (k < lo ∨ hi ≤ k) → w'.heap[k]? = w.heap[k]?
theorem Mid.refl (lo hi : Nat) (w : World) : Mid lo hi w w := ⟨rfl, rfl, rfl, Nat.le_refl _, fun _ _ _ => rfl⟩
theorem Mid.trans {lo hi : Nat} {a b c : World} (h : Mid lo hi a b) (k : Mid lo hi b c) : Mid lo hi a c :=
  ⟨k.os.trans h.os, k.tape.trans h.tape, k.output.trans h.output, Nat.le_trans h.size k.size, fun i hi' hx => (k.block i (Nat.lt_of_lt_of_le hi' h.size) hx).trans (h.block i hi' hx)⟩
theorem Mid.below {lo hi : Nat} {w w' : World} (h : Mid lo hi w w') (hlo : lo ≤ w.heap.size) : Below lo w w' := ⟨h.os, h.tape, h.output, h.size, fun k hk => h.block k (Nat.lt_of_lt_of_le hk hlo) (.inl hk)⟩
theorem Mid.of_below {lo hi : Nat} {w w' : World} (h : Below w.heap.size w w') : Mid lo hi w w' := ⟨h.os, h.tape, h.output, h.size, fun k hk _ => h.block k hk⟩
theorem Mid.of_grown {lo hi : Nat} {w w' : World} {row : Option Nat} (h : w.grownBy w' row) (hr : ∀ g, row = some g → lo ≤ g ∧ g < hi) : Mid lo hi w w' :=
  ⟨h.os, h.tape, h.output, h.size, fun k hk hx => h.block k hk (by
    intro e
    have := hr k e.symm
    omega)⟩
theorem ownsRow_mid {w w' : World} {lo hi base e size n : Nat} {v : Value} {xs : List Value} (h : w.ownsRow base e size v n xs) (hm : Mid lo hi w w') (hb : hi ≤ base) : w'.ownsRow base e size v n xs := by
  refine ⟨h.1, ?_⟩
  rcases h.2 with h2 | ⟨g, cap, cur, h1, h2, h3, h4⟩
  · exact .inl h2
  · refine .inr ⟨g, cap, cur, h1, h2, ?_, h4⟩
    rw [hm.block g (Array.getElem?_eq_some_iff.1 h3).1 (.inr (by omega))]; exact h3
def sumL (xss : List (List Int)) : Nat := (xss.map List.length).sum
theorem sumL_take {xss : List (List Int)} {k : Nat} (h : k < xss.length) : sumL (xss.take (k + 1)) = sumL (xss.take k) + xss[k].length := by
  unfold sumL; rw [List.take_succ_eq_append_getElem h, List.map_append, List.sum_append]; simp
theorem sumL_le (xss : List (List Int)) (k : Nat) : sumL (xss.take k) ≤ sumL xss := by
  unfold sumL
  conv => rhs; rw [← List.take_append_drop k xss]
  rw [List.map_append, List.sum_append]; omega
theorem szRows_sum : ∀ {xss : List (List Int)} {l : Int}, 0 ≤ szRows l xss → (sumL xss : Int) ≤ l
  | [], l, h => by simpa [sumL, szRows] using h
  | r :: rs, l, h => by
    unfold szRows at h
    by_cases h1 : sz1 l r.length < 0
    · rw [if_pos h1] at h; omega
    · rw [if_neg h1] at h
      have h2 := szRows_sum h
      have h5 : sz1 l r.length = l - r.length := by unfold sz1 at h1 ⊢; split <;> simp_all
      rw [h5] at h2
      have : sumL (r :: rs) = r.length + sumL rs := by simp [sumL]
      omega
theorem szII_sum {xss : List (List Int)} {l l1 : Int} (h : szII l xss = l1) (hl : ¬ l1 < 0) (hb : l ≤ 1048576) : sumL xss ≤ 1048576 := by
  unfold szII at h
  split at h
  · omega
  · have := szRows_sum (xss := xss) (l := l - xss.length) (by omega)
    omega
/-- rows whose blocks lie below B -/
def OwnIIB (w : World) (base B : Nat) (v : Value) (xss : List (List Int)) : Prop :=
  ∃ vs, w.ownsRow base 59 1 v xss.length vs ∧ Rows2 w base vs xss ∧ ∀ (i : Nat) (u : Value) (g : Nat), vs[i]? = some u → u.ownBlock = some g → g < B
theorem OwnII.b {w : World} {base : Nat} {v : Value} {xss : List (List Int)} (h : OwnII w base v xss) : OwnIIB w base w.heap.size v xss := by
  obtain ⟨vs, h1, h2⟩ := h
  exact ⟨vs, h1, h2, fun i u g hu hg => (h2.lt i u g hu hg).2⟩
theorem OwnIIB.below {w w' : World} {base B : Nat} {v : Value} {xss : List (List Int)} (h : OwnIIB w base B v xss) (hb : Below w.heap.size w w') : OwnIIB w' base B v xss := by
  obtain ⟨vs, h1, h2, h3⟩ := h
  exact ⟨vs, ownsRow_below h1 hb, h2.below hb, h3⟩
theorem OwnIIB.ii {w : World} {base B : Nat} {v : Value} {xss : List (List Int)} (h : OwnIIB w base B v xss) : OwnII w base v xss := by
  obtain ⟨vs, h1, h2, _⟩ := h
  exact ⟨vs, h1, h2⟩
theorem OwnIIB.sl {w : World} {base B : Nat} {v : Value} {xss : List (List Int)} (h : OwnIIB w base B v xss) : SlII w v xss := h.ii.sl
set_option maxHeartbeats 1000000 in
theorem markInt64SS_any {v : Value} {xss : List (List Int)} (m : Int) (base B : Nat) (w : World) (hm0 : 0 ≤ m) (hm : m + sumL xss ≤ 1000000000000) (ha : OwnIIB w base B v xss) :
    Calls Try.prog 21 #[v, .int .i64 m] w fun e w' => e = .returned (.int .i64 (m + sumL xss)) ∧ Mid base B w w' := by
  obtain ⟨vs, h1, h2, h3⟩ := ha
  obtain ⟨ad, c, rfl, hc1, hc2, _⟩ := ownsRow_rd h1
  unfold maxLen at hc2
  have HV := Lib.hid h2
  have HB := Lib.hid h3
  clear h2 h3
  go_enter Try.func21, Try.ntmps21
  go_wp2
  go_loopw [1, 5] (fun q i wr => ∃ (k : Nat) (Q : Int), k ≤ xss.length ∧ i = .int .i64 k ∧ q = .int .i64 Q ∧ Hid (Q = m + sumL (xss.take k)) ∧ 0 ≤ Q ∧ Q ≤ 1000000000000 ∧ wr.ownsRow base 59 1 (.slice ad xss.length c) xss.length vs ∧ Hid (∀ (i : Nat) (u : Value) (xs : List Int), k ≤ i → vs[i]? = some u → xss[i]? = some xs → OwnI wr base u xs) ∧ Mid base B w wr) (fun _ i _ => xss.length - (intOf i).toNat)
  case atStart => exact ⟨0, m, Nat.zero_le _, rfl, rfl, by simp [Hid, sumL], hm0, by omega, h1, (fun i u xs _ hu hx => HV.out.2.1 i u xs hu hx), Mid.refl _ _ _⟩
  case round =>
    clear h1
    obtain ⟨k, Q, hk, rfl, rfl, hQ, hQ0, hQ1, hown, hrows, hmid⟩ := hrel
    by_cases hlt : k < xss.length
    · have hvl : k < vs.length := by rw [HV.out.1]; exact hlt
      obtain ⟨ad', c', he, _, _, hrd⟩ := ownsRow_rd hown
      simp at he
      obtain ⟨rfl, rfl⟩ := he
      obtain ⟨b, off, rfl, hcell⟩ := hrd.one (List.getElem?_eq_getElem hvl)
      have hu := hrows.out k vs[k] xss[k] (Nat.le_refl _) (List.getElem?_eq_getElem hvl) (List.getElem?_eq_getElem hlt)
      have hle := sumL_le xss (k + 1)
      have hst := sumL_take hlt
      have i1 : (k : Int) < (xss.length : Int) := by omega
      have hbq : Q + xss[k].length ≤ 1000000000000 := by have := hQ.out; omega
      have HST := Lib.hid hst
      have hvk : vs[k]? = some vs[k] := List.getElem?_eq_getElem hvl
      generalize vs[k] = u at hcell hu hvk
      obtain ⟨ua, uc, rfl, _⟩ := id hu.sl
      have HVK := Lib.hid hvk
      clear hst hle hvk
      go_wp2_with fail
      refine (markInt64S_any Q base _ hQ0 hbq hu).mono ?_
      rintro e w2 ⟨rfl, o2, g2⟩
      have hrow : Mid base B wr w2 := Mid.of_grown g2 (fun g hg => ⟨(hu.lt g hg).1, HB.out k _ g HVK.out hg⟩)
      have own2 : w2.ownsRow base 59 1 (.slice (some ⟨b, off, none⟩) xss.length c) xss.length vs := World.ownsRow.kept hown g2 (by
        cases hb : (Value.slice (some ⟨b, off, none⟩) xss.length c).ownBlock with
        | none => exact .inl rfl
        | some g => exact .inr (fun e => hu.apart hown e.symm hb))
      have rows2 : Hid (∀ (i : Nat) (u : Value) (xs : List Int), k + 1 ≤ i → vs[i]? = some u → xss[i]? = some xs → OwnI w2 base u xs) := by
        intro i u' xs' hi hu' hx'
        have h5 := hrows.out i u' xs' (by omega) hu' hx'
        refine h5.kept g2 ?_
        cases hb : u'.ownBlock with
        | none => exact .inl rfl
        | some g => exact .inr (fun e => HV.out.2.2 i k u' _ g (by omega) hu' HVK.out hb e.symm)
      have hm2 := hmid.trans hrow
      clear hown hrows hu o2 g2 hmid
      go_wp2
      go_roundw
      case rel => exact ⟨k + 1, Q + xss[k].length, by omega, by go_num, rfl, by have := hQ.out; have := HST.out; unfold Hid; omega, by omega, by omega, own2, rows2, hm2⟩
      case measure => simp [intOf]; omega
    · obtain rfl : k = xss.length := by omega
      go_wp2
      go_ret
      exact ⟨ri (by rw [hQ.out, List.take_length]), hmid⟩

set_option maxHeartbeats 400000 in
theorem markChain_any {v : Value} {xss : List (List Int)} (s t m : Int) (base B : Nat) (w : World) (hm0 : 0 ≤ m) (hm : m + sumL xss ≤ 1000000000000) (ha : OwnIIB w base B v xss) :
    Calls Try.prog 20 #[.agg #[.int .i64 s, .int .i64 t, v], .int .i64 m] w fun e w' => e = .returned (.int .i64 (m + sumL xss)) ∧ Mid base B w w' := by
  obtain ⟨a, ca, us, rfl, _⟩ := id ha.ii.sl
  have bx : Below w.heap.size w (w.alloc (chObj s t (.slice a xss.length ca))) := chBelow w s t _
  have hb := ha.below bx
  clear ha
  go_enter Try.func20, Try.ntmps20
  go_wp2_with fail
  refine (markInt64SS_any m base B _ hm0 hm hb).mono ?_
  rintro e w2 ⟨rfl, m2⟩
  go_wp2
  go_ret
  exact ⟨rfl, (Mid.of_below bx).trans m2⟩
end Go.Proofs.Ytpmabnohdabbdaa
namespace Go.Proofs.Ytpmabnohdabbdaa
open Go.RowKit Go.Sort
/-- the first cells of a block -/
def CellsAt (w : World) (b : Nat) (vs : List Value) : Prop := b < w.heap.size ∧ ∀ i u, vs[i]? = some u → w.cell? ⟨b, i, none⟩ = some u
theorem CellsAt.new (w : World) (vs : List Value) (T : Nat) : CellsAt (w.alloc (.cells vs.toArray T)) w.heap.size vs := by
  refine ⟨by simp, fun i u h => ?_⟩
  simp [go_sem, h]
theorem CellsAt.new' (w : World) (vs : List Value) (T : Nat) {b : Nat} (hb : b = w.heap.size) : CellsAt (w.alloc (.cells vs.toArray T)) b vs := by
  subst hb; exact CellsAt.new w vs T
theorem CellsAt.below {w w' : World} {b : Nat} {vs : List Value} (h : CellsAt w b vs) (hb : Below w.heap.size w w') : CellsAt w' b vs :=
  ⟨Nat.lt_of_lt_of_le h.1 hb.size, fun i u hu => by rw [hb.cell (p := ⟨b, i, none⟩) h.1]; exact h.2 i u hu⟩
theorem CellsAt.get {w : World} {b : Nat} {vs : List Value} (h : CellsAt w b vs) (i : Nat) (u : Value) (hu : vs[i]? = some u) : w.cell? ⟨b, i, none⟩ = some u := h.2 i u hu
/-- all blocks but those of S stay -/
structure Fs (S : Nat → Prop) (w w' : World) : Prop where
  os : w'.os = w.os
  tape : w'.tape = w.tape
  output : w'.output = w.output
  size : w.heap.size ≤ w'.heap.size
  block : ∀ k, k < w.heap.size → ¬ S k → w'.heap[k]? = w.heap[k]?
theorem Fs.trans {S : Nat → Prop} {a b c : World} (h : Fs S a b) (k : Fs S b c) : Fs S a c :=
  ⟨k.os.trans h.os, k.tape.trans h.tape, k.output.trans h.output, Nat.le_trans h.size k.size, fun i hi hx => (k.block i (Nat.lt_of_lt_of_le hi h.size) hx).trans (h.block i hi hx)⟩
theorem Fs.of_below {S : Nat → Prop} {w w' : World} (h : Below w.heap.size w w') : Fs S w w' := ⟨h.os, h.tape, h.output, h.size, fun k hk _ => h.block k hk⟩
theorem Fs.below {S : Nat → Prop} {w w' : World} (h : Fs S w w') {B : Nat} (hB : B ≤ w.heap.size) (hS : ∀ k, S k → B ≤ k) : Below B w w' :=
  ⟨h.os, h.tape, h.output, h.size, fun k hk => h.block k (Nat.lt_of_lt_of_le hk hB) (fun hs => by have := hS k hs; omega)⟩
theorem Fs.of_mid {lo hi : Nat} {w w' : World} (h : Mid lo hi w w') : Fs (fun k => lo ≤ k ∧ k < hi) w w' := ⟨h.os, h.tape, h.output, h.size, fun k hk hx => h.block k hk (by omega)⟩
theorem Fs.of_grown {S : Nat → Prop} {w w' : World} {row : Option Nat} (h : w.grownBy w' row) (hr : ∀ g, row = some g → S g) : Fs S w w' :=
  ⟨h.os, h.tape, h.output, h.size, fun k hk hx => h.block k hk (fun e => hx (hr k e.symm))⟩
theorem Fs.cell {S : Nat → Prop} {w w' : World} (h : Fs S w w') {p : Addr} (hp : p.block < w.heap.size) (hn : ¬ S p.block) : w'.cell? p = w.cell? p :=
  World.cell?_of_block (h.block p.block hp hn)
theorem Fs.mono {S T : Nat → Prop} {w w' : World} (h : Fs S w w') (hST : ∀ k, S k → T k) : Fs T w w' :=
  ⟨h.os, h.tape, h.output, h.size, fun k hk hx => h.block k hk (fun hs => hx (hST k hs))⟩
theorem CellsAt.fs {S : Nat → Prop} {w w' : World} {b : Nat} {vs : List Value} (h : CellsAt w b vs) (hf : Fs S w w') (hS : ¬ S b) : CellsAt w' b vs :=
  ⟨Nat.lt_of_lt_of_le h.1 hf.size, fun i u hu => by rw [hf.cell (p := ⟨b, i, none⟩) h.1 hS]; exact h.2 i u hu⟩
theorem ownsRow_fs {S : Nat → Prop} {w w' : World} {base e size n : Nat} {v : Value} {xs : List Value} (h : w.ownsRow base e size v n xs) (hf : Fs S w w') (hS : ∀ k, S k → k < base) : w'.ownsRow base e size v n xs := by
  refine ⟨h.1, ?_⟩
  rcases h.2 with h2 | ⟨g, cap, cur, h1, h2, h3, h4⟩
  · exact .inl h2
  · refine .inr ⟨g, cap, cur, h1, h2, ?_, h4⟩
    rw [hf.block g (Array.getElem?_eq_some_iff.1 h3).1 (fun hs => by have := hS g hs; omega)]; exact h3
theorem OwnI.fs {S : Nat → Prop} {w w' : World} {base : Nat} {v : Value} {xs : List Int} (h : OwnI w base v xs) (hf : Fs S w w') (hS : ∀ k, S k → k < base) : OwnI w' base v xs := ownsRow_fs h hf hS
theorem OwnII.fs {S : Nat → Prop} {w w' : World} {base : Nat} {v : Value} {xss : List (List Int)} (h : OwnII w base v xss) (hf : Fs S w w') (hS : ∀ k, S k → k < base) : OwnII w' base v xss := by
  obtain ⟨vs, h1, h2⟩ := h
  exact ⟨vs, ownsRow_fs h1 hf hS, h2.1, fun i u xs hu hx => ownsRow_fs (h2.2.1 i u xs hu hx) hf hS, h2.2.2⟩
end Go.Proofs.Ytpmabnohdabbdaa
namespace Go.Proofs.Ytpmabnohdabbdaa
open Go.RowKit Go.Sort
set_option maxHeartbeats 1000000 in
theorem IndexFuncClos_any {u : Value} {xs : List Int} (cap0 cap1 : Value) (p : Int → Bool) (w : World) (ha : SlI w u xs)
    (hf : ∀ W x, Below w.heap.size w W → x ∈ xs → Calls Try.prog 199 #[.int .i64 x, cap0, cap1] W fun e w' => e = .returned (.bool (p x)) ∧ Below W.heap.size W w') :
    Calls Try.prog 181 #[u, .func (.func 199) #[] #[cap0, cap1]] w fun e w' => e = .returned (.int .i64 (ixP p xs 0)) ∧ Below w.heap.size w w' := by
  obtain ⟨a, ca, rfl, hca, hca', ha⟩ := ha
  unfold maxLen at hca'
  have HF := Lib.hid hf
  clear hf
  go_enter Try.func181, Try.ntmps181
  go_wp2
  go_loopw [5, 8] (fun _ i wr => ∃ k : Nat, k ≤ xs.length ∧ i = .int .i64 k ∧ Hid (ixP p xs 0 = ixP p (xs.drop k) k) ∧ Below w.heap.size w wr) (fun _ i _ => xs.length - (intOf i).toNat)
  case atStart => exact ⟨0, Nat.zero_le _, rfl, rfl, Below.refl _ _⟩
  case round =>
    obtain ⟨k, hk, rfl, hno, hbw⟩ := hrel
    by_cases hlt : k < xs.length
    · obtain ⟨b, off, rfl, gc⟩ := (ha.below hbw).one (i64s_get hlt)
      have i1 : (k : Int) < (xs.length : Int) := by omega
      have hst := ixP_step (p := p) hlt
      have HS := Lib.hid hst
      clear hst
      generalize hp : p xs[k] = P
      have HP := Lib.hid hp
      clear hp
      cases P
      · go_wp2_with fail
        refine (HF.out _ xs[k] hbw (List.getElem_mem hlt)).mono ?_
        rintro e w2 ⟨rfl, b2⟩
        rw [HP.out]
        have bq := hbw.trans (b2.mono hbw.size)
        go_wp2
        go_roundw
        case rel => exact ⟨k + 1, by omega, by go_num, by unfold Hid at *; rw [hno, HS, HP]; rfl, bq⟩
        case measure => simp [intOf]; omega
      · go_wp2_with fail
        refine (HF.out _ xs[k] hbw (List.getElem_mem hlt)).mono ?_
        rintro e w2 ⟨rfl, b2⟩
        rw [HP.out]
        have bq := hbw.trans (b2.mono hbw.size)
        go_wp2
        go_ret
        exact ⟨ri (by rw [hno.out, HS.out, HP.out]; rfl), bq⟩
    · obtain rfl : k = xs.length := by omega
      go_wp2
      go_ret
      exact ⟨ri (by rw [hno.out]; simp [ixP]), hbw⟩
set_option maxHeartbeats 400000 in
theorem ContainsFuncClos_any {u : Value} {xs : List Int} (cap0 cap1 : Value) (p : Int → Bool) (w : World) (ha : SlI w u xs)
    (hf : ∀ W x, Below w.heap.size w W → x ∈ xs → Calls Try.prog 199 #[.int .i64 x, cap0, cap1] W fun e w' => e = .returned (.bool (p x)) ∧ Below W.heap.size W w') :
    Calls Try.prog 138 #[u, .func (.func 199) #[] #[cap0, cap1]] w fun e w' => e = .returned (.bool (xs.any p)) ∧ Below w.heap.size w w' := by
  have hx := ixP_any p xs 0
  obtain ⟨hb0, hb1⟩ := ixP_bd p xs 0
  obtain ⟨a, ca, rfl, hca, hca', _⟩ := id ha
  unfold maxLen at hca'
  have HF := Lib.hid hf
  have HX := Lib.hid hx
  clear hf hx
  go_enter Try.func138, Try.ntmps138
  go_wp2_with fail
  refine (IndexFuncClos_any cap0 cap1 p _ ha HF.out).mono ?_
  rintro e w2 ⟨rfl, b2⟩
  go_wp2
  go_ret
  exact ⟨rb HX.out, b2⟩
end Go.Proofs.Ytpmabnohdabbdaa
namespace Go.Proofs.Ytpmabnohdabbdaa
open Go.RowKit

/-- append(v, u) on owned rows, u a row that has been made since -/
theorem append_row {ops : Array Oper} {rest : List Oper} {o : Oper} {a : Act} {Q : Exit → Act → World → Prop} (w0 w : World) (s x : Operand) (hg : o.guard = none)
    (ho : o.op = .call { callee := .builtin .append, args := #[s, x], argTypes := #[22, 22] })
    {base : Nat} {v u : Value} {xss : List (List Int)} {xs : List Int} (hs : a.eval s = v) (hown : OwnII w0 base v xss) (hb : Below w0.heap.size w0 w) (hu : OwnI w w0.heap.size u xs) {t : Nat} (hx : a.eval x = .slice (some ⟨w.heap.size, 0, none⟩) 1 1)
    (hlen : xss.length < 16777216) (hbase : base ≤ w0.heap.size)
    (h : ∀ v' w', OwnII w' base v' (xss ++ [xs]) → Below base (w.alloc (.cells #[u] t)) w' → w.heap.size < w'.heap.size → wpList Try.prog ops Q rest (a.put o.dst v') w') : wpList Try.prog ops Q (o :: rest) a (w.alloc (.cells #[u] t)) := by
  obtain ⟨vs, h1, h2⟩ := hown
  have hlt := h2.lt
  have h1' := ownsRow_below h1 hb
  have h2' := h2.below hb
  have hu1 : u.oneCell' = true := by
    rcases hu.2 with ⟨rfl, _⟩ | ⟨g, c, cur, rfl, _⟩ <;> rfl
  refine append_one tI64S w u hu1 s x hg ho hs h1' hx hlen (Nat.le_trans hbase hb.size) (fun v' w' k1 k2 k3 k4 => ?_)
  refine h v' w' ⟨vs ++ [u], ?_, ?_⟩ k3 k4
  · rw [List.length_append]; exact k1
  · have hsn : Rows2 w base (vs ++ [u]) (xss ++ [xs]) := Rows2.snoc (B := w0.heap.size) h2' (hu.lower hbase) (fun i v g hv hg => (hlt i v g hv hg).2) (fun g hg => (hu.lt g hg).1)
    exact (hsn.below ((Below.refl _ _).alloc (Nat.le_refl _) _)).kept (h1'.alloc (.cells #[u] t)) k2

/-- the next longer decks of one -/
def extD (c : Nat) (d : List Int) : List (List Int) := ((upTo' c).filter (fun x => !decide (x ∈ d))).map (fun x => d ++ [x])
where upTo' (n : Nat) : List Int := (List.range n).map fun (i : Nat) => (i : Int)
def extN (c : Nat) (d : List Int) (x : Nat) : List (List Int) := ((extD.upTo' x).filter (fun x => !decide (x ∈ d))).map (fun x => d ++ [x])
def decksL (c : Nat) : Nat → List (List Int)
  | 0 => [[]]
  | k + 1 => (decksL c k).flatMap (extD c)
theorem extN_full (c : Nat) (d : List Int) : extN c d c = extD c d := rfl
theorem extN_zero (c : Nat) (d : List Int) : extN c d 0 = [] := rfl
theorem extN_no {c x : Nat} {d : List Int} (h : (x : Int) ∈ d) : extN c d (x + 1) = extN c d x := by
  simp [extN, extD.upTo', List.range_succ, List.filter_append, h]
theorem extN_yes {c x : Nat} {d : List Int} (h : ¬ (x : Int) ∈ d) : extN c d (x + 1) = extN c d x ++ [d ++ [(x : Int)]] := by
  simp [extN, extD.upTo', List.range_succ, List.filter_append, h]
theorem extN_length (c x : Nat) (d : List Int) : (extN c d x).length ≤ x := by
  unfold extN
  rw [List.length_map]
  refine Nat.le_trans (List.length_filter_le _ _) ?_
  simp [extD.upTo']
theorem decks_small {c k : Nat} (hc1 : 1 ≤ c) (hc : c ≤ 3) (hk : k ≤ c) : (decksL c k).length ≤ 6 ∧ ∀ d ∈ decksL c k, d.length = k := by
  have h : ∀ c, c ≤ 3 → ∀ k, k ≤ c → 1 ≤ c → ((decksL c k).length ≤ 6 ∧ ∀ d ∈ decksL c k, d.length = k) := by decide
  exact h c hc k hk hc1
theorem flat_take (l : List (List Int)) (f : List Int → List (List Int)) {i : Nat} (h : i < l.length) : (l.take (i + 1)).flatMap f = (l.take i).flatMap f ++ f l[i] := by
  rw [List.take_succ_eq_append_getElem h, List.flatMap_append]; simp
theorem flat_take_le (l : List (List Int)) (f : List Int → List (List Int)) (i : Nat) : ((l.take i).flatMap f).length ≤ (l.flatMap f).length := by
  conv => rhs; rw [← List.take_append_drop i l]
  rw [List.flatMap_append, List.length_append]; omega

set_option maxHeartbeats 400000 in
theorem l00Has_any {u : Value} {xs : List Int} (x : Int) (w : World) (ha : SlI w u xs) :
    Calls Try.prog 149 #[u, .int .i64 x] w fun e w' => e = .returned (.bool (decide (x ∈ xs))) ∧ w = w' := by
  obtain ⟨a, ca, rfl, hca, hca', ha⟩ := ha
  unfold maxLen at hca'
  go_enter Try.func149, Try.ntmps149
  go_wp2
  go_loopw [5] (fun i wr => ∃ k : Nat, k ≤ xs.length ∧ i = .int .i64 k ∧ Hid (¬ x ∈ xs.take k) ∧ wr = w) (fun i _ => xs.length - (intOf i).toNat)
  case atStart => exact ⟨0, Nat.zero_le _, rfl, by simp [Hid], rfl⟩
  case round =>
    obtain ⟨k, hk, rfl, hno, rfl⟩ := hrel
    by_cases hlt : k < xs.length
    · obtain ⟨b, off, rfl, gc⟩ := ha.one (i64s_get hlt)
      have i1 : (k : Int) < (xs.length : Int) := by omega
      by_cases he : xs[k] = x
      · have HE := Lib.hid he
        have ht : (xs[k] == x) = true := by simp [he]
        clear he
        go_wp2
        go_ret
        exact ⟨rb (by symm; simp; rw [← HE.out]; exact List.getElem_mem hlt), rfl⟩
      · have HE := Lib.hid he
        have ht : (xs[k] == x) = false := by simp [he]
        clear he
        go_wp2
        go_roundw
        case rel => exact ⟨k + 1, by omega, by go_num, by
          unfold Hid at *
          rw [List.take_succ_eq_append_getElem hlt, List.mem_append]
          rintro (h | h)
          · exact hno h
          · simp at h; exact HE h.symm, trivial⟩
        case measure => simp [intOf]; omega
    · go_wp2
      go_ret
      exact ⟨rb (by symm; simp; have := hno.out; rw [List.take_of_length_le (by omega)] at this; exact this), rfl⟩

set_option maxHeartbeats 400000 in
theorem l00Own_any {u : Value} {xs : List Int} (w : World) (ha : SlI w u xs) (hl : xs.length ≤ 1048576) :
    Calls Try.prog 89 #[u] w fun e w' => ∃ v, e = .returned v ∧ OwnI w' w.heap.size v xs ∧ Below w.heap.size w w' := by
  have bx : Below w.heap.size w (w.alloc (.cells #[] 2)) := (Below.refl _ _).alloc (Nat.le_refl _) _
  have hb := ha.below bx
  have hown := OwnI.empty w (base := w.heap.size) (Nat.le_refl _)
  obtain ⟨a, ca, rfl, _⟩ := id ha
  clear ha
  go_enter Try.func89, Try.ntmps89
  go_wp2_with (at_builtin; refine append_SlI _ _ _ rfl rfl rfl hown rfl hb (by simp; omega) (by simp) ?_)
  intro v' w1 hown1 hg1 hb1
  go_wp2
  go_ret
  exact ⟨_, rfl, hown1, bx.trans hb1⟩

theorem OwnII.one (w : World) {base : Nat} {u : Value} {xs : List Int} (hu : OwnI w base u xs) (hb : base ≤ w.heap.size) :
    OwnII (w.alloc (.cells #[u] 59)) base (.slice (some ⟨w.heap.size, 0, none⟩) 1 1) [xs] := by
  have hu1 : u.oneCell' = true := by rcases hu.2 with ⟨rfl, _⟩ | ⟨g, c, cur, rfl, _⟩ <;> rfl
  refine ⟨[u], World.ownsRow_lit (base := base) (e := 59) (size := 1) w #[u] 1 hb (by simp [maxLen]) (by simp), rfl, ?_, ?_⟩
  · intro i u' xs' h1 h2
    cases i with
    | zero => simp at h1 h2; subst h1 h2; exact hu.below ((Below.refl _ _).alloc (Nat.le_refl _) _)
    | succ i => simp at h1
  · intro i j u' v' g hij h1 h2
    cases i with
    | zero => cases j with
      | zero => exact absurd rfl hij
      | succ j => simp at h2
    | succ i => simp at h1

theorem OwnI.empty' (w : World) {base : Nat} (hb : base ≤ w.heap.size) : OwnI (w.alloc (.cells #[] 2)) base (.slice (some ⟨w.heap.size, 0, none⟩) 0 0) [] := OwnI.empty w hb

set_option maxHeartbeats 4000000 in
theorem l07Decks_any (c : Nat) (w : World) (h1 : 1 ≤ c) (h3 : c ≤ 3) :
    Calls Try.prog 82 #[.int .i64 c] w fun e w' => ∃ v, e = .returned v ∧ OwnII w' w.heap.size v (decksL c c) ∧ Below w.heap.size w w' := by
  have e0 := OwnI.empty w (base := w.heap.size) (Nat.le_refl _)
  have e1 := OwnII.one (w.alloc (.cells #[] 2)) e0 (by simp)
  rw [show (w.alloc (.cells #[] 2)).heap.size = w.heap.size + 1 by simp] at e1
  have b1 : Below w.heap.size w ((w.alloc (.cells #[] 2)).alloc (.cells #[.slice (some ⟨w.heap.size, 0, none⟩) 0 0] 59)) := ((Below.refl _ _).alloc (Nat.le_refl _) _).alloc (by simp) _
  clear e0
  go_enter Try.func82, Try.ntmps82
  go_wp2
  go_loopw [3, 4, 5, 6, 7] (fun v k _ _ _ wr => ∃ kk : Nat, kk ≤ c ∧ k = .int .i64 kk ∧ OwnII wr w.heap.size v (decksL c kk) ∧ Below w.heap.size w wr) (fun _ k _ _ _ _ => c - (intOf k).toNat)
  case atStart => exact ⟨0, Nat.zero_le _, rfl, e1, b1⟩
  case round =>
    clear e1 b1
    obtain ⟨kk, hkk, rfl, hown, hbw⟩ := hrel
    obtain ⟨wo, rfl⟩ : ∃ wo : World, wo = wr := ⟨_, rfl⟩
    by_cases hk : kk < c
    · obtain ⟨hd1, hd2⟩ := decks_small h1 h3 (k := kk) (by omega)
      have hd3 := (decks_small h1 h3 (k := kk + 1) (by omega)).1
      obtain ⟨D, hD⟩ : ∃ D, D = decksL c kk := ⟨_, rfl⟩
      have hDs : decksL c (kk + 1) = D.flatMap (extD c) := by rw [hD]; rfl
      rw [← hD] at hown hd1 hd2
      rw [hDs] at hd3
      have HDS := Lib.hid hDs
      have HD2 := Lib.hid hd2
      clear hDs hD hd2
      obtain ⟨pa, pc, pv, rfl, pl, pm, pvl, prd, prow⟩ := id hown.sl
      unfold maxLen at pm
      have HV := Lib.hid pvl
      have HR := Lib.hid prow
      clear pvl prow
      have hs0 := hbw.size
      go_wp2
      go_loopw [5, 6, 7] (fun v i _ wr => ∃ ii : Nat, ii ≤ D.length ∧ i = .int .i64 ii ∧ OwnII wr wo.heap.size v ((D.take ii).flatMap (extD c)) ∧ Below wo.heap.size wo wr) (fun _ i _ _ => D.length - (intOf i).toNat)
      case atStart => exact ⟨0, Nat.zero_le _, rfl, OwnII.empty _ (Nat.le_refl _), (Below.refl _ _).alloc (Nat.le_refl _) _⟩
      case round =>
        obtain ⟨ii, hii, rfl, hnx, hbo⟩ := hrel
        obtain ⟨wp, rfl⟩ : ∃ wp : World, wp = wr := ⟨_, rfl⟩
        by_cases hi : ii < D.length
        · have hlen := flat_take_le D (extD c) ii
          have hdl := HD2.out _ (List.getElem_mem hi)
          have hft := flat_take D (extD c) hi
          obtain ⟨d, hd⟩ : ∃ d, d = D[ii] := ⟨_, rfl⟩
          obtain ⟨L, hL⟩ : ∃ L, L = (D.take ii).flatMap (extD c) := ⟨_, rfl⟩
          rw [← hL] at hnx hlen hft
          rw [← hd] at hdl hft
          have HL := Lib.hid hL
          have HFT := Lib.hid hft
          have HDD := Lib.hid hd
          have hdl' : d.length ≤ 3 := by omega
          clear hL hft hd hdl
          go_wp2
          go_loopw [5, 7] (fun v x wr => ∃ xx : Nat, xx ≤ c ∧ x = .int .i64 xx ∧ OwnII wr wo.heap.size v (L ++ extN c d xx) ∧ Below wo.heap.size wo wr) (fun _ x _ => c - (intOf x).toNat)
          case atStart => exact ⟨0, Nat.zero_le _, rfl, by simpa [extN_zero] using hnx, hbo⟩
          case round =>
            clear hnx hbo
            obtain ⟨xx, hxx, rfl, hnx, hbr⟩ := hrel
            by_cases hx : xx < c
            · obtain ⟨u, bb, oo, rfl, hcell, hu⟩ := SlII.row HV.out (prd.below hbr) (fun i hi u hu => (HR.out i hi u hu).below hbr) hi
              rw [← HDD.out] at hu
              obtain ⟨ua, uc, rfl, _⟩ := id hu
              have i1 : (ii : Int) < (D.length : Int) := by omega
              have hel := extN_length c xx d
              have hwl := hbw.trans (hbr.mono hbw.size)
              have hws := hbr.size
              have hln2 : (L ++ extN c d xx).length < 16777216 := by rw [List.length_append]; omega
              by_cases hm : (xx : Int) ∈ d
              · have hdm : decide ((xx : Int) ∈ d) = true := by simpa using hm
                have HDM := Lib.hid hdm
                have HM := Lib.hid hm
                clear hm hdm
                go_wp2_with (go_at_call 149; refine (l00Has_any _ _ hu).mono ?_; rintro e w' ⟨rfl, rfl⟩; rw [HDM.out])
                go_roundw
                case rel => exact ⟨xx + 1, by omega, by go_num, by rw [extN_no HM.out]; exact hnx, hbr⟩
                case measure => simp [intOf]; omega
              · have hdm : decide ((xx : Int) ∈ d) = false := by simpa using hm
                have HDM := Lib.hid hdm
                have HM := Lib.hid hm
                clear hm hdm
                go_wp2_with (first
                  | (go_at_call 149; refine (l00Has_any _ _ hu).mono ?_; rintro e w' ⟨rfl, rfl⟩; rw [HDM.out])
                  | (go_at_call 89; refine (l00Own_any _ hu (by omega)).mono ?_; rintro e w2 ⟨v2, rfl, o2, b2⟩; have z2 := b2.size)
                  | (at_builtin; refine append_i64 _ _ (.tmp 39) (.tmp 41) rfl rfl rfl o2 rfl (by omega) b2.size ?_; intro v3 w3 o3 b3 z3; have b23 : Below wr.heap.size wr w3 := (b2.alloc z2 _).trans b3; obtain ⟨va, vc, rfl, _⟩ := id o3.sl; simp only [List.length_append, List.length_cons, List.length_nil, Nat.zero_add] at o3)
                  | (at_builtin; refine append_row wr w3 (.tmp 34) (.tmp 43) rfl rfl rfl hnx b23 o3 rfl hln2 hws ?_; intro v4 w4 o4 b4 z4))
                rw [List.append_assoc, ← extN_yes HM.out] at o4
                have z3 := b23.size
                have bp : Below wo.heap.size wo w4 := ((hbr.trans (b23.mono hbr.size)).alloc (Nat.le_trans hbr.size z3) _).trans b4
                clear hnx o2 b2 o3 b3 b23 b4 hcell hu
                go_wp2
                go_roundw
                case rel => exact ⟨xx + 1, by omega, by go_num, o4, bp⟩
                case measure => simp [intOf]; omega
            · obtain rfl : xx = c := by omega
              go_wp2
              go_roundw
              case rel => exact ⟨ii + 1, by omega, by go_num, by rw [HFT.out]; exact hnx, hbr⟩
              case measure => simp [intOf]; omega
        · obtain rfl : ii = D.length := by omega
          go_wp2
          go_roundw
          case rel => exact ⟨kk + 1, by omega, by go_num, by rw [HDS.out]; have := hnx.lower hs0; simpa using this, hbw.trans (hbo.mono hbw.size)⟩
          case measure => simp [intOf]; omega
    · obtain rfl : kk = c := by omega
      go_wp2
      go_ret
      exact ⟨_, rfl, hown, hbw⟩
end Go.Proofs.Ytpmabnohdabbdaa
namespace Go.Proofs.Ytpmabnohdabbdaa
open Go.RowKit Go.Sort
def graphV (n : Int) (v : Value) : Value := .agg #[.int .i64 n, v]
set_option maxHeartbeats 400000 in
theorem szGraph_any {u : Value} {xss : List (List Int)} (n l : Int) (w : World) (ha : SlII w u xss) (h0 : 0 ≤ l) (h1 : l ≤ 1048576) :
    Calls Try.prog 9 #[.agg #[.int .i64 n, u], .int .i64 l] w fun e w' => e = .returned (.int .i64 (szII l xss)) ∧ Below w.heap.size w w' := by
  have hr := szII_range l xss h1
  obtain ⟨a, ca, us, rfl, hca, hca', hul, hrd, hrow⟩ := ha
  have ha : ∀ u : World, Below w.heap.size w u → SlII u (.slice a xss.length ca) xss := fun u hb => SlII.below ⟨a, ca, us, rfl, hca, hca', hul, hrd, hrow⟩ hb
  have HA := Lib.hid ha
  clear ha hca hca' hul hrd hrow
  go_enter Try.func9, Try.ntmps9
  go_wp2_with fail
  refine (szInt64SS_any l _ (HA.out _ ((Below.refl _ _).alloc (Nat.le_refl _) _)) h0 h1).mono ?_
  rintro e w1 ⟨rfl, b1⟩
  generalize hz : szII l xss = q at hr ⊢
  have HZ := Lib.hid hz
  clear hz
  by_cases hq : q < 0
  · obtain rfl : q = -1 := by omega
    go_wp2
    go_ret
    exact ⟨ri HZ.out.symm, ((Below.refl _ _).alloc (Nat.le_refl _) _).trans (b1.mono (by simp))⟩
  · go_wp2
    go_ret
    exact ⟨ri HZ.out.symm, ((Below.refl _ _).alloc (Nat.le_refl _) _).trans (b1.mono (by simp))⟩
set_option maxHeartbeats 400000 in
theorem toGraph_any {u : Value} {xss : List (List Int)} (n : Int) (w : World) (ha : SlII w u xss) (hl : xss.length ≤ 1048576) (hrl : ∀ r ∈ xss, r.length ≤ 1048576) :
    Calls Try.prog 11 #[.agg #[.int .i64 n, u]] w fun e w' => ∃ v, e = .returned (.agg #[.int .i64 n, v]) ∧ OwnII w' w.heap.size v xss ∧ Below w.heap.size w w' := by
  obtain ⟨a, ca, us, rfl, hca, hca', hul, hrd, hrow⟩ := ha
  have ha : ∀ u : World, Below w.heap.size w u → SlII u (.slice a xss.length ca) xss := fun u hb => SlII.below ⟨a, ca, us, rfl, hca, hca', hul, hrd, hrow⟩ hb
  have HA := Lib.hid ha
  have HL := Lib.hid hrl
  clear ha hca hca' hul hrd hrow hrl
  go_enter Try.func11, Try.ntmps11
  go_wp2_with fail
  refine (toInt64SS_any _ (HA.out _ ((((Below.refl _ _).alloc (Nat.le_refl _) _).alloc (by simp) _).alloc (by simp <;> omega) _)) hl HL.out).mono ?_
  rintro e w1 ⟨v, rfl, hv, b1⟩
  obtain ⟨ad, cc, _, rfl, _⟩ := id hv.sl
  have c2 := b1.cell (p := ⟨w.heap.size + 1 + 1, 0, none⟩) (by simp)
  have c3 := b1.cell (p := ⟨w.heap.size + 1 + 1, 1, none⟩) (by simp)
  have f3 := b1.frozen (p := ⟨w.heap.size + 1 + 1, 1, none⟩) (by simp)
  have d0 := b1.cell (p := ⟨w.heap.size + 1, 0, none⟩) (by simp)
  have d1 := b1.cell (p := ⟨w.heap.size + 1, 1, none⟩) (by simp)
  have e0 := b1.frozen (p := ⟨w.heap.size + 1, 0, none⟩) (by simp)
  have e1 := b1.frozen (p := ⟨w.heap.size + 1, 1, none⟩) (by simp)
  simp [go_sem] at c2 c3 f3 d0 d1 e0 e1
  have z1 := b1.size
  simp at z1
  go_wp2
  refine bodyPost_ret (v := .agg #[.int .i64 n, .slice ad xss.length cc]) (by simp [results, Try.results11, go_sem, d0, d1]) rfl ⟨_, rfl, ?_, ?_⟩
  · exact (((hv.setCell (by simp) _).setCell (by simp <;> omega) _).setCell (by simp <;> omega) _).lower (by simp <;> omega)
  · exact (((((((Below.refl _ _).alloc (Nat.le_refl _) _).alloc (by simp) _).alloc (by simp <;> omega) _).trans (b1.mono (by simp <;> omega))).setCell (by simp <;> omega) _).setCell (by simp) _).setCell (by simp) _
set_option maxHeartbeats 400000 in
theorem eqGraph_any {u v : Value} {xss yss : List (List Int)} (n m : Int) (w : World) (ha : SlII w u xss) (hb : SlII w v yss) :
    Calls Try.prog 13 #[.agg #[.int .i64 n, u], .agg #[.int .i64 m, v]] w fun e w' => e = .returned (.bool (decide (n = m) && decide (xss = yss))) ∧ Below w.heap.size w w' := by
  obtain ⟨a, ca, h1⟩ := id ha
  obtain ⟨b, cb, h2⟩ := id hb
  obtain ⟨us, rfl, _⟩ := h1
  obtain ⟨vs, rfl, _⟩ := h2
  have HA := Lib.hid ha
  have HB := Lib.hid hb
  clear ha hb
  by_cases hn : n = m
  · subst hn
    have ht : (n != n) = false := by simp
    go_enter Try.func13, Try.ntmps13
    go_wp2_with fail
    have bb := ((Below.refl w.heap.size w).alloc (Nat.le_refl _) (.cells #[.int .i64 n, .slice a xss.length ca] 28)).alloc (by simp) (.cells #[.int .i64 n, .slice b yss.length cb] 28)
    refine (eqInt64SS_any _ (HA.out.below bb) (HB.out.below bb)).mono ?_
    rintro e w1 ⟨rfl, b1⟩
    generalize hd : decide (xss = yss) = d
    have HD := Lib.hid hd
    clear hd
    cases d
    · go_wp2
      go_ret
      exact ⟨rb (by rw [HD.out]; simp), bb.trans (b1.mono (by simp <;> omega))⟩
    · go_wp2
      go_ret
      exact ⟨rb (by rw [HD.out]; simp), bb.trans (b1.mono (by simp <;> omega))⟩
  · have ht : (n != m) = true := by simp [hn]
    have HN := Lib.hid hn
    clear hn
    go_enter Try.func13, Try.ntmps13
    go_wp2
    go_ret
    exact ⟨rb (by simp [HN.out]), ((Below.refl _ _).alloc (Nat.le_refl _) _).alloc (by simp) _⟩
end Go.Proofs.Ytpmabnohdabbdaa
namespace Go.Proofs.Ytpmabnohdabbdaa
open Go.RowKit Go.Sort
set_option maxHeartbeats 400000 in
theorem l00Same_any {u v : Value} {xs ys : List Int} (w : World) (ha : SlI w u xs) (hb : SlI w v ys) :
    Calls Try.prog 119 #[u, v] w fun e w' => e = .returned (.bool (decide (xs = ys))) ∧ Below w.heap.size w w' := by
  obtain ⟨a, ca, rfl, hca, hca', ha⟩ := ha
  obtain ⟨b, cb, rfl, hcb, hcb', hb⟩ := hb
  unfold maxLen at hca' hcb'
  have hm : xs.length ≤ 9223372036854775807 := by omega
  have hn : ys.length ≤ 9223372036854775807 := by omega
  clear hca hca' hcb hcb'
  by_cases hl : xs.length = ys.length
  · have HL := Lib.hid hl
    clear hl
    have h1 : ((xs.length : Int) != (ys.length : Int)) = false := by simp [HL.out]
    go_enter Try.func119, Try.ntmps119
    go_wp2
    go_loopw [5] (fun i wr => ∃ k : Nat, k ≤ xs.length ∧ i = .int .i64 k ∧ xs.take k = ys.take k ∧ Below w.heap.size w wr) (fun i _ => xs.length - (intOf i).toNat)
    case atStart => exact ⟨0, Nat.zero_le _, rfl, rfl, Below.refl _ _⟩
    case round =>
      obtain ⟨k, hk, rfl, ht, hbw⟩ := hrel
      have ha' := ha.below hbw
      have hb' := hb.below hbw
      clear ha hb
      have HT := Lib.hid ht
      clear ht
      by_cases hlt : k < xs.length
      · have hj : k < ys.length := by rw [← HL.out]; exact hlt
        obtain ⟨ba, oa, rfl, ga⟩ := ha'.one (i64s_get hlt)
        obtain ⟨bb, ob, rfl, gb⟩ := hb'.one (i64s_get hj)
        clear ha' hb'
        go_wp2_with fail
        go_quiet (fail)
        go_wp2
        · go_ret
          have hx : (xs[k] != ys[k]) = true := by assumption
          have hne : ¬ xs[k] = ys[k] := by simpa using hx
          exact ⟨rb (by simp [ne_of_get hlt hj hne]), below_drewN hbw _⟩
        · have hx : (xs[k] != ys[k]) = false := by assumption
          have he : xs[k] = ys[k] := by simpa using hx
          go_roundw
          case rel => exact ⟨k + 1, by omega, by go_num, take_eq_succ HT.out hlt hj he, below_drewN hbw _⟩
          case measure => simp [intOf]; omega
      · have ht := HT.out
        go_wp2
        go_ret
        exact ⟨rb (by symm; simp; rw [List.take_of_length_le (by omega), List.take_of_length_le (by rw [← HL.out]; omega)] at ht; exact ht), hbw⟩
  · have h1 : ((xs.length : Int) != (ys.length : Int)) = true := by simp; omega
    have HL := Lib.hid hl
    clear hl
    go_enter Try.func119, Try.ntmps119
    go_wp2
    go_ret
    exact ⟨rb (by symm; simp; intro h; exact HL.out (by rw [h])), Below.refl _ _⟩

set_option maxHeartbeats 400000 in
theorem Equal_any {u v : Value} {xs ys : List Int} (w : World) (ha : SlI w u xs) (hb : SlI w v ys) :
    Calls Try.prog 117 #[u, v] w fun e w' => e = .returned (.bool (decide (xs = ys))) ∧ Below w.heap.size w w' := by
  obtain ⟨a, ca, rfl, hca, hca', ha⟩ := ha
  obtain ⟨b, cb, rfl, hcb, hcb', hb⟩ := hb
  unfold maxLen at hca' hcb'
  have hm : xs.length ≤ 9223372036854775807 := by omega
  have hn : ys.length ≤ 9223372036854775807 := by omega
  clear hca hca' hcb hcb'
  by_cases hl : xs.length = ys.length
  · have HL := Lib.hid hl
    clear hl
    have h1 : ((xs.length : Int) != (ys.length : Int)) = false := by simp [HL.out]
    go_enter Try.func117, Try.ntmps117
    go_wp2
    go_loopw [13] (fun i wr => ∃ k : Nat, k ≤ xs.length ∧ i = .int .i64 k ∧ xs.take k = ys.take k ∧ Below w.heap.size w wr) (fun i _ => xs.length - (intOf i).toNat)
    case atStart => exact ⟨0, Nat.zero_le _, rfl, rfl, Below.refl _ _⟩
    case round =>
      obtain ⟨k, hk, rfl, ht, hbw⟩ := hrel
      have ha' := ha.below hbw
      have hb' := hb.below hbw
      clear ha hb
      have HT := Lib.hid ht
      clear ht
      by_cases hlt : k < xs.length
      · have hj : k < ys.length := by rw [← HL.out]; exact hlt
        obtain ⟨ba, oa, rfl, ga⟩ := ha'.one (i64s_get hlt)
        obtain ⟨bb, ob, rfl, gb⟩ := hb'.one (i64s_get hj)
        clear ha' hb'
        go_wp2_with fail
        go_quiet (fail)
        go_wp2
        · go_ret
          have hx : (xs[k] != ys[k]) = true := by assumption
          have hne : ¬ xs[k] = ys[k] := by simpa using hx
          exact ⟨rb (by simp [ne_of_get hlt hj hne]), below_drewN hbw _⟩
        · have hx : (xs[k] != ys[k]) = false := by assumption
          have he : xs[k] = ys[k] := by simpa using hx
          go_roundw
          case rel => exact ⟨k + 1, by omega, by go_num, take_eq_succ HT.out hlt hj he, below_drewN hbw _⟩
          case measure => simp [intOf]; omega
      · have ht := HT.out
        go_wp2
        go_ret
        exact ⟨rb (by symm; simp; rw [List.take_of_length_le (by omega), List.take_of_length_le (by rw [← HL.out]; omega)] at ht; exact ht), hbw⟩
  · have h1 : ((xs.length : Int) != (ys.length : Int)) = true := by simp; omega
    have HL := Lib.hid hl
    clear hl
    go_enter Try.func117, Try.ntmps117
    go_wp2
    go_ret
    exact ⟨rb (by symm; simp; intro h; exact HL.out (by rw [h])), Below.refl _ _⟩


end Go.Proofs.Ytpmabnohdabbdaa
namespace Go.Proofs.Ytpmabnohdabbdaa
open Go.RowKit Go.Sort
/-- comparison of lists, as slices.Compare has it -/
def cmpL : List Int → List Int → Int
  | [], [] => 0
  | [], _ :: _ => -1
  | _ :: _, [] => 1
  | x :: xs, y :: ys => if x = y then cmpL xs ys else if x < y then -1 else 1
def lessL : List Int → List Int → Bool
  | [], [] => false
  | [], _ :: _ => true
  | _ :: _, [] => false
  | x :: xs, y :: ys => if x = y then lessL xs ys else decide (x < y)
theorem cmpL_bd : ∀ x y : List Int, -1 ≤ cmpL x y ∧ cmpL x y ≤ 1
  | [], [] => by decide
  | [], _ :: _ => by unfold cmpL; decide
  | _ :: _, [] => by unfold cmpL; decide
  | x :: xs, y :: ys => by
    unfold cmpL
    split
    · exact cmpL_bd xs ys
    · split <;> decide
theorem cmpL_less : ∀ x y : List Int, decide (0 ≤ cmpL x y) = !lessL x y
  | [], [] => by decide
  | [], _ :: _ => by unfold cmpL lessL; decide
  | _ :: _, [] => by unfold cmpL lessL; decide
  | x :: xs, y :: ys => by
    unfold cmpL lessL
    split
    · exact cmpL_less xs ys
    · split <;> rename_i h <;> simp [h]
theorem cmpL_drop {x y : List Int} {k : Nat} (hx : k < x.length) (hy : k < y.length) : cmpL (x.drop k) (y.drop k) = if x[k] = y[k] then cmpL (x.drop (k + 1)) (y.drop (k + 1)) else if x[k] < y[k] then -1 else 1 := by
  rw [List.drop_eq_getElem_cons hx, List.drop_eq_getElem_cons hy]; rfl
theorem lessL_drop {x y : List Int} {k : Nat} (hx : k < x.length) (hy : k < y.length) : lessL (x.drop k) (y.drop k) = if x[k] = y[k] then lessL (x.drop (k + 1)) (y.drop (k + 1)) else decide (x[k] < y[k]) := by
  rw [List.drop_eq_getElem_cons hx, List.drop_eq_getElem_cons hy]; rfl
theorem inRange_q {x a b : Int} {q : Bool} (h : inR x a b = q) (w : World) : Calls Try.prog 85 #[.int .i64 x, .int .i64 a, .int .i64 b] w fun e w' => e = .returned (.bool q) ∧ Below w.heap.size w w' :=
  (inRange_any x a b w).mono fun e w' ⟨h1, h2⟩ => ⟨by rw [h1, h], by rw [h2]; exact Below.refl _ _⟩
theorem l00In_q {x a b : Int} {q : Bool} (h : inR x a b = q) (w : World) : Calls Try.prog 81 #[.int .i64 x, .int .i64 a, .int .i64 b] w fun e w' => e = .returned (.bool q) ∧ Below w.heap.size w w' :=
  (l00In_any x a b w).mono fun e w' ⟨h1, h2⟩ => ⟨by rw [h1, h], by rw [h2]; exact Below.refl _ _⟩
theorem isNaN_any (x : Int) (w : World) : Calls Try.prog 201 #[.int .i64 x] w fun e w' => e = .returned (.bool false) ∧ w = w' := by
  have h : (x != x) = false := by simp
  go_enter Try.func201, Try.ntmps201
  go_wp2
  go_ret
  exact ⟨rfl, rfl⟩
set_option maxHeartbeats 400000 in
theorem cmpCompare_any (x y : Int) (w : World) : Calls Try.prog 193 #[.int .i64 x, .int .i64 y] w fun e w' => e = .returned (.int .i64 (if x = y then 0 else if x < y then -1 else 1)) ∧ w = w' := by
  have A : ∀ q : Int, q = (if x = y then 0 else if x < y then -1 else 1) → (x < y → q = -1) ∧ (y < x → q = 1) ∧ (x = y → q = 0) := by
    intro q h
    subst h
    refine ⟨fun h => ?_, fun h => ?_, fun h => ?_⟩
    · rw [if_neg (by omega), if_pos h]
    · rw [if_neg (by omega), if_neg (by omega)]
    · rw [if_pos h]
  generalize hq : (if x = y then (0 : Int) else if x < y then -1 else 1) = q
  have hA := A q hq.symm
  have HA := Lib.hid hA
  clear A hA hq
  by_cases h1 : x < y
  · go_enter Try.func193, Try.ntmps193
    go_wp2_with (go_at_call 201; refine (isNaN_any _ _).mono ?_; rintro e w' ⟨rfl, rfl⟩)
    go_ret
    exact ⟨ri (HA.out.1 h1).symm, rfl⟩
  · by_cases h2 : y < x
    · go_enter Try.func193, Try.ntmps193
      go_wp2_with (go_at_call 201; refine (isNaN_any _ _).mono ?_; rintro e w' ⟨rfl, rfl⟩)
      go_ret
      exact ⟨ri (HA.out.2.1 h2).symm, rfl⟩
    · go_enter Try.func193, Try.ntmps193
      go_wp2_with (go_at_call 201; refine (isNaN_any _ _).mono ?_; rintro e w' ⟨rfl, rfl⟩)
      go_ret
      exact ⟨ri (HA.out.2.2 (by omega)).symm, rfl⟩
set_option maxHeartbeats 1000000 in
theorem Compare_any {u v : Value} {xs ys : List Int} (w : World) (ha : SlI w u xs) (hb : SlI w v ys) :
    Calls Try.prog 177 #[u, v] w fun e w' => e = .returned (.int .i64 (cmpL xs ys)) ∧ w = w' := by
  obtain ⟨a, ca, rfl, hca, hca', ha⟩ := ha
  obtain ⟨b, cb, rfl, hcb, hcb', hb⟩ := hb
  unfold maxLen at hca' hcb'
  go_enter Try.func177, Try.ntmps177
  go_wp2
  go_loopw [5, 6, 7, 8, 11] (fun _ _ _ _ i wr => ∃ k : Nat, k ≤ xs.length ∧ k ≤ ys.length ∧ i = .int .i64 k ∧ Hid (cmpL xs ys = cmpL (xs.drop k) (ys.drop k)) ∧ wr = w) (fun _ _ _ _ i _ => xs.length - (intOf i).toNat)
  case atStart => exact ⟨0, Nat.zero_le _, Nat.zero_le _, rfl, rfl, rfl⟩
  case round =>
    obtain ⟨k, hk, hk2, rfl, hc, rfl⟩ := hrel
    by_cases hlt : k < xs.length
    · obtain ⟨ba, oa, rfl, ga⟩ := ha.one (i64s_get hlt)
      have i1 : (k : Int) < (xs.length : Int) := by omega
      by_cases hy : k < ys.length
      · obtain ⟨bb, ob, rfl, gb⟩ := hb.one (i64s_get hy)
        have i2 : (k : Int) < (ys.length : Int) := by omega
        have hd := cmpL_drop hlt hy
        generalize hq : (if xs[k] = ys[k] then (0 : Int) else if xs[k] < ys[k] then -1 else 1) = q
        have HQ := Lib.hid hq
        have HD := Lib.hid hd
        clear hq hd
        by_cases hz : q = 0
        · have ht : (q != 0) = false := by simp [hz]
          have he : xs[k] = ys[k] := by
            have := HQ.out
            split at this
            · assumption
            · split at this <;> omega
          have HE := Lib.hid he
          clear hz he
          go_wp2_with (go_at_call 193; refine (cmpCompare_any _ _ _).mono ?_; rintro e w' ⟨rfl, rfl⟩; rw [HQ.out])
          go_roundw
          case rel => exact ⟨k + 1, by omega, by omega, by go_num, by unfold Hid at *; rw [hc, HD, if_pos HE], trivial⟩
          case measure => simp [intOf]; omega
        · have ht : (q != 0) = true := by simp [hz]
          have hv : cmpL xs ys = q := by
            rw [hc.out, HD.out]
            have := HQ.out
            split at this
            · omega
            · rename_i h; rw [if_neg h]; exact this
          have HV := Lib.hid hv
          clear hz hv
          go_wp2_with (go_at_call 193; refine (cmpCompare_any _ _ _).mono ?_; rintro e w' ⟨rfl, rfl⟩; rw [HQ.out])
          go_ret
          exact ⟨ri HV.out.symm, rfl⟩
      · obtain rfl : k = ys.length := by omega
        go_wp2
        go_ret
        exact ⟨ri (by rw [hc.out, List.drop_length, List.drop_eq_getElem_cons hlt]; rfl), rfl⟩
    · obtain rfl : k = xs.length := by omega
      by_cases hy : xs.length < ys.length
      · go_wp2
        go_ret
        exact ⟨ri (by rw [hc.out, List.drop_length, List.drop_eq_getElem_cons hy]; rfl), rfl⟩
      · have hyy : xs.length = ys.length := by omega
        have HY := Lib.hid hyy
        clear hyy
        go_wp2
        go_ret
        exact ⟨ri (by rw [hc.out, List.drop_length, List.drop_eq_nil_of_le (by rw [HY.out]; exact Nat.le_refl _)]; rfl), rfl⟩
end Go.Proofs.Ytpmabnohdabbdaa
