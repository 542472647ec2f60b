/-
  Marks written into what a law has handed in: what is made later, and what was there before, stays.
-/
import Derived.Test.YtmhpbkckmjdojaaBaseII
import Derived.Test.YtmhpbkckmjdojaaLawLib
namespace Go.Proofs.Ytmhpbkckmjdojaa
open Go.RowKit Go.Sort
/-- all but blocks from lo to hi stays -/
structure Mid (lo hi : Nat) (w w' : World) : Prop where
  os : w'.os = w.os
  tape : w'.tape = w.tape
  output : w'.output = w.output
  size : w.heap.size ≤ w'.heap.size
  block : ∀ k, k < w.heap.size → (k < lo ∨ hi ≤ k) → w'.heap[k]? = w.heap[k]?
theorem Mid.refl (lo hi : Nat) (w : World) : Mid lo hi w w := ⟨rfl, rfl, rfl, Nat.le_refl _, fun _ _ _ => rfl⟩
theorem Mid.trans {lo hi : Nat} {a b c : World} (h : Mid lo hi a b) (k : Mid lo hi b c) : Mid lo hi a c :=
  ⟨k.os.trans h.os, k.tape.trans h.tape, k.output.trans h.output, Nat.le_trans h.size k.size, fun i hi' hx => (k.block i (Nat.lt_of_lt_of_le hi' h.size) hx).trans (h.block i hi' hx)⟩
theorem Mid.below {lo hi : Nat} {w w' : World} (h : Mid lo hi w w') (hlo : lo ≤ w.heap.size) : Below lo w w' := ⟨h.os, h.tape, h.output, h.size, fun k hk => h.block k (Nat.lt_of_lt_of_le hk hlo) (.inl hk)⟩
theorem Mid.of_below {lo hi : Nat} {w w' : World} (h : Below w.heap.size w w') : Mid lo hi w w' := ⟨h.os, h.tape, h.output, h.size, fun k hk _ => h.block k hk⟩
theorem Mid.of_grown {lo hi : Nat} {w w' : World} {row : Option Nat} (h : w.grownBy w' row) (hr : ∀ g, row = some g → lo ≤ g ∧ g < hi) : Mid lo hi w w' :=
  ⟨h.os, h.tape, h.output, h.size, fun k hk hx => h.block k hk (by
    intro e
    have := hr k e.symm
    omega)⟩
theorem ownsRow_mid {w w' : World} {lo hi base e size n : Nat} {v : Value} {xs : List Value} (h : w.ownsRow base e size v n xs) (hm : Mid lo hi w w') (hb : hi ≤ base) : w'.ownsRow base e size v n xs := by
  refine ⟨h.1, ?_⟩
  rcases h.2 with h2 | ⟨g, cap, cur, h1, h2, h3, h4⟩
  · exact .inl h2
  · refine .inr ⟨g, cap, cur, h1, h2, ?_, h4⟩
    rw [hm.block g (Array.getElem?_eq_some_iff.1 h3).1 (.inr (by omega))]; exact h3
def sumL (xss : List (List Int)) : Nat := (xss.map List.length).sum
theorem sumL_take {xss : List (List Int)} {k : Nat} (h : k < xss.length) : sumL (xss.take (k + 1)) = sumL (xss.take k) + xss[k].length := by
  unfold sumL; rw [List.take_succ_eq_append_getElem h, List.map_append, List.sum_append]; simp
theorem sumL_le (xss : List (List Int)) (k : Nat) : sumL (xss.take k) ≤ sumL xss := by
  unfold sumL
  conv => rhs; rw [← List.take_append_drop k xss]
  rw [List.map_append, List.sum_append]; omega
theorem szRows_sum : ∀ {xss : List (List Int)} {l : Int}, 0 ≤ szRows l xss → (sumL xss : Int) ≤ l
  | [], l, h => by simpa [sumL, szRows] using h
  | r :: rs, l, h => by
    unfold szRows at h
    by_cases h1 : sz1 l r.length < 0
    · rw [if_pos h1] at h; omega
    · rw [if_neg h1] at h
      have h2 := szRows_sum h
      have h5 : sz1 l r.length = l - r.length := by unfold sz1 at h1 ⊢; split <;> simp_all
      rw [h5] at h2
      have : sumL (r :: rs) = r.length + sumL rs := by simp [sumL]
      omega
theorem szII_sum {xss : List (List Int)} {l l1 : Int} (h : szII l xss = l1) (hl : ¬ l1 < 0) (hb : l ≤ 1048576) : sumL xss ≤ 1048576 := by
  unfold szII at h
  split at h
  · omega
  · have := szRows_sum (xss := xss) (l := l - xss.length) (by omega)
    omega
/-- rows whose blocks lie below B -/
def OwnIIB (w : World) (base B : Nat) (v : Value) (xss : List (List Int)) : Prop :=
  ∃ vs, w.ownsRow base 25 1 v xss.length vs ∧ Rows2 w base vs xss ∧ ∀ (i : Nat) (u : Value) (g : Nat), vs[i]? = some u → u.ownBlock = some g → g < B
theorem OwnII.b {w : World} {base : Nat} {v : Value} {xss : List (List Int)} (h : OwnII w base v xss) : OwnIIB w base w.heap.size v xss := by
  obtain ⟨vs, h1, h2⟩ := h
  exact ⟨vs, h1, h2, fun i u g hu hg => (h2.lt i u g hu hg).2⟩
theorem OwnIIB.below {w w' : World} {base B : Nat} {v : Value} {xss : List (List Int)} (h : OwnIIB w base B v xss) (hb : Below w.heap.size w w') : OwnIIB w' base B v xss := by
  obtain ⟨vs, h1, h2, h3⟩ := h
  exact ⟨vs, ownsRow_below h1 hb, h2.below hb, h3⟩
theorem OwnIIB.ii {w : World} {base B : Nat} {v : Value} {xss : List (List Int)} (h : OwnIIB w base B v xss) : OwnII w base v xss := by
  obtain ⟨vs, h1, h2, _⟩ := h
  exact ⟨vs, h1, h2⟩
theorem OwnIIB.sl {w : World} {base B : Nat} {v : Value} {xss : List (List Int)} (h : OwnIIB w base B v xss) : SlII w v xss := h.ii.sl
set_option maxHeartbeats 1000000 in
theorem markInt64SS_any {v : Value} {xss : List (List Int)} (m : Int) (base B : Nat) (w : World) (hm0 : 0 ≤ m) (hm : m + sumL xss ≤ 1000000000000) (ha : OwnIIB w base B v xss) :
    Calls Try.prog 16 #[v, .int .i64 m] w fun e w' => e = .returned (.int .i64 (m + sumL xss)) ∧ Mid base B w w' := by
  obtain ⟨vs, h1, h2, h3⟩ := ha
  obtain ⟨ad, c, rfl, hc1, hc2, _⟩ := ownsRow_rd h1
  unfold maxLen at hc2
  have HV := Lib.hid h2
  have HB := Lib.hid h3
  clear h2 h3
  go_enter Try.func16, Try.ntmps16
  go_wp2
  go_loopw [1, 5] (fun q i wr => ∃ (k : Nat) (Q : Int), k ≤ xss.length ∧ i = .int .i64 k ∧ q = .int .i64 Q ∧ Hid (Q = m + sumL (xss.take k)) ∧ 0 ≤ Q ∧ Q ≤ 1000000000000 ∧ wr.ownsRow base 25 1 (.slice ad xss.length c) xss.length vs ∧ Hid (∀ (i : Nat) (u : Value) (xs : List Int), k ≤ i → vs[i]? = some u → xss[i]? = some xs → OwnI wr base u xs) ∧ Mid base B w wr) (fun _ i _ => xss.length - (intOf i).toNat)
  case atStart => exact ⟨0, m, Nat.zero_le _, rfl, rfl, by simp [Hid, sumL], hm0, by omega, h1, (fun i u xs _ hu hx => HV.out.2.1 i u xs hu hx), Mid.refl _ _ _⟩
  case round =>
    clear h1
    obtain ⟨k, Q, hk, rfl, rfl, hQ, hQ0, hQ1, hown, hrows, hmid⟩ := hrel
    by_cases hlt : k < xss.length
    · have hvl : k < vs.length := by rw [HV.out.1]; exact hlt
      obtain ⟨ad', c', he, _, _, hrd⟩ := ownsRow_rd hown
      simp at he
      obtain ⟨rfl, rfl⟩ := he
      obtain ⟨b, off, rfl, hcell⟩ := hrd.one (List.getElem?_eq_getElem hvl)
      have hu := hrows.out k vs[k] xss[k] (Nat.le_refl _) (List.getElem?_eq_getElem hvl) (List.getElem?_eq_getElem hlt)
      have hle := sumL_le xss (k + 1)
      have hst := sumL_take hlt
      have i1 : (k : Int) < (xss.length : Int) := by omega
      have hbq : Q + xss[k].length ≤ 1000000000000 := by have := hQ.out; omega
      have HST := Lib.hid hst
      have hvk : vs[k]? = some vs[k] := List.getElem?_eq_getElem hvl
      generalize vs[k] = u at hcell hu hvk
      obtain ⟨ua, uc, rfl, _⟩ := id hu.sl
      have HVK := Lib.hid hvk
      clear hst hle hvk
      go_wp2_with fail
      refine (markInt64S_any Q base _ hQ0 hbq hu).mono ?_
      rintro e w2 ⟨rfl, o2, g2⟩
      have hrow : Mid base B wr w2 := Mid.of_grown g2 (fun g hg => ⟨(hu.lt g hg).1, HB.out k _ g HVK.out hg⟩)
      have own2 : w2.ownsRow base 25 1 (.slice (some ⟨b, off, none⟩) xss.length c) xss.length vs := World.ownsRow.kept hown g2 (by
        cases hb : (Value.slice (some ⟨b, off, none⟩) xss.length c).ownBlock with
        | none => exact .inl rfl
        | some g => exact .inr (fun e => hu.apart hown e.symm hb))
      have rows2 : Hid (∀ (i : Nat) (u : Value) (xs : List Int), k + 1 ≤ i → vs[i]? = some u → xss[i]? = some xs → OwnI w2 base u xs) := by
        intro i u' xs' hi hu' hx'
        have h5 := hrows.out i u' xs' (by omega) hu' hx'
        refine h5.kept g2 ?_
        cases hb : u'.ownBlock with
        | none => exact .inl rfl
        | some g => exact .inr (fun e => HV.out.2.2 i k u' _ g (by omega) hu' HVK.out hb e.symm)
      have hm2 := hmid.trans hrow
      clear hown hrows hu o2 g2 hmid
      go_wp2
      go_roundw
      case rel => exact ⟨k + 1, Q + xss[k].length, by omega, by go_num, rfl, by have := hQ.out; have := HST.out; unfold Hid; omega, by omega, by omega, own2, rows2, hm2⟩
      case measure => simp [intOf]; omega
    · obtain rfl : k = xss.length := by omega
      go_wp2
      go_ret
      exact ⟨ri (by rw [hQ.out, List.take_length]), hmid⟩
end Go.Proofs.Ytmhpbkckmjdojaa
