/-
  An argument of bytes opened. With it: Arguments opened: from the row's reading to the walks' words.
-/
import Derived.Test.YtceobhmbnkheiaaZRowFnMaps3
import Derived.ProofKit
import Derived.OpenShut
import Derived.Lib.SmallJoins
import Derived.Deep.Slices
set_option linter.unusedVariables false
set_option linter.unusedSimpArgs false
namespace Go.Proofs.Ytceobhmbnkheiaa
open Go.ChangeShapes Go.WideShapes Go.ChangeAt Go.RowKit Go.Joins Go.Deep
theorem laidOut : laidOutB Try.prog = true := by kernel_rfl
def WfL (xs : List Int) : Prop := ∀ x ∈ xs, -9223372036854775808 ≤ x ∧ x ≤ 9223372036854775807
theorem wf_i64 {x : Int} (h : (Lit.int .i64 x).wf = true) : -9223372036854775808 ≤ x ∧ x ≤ 9223372036854775807 := by
  simpa [Lit.wf, IntKind.min, IntKind.max, IntKind.signed, IntKind.bits] using h
theorem wf_u8 {x : Int} (h : (Lit.int .u8 x).wf = true) : 0 ≤ x ∧ x ≤ 255 := by
  simpa [Lit.wf, IntKind.min, IntKind.max, IntKind.signed, IntKind.bits] using h
section
variable {H : Type} {enc : TypeId × Value → H} {w : World} {spare : Nat → Bool} {held : Bool}
theorem rd_of {a : Addr} {vs : List Value} (h : ∀ i, i < vs.length → w.cell? (a.add i) = vs[i]?) : Rd w (some a) vs := by
  intro j u hu
  have hj : j < vs.length := (List.getElem?_eq_some_iff.1 hu).1
  have h0 := h j hj
  rw [hu] at h0
  obtain ⟨b, off, spot⟩ := a
  have hspot : spot = none := by
    have h1 : w.cell? ((⟨b, off, spot⟩ : Addr).add 0) = vs[0]? := h 0 (by omega)
    rw [List.getElem?_eq_getElem (by omega)] at h1
    simpa [Addr.add] using World.cell?_spot h1
  subst hspot
  rw [add_plain] at h0
  refine ⟨b, off, rfl, ?_, h0⟩
  exact World.block_lt_of_cell? w ⟨b, off + j, none⟩ h0
theorem open_one {t e : TypeId} (ht : Try.prog.underlying t = some (.slice e)) (hC : Try.prog.cellsOf e = 1) {fuel : Nat} {v : Value} {x : DataW H × List MemPlace}
    (h : DataW.trod enc Try.prog w 0 (fun _ => true) held fuel t [v] = some x) :
    ∃ ad n c vs, v = .slice ad n c ∧ n ≤ c ∧ c ≤ maxLen ∧ vs.length = n ∧ Rd w ad vs ∧ ∀ u ∈ vs, ∃ f y, DataW.trod enc Try.prog w 0 (fun _ => true) held f e [u] = some y := by
  rcases open_slice ht h with ⟨hcs, _⟩ | ⟨a, len, cap, m, n, D, Pl, hcs, _, hl, hm, hmm, _, hi⟩
  · simp at hcs
    exact ⟨none, 0, 0, [], hcs, Nat.le_refl _, by simp [maxLen], rfl, Rd.nil _ _, by simp⟩
  · simp at hcs
    have hmc : m = cap := by simpa using hmm
    rw [hC] at hi
    have hi' : ∀ i, i < len → ∃ u, w.cell? (a.add i) = some u ∧ DataW.trod enc Try.prog w 0 (fun _ => true) held n e [u] = some (D i, Pl i) := by
      intro i hil
      obtain ⟨cs', hc, ht'⟩ := hi i (by omega)
      obtain ⟨_, hcl, hat⟩ := World.cells?_some hc
      match cs', hcl with
      | [u], _ =>
        refine ⟨u, ?_, ht'⟩
        have := hat 0 (by omega)
        rw [Nat.mul_one] at this
        rw [add_add] at this
        simpa using this
    refine ⟨some a, len, cap, (List.range len).map fun i => (w.cell? (a.add i)).getD undef, hcs, hl, hm, by simp, rd_of ?_, ?_⟩
    · intro i hil
      simp at hil
      obtain ⟨u, hu, _⟩ := hi' i hil
      simp [hil, hu]
    · intro u hu
      simp at hu
      obtain ⟨i, hil, rfl⟩ := hu
      obtain ⟨u, hu, ht'⟩ := hi' i hil
      exact ⟨n, _, by rw [hu]; exact ht'⟩
theorem choose_list {α : Type} {P : Value → α → Prop} : ∀ {vs : List Value}, (∀ u ∈ vs, ∃ x, P u x) → ∃ xs : List α, vs.length = xs.length ∧ ∀ (i : Nat) (hi : i < xs.length) u, vs[i]? = some u → P u xs[i]
  | [], _ => ⟨[], rfl, by intro i hi; simp at hi⟩
  | v :: vs, h => by
    obtain ⟨x, hx⟩ := h v (by simp)
    obtain ⟨xs, h1, h2⟩ := choose_list (vs := vs) (fun u hu => h u (by simp [hu]))
    refine ⟨x :: xs, by simp [h1], fun i hi u hu => ?_⟩
    cases i with
    | zero => simp at hu; subst hu; exact hx
    | succ i => simp at hu hi; simpa using h2 i hi u hu
theorem ints_of {k : IntKind} {e : TypeId} (he : Try.prog.underlying e = some (.int k)) {vs : List Value} (h : ∀ u ∈ vs, ∃ f y, DataW.trod enc Try.prog w 0 (fun _ => true) held f e [u] = some y) :
    ∃ xs : List Int, vs = xs.map (.int k) ∧ ∀ x ∈ xs, (Lit.int k x).wf = true := by
  induction vs with
  | nil => exact ⟨[], rfl, by simp⟩
  | cons v vs ih =>
    obtain ⟨xs, h1, h2⟩ := ih (fun u hu => h u (by simp [hu]))
    obtain ⟨f, y, hy⟩ := h v (by simp)
    obtain ⟨n, hn, _, hw⟩ := DataW.trod_int he hy
    simp at hn
    exact ⟨n :: xs, by simp [h1, hn], by intro x hx; simp at hx; rcases hx with rfl | hx; exact hw; exact h2 x hx⟩
theorem open_SlI {fuel : Nat} {v : Value} {x : DataW H × List MemPlace} (h : DataW.trod enc Try.prog w 0 (fun _ => true) held fuel 32 [v] = some x) : ∃ xs, SlI w v xs ∧ WfL xs := by
  obtain ⟨ad, n, c, vs, h1, h2, h3, h4, h5, h6⟩ := open_one Try.underlying32 (by kernel_rfl) h
  obtain ⟨xs, rfl, h7⟩ := ints_of Try.underlying2 h6
  simp at h4
  subst h4
  exact ⟨xs, ⟨ad, c, h1, h2, h3, h5⟩, fun x hx => wf_i64 (h7 x hx)⟩
end
end Go.Proofs.Ytceobhmbnkheiaa
namespace Go.Proofs.Ytceobhmbnkheiaa
open Go.ChangeShapes Go.WideShapes Go.ChangeAt Go.RowKit Go.Joins Go.Deep
section
variable {H : Type} {enc : TypeId × Value → H} {w : World} {held : Bool}
theorem open_SlU {fuel : Nat} {ad : Option Addr} {n c : Nat} {x : DataW H × List MemPlace} (h : DataW.trod enc Try.prog w 0 (fun _ => true) held fuel 22 [.slice ad n c] = some x) : ∃ xs : List Int, xs.length = n ∧ n ≤ c ∧ c ≤ maxLen ∧ Rd w ad (xs.map (.int .u8)) ∧ ∀ x ∈ xs, 0 ≤ x ∧ x < 256 := by
  obtain ⟨ad', n', c', vs, h1, h2, h3, h4, h5, h6⟩ := open_one Try.underlying22 (by kernel_rfl) h
  simp only [Value.slice.injEq] at h1
  obtain ⟨rfl, rfl, rfl⟩ := h1
  obtain ⟨xs, rfl, hw⟩ := ints_of Try.underlying5 h6
  exact ⟨xs, by simpa using h4, h2, h3, h5, fun x hx => by have := wf_u8 (hw x hx); omega⟩
end
end Go.Proofs.Ytceobhmbnkheiaa
