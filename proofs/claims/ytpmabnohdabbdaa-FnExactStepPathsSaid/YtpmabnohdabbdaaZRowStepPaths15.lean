/-
  Services and chains, opened. With it: Arguments opened: from the row's reading to the walks' words.
-/
import Derived.Test.YtpmabnohdabbdaaZRowStepPaths3
import Derived.ProofKit
import Derived.OpenShut
import Derived.Lib.SmallJoins
import Derived.Deep.Slices
set_option linter.unusedVariables false
set_option linter.unusedSimpArgs false
namespace Go.Proofs.Ytpmabnohdabbdaa
open Go.ChangeShapes Go.WideShapes Go.ChangeAt Go.RowKit Go.Joins Go.Deep
theorem laidOut : laidOutB Try.prog = true := by kernel_rfl
def WfL (xs : List Int) : Prop := ∀ x ∈ xs, -9223372036854775808 ≤ x ∧ x ≤ 9223372036854775807
theorem wf_i64 {x : Int} (h : (Lit.int .i64 x).wf = true) : -9223372036854775808 ≤ x ∧ x ≤ 9223372036854775807 := by
  simpa [Lit.wf, IntKind.min, IntKind.max, IntKind.signed, IntKind.bits] using h
theorem wf_u8 {x : Int} (h : (Lit.int .u8 x).wf = true) : 0 ≤ x ∧ x ≤ 255 := by
  simpa [Lit.wf, IntKind.min, IntKind.max, IntKind.signed, IntKind.bits] using h
section
variable {H : Type} {enc : TypeId × Value → H} {w : World} {spare : Nat → Bool} {held : Bool}
theorem rd_of {a : Addr} {vs : List Value} (h : ∀ i, i < vs.length → w.cell? (a.add i) = vs[i]?) : Rd w (some a) vs := by
  intro j u hu
  have hj : j < vs.length := (List.getElem?_eq_some_iff.1 hu).1
  have h0 := h j hj
  rw [hu] at h0
  obtain ⟨b, off, spot⟩ := a
  have hspot : spot = none := by
    have h1 : w.cell? ((⟨b, off, spot⟩ : Addr).add 0) = vs[0]? := h 0 (by omega)
    rw [List.getElem?_eq_getElem (by omega)] at h1
    simpa [Addr.add] using World.cell?_spot h1
  subst hspot
  rw [add_plain] at h0
  refine ⟨b, off, rfl, ?_, h0⟩
  exact World.block_lt_of_cell? w ⟨b, off + j, none⟩ h0
theorem open_one {t e : TypeId} (ht : Try.prog.underlying t = some (.slice e)) (hC : Try.prog.cellsOf e = 1) {fuel : Nat} {v : Value} {x : DataW H × List MemPlace}
    (h : DataW.trod enc Try.prog w 0 (fun _ => true) held fuel t [v] = some x) :
    ∃ ad n c vs, v = .slice ad n c ∧ n ≤ c ∧ c ≤ maxLen ∧ vs.length = n ∧ Rd w ad vs ∧ ∀ u ∈ vs, ∃ f y, DataW.trod enc Try.prog w 0 (fun _ => true) held f e [u] = some y := by
  rcases open_slice ht h with ⟨hcs, _⟩ | ⟨a, len, cap, m, n, D, Pl, hcs, _, hl, hm, hmm, _, hi⟩
  · simp at hcs
    exact ⟨none, 0, 0, [], hcs, Nat.le_refl _, by simp [maxLen], rfl, Rd.nil _ _, by simp⟩
  · simp at hcs
    have hmc : m = cap := by simpa using hmm
    rw [hC] at hi
    have hi' : ∀ i, i < len → ∃ u, w.cell? (a.add i) = some u ∧ DataW.trod enc Try.prog w 0 (fun _ => true) held n e [u] = some (D i, Pl i) := by
      intro i hil
      obtain ⟨cs', hc, ht'⟩ := hi i (by omega)
      obtain ⟨_, hcl, hat⟩ := World.cells?_some hc
      match cs', hcl with
      | [u], _ =>
        refine ⟨u, ?_, ht'⟩
        have := hat 0 (by omega)
        rw [Nat.mul_one] at this
        rw [add_add] at this
        simpa using this
    refine ⟨some a, len, cap, (List.range len).map fun i => (w.cell? (a.add i)).getD undef, hcs, hl, hm, by simp, rd_of ?_, ?_⟩
    · intro i hil
      simp at hil
      obtain ⟨u, hu, _⟩ := hi' i hil
      simp [hil, hu]
    · intro u hu
      simp at hu
      obtain ⟨i, hil, rfl⟩ := hu
      obtain ⟨u, hu, ht'⟩ := hi' i hil
      exact ⟨n, _, by rw [hu]; exact ht'⟩
theorem choose_list {α : Type} {P : Value → α → Prop} : ∀ {vs : List Value}, (∀ u ∈ vs, ∃ x, P u x) → ∃ xs : List α, vs.length = xs.length ∧ ∀ (i : Nat) (hi : i < xs.length) u, vs[i]? = some u → P u xs[i]
  | [], _ => ⟨[], rfl, by intro i hi; simp at hi⟩
  | v :: vs, h => by
    obtain ⟨x, hx⟩ := h v (by simp)
    obtain ⟨xs, h1, h2⟩ := choose_list (vs := vs) (fun u hu => h u (by simp [hu]))
    refine ⟨x :: xs, by simp [h1], fun i hi u hu => ?_⟩
    cases i with
    | zero => simp at hu; subst hu; exact hx
    | succ i => simp at hu hi; simpa using h2 i hi u hu
theorem ints_of {k : IntKind} {e : TypeId} (he : Try.prog.underlying e = some (.int k)) {vs : List Value} (h : ∀ u ∈ vs, ∃ f y, DataW.trod enc Try.prog w 0 (fun _ => true) held f e [u] = some y) :
    ∃ xs : List Int, vs = xs.map (.int k) ∧ ∀ x ∈ xs, (Lit.int k x).wf = true := by
  induction vs with
  | nil => exact ⟨[], rfl, by simp⟩
  | cons v vs ih =>
    obtain ⟨xs, h1, h2⟩ := ih (fun u hu => h u (by simp [hu]))
    obtain ⟨f, y, hy⟩ := h v (by simp)
    obtain ⟨n, hn, _, hw⟩ := DataW.trod_int he hy
    simp at hn
    exact ⟨n :: xs, by simp [h1, hn], by intro x hx; simp at hx; rcases hx with rfl | hx; exact hw; exact h2 x hx⟩
theorem open_SlI {fuel : Nat} {v : Value} {x : DataW H × List MemPlace} (h : DataW.trod enc Try.prog w 0 (fun _ => true) held fuel 59 [v] = some x) : ∃ xs, SlI w v xs ∧ WfL xs := by
  obtain ⟨ad, n, c, vs, h1, h2, h3, h4, h5, h6⟩ := open_one Try.underlying59 (by kernel_rfl) h
  obtain ⟨xs, rfl, h7⟩ := ints_of Try.underlying2 h6
  simp at h4
  subst h4
  exact ⟨xs, ⟨ad, c, h1, h2, h3, h5⟩, fun x hx => wf_i64 (h7 x hx)⟩

theorem open_SlII {fuel : Nat} {v : Value} {x : DataW H × List MemPlace} (h : DataW.trod enc Try.prog w 0 (fun _ => true) held fuel 22 [v] = some x) : ∃ xss, SlII w v xss ∧ ∀ r ∈ xss, WfL r := by
  obtain ⟨ad, n, c, vs, h1, h2, h3, h4, h5, h6⟩ := open_one Try.underlying22 (by kernel_rfl) h
  obtain ⟨xss, h7, h8⟩ := choose_list (P := fun u xs => SlI w u xs ∧ WfL xs) (fun u hu => by obtain ⟨f, y, hy⟩ := h6 u hu; exact open_SlI hy)
  subst h4
  refine ⟨xss, ⟨ad, c, vs, by rw [← h7]; exact h1, by omega, h3, h7, h5, fun i hi u hu => (h8 i hi u hu).1⟩, fun r hr => ?_⟩
  obtain ⟨i, hi, rfl⟩ := List.getElem_of_mem hr
  exact (h8 i hi _ (List.getElem?_eq_getElem (by omega))).2
end
end Go.Proofs.Ytpmabnohdabbdaa
namespace Go.Proofs.Ytpmabnohdabbdaa
open Go.ChangeShapes Go.WideShapes Go.ChangeAt Go.RowKit Go.Joins Go.Deep
section
variable {H : Type} {enc : TypeId × Value → H} {w : World} {held : Bool}
theorem list3 {l : List Value} (h : l.length = 3) : ∃ a b c, l = [a, b, c] := by
  match l, h with
  | [a, b, c], _ => exact ⟨a, b, c, rfl⟩
theorem array6 {l : Array Value} (h : l.size = 6) : ∃ a b c d e f, l = #[a, b, c, d, e, f] := by
  obtain ⟨l⟩ := l
  match l, h with
  | [a, b, c, d, e, f], _ => exact ⟨a, b, c, d, e, f, rfl⟩
theorem array3 {l : Array Value} (h : l.size = 3) : ∃ a b c, l = #[a, b, c] := by
  obtain ⟨l⟩ := l
  match l, h with
  | [a, b, c], _ => exact ⟨a, b, c, rfl⟩
theorem chain_fields : ∃ f0 f1 f2 : Field, Try.prog.underlying 33 = some (.struct #[f0, f1, f2]) ∧ f0.offset = 0 ∧ f1.offset = 1 ∧ f2.offset = 2 ∧ f0.type = 2 ∧ f1.type = 2 ∧ f2.type = 22 := by
  refine ⟨_, _, _, Try.underlying33, rfl, rfl, rfl, rfl, rfl, rfl⟩
theorem open_chain {fuel : Nat} {cs : List Value} {x : DataW H × List MemPlace} (h : DataW.trod enc Try.prog w 0 (fun _ => true) held fuel 33 cs = some x) :
    ∃ s t v xss, cs = [.int .i64 s, .int .i64 t, v] ∧ SlII w v xss ∧ (-9223372036854775808 ≤ s ∧ s ≤ 9223372036854775807) ∧ (-9223372036854775808 ≤ t ∧ t ≤ 9223372036854775807) ∧ ∀ r ∈ xss, WfL r := by
  obtain ⟨f0, f1, f2, hu, o0, o1, o2, t0, t1, t2⟩ := chain_fields
  obtain ⟨xs, n, _, _, hlen, _, hf⟩ := DataW.trod_struct hu h
  have h3 : cs.length = 3 := by rw [hlen]; kernel_rfl
  obtain ⟨v0, v1, v2, rfl⟩ := list3 h3
  have c2 : Try.prog.cellsOf 2 = 1 := by kernel_rfl
  have c22 : Try.prog.cellsOf 22 = 1 := by kernel_rfl
  have g0 := hf 0 f0 rfl
  have g1 := hf 1 f1 rfl
  have g2 := hf 2 f2 rfl
  rw [o0, t0, c2] at g0
  rw [o1, t1, c2] at g1
  rw [o2, t2, c22] at g2
  have hx : ∀ i, i < 3 → ∃ y, xs[i]? = some y := by
    intro i hi
    have : xs.length = 3 := by
      rename_i hxl
      simpa using hxl
    exact ⟨xs[i]'(by omega), by simp⟩
  obtain ⟨y0, e0⟩ := hx 0 (by omega)
  obtain ⟨y1, e1⟩ := hx 1 (by omega)
  obtain ⟨y2, e2⟩ := hx 2 (by omega)
  rw [e0] at g0
  rw [e1] at g1
  rw [e2] at g2
  obtain ⟨s, hs, _, ws⟩ := DataW.trod_int Try.underlying2 g0
  obtain ⟨t, ht, _, wt⟩ := DataW.trod_int Try.underlying2 g1
  obtain ⟨xss, h4, h5⟩ := open_SlII g2
  simp at hs ht
  subst hs ht
  exact ⟨s, t, v2, xss, rfl, h4, wf_i64 ws, wf_i64 wt, h5⟩
set_option maxRecDepth 100000 in
theorem open_chain_arg {base : Nat} {v : Value} {d : DataW H} {p : List MemPlace} (hv : Value.okWide Try.prog w .any base 33 v) (h : DataW.Trod enc Try.prog w 0 (fun _ => true) held 33 v d p) :
    ∃ s t u xss, v = .agg #[.int .i64 s, .int .i64 t, u] ∧ SlII w u xss ∧ (-9223372036854775808 ≤ s ∧ s ≤ 9223372036854775807) ∧ (-9223372036854775808 ≤ t ∧ t ≤ 9223372036854775807) ∧ ∀ r ∈ xss, WfL r := by
  obtain ⟨cs, rfl, hsz⟩ := okWide_struct Try.underlying33 hv
  obtain ⟨fuel, hf⟩ := h
  obtain ⟨s, t, u, xss, h1, h2⟩ := open_chain hf
  refine ⟨s, t, u, xss, ?_, h2⟩
  have : cs = #[.int .i64 s, .int .i64 t, u] := by
    apply Array.ext'
    simpa [Value.cells] using h1
  rw [this]
end
end Go.Proofs.Ytpmabnohdabbdaa
