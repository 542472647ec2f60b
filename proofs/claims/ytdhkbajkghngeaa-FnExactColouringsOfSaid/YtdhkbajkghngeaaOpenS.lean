/-
  Services and chains, opened.
-/
import Derived.Test.YtdhkbajkghngeaaOpen
namespace Go.Proofs.Ytdhkbajkghngeaa
open Go.ChangeShapes Go.WideShapes Go.ChangeAt Go.RowKit Go.Joins Go.Deep
section
variable {H : Type} {enc : TypeId × Value → H} {w : World} {held : Bool}
theorem list3 {l : List Value} (h : l.length = 3) : ∃ a b c, l = [a, b, c] := by
  match l, h with
  | [a, b, c], _ => exact ⟨a, b, c, rfl⟩
theorem array6 {l : Array Value} (h : l.size = 6) : ∃ a b c d e f, l = #[a, b, c, d, e, f] := by
  obtain ⟨l⟩ := l
  match l, h with
  | [a, b, c, d, e, f], _ => exact ⟨a, b, c, d, e, f, rfl⟩
theorem array3 {l : Array Value} (h : l.size = 3) : ∃ a b c, l = #[a, b, c] := by
  obtain ⟨l⟩ := l
  match l, h with
  | [a, b, c], _ => exact ⟨a, b, c, rfl⟩
theorem chain_fields : ∃ f0 f1 f2 : Field, Try.prog.underlying 48 = some (.struct #[f0, f1, f2]) ∧ f0.offset = 0 ∧ f1.offset = 1 ∧ f2.offset = 2 ∧ f0.type = 2 ∧ f1.type = 2 ∧ f2.type = 22 := by
  refine ⟨_, _, _, Try.underlying48, rfl, rfl, rfl, rfl, rfl, rfl⟩
theorem open_chain {fuel : Nat} {cs : List Value} {x : DataW H × List MemPlace} (h : DataW.trod enc Try.prog w 0 (fun _ => true) held fuel 48 cs = some x) :
    ∃ s t v xss, cs = [.int .i64 s, .int .i64 t, v] ∧ SlII w v xss ∧ (-9223372036854775808 ≤ s ∧ s ≤ 9223372036854775807) ∧ (-9223372036854775808 ≤ t ∧ t ≤ 9223372036854775807) ∧ ∀ r ∈ xss, WfL r := by
  obtain ⟨f0, f1, f2, hu, o0, o1, o2, t0, t1, t2⟩ := chain_fields
  obtain ⟨xs, n, _, _, hlen, _, hf⟩ := DataW.trod_struct hu h
  have h3 : cs.length = 3 := by rw [hlen]; kernel_rfl
  obtain ⟨v0, v1, v2, rfl⟩ := list3 h3
  have c2 : Try.prog.cellsOf 2 = 1 := by kernel_rfl
  have c22 : Try.prog.cellsOf 22 = 1 := by kernel_rfl
  have g0 := hf 0 f0 rfl
  have g1 := hf 1 f1 rfl
  have g2 := hf 2 f2 rfl
  rw [o0, t0, c2] at g0
  rw [o1, t1, c2] at g1
  rw [o2, t2, c22] at g2
  have hx : ∀ i, i < 3 → ∃ y, xs[i]? = some y := by
    intro i hi
    have : xs.length = 3 := by
      rename_i hxl
      simpa using hxl
    exact ⟨xs[i]'(by omega), by simp⟩
  obtain ⟨y0, e0⟩ := hx 0 (by omega)
  obtain ⟨y1, e1⟩ := hx 1 (by omega)
  obtain ⟨y2, e2⟩ := hx 2 (by omega)
  rw [e0] at g0
  rw [e1] at g1
  rw [e2] at g2
  obtain ⟨s, hs, _, ws⟩ := DataW.trod_int Try.underlying2 g0
  obtain ⟨t, ht, _, wt⟩ := DataW.trod_int Try.underlying2 g1
  obtain ⟨xss, h4, h5⟩ := open_SlII g2
  simp at hs ht
  subst hs ht
  exact ⟨s, t, v2, xss, rfl, h4, wf_i64 ws, wf_i64 wt, h5⟩
set_option maxRecDepth 100000 in
theorem open_chain_arg {base : Nat} {v : Value} {d : DataW H} {p : List MemPlace} (hv : Value.okWide Try.prog w .any base 48 v) (h : DataW.Trod enc Try.prog w 0 (fun _ => true) held 48 v d p) :
    ∃ s t u xss, v = .agg #[.int .i64 s, .int .i64 t, u] ∧ SlII w u xss ∧ (-9223372036854775808 ≤ s ∧ s ≤ 9223372036854775807) ∧ (-9223372036854775808 ≤ t ∧ t ≤ 9223372036854775807) ∧ ∀ r ∈ xss, WfL r := by
  obtain ⟨cs, rfl, hsz⟩ := okWide_struct Try.underlying48 hv
  obtain ⟨fuel, hf⟩ := h
  obtain ⟨s, t, u, xss, h1, h2⟩ := open_chain hf
  refine ⟨s, t, u, xss, ?_, h2⟩
  have : cs = #[.int .i64 s, .int .i64 t, u] := by
    apply Array.ext'
    simpa [Value.cells] using h1
  rw [this]
end
end Go.Proofs.Ytdhkbajkghngeaa
