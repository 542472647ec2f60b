/-
  Services and chains, opened.
-/
import Derived.Test.YthbbnjpadmcbmaaOpen
namespace Go.Proofs.Ythbbnjpadmcbmaa
open Go.ChangeShapes Go.WideShapes Go.ChangeAt Go.RowKit Go.Joins Go.Deep
section
variable {H : Type} {enc : TypeId × Value → H} {w : World} {held : Bool}
theorem list3 {l : List Value} (h : l.length = 3) : ∃ a b c, l = [a, b, c] := by
  match l, h with
  | [a, b, c], _ => exact ⟨a, b, c, rfl⟩
theorem array6 {l : Array Value} (h : l.size = 6) : ∃ a b c d e f, l = #[a, b, c, d, e, f] := by
  obtain ⟨l⟩ := l
  match l, h with
  | [a, b, c, d, e, f], _ => exact ⟨a, b, c, d, e, f, rfl⟩
theorem array3 {l : Array Value} (h : l.size = 3) : ∃ a b c, l = #[a, b, c] := by
  obtain ⟨l⟩ := l
  match l, h with
  | [a, b, c], _ => exact ⟨a, b, c, rfl⟩
theorem chain_fields : ∃ f0 f1 f2 : Field, Try.prog.underlying 24 = some (.struct #[f0, f1, f2]) ∧ f0.offset = 0 ∧ f1.offset = 1 ∧ f2.offset = 2 ∧ f0.type = 2 ∧ f1.type = 2 ∧ f2.type = 22 := by
  refine ⟨_, _, _, Try.underlying24, rfl, rfl, rfl, rfl, rfl, rfl⟩
theorem open_chain {fuel : Nat} {cs : List Value} {x : DataW H × List MemPlace} (h : DataW.trod enc Try.prog w 0 (fun _ => true) held fuel 24 cs = some x) :
    ∃ s t v xss, cs = [.int .i64 s, .int .i64 t, v] ∧ SlII w v xss ∧ (-9223372036854775808 ≤ s ∧ s ≤ 9223372036854775807) ∧ (-9223372036854775808 ≤ t ∧ t ≤ 9223372036854775807) ∧ ∀ r ∈ xss, WfL r := by
  obtain ⟨f0, f1, f2, hu, o0, o1, o2, t0, t1, t2⟩ := chain_fields
  obtain ⟨xs, n, _, _, hlen, _, hf⟩ := DataW.trod_struct hu h
  have h3 : cs.length = 3 := by rw [hlen]; kernel_rfl
  obtain ⟨v0, v1, v2, rfl⟩ := list3 h3
  have c2 : Try.prog.cellsOf 2 = 1 := by kernel_rfl
  have c22 : Try.prog.cellsOf 22 = 1 := by kernel_rfl
  have g0 := hf 0 f0 rfl
  have g1 := hf 1 f1 rfl
  have g2 := hf 2 f2 rfl
  rw [o0, t0, c2] at g0
  rw [o1, t1, c2] at g1
  rw [o2, t2, c22] at g2
  have hx : ∀ i, i < 3 → ∃ y, xs[i]? = some y := by
    intro i hi
    have : xs.length = 3 := by
      rename_i hxl
      simpa using hxl
    exact ⟨xs[i]'(by omega), by simp⟩
  obtain ⟨y0, e0⟩ := hx 0 (by omega)
  obtain ⟨y1, e1⟩ := hx 1 (by omega)
  obtain ⟨y2, e2⟩ := hx 2 (by omega)
  rw [e0] at g0
  rw [e1] at g1
  rw [e2] at g2
  obtain ⟨s, hs, _, ws⟩ := DataW.trod_int Try.underlying2 g0
  obtain ⟨t, ht, _, wt⟩ := DataW.trod_int Try.underlying2 g1
  obtain ⟨xss, h4, h5⟩ := open_SlII g2
  simp at hs ht
  subst hs ht
  exact ⟨s, t, v2, xss, rfl, h4, wf_i64 ws, wf_i64 wt, h5⟩
set_option maxRecDepth 100000 in
theorem open_chain_arg {base : Nat} {v : Value} {d : DataW H} {p : List MemPlace} (hv : Value.okWide Try.prog w .any base 24 v) (h : DataW.Trod enc Try.prog w 0 (fun _ => true) held 24 v d p) :
    ∃ s t u xss, v = .agg #[.int .i64 s, .int .i64 t, u] ∧ SlII w u xss ∧ (-9223372036854775808 ≤ s ∧ s ≤ 9223372036854775807) ∧ (-9223372036854775808 ≤ t ∧ t ≤ 9223372036854775807) ∧ ∀ r ∈ xss, WfL r := by
  obtain ⟨cs, rfl, hsz⟩ := okWide_struct Try.underlying24 hv
  obtain ⟨fuel, hf⟩ := h
  obtain ⟨s, t, u, xss, h1, h2⟩ := open_chain hf
  refine ⟨s, t, u, xss, ?_, h2⟩
  have : cs = #[.int .i64 s, .int .i64 t, u] := by
    apply Array.ext'
    simpa [Value.cells] using h1
  rw [this]

theorem record_fields : ∃ f0 f1 f2 : Field, Try.prog.underlying 109 = some (.struct #[f0, f1, f2]) ∧ f0.offset = 0 ∧ f1.offset = 1 ∧ f2.offset = 2 ∧ f0.type = 2 ∧ f1.type = 2 ∧ f2.type = 2 := by
  refine ⟨_, _, _, Try.underlying109, rfl, rfl, rfl, rfl, rfl, rfl⟩
theorem open_record {fuel : Nat} {cs : List Value} {x : DataW H × List MemPlace} (h : DataW.trod enc Try.prog w 0 (fun _ => true) held fuel 109 cs = some x) :
    ∃ k s v : Int, cs = [.int .i64 k, .int .i64 s, .int .i64 v] ∧ (-9223372036854775808 ≤ k ∧ k ≤ 9223372036854775807) ∧ (-9223372036854775808 ≤ s ∧ s ≤ 9223372036854775807) ∧ (-9223372036854775808 ≤ v ∧ v ≤ 9223372036854775807) := by
  obtain ⟨f0, f1, f2, hu, o0, o1, o2, t0, t1, t2⟩ := record_fields
  obtain ⟨xs, n, _, _, hlen, hxl, hf⟩ := DataW.trod_struct hu h
  have h3 : cs.length = 3 := by rw [hlen]; kernel_rfl
  obtain ⟨v0, v1, v2, rfl⟩ := list3 h3
  have c2 : Try.prog.cellsOf 2 = 1 := by kernel_rfl
  have g0 := hf 0 f0 rfl
  have g1 := hf 1 f1 rfl
  have g2 := hf 2 f2 rfl
  rw [o0, t0, c2] at g0
  rw [o1, t1, c2] at g1
  rw [o2, t2, c2] at g2
  have hx : ∀ i, i < 3 → ∃ y, xs[i]? = some y := by
    intro i hi
    have : xs.length = 3 := by simpa using hxl
    exact ⟨xs[i]'(by omega), by simp⟩
  obtain ⟨y0, e0⟩ := hx 0 (by omega)
  obtain ⟨y1, e1⟩ := hx 1 (by omega)
  obtain ⟨y2, e2⟩ := hx 2 (by omega)
  rw [e0] at g0
  rw [e1] at g1
  rw [e2] at g2
  obtain ⟨k, hk, _, wk⟩ := DataW.trod_int Try.underlying2 g0
  obtain ⟨s, hs, _, ws⟩ := DataW.trod_int Try.underlying2 g1
  obtain ⟨v, hv, _, wv⟩ := DataW.trod_int Try.underlying2 g2
  simp at hk hs hv
  subst hk hs hv
  exact ⟨k, s, v, rfl, wf_i64 wk, wf_i64 ws, wf_i64 wv⟩
set_option maxRecDepth 100000 in
theorem open_record_arg {base : Nat} {v : Value} {d : DataW H} {p : List MemPlace} (hv : Value.okWide Try.prog w .any base 109 v) (h : DataW.Trod enc Try.prog w 0 (fun _ => true) held 109 v d p) :
    ∃ k s x : Int, v = .agg #[.int .i64 k, .int .i64 s, .int .i64 x] ∧ (-9223372036854775808 ≤ k ∧ k ≤ 9223372036854775807) ∧ (-9223372036854775808 ≤ s ∧ s ≤ 9223372036854775807) ∧ (-9223372036854775808 ≤ x ∧ x ≤ 9223372036854775807) := by
  obtain ⟨cs, rfl, hsz⟩ := okWide_struct Try.underlying109 hv
  obtain ⟨fuel, hf⟩ := h
  obtain ⟨k, s, x, h1, h2⟩ := open_record hf
  refine ⟨k, s, x, ?_, h2⟩
  have : cs = #[.int .i64 k, .int .i64 s, .int .i64 x] := by
    apply Array.ext'
    simpa [Value.cells] using h1
  rw [this]

theorem service_fields : ∃ f0 f1 f2 f3 : Field, Try.prog.underlying 26 = some (.struct #[f0, f1, f2, f3]) ∧ f0.offset = 0 ∧ f1.offset = 3 ∧ f2.offset = 4 ∧ f3.offset = 5 ∧ f0.type = 24 ∧ f1.type = 2 ∧ f2.type = 2 ∧ f3.type = 2 := by
  refine ⟨_, _, _, _, Try.underlying26, rfl, rfl, rfl, rfl, rfl, rfl, rfl, rfl⟩
set_option maxRecDepth 100000 in
theorem open_service_arg {base : Nat} {v : Value} {d : DataW H} {p : List MemPlace} (hv : Value.okWide Try.prog w .any base 26 v) (h : DataW.Trod enc Try.prog w 0 (fun _ => true) held 26 v d p) :
    ∃ s t u xss bs sm wk, v = .agg #[.int .i64 s, .int .i64 t, u, .int .i64 bs, .int .i64 sm, .int .i64 wk] ∧ SlII w u xss ∧ (-9223372036854775808 ≤ s ∧ s ≤ 9223372036854775807) ∧ (-9223372036854775808 ≤ t ∧ t ≤ 9223372036854775807) ∧ (∀ r ∈ xss, WfL r) ∧
      (-9223372036854775808 ≤ bs ∧ bs ≤ 9223372036854775807) ∧ (-9223372036854775808 ≤ sm ∧ sm ≤ 9223372036854775807) ∧ (-9223372036854775808 ≤ wk ∧ wk ≤ 9223372036854775807) := by
  obtain ⟨cs, rfl, hsz⟩ := okWide_struct Try.underlying26 hv
  have h6 : cs.size = 6 := by rw [hsz]; kernel_rfl
  obtain ⟨v0, v1, v2, v3, v4, v5, rfl⟩ := array6 h6
  obtain ⟨fuel, hf⟩ := h
  obtain ⟨f0, f1, f2, f3, hu, o0, o1, o2, o3, t0, t1, t2, t3⟩ := service_fields
  obtain ⟨xs, n, _, _, _, hxl, hg⟩ := DataW.trod_struct hu hf
  have c2 : Try.prog.cellsOf 2 = 1 := by kernel_rfl
  have c3 : Try.prog.cellsOf 24 = 3 := by kernel_rfl
  have g0 := hg 0 f0 rfl
  have g1 := hg 1 f1 rfl
  have g2 := hg 2 f2 rfl
  have g3 := hg 3 f3 rfl
  rw [o0, t0, c3] at g0
  rw [o1, t1, c2] at g1
  rw [o2, t2, c2] at g2
  rw [o3, t3, c2] at g3
  have hx : ∀ i, i < 4 → ∃ y, xs[i]? = some y := by
    intro i hi
    have : xs.length = 4 := by simpa using hxl
    exact ⟨xs[i]'(by omega), by simp⟩
  obtain ⟨y0, e0⟩ := hx 0 (by omega)
  obtain ⟨y1, e1⟩ := hx 1 (by omega)
  obtain ⟨y2, e2⟩ := hx 2 (by omega)
  obtain ⟨y3, e3⟩ := hx 3 (by omega)
  rw [e0] at g0
  rw [e1] at g1
  rw [e2] at g2
  rw [e3] at g3
  obtain ⟨s, t, u, xss, k1, k2, k3, k4, k5⟩ := open_chain g0
  obtain ⟨bs, hb, _, wb⟩ := DataW.trod_int Try.underlying2 g1
  obtain ⟨sm, hs, _, ws⟩ := DataW.trod_int Try.underlying2 g2
  obtain ⟨wk, hw, _, ww⟩ := DataW.trod_int Try.underlying2 g3
  simp [Value.cells] at k1 hb hs hw
  obtain ⟨rfl, rfl, rfl⟩ := k1
  subst hb hs hw
  exact ⟨s, t, v2, xss, bs, sm, wk, rfl, k2, k3, k4, k5, wf_i64 wb, wf_i64 ws, wf_i64 ww⟩
end
end Go.Proofs.Ythbbnjpadmcbmaa
