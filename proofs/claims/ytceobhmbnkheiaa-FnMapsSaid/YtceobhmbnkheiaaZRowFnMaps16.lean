/-
  Reachable states: the program's search, members of marks. With it: StepByDraw and RunByDraws, both sides, for valid arguments.
-/
import Derived.Test.YtceobhmbnkheiaaZRowFnMaps8
import Derived.Test.YtceobhmbnkheiaaZRowFnMaps11
import Derived.Test.YtceobhmbnkheiaaZRowFnMaps4
import Derived.Test.YtceobhmbnkheiaaZRowFnMaps7
set_option linter.unusedVariables false
set_option linter.unusedSimpArgs false
namespace Go.Proofs.Ytceobhmbnkheiaa
open Go.RowKit Go.Sort
theorem OwnI.lit1 (w : World) {base : Nat} (hb : base ≤ w.heap.size) (x : Int) : OwnI (w.alloc (.cells #[.int .i64 x] 2)) base (.slice (some ⟨w.heap.size, 0, none⟩) 1 1) [x] :=
  World.ownsRow_lit (base := base) (e := 2) (size := 1) w #[.int .i64 x] 1 hb (by simp [maxLen]) (by simp)
theorem step_appJ {ops : Array Oper} {o : Oper} {a : Act} {K : Act → World → Prop} {Q : Exit → Act → World → Prop} {E : Prop} {w w0 w1 : World} (hg : o.guard = none) (s x : Operand)
    (ho : o.op = .call { callee := .builtin .append, args := #[s, x], argTypes := #[32, 32] })
    {g : Nat} {v : Value} {xs : List Int} {y : Int} (hs : a.eval s = v) (hown : OwnI w1 w0.heap.size v xs) (h01 : Below w0.heap.size w0 w1) (h1w : Below w1.heap.size w1 w) (hx : a.eval x = .slice (some ⟨g, 0, none⟩) 1 1) (hc : w.cell? ⟨g, 0, none⟩ = some (.int .i64 y)) (hlen : xs.length < 16777216)
    (h : ∀ v' w', OwnI w' w0.heap.size v' (xs ++ [y]) → Below w0.heap.size w0 w' → K (a.put o.dst v') w') : if Region.wanted o (yielded ops a.tmps) = true then Oper.wp Try.prog o a w K Q else E := by
  have h0w := h01.trans (h1w.mono h01.size)
  have hown' := hown.below h1w
  exact stepAppI w s x hg ho hs hown' hx hc hlen h0w.size (fun v' w' k1 k2 => h v' w' k1 (h0w.trans (hown'.grown k2 h0w.size)))
end Go.Proofs.Ytceobhmbnkheiaa
namespace Go.Proofs.Ytceobhmbnkheiaa
open Go.RowKit Go.Sort
theorem own_inB {w w' : World} {base e size n g c B : Nat} {xs : List Value} (h : w.ownsRow base e size (.slice (some ⟨g, 0, none⟩) n c) n xs) (hb : Below B w w') (hg : g < B) : w'.ownsRow base e size (.slice (some ⟨g, 0, none⟩) n c) n xs := by
  refine ⟨h.1, ?_⟩
  rcases h.2 with ⟨h1, _⟩ | ⟨g', c', cur, h1, h2, h3, h4⟩
  · simp at h1
  · refine .inr ⟨g', c', cur, h1, h2, ?_, h4⟩
    simp only [Value.slice.injEq, Option.some.injEq, Addr.mk.injEq] at h1
    obtain ⟨⟨rfl, _⟩, _⟩ := h1
    rw [hb.block g hg]; exact h3

theorem FB_set {w : World} {base g n c : Nat} {xs : List Bool} (h : FB.Own w base (.slice (some ⟨g, 0, none⟩) n c) xs) (i : Nat) (x : Bool) :
    FB.Own (w.setCell ⟨g, i, none⟩ (.bool x)) base (.slice (some ⟨g, 0, none⟩) n c) (xs.set i x) := by
  obtain rfl := h.len_of
  have := (World.ownsRow.stored (base := base) h i (.bool x)).1
  unfold Flat.Own
  rw [List.length_set, FB_encs]
  rw [FB_encs] at this
  simpa [List.map_set] using this
theorem FB_at {w : World} {base g n c : Nat} {xs : List Bool} (h : FB.Own w base (.slice (some ⟨g, 0, none⟩) n c) xs) {i : Nat} (hi : i < xs.length) : w.cell? ⟨g, i, none⟩ = some (.bool xs[i]) := by
  have := h.cell (i := i) (j := 0) hi (by decide)
  have e : i * FB.size + 0 = i := by show i * 1 + 0 = i; omega
  rw [e] at this
  exact this
theorem FB_inB {w w' : World} {base g n c B : Nat} {xs : List Bool} (h : FB.Own w base (.slice (some ⟨g, 0, none⟩) n c) xs) (hb : Below B w w') (hg : g < B) : FB.Own w' base (.slice (some ⟨g, 0, none⟩) n c) xs := by
  obtain rfl := h.len_of
  exact own_inB h hb hg
/-- append(v, y) on an owned []int64, the new block's number given -/
theorem append_i64J {ops : Array Oper} {rest : List Oper} {o : Oper} {a : Act} {Q : Exit → Act → World → Prop} (w : World) (y : Int) (s x : Operand) (hg : o.guard = none)
    (ho : o.op = .call { callee := .builtin .append, args := #[s, x], argTypes := #[32, 32] })
    {base : Nat} {v : Value} {xs : List Int} (hs : a.eval s = v) (hown : OwnI w base v xs) {t g0 : Nat} (hg0 : w.heap.size = g0) (hx : a.eval x = .slice (some ⟨g0, 0, none⟩) 1 1)
    (hlen : xs.length < 16777216) (hbase : base ≤ w.heap.size)
    (h : ∀ v' w', OwnI w' base v' (xs ++ [y]) → Below base (w.alloc (.cells #[.int .i64 y] t)) w' → w.heap.size < w'.heap.size → wpList Try.prog ops Q rest (a.put o.dst v') w') : wpList Try.prog ops Q (o :: rest) a (w.alloc (.cells #[.int .i64 y] t)) := by
  subst hg0
  exact append_i64 w y s x hg ho hs hown hx hlen hbase h
def intsL (L : List Nat) : List Int := L.map fun (t : Nat) => (t : Int)
theorem intsL_len (L : List Nat) : (intsL L).length = L.length := by simp [intsL]
theorem intsL_get {L : List Nat} {i : Nat} (h : i < (intsL L).length) : (intsL L)[i] = ((L[i]'(by rw [intsL_len] at h; exact h) : Nat) : Int) := by simp [intsL]
theorem intsL_add (L : List Nat) (j : Nat) : intsL (L ++ [j]) = intsL L ++ [(j : Int)] := by simp [intsL]
theorem marksL_one (n s : Nat) : (List.replicate n false).set s true = marksL n [s] := by
  rw [← marksL_nil, marksL_add]; rfl
theorem wtN_at {xss : List (List Int)} {s t : Nat} (hs : s < xss.length) (ht : t < xss[s].length) : wtN xss s t = xss[s][t] := by
  unfold wtN
  rw [gD_at hs, gD_at ht]
theorem SlII.nthJ {w : World} {ad : Option Addr} {n c : Nat} {xss : List (List Int)} (h : SlII w (.slice ad n c) xss) {i : Nat} (hi : i < xss.length) :
    ∃ b off ra rc, ad = some ⟨b, off, none⟩ ∧ b < w.heap.size ∧ w.cell? ⟨b, off + i, none⟩ = some (.slice ra xss[i].length rc) ∧ SlI w (.slice ra xss[i].length rc) xss[i] := by
  obtain ⟨ad', c', vs, he, _, _, h4, h5, h6⟩ := h
  simp only [Value.slice.injEq] at he
  obtain ⟨rfl, _, rfl⟩ := he
  have hv : i < vs.length := by omega
  have hs := h6 i hi vs[i] (List.getElem?_eq_getElem hv)
  obtain ⟨b, off, h7, h7b, h8⟩ := h5 i _ (List.getElem?_eq_getElem hv)
  obtain ⟨ra, rc, he, h9, h10, h11⟩ := id hs
  rw [he] at h8
  exact ⟨b, off, ra, rc, h7, h7b, h8, ra, rc, rfl, h9, h10, h11⟩
end Go.Proofs.Ytceobhmbnkheiaa
