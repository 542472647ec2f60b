/-
  The line graph: the program's walk. With it: The line graph's edges, plain.
-/
import Derived.Test.YtceobhmbnkheiaaZRowFnMaps10
import Derived.Test.YtceobhmbnkheiaaZRowFnMaps13
import Derived.Test.YtceobhmbnkheiaaZRowFnMaps7
set_option linter.unusedVariables false
set_option linter.unusedSimpArgs false
namespace Go.Proofs.Ytceobhmbnkheiaa
open Go.RowKit Go.Sort
/-- f has a node of e -/
def shareL (e f : List Int) : Bool := decide (f.getD 0 0 ∈ e) || decide (f.getD 1 0 ∈ e)
theorem shareL_comm {a b c d : Int} : shareL [a, b] [c, d] = shareL [c, d] [a, b] := by
  unfold shareL
  rw [Bool.eq_iff_iff]
  simp
  omega
def rowE (es : List (List Int)) (i j : Nat) : List (List Int) := ((List.range j).filter fun b => decide (i < b) && shareL (es.getD i []) (es.getD b [])).map fun (b : Nat) => [(i : Int), (b : Int)]
def allE (es : List (List Int)) (i : Nat) : List (List Int) := (List.range i).flatMap fun a => rowE es a es.length
theorem rowE_start (es : List (List Int)) (i : Nat) : rowE es i (i + 1) = [] := by
  unfold rowE
  rw [List.map_eq_nil_iff, List.filter_eq_nil_iff]
  intro b hb
  rw [List.mem_range] at hb
  rw [decide_eq_false (by omega)]; simp
theorem rowE_yes {es : List (List Int)} {i j : Nat} (hij : i < j) (h : shareL (es.getD i []) (es.getD j []) = true) : rowE es i (j + 1) = rowE es i j ++ [[(i : Int), (j : Int)]] := by
  unfold rowE
  rw [List.range_succ, List.filter_append, List.map_append]
  simp only [List.filter_cons, List.filter_nil, h, decide_eq_true hij, Bool.and_self, if_true, List.map_cons, List.map_nil]
theorem rowE_no {es : List (List Int)} {i j : Nat} (h : shareL (es.getD i []) (es.getD j []) = false) : rowE es i (j + 1) = rowE es i j := by
  unfold rowE
  rw [List.range_succ, List.filter_append, List.map_append]
  simp only [List.filter_cons, List.filter_nil, h, Bool.and_false, Bool.false_eq_true, if_false, List.map_nil, List.append_nil]
theorem allE_succ (es : List (List Int)) (i : Nat) : allE es (i + 1) = allE es i ++ rowE es i es.length := by
  unfold allE
  rw [List.range_succ, List.flatMap_append]; simp
theorem rowE_len (es : List (List Int)) (i j : Nat) : (rowE es i j).length ≤ j := by
  unfold rowE
  rw [List.length_map]
  exact Nat.le_trans (List.length_filter_le _ _) (by rw [List.length_range]; exact Nat.le_refl _)
theorem allE_len (es : List (List Int)) : ∀ i, (allE es i).length ≤ i * es.length
  | 0 => by simp [allE]
  | i + 1 => by
    rw [allE_succ, List.length_append, Nat.succ_mul]
    have := allE_len es i
    have := rowE_len es i es.length
    omega
theorem sumL_two : ∀ {l : List (List Int)}, (∀ x ∈ l, x.length = 2) → sumL l = 2 * l.length
  | [], _ => rfl
  | x :: r, h => by
    have e : sumL (x :: r) = x.length + sumL r := by simp [sumL]
    rw [e, sumL_two (fun y hy => h y (by simp [hy])), h x (by simp), List.length_cons]; omega
theorem allE_two (es : List (List Int)) (i : Nat) : ∀ x ∈ allE es i, x.length = 2 := by
  intro x hx
  unfold allE rowE at hx
  simp only [List.mem_flatMap, List.mem_map] at hx
  obtain ⟨a, _, b, _, rfl⟩ := hx
  rfl
/-- a graph in a result, its edges in fresh memory, and a code -/
def FreshGC (w : World) (R : (Int × List (List Int)) × Int) (e : Ending) (w' : World) : Prop := ∃ v, e = .returned (.tuple #[.agg #[.int .i64 R.1.1, v], .int .i64 R.2]) ∧ OwnII w' w.heap.size v R.1.2 ∧ Below w.heap.size w w'
def lineR (n : Int) (es : List (List Int)) : (Int × List (List Int)) × Int :=
  if graphOk n es = true then (if es.length = 0 then ((0, []), 4) else if 5 < es.length then ((0, []), 3) else (((es.length : Int), allE es es.length), 0)) else ((0, []), 1)
theorem lineR_len (n : Int) (es : List (List Int)) : sumL (lineR n es).1.2 ≤ 50 := by
  unfold lineR
  split
  · split
    · simp [sumL]
    · split
      · simp [sumL]
      · dsimp only
        rw [sumL_two (allE_two es _)]
        have h := allE_len es es.length
        have : es.length * es.length ≤ 5 * 5 := Nat.mul_le_mul (by omega) (by omega)
        omega
  · simp [sumL]
end Go.Proofs.Ytceobhmbnkheiaa
namespace Go.Proofs.Ytceobhmbnkheiaa
open Go.RowKit Go.Sort
theorem OwnII.setLow {w : World} {base : Nat} {v : Value} {xss : List (List Int)} (h : OwnII w base v xss) {a : Addr} (ha : a.block < base) (u : Value) : OwnII (w.setCell a u) base v xss :=
  h.fs (S := fun k => k = a.block) (Fs.set (a := a) (Fs.refl (fun k => k = a.block) w) rfl u) (fun k (hk : k = a.block) => by rw [hk]; exact ha)
theorem cells2_set {w : World} {b : Nat} {x y u : Value} (h : CellsAt w b [x, y]) : CellsAt (w.setCell ⟨b, 1, none⟩ u) b [x, u] := by
  have c0 := h.get 0 _ rfl
  have c1 := h.get 1 _ rfl
  refine ⟨by simpa using h.1, fun i v hv => ?_⟩
  match i, hv with
  | 0, hv => simp at hv; subst hv; simp [go_sem, c0]
  | 1, hv => simp at hv; subst hv; simp [go_sem, c1]
theorem frozen_new {w : World} {cs : Array Value} {T i : Nat} : (w.alloc (.cells cs T)).frozen? ⟨w.heap.size, i, none⟩ = false := by simp [go_sem]
theorem frozen_of_below {w w' : World} {B : Nat} (h : Below B w w') {p : Addr} (hp : p.block < B) (hf : w.frozen? p = false) : w'.frozen? p = false := by
  have := h.block p.block hp
  simpa [World.frozen?, this] using hf
theorem OwnI.two (w : World) {base : Nat} (hb : base ≤ w.heap.size) (x y : Int) : OwnI (w.alloc (.cells #[.int .i64 x, .int .i64 y] 2)) base (.slice (some ⟨w.heap.size, 0, none⟩) 2 2) [x, y] :=
  World.ownsRow_lit (base := base) (e := 2) (size := 1) w #[.int .i64 x, .int .i64 y] 2 hb (by simp [maxLen]) (by simp)
/-- the graph under work -/
structure LineB (w : World) (b : Nat) (n : Int) (v : Value) : Prop where
  c : CellsAt w b [.int .i64 n, v]
  f : w.frozen? ⟨b, 1, none⟩ = false
theorem LineB.below {w w' : World} {b B : Nat} {n : Int} {v : Value} (h : LineB w b n v) (hb : Below B w w') (hB : b < B) : LineB w' b n v :=
  ⟨⟨Nat.lt_of_lt_of_le h.c.1 hb.size, fun i u hu => by rw [hb.cell (p := ⟨b, i, none⟩) hB]; exact h.c.2 i u hu⟩, frozen_of_below hb hB h.f⟩
theorem LineB.set {w : World} {b : Nat} {n : Int} {v : Value} (h : LineB w b n v) (u : Value) : LineB (w.setCell ⟨b, 1, none⟩ u) b n u := ⟨cells2_set h.c, by simpa using h.f⟩
end Go.Proofs.Ytceobhmbnkheiaa
