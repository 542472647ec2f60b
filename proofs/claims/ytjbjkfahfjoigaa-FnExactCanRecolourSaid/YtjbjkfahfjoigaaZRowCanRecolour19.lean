/-
  A list of numbers from which the first one is taken and to which one is added behind: a slice at some place of a block that the call owns.
-/
import Derived.Test.YtjbjkfahfjoigaaZRowCanRecolour17
import Derived.ArgAppend
set_option linter.unusedVariables false
set_option linter.unusedSimpArgs false
namespace Go.Proofs.Ytjbjkfahfjoigaa
open Go.RowKit Go.Sort
theorem take_set_succ {α : Type} {l : List α} {n : Nat} {u : α} (h : n < l.length) : (l.set n u).take (n + 1) = l.take n ++ [u] := by
  rw [List.take_succ_eq_append_getElem (by simpa using h), List.take_set_of_le (Nat.le_refl _)]
  simp
theorem OwnI.grow1 {w : World} {base g n c : Nat} {xs : List Int} (h : OwnI w base (.slice (some ⟨g, 0, none⟩) n c) xs) (hn : n < c) (y : Int) : OwnI (w.setCell ⟨g, n, none⟩ (.int .i64 y)) base (.slice (some ⟨g, 0, none⟩) (n + 1) c) (xs ++ [y]) := by
  rcases h.2 with ⟨h1, _⟩ | ⟨g', cap, cur, h1, h2, h3, h4, h5, h6, h7⟩
  · simp at h1
  · simp only [Value.slice.injEq, Option.some.injEq, Addr.mk.injEq] at h1
    obtain ⟨⟨rfl, _, _⟩, rfl, rfl⟩ := h1
    refine ⟨by simp [i64s], .inr ⟨g, c, cur.setIfInBounds xs.length (.int .i64 y), by simp, h2, heap_setCell_same w g _ cur _ _ h3, by simp; omega, h5, by simpa using h6, ?_⟩⟩
    have hcl : cur.toList.length = c := by simpa using h6
    rw [Array.toList_setIfInBounds, List.length_append, List.length_singleton, Nat.mul_one, take_set_succ (by omega)]
    rw [Nat.mul_one] at h7
    rw [h7]
    simp [i64s]
theorem OwnI.capCell {w : World} {base g n c : Nat} {xs : List Int} (h : OwnI w base (.slice (some ⟨g, 0, none⟩) n c) xs) {j : Nat} (hj : j < c) : (w.cell? ⟨g, j, none⟩).isSome = true := by
  rcases h.2 with ⟨h1, _⟩ | ⟨g', cap, cur, h1, h2, h3, h4, h5, h6, h7⟩
  · simp at h1
  · simp only [Value.slice.injEq, Option.some.injEq, Addr.mk.injEq] at h1
    obtain ⟨⟨rfl, _, _⟩, _, rfl⟩ := h1
    unfold World.cell?
    simp only [h3]
    simp [h6, hj]
def QuI (w : World) (base : Nat) (v : Value) (xs : List Int) : Prop :=
  (∃ (g o c : Nat) (pre : List Int), v = .slice (some ⟨g, o, none⟩) xs.length c ∧ pre.length = o ∧ xs.length ≤ c ∧ OwnI w base (.slice (some ⟨g, 0, none⟩) (o + xs.length) (o + c)) (pre ++ xs)) ∨
  (∃ ad : Addr, v = .slice (some ad) 0 0 ∧ xs = [])
theorem QuI.below {w w' : World} {base : Nat} {v : Value} {xs : List Int} (h : QuI w base v xs) (hb : Below w.heap.size w w') : QuI w' base v xs := by
  rcases h with ⟨g, o, c, pre, h1, h2, h3, h4⟩ | h
  · exact .inl ⟨g, o, c, pre, h1, h2, h3, h4.below hb⟩
  · exact .inr h
theorem QuI.one (w : World) {base : Nat} (hb : base ≤ w.heap.size) (x : Int) : QuI (w.alloc (.cells #[.int .i64 x] 2)) base (.slice (some ⟨w.heap.size, 0, none⟩) 1 1) [x] :=
  .inl ⟨w.heap.size, 0, 1, [], rfl, rfl, Nat.le_refl _, OwnI.lit1 w hb x⟩
/-- one more behind -/
theorem append_qu {ops : Array Oper} {rest : List Oper} {o : Oper} {a : Act} {Q : Exit → Act → World → Prop} (w0 w : World) (y : Int) (s x : Operand) (hg : o.guard = none)
    (ho : o.op = .call { callee := .builtin .append, args := #[s, x], argTypes := #[42, 42] })
    {base : Nat} {v u : Value} {xs zs : List Int} (hs : a.eval s = v) (hq : QuI w0 base v xs) (hb : Below w0.heap.size w0 w) (hu : OwnI w w0.heap.size u zs) {t : Nat} (hx : a.eval x = .slice (some ⟨w.heap.size, 0, none⟩) 1 1)
    (hlen : xs.length < 16777216) (hbase : base ≤ w0.heap.size)
    (h : ∀ v' w', QuI w' base v' (xs ++ [y]) → OwnI w' w0.heap.size u zs → Below base (w.alloc (.cells #[.int .i64 y] t)) w' → wpList Try.prog ops Q rest (a.put o.dst v') w') : wpList Try.prog ops Q (o :: rest) a (w.alloc (.cells #[.int .i64 y] t)) := by
  obtain ⟨i0, hi, hz0, hz1, hz2⟩ := info_parts info2
  have hz := hb.size
  have hzA : (w.alloc (.cells #[.int .i64 y] t)).heap.size = w.heap.size + 1 := by simp
  have hbA : Below w0.heap.size w0 (w.alloc (.cells #[.int .i64 y] t)) := hb.alloc hz _
  have huA : OwnI (w.alloc (.cells #[.int .i64 y] t)) w0.heap.size u zs := hu.below ((Below.refl _ _).alloc (Nat.le_refl _) _)
  have grown : ∀ v' w', w'.ownsRow (w.alloc (.cells #[.int .i64 y] t)).heap.size 2 1 v' (xs.length + 1) (i64s xs ++ [.int .i64 y]) → (w.alloc (.cells #[.int .i64 y] t)).grownBy w' none → wpList Try.prog ops Q rest (a.put o.dst v') w' := by
    intro v' w' h1 h2
    have ho1 : OwnI w' (w.alloc (.cells #[.int .i64 y] t)).heap.size v' (xs ++ [y]) := by
      unfold OwnI
      rw [List.length_append]
      show w'.ownsRow _ _ _ v' (xs.length + 1) (i64s (xs ++ [y]))
      have : i64s (xs ++ [y]) = i64s xs ++ [.int .i64 y] := by simp [i64s]
      rw [this]; exact h1
    have hbel : Below (w.alloc (.cells #[.int .i64 y] t)).heap.size (w.alloc (.cells #[.int .i64 y] t)) w' := (Below.refl _ _).grown h2 (Nat.le_refl _) (by simp)
    refine h v' w' ?_ (huA.below hbel) (hbel.mono (by omega))
    rcases ho1.forms with ⟨_, h4⟩ | ⟨g, c, h3, h4⟩
    · simp at h4
    · have hle : (xs ++ [y]).length ≤ c := by
        obtain ⟨_, _, he, hl, _⟩ := ho1.sl
        rw [h3] at he
        simp only [Value.slice.injEq] at he
        obtain ⟨_, _, rfl⟩ := he
        exact hl
      refine .inl ⟨g, 0, c, [], h3, rfl, hle, ?_⟩
      rw [Nat.zero_add, Nat.zero_add, List.nil_append, ← h3]
      exact ho1.lower (by omega)
  rcases hq with ⟨g, of, c, pre, rfl, hpl, hxc, hown⟩ | ⟨ad, rfl, rfl⟩
  · have hownA := hown.below hbA
    have hgb := hown.lt g rfl
    have hfl : (pre ++ xs).length = of + xs.length := by rw [List.length_append, hpl]
    refine wpList_append_arg _ hg s x 42 ho 2 i0 (.int .i64 0) 1 8 Try.underlying42 hi hz0 hz1 hz2 rfl (by decide) g of xs.length c (i64s xs) hs (by simp [i64s]) ?_ ⟨w.heap.size, 0, none⟩ 1 1 [.int .i64 y] hx rfl (cell_one_new _ _ _) (by intro u hu; simp at hu; subst hu; rfl) ?_ ?_ ?_ ?_ ?_
    · intro j u hj
      have hj2 : j < xs.length := by have := (List.getElem?_eq_some_iff.1 hj).1; simpa [i64s] using this
      rw [i64s_get hj2] at hj
      have := OwnI.cell hownA (i := of + j) (by omega)
      rw [this, List.getElem_append_right (by omega)]
      simp only [hpl, Nat.add_sub_cancel_left]
      exact hj
    · intro hr j hj
      have hj0 : j = 0 := by simpa using hj
      subst hj0
      rw [Nat.mul_one, Nat.add_zero]
      exact ⟨hownA.capCell (by omega), hownA.free _⟩
    · obtain ⟨_, _, he, _, hc, _⟩ := hown.sl
      simp only [Value.slice.injEq] at he
      obtain ⟨_, _, rfl⟩ := he
      simp [maxLen]; omega
    · omega
    · intro hr
      have h1 : OwnI ((w.alloc (.cells #[.int .i64 y] t)).setCell ⟨g, of + xs.length, none⟩ (.int .i64 y)) base (.slice (some ⟨g, 0, none⟩) (of + xs.length + 1) (of + c)) ((pre ++ xs) ++ [y]) := hownA.grow1 (by omega) y
      refine h _ _ (.inl ⟨g, of, c, pre, by rw [List.length_append]; rfl, hpl, by rw [List.length_append]; exact hr, ?_⟩) ?_ ?_
      · rw [List.length_append, ← List.append_assoc, ← Nat.add_assoc, Nat.mul_one]; exact h1
      · rw [Nat.mul_one]; exact huA.fs (Fs.set (S := fun k => k = g) (Fs.refl _ _) (a := ⟨g, of + xs.length, none⟩) rfl (.int .i64 y)) (fun k hk => by have := hgb.2; omega)
      · rw [Nat.mul_one]; exact (Below.refl _ _).setCell hgb.1 _
    · intro _ v' w' h1 h2; exact grown v' w' h1 h2
  · refine wpList_append_grows _ hg s x 42 ho 2 i0 (.int .i64 0) 1 8 Try.underlying42 hi hz0 hz1 hz2 rfl (by decide) (some ad) 0 0 [] hs (fun h => by simp at h) (by simp) (fun b _ j u hj => by simp at hj) ⟨w.heap.size, 0, none⟩ 1 1 [.int .i64 y] hx rfl (cell_one_new _ _ _) (by intro u hu; simp at hu; subst hu; rfl) (by omega) (by simp [maxLen]) (by simp) (fun v' w' h1 h2 => grown v' w' (by simpa [i64s] using h1) h2)
end Go.Proofs.Ytjbjkfahfjoigaa
