/-
  Slices of one-cell elements in general; slices of slices of int64: read, owned, made, grown, stored into.
-/
import Derived.Test.YtipkdbicijibpaaLib
namespace Go.Proofs.Ytipkdbicijibpaa
open Go.RowKit

/-- a one-cell element type E, its slice type T -/
structure OneT (T E : Nat) (z : Value) (bytes : Nat) : Prop where
  und : Try.prog.underlying T = some (.slice E)
  inf : (Try.prog.info? E).map (fun i => (i.zero, i.size, i.bytes)) = some (some z, 1, bytes)
  one : z.cells.size = 1
  few : bytes ≤ 4096
theorem append_one {T E : Nat} {z : Value} {bytes : Nat} (hT : OneT T E z bytes) {ops : Array Oper} {rest : List Oper} {o : Oper} {a : Act} {Q : Exit → Act → World → Prop} (w : World) (y : Value) (hy1 : y.oneCell' = true) (s x : Operand) (hg : o.guard = none)
    (ho : o.op = .call { callee := .builtin .append, args := #[s, x], argTypes := #[T, T] })
    {base n : Nat} {v : Value} {xs : List Value} (hs : a.eval s = v) (hown : w.ownsRow base E 1 v n xs) {t : Nat} (hx : a.eval x = .slice (some ⟨w.heap.size, 0, none⟩) 1 1)
    (hlen : n < 16777216) (hbase : base ≤ w.heap.size)
    (h : ∀ v' w', w'.ownsRow base E 1 v' (n + 1) (xs ++ [y]) → (w.alloc (.cells #[y] t)).grownBy w' v.ownBlock → Below base (w.alloc (.cells #[y] t)) w' → w.heap.size < w'.heap.size → wpList Try.prog ops Q rest (a.put o.dst v') w') : wpList Try.prog ops Q (o :: rest) a (w.alloc (.cells #[y] t)) := by
  obtain ⟨i0, hi, hz0, hz1, hz2⟩ := info_parts hT.inf
  refine wpList_append_own _ hg s x _ ho base E i0 z 1 bytes hT.und hi hz0 hz1 hz2 hT.one (by decide) v n xs hs (hown.alloc _) ⟨w.heap.size, 0, none⟩ 1 1 [y] hx rfl (cell_one_new _ _ _) (by intro u hu; simp at hu; subst hu; exact hy1) (by simp [maxLen]; omega) ?_ (by simp; omega) (fun v' w' h1 h2 _ => ?_)
  · have := hT.few
    calc (n + 1) * bytes ≤ 16777216 * 4096 := Nat.mul_le_mul (by omega) this
      _ ≤ 140737488355328 := by decide
  · have hsz := h2.size
    simp at hsz
    exact h v' w' h1 h2 ((Below.refl _ _).grown h2 (by simp; omega) (fun k hk => (hown.lt k hk).1)) (by omega)
theorem make_one {T E : Nat} {z : Value} {bytes : Nat} (hT : OneT T E z bytes) (hz : z.cells = #[z]) {ops : Array Oper} {rest : List Oper} {o : Oper} {a : Act} {Q : Exit → Act → World → Prop} (w : World) (l c : Operand) (hg : o.guard = none) (hop : o.op = Op.makeSlice T l c)
    (n : Nat) {kl kc : IntKind} {L C : Int} (hl : a.eval l = .int kl L) (hc : a.eval c = .int kc C) (hL : L = (n : Int)) (hC : C = (n : Int)) (hn : n ≤ 16777216)
    (hK : ∀ w', w'.ownsRow w.heap.size E 1 (.slice (some ⟨w.heap.size, 0, none⟩) n n) n (List.replicate n z) → Below w.heap.size w w' → w.heap.size < w'.heap.size → wpList Try.prog ops Q rest (a.put o.dst (.slice (some ⟨w.heap.size, 0, none⟩) n n)) w') :
    wpList Try.prog ops Q (o :: rest) a w := by
  obtain ⟨i0, hi, hz0, hz1, hz2⟩ := info_parts hT.inf
  refine wpList_make_full w hg l c _ hop w.heap.size E i0 z 1 hT.und hi hz0 hz1 kl kc L C n hl hc hL hC ?_ (by simp [maxLen]; omega) (Nat.le_refl _) (fun w' h1 h2 => ?_)
  · rw [hz2]
    have := hT.few
    calc bytes * n ≤ 4096 * 16777216 := Nat.mul_le_mul this hn
      _ ≤ 281474976710656 := by decide
  · rw [hz, Nat.mul_one, toList_madeCells_one] at h1
    exact hK w' h1 ((Below.refl _ _).grown h2 (Nat.le_refl _) (by simp)) (h1.lt w.heap.size rfl).2
theorem ownsRow_empty (w : World) (E : Nat) {base : Nat} (hb : base ≤ w.heap.size) : (w.alloc (.cells #[] E)).ownsRow base E 1 (.slice (some ⟨w.heap.size, 0, none⟩) 0 0) 0 [] :=
  World.ownsRow_lit (base := base) (e := E) (size := 1) w #[] 0 hb (by simp [maxLen]) (by simp)
theorem tI64 : OneT 29 2 (.int .i64 0) 8 := ⟨Try.underlying29, by kernel_rfl, rfl, by decide⟩

theorem tI64S : OneT 24 29 (.slice none 0 0) 24 := ⟨Try.underlying24, by kernel_rfl, rfl, by decide⟩

/-- rows in blocks of their own, no two in one -/
def Rows2 (w : World) (base : Nat) (vs : List Value) (xss : List (List Int)) : Prop :=
  vs.length = xss.length ∧ (∀ (i : Nat) (u : Value) (xs : List Int), vs[i]? = some u → xss[i]? = some xs → OwnI w base u xs) ∧
    ∀ (i j : Nat) (u v : Value) (g : Nat), i ≠ j → vs[i]? = some u → vs[j]? = some v → u.ownBlock = some g → v.ownBlock ≠ some g
def OwnII (w : World) (base : Nat) (v : Value) (xss : List (List Int)) : Prop :=
  ∃ vs, w.ownsRow base 29 1 v xss.length vs ∧ Rows2 w base vs xss
theorem Rows2.below {w w' : World} {base : Nat} {vs : List Value} {xss : List (List Int)} (h : Rows2 w base vs xss) (hb : Below w.heap.size w w') : Rows2 w' base vs xss :=
  ⟨h.1, fun i u xs hu hx => (h.2.1 i u xs hu hx).below hb, h.2.2⟩
theorem OwnII.below {w w' : World} {base : Nat} {v : Value} {xss : List (List Int)} (h : OwnII w base v xss) (hb : Below w.heap.size w w') : OwnII w' base v xss := by
  obtain ⟨vs, h1, h2⟩ := h
  exact ⟨vs, ownsRow_below h1 hb, h2.below hb⟩
theorem OwnII.lower {w : World} {base base' : Nat} {v : Value} {xss : List (List Int)} (h : OwnII w base v xss) (hb : base' ≤ base) : OwnII w base' v xss := by
  obtain ⟨vs, h1, h2⟩ := h
  exact ⟨vs, ownsRow_lower h1 hb, h2.1, fun i u xs hu hx => (h2.2.1 i u xs hu hx).lower hb, h2.2.2⟩
theorem OwnII.nil (w : World) (base : Nat) : OwnII w base (.slice none 0 0) [] :=
  ⟨[], World.ownsRow_nil _ _ _ _, rfl, by intro i u xs h; simp at h, by intro i j u v g _ h; simp at h⟩
theorem OwnII.empty (w : World) {base : Nat} (hb : base ≤ w.heap.size) : OwnII (w.alloc (.cells #[] 29)) base (.slice (some ⟨w.heap.size, 0, none⟩) 0 0) [] :=
  ⟨[], ownsRow_empty w _ hb, rfl, by intro i u xs h; simp at h, by intro i j u v g _ h; simp at h⟩
theorem OwnII.setCell {w : World} {base : Nat} {v : Value} {xss : List (List Int)} (h : OwnII w base v xss) {a : Addr} (ha : a.block < base) (u : Value) : OwnII (w.setCell a u) base v xss := by
  obtain ⟨vs, h1, h2⟩ := h
  exact ⟨vs, ownsRow_setCell_below h1 ha u, h2.1, fun i x xs hx hy => ownsRow_setCell_below (h2.2.1 i x xs hx hy) ha u, h2.2.2⟩
theorem OwnII.sl {w : World} {base : Nat} {v : Value} {xss : List (List Int)} (h : OwnII w base v xss) : SlII w v xss := by
  obtain ⟨vs, h1, h2, h3, _⟩ := h
  obtain ⟨ad, c, h4, h5, h6, h7⟩ := ownsRow_rd h1
  exact ⟨ad, c, vs, h4, h5, h6, h2, h7, fun i hi u hu => (h3 i u _ hu (List.getElem?_eq_getElem hi)).sl⟩
/-- an int row's block is no block of rows -/
theorem OwnI.apart {w : World} {base base' n : Nat} {u v : Value} {xs : List Int} {vs : List Value} (h : OwnI w base u xs) (h2 : w.ownsRow base' 29 1 v n vs) {g : Nat} (hu : u.ownBlock = some g) : v.ownBlock ≠ some g := by
  intro hv
  rcases h.2 with ⟨rfl, _⟩ | ⟨g1, c1, cur1, rfl, _, k1, _⟩
  · simp [Value.ownBlock] at hu
  · rcases h2.2 with ⟨rfl, _⟩ | ⟨g2, c2, cur2, rfl, _, k2, _⟩
    · simp [Value.ownBlock] at hv
    · simp [Value.ownBlock] at hu hv
      subst hu
      subst hv
      rw [k1] at k2
      simp at k2
theorem OwnI.kept {w w' : World} {base : Nat} {u : Value} {xs : List Int} {row : Option Nat} (h : OwnI w base u xs) (hg : w.grownBy w' row) (hne : u.ownBlock = none ∨ u.ownBlock ≠ row) : OwnI w' base u xs :=
  World.ownsRow.kept h hg hne
/-- the rows stay where the outer row alone is written -/
theorem Rows2.kept {w w' : World} {base base' n : Nat} {v : Value} {vs vs' : List Value} {xss : List (List Int)} (h : Rows2 w base vs xss) (h2 : w.ownsRow base' 29 1 v n vs') (hg : w.grownBy w' v.ownBlock) : Rows2 w' base vs xss := by
  refine ⟨h.1, fun i u xs hu hx => ?_, h.2.2⟩
  have hi := h.2.1 i u xs hu hx
  refine hi.kept hg ?_
  cases hb : u.ownBlock with
  | none => exact .inl rfl
  | some g => exact .inr (Ne.symm (hi.apart h2 hb))
/-- one row more -/
theorem Rows2.snoc {w : World} {base B : Nat} {vs : List Value} {xss : List (List Int)} {u : Value} {xs : List Int} (h : Rows2 w base vs xss) (hu : OwnI w base u xs) (hB : ∀ (i : Nat) (v : Value) (g : Nat), vs[i]? = some v → v.ownBlock = some g → g < B) (hu2 : ∀ g, u.ownBlock = some g → B ≤ g) : Rows2 w base (vs ++ [u]) (xss ++ [xs]) := by
  refine ⟨by simp [h.1], fun i x ys hx hy => ?_, fun i j x y g hij hx hy hg => ?_⟩
  · by_cases hi : i < vs.length
    · rw [List.getElem?_append_left hi] at hx
      rw [List.getElem?_append_left (by rw [← h.1]; exact hi)] at hy
      exact h.2.1 i x ys hx hy
    · rw [List.getElem?_append_right (by omega)] at hx
      rw [List.getElem?_append_right (by rw [← h.1]; omega)] at hy
      have h1 : i - vs.length = 0 := by
        rcases Nat.eq_zero_or_pos (i - vs.length) with e | e
        · exact e
        · rw [List.getElem?_eq_none (by simp; omega)] at hx; simp at hx
      rw [h1] at hx
      rw [← h.1, h1] at hy
      simp at hx hy
      subst hx hy
      exact hu
  · have key : ∀ (i : Nat) (x : Value), (vs ++ [u])[i]? = some x → (i < vs.length ∧ vs[i]? = some x) ∨ (i = vs.length ∧ x = u) := by
      intro i x hx
      by_cases hi : i < vs.length
      · rw [List.getElem?_append_left hi] at hx; exact .inl ⟨hi, hx⟩
      · rw [List.getElem?_append_right (by omega)] at hx
        rcases Nat.eq_zero_or_pos (i - vs.length) with e | e
        · rw [e] at hx; simp at hx; exact .inr ⟨by omega, hx.symm⟩
        · rw [List.getElem?_eq_none (by simp; omega)] at hx; simp at hx
    rcases key i x hx with ⟨h1, h2⟩ | ⟨h1, rfl⟩
    · rcases key j y hy with ⟨h3, h4⟩ | ⟨h3, rfl⟩
      · exact h.2.2 i j x y g hij h2 h4 hg
      · intro h5
        have := hB i x g h2 hg
        have := hu2 g h5
        omega
    · rcases key j y hy with ⟨h3, h4⟩ | ⟨h3, rfl⟩
      · intro h5
        have := hB j y g h4 h5
        have := hu2 g hg
        omega
      · omega
theorem Rows2.lt {w : World} {base : Nat} {vs : List Value} {xss : List (List Int)} (h : Rows2 w base vs xss) : ∀ (i : Nat) (v : Value) (g : Nat), vs[i]? = some v → v.ownBlock = some g → base ≤ g ∧ g < w.heap.size := by
  intro i v g hv hg
  have hi : i < xss.length := by rw [← h.1]; exact (List.getElem?_eq_some_iff.1 hv).1
  exact (h.2.1 i v _ hv (List.getElem?_eq_getElem hi)).lt g hg
/-- a row at its place, where there was none -/
theorem Rows2.set {w : World} {base B : Nat} {vs : List Value} {xss : List (List Int)} {u : Value} {xs : List Int} {k : Nat} (h : Rows2 w base vs xss) (hu : OwnI w base u xs) (hB : ∀ (i : Nat) (v : Value) (g : Nat), vs[i]? = some v → v.ownBlock = some g → g < B) (hu2 : ∀ g, u.ownBlock = some g → B ≤ g) : Rows2 w base (vs.set k u) (xss.set k xs) := by
  refine ⟨by simp [h.1], fun i x ys hx hy => ?_, fun i j x y g hij hx hy hg => ?_⟩
  · rw [List.getElem?_set] at hx hy
    by_cases hk : k = i
    · rw [if_pos hk] at hx hy
      split at hx
      · split at hy
        · simp at hx hy; subst hx hy; exact hu
        · simp at hy
      · simp at hx
    · rw [if_neg hk] at hx hy
      exact h.2.1 i x ys hx hy
  · have key : ∀ (i : Nat) (x : Value), (vs.set k u)[i]? = some x → (i ≠ k ∧ vs[i]? = some x) ∨ (i = k ∧ x = u) := by
      intro i x hx
      rw [List.getElem?_set] at hx
      by_cases hk : k = i
      · rw [if_pos hk] at hx
        split at hx
        · simp at hx; exact .inr ⟨hk.symm, hx.symm⟩
        · simp at hx
      · rw [if_neg hk] at hx; exact .inl ⟨Ne.symm hk, hx⟩
    rcases key i x hx with ⟨h1, h2⟩ | ⟨h1, rfl⟩
    · rcases key j y hy with ⟨h3, h4⟩ | ⟨h3, rfl⟩
      · exact h.2.2 i j x y g hij h2 h4 hg
      · intro h5
        have := hB i x g h2 hg
        have := hu2 g h5
        omega
    · rcases key j y hy with ⟨h3, h4⟩ | ⟨h3, rfl⟩
      · intro h5
        have := hB j y g h4 h5
        have := hu2 g hg
        omega
      · omega
end Go.Proofs.Ytipkdbicijibpaa
