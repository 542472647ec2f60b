/-
  The closed facts that all rows of this seat share, each by itself. With it: Plain words for the walks of this seat: what a slice reads as, what is owned, how both are carried on over later worlds. Slices of one-cell elements in general; slices of slices of int64: read, owned, made, grown, stored into. Slices of flat elements (some one-cell fields each): read, owned, made, grown; append of any slice. The law package's own helpers on []int64: equal, copied, marked, held. Draws from a seed. Words of deeds, and which deeds are valid.
-/
import Derived.Test.YtceobhmbnkheiaaRows
import Derived.WalkKit
import Derived.WalkSpells
import Derived.WalkLawsBesides
import Derived.Lib.Hide
import Derived.Deep.QuietTactic
import Derived.BigQuiet
set_option linter.unusedVariables false
set_option linter.unusedSimpArgs false
namespace Go.Proofs.Ytceobhmbnkheiaa
open Go.RowKit

theorem rb {a b : Bool} (h : a = b) : Ending.returned (.bool a) = .returned (.bool b) := by rw [h]
theorem ri {k : IntKind} {a b : Int} (h : a = b) : Ending.returned (.int k a) = .returned (.int k b) := by rw [h]
theorem vi {k : IntKind} {a b : Int} (h : a = b) : Value.int k a = .int k b := by rw [h]
theorem vb {a b : Bool} (h : a = b) : Value.bool a = .bool b := by rw [h]

/-- 'a, b' at most 'x' -/
def inR (x a b : Int) : Bool := decide (a ≤ x) && decide (x ≤ b)
theorem inR_of_le {x a b : Int} (h : a ≤ x) : inR x a b = decide (x ≤ b) := by simp [inR, h]
theorem inR_of_lt {x a b : Int} (h : x < a) : inR x a b = false := by simp [inR]; omega
theorem inR_iff {x a b : Int} : inR x a b = true ↔ a ≤ x ∧ x ≤ b := by simp [inR]
theorem inR_false {x a b : Int} : inR x a b = false ↔ (x < a ∨ b < x) := by simp [inR]; omega

def i64s (xs : List Int) : List Value := xs.map (.int .i64)
theorem i64s_length (xs : List Int) : (i64s xs).length = xs.length := by simp [i64s]
theorem i64s_get {xs : List Int} {j : Nat} (h : j < xs.length) : (i64s xs)[j]? = some (.int .i64 xs[j]) := by simp [i64s, h]
theorem i64s_append (xs ys : List Int) : i64s (xs ++ ys) = i64s xs ++ i64s ys := by simp [i64s]

/-- the cells from an address on -/
def Rd (w : World) (ad : Option Addr) (ys : List Value) : Prop :=
  ∀ j u, ys[j]? = some u → ∃ b off, ad = some ⟨b, off, none⟩ ∧ b < w.heap.size ∧ w.cell? ⟨b, off + j, none⟩ = some u
theorem Rd.nil (w : World) (ad : Option Addr) : Rd w ad [] := by intro j u h; simp at h
theorem Rd.all {w : World} {ad : Option Addr} {ys : List Value} (h : Rd w ad ys) {k : Nat} (hk : k < ys.length) :
    ∃ b off, ad = some ⟨b, off, none⟩ ∧ b < w.heap.size ∧ ∀ j u, ys[j]? = some u → w.cell? ⟨b, off + j, none⟩ = some u := by
  obtain ⟨b, off, h1, h2, _⟩ := h k ys[k] (by simp [hk])
  refine ⟨b, off, h1, h2, fun j u hj => ?_⟩
  obtain ⟨b', off', h1', _, h3⟩ := h j u hj
  rw [h1] at h1'; simp at h1'; obtain ⟨rfl, rfl⟩ := h1'; exact h3
theorem Rd.below {w w' : World} {ad : Option Addr} {ys : List Value} (h : Rd w ad ys) (hb : Below w.heap.size w w') : Rd w' ad ys := by
  intro j u hu
  obtain ⟨b, off, h1, h2, h3⟩ := h j u hu
  exact ⟨b, off, h1, Nat.lt_of_lt_of_le h2 hb.size, by rw [hb.cell (p := ⟨b, off + j, none⟩) h2]; exact h3⟩
theorem Rd.one {w : World} {ad : Option Addr} {ys : List Value} (h : Rd w ad ys) {k : Nat} {u : Value} (hk : ys[k]? = some u) :
    ∃ b off, ad = some ⟨b, off, none⟩ ∧ w.cell? ⟨b, off + k, none⟩ = some u := by
  obtain ⟨b, off, h1, _, h3⟩ := h k u hk
  exact ⟨b, off, h1, h3⟩

/-- a slice of int64 that reads so -/
def SlI (w : World) (v : Value) (xs : List Int) : Prop :=
  ∃ ad c, v = .slice ad xs.length c ∧ xs.length ≤ c ∧ c ≤ maxLen ∧ Rd w ad (i64s xs)
theorem SlI.below {w w' : World} {v : Value} {xs : List Int} (h : SlI w v xs) (hb : Below w.heap.size w w') : SlI w' v xs := by
  obtain ⟨ad, c, h1, h2, h3, h4⟩ := h
  exact ⟨ad, c, h1, h2, h3, h4.below hb⟩
/-- a slice of slices of int64 -/
def SlII (w : World) (v : Value) (xss : List (List Int)) : Prop :=
  ∃ ad c vs, v = .slice ad xss.length c ∧ xss.length ≤ c ∧ c ≤ maxLen ∧ vs.length = xss.length ∧ Rd w ad vs ∧
    ∀ (i : Nat) (hi : i < xss.length) u, vs[i]? = some u → SlI w u xss[i]
theorem SlII.below {w w' : World} {v : Value} {xss : List (List Int)} (h : SlII w v xss) (hb : Below w.heap.size w w') : SlII w' v xss := by
  obtain ⟨ad, c, vs, h1, h2, h3, h4, h5, h6⟩ := h
  exact ⟨ad, c, vs, h1, h2, h3, h4, h5.below hb, fun i hi u hu => (h6 i hi u hu).below hb⟩

theorem below_of {a b c : World} (h : Below a.heap.size a b) (k : Below b.heap.size b c) : Below a.heap.size a c :=
  h.trans (k.mono h.size)
theorem below_drewN {B : Nat} {a w : World} (h : Below B a w) (n : Nat) : Below B a (w.drewN n) := ⟨h.os, h.tape, h.output, h.size, h.block⟩
theorem ownsRow_below {w w' : World} {base e size n : Nat} {v : Value} {xs : List Value} (h : w.ownsRow base e size v n xs) (hb : Below w.heap.size w w') : w'.ownsRow base e size v n xs := by
  refine ⟨h.1, ?_⟩
  rcases h.2 with h2 | ⟨g, cap, cur, h1, h2, h3, h4⟩
  · exact .inl h2
  · refine .inr ⟨g, cap, cur, h1, h2, ?_, h4⟩
    rw [hb.block g (Array.getElem?_eq_some_iff.1 h3).1]; exact h3
theorem ownsRow_lower {w : World} {base base' e size n : Nat} {v : Value} {xs : List Value} (h : w.ownsRow base e size v n xs) (hb : base' ≤ base) : w.ownsRow base' e size v n xs := by
  refine ⟨h.1, ?_⟩
  rcases h.2 with h2 | ⟨g, cap, cur, h1, h2, h3, h4⟩
  · exact .inl h2
  · exact .inr ⟨g, cap, cur, h1, Nat.le_trans hb h2, h3, h4⟩
theorem ownsRow_rd {w : World} {base e size n : Nat} {v : Value} {xs : List Value} (h : w.ownsRow base e size v n xs) :
    ∃ ad c, v = .slice ad n c ∧ n ≤ c ∧ c ≤ maxLen ∧ Rd w ad xs := by
  rcases h.2 with ⟨h2, h3⟩ | ⟨g, cap, cur, h1, h2, h3, h4, h5, h6, h7⟩
  · subst h3
    have : xs = [] := by have := h.1; simp at this; exact this
    subst this
    exact ⟨none, 0, h2, Nat.le_refl _, by simp [maxLen], Rd.nil _ _⟩
  · subst h1
    refine ⟨_, cap, rfl, h4, h5, fun j u hu => ⟨g, 0, rfl, (Array.getElem?_eq_some_iff.1 h3).1, ?_⟩⟩
    have hj : j < n * size := by rw [← h.1]; exact (List.getElem?_eq_some_iff.1 hu).1
    rw [Nat.zero_add, h.cellAt j hj, hu]
/-- an owned slice of int64 -/
def OwnI (w : World) (base : Nat) (v : Value) (xs : List Int) : Prop := w.ownsRow base 2 1 v xs.length (i64s xs)
theorem OwnI.sl {w : World} {base : Nat} {v : Value} {xs : List Int} (h : OwnI w base v xs) : SlI w v xs := by
  obtain ⟨ad, c, h1, h2, h3, h4⟩ := ownsRow_rd h
  exact ⟨ad, c, h1, h2, h3, h4⟩
theorem OwnI.below {w w' : World} {base : Nat} {v : Value} {xs : List Int} (h : OwnI w base v xs) (hb : Below w.heap.size w w') : OwnI w' base v xs := ownsRow_below h hb
theorem OwnI.lower {w : World} {base base' : Nat} {v : Value} {xs : List Int} (h : OwnI w base v xs) (hb : base' ≤ base) : OwnI w base' v xs := ownsRow_lower h hb
theorem OwnI.nil (w : World) (base : Nat) : OwnI w base (.slice none 0 0) [] := World.ownsRow_nil _ _ _ _
theorem SlI.nil (w : World) : SlI w (.slice none 0 0) [] := (OwnI.nil w 0).sl
theorem info2 : (Try.prog.info? 2).map (fun i => (i.zero, i.size, i.bytes)) = some (some (.int .i64 0), 1, 8) := by kernel_rfl

theorem madeCells_i64 (n : Nat) : (madeCells (Value.int .i64 0).cells (n * 1)).toList = i64s (List.replicate n 0) := by
  simp [Value.cells, toList_madeCells_one, i64s]
/-- make([]int64, n) -/
theorem make_i64 {ops : Array Oper} {rest : List Oper} {o : Oper} {a : Act} {Q : Exit → Act → World → Prop} (w : World) (l c : Operand) (hg : o.guard = none) (hop : o.op = Op.makeSlice 32 l c)
    (n : Nat) {kl kc : IntKind} {L C : Int} (hl : a.eval l = .int kl L) (hc : a.eval c = .int kc C) (hL : L = (n : Int)) (hC : C = (n : Int)) (hn : n ≤ 16777216)
    (hK : ∀ w', OwnI w' w.heap.size (.slice (some ⟨w.heap.size, 0, none⟩) n n) (List.replicate n 0) → Below w.heap.size w w' → w.heap.size < w'.heap.size → wpList Try.prog ops Q rest (a.put o.dst (.slice (some ⟨w.heap.size, 0, none⟩) n n)) w') :
    wpList Try.prog ops Q (o :: rest) a w := by
  obtain ⟨i0, hi, hz0, hz1, hz2⟩ := info_parts info2
  refine wpList_make_full w hg l c _ hop w.heap.size 2 i0 (.int .i64 0) 1 Try.underlying32 hi hz0 hz1 kl kc L C n hl hc hL hC (by rw [hz2]; omega) (by simp [maxLen]; omega) (Nat.le_refl _) (fun w' h1 h2 => ?_)
  rw [madeCells_i64] at h1
  refine hK w' (by unfold OwnI; rw [List.length_replicate]; exact h1) ((Below.refl _ _).grown h2 (Nat.le_refl _) (by simp)) ?_
  exact (h1.lt w.heap.size rfl).2
theorem OwnI.set {w : World} {base g n c : Nat} {xs : List Int} (h : OwnI w base (.slice (some ⟨g, 0, none⟩) n c) xs) (i : Nat) (x : Int) :
    OwnI (w.setCell ⟨g, i, none⟩ (.int .i64 x)) base (.slice (some ⟨g, 0, none⟩) n c) (xs.set i x) := by
  have hl : n = xs.length := by
    rcases h.2 with ⟨h1, _⟩ | ⟨g', c', cur, h1, _⟩
    · simp at h1
    · simp at h1; exact h1.2.1
  subst hl
  have := (World.ownsRow.stored (base := base) h i (.int .i64 x)).1
  unfold OwnI
  rw [List.length_set]
  simpa [i64s, List.map_set] using this
theorem OwnI.cell {w : World} {base g n c : Nat} {xs : List Int} (h : OwnI w base (.slice (some ⟨g, 0, none⟩) n c) xs) {i : Nat} (hi : i < xs.length) :
    w.cell? ⟨g, i, none⟩ = some (.int .i64 xs[i]) := by
  have hl : n = xs.length := by
    rcases h.2 with ⟨h1, _⟩ | ⟨g', c', cur, h1, _⟩
    · simp at h1
    · simp at h1; exact h1.2.1
  subst hl
  have := World.ownsRow.cellAt h i (by omega)
  rw [this]; exact i64s_get hi
theorem OwnI.free {w : World} {base g n c : Nat} {xs : List Int} (h : OwnI w base (.slice (some ⟨g, 0, none⟩) n c) xs) (i : Nat) :
    w.frozen? ⟨g, i, none⟩ = false := by
  have hl : n = xs.length := by
    rcases h.2 with ⟨h1, _⟩ | ⟨g', c', cur, h1, _⟩
    · simp at h1
    · simp at h1; exact h1.2.1
  subst hl
  exact World.ownsRow.frozenAt h i
theorem OwnI.forms {w : World} {base : Nat} {v : Value} {xs : List Int} (h : OwnI w base v xs) :
    (v = .slice none 0 0 ∧ xs = []) ∨ ∃ g c, v = .slice (some ⟨g, 0, none⟩) xs.length c ∧ base ≤ g ∧ g < w.heap.size ∧ xs.length ≤ c ∧ c ≤ maxLen := by
  rcases h.2 with ⟨h1, h2⟩ | ⟨g, c, cur, h1, h2, h3, h4, h5, _⟩
  · exact .inl ⟨h1, List.length_eq_zero_iff.1 h2⟩
  · exact .inr ⟨g, c, h1, h2, (Array.getElem?_eq_some_iff.1 h3).1, h4, h5⟩

/-- append(v, y) on an owned []int64 -/
theorem append_i64 {ops : Array Oper} {rest : List Oper} {o : Oper} {a : Act} {Q : Exit → Act → World → Prop} (w : World) (y : Int) (s x : Operand) (hg : o.guard = none)
    (ho : o.op = .call { callee := .builtin .append, args := #[s, x], argTypes := #[32, 32] })
    {base : Nat} {v : Value} {xs : List Int} (hs : a.eval s = v) (hown : OwnI w base v xs) {t : Nat} (hx : a.eval x = .slice (some ⟨w.heap.size, 0, none⟩) 1 1)
    (hlen : xs.length < 16777216) (hbase : base ≤ w.heap.size)
    (h : ∀ v' w', OwnI w' base v' (xs ++ [y]) → Below base (w.alloc (.cells #[.int .i64 y] t)) w' → w.heap.size < w'.heap.size → wpList Try.prog ops Q rest (a.put o.dst v') w') : wpList Try.prog ops Q (o :: rest) a (w.alloc (.cells #[.int .i64 y] t)) := by
  obtain ⟨i0, hi, hz0, hz1, hz2⟩ := info_parts info2
  refine wpList_append_own _ hg s x _ ho base 2 i0 (.int .i64 0) 1 8 Try.underlying32 hi hz0 hz1 hz2 rfl (by decide) v xs.length (i64s xs) hs (hown.alloc _) ⟨w.heap.size, 0, none⟩ 1 1 [.int .i64 y] hx rfl (cell_one_new _ _ _) (by simp [Value.oneCell']) (by simp [maxLen]; omega) (by omega) (by simp; omega) (fun v' w' h1 h2 _ => ?_)
  have hsz := h2.size
  simp at hsz
  refine h v' w' ?_ ((Below.refl _ _).grown h2 (by simp; omega) (fun k hk => (hown.lt k hk).1)) (by omega)
  unfold OwnI
  rw [i64s_append, List.length_append]; exact h1
theorem OwnI.empty (w : World) {base : Nat} (hb : base ≤ w.heap.size) : OwnI (w.alloc (.cells #[] 2)) base (.slice (some ⟨w.heap.size, 0, none⟩) 0 0) [] := by
  exact World.ownsRow_lit (base := base) (e := 2) (size := 1) w #[] 0 hb (by simp [maxLen]) (by simp)
theorem OwnI.grown {w w' : World} {base : Nat} {v : Value} {xs : List Int} (h : OwnI w base v xs) (hg : w.grownBy w' v.ownBlock) (hb : base ≤ w.heap.size) : Below base w w' :=
  (Below.refl _ _).grown hg hb (fun k hk => (h.lt k hk).1)
end Go.Proofs.Ytceobhmbnkheiaa
namespace Go.Proofs.Ytceobhmbnkheiaa
open Go.RowKit

/-- a one-cell element type E, its slice type T -/
structure OneT (T E : Nat) (z : Value) (bytes : Nat) : Prop where
  und : Try.prog.underlying T = some (.slice E)
  inf : (Try.prog.info? E).map (fun i => (i.zero, i.size, i.bytes)) = some (some z, 1, bytes)
  one : z.cells.size = 1
  few : bytes ≤ 4096
theorem append_one {T E : Nat} {z : Value} {bytes : Nat} (hT : OneT T E z bytes) {ops : Array Oper} {rest : List Oper} {o : Oper} {a : Act} {Q : Exit → Act → World → Prop} (w : World) (y : Value) (hy1 : y.oneCell' = true) (s x : Operand) (hg : o.guard = none)
    (ho : o.op = .call { callee := .builtin .append, args := #[s, x], argTypes := #[T, T] })
    {base n : Nat} {v : Value} {xs : List Value} (hs : a.eval s = v) (hown : w.ownsRow base E 1 v n xs) {t : Nat} (hx : a.eval x = .slice (some ⟨w.heap.size, 0, none⟩) 1 1)
    (hlen : n < 16777216) (hbase : base ≤ w.heap.size)
    (h : ∀ v' w', w'.ownsRow base E 1 v' (n + 1) (xs ++ [y]) → (w.alloc (.cells #[y] t)).grownBy w' v.ownBlock → Below base (w.alloc (.cells #[y] t)) w' → w.heap.size < w'.heap.size → wpList Try.prog ops Q rest (a.put o.dst v') w') : wpList Try.prog ops Q (o :: rest) a (w.alloc (.cells #[y] t)) := by
  obtain ⟨i0, hi, hz0, hz1, hz2⟩ := info_parts hT.inf
  refine wpList_append_own _ hg s x _ ho base E i0 z 1 bytes hT.und hi hz0 hz1 hz2 hT.one (by decide) v n xs hs (hown.alloc _) ⟨w.heap.size, 0, none⟩ 1 1 [y] hx rfl (cell_one_new _ _ _) (by intro u hu; simp at hu; subst hu; exact hy1) (by simp [maxLen]; omega) ?_ (by simp; omega) (fun v' w' h1 h2 _ => ?_)
  · have := hT.few
    calc (n + 1) * bytes ≤ 16777216 * 4096 := Nat.mul_le_mul (by omega) this
      _ ≤ 140737488355328 := by decide
  · have hsz := h2.size
    simp at hsz
    exact h v' w' h1 h2 ((Below.refl _ _).grown h2 (by simp; omega) (fun k hk => (hown.lt k hk).1)) (by omega)
theorem make_one {T E : Nat} {z : Value} {bytes : Nat} (hT : OneT T E z bytes) (hz : z.cells = #[z]) {ops : Array Oper} {rest : List Oper} {o : Oper} {a : Act} {Q : Exit → Act → World → Prop} (w : World) (l c : Operand) (hg : o.guard = none) (hop : o.op = Op.makeSlice T l c)
    (n : Nat) {kl kc : IntKind} {L C : Int} (hl : a.eval l = .int kl L) (hc : a.eval c = .int kc C) (hL : L = (n : Int)) (hC : C = (n : Int)) (hn : n ≤ 16777216)
    (hK : ∀ w', w'.ownsRow w.heap.size E 1 (.slice (some ⟨w.heap.size, 0, none⟩) n n) n (List.replicate n z) → Below w.heap.size w w' → w.heap.size < w'.heap.size → wpList Try.prog ops Q rest (a.put o.dst (.slice (some ⟨w.heap.size, 0, none⟩) n n)) w') :
    wpList Try.prog ops Q (o :: rest) a w := by
  obtain ⟨i0, hi, hz0, hz1, hz2⟩ := info_parts hT.inf
  refine wpList_make_full w hg l c _ hop w.heap.size E i0 z 1 hT.und hi hz0 hz1 kl kc L C n hl hc hL hC ?_ (by simp [maxLen]; omega) (Nat.le_refl _) (fun w' h1 h2 => ?_)
  · rw [hz2]
    have := hT.few
    calc bytes * n ≤ 4096 * 16777216 := Nat.mul_le_mul this hn
      _ ≤ 281474976710656 := by decide
  · rw [hz, Nat.mul_one, toList_madeCells_one] at h1
    exact hK w' h1 ((Below.refl _ _).grown h2 (Nat.le_refl _) (by simp)) (h1.lt w.heap.size rfl).2
theorem ownsRow_empty (w : World) (E : Nat) {base : Nat} (hb : base ≤ w.heap.size) : (w.alloc (.cells #[] E)).ownsRow base E 1 (.slice (some ⟨w.heap.size, 0, none⟩) 0 0) 0 [] :=
  World.ownsRow_lit (base := base) (e := E) (size := 1) w #[] 0 hb (by simp [maxLen]) (by simp)
theorem tI64 : OneT 32 2 (.int .i64 0) 8 := ⟨Try.underlying32, by kernel_rfl, rfl, by decide⟩

theorem tI64S : OneT 50 32 (.slice none 0 0) 24 := ⟨Try.underlying50, by kernel_rfl, rfl, by decide⟩

/-- rows in blocks of their own, no two in one -/
def Rows2 (w : World) (base : Nat) (vs : List Value) (xss : List (List Int)) : Prop :=
  vs.length = xss.length ∧ (∀ (i : Nat) (u : Value) (xs : List Int), vs[i]? = some u → xss[i]? = some xs → OwnI w base u xs) ∧
    ∀ (i j : Nat) (u v : Value) (g : Nat), i ≠ j → vs[i]? = some u → vs[j]? = some v → u.ownBlock = some g → v.ownBlock ≠ some g
def OwnII (w : World) (base : Nat) (v : Value) (xss : List (List Int)) : Prop :=
  ∃ vs, w.ownsRow base 32 1 v xss.length vs ∧ Rows2 w base vs xss
theorem Rows2.below {w w' : World} {base : Nat} {vs : List Value} {xss : List (List Int)} (h : Rows2 w base vs xss) (hb : Below w.heap.size w w') : Rows2 w' base vs xss :=
  ⟨h.1, fun i u xs hu hx => (h.2.1 i u xs hu hx).below hb, h.2.2⟩
theorem OwnII.below {w w' : World} {base : Nat} {v : Value} {xss : List (List Int)} (h : OwnII w base v xss) (hb : Below w.heap.size w w') : OwnII w' base v xss := by
  obtain ⟨vs, h1, h2⟩ := h
  exact ⟨vs, ownsRow_below h1 hb, h2.below hb⟩
theorem OwnII.lower {w : World} {base base' : Nat} {v : Value} {xss : List (List Int)} (h : OwnII w base v xss) (hb : base' ≤ base) : OwnII w base' v xss := by
  obtain ⟨vs, h1, h2⟩ := h
  exact ⟨vs, ownsRow_lower h1 hb, h2.1, fun i u xs hu hx => (h2.2.1 i u xs hu hx).lower hb, h2.2.2⟩
theorem OwnII.nil (w : World) (base : Nat) : OwnII w base (.slice none 0 0) [] :=
  ⟨[], World.ownsRow_nil _ _ _ _, rfl, by intro i u xs h; simp at h, by intro i j u v g _ h; simp at h⟩
theorem OwnII.empty (w : World) {base : Nat} (hb : base ≤ w.heap.size) : OwnII (w.alloc (.cells #[] 32)) base (.slice (some ⟨w.heap.size, 0, none⟩) 0 0) [] :=
  ⟨[], ownsRow_empty w _ hb, rfl, by intro i u xs h; simp at h, by intro i j u v g _ h; simp at h⟩
theorem OwnII.setCell {w : World} {base : Nat} {v : Value} {xss : List (List Int)} (h : OwnII w base v xss) {a : Addr} (ha : a.block < base) (u : Value) : OwnII (w.setCell a u) base v xss := by
  obtain ⟨vs, h1, h2⟩ := h
  exact ⟨vs, ownsRow_setCell_below h1 ha u, h2.1, fun i x xs hx hy => ownsRow_setCell_below (h2.2.1 i x xs hx hy) ha u, h2.2.2⟩
theorem OwnII.sl {w : World} {base : Nat} {v : Value} {xss : List (List Int)} (h : OwnII w base v xss) : SlII w v xss := by
  obtain ⟨vs, h1, h2, h3, _⟩ := h
  obtain ⟨ad, c, h4, h5, h6, h7⟩ := ownsRow_rd h1
  exact ⟨ad, c, vs, h4, h5, h6, h2, h7, fun i hi u hu => (h3 i u _ hu (List.getElem?_eq_getElem hi)).sl⟩
/-- an int row's block is no block of rows -/
theorem OwnI.apart {w : World} {base base' n : Nat} {u v : Value} {xs : List Int} {vs : List Value} (h : OwnI w base u xs) (h2 : w.ownsRow base' 32 1 v n vs) {g : Nat} (hu : u.ownBlock = some g) : v.ownBlock ≠ some g := by
  intro hv
  rcases h.2 with ⟨rfl, _⟩ | ⟨g1, c1, cur1, rfl, _, k1, _⟩
  · simp [Value.ownBlock] at hu
  · rcases h2.2 with ⟨rfl, _⟩ | ⟨g2, c2, cur2, rfl, _, k2, _⟩
    · simp [Value.ownBlock] at hv
    · simp [Value.ownBlock] at hu hv
      subst hu
      subst hv
      rw [k1] at k2
      simp at k2
theorem OwnI.kept {w w' : World} {base : Nat} {u : Value} {xs : List Int} {row : Option Nat} (h : OwnI w base u xs) (hg : w.grownBy w' row) (hne : u.ownBlock = none ∨ u.ownBlock ≠ row) : OwnI w' base u xs :=
  World.ownsRow.kept h hg hne
/-- the rows stay where the outer row alone is written -/
theorem Rows2.kept {w w' : World} {base base' n : Nat} {v : Value} {vs vs' : List Value} {xss : List (List Int)} (h : Rows2 w base vs xss) (h2 : w.ownsRow base' 32 1 v n vs') (hg : w.grownBy w' v.ownBlock) : Rows2 w' base vs xss := by
  refine ⟨h.1, fun i u xs hu hx => ?_, h.2.2⟩
  have hi := h.2.1 i u xs hu hx
  refine hi.kept hg ?_
  cases hb : u.ownBlock with
  | none => exact .inl rfl
  | some g => exact .inr (Ne.symm (hi.apart h2 hb))
/-- one row more -/
theorem Rows2.snoc {w : World} {base B : Nat} {vs : List Value} {xss : List (List Int)} {u : Value} {xs : List Int} (h : Rows2 w base vs xss) (hu : OwnI w base u xs) (hB : ∀ (i : Nat) (v : Value) (g : Nat), vs[i]? = some v → v.ownBlock = some g → g < B) (hu2 : ∀ g, u.ownBlock = some g → B ≤ g) : Rows2 w base (vs ++ [u]) (xss ++ [xs]) := by
  refine ⟨by simp [h.1], fun i x ys hx hy => ?_, fun i j x y g hij hx hy hg => ?_⟩
  · by_cases hi : i < vs.length
    · rw [List.getElem?_append_left hi] at hx
      rw [List.getElem?_append_left (by rw [← h.1]; exact hi)] at hy
      exact h.2.1 i x ys hx hy
    · rw [List.getElem?_append_right (by omega)] at hx
      rw [List.getElem?_append_right (by rw [← h.1]; omega)] at hy
      have h1 : i - vs.length = 0 := by
        rcases Nat.eq_zero_or_pos (i - vs.length) with e | e
        · exact e
        · rw [List.getElem?_eq_none (by simp; omega)] at hx; simp at hx
      rw [h1] at hx
      rw [← h.1, h1] at hy
      simp at hx hy
      subst hx hy
      exact hu
  · have key : ∀ (i : Nat) (x : Value), (vs ++ [u])[i]? = some x → (i < vs.length ∧ vs[i]? = some x) ∨ (i = vs.length ∧ x = u) := by
      intro i x hx
      by_cases hi : i < vs.length
      · rw [List.getElem?_append_left hi] at hx; exact .inl ⟨hi, hx⟩
      · rw [List.getElem?_append_right (by omega)] at hx
        rcases Nat.eq_zero_or_pos (i - vs.length) with e | e
        · rw [e] at hx; simp at hx; exact .inr ⟨by omega, hx.symm⟩
        · rw [List.getElem?_eq_none (by simp; omega)] at hx; simp at hx
    rcases key i x hx with ⟨h1, h2⟩ | ⟨h1, rfl⟩
    · rcases key j y hy with ⟨h3, h4⟩ | ⟨h3, rfl⟩
      · exact h.2.2 i j x y g hij h2 h4 hg
      · intro h5
        have := hB i x g h2 hg
        have := hu2 g h5
        omega
    · rcases key j y hy with ⟨h3, h4⟩ | ⟨h3, rfl⟩
      · intro h5
        have := hB j y g h4 h5
        have := hu2 g hg
        omega
      · omega
theorem Rows2.lt {w : World} {base : Nat} {vs : List Value} {xss : List (List Int)} (h : Rows2 w base vs xss) : ∀ (i : Nat) (v : Value) (g : Nat), vs[i]? = some v → v.ownBlock = some g → base ≤ g ∧ g < w.heap.size := by
  intro i v g hv hg
  have hi : i < xss.length := by rw [← h.1]; exact (List.getElem?_eq_some_iff.1 hv).1
  exact (h.2.1 i v _ hv (List.getElem?_eq_getElem hi)).lt g hg
/-- a row at its place, where there was none -/
theorem Rows2.set {w : World} {base B : Nat} {vs : List Value} {xss : List (List Int)} {u : Value} {xs : List Int} {k : Nat} (h : Rows2 w base vs xss) (hu : OwnI w base u xs) (hB : ∀ (i : Nat) (v : Value) (g : Nat), vs[i]? = some v → v.ownBlock = some g → g < B) (hu2 : ∀ g, u.ownBlock = some g → B ≤ g) : Rows2 w base (vs.set k u) (xss.set k xs) := by
  refine ⟨by simp [h.1], fun i x ys hx hy => ?_, fun i j x y g hij hx hy hg => ?_⟩
  · rw [List.getElem?_set] at hx hy
    by_cases hk : k = i
    · rw [if_pos hk] at hx hy
      split at hx
      · split at hy
        · simp at hx hy; subst hx hy; exact hu
        · simp at hy
      · simp at hx
    · rw [if_neg hk] at hx hy
      exact h.2.1 i x ys hx hy
  · have key : ∀ (i : Nat) (x : Value), (vs.set k u)[i]? = some x → (i ≠ k ∧ vs[i]? = some x) ∨ (i = k ∧ x = u) := by
      intro i x hx
      rw [List.getElem?_set] at hx
      by_cases hk : k = i
      · rw [if_pos hk] at hx
        split at hx
        · simp at hx; exact .inr ⟨hk.symm, hx.symm⟩
        · simp at hx
      · rw [if_neg hk] at hx; exact .inl ⟨Ne.symm hk, hx⟩
    rcases key i x hx with ⟨h1, h2⟩ | ⟨h1, rfl⟩
    · rcases key j y hy with ⟨h3, h4⟩ | ⟨h3, rfl⟩
      · exact h.2.2 i j x y g hij h2 h4 hg
      · intro h5
        have := hB i x g h2 hg
        have := hu2 g h5
        omega
    · rcases key j y hy with ⟨h3, h4⟩ | ⟨h3, rfl⟩
      · intro h5
        have := hB j y g h4 h5
        have := hu2 g hg
        omega
      · omega
end Go.Proofs.Ytceobhmbnkheiaa
namespace Go.Proofs.Ytceobhmbnkheiaa
open Go.RowKit

theorem run_append_of_nil {P : Program} (w : World) (base : Nat) (t ty e : TypeId) (i : TypeInfo) (size : Nat) (ht : P.underlying t = some (.slice e)) (hi : P.info? e = some i)
    (v : Value) (n : Nat) (xs : List Value) (hown : w.ownsRow base e size v n xs) (c : Nat) : (Builtin.append_ #[t, t] ty #[v, .slice none 0 c]).run P w = .ok v w := by
  rcases hown.2 with ⟨rfl, rfl⟩ | ⟨g, cap, cur, rfl, _, _, hnc, _⟩
  · simp [Builtin.append_, run_underlying ht, sizeOf, typeInfo, hi, Builtin.lenOf, Builtin.firstCells]
  · simp [Builtin.append_, run_underlying ht, sizeOf, typeInfo, hi, Builtin.lenOf, Builtin.firstCells, hnc, storeCells]

/-- an element type E of a slice type T: its fields are one cell each -/
structure Flat (α : Type) where
  T : Nat
  E : Nat
  z : Value
  size : Nat
  bytes : Nat
  enc : α → List Value
  und : Try.prog.underlying T = some (.slice E)
  inf : (Try.prog.info? E).map (fun i => (i.zero, i.size, i.bytes)) = some (some z, size, bytes)
  zsz : z.cells.size = size
  pos : 0 < size
  few : bytes ≤ 4096
  len : ∀ x, (enc x).length = size
  one : ∀ x u, u ∈ enc x → u.oneCell' = true
namespace Flat
variable {α : Type}
def encs (F : Flat α) (xs : List α) : List Value := xs.flatMap F.enc
theorem encs_nil (F : Flat α) : F.encs [] = [] := rfl
theorem encs_cons (F : Flat α) (x : α) (xs : List α) : F.encs (x :: xs) = F.enc x ++ F.encs xs := rfl
theorem encs_append (F : Flat α) (xs ys : List α) : F.encs (xs ++ ys) = F.encs xs ++ F.encs ys := by simp [encs]
theorem encs_length (F : Flat α) : ∀ xs : List α, (F.encs xs).length = xs.length * F.size
  | [] => by simp [encs]
  | x :: xs => by rw [encs_cons, List.length_append, F.len, encs_length F xs, List.length_cons]; rw [Nat.add_mul]; omega
theorem encs_one (F : Flat α) {xs : List α} {u : Value} (h : u ∈ F.encs xs) : u.oneCell' = true := by
  unfold encs at h
  rw [List.mem_flatMap] at h
  obtain ⟨x, _, hx⟩ := h
  exact F.one x u hx
theorem encs_get (F : Flat α) : ∀ {xs : List α} {i j : Nat} (hi : i < xs.length), j < F.size → (F.encs xs)[i * F.size + j]? = (F.enc xs[i])[j]?
  | x :: xs, 0, j, _, hj => by
    rw [encs_cons, Nat.zero_mul, Nat.zero_add, List.getElem?_append_left (by rw [F.len]; exact hj)]; rfl
  | x :: xs, i + 1, j, hi, hj => by
    have h1 : (i + 1) * F.size + j = F.size + (i * F.size + j) := by rw [Nat.add_mul]; omega
    rw [encs_cons, List.getElem?_append_right (by rw [F.len]; omega), h1, F.len, Nat.add_sub_cancel_left]
    exact encs_get F (by simpa using hi) hj
/-- a slice that reads so -/
def Sl (F : Flat α) (w : World) (v : Value) (xs : List α) : Prop :=
  ∃ ad c, v = .slice ad xs.length c ∧ xs.length ≤ c ∧ c ≤ maxLen ∧ Rd w ad (F.encs xs)
def Own (F : Flat α) (w : World) (base : Nat) (v : Value) (xs : List α) : Prop := w.ownsRow base F.E F.size v xs.length (F.encs xs)
variable {F : Flat α}
theorem Sl.below {w w' : World} {v : Value} {xs : List α} (h : F.Sl w v xs) (hb : Below w.heap.size w w') : F.Sl w' v xs := by
  obtain ⟨ad, c, h1, h2, h3, h4⟩ := h
  exact ⟨ad, c, h1, h2, h3, h4.below hb⟩
theorem Sl.nil (w : World) : F.Sl w (.slice none 0 0) [] := ⟨none, 0, rfl, Nat.le_refl _, by simp [maxLen], Rd.nil _ _⟩
theorem Own.sl {w : World} {base : Nat} {v : Value} {xs : List α} (h : F.Own w base v xs) : F.Sl w v xs := by
  obtain ⟨ad, c, h1, h2, h3, h4⟩ := ownsRow_rd h
  exact ⟨ad, c, h1, h2, h3, h4⟩
theorem Own.below {w w' : World} {base : Nat} {v : Value} {xs : List α} (h : F.Own w base v xs) (hb : Below w.heap.size w w') : F.Own w' base v xs := ownsRow_below h hb
theorem Own.lower {w : World} {base base' : Nat} {v : Value} {xs : List α} (h : F.Own w base v xs) (hb : base' ≤ base) : F.Own w base' v xs := ownsRow_lower h hb
theorem Own.nil (w : World) (base : Nat) : F.Own w base (.slice none 0 0) [] := World.ownsRow_nil _ _ _ _
theorem Own.empty (w : World) {base : Nat} (hb : base ≤ w.heap.size) : F.Own (w.alloc (.cells #[] F.E)) base (.slice (some ⟨w.heap.size, 0, none⟩) 0 0) [] :=
  World.ownsRow_lit (base := base) (e := F.E) (size := F.size) w #[] 0 hb (by simp [maxLen]) (by simp)
theorem Own.grown {w w' : World} {base : Nat} {v : Value} {xs : List α} (h : F.Own w base v xs) (hg : w.grownBy w' v.ownBlock) (hb : base ≤ w.heap.size) : Below base w w' :=
  (Below.refl _ _).grown hg hb (fun k hk => (h.lt k hk).1)
theorem Own.forms {w : World} {base : Nat} {v : Value} {xs : List α} (h : F.Own w base v xs) :
    (v = .slice none 0 0 ∧ xs = []) ∨ ∃ g c, v = .slice (some ⟨g, 0, none⟩) xs.length c ∧ base ≤ g ∧ g < w.heap.size ∧ xs.length ≤ c ∧ c ≤ maxLen := by
  rcases h.2 with ⟨h1, h2⟩ | ⟨g, c, cur, h1, h2, h3, h4, h5, _⟩
  · exact .inl ⟨h1, List.length_eq_zero_iff.1 h2⟩
  · exact .inr ⟨g, c, h1, h2, (Array.getElem?_eq_some_iff.1 h3).1, h4, h5⟩
theorem Own.len_of {w : World} {base g n c : Nat} {xs : List α} (h : F.Own w base (.slice (some ⟨g, 0, none⟩) n c) xs) : n = xs.length := by
  rcases h.2 with ⟨h1, _⟩ | ⟨g', c', cur, h1, _⟩
  · simp at h1
  · simp at h1; exact h1.2.1
theorem Own.cell {w : World} {base g n c : Nat} {xs : List α} (h : F.Own w base (.slice (some ⟨g, 0, none⟩) n c) xs) {i j : Nat} (hi : i < xs.length) (hj : j < F.size) :
    w.cell? ⟨g, i * F.size + j, none⟩ = (F.enc xs[i])[j]? := by
  obtain rfl := h.len_of
  have h1 : i * F.size + j < xs.length * F.size := by
    have : (i + 1) * F.size ≤ xs.length * F.size := Nat.mul_le_mul_right _ hi
    rw [Nat.add_mul] at this; omega
  rw [World.ownsRow.cellAt h _ h1, F.encs_get hi hj]
theorem Own.free {w : World} {base g n c : Nat} {xs : List α} (h : F.Own w base (.slice (some ⟨g, 0, none⟩) n c) xs) (i : Nat) : w.frozen? ⟨g, i, none⟩ = false := by
  obtain rfl := h.len_of
  exact World.ownsRow.frozenAt h i
theorem Sl.at_ {w : World} {ad : Option Addr} {n c : Nat} {xs : List α} (h : F.Sl w (.slice ad n c) xs) {i : Nat} (hi : i < xs.length) :
    ∃ b off, ad = some ⟨b, off, none⟩ ∧ b < w.heap.size ∧ ∀ j u, (F.enc xs[i])[j]? = some u → w.cell? ⟨b, off + (i * F.size + j), none⟩ = some u := by
  obtain ⟨ad', c', he, _, _, h4⟩ := h
  simp at he
  obtain ⟨rfl, _, _⟩ := he
  have hl : i * F.size < (F.encs xs).length := by
    rw [F.encs_length]
    exact (Nat.mul_lt_mul_right F.pos).2 hi
  obtain ⟨b, off, h5, h6, h7⟩ := h4.all hl
  refine ⟨b, off, h5, h6, fun j u hu => h7 _ u ?_⟩
  have hj : j < F.size := by rw [← F.len xs[i]]; exact (List.getElem?_eq_some_iff.1 hu).1
  rw [F.encs_get hi hj]; exact hu
theorem Sl.len_of {w : World} {ad : Option Addr} {n c : Nat} {xs : List α} (h : F.Sl w (.slice ad n c) xs) : n = xs.length ∧ n ≤ c ∧ c ≤ maxLen := by
  obtain ⟨ad', c', he, h2, h3, _⟩ := h
  simp at he
  obtain ⟨_, rfl, rfl⟩ := he
  exact ⟨rfl, h2, h3⟩
/-- append of any slice on an owned one -/
theorem append {ops : Array Oper} {rest : List Oper} {o : Oper} {a : Act} {Q : Exit → Act → World → Prop} (F : Flat α) (w : World) (s x : Operand) (hg : o.guard = none)
    (ho : o.op = .call { callee := .builtin .append, args := #[s, x], argTypes := #[F.T, F.T] })
    {base : Nat} {v : Value} {xs ys : List α} (hs : a.eval s = v) (hown : F.Own w base v xs) {ad : Option Addr} {c : Nat} (hx : a.eval x = .slice ad ys.length c) (hr : Rd w ad (F.encs ys))
    (hlen : xs.length + ys.length ≤ 16777216) (hbase : base ≤ w.heap.size)
    (h : ∀ v' w', F.Own w' base v' (xs ++ ys) → w.grownBy w' v.ownBlock → Below base w w' → wpList Try.prog ops Q rest (a.put o.dst v') w') : wpList Try.prog ops Q (o :: rest) a w := by
  obtain ⟨i0, hi, hz0, hz1, hz2⟩ := info_parts F.inf
  cases ad with
  | none =>
    have h0 : ys = [] := by
      cases ys with
      | nil => rfl
      | cons y ys =>
        have hl : 0 < (F.encs (y :: ys)).length := by rw [F.encs_length]; exact Nat.mul_pos (by simp) F.pos
        obtain ⟨b, off, h1, _⟩ := hr.all hl
        simp at h1
    subst h0
    refine wpList_plain hg fun K hK => ?_
    have hrun := run_append_of_nil (P := Try.prog) w base F.T o.type F.E i0 F.size F.und hi v xs.length (F.encs xs) hown c
    unfold Oper.wp execOp
    simp only [List.length_nil] at hx
    simp only [ho, resolve, invoke, builtin, Sem.run_bind, Sem.run_pure, Result.andThen_ok, List.map_toArray, List.map_cons, List.map_nil, hs, hx, hrun]
    exact hK _ _ (h v w (by simpa using hown) (World.grownBy.refl w _) (Below.refl _ _))
  | some ad =>
    refine wpList_append_own _ hg s x _ ho base F.E i0 F.z F.size F.bytes F.und hi hz0 hz1 hz2 F.zsz F.pos v xs.length (F.encs xs) hs hown ad ys.length c (F.encs ys) hx (F.encs_length ys) ?_ (fun u hu => F.encs_one hu) (by simp [maxLen]; omega) ?_ hbase (fun v' w' h1 h2 _ => ?_)
    · intro j u hu
      obtain ⟨b, off, he, _, hc⟩ := hr j u hu
      simp at he
      subst he
      unfold Addr.add
      by_cases hj : j = 0
      · subst hj; simpa using hc
      · simpa [hj] using hc
    · have := F.few
      calc (xs.length + ys.length) * F.bytes ≤ 16777216 * 4096 := Nat.mul_le_mul hlen this
        _ ≤ 140737488355328 := by decide
    · refine h v' w' ?_ h2 ((Below.refl _ _).grown h2 hbase (fun k hk => (hown.lt k hk).1))
      unfold Own
      rw [encs_append, List.length_append]
      exact h1
/-- make -/
theorem make {ops : Array Oper} {rest : List Oper} {o : Oper} {a : Act} {Q : Exit → Act → World → Prop} (F : Flat α) (w : World) (l c : Operand) (z : α) (hz : F.z.cells.toList = F.enc z) (hg : o.guard = none) (hop : o.op = Op.makeSlice F.T l c)
    (n : Nat) {kl kc : IntKind} {L C : Int} (hl : a.eval l = .int kl L) (hc : a.eval c = .int kc C) (hL : L = (n : Int)) (hC : C = (n : Int)) (hn : n ≤ 16777216)
    (hm : (madeCells F.z.cells (n * F.size)).toList = F.encs (List.replicate n z))
    (hK : ∀ w', F.Own w' w.heap.size (.slice (some ⟨w.heap.size, 0, none⟩) n n) (List.replicate n z) → Below w.heap.size w w' → w.heap.size < w'.heap.size → wpList Try.prog ops Q rest (a.put o.dst (.slice (some ⟨w.heap.size, 0, none⟩) n n)) w') :
    wpList Try.prog ops Q (o :: rest) a w := by
  obtain ⟨i0, hi, hz0, hz1, hz2⟩ := info_parts F.inf
  refine wpList_make_full w hg l c _ hop w.heap.size F.E i0 F.z F.size F.und hi hz0 hz1 kl kc L C n hl hc hL hC ?_ (by simp [maxLen]; omega) (Nat.le_refl _) (fun w' h1 h2 => ?_)
  · rw [hz2]
    have := F.few
    calc F.bytes * n ≤ 4096 * 16777216 := Nat.mul_le_mul this hn
      _ ≤ 281474976710656 := by decide
  · rw [hm] at h1
    refine hK w' (by unfold Own; rw [List.length_replicate]; exact h1) ((Below.refl _ _).grown h2 (Nat.le_refl _) (by simp)) (h1.lt w.heap.size rfl).2
end Flat
/-- a new block's cells -/
theorem rd_new (w : World) (cs : Array Value) (t : Nat) : Rd (w.alloc (.cells cs t)) (some ⟨w.heap.size, 0, none⟩) cs.toList := by
  intro j u hu
  refine ⟨w.heap.size, 0, rfl, by simp, ?_⟩
  simp at hu
  simp [go_sem, hu]
/-- int64 -/
def FI : Flat Int := ⟨32, 2, .int .i64 0, 1, 8, fun x => [.int .i64 x], Try.underlying32, by kernel_rfl, rfl, by decide, by decide, fun _ => rfl, by intro x u h; simp at h; subst h; rfl⟩
theorem FI_encs (xs : List Int) : FI.encs xs = i64s xs := by
  induction xs with
  | nil => rfl
  | cons x xs ih => rw [Flat.encs_cons, ih]; rfl
theorem FI_own {w : World} {base : Nat} {v : Value} {xs : List Int} : FI.Own w base v xs = OwnI w base v xs := by
  unfold Flat.Own OwnI; rw [FI_encs]; rfl
theorem SlI.at_ {w : World} {ad : Option Addr} {n c : Nat} {xs : List Int} (h : SlI w (.slice ad n c) xs) {k : Nat} (hk : k < xs.length) :
    ∃ b off, ad = some ⟨b, off, none⟩ ∧ b < w.heap.size ∧ w.cell? ⟨b, off + k, none⟩ = some (.int .i64 xs[k]) := by
  obtain ⟨ad', c', he, _, _, h4⟩ := h
  simp at he
  obtain ⟨rfl, _, _⟩ := he
  exact h4 k _ (i64s_get hk)
/-- append(v, u...) on an owned []int64 -/
theorem append_SlI {ops : Array Oper} {rest : List Oper} {o : Oper} {a : Act} {Q : Exit → Act → World → Prop} (w : World) (s x : Operand) (hg : o.guard = none)
    (ho : o.op = .call { callee := .builtin .append, args := #[s, x], argTypes := #[32, 32] })
    {base : Nat} {v u : Value} {xs ys : List Int} (hs : a.eval s = v) (hown : OwnI w base v xs) (hx : a.eval x = u) (hu : SlI w u ys)
    (hlen : xs.length + ys.length ≤ 16777216) (hbase : base ≤ w.heap.size)
    (h : ∀ v' w', OwnI w' base v' (xs ++ ys) → w.grownBy w' v.ownBlock → Below base w w' → wpList Try.prog ops Q rest (a.put o.dst v') w') : wpList Try.prog ops Q (o :: rest) a w := by
  obtain ⟨ad, c, rfl, _, _, hr⟩ := hu
  rw [← FI_encs] at hr
  rw [← FI_own] at hown
  exact Flat.append FI w s x hg ho hs hown hx hr hlen hbase (fun v' w' h1 h2 h3 => h v' w' (by rw [← FI_own]; exact h1) h2 h3)

def FB : Flat Bool := ⟨44, 4, .bool false, 1, 1, fun x => [.bool x], Try.underlying44, by kernel_rfl, rfl, by decide, by decide, fun _ => rfl, by intro x u h; simp at h; subst h; rfl⟩
theorem madeCells_one' {v : Value} (hv : v.cells = #[v]) (n : Nat) : (madeCells v.cells (n * 1)).toList = List.replicate n v := by
  rw [hv, Nat.mul_one, toList_madeCells_one]
theorem FB_encs (xs : List Bool) : FB.encs xs = xs.map .bool := by
  induction xs with
  | nil => rfl
  | cons x xs ih => rw [Flat.encs_cons, ih]; rfl
theorem FB_made (n : Nat) : (madeCells FB.z.cells (n * FB.size)).toList = FB.encs (List.replicate n false) := by
  rw [FB_encs, List.map_replicate]
  exact madeCells_one' (v := .bool false) rfl n
end Go.Proofs.Ytceobhmbnkheiaa
namespace Go.Proofs.Ytceobhmbnkheiaa
open Go.RowKit

set_option maxHeartbeats 400000 in
theorem inRange_any (x a b : Int) (w : World) :
    Calls Try.prog 39 #[.int .i64 x, .int .i64 a, .int .i64 b] w fun e w' => e = .returned (.bool (inR x a b)) ∧ w = w' := by
  go_enter Try.func39, Try.ntmps39
  go_wp2
  all_goals go_ret
  · exact ⟨rb (inR_of_le ‹_›).symm, rfl⟩
  · exact ⟨rb (inR_of_lt ‹_›).symm, rfl⟩
set_option maxHeartbeats 400000 in
theorem l00In_any (x a b : Int) (w : World) :
    Calls Try.prog 40 #[.int .i64 x, .int .i64 a, .int .i64 b] w fun e w' => e = .returned (.bool (inR x a b)) ∧ w = w' := by
  go_enter Try.func40, Try.ntmps40
  go_wp2
  all_goals go_ret
  · exact ⟨rb (inR_of_le ‹_›).symm, rfl⟩
  · exact ⟨rb (inR_of_lt ‹_›).symm, rfl⟩

theorem take_eq_succ {xs ys : List Int} {k : Nat} (ht : xs.take k = ys.take k) (hx : k < xs.length) (hy : k < ys.length) (h : xs[k] = ys[k]) : xs.take (k+1) = ys.take (k+1) := by
  rw [List.take_succ_eq_append_getElem hx, List.take_succ_eq_append_getElem hy, ht, h]
theorem ne_of_get {xs ys : List Int} {k : Nat} (hx : k < xs.length) (hy : k < ys.length) (h : ¬ xs[k] = ys[k]) : ¬ xs = ys := by
  intro e; subst e; exact h rfl

theorem fill_step {xs : List Int} {k : Nat} (h : k < xs.length) : (xs.take k ++ List.replicate (xs.length - k) 0).set k xs[k] = xs.take (k+1) ++ List.replicate (xs.length - (k+1)) 0 := by
  rw [List.set_append_right _ _ (by simp; omega), List.take_succ_eq_append_getElem h, List.append_assoc]
  congr 1
  have e : xs.length - k = (xs.length - (k+1)) + 1 := by omega
  have e2 : k - (xs.take k).length = 0 := by simp; omega
  rw [e, e2, List.replicate_succ, List.set_cons_zero]; rfl
theorem grownBy_setCell {w w' : World} {g : Nat} (h : w.grownBy w' (some g)) (i : Nat) (u : Value) : w.grownBy (w'.setCell ⟨g, i, none⟩ u) (some g) :=
  ⟨h.os, h.tape, h.output, by simpa using h.size, fun k hk hne => by
    rw [heap_setCell_other w' ⟨g, i, none⟩ k u (fun e => hne (by simp [e])), h.block k hk hne]⟩
/-- k, k+1 .. -/
def ramp (k : Int) (n : Nat) : List Int := (List.range n).map fun (i : Nat) => k + (i : Int)
theorem ramp_length (k : Int) (n : Nat) : (ramp k n).length = n := by simp [ramp]
theorem ramp_get (k : Int) (n : Nat) {i : Nat} (h : i < n) : (ramp k n)[i]'(by simp [ramp]; exact h) = k + i := by simp [ramp]
theorem mark_step {xs : List Int} {m : Int} {k : Nat} (h : k < xs.length) : (ramp m k ++ xs.drop k).set k (m + k) = ramp m (k+1) ++ xs.drop (k+1) := by
  rw [List.set_append_right _ _ (by simp [ramp])]
  have e2 : k - (ramp m k).length = 0 := by simp [ramp]
  rw [e2, List.drop_eq_getElem_cons h, List.set_cons_zero]
  simp [ramp, List.range_succ]
end Go.Proofs.Ytceobhmbnkheiaa
namespace Go.Proofs.Ytceobhmbnkheiaa
open Go.RowKit

def nextSeed (x : Int) : Int := (1103515245 * x + 12345) % 2147483648
def seedAt (x : Int) : Nat → Int
  | 0 => x
  | n + 1 => nextSeed (seedAt x n)
def drawsL (x total : Int) (n : Nat) : List Int := (List.range n).map fun (i : Nat) => seedAt x (i + 1) / 65536 % total
theorem drawsL_succ (x total : Int) (n : Nat) : drawsL x total (n + 1) = drawsL x total n ++ [seedAt x (n + 1) / 65536 % total] := by
  simp [drawsL, List.range_succ]
theorem drawsL_length (x total : Int) (n : Nat) : (drawsL x total n).length = n := by simp [drawsL]
theorem nextSeed_bd {x : Int} : 0 ≤ nextSeed x ∧ nextSeed x < 2147483648 := by unfold nextSeed; omega
theorem seedAt_bd {x : Int} (h0 : 0 ≤ x) (h1 : x < 2147483648) (n : Nat) : 0 ≤ seedAt x n ∧ seedAt x n < 2147483648 := by
  cases n with
  | zero => exact ⟨h0, h1⟩
  | succ n => exact nextSeed_bd

def drawsOfB (s t c : Int) : Bool := inR s 0 1000000000 && (inR t 1 60 && inR c 0 64)
def drawsOfR (s t c : Int) : List Int × Int := if drawsOfB s t c = true then (drawsL s t c.toNat, 0) else ([], 2)

end Go.Proofs.Ytceobhmbnkheiaa
namespace Go.Proofs.Ytceobhmbnkheiaa
open Go.RowKit

def wordOf (k : Int) : ByteArray :=
  if k = 1 then ⟨#[103, 105, 118, 101]⟩ else
  if k = 2 then ⟨#[119, 111, 114, 107]⟩ else
  if k = 3 then ⟨#[100, 101, 108, 105, 118, 101, 114]⟩ else
  if k = 4 then ⟨#[99, 111, 112, 121]⟩ else
  if k = 5 then ⟨#[100, 114, 111, 112]⟩ else
  if k = 6 then ⟨#[115, 121, 110, 99]⟩ else
  if k = 7 then ⟨#[111, 117, 116]⟩ else
  if k = 8 then ⟨#[99, 114, 97, 115, 104]⟩ else
  if k = 9 then ⟨#[116, 101, 97, 114]⟩ else
  if k = 10 then ⟨#[113, 117, 105, 116]⟩ else
  ⟨#[]⟩
def toldOf (k : Int) : Bool := decide (k = 1) || decide (k = 2) || decide (k = 3) || decide (k = 4) || decide (k = 5) || decide (k = 10)
def deedOk (k a : Int) : Bool := inR k 1 10 && (inR a 0 999 && (toldOf k || decide (a = 0)))
theorem kind_cases {k : Int} (h : inR k 1 10 = true) : k = 1 ∨ k = 2 ∨ k = 3 ∨ k = 4 ∨ k = 5 ∨ k = 6 ∨ k = 7 ∨ k = 8 ∨ k = 9 ∨ k = 10 := by
  have := inR_iff.1 h; omega
theorem wordOf_out {k : Int} (h : inR k 1 10 = false) : wordOf k = ⟨#[]⟩ ∧ toldOf k = false := by
  have := inR_false.1 h
  constructor
  · unfold wordOf
    repeat (rw [if_neg (by omega)])
  · simp [toldOf]; omega

theorem wordOf_ne {k : Int} (h : inR k 1 10 = true) : (wordOf k).toList.isEmpty = false ∧ (!(wordOf k).toList.isEmpty) = true := by
  rcases kind_cases h with rfl | rfl | rfl | rfl | rfl | rfl | rfl | rfl | rfl | rfl <;> simp [wordOf, ByteArray.toList_eq]
/-- the tables that the reference makes anew at each call -/
def TabS (w : World) (b : Nat) : Prop := ∀ j : Nat, 1 ≤ j → j ≤ 10 → w.cell? ⟨b, j, none⟩ = some (.string (wordOf j))
def TabB (w : World) (b : Nat) : Prop := ∀ j : Nat, 1 ≤ j → j ≤ 10 → w.cell? ⟨b, j, none⟩ = some (.bool (toldOf j))
theorem nat_cases {j : Nat} (h1 : 1 ≤ j) (h2 : j ≤ 10) : j = 1 ∨ j = 2 ∨ j = 3 ∨ j = 4 ∨ j = 5 ∨ j = 6 ∨ j = 7 ∨ j = 8 ∨ j = 9 ∨ j = 10 := by omega
end Go.Proofs.Ytceobhmbnkheiaa
namespace Go.Proofs.Ytceobhmbnkheiaa
open Go.RowKit
theorem and_tt {a b : Bool} (ha : a = true) (hb : b = true) : (a && b) = true := by rw [ha, hb]; rfl
theorem fLaid : laidOutB Try.checked.prog = true := by kernel_rfl
theorem fMaps : mapsRowed Try.checked.prog = true := by kernel_rfl
theorem fKeys : (true == Try.checked.prog.plainKeys) = true := by kernel_rfl
theorem fHeard : Try.checked.prog.stopsHeard = true := by kernel_rfl
theorem fEnter : Try.checked.prog.mayEnter = true := by kernel_rfl
theorem fFinal : (false == Try.checked.prog.liftsFinal) = true := by kernel_rfl
theorem fMake : (Try.checked.prog.make == some Make.cut) = true := by kernel_rfl
end Go.Proofs.Ytceobhmbnkheiaa
