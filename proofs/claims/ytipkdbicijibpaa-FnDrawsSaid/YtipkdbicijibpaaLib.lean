/-
  Plain words for the walks of this seat: what a slice reads as, what is owned, how both are carried on over later worlds.
-/
import Derived.Test.YtipkdbicijibpaaRows
import Derived.WalkKit
import Derived.WalkSpells
import Derived.WalkLawsBesides
import Derived.Lib.Hide
import Derived.Deep.QuietTactic
import Derived.BigQuiet
namespace Go.Proofs.Ytipkdbicijibpaa
open Go.RowKit

theorem rb {a b : Bool} (h : a = b) : Ending.returned (.bool a) = .returned (.bool b) := by rw [h]
theorem ri {k : IntKind} {a b : Int} (h : a = b) : Ending.returned (.int k a) = .returned (.int k b) := by rw [h]
theorem vi {k : IntKind} {a b : Int} (h : a = b) : Value.int k a = .int k b := by rw [h]
theorem vb {a b : Bool} (h : a = b) : Value.bool a = .bool b := by rw [h]

/-- 'a, b' at most 'x' -/
def inR (x a b : Int) : Bool := decide (a ≤ x) && decide (x ≤ b)
theorem inR_of_le {x a b : Int} (h : a ≤ x) : inR x a b = decide (x ≤ b) := by simp [inR, h]
theorem inR_of_lt {x a b : Int} (h : x < a) : inR x a b = false := by simp [inR]; omega
theorem inR_iff {x a b : Int} : inR x a b = true ↔ a ≤ x ∧ x ≤ b := by simp [inR]
theorem inR_false {x a b : Int} : inR x a b = false ↔ (x < a ∨ b < x) := by simp [inR]; omega

def i64s (xs : List Int) : List Value := xs.map (.int .i64)
theorem i64s_length (xs : List Int) : (i64s xs).length = xs.length := by simp [i64s]
theorem i64s_get {xs : List Int} {j : Nat} (h : j < xs.length) : (i64s xs)[j]? = some (.int .i64 xs[j]) := by simp [i64s, h]
theorem i64s_append (xs ys : List Int) : i64s (xs ++ ys) = i64s xs ++ i64s ys := by simp [i64s]

/-- the cells from an address on -/
def Rd (w : World) (ad : Option Addr) (ys : List Value) : Prop :=
  ∀ j u, ys[j]? = some u → ∃ b off, ad = some ⟨b, off, none⟩ ∧ b < w.heap.size ∧ w.cell? ⟨b, off + j, none⟩ = some u
theorem Rd.nil (w : World) (ad : Option Addr) : Rd w ad [] := by intro j u h; simp at h
theorem Rd.all {w : World} {ad : Option Addr} {ys : List Value} (h : Rd w ad ys) {k : Nat} (hk : k < ys.length) :
    ∃ b off, ad = some ⟨b, off, none⟩ ∧ b < w.heap.size ∧ ∀ j u, ys[j]? = some u → w.cell? ⟨b, off + j, none⟩ = some u := by
  obtain ⟨b, off, h1, h2, _⟩ := h k ys[k] (by simp [hk])
  refine ⟨b, off, h1, h2, fun j u hj => ?_⟩
  obtain ⟨b', off', h1', _, h3⟩ := h j u hj
  rw [h1] at h1'; simp at h1'; obtain ⟨rfl, rfl⟩ := h1'; exact h3
theorem Rd.below {w w' : World} {ad : Option Addr} {ys : List Value} (h : Rd w ad ys) (hb : Below w.heap.size w w') : Rd w' ad ys := by
  intro j u hu
  obtain ⟨b, off, h1, h2, h3⟩ := h j u hu
  exact ⟨b, off, h1, Nat.lt_of_lt_of_le h2 hb.size, by rw [hb.cell (p := ⟨b, off + j, none⟩) h2]; exact h3⟩
theorem Rd.one {w : World} {ad : Option Addr} {ys : List Value} (h : Rd w ad ys) {k : Nat} {u : Value} (hk : ys[k]? = some u) :
    ∃ b off, ad = some ⟨b, off, none⟩ ∧ w.cell? ⟨b, off + k, none⟩ = some u := by
  obtain ⟨b, off, h1, _, h3⟩ := h k u hk
  exact ⟨b, off, h1, h3⟩

/-- a slice of int64 that reads so -/
def SlI (w : World) (v : Value) (xs : List Int) : Prop :=
  ∃ ad c, v = .slice ad xs.length c ∧ xs.length ≤ c ∧ c ≤ maxLen ∧ Rd w ad (i64s xs)
theorem SlI.below {w w' : World} {v : Value} {xs : List Int} (h : SlI w v xs) (hb : Below w.heap.size w w') : SlI w' v xs := by
  obtain ⟨ad, c, h1, h2, h3, h4⟩ := h
  exact ⟨ad, c, h1, h2, h3, h4.below hb⟩
/-- a slice of slices of int64 -/
def SlII (w : World) (v : Value) (xss : List (List Int)) : Prop :=
  ∃ ad c vs, v = .slice ad xss.length c ∧ xss.length ≤ c ∧ c ≤ maxLen ∧ vs.length = xss.length ∧ Rd w ad vs ∧
    ∀ (i : Nat) (hi : i < xss.length) u, vs[i]? = some u → SlI w u xss[i]
theorem SlII.below {w w' : World} {v : Value} {xss : List (List Int)} (h : SlII w v xss) (hb : Below w.heap.size w w') : SlII w' v xss := by
  obtain ⟨ad, c, vs, h1, h2, h3, h4, h5, h6⟩ := h
  exact ⟨ad, c, vs, h1, h2, h3, h4, h5.below hb, fun i hi u hu => (h6 i hi u hu).below hb⟩

theorem below_of {a b c : World} (h : Below a.heap.size a b) (k : Below b.heap.size b c) : Below a.heap.size a c :=
  h.trans (k.mono h.size)
theorem below_drewN {B : Nat} {a w : World} (h : Below B a w) (n : Nat) : Below B a (w.drewN n) := ⟨h.os, h.tape, h.output, h.size, h.block⟩
theorem ownsRow_below {w w' : World} {base e size n : Nat} {v : Value} {xs : List Value} (h : w.ownsRow base e size v n xs) (hb : Below w.heap.size w w') : w'.ownsRow base e size v n xs := by
  refine ⟨h.1, ?_⟩
  rcases h.2 with h2 | ⟨g, cap, cur, h1, h2, h3, h4⟩
  · exact .inl h2
  · refine .inr ⟨g, cap, cur, h1, h2, ?_, h4⟩
    rw [hb.block g (Array.getElem?_eq_some_iff.1 h3).1]; exact h3
theorem ownsRow_lower {w : World} {base base' e size n : Nat} {v : Value} {xs : List Value} (h : w.ownsRow base e size v n xs) (hb : base' ≤ base) : w.ownsRow base' e size v n xs := by
  refine ⟨h.1, ?_⟩
  rcases h.2 with h2 | ⟨g, cap, cur, h1, h2, h3, h4⟩
  · exact .inl h2
  · exact .inr ⟨g, cap, cur, h1, Nat.le_trans hb h2, h3, h4⟩
theorem ownsRow_rd {w : World} {base e size n : Nat} {v : Value} {xs : List Value} (h : w.ownsRow base e size v n xs) :
    ∃ ad c, v = .slice ad n c ∧ n ≤ c ∧ c ≤ maxLen ∧ Rd w ad xs := by
  rcases h.2 with ⟨h2, h3⟩ | ⟨g, cap, cur, h1, h2, h3, h4, h5, h6, h7⟩
  · subst h3
    have : xs = [] := by have := h.1; simp at this; exact this
    subst this
    exact ⟨none, 0, h2, Nat.le_refl _, by simp [maxLen], Rd.nil _ _⟩
  · subst h1
    refine ⟨_, cap, rfl, h4, h5, fun j u hu => ⟨g, 0, rfl, (Array.getElem?_eq_some_iff.1 h3).1, ?_⟩⟩
    have hj : j < n * size := by rw [← h.1]; exact (List.getElem?_eq_some_iff.1 hu).1
    rw [Nat.zero_add, h.cellAt j hj, hu]
/-- an owned slice of int64 -/
def OwnI (w : World) (base : Nat) (v : Value) (xs : List Int) : Prop := w.ownsRow base 2 1 v xs.length (i64s xs)
theorem OwnI.sl {w : World} {base : Nat} {v : Value} {xs : List Int} (h : OwnI w base v xs) : SlI w v xs := by
  obtain ⟨ad, c, h1, h2, h3, h4⟩ := ownsRow_rd h
  exact ⟨ad, c, h1, h2, h3, h4⟩
theorem OwnI.below {w w' : World} {base : Nat} {v : Value} {xs : List Int} (h : OwnI w base v xs) (hb : Below w.heap.size w w') : OwnI w' base v xs := ownsRow_below h hb
theorem OwnI.lower {w : World} {base base' : Nat} {v : Value} {xs : List Int} (h : OwnI w base v xs) (hb : base' ≤ base) : OwnI w base' v xs := ownsRow_lower h hb
theorem OwnI.nil (w : World) (base : Nat) : OwnI w base (.slice none 0 0) [] := World.ownsRow_nil _ _ _ _
theorem SlI.nil (w : World) : SlI w (.slice none 0 0) [] := (OwnI.nil w 0).sl
theorem info2 : (Try.prog.info? 2).map (fun i => (i.zero, i.size, i.bytes)) = some (some (.int .i64 0), 1, 8) := by kernel_rfl

theorem madeCells_i64 (n : Nat) : (madeCells (Value.int .i64 0).cells (n * 1)).toList = i64s (List.replicate n 0) := by
  simp [Value.cells, toList_madeCells_one, i64s]
/-- make([]int64, n) -/
theorem make_i64 {ops : Array Oper} {rest : List Oper} {o : Oper} {a : Act} {Q : Exit → Act → World → Prop} (w : World) (l c : Operand) (hg : o.guard = none) (hop : o.op = Op.makeSlice 29 l c)
    (n : Nat) {kl kc : IntKind} {L C : Int} (hl : a.eval l = .int kl L) (hc : a.eval c = .int kc C) (hL : L = (n : Int)) (hC : C = (n : Int)) (hn : n ≤ 16777216)
    (hK : ∀ w', OwnI w' w.heap.size (.slice (some ⟨w.heap.size, 0, none⟩) n n) (List.replicate n 0) → Below w.heap.size w w' → w.heap.size < w'.heap.size → wpList Try.prog ops Q rest (a.put o.dst (.slice (some ⟨w.heap.size, 0, none⟩) n n)) w') :
    wpList Try.prog ops Q (o :: rest) a w := by
  obtain ⟨i0, hi, hz0, hz1, hz2⟩ := info_parts info2
  refine wpList_make_full w hg l c _ hop w.heap.size 2 i0 (.int .i64 0) 1 Try.underlying29 hi hz0 hz1 kl kc L C n hl hc hL hC (by rw [hz2]; omega) (by simp [maxLen]; omega) (Nat.le_refl _) (fun w' h1 h2 => ?_)
  rw [madeCells_i64] at h1
  refine hK w' (by unfold OwnI; rw [List.length_replicate]; exact h1) ((Below.refl _ _).grown h2 (Nat.le_refl _) (by simp)) ?_
  exact (h1.lt w.heap.size rfl).2
theorem OwnI.set {w : World} {base g n c : Nat} {xs : List Int} (h : OwnI w base (.slice (some ⟨g, 0, none⟩) n c) xs) (i : Nat) (x : Int) :
    OwnI (w.setCell ⟨g, i, none⟩ (.int .i64 x)) base (.slice (some ⟨g, 0, none⟩) n c) (xs.set i x) := by
  have hl : n = xs.length := by
    rcases h.2 with ⟨h1, _⟩ | ⟨g', c', cur, h1, _⟩
    · simp at h1
    · simp at h1; exact h1.2.1
  subst hl
  have := (World.ownsRow.stored (base := base) h i (.int .i64 x)).1
  unfold OwnI
  rw [List.length_set]
  simpa [i64s, List.map_set] using this
theorem OwnI.cell {w : World} {base g n c : Nat} {xs : List Int} (h : OwnI w base (.slice (some ⟨g, 0, none⟩) n c) xs) {i : Nat} (hi : i < xs.length) :
    w.cell? ⟨g, i, none⟩ = some (.int .i64 xs[i]) := by
  have hl : n = xs.length := by
    rcases h.2 with ⟨h1, _⟩ | ⟨g', c', cur, h1, _⟩
    · simp at h1
    · simp at h1; exact h1.2.1
  subst hl
  have := World.ownsRow.cellAt h i (by omega)
  rw [this]; exact i64s_get hi
theorem OwnI.free {w : World} {base g n c : Nat} {xs : List Int} (h : OwnI w base (.slice (some ⟨g, 0, none⟩) n c) xs) (i : Nat) :
    w.frozen? ⟨g, i, none⟩ = false := by
  have hl : n = xs.length := by
    rcases h.2 with ⟨h1, _⟩ | ⟨g', c', cur, h1, _⟩
    · simp at h1
    · simp at h1; exact h1.2.1
  subst hl
  exact World.ownsRow.frozenAt h i
theorem OwnI.forms {w : World} {base : Nat} {v : Value} {xs : List Int} (h : OwnI w base v xs) :
    (v = .slice none 0 0 ∧ xs = []) ∨ ∃ g c, v = .slice (some ⟨g, 0, none⟩) xs.length c ∧ base ≤ g ∧ g < w.heap.size ∧ xs.length ≤ c ∧ c ≤ maxLen := by
  rcases h.2 with ⟨h1, h2⟩ | ⟨g, c, cur, h1, h2, h3, h4, h5, _⟩
  · exact .inl ⟨h1, List.length_eq_zero_iff.1 h2⟩
  · exact .inr ⟨g, c, h1, h2, (Array.getElem?_eq_some_iff.1 h3).1, h4, h5⟩

/-- append(v, y) on an owned []int64 -/
theorem append_i64 {ops : Array Oper} {rest : List Oper} {o : Oper} {a : Act} {Q : Exit → Act → World → Prop} (w : World) (y : Int) (s x : Operand) (hg : o.guard = none)
    (ho : o.op = .call { callee := .builtin .append, args := #[s, x], argTypes := #[29, 29] })
    {base : Nat} {v : Value} {xs : List Int} (hs : a.eval s = v) (hown : OwnI w base v xs) {t : Nat} (hx : a.eval x = .slice (some ⟨w.heap.size, 0, none⟩) 1 1)
    (hlen : xs.length < 16777216) (hbase : base ≤ w.heap.size)
    (h : ∀ v' w', OwnI w' base v' (xs ++ [y]) → Below base (w.alloc (.cells #[.int .i64 y] t)) w' → w.heap.size < w'.heap.size → wpList Try.prog ops Q rest (a.put o.dst v') w') : wpList Try.prog ops Q (o :: rest) a (w.alloc (.cells #[.int .i64 y] t)) := by
  obtain ⟨i0, hi, hz0, hz1, hz2⟩ := info_parts info2
  refine wpList_append_own _ hg s x _ ho base 2 i0 (.int .i64 0) 1 8 Try.underlying29 hi hz0 hz1 hz2 rfl (by decide) v xs.length (i64s xs) hs (hown.alloc _) ⟨w.heap.size, 0, none⟩ 1 1 [.int .i64 y] hx rfl (cell_one_new _ _ _) (by simp [Value.oneCell']) (by simp [maxLen]; omega) (by omega) (by simp; omega) (fun v' w' h1 h2 _ => ?_)
  have hsz := h2.size
  simp at hsz
  refine h v' w' ?_ ((Below.refl _ _).grown h2 (by simp; omega) (fun k hk => (hown.lt k hk).1)) (by omega)
  unfold OwnI
  rw [i64s_append, List.length_append]; exact h1
theorem OwnI.empty (w : World) {base : Nat} (hb : base ≤ w.heap.size) : OwnI (w.alloc (.cells #[] 2)) base (.slice (some ⟨w.heap.size, 0, none⟩) 0 0) [] := by
  exact World.ownsRow_lit (base := base) (e := 2) (size := 1) w #[] 0 hb (by simp [maxLen]) (by simp)
theorem OwnI.grown {w w' : World} {base : Nat} {v : Value} {xs : List Int} (h : OwnI w base v xs) (hg : w.grownBy w' v.ownBlock) (hb : base ≤ w.heap.size) : Below base w w' :=
  (Below.refl _ _).grown hg hb (fun k hk => (h.lt k hk).1)
end Go.Proofs.Ytipkdbicijibpaa
