/-
  Slices of ints, and slices of them; a map from texts to ints.
-/
import Derived.Test.YtjbjkfahfjoigaaZRowCanRecolour4
import Derived.Test.YtjbjkfahfjoigaaZRowCanRecolour17
import Derived.Maps.Own
import Derived.Maps.OwnOps
set_option linter.unusedVariables false
set_option linter.unusedSimpArgs false
namespace Go.Proofs.Ytjbjkfahfjoigaa
open Go.RowKit Go.Sort

def FIn : Flat Nat := ⟨55, 3, .int .i64 0, 1, 8, fun x => [.int .i64 x], Try.underlying55, by kernel_rfl, rfl, by decide, by decide, fun _ => rfl, by intro x u h; simp at h; subst h; rfl⟩
theorem FIn_cell {w : World} {base g n c : Nat} {xs : List Nat} (h : FIn.Own w base (.slice (some ⟨g, 0, none⟩) n c) xs) {i : Nat} (hi : i < xs.length) : w.cell? ⟨g, i, none⟩ = some (.int .i64 (xs[i] : Nat)) := by
  have := h.cell (i := i) (j := 0) hi (by decide)
  have e : i * FIn.size + 0 = i := by show i * 1 + 0 = i; omega
  rw [e] at this
  exact this
theorem FIn_at {w : World} {ad : Option Addr} {n c : Nat} {xs : List Nat} (h : FIn.Sl w (.slice ad n c) xs) {i : Nat} (hi : i < xs.length) : ∃ b off, ad = some ⟨b, off, none⟩ ∧ b < w.heap.size ∧ w.cell? ⟨b, off + i, none⟩ = some (.int .i64 (xs[i] : Nat)) := by
  obtain ⟨b, off, h1, h2, h3⟩ := h.at_ hi
  have := h3 0 (.int .i64 (xs[i] : Nat)) rfl
  rw [show off + (i * FIn.size + 0) = off + i from by show off + (i * 1 + 0) = _; omega] at this
  exact ⟨b, off, h1, h2, this⟩
theorem FIn_form {w : World} {base : Nat} {v : Value} {xs : List Nat} (h : FIn.Own w base v xs) : ∃ a n c, v = .slice a n c ∧ Hid (n = xs.length) := by
  obtain ⟨a, c, rfl, _⟩ := h.sl
  exact ⟨a, _, c, rfl, rfl⟩
theorem append_int {ops : Array Oper} {rest : List Oper} {o : Oper} {a : Act} {Q : Exit → Act → World → Prop} (w : World) (y : Nat) (s x : Operand) (hg : o.guard = none)
    (ho : o.op = .call { callee := .builtin .append, args := #[s, x], argTypes := #[55, 55] })
    {base : Nat} {v : Value} {xs : List Nat} (hs : a.eval s = v) (hown : FIn.Own w base v xs) {t g0 : Nat} (hg0 : w.heap.size = g0) (hx : a.eval x = .slice (some ⟨g0, 0, none⟩) 1 1)
    (hlen : xs.length < 16777216) (hbase : base ≤ w.heap.size)
    (h : ∀ v' w', FIn.Own w' base v' (xs ++ [y]) → Below base (w.alloc (.cells #[.int .i64 y] t)) w' → (w.alloc (.cells #[.int .i64 y] t)).grownBy w' v.ownBlock → wpList Try.prog ops Q rest (a.put o.dst v') w') : wpList Try.prog ops Q (o :: rest) a (w.alloc (.cells #[.int .i64 y] t)) := by
  subst hg0
  have bx : Below w.heap.size w (w.alloc (.cells #[.int .i64 y] t)) := (Below.refl _ _).alloc (Nat.le_refl _) _
  refine Flat.append FIn _ s x hg ho (ys := [y]) hs (hown.below bx) hx (rd_new w #[.int .i64 y] t) (by simp; omega) (by simp; omega) (fun v' w' k1 k2 k3 => ?_)
  exact h v' w' k1 k3 k2
theorem FIn_one (w : World) (x : Nat) {base : Nat} (hb : base ≤ w.heap.size) : FIn.Own (w.alloc (.cells #[.int .i64 x] 3)) base (.slice (some ⟨w.heap.size, 0, none⟩) 1 1) [x] :=
  World.ownsRow_lit (base := base) (e := 3) (size := 1) w #[.int .i64 x] 1 hb (by simp [maxLen]) (by simp)
theorem OwnI.keptInt {w w' : World} {base base' : Nat} {u v : Value} {xs : List Int} {ys : List Nat} (h : OwnI w base u xs) (h2 : FIn.Own w base' v ys) (hg : w.grownBy w' v.ownBlock) : OwnI w' base u xs := h.kept hg (by
  cases hb : u.ownBlock with
  | none => exact .inl rfl
  | some g =>
    have h1 : FI.Own w base u xs := by rw [FI_own]; exact h
    exact .inr (Ne.symm (flat_apart (G := FIn) (by decide) h1 h2 hb)))

def GIn : FRow Nat := ⟨FIn, ⟨51, 55, .slice none 0 0, 1, 24, encR, Try.underlying51, by kernel_rfl, rfl, by decide, by decide, fun _ => rfl, encR_one⟩, rfl, rfl, by decide⟩
def GII : FRow Int := ⟨FI, ⟨22, 42, .slice none 0 0, 1, 24, encR, Try.underlying22, by kernel_rfl, rfl, by decide, by decide, fun _ => rfl, encR_one⟩, rfl, rfl, by decide⟩

theorem ownsMap_below {H : Type} {w w' : World} {P : Program} {k : TypeId} {R : Value → Option (DataW H × List MemPlace)} {b n B : Nat} {D : DataW H} (h : w.ownsMap P k R b n D) (hb : Below B w w') (hB : b < B) : w'.ownsMap P k R b n D := by
  obtain ⟨es, clock, h1, h2⟩ := h
  exact ⟨es, clock, (hb.block b hB).trans h1, h2⟩
theorem lawStr : Maps.Keyed Try.prog 9 := Maps.string_keyed Try.underlying9
theorem zeroInt (w : World) : (zeroValue 3).run Try.prog w = .ok (.int .i64 0) w := by kernel_rfl
end Go.Proofs.Ytjbjkfahfjoigaa
