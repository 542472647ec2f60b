/-
  Windows: all states run through draws from the last to the first. With it: Marks written into what a law has handed in: what is made later, and what was there before, stays. Frames: what stays where some blocks alone are written; cells of a new block. Laws at one operation, in a list of operations and in a region that draws its order: a call by its contract, append on owned slices and rows. The source of drawn numbers: its box, next, pick and one. One step by a draw: the reference's and the program's. A region that draws its order: its first n operations are quiet in a class of worlds, the rest stand in one forced order behind them: one walk serves every order.
-/
import Derived.Test.YtghdginjdolgpaaZRowFnForward1
import Derived.Deep.RegionLaw
import Derived.Laws.BitsLemmas
import Derived.Laws.Bits64
import Derived.Laws.BitsAllLaws
import Derived.StillTail
import Derived.Lib.QuietBelow
import Derived.BigQuiet
set_option linter.unusedVariables false
set_option linter.unusedSimpArgs false
namespace Go.Proofs.Ytghdginjdolgpaa
open Go.RowKit Go.Sort
/-- all but blocks from lo to hi stays -/
structure Mid (lo hi : Nat) (w w' : World) : Prop where
  os : w'.os = w.os
  tape : w'.tape = w.tape
  output : w'.output = w.output
  size : w.heap.size ≤ w'.heap.size
  block : ∀ k, k < w.heap.size → (k < lo ∨ hi ≤ k) → w'.heap[k]? = w.heap[k]?
theorem Mid.refl (lo hi : Nat) (w : World) : Mid lo hi w w := ⟨rfl, rfl, rfl, Nat.le_refl _, fun _ _ _ => rfl⟩
theorem Mid.trans {lo hi : Nat} {a b c : World} (h : Mid lo hi a b) (k : Mid lo hi b c) : Mid lo hi a c :=
  ⟨k.os.trans h.os, k.tape.trans h.tape, k.output.trans h.output, Nat.le_trans h.size k.size, fun i hi' hx => (k.block i (Nat.lt_of_lt_of_le hi' h.size) hx).trans (h.block i hi' hx)⟩
theorem Mid.below {lo hi : Nat} {w w' : World} (h : Mid lo hi w w') (hlo : lo ≤ w.heap.size) : Below lo w w' := ⟨h.os, h.tape, h.output, h.size, fun k hk => h.block k (Nat.lt_of_lt_of_le hk hlo) (.inl hk)⟩
theorem Mid.of_below {lo hi : Nat} {w w' : World} (h : Below w.heap.size w w') : Mid lo hi w w' := ⟨h.os, h.tape, h.output, h.size, fun k hk _ => h.block k hk⟩
theorem Mid.of_grown {lo hi : Nat} {w w' : World} {row : Option Nat} (h : w.grownBy w' row) (hr : ∀ g, row = some g → lo ≤ g ∧ g < hi) : Mid lo hi w w' :=
  ⟨h.os, h.tape, h.output, h.size, fun k hk hx => h.block k hk (by
    intro e
    have := hr k e.symm
    omega)⟩
theorem ownsRow_mid {w w' : World} {lo hi base e size n : Nat} {v : Value} {xs : List Value} (h : w.ownsRow base e size v n xs) (hm : Mid lo hi w w') (hb : hi ≤ base) : w'.ownsRow base e size v n xs := by
  refine ⟨h.1, ?_⟩
  rcases h.2 with h2 | ⟨g, cap, cur, h1, h2, h3, h4⟩
  · exact .inl h2
  · refine .inr ⟨g, cap, cur, h1, h2, ?_, h4⟩
    rw [hm.block g (Array.getElem?_eq_some_iff.1 h3).1 (.inr (by omega))]; exact h3
def sumL (xss : List (List Int)) : Nat := (xss.map List.length).sum
theorem sumL_take {xss : List (List Int)} {k : Nat} (h : k < xss.length) : sumL (xss.take (k + 1)) = sumL (xss.take k) + xss[k].length := by
  unfold sumL; rw [List.take_succ_eq_append_getElem h, List.map_append, List.sum_append]; simp
theorem sumL_le (xss : List (List Int)) (k : Nat) : sumL (xss.take k) ≤ sumL xss := by
  unfold sumL
  conv => rhs; rw [← List.take_append_drop k xss]
  rw [List.map_append, List.sum_append]; omega
theorem szRows_sum : ∀ {xss : List (List Int)} {l : Int}, 0 ≤ szRows l xss → (sumL xss : Int) ≤ l
  | [], l, h => by simpa [sumL, szRows] using h
  | r :: rs, l, h => by
    unfold szRows at h
    by_cases h1 : sz1 l r.length < 0
    · rw [if_pos h1] at h; omega
    · rw [if_neg h1] at h
      have h2 := szRows_sum h
      have h5 : sz1 l r.length = l - r.length := by unfold sz1 at h1 ⊢; split <;> simp_all
      rw [h5] at h2
      have : sumL (r :: rs) = r.length + sumL rs := by simp [sumL]
      omega
theorem szII_sum {xss : List (List Int)} {l l1 : Int} (h : szII l xss = l1) (hl : ¬ l1 < 0) (hb : l ≤ 1048576) : sumL xss ≤ 1048576 := by
  unfold szII at h
  split at h
  · omega
  · have := szRows_sum (xss := xss) (l := l - xss.length) (by omega)
    omega
/-- rows whose blocks lie below B -/
def OwnIIB (w : World) (base B : Nat) (v : Value) (xss : List (List Int)) : Prop :=
  ∃ vs, w.ownsRow base 28 1 v xss.length vs ∧ Rows2 w base vs xss ∧ ∀ (i : Nat) (u : Value) (g : Nat), vs[i]? = some u → u.ownBlock = some g → g < B
theorem OwnII.b {w : World} {base : Nat} {v : Value} {xss : List (List Int)} (h : OwnII w base v xss) : OwnIIB w base w.heap.size v xss := by
  obtain ⟨vs, h1, h2⟩ := h
  exact ⟨vs, h1, h2, fun i u g hu hg => (h2.lt i u g hu hg).2⟩
theorem OwnIIB.below {w w' : World} {base B : Nat} {v : Value} {xss : List (List Int)} (h : OwnIIB w base B v xss) (hb : Below w.heap.size w w') : OwnIIB w' base B v xss := by
  obtain ⟨vs, h1, h2, h3⟩ := h
  exact ⟨vs, ownsRow_below h1 hb, h2.below hb, h3⟩
theorem OwnIIB.ii {w : World} {base B : Nat} {v : Value} {xss : List (List Int)} (h : OwnIIB w base B v xss) : OwnII w base v xss := by
  obtain ⟨vs, h1, h2, _⟩ := h
  exact ⟨vs, h1, h2⟩
theorem OwnIIB.sl {w : World} {base B : Nat} {v : Value} {xss : List (List Int)} (h : OwnIIB w base B v xss) : SlII w v xss := h.ii.sl
end Go.Proofs.Ytghdginjdolgpaa
namespace Go.Proofs.Ytghdginjdolgpaa
open Go.RowKit Go.Sort
/-- the first cells of a block -/
def CellsAt (w : World) (b : Nat) (vs : List Value) : Prop := b < w.heap.size ∧ ∀ i u, vs[i]? = some u → w.cell? ⟨b, i, none⟩ = some u
theorem CellsAt.new (w : World) (vs : List Value) (T : Nat) : CellsAt (w.alloc (.cells vs.toArray T)) w.heap.size vs := by
  refine ⟨by simp, fun i u h => ?_⟩
  simp [go_sem, h]
theorem CellsAt.new' (w : World) (vs : List Value) (T : Nat) {b : Nat} (hb : b = w.heap.size) : CellsAt (w.alloc (.cells vs.toArray T)) b vs := by
  subst hb; exact CellsAt.new w vs T
theorem CellsAt.below {w w' : World} {b : Nat} {vs : List Value} (h : CellsAt w b vs) (hb : Below w.heap.size w w') : CellsAt w' b vs :=
  ⟨Nat.lt_of_lt_of_le h.1 hb.size, fun i u hu => by rw [hb.cell (p := ⟨b, i, none⟩) h.1]; exact h.2 i u hu⟩
theorem CellsAt.get {w : World} {b : Nat} {vs : List Value} (h : CellsAt w b vs) (i : Nat) (u : Value) (hu : vs[i]? = some u) : w.cell? ⟨b, i, none⟩ = some u := h.2 i u hu
/-- all blocks but those of S stay -/
structure Fs (S : Nat → Prop) (w w' : World) : Prop where
  os : w'.os = w.os
  tape : w'.tape = w.tape
  output : w'.output = w.output
  size : w.heap.size ≤ w'.heap.size
  block : ∀ k, k < w.heap.size → ¬ S k → w'.heap[k]? = w.heap[k]?
theorem Fs.trans {S : Nat → Prop} {a b c : World} (h : Fs S a b) (k : Fs S b c) : Fs S a c :=
  ⟨k.os.trans h.os, k.tape.trans h.tape, k.output.trans h.output, Nat.le_trans h.size k.size, fun i hi hx => (k.block i (Nat.lt_of_lt_of_le hi h.size) hx).trans (h.block i hi hx)⟩
theorem Fs.of_below {S : Nat → Prop} {w w' : World} (h : Below w.heap.size w w') : Fs S w w' := ⟨h.os, h.tape, h.output, h.size, fun k hk _ => h.block k hk⟩
theorem Fs.below {S : Nat → Prop} {w w' : World} (h : Fs S w w') {B : Nat} (hB : B ≤ w.heap.size) (hS : ∀ k, S k → B ≤ k) : Below B w w' :=
  ⟨h.os, h.tape, h.output, h.size, fun k hk => h.block k (Nat.lt_of_lt_of_le hk hB) (fun hs => by have := hS k hs; omega)⟩
theorem Fs.of_mid {lo hi : Nat} {w w' : World} (h : Mid lo hi w w') : Fs (fun k => lo ≤ k ∧ k < hi) w w' := ⟨h.os, h.tape, h.output, h.size, fun k hk hx => h.block k hk (by omega)⟩
theorem Fs.of_grown {S : Nat → Prop} {w w' : World} {row : Option Nat} (h : w.grownBy w' row) (hr : ∀ g, row = some g → S g) : Fs S w w' :=
  ⟨h.os, h.tape, h.output, h.size, fun k hk hx => h.block k hk (fun e => hx (hr k e.symm))⟩
theorem Fs.cell {S : Nat → Prop} {w w' : World} (h : Fs S w w') {p : Addr} (hp : p.block < w.heap.size) (hn : ¬ S p.block) : w'.cell? p = w.cell? p :=
  World.cell?_of_block (h.block p.block hp hn)
theorem Fs.mono {S T : Nat → Prop} {w w' : World} (h : Fs S w w') (hST : ∀ k, S k → T k) : Fs T w w' :=
  ⟨h.os, h.tape, h.output, h.size, fun k hk hx => h.block k hk (fun hs => hx (hST k hs))⟩
theorem CellsAt.fs {S : Nat → Prop} {w w' : World} {b : Nat} {vs : List Value} (h : CellsAt w b vs) (hf : Fs S w w') (hS : ¬ S b) : CellsAt w' b vs :=
  ⟨Nat.lt_of_lt_of_le h.1 hf.size, fun i u hu => by rw [hf.cell (p := ⟨b, i, none⟩) h.1 hS]; exact h.2 i u hu⟩
theorem ownsRow_fs {S : Nat → Prop} {w w' : World} {base e size n : Nat} {v : Value} {xs : List Value} (h : w.ownsRow base e size v n xs) (hf : Fs S w w') (hS : ∀ k, S k → k < base) : w'.ownsRow base e size v n xs := by
  refine ⟨h.1, ?_⟩
  rcases h.2 with h2 | ⟨g, cap, cur, h1, h2, h3, h4⟩
  · exact .inl h2
  · refine .inr ⟨g, cap, cur, h1, h2, ?_, h4⟩
    rw [hf.block g (Array.getElem?_eq_some_iff.1 h3).1 (fun hs => by have := hS g hs; omega)]; exact h3
theorem OwnI.fs {S : Nat → Prop} {w w' : World} {base : Nat} {v : Value} {xs : List Int} (h : OwnI w base v xs) (hf : Fs S w w') (hS : ∀ k, S k → k < base) : OwnI w' base v xs := ownsRow_fs h hf hS
theorem OwnII.fs {S : Nat → Prop} {w w' : World} {base : Nat} {v : Value} {xss : List (List Int)} (h : OwnII w base v xss) (hf : Fs S w w') (hS : ∀ k, S k → k < base) : OwnII w' base v xss := by
  obtain ⟨vs, h1, h2⟩ := h
  exact ⟨vs, ownsRow_fs h1 hf hS, h2.1, fun i u xs hu hx => ownsRow_fs (h2.2.1 i u xs hu hx) hf hS, h2.2.2⟩
end Go.Proofs.Ytghdginjdolgpaa
namespace Go.Proofs.Ytghdginjdolgpaa
open Go.RowKit Go.Sort
theorem step_of_wp {P : Program} {ops : Array Oper} {o : Oper} {a : Act} {w : World} {K : Act → World → Prop} {Q : Exit → Act → World → Prop} {E : Prop} (hg : o.guard = none) (h : Oper.wp P o a w K Q) : if Region.wanted o (yielded ops a.tmps) = true then Oper.wp P o a w K Q else E := by
  rw [if_pos (by simp [Region.wanted, hg])]; exact h
theorem wp_calls {P : Program} {o : Oper} {a : Act} {w : World} {K : Act → World → Prop} {Q : Exit → Act → World → Prop} {f : FuncId} {args : Array Value} {R : Ending → World → Prop}
    (hrun : (execOp a.eval o).run P w = .ok (.enter f args) w) (hc : Calls P f args w R) (hK : ∀ e w', R e w' → ∃ v, e = .returned v ∧ K (a.put o.dst v) w') : Oper.wp P o a w K Q := by
  unfold Oper.wp
  rw [hrun, Oper.upon_enter]
  exact hc.mono (fun e w' h => by obtain ⟨v, rfl, hk⟩ := hK e w' h; exact hk)
theorem step_calls {P : Program} {ops : Array Oper} {o : Oper} {a : Act} {w : World} {K : Act → World → Prop} {Q : Exit → Act → World → Prop} {E : Prop} {f : FuncId} {args : Array Value} {R : Ending → World → Prop} (hg : o.guard = none)
    (hrun : (execOp a.eval o).run P w = .ok (.enter f args) w) (hc : Calls P f args w R) (hK : ∀ e w', R e w' → ∃ v, e = .returned v ∧ K (a.put o.dst v) w') : if Region.wanted o (yielded ops a.tmps) = true then Oper.wp P o a w K Q else E :=
  step_of_wp hg (wp_calls hrun hc hK)
theorem list_of_wp {P : Program} {ops : Array Oper} {rest : List Oper} {o : Oper} {a : Act} {w : World} {Q : Exit → Act → World → Prop} (hg : o.guard = none) (h : ∀ K : Act → World → Prop, (∀ a' w', wpList P ops Q rest a' w' → K a' w') → Oper.wp P o a w K Q) : wpList P ops Q (o :: rest) a w :=
  wpList_plain hg h
namespace Flat
variable {α : Type}
/-- append of any slice on an owned one, at the operation -/
theorem wpApp {o : Oper} {a : Act} {K : Act → World → Prop} {Q : Exit → Act → World → Prop} (F : Flat α) (w : World) (s x : Operand)
    (ho : o.op = .call { callee := .builtin .append, args := #[s, x], argTypes := #[F.T, F.T] })
    {base : Nat} {v : Value} {xs ys : List α} (hs : a.eval s = v) (hown : F.Own w base v xs) {ad : Option Addr} {c : Nat} (hx : a.eval x = .slice ad ys.length c) (hr : Rd w ad (F.encs ys))
    (hlen : xs.length + ys.length ≤ 16777216) (hbase : base ≤ w.heap.size)
    (h : ∀ v' w', F.Own w' base v' (xs ++ ys) → w.grownBy w' v.ownBlock → K (a.put o.dst v') w') : Oper.wp Try.prog o a w K Q := by
  obtain ⟨i0, hi, hz0, hz1, hz2⟩ := info_parts F.inf
  cases ad with
  | none =>
    have h0 : ys = [] := by
      cases ys with
      | nil => rfl
      | cons y ys =>
        have hl : 0 < (F.encs (y :: ys)).length := by rw [F.encs_length]; exact Nat.mul_pos (by simp) F.pos
        obtain ⟨b, off, h1, _⟩ := hr.all hl
        simp at h1
    subst h0
    have hrun := run_append_of_nil (P := Try.prog) w base F.T o.type F.E i0 F.size F.und hi v xs.length (F.encs xs) hown c
    unfold Oper.wp execOp
    simp only [List.length_nil] at hx
    simp only [ho, resolve, invoke, builtin, Sem.run_bind, Sem.run_pure, Result.andThen_ok, List.map_toArray, List.map_cons, List.map_nil, hs, hx, hrun]
    exact h v w (by simpa using hown) (World.grownBy.refl w _)
  | some ad =>
    refine wp_append_own w s x _ ho base F.E i0 F.z F.size F.bytes F.und hi hz0 hz1 hz2 F.zsz F.pos v xs.length (F.encs xs) hs hown ad ys.length c (F.encs ys) hx (F.encs_length ys) ?_ (fun u hu => F.encs_one hu) (by simp [maxLen]; omega) ?_ hbase (fun v' w' h1 h2 _ => ?_)
    · intro j u hu
      obtain ⟨b, off, he, _, hc⟩ := hr j u hu
      simp at he
      subst he
      unfold Addr.add
      by_cases hj : j = 0
      · subst hj; simpa using hc
      · simpa [hj] using hc
    · have := F.few
      calc (xs.length + ys.length) * F.bytes ≤ 16777216 * 4096 := Nat.mul_le_mul hlen this
        _ ≤ 140737488355328 := by decide
    · refine h v' w' ?_ h2
      unfold Own
      rw [encs_append, List.length_append]
      exact h1
end Flat
theorem rd_one {w : World} {g : Nat} {u : Value} (h : w.cell? ⟨g, 0, none⟩ = some u) (hg : g < w.heap.size) : Rd w (some ⟨g, 0, none⟩) [u] := by
  intro j x hx
  cases j with
  | zero => simp at hx; subst hx; exact ⟨g, 0, rfl, hg, h⟩
  | succ j => simp at hx
theorem cell_lt {w : World} {g i : Nat} {u : Value} (h : w.cell? ⟨g, i, none⟩ = some u) : g < w.heap.size := by
  unfold World.cell? at h
  cases hh : w.heap[g]? with
  | none => rw [hh] at h; simp at h
  | some o => exact (Array.getElem?_eq_some_iff.1 hh).1
/-- append(v, y) on an owned []int64; y lies in a block of its own -/
theorem wpAppI {o : Oper} {a : Act} {K : Act → World → Prop} {Q : Exit → Act → World → Prop} (w : World) (s x : Operand)
    (ho : o.op = .call { callee := .builtin .append, args := #[s, x], argTypes := #[28, 28] })
    {base g : Nat} {v : Value} {xs : List Int} {y : Int} (hs : a.eval s = v) (hown : OwnI w base v xs) (hx : a.eval x = .slice (some ⟨g, 0, none⟩) 1 1) (hc : w.cell? ⟨g, 0, none⟩ = some (.int .i64 y))
    (hlen : xs.length < 16777216) (hbase : base ≤ w.heap.size)
    (h : ∀ v' w', OwnI w' base v' (xs ++ [y]) → w.grownBy w' v.ownBlock → K (a.put o.dst v') w') : Oper.wp Try.prog o a w K Q := by
  refine Flat.wpApp FI w s x ho hs (by rw [FI_own]; exact hown) (ys := [y]) hx (by rw [FI_encs]; exact rd_one hc (cell_lt hc)) (by simp; omega) hbase (fun v' w' h1 h2 => h v' w' (by rw [FI_own] at h1; exact h1) h2)
theorem listAppI {ops : Array Oper} {rest : List Oper} {o : Oper} {a : Act} {Q : Exit → Act → World → Prop} (w : World) (s x : Operand) (hg : o.guard = none)
    (ho : o.op = .call { callee := .builtin .append, args := #[s, x], argTypes := #[28, 28] })
    {base g : Nat} {v : Value} {xs : List Int} {y : Int} (hs : a.eval s = v) (hown : OwnI w base v xs) (hx : a.eval x = .slice (some ⟨g, 0, none⟩) 1 1) (hc : w.cell? ⟨g, 0, none⟩ = some (.int .i64 y))
    (hlen : xs.length < 16777216) (hbase : base ≤ w.heap.size)
    (h : ∀ v' w', OwnI w' base v' (xs ++ [y]) → w.grownBy w' v.ownBlock → wpList Try.prog ops Q rest (a.put o.dst v') w') : wpList Try.prog ops Q (o :: rest) a w :=
  list_of_wp hg fun K hK => wpAppI w s x ho hs hown hx hc hlen hbase fun v' w' h1 h2 => hK _ _ (h v' w' h1 h2)
theorem stepAppI {ops : Array Oper} {o : Oper} {a : Act} {K : Act → World → Prop} {Q : Exit → Act → World → Prop} {E : Prop} (w : World) (s x : Operand) (hg : o.guard = none)
    (ho : o.op = .call { callee := .builtin .append, args := #[s, x], argTypes := #[28, 28] })
    {base g : Nat} {v : Value} {xs : List Int} {y : Int} (hs : a.eval s = v) (hown : OwnI w base v xs) (hx : a.eval x = .slice (some ⟨g, 0, none⟩) 1 1) (hc : w.cell? ⟨g, 0, none⟩ = some (.int .i64 y))
    (hlen : xs.length < 16777216) (hbase : base ≤ w.heap.size)
    (h : ∀ v' w', OwnI w' base v' (xs ++ [y]) → w.grownBy w' v.ownBlock → K (a.put o.dst v') w') : if Region.wanted o (yielded ops a.tmps) = true then Oper.wp Try.prog o a w K Q else E :=
  step_of_wp hg (wpAppI w s x ho hs hown hx hc hlen hbase h)

theorem wp_app_one {T E : Nat} {z : Value} {bytes : Nat} (hT : OneT T E z bytes) {o : Oper} {a : Act} {K : Act → World → Prop} {Q : Exit → Act → World → Prop} (w : World) (s x : Operand)
    (ho : o.op = .call { callee := .builtin .append, args := #[s, x], argTypes := #[T, T] })
    {base g n : Nat} {v y : Value} {xs : List Value} (hy1 : y.oneCell' = true) (hs : a.eval s = v) (hown : w.ownsRow base E 1 v n xs) (hx : a.eval x = .slice (some ⟨g, 0, none⟩) 1 1) (hc : w.cell? ⟨g, 0, none⟩ = some y)
    (hlen : n < 16777216) (hbase : base ≤ w.heap.size)
    (h : ∀ v' w', w'.ownsRow base E 1 v' (n + 1) (xs ++ [y]) → w.grownBy w' v.ownBlock → K (a.put o.dst v') w') : Oper.wp Try.prog o a w K Q := by
  obtain ⟨i0, hi, hz0, hz1, hz2⟩ := info_parts hT.inf
  refine wp_append_own w s x _ ho base E i0 z 1 bytes hT.und hi hz0 hz1 hz2 hT.one (by decide) v n xs hs hown ⟨g, 0, none⟩ 1 1 [y] hx rfl ?_ (by intro u hu; simp at hu; subst hu; exact hy1) (by simp [maxLen]; omega) ?_ hbase (fun v' w' h1 h2 _ => h v' w' h1 h2)
  · intro j u hu
    cases j with
    | zero => simp at hu; subst hu; simpa [Addr.add] using hc
    | succ j => simp at hu
  · have := hT.few
    calc (n + 1) * bytes ≤ 16777216 * 4096 := Nat.mul_le_mul (by omega) this
      _ ≤ 140737488355328 := by decide
theorem OwnIIB.lt {w : World} {base B : Nat} {v : Value} {xss : List (List Int)} (h : OwnIIB w base B v xss) (g : Nat) (hg : v.ownBlock = some g) : base ≤ g ∧ g < w.heap.size := by
  obtain ⟨vs, h1, _⟩ := h
  exact h1.lt g hg
theorem OwnI.one {w : World} {base : Nat} {u : Value} {xs : List Int} (h : OwnI w base u xs) : u.oneCell' = true := by
  rcases h.2 with ⟨rfl, _⟩ | ⟨g, c, cur, rfl, _⟩ <;> rfl
/-- append(v, u) on owned rows; u an owned row, its block none of theirs -/
theorem wpAppRow {o : Oper} {a : Act} {K : Act → World → Prop} {Q : Exit → Act → World → Prop} (w : World) (s x : Operand)
    (ho : o.op = .call { callee := .builtin .append, args := #[s, x], argTypes := #[24, 24] })
    {base B g : Nat} {v u : Value} {xss : List (List Int)} {xs : List Int} (hs : a.eval s = v) (hown : OwnIIB w base B v xss) (hu : OwnI w base u xs) (hB : ∀ g, u.ownBlock = some g → B ≤ g)
    (hx : a.eval x = .slice (some ⟨g, 0, none⟩) 1 1) (hc : w.cell? ⟨g, 0, none⟩ = some u) (hlen : xss.length < 16777216) (hbase : base ≤ w.heap.size)
    (h : ∀ v' w', OwnII w' base v' (xss ++ [xs]) → w.grownBy w' v.ownBlock → K (a.put o.dst v') w') : Oper.wp Try.prog o a w K Q := by
  obtain ⟨vs, h1, h2, h3⟩ := hown
  refine wp_app_one tI64S w s x ho hu.one hs h1 hx hc hlen hbase (fun v' w' k1 k2 => h v' w' ⟨vs ++ [u], ?_, ?_⟩ k2)
  · rw [List.length_append]; exact k1
  · have hsn : Rows2 w base (vs ++ [u]) (xss ++ [xs]) := Rows2.snoc (B := B) h2 hu h3 hB
    exact hsn.kept h1 k2
theorem listAppRow {ops : Array Oper} {rest : List Oper} {o : Oper} {a : Act} {Q : Exit → Act → World → Prop} (w : World) (s x : Operand) (hg : o.guard = none)
    (ho : o.op = .call { callee := .builtin .append, args := #[s, x], argTypes := #[24, 24] })
    {base B g : Nat} {v u : Value} {xss : List (List Int)} {xs : List Int} (hs : a.eval s = v) (hown : OwnIIB w base B v xss) (hu : OwnI w base u xs) (hB : ∀ g, u.ownBlock = some g → B ≤ g)
    (hx : a.eval x = .slice (some ⟨g, 0, none⟩) 1 1) (hc : w.cell? ⟨g, 0, none⟩ = some u) (hlen : xss.length < 16777216) (hbase : base ≤ w.heap.size)
    (h : ∀ v' w', OwnII w' base v' (xss ++ [xs]) → w.grownBy w' v.ownBlock → wpList Try.prog ops Q rest (a.put o.dst v') w') : wpList Try.prog ops Q (o :: rest) a w :=
  list_of_wp hg fun K hK => wpAppRow w s x ho hs hown hu hB hx hc hlen hbase fun v' w' h1 h2 => hK _ _ (h v' w' h1 h2)
theorem stepAppRow {ops : Array Oper} {o : Oper} {a : Act} {K : Act → World → Prop} {Q : Exit → Act → World → Prop} {E : Prop} (w : World) (s x : Operand) (hg : o.guard = none)
    (ho : o.op = .call { callee := .builtin .append, args := #[s, x], argTypes := #[24, 24] })
    {base B g : Nat} {v u : Value} {xss : List (List Int)} {xs : List Int} (hs : a.eval s = v) (hown : OwnIIB w base B v xss) (hu : OwnI w base u xs) (hB : ∀ g, u.ownBlock = some g → B ≤ g)
    (hx : a.eval x = .slice (some ⟨g, 0, none⟩) 1 1) (hc : w.cell? ⟨g, 0, none⟩ = some u) (hlen : xss.length < 16777216) (hbase : base ≤ w.heap.size)
    (h : ∀ v' w', OwnII w' base v' (xss ++ [xs]) → w.grownBy w' v.ownBlock → K (a.put o.dst v') w') : if Region.wanted o (yielded ops a.tmps) = true then Oper.wp Try.prog o a w K Q else E :=
  step_of_wp hg (wpAppRow w s x ho hs hown hu hB hx hc hlen hbase h)
theorem OwnII.lt {w : World} {base : Nat} {v : Value} {xss : List (List Int)} (h : OwnII w base v xss) (g : Nat) (hg : v.ownBlock = some g) : base ≤ g ∧ g < w.heap.size := by
  obtain ⟨vs, h1, _⟩ := h
  exact h1.lt g hg
theorem Fs.refl (S : Nat → Prop) (w : World) : Fs S w w := ⟨rfl, rfl, rfl, Nat.le_refl _, fun _ _ _ => rfl⟩
theorem Fs.set {S : Nat → Prop} {w w' : World} (h : Fs S w w') {a : Addr} (ha : S a.block) (u : Value) : Fs S w (w'.setCell a u) :=
  ⟨h.os, h.tape, h.output, by simpa using h.size, fun k hk hx => by
    rw [heap_setCell_other w' a k u (fun e => hx (by rw [e]; exact ha))]; exact h.block k hk hx⟩
theorem Fs.frozen {S : Nat → Prop} {w w' : World} (h : Fs S w w') {p : Addr} (hp : p.block < w.heap.size) (hn : ¬ S p.block) : w'.frozen? p = w.frozen? p := by
  simp [World.frozen?, h.block p.block hp hn]
end Go.Proofs.Ytghdginjdolgpaa
namespace Go.Proofs.Ytghdginjdolgpaa
open Go.RowKit Go.Sort
/-- a source in its box b, at most K numbers taken -/
structure SrcV (w : World) (b : Nat) (ad : Option Addr) (n c at' : Nat) (seed : Int) : Prop where
  cs : CellsAt w b [.slice ad n c, .int .i64 at', .int .u64 seed]
  fr : ∀ i, w.frozen? ⟨b, i, none⟩ = false
  len : n ≤ 4096
  rd : ∀ i, i < n → ∃ blk off x, ad = some ⟨blk, off, none⟩ ∧ blk < b ∧ w.cell? ⟨blk, off + i, none⟩ = some (.int .u8 x) ∧ 0 ≤ x ∧ x < 256
def SrcB (w : World) (b K : Nat) : Prop := ∃ ad n c at' seed, SrcV w b ad n c at' seed ∧ at' ≤ K
theorem SrcV.fs {S : Nat → Prop} {w w' : World} {b n c at' : Nat} {ad : Option Addr} {seed : Int} (h : SrcV w b ad n c at' seed) (hf : Fs S w w') (hS : ∀ k, S k → b < k) : SrcV w' b ad n c at' seed := by
  have hb := h.cs.1
  refine ⟨h.cs.fs hf (fun hs => by have := hS b hs; omega), fun i => ?_, h.len, fun i hi => ?_⟩
  · have := hf.block b hb (fun hs => by have := hS b hs; omega)
    have h2 := h.fr i
    simpa [World.frozen?, this] using h2
  · obtain ⟨blk, off, x, h1, h2, h3, h4⟩ := h.rd i hi
    exact ⟨blk, off, x, h1, h2, by rw [hf.cell (p := ⟨blk, off + i, none⟩) (show blk < w.heap.size by omega) (fun hs => by have := hS blk hs; omega)]; exact h3, h4⟩
theorem SrcB.fs {S : Nat → Prop} {w w' : World} {b K : Nat} (h : SrcB w b K) (hf : Fs S w w') (hS : ∀ k, S k → b < k) : SrcB w' b K := by
  obtain ⟨ad, n, c, at', seed, h1, h2⟩ := h
  exact ⟨ad, n, c, at', seed, h1.fs hf hS, h2⟩
theorem SrcB.below {w w' : World} {b K : Nat} (h : SrcB w b K) (hb : Below w.heap.size w w') : SrcB w' b K := h.fs (S := fun _ => False) (Fs.of_below hb) (fun _ h => h.elim)
theorem SrcB.lt {w : World} {b K : Nat} (h : SrcB w b K) : b < w.heap.size := by
  obtain ⟨_, _, _, _, _, h1, _⟩ := h
  exact h1.cs.1
theorem SrcB.more {w : World} {b K K' : Nat} (h : SrcB w b K) (hk : K ≤ K') : SrcB w b K' := by
  obtain ⟨ad, n, c, at', seed, h1, h2⟩ := h
  exact ⟨ad, n, c, at', seed, h1, by omega⟩
theorem SrcV.set {w : World} {b n c at' : Nat} {ad : Option Addr} {seed : Int} (h : SrcV w b ad n c at' seed) (at2 : Nat) (seed2 : Int) : SrcV ((w.setCell ⟨b, 1, none⟩ (.int .i64 at2)).setCell ⟨b, 2, none⟩ (.int .u64 seed2)) b ad n c at2 seed2 := by
  have c0 := h.cs.get 0 _ rfl
  have c1 := h.cs.get 1 _ rfl
  have c2 := h.cs.get 2 _ rfl
  refine ⟨⟨by simpa using h.cs.1, fun i v hv => ?_⟩, fun i => by simpa using h.fr i, h.len, fun i hi => ?_⟩
  · match i, hv with
    | 0, hv => simp at hv; subst hv; simp [go_sem, c0]
    | 1, hv => simp at hv; subst hv; simp [go_sem, c1]
    | 2, hv => simp at hv; subst hv; simp [go_sem, c2]
  · obtain ⟨blk, off, x, h1, h2, h3, h4⟩ := h.rd i hi
    refine ⟨blk, off, x, h1, h2, ?_, h4⟩
    have hne : blk ≠ b := by omega
    simp [go_sem, hne, Ne.symm hne, h3]
theorem wraps_u64 (n : Int) (h0 : 0 ≤ n) (h1 : n < 2 ^ 30) : IntKind.u64.wrap n = n := by rw [IntKind.wrap_u64]; omega
theorem and_255 (x : Int) (h0 : 0 ≤ x) (h : x < 2 ^ 30) : bits .and .u64 x 255 = x % 256 := by
  have := bits_mask .u64 30 (by decide) wraps_u64 8 (by decide) x h0 h
  rw [show ((2 : Int) ^ 8 - 1) = 255 from rfl] at this
  rw [this]; rfl

set_option maxRecDepth 100000 in
set_option maxHeartbeats 4000000 in
theorem next_any (b K : Nat) (w : World) (hs : SrcB w b K) (hK : K ≤ 1000000000) :
    Calls Try.prog 70 #[.pointer (some ⟨b, 0, none⟩)] w fun e w' => ∃ x : Int, e = .returned (.int .i64 x) ∧ 0 ≤ x ∧ x < 256 ∧ SrcB w' b (K + 1) ∧ Fs (fun k => k = b) w w' := by
  obtain ⟨ad, n, c, q, seed, hv, hq⟩ := hs
  have HV := Lib.hid hv
  have hn := hv.len
  obtain ⟨Q1, hQ1⟩ : ∃ Q1, Q1 = q + 1 := ⟨_, rfl⟩
  have r1 : IntKind.i64.wrap ((q : Int) + 1) = (Q1 : Int) := by rw [IntWalk.i64_in _ (by omega)]; omega
  have i0 : (0 : Int) ≤ (q : Int) := by omega
  have HQ1 := Lib.hid hQ1
  obtain ⟨s1, hs1⟩ : ∃ s1, IntKind.u64.wrap (seed * 6364136223846793005) = s1 := ⟨_, rfl⟩
  clear hv
  by_cases hlt : q < n
  · obtain ⟨blk, off, x, rfl, hbb, gx, hx0, hx1⟩ := HV.out.rd q hlt
    have kx := fun d os => cell_regrown gx d os
    have i1 : (q : Int) < (n : Int) := by omega
    have i2 : (Q1 : Int) ≤ (n : Int) := by omega
    have rx : IntKind.i64.wrap x = x := IntWalk.i64_in _ (by omega)
    have ru : IntKind.u64.wrap x = x := by rw [IntKind.wrap_u64]; omega
    obtain ⟨s2, hs2⟩ : ∃ s2, IntKind.u64.wrap (s1 + x) = s2 := ⟨_, rfl⟩
    obtain ⟨s3, hs3⟩ : ∃ s3, IntKind.u64.wrap (s2 + 1442695040888963407) = s3 := ⟨_, rfl⟩
    clear hQ1
    have c0 := HV.out.cs.get 0 _ rfl
    have c1 := HV.out.cs.get 1 _ rfl
    have c2 := HV.out.cs.get 2 _ rfl
    have k0 := fun d os => cell_regrown c0 d os
    have k1 := fun d os => cell_regrown c1 d os
    have k2 := fun d os => cell_regrown c2 d os
    go_enter Try.func70, Try.ntmps70
    go_wp2_with fail
    refine wp_region_quiet_below (by kernel_rfl) (by kernel_rfl) ?_
    repeat (first | go_big_quiet_skip | quiet_step (fail))
    refine wpQuiet_nil ?_
    intro _ hw'
    obtain ⟨⟨dq, osq⟩, hw''⟩ := hw'
    subst hw''
    have bq0 := below_regrown w dq osq
    generalize grow (redrawn w dq) osq = w1 at bq0 ⊢
    have B1 := Lib.hid bq0
    have V1 := Lib.hid (HV.out.fs (S := fun _ => False) (Fs.of_below bq0) (fun _ h => h.elim))
    have gx1 := bq0.cell (p := ⟨blk, off + q, none⟩) (cell_lt gx)
    rw [gx] at gx1
    clear c0 c1 c2 k0 k1 k2 kx gx bq0
    have kx := fun d os => cell_regrown gx1 d os
    have c0 := V1.out.cs.get 0 _ rfl
    have c1 := V1.out.cs.get 1 _ rfl
    have c2 := V1.out.cs.get 2 _ rfl
    have k0 := fun d os => cell_regrown c0 d os
    have k1 := fun d os => cell_regrown c1 d os
    have k2 := fun d os => cell_regrown c2 d os
    go_wp2_with fail
    refine wp_region_quiet_below (by kernel_rfl) (by kernel_rfl) ?_
    repeat (first | go_big_quiet_skip | quiet_step (fail))
    refine wpQuiet_nil ?_
    intro _ hw'
    obtain ⟨⟨dq, osq⟩, hw''⟩ := hw'
    subst hw''
    have bq0 := below_regrown w1 dq osq
    generalize grow (redrawn w1 dq) osq = w2 at bq0 ⊢
    have B2 := Lib.hid (B1.out.trans (bq0.mono B1.out.size))
    have V2 := Lib.hid (V1.out.fs (S := fun _ => False) (Fs.of_below bq0) (fun _ h => h.elim))
    clear c0 c1 c2 k0 k1 k2 kx gx1 bq0
    have c0 := V2.out.cs.get 0 _ rfl
    have c1 := V2.out.cs.get 1 _ rfl
    have c2 := V2.out.cs.get 2 _ rfl
    obtain ⟨W3, hW3⟩ : ∃ W3, W3 = (w2.setCell ⟨b, 1, none⟩ (.int .i64 Q1)).setCell ⟨b, 2, none⟩ (.int .u64 s3) := ⟨_, rfl⟩
    have V3 := Lib.hid (show SrcV W3 b (some ⟨blk, off, none⟩) n c Q1 s3 by rw [hW3]; exact V2.out.set Q1 s3)
    have F3 := Lib.hid (show Fs (fun k => k = b) w W3 by rw [hW3]; exact Fs.set (S := fun k => k = b) (a := ⟨b, 2, none⟩) (Fs.set (S := fun k => k = b) (a := ⟨b, 1, none⟩) (Fs.of_below B2.out) rfl _) rfl _)
    have HW3 := Lib.hid hW3
    have f1 := V2.out.fr 1
    have f2 := V2.out.fr 2
    clear hW3
    go_wp2_with fail
    rw [← HW3.out]
    clear c0 c1 c2 f1 f2
    have c0 := V3.out.cs.get 0 _ rfl
    have c1 := V3.out.cs.get 1 _ rfl
    have c2 := V3.out.cs.get 2 _ rfl
    have k0 := fun d os => cell_regrown c0 d os
    have k1 := fun d os => cell_regrown c1 d os
    have k2 := fun d os => cell_regrown c2 d os
    refine wp_region_quiet_below (by kernel_rfl) (by kernel_rfl) ?_
    repeat (first | go_big_quiet_skip | quiet_step (fail))
    refine wpQuiet_nil ?_
    intro _ hw'
    obtain ⟨⟨dq, osq⟩, hw''⟩ := hw'
    subst hw''
    have bq0 := below_regrown W3 dq osq
    generalize grow (redrawn W3 dq) osq = w4 at bq0 ⊢
    have V4 := Lib.hid (V3.out.fs (S := fun _ => False) (Fs.of_below bq0) (fun _ h => h.elim))
    have F4 := Lib.hid (F3.out.trans (Fs.of_below bq0))
    clear c0 c1 c2 k0 k1 k2 bq0
    go_wp2
    go_ret
    exact ⟨x, rfl, hx0, hx1, ⟨_, _, _, _, _, V4.out, by have := HQ1.out; omega⟩, F4.out⟩
  · have i1 : ¬ ((q : Int) < (n : Int)) := by omega
    have i1' : (n : Int) ≤ (q : Int) := by omega
    have i2 : (n : Int) < (Q1 : Int) := by omega
    obtain ⟨s2, hs2⟩ : ∃ s2, IntKind.u64.wrap s1 = s2 := ⟨_, rfl⟩
    have hs2' : IntKind.u64.wrap (s1 + 0) = s2 := by rw [Int.add_zero]; exact hs2
    obtain ⟨s3, hs3⟩ : ∃ s3, IntKind.u64.wrap (s2 + 1442695040888963407) = s3 := ⟨_, rfl⟩
    have hr3 : 0 ≤ s3 ∧ s3 < 18446744073709551616 := by rw [← hs3, IntKind.wrap_u64]; omega
    obtain ⟨T, hT⟩ : ∃ T, s3 / 1099511627776 = T := ⟨_, rfl⟩
    have hT0 : 0 ≤ T ∧ T < 2 ^ 30 := by omega
    have hT' : s3 / 2 ^ 40 = T := by rw [← hT]; rfl
    obtain ⟨R, hR⟩ : ∃ R, T % 256 = R := ⟨_, rfl⟩
    have an : bits .and .u64 T 255 = R := by rw [and_255 T hT0.1 hT0.2, hR]
    have hR0 : 0 ≤ R ∧ R < 256 := by omega
    have rw1 : IntKind.i64.wrap R = R := IntWalk.i64_in _ (by omega)
    have RR := Lib.hid hR0
    clear hQ1 hR hT0 hr3 hR0
    have c0 := HV.out.cs.get 0 _ rfl
    have c1 := HV.out.cs.get 1 _ rfl
    have c2 := HV.out.cs.get 2 _ rfl
    have k0 := fun d os => cell_regrown c0 d os
    have k1 := fun d os => cell_regrown c1 d os
    have k2 := fun d os => cell_regrown c2 d os
    go_enter Try.func70, Try.ntmps70
    go_wp2_with fail
    refine wp_region_quiet_below (by kernel_rfl) (by kernel_rfl) ?_
    repeat (first | go_big_quiet_skip | quiet_step (fail))
    refine wpQuiet_nil ?_
    intro _ hw'
    obtain ⟨⟨dq, osq⟩, hw''⟩ := hw'
    subst hw''
    have bq0 := below_regrown w dq osq
    generalize grow (redrawn w dq) osq = w1 at bq0 ⊢
    have B1 := Lib.hid bq0
    have V1 := Lib.hid (HV.out.fs (S := fun _ => False) (Fs.of_below bq0) (fun _ h => h.elim))
    clear c0 c1 c2 k0 k1 k2 bq0
    have c0 := V1.out.cs.get 0 _ rfl
    have c1 := V1.out.cs.get 1 _ rfl
    have c2 := V1.out.cs.get 2 _ rfl
    obtain ⟨W3, hW3⟩ : ∃ W3, W3 = (w1.setCell ⟨b, 1, none⟩ (.int .i64 Q1)).setCell ⟨b, 2, none⟩ (.int .u64 s3) := ⟨_, rfl⟩
    have V3 := Lib.hid (show SrcV W3 b ad n c Q1 s3 by rw [hW3]; exact V1.out.set Q1 s3)
    have F3 := Lib.hid (show Fs (fun k => k = b) w W3 by rw [hW3]; exact Fs.set (S := fun k => k = b) (a := ⟨b, 2, none⟩) (Fs.set (S := fun k => k = b) (a := ⟨b, 1, none⟩) (Fs.of_below B1.out) rfl _) rfl _)
    have HW3 := Lib.hid hW3
    have f1 := V1.out.fr 1
    have f2 := V1.out.fr 2
    clear hW3
    go_wp2_with fail
    rw [← HW3.out]
    clear c0 c1 c2 f1 f2
    have c0 := V3.out.cs.get 0 _ rfl
    have c1 := V3.out.cs.get 1 _ rfl
    have c2 := V3.out.cs.get 2 _ rfl
    have k0 := fun d os => cell_regrown c0 d os
    have k1 := fun d os => cell_regrown c1 d os
    have k2 := fun d os => cell_regrown c2 d os
    refine wp_region_quiet_below (by kernel_rfl) (by kernel_rfl) ?_
    repeat (first | go_big_quiet_skip | quiet_step (fail))
    refine wpQuiet_nil ?_
    intro _ hw'
    obtain ⟨⟨dq, osq⟩, hw''⟩ := hw'
    subst hw''
    have bq0 := below_regrown W3 dq osq
    generalize grow (redrawn W3 dq) osq = w4 at bq0 ⊢
    have V4 := Lib.hid (V3.out.fs (S := fun _ => False) (Fs.of_below bq0) (fun _ h => h.elim))
    have F4 := Lib.hid (F3.out.trans (Fs.of_below bq0))
    clear c0 c1 c2 k0 k1 k2 bq0
    have c0 := V4.out.cs.get 0 _ rfl
    have c1 := V4.out.cs.get 1 _ rfl
    have c2 := V4.out.cs.get 2 _ rfl
    go_wp2
    go_ret
    exact ⟨R, rfl, RR.out.1, RR.out.2, ⟨_, _, _, _, _, V4.out, by have := HQ1.out; omega⟩, F4.out⟩
set_option maxHeartbeats 2000000 in
theorem pick_any (b K : Nat) (n : Int) (w : World) (hs : SrcB w b K) (hK : K ≤ 900000000) :
    Calls Try.prog 35 #[.pointer (some ⟨b, 0, none⟩), .int .i64 n] w fun e w' => ∃ y : Int, e = .returned (.int .i64 y) ∧ 0 ≤ y ∧ (y = 0 ∨ y < n) ∧ SrcB w' b (K + 2) ∧ Fs (fun k => k = b) w w' := by
  have HS := Lib.hid hs
  clear hs
  by_cases h1 : n ≤ 1
  · go_enter Try.func35, Try.ntmps35
    go_wp2
    go_ret
    exact ⟨0, rfl, by omega, .inl rfl, HS.out.more (by omega), Fs.refl _ _⟩
  · have h1' : 1 < n := by omega
    by_cases h2 : n ≤ 200
    · go_enter Try.func35, Try.ntmps35
      go_wp2_with fail
      refine (next_any b K _ HS.out (by omega)).mono ?_
      rintro e w1 ⟨x, rfl, hx0, hx1, s1, f1⟩
      obtain ⟨R, hR⟩ : ∃ R, Int.tmod x n = R := ⟨_, rfl⟩
      have hR0 : 0 ≤ R ∧ R < n := by rw [← hR, Int.tmod_eq_emod_of_nonneg hx0]; exact ⟨Int.emod_nonneg _ (by omega), Int.emod_lt_of_pos _ (by omega)⟩
      have rw1 : IntKind.i64.wrap R = R := IntWalk.i64_in _ (by omega)
      have hn0 : ¬ n = 0 := by omega
      have RR := Lib.hid hR0
      clear hR0
      go_wp2
      go_ret
      exact ⟨R, rfl, RR.out.1, .inr RR.out.2, s1.more (by omega), f1⟩
    · have h2' : 200 < n := by omega
      go_enter Try.func35, Try.ntmps35
      go_wp2_with fail
      refine (next_any b K _ HS.out (by omega)).mono ?_
      rintro e w1 ⟨x, rfl, hx0, hx1, s1, f1⟩
      have ra : IntKind.i64.wrap (x * 256) = x * 256 := IntWalk.i64_in _ (by omega)
      go_wp2_with fail
      refine (next_any b (K + 1) _ s1 (by omega)).mono ?_
      rintro e w2 ⟨y, rfl, hy0, hy1, s2, f2⟩
      obtain ⟨X, hX⟩ : ∃ X, X = x * 256 + y := ⟨_, rfl⟩
      have rb : IntKind.i64.wrap (x * 256 + y) = X := by rw [hX]; exact IntWalk.i64_in _ (by omega)
      have hX0 : 0 ≤ X := by omega
      obtain ⟨R, hR⟩ : ∃ R, Int.tmod X n = R := ⟨_, rfl⟩
      have hR0 : 0 ≤ R ∧ R < n ∧ R ≤ X := by
        have hh := Int.tmod_eq_emod_of_nonneg (b := n) hX0
        rw [hR] at hh
        have h3 := Int.emod_nonneg X (show n ≠ 0 by omega)
        have h4 := Int.emod_lt_of_pos X (show 0 < n by omega)
        rcases Int.lt_or_le X n with h | h
        · rw [Int.emod_eq_of_lt hX0 h] at hh; omega
        · omega
      have rw1 : IntKind.i64.wrap R = R := IntWalk.i64_in _ (by omega)
      have hn0 : ¬ n = 0 := by omega
      have RR := Lib.hid hR0
      clear hR0 hX
      go_wp2
      go_ret
      exact ⟨R, rfl, RR.out.1, .inr RR.out.2.1, s2, f1.trans f2⟩
set_option maxHeartbeats 1000000 in
theorem one_any (b K : Nat) (n : Int) (w : World) (hs : SrcB w b K) (hK : K ≤ 900000000) :
    Calls Try.prog 74 #[.pointer (some ⟨b, 0, none⟩), .int .i64 n] w fun e w' => ∃ d : Bool, e = .returned (.bool d) ∧ SrcB w' b (K + 2) ∧ Fs (fun k => k = b) w w' := by
  have HS := Lib.hid hs
  clear hs
  go_enter Try.func74, Try.ntmps74
  go_wp2_with fail
  refine (pick_any b K n _ HS.out hK).mono ?_
  rintro e w1 ⟨y, rfl, hy0, _, s1, f1⟩
  generalize hd : (y == 0) = d
  go_wp2
  go_ret
  exact ⟨_, rfl, s1, f1⟩

theorem l00From_any {xs : List Int} (ad : Option Addr) (n c : Nat) (w : World) (hn : n ≤ 4096) (hx : xs.length = n) (hr : Rd w ad (xs.map (.int .u8))) (hb : ∀ x ∈ xs, 0 ≤ x ∧ x < 256) :
    Calls Try.prog 34 #[.slice ad n c] w fun e w' => e = .returned (.pointer (some ⟨w.heap.size, 0, none⟩)) ∧ SrcB w' w.heap.size 0 ∧ Below w.heap.size w w' := by
  have HR := Lib.hid hr
  have HB := Lib.hid hb
  have HX := Lib.hid hx
  have b1 : Below w.heap.size w (w.alloc (.cells #[.slice ad n c, .int .i64 0, .int .u64 0] 90)) := (Below.refl _ _).alloc (Nat.le_refl _) _
  have S1 : SrcB (w.alloc (.cells #[.slice ad n c, .int .i64 0, .int .u64 0] 90)) w.heap.size 0 := by
    refine ⟨ad, n, c, 0, 0, ⟨CellsAt.new w [.slice ad n c, .int .i64 0, .int .u64 0] 90, fun i => by simp [go_sem], hn, fun i hi => ?_⟩, Nat.le_refl _⟩
    have hi2 : i < xs.length := by rw [HX.out]; exact hi
    obtain ⟨blk, off, h1, h2, h3⟩ := HR.out i (.int .u8 xs[i]) (by simp [hi2])
    refine ⟨blk, off, xs[i], h1, h2, ?_, HB.out _ (List.getElem_mem hi2)⟩
    rw [b1.cell (p := ⟨blk, off + i, none⟩) h2]; exact h3
  have S1 := Lib.hid S1
  have B1 := Lib.hid b1
  clear hr hb hx b1
  go_enter Try.func34, Try.ntmps34
  go_wp2
  go_ret
  exact ⟨rfl, S1.out, B1.out⟩
end Go.Proofs.Ytghdginjdolgpaa
namespace Go.Proofs.Ytghdginjdolgpaa
open Go.RowKit Go.Sort
/-- from index k on, with sum q so far -/
def toFrom : List Int → Int → Int → Nat → Option Nat
  | [], _, _, _ => none
  | x :: r, d, q, k => if d < q + x then some k else toFrom r d (q + x) (k + 1)
def toOf (r : List Int) (d : Int) : Option Nat := toFrom r d 0 0
theorem toFrom_lt : ∀ (r : List Int) (d q : Int) (k : Nat), d < q + r.sum → r ≠ [] → (∀ x ∈ r, 0 ≤ x) → ∃ i, toFrom r d q k = some i ∧ k ≤ i ∧ i < k + r.length
  | [], _, _, _, _, h, _ => absurd rfl h
  | x :: r, d, q, k, hd, _, hx => by
    unfold toFrom
    by_cases h : d < q + x
    · exact ⟨k, by rw [if_pos h], Nat.le_refl _, by simp⟩
    · rw [if_neg h]
      rw [List.sum_cons] at hd
      cases r with
      | nil => simp at hd; omega
      | cons y r =>
        obtain ⟨i, h1, h2, h3⟩ := toFrom_lt (y :: r) d (q + x) (k + 1) (by omega) (by simp) (fun z hz => hx z (by simp [hz]))
        exact ⟨i, h1, by omega, by simp at h3 ⊢; omega⟩
theorem toOf_step {r : List Int} {d : Int} {j : Nat} (hj : j < r.length) : toFrom (r.drop j) d (r.take j).sum j = if d < (r.take j).sum + r[j] then some j else toFrom (r.drop (j + 1)) d (r.take (j + 1)).sum (j + 1) := by
  rw [List.drop_eq_getElem_cons hj]
  have : (r.take (j + 1)).sum = (r.take j).sum + r[j] := sum_succ hj
  rw [this]
  rfl
/-- the row is right for a total -/
def RowB (r : List Int) : Prop := r.length ≤ 6 ∧ ∀ x ∈ r, 0 ≤ x ∧ x ≤ 60
theorem RowB.sum {r : List Int} (h : RowB r) (j : Nat) : 0 ≤ (r.take j).sum ∧ (r.take j).sum ≤ 1000 := by
  have hin : inAll (r.take j) 60 = true := by
    unfold inAll
    rw [List.all_eq_true]
    intro x hx
    have := h.2 x (List.mem_of_mem_take hx)
    exact inR_iff.2 this
  have h2 := inAll_sum (t := 60) (by omega) hin
  have h3 : (r.take j).length ≤ 6 := by rw [List.length_take]; have := h.1; omega
  omega
theorem chainOk_parts0 {s t : Int} {xss : List (List Int)} (h : chainOk s t xss = true) : (1 ≤ s ∧ s ≤ 6) ∧ (1 ≤ t ∧ t ≤ 60) ∧ (xss.length : Int) = s ∧ rowsOk s t xss = true := by
  unfold chainOk at h
  rw [Bool.and_eq_true, Bool.and_eq_true, Bool.and_eq_true] at h
  exact ⟨inR_iff.1 h.1, inR_iff.1 h.2.1, of_decide_eq_true h.2.2.1, h.2.2.2⟩
theorem rowB_of {s t : Int} {xss : List (List Int)} (h : chainOk s t xss = true) {k : Nat} (hk : k < xss.length) : RowB xss[k] ∧ (xss[k].length : Int) = s ∧ xss[k].sum = t := by
  unfold chainOk at h
  rw [Bool.and_eq_true, Bool.and_eq_true, Bool.and_eq_true] at h
  have hs := inR_iff.1 h.1
  have ht := inR_iff.1 h.2.1
  have hr := h.2.2.2
  unfold rowsOk at hr
  rw [List.all_eq_true] at hr
  have := hr _ (List.getElem_mem hk)
  unfold rowOk at this
  rw [Bool.and_eq_true, Bool.and_eq_true] at this
  have hl := of_decide_eq_true this.1
  have ha := this.2.1
  unfold inAll at ha
  rw [List.all_eq_true] at ha
  refine ⟨⟨by omega, fun x hx => ?_⟩, hl, of_decide_eq_true this.2.2⟩
  have := inR_iff.1 (ha x hx)
  omega

set_option maxHeartbeats 1000000 in
theorem stepByDraw_any {v : Value} {xss : List (List Int)} (s t d : Int) (k : Nat) (w : World) (ha : SlII w v xss) (hk : k < xss.length) (hB : RowB xss[k]) :
    Calls Try.prog 46 #[.agg #[.int .i64 s, .int .i64 t, v], .int .i64 k, .int .i64 d] w fun e w' => e = .returned (.int .i64 (((toOf xss[k] d).map Int.ofNat).getD (-1))) ∧ Below w.heap.size w w' := by
  obtain ⟨a, ca, us, rfl, hca, hca', hul, hrd, hrow⟩ := ha
  obtain ⟨x, ba, oa, rfl, hrowk⟩ := SlII.rowAt hul hrd hrow hk
  generalize hr : xss[k] = r at hrowk hB
  obtain ⟨ra, rc, rfl, hrc, hrc', _⟩ := id hrowk.2.2
  have bb : Below w.heap.size w (w.alloc (chObj s t (.slice (some ⟨ba, oa, none⟩) xss.length ca))) := chBelow _ _ _ _
  obtain ⟨g0, ga, ra', rc', he, _, _, hrr⟩ := hrowk.below bb
  simp at he
  obtain ⟨rfl, rfl⟩ := he
  unfold maxLen at hca' hrc'
  have i1 : (k : Int) < (xss.length : Int) := by omega
  have hr6 : r.length ≤ 6 := hB.1
  have HB := Lib.hid hB
  have HBB := Lib.hid bb
  clear hr hul hrd hrow hca hca' hrc hB hrowk bb
  have GA := Lib.hid ga
  go_enter Try.func46, Try.ntmps46
  unfold chObj at ga
  go_wp2
  clear ga
  go_loopw [7, 16] (fun q i wr => ∃ j : Nat, j ≤ r.length ∧ i = .int .i64 j ∧ q = .int .i64 (r.take j).sum ∧ toOf r d = toFrom (r.drop j) d (r.take j).sum j ∧ wr = w.alloc (chObj s t (.slice (some ⟨ba, oa, none⟩) xss.length ca))) (fun _ i _ => r.length - (intOf i).toNat)
  case atStart => exact ⟨0, Nat.zero_le _, rfl, rfl, rfl, rfl⟩
  case round =>
    obtain ⟨j, hj, rfl, rfl, hto, rfl⟩ := hrel
    have HT := Lib.hid hto
    clear hto
    have hs0 := (HB.out.sum j).1
    have hs1 := (HB.out.sum j).2
    by_cases hjt : j < r.length
    · obtain ⟨rb, ro, rfl, gr⟩ := hrr.one (i64s_get hjt)
      have hx := HB.out.2 r[j] (List.getElem_mem hjt)
      have hx0 : 0 ≤ r[j] := hx.1
      have hx1 : r[j] ≤ 60 := hx.2
      have hst := toOf_step (d := d) hjt
      have HST := Lib.hid hst
      have i3 : (j : Int) < (r.length : Int) := by omega
      clear hx hst
      by_cases hd : d < (r.take j).sum + r[j]
      · go_wp2
        go_ret
        exact ⟨ri (by rw [HT.out, HST.out, if_pos hd]; rfl), HBB.out⟩
      · go_wp2
        go_roundw
        case rel => exact ⟨j + 1, by omega, by go_num, vi (sum_succ hjt).symm, by rw [HT.out, HST.out, if_neg (by omega)], trivial⟩
        case measure => simp [intOf]; omega
    · obtain rfl : j = r.length := by omega
      go_wp2
      go_ret
      exact ⟨ri (by rw [HT.out]; simp [toFrom]), HBB.out⟩

def upTo (n : Nat) : List Int := (List.range n).map fun (i : Nat) => (i : Int)
theorem upTo_succ (n : Nat) : upTo (n + 1) = upTo n ++ [(n : Int)] := by simp [upTo, List.range_succ]
theorem upTo_length (n : Nat) : (upTo n).length = n := by simp [upTo]

set_option maxHeartbeats 400000 in
theorem everyState_any (n : Nat) (w : World) (hn : n ≤ 1000) :
    Calls Try.prog 52 #[.int .i64 n] w fun e w' => ∃ v, e = .returned v ∧ OwnI w' w.heap.size v (upTo n) ∧ Below w.heap.size w w' := by
  go_enter Try.func52, Try.ntmps52
  go_wp2
  go_loopw [3, 7] (fun v i wr => ∃ k : Nat, k ≤ n ∧ i = .int .i64 k ∧ OwnI wr w.heap.size v (upTo k) ∧ Below w.heap.size w wr) (fun _ i _ => n - (intOf i).toNat)
  case atStart => exact ⟨0, Nat.zero_le _, rfl, OwnI.empty _ (Nat.le_refl _), (Below.refl _ _).alloc (Nat.le_refl _) _⟩
  case round =>
    obtain ⟨k, hk, rfl, hown, hbw⟩ := hrel
    by_cases hlt : k < n
    · have hsz := hbw.size
      have hl := upTo_length k
      go_wp2_with (at_builtin; refine append_i64 _ _ _ _ rfl rfl rfl hown rfl (by omega) (by omega) ?_)
      intro v' w1 hown1 hb1 hsz1
      rw [← upTo_succ] at hown1
      have hb2 := (hbw.alloc hsz _).trans hb1
      clear hown hb1
      go_wp2
      go_roundw
      case rel => exact ⟨k + 1, by omega, by go_num, hown1, hb2⟩
      case measure => simp [intOf]; omega
    · obtain rfl : k = n := by omega
      go_wp2
      go_ret
      exact ⟨_, rfl, hown, hbw⟩
end Go.Proofs.Ytghdginjdolgpaa
namespace Go.Proofs.Ytghdginjdolgpaa
open Go.RowKit Go.Sort
section
variable {P : Program} {ops : Array Oper} {md : Region.Mode} {C : World → Prop} {n : Nat}
/-- for f operations more only operations below n come up, each quiet; then L -/
def HeadQ (P : Program) (md : Region.Mode) (ops : Array Oper) (C : World → Prop) (n : Nat) (L : Array Bool → Act → Prop) : Nat → Array Bool → Act → Prop
  | 0, s, a => L s a
  | f + 1, s, a => Region.ready md ops s ≠ [] ∧ ∀ i ∈ Region.ready md ops s, i < n ∧ qOp P ops C i (HeadQ P md ops C n L f (s.setIfInBounds i true)) a
theorem HeadQ.sound {g : Nat} {L : Array Bool → Act → Prop} {Q : Exit → Act → World → Prop} (hL : ∀ s a w, C w → L s a → wpAny P md ops Q g s a w) (f : Nat) :
    ∀ (s : Array Bool) (a : Act) (w : World), C w → HeadQ P md ops C n L f s a → wpAny P md ops Q (f + g) s a w := by
  induction f with
  | zero => intro s a w hw h; rw [Nat.zero_add]; exact hL s a w hw h
  | succ f ih =>
    intro s a w hw h
    rw [show f + 1 + g = (f + g) + 1 by omega]
    exact ⟨fun h0 => absurd h0 h.1, fun i hi => wpOp_of_qOp hw (fun a' w' hw' h' => ih _ a' w' hw' h') (h.2 i hi).2⟩
/-- the head's bounds: what is ready is below n while an operation below n is not yet done -/
theorem ready_low {i : Nat} {s : Array Bool} (hs : Region.sinkB md ops n = true) (hc : Region.chainB md ops n = true) (hn : n < ops.size) (hin : i < n) (inv : HeadInv md ops n s) (hr : i ∈ Region.ready md ops s) :
    ∀ j ∈ Region.ready md ops s, j < n := fun j hj => by
  refine Nat.lt_of_not_le fun h => ?_
  exact tail_waits hs hc hn inv _ i rfl hin (mem_ready.1 hr).1 j h hj
theorem HeadQ.first {i : Nat} {o : Oper} {v : Value} {L : Array Bool → Act → Prop} (hi : ops[i]? = some o) (hsel : ∀ (j : Nat) (o : Oper) cs b, ops[j]? = some o → o.op ≠ .select cs b)
    (hs : Region.sinkB md ops n = true) (hc : Region.chainB md ops n = true) (hn : n < ops.size) (hin : i < n) (hend : ∀ s a, L s a → ∀ j ∈ Region.ready md ops s, n ≤ j) (f : Nat) :
    ∀ (s : Array Bool) (a : Act), HeadInv md ops n s →
      (∀ j p, ops[j]? = some p → j ≠ i → s.getD j true = false → (∀ e ∈ p.after, Region.binds md e = true → e.on ≠ i) → o.apart ops p = true) →
      i ∈ Region.ready md ops s → YieldsIn P ops C o v a → HeadQ P md ops C n L f (s.setIfInBounds i true) (a.put o.dst v) → HeadQ P md ops C n L (f + 1) s a := by
  induction f with
  | zero =>
    intro s a inv _ hr hy h
    have low := ready_low hs hc hn hin inv hr
    refine ⟨List.ne_nil_of_mem hr, fun j hj => ⟨low j hj, ?_⟩⟩
    by_cases e : j = i
    · rw [e]; exact hy.qOp hi h
    · exact absurd (hend _ _ h j (ready_mono hj e)) (Nat.not_le_of_lt (low j hj))
  | succ f ih =>
    intro s a inv hfree hr hy h
    have low := ready_low hs hc hn hin inv hr
    have open_i := (mem_ready.1 hr).1
    refine ⟨List.ne_nil_of_mem hr, fun j hj => ⟨low j hj, ?_⟩⟩
    by_cases e : j = i
    · rw [e]; exact hy.qOp hi h
    · obtain ⟨open_j, p, hp, hwait⟩ := mem_ready.1 hj
      have far : ∀ d ∈ p.after, Region.binds md d = true → d.on ≠ i := by
        intro d hd hb he
        have h1 := hwait d hd hb
        rw [he, getD_both open_i] at h1
        exact Bool.noConfusion h1
      have two := qOp_put hp (hfree j p hp e open_j far) (fun cs b => hsel i o cs b hi) (fun cs b => hsel j p cs b hp) hy (h.2 j (ready_mono hj e)).2
      refine qOp_mono (fun a' ha' => ih _ a' (inv.set hj (low j hj)) ?_ (ready_mono hr (Ne.symm e)) ha'.1 ?_) two
      · intro k q hq hk hun hno
        refine hfree k q hq hk ?_ hno
        by_cases hjk : j = k
        · rw [← hjk]; exact open_j
        · rwa [getD_set_ne true hjk] at hun
      · rw [Array.setIfInBounds_comm _ _ e]; exact ha'.2
theorem HeadQ.lex {g : Nat} {K : Act → Prop} (hsel : Region.noSelect ops = true) (hs : Region.sinkB md ops n = true) (hc : Region.chainB md ops n = true) (hn : n < ops.size) (l : List Oper) :
    ∀ (k : Nat) (s : Array Bool) (a : Act), (∀ j, j < l.length → l[j]? = ops[k + j]?) → k + l.length = n → HeadInv md ops n s → Region.lexHead md ops g l.length k s = true → wpQuiet P ops C K l a →
      HeadQ P md ops C n (fun s' a' => Region.seqB md ops g n s' = true ∧ K a') l.length s a := by
  induction l with
  | nil =>
    intro k s a _ hk _ hB h
    have e : k = n := by simpa using hk
    exact ⟨by rw [← e]; simpa [Region.lexHead] using hB, h⟩
  | cons o l ih =>
    intro k s a hl hk inv hB h
    have h0 : ops[k]? = some o := by simpa using (hl 0 (by simp)).symm
    have hkn : k < n := by rw [List.length_cons] at hk; omega
    rw [List.length_cons, Region.lexHead, Bool.and_eq_true, Bool.and_eq_true] at hB
    have hr : k ∈ Region.ready md ops s := by simpa using hB.1.1
    obtain ⟨v, hy, hK⟩ := yieldsIn_of_qOp (K := wpQuiet P ops C K l) h0 (by unfold qOp; simp only [h0]; exact h)
    refine HeadQ.first h0 (Region.noSelect_spec hsel) hs hc hn hkn (fun s' a' hL => seqB_ready hL.1) l.length s a inv (Region.free_spec h0 hB.1.2) hr hy ?_
    refine ih (k + 1) _ _ (fun j hj => ?_) (by rw [List.length_cons] at hk; omega) (inv.set hr hkn) hB.2 hK
    have := hl (j + 1) (by rw [List.length_cons]; omega)
    simpa [Nat.add_assoc, Nat.add_comm 1 j] using this
theorem wp_region_quiet_tail {id : Nat} {Q : Exit → Act → World → Prop} {a : Act} {w : World} {l : List Oper} (n : Nat) (hm : P.follows .mixedOrders = true) (hB : Region.lexTailB .any l.toArray n = true) (hC : C { w with drawn := w.drawn + 1 })
    (h : wpQuiet P l.toArray C (fun a' => ∀ w', C w' → wpList P l.toArray Q (l.drop n) a' w') (l.take n) a) : (Code.region id l.toArray true).wp P Q a w := by
  rw [Region.lexTailB, Bool.and_eq_true, Bool.and_eq_true, Bool.and_eq_true, Bool.and_eq_true, decide_eq_true_eq] at hB
  obtain ⟨⟨⟨⟨hsel, hn⟩, hs⟩, hc⟩, hlex⟩ := hB
  have hn' : n < l.length := by simpa using hn
  have htl : (l.take n).length = n := by rw [List.length_take]; omega
  have hdl : (l.drop n).length = l.toArray.size - n := by simp
  have inv0 : HeadInv .any l.toArray n (Array.replicate l.toArray.size false) :=
    ⟨by simp, fun j oj _ hl => (by rw [getD_replicate_false] at hl; exact Bool.noConfusion hl), fun t _ ht => getD_in (by simpa using ht) (getD_replicate_false _ _)⟩
  have H := HeadQ.lex (P := P) (md := .any) (g := l.toArray.size - n) hsel hs hc hn (l.take n) 0 _ a (fun j hj => by
    have hj' : j < n := by rwa [htl] at hj
    simp [hj']) (by simpa using htl) inv0 (by rw [htl]; exact hlex) h
  refine wp_region_any hm ?_
  have := HeadQ.sound (Q := Q) (g := l.toArray.size - n) (fun s a' w' hw' hL => by
    have := wpAny_of_seq (P := P) (Q' := Q) (l.drop n) n s a' w' (fun j => by simp) (by rw [hdl]; exact hL.1) (hL.2 w' hw')
    rwa [hdl] at this) _ _ _ _ hC H
  rw [htl, show n + (l.toArray.size - n) = l.toArray.size by omega] at this
  exact this
/-- the class: worlds that hold what w held -/
theorem wp_region_below_tail {id : Nat} {Q : Exit → Act → World → Prop} {a : Act} {w : World} {l : List Oper} (n : Nat) (hm : P.follows .mixedOrders = true) (hB : Region.lexTailB .any l.toArray n = true)
    (h : wpQuiet P l.toArray (fun w' => ∃ p : Regrown, w' = grow (redrawn w p.d) p.os) (fun a' => ∀ w', (∃ p : Regrown, w' = grow (redrawn w p.d) p.os) → wpList P l.toArray Q (l.drop n) a' w') (l.take n) a) : (Code.region id l.toArray true).wp P Q a w :=
  wp_region_quiet_tail (C := fun w' => ∃ p : Regrown, w' = grow (redrawn w p.d) p.os) n hm hB ⟨⟨w.drawn + 1, #[]⟩, by rw [grow_empty]; rfl⟩ h
end
end Go.Proofs.Ytghdginjdolgpaa
namespace Go.Proofs.Ytghdginjdolgpaa
open Go.RowKit Go.Sort
def nxt (xss : List (List Int)) (d x : Int) : Int := (((toOf (xss.getD x.toNat []) d).getD 0 : Nat) : Int)
def stepAll (xss : List (List Int)) (d : Int) (at' : List Int) : List Int := at'.map (nxt xss d)
def runAll (xss : List (List Int)) (draws : List Int) (n : Nat) : List Int := draws.foldr (stepAll xss) (upTo n)
def DrawsB (t : Int) (draws : List Int) : Prop := ∀ d ∈ draws, 0 ≤ d ∧ d < t
def InN (n : Nat) (l : List Int) : Prop := ∀ x ∈ l, 0 ≤ x ∧ x < n
theorem upTo_in (n : Nat) : InN n (upTo n) := by
  intro x hx
  simp [upTo] at hx
  obtain ⟨i, hi, rfl⟩ := hx
  omega
theorem nxt_spec {s t : Int} {xss : List (List Int)} (h : chainOk s t xss = true) {d : Int} (hd : 0 ≤ d ∧ d < t) {k : Nat} (hk : k < xss.length) :
    ∃ i, toOf xss[k] d = some i ∧ nxt xss d k = (i : Int) ∧ i < xss.length := by
  obtain ⟨hB, hl, hs⟩ := rowB_of h hk
  obtain ⟨h1, h2, h3, h4⟩ := chainOk_parts0 h
  have hne : xss[k] ≠ [] := by intro e; rw [e] at hl; simp at hl; omega
  obtain ⟨i, e1, _, e3⟩ := toFrom_lt xss[k] d 0 0 (by omega) hne (fun x hx => (hB.2 x hx).1)
  refine ⟨i, e1, ?_, by omega⟩
  unfold nxt
  have : xss.getD (k : Int).toNat [] = xss[k] := by simp [hk]
  rw [this]
  unfold toOf
  rw [e1]; rfl
theorem stepAll_in {s t : Int} {xss : List (List Int)} (h : chainOk s t xss = true) {d : Int} (hd : 0 ≤ d ∧ d < t) {l : List Int} (hl : InN xss.length l) : InN xss.length (stepAll xss d l) := by
  intro x hx
  simp [stepAll] at hx
  obtain ⟨y, hy, rfl⟩ := hx
  have hy2 := hl y hy
  obtain ⟨k, rfl⟩ := Int.eq_ofNat_of_zero_le hy2.1
  obtain ⟨i, _, e2, e3⟩ := nxt_spec h hd (k := k) (by omega)
  rw [e2]; omega
theorem runAll_in {s t : Int} {xss : List (List Int)} (h : chainOk s t xss = true) : ∀ {draws : List Int}, DrawsB t draws → InN xss.length (runAll xss draws xss.length)
  | [], _ => upTo_in _
  | d :: ds, hd => stepAll_in h (hd d (by simp)) (runAll_in h (fun x hx => hd x (by simp [hx])))
theorem runAll_length (xss : List (List Int)) (n : Nat) : ∀ draws : List Int, (runAll xss draws n).length = n
  | [] => by simp [runAll, upTo]
  | d :: ds => by
    have := runAll_length xss n ds
    unfold runAll at this ⊢
    simp [stepAll, this]
theorem runAll_drop {xss : List (List Int)} {draws : List Int} {n k : Nat} (hk : k < draws.length) : runAll xss (draws.drop k) n = stepAll xss draws[k] (runAll xss (draws.drop (k + 1)) n) := by
  rw [List.drop_eq_getElem_cons hk]; rfl
theorem mixStep {xss : List (List Int)} {d : Int} {l : List Int} {i : Nat} (hi : i < l.length) :
    ((stepAll xss d l).take i ++ l.drop i).set i (nxt xss d l[i]) = (stepAll xss d l).take (i + 1) ++ l.drop (i + 1) := by
  have h1 : i < (stepAll xss d l).length := by simp [stepAll]; exact hi
  rw [List.set_append_right _ _ (by simp; omega), List.take_succ_eq_append_getElem h1, List.drop_eq_getElem_cons hi, List.append_assoc]
  have e2 : i - ((stepAll xss d l).take i).length = 0 := by simp [stepAll]; omega
  rw [e2, List.set_cons_zero]
  simp [stepAll]
theorem mixGet {xss : List (List Int)} {d : Int} {l : List Int} {i : Nat} (hi : i < l.length) :
    ((stepAll xss d l).take i ++ l.drop i)[i]'(by simp [stepAll]; omega) = l[i] := by
  rw [List.getElem_append_right (by rw [List.length_take]; omega)]
  simp [stepAll, Nat.min_eq_left (Nat.le_of_lt hi)]
theorem mixLen {xss : List (List Int)} {d : Int} {l : List Int} {i : Nat} (hi : i ≤ l.length) : ((stepAll xss d l).take i ++ l.drop i).length = l.length := by
  simp [stepAll]; omega
def allAs (l : List Int) : Bool := l.all fun x => decide (x = l.headD 0)
def winMet (l : List Int) : Bool := allAs l
def winState (l : List Int) : Int := if allAs l = true then l.headD 0 else 0

theorem head_get {l : List Int} (h : 0 < l.length) : l[0] = l.headD 0 := by
  cases l with
  | nil => simp at h
  | cons x l => rfl
theorem head_one {l : List Int} (h : 0 < l.length) : (l.take 1).all (fun x => decide (x = l.headD 0)) = true := by
  cases l with
  | nil => simp at h
  | cons x l => simp
theorem all_succ {l : List Int} {j : Nat} {c : Int} (h : (l.take j).all (fun x => decide (x = c)) = true) (hj : j < l.length) (he : l[j] = c) : (l.take (j + 1)).all (fun x => decide (x = c)) = true := by
  rw [List.take_succ_eq_append_getElem hj, List.all_append, h]; simp [he]
theorem allAs_no {l : List Int} {j : Nat} (hj : j < l.length) (he : ¬ l[j] = l.headD 0) : allAs l = false := by
  unfold allAs
  rw [List.all_eq_false]
  exact ⟨l[j], List.getElem_mem hj, by simpa using he⟩
theorem ret_win {l : List Int} (h : allAs l = false) : Ending.returned (.tuple #[.bool false, .int .i64 0]) = .returned (.tuple #[.bool (winMet l), .int .i64 (winState l)]) := by
  unfold winMet winState; rw [h]; rfl
theorem ret_win2 {l : List Int} (h : allAs l = true) : Ending.returned (.tuple #[.bool true, .int .i64 (l.headD 0)]) = .returned (.tuple #[.bool (winMet l), .int .i64 (winState l)]) := by
  unfold winMet winState; rw [h]; rfl
theorem stepByDraw_b {v : Value} {xss : List (List Int)} (s t d : Int) (k : Nat) (w : World) (ha : SlII w v xss) (hv : chainOk s t xss = true) (hd : 0 ≤ d ∧ d < t) (hk : k < xss.length) :
    Calls Try.prog 46 #[.agg #[.int .i64 s, .int .i64 t, v], .int .i64 k, .int .i64 d] w fun e w' => e = .returned (.int .i64 (nxt xss d k)) ∧ Below w.heap.size w w' := by
  obtain ⟨hB, hl, _⟩ := rowB_of hv hk
  obtain ⟨i, e1, e2, _⟩ := nxt_spec hv hd hk
  refine (stepByDraw_any s t d k w ha hk hB).mono fun e w' ⟨h1, h2⟩ => ?_
  exact ⟨by rw [h1, e1, e2]; rfl, h2⟩
end Go.Proofs.Ytghdginjdolgpaa
