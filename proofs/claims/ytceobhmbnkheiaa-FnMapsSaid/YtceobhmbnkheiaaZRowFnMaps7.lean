/-
  IsIndependent, both sides. With it: Laws at one operation, in a list of operations and in a region that draws its order: a call by its contract, append on owned slices and rows. The laws' own comparisons: f6big, f6ints. Graphs: valid or not, the reference's. Colourings: what a graph that is valid is; lists of colours; proper colourings, both sides. The reference's l08Ok, l08List, l08Asked, l08Proper. IsColouring, both sides, and the codes of graphs, colours and lists. IsColouring, both sides. Decks by search in depth: the program's decks, DeckAt and DeckNumber.
-/
import Derived.Test.YtceobhmbnkheiaaZRowFnMaps3
import Derived.Test.YtceobhmbnkheiaaZRowFnMaps4
import Derived.Deep.RegionLaw
import Derived.Test.YtceobhmbnkheiaaZRowFnMaps5
set_option linter.unusedVariables false
set_option linter.unusedSimpArgs false
namespace Go.Proofs.Ytceobhmbnkheiaa
open Go.RowKit Go.Sort
theorem step_of_wp {P : Program} {ops : Array Oper} {o : Oper} {a : Act} {w : World} {K : Act → World → Prop} {Q : Exit → Act → World → Prop} {E : Prop} (hg : o.guard = none) (h : Oper.wp P o a w K Q) : if Region.wanted o (yielded ops a.tmps) = true then Oper.wp P o a w K Q else E := by
  rw [if_pos (by simp [Region.wanted, hg])]; exact h
theorem wp_calls {P : Program} {o : Oper} {a : Act} {w : World} {K : Act → World → Prop} {Q : Exit → Act → World → Prop} {f : FuncId} {args : Array Value} {R : Ending → World → Prop}
    (hrun : (execOp a.eval o).run P w = .ok (.enter f args) w) (hc : Calls P f args w R) (hK : ∀ e w', R e w' → ∃ v, e = .returned v ∧ K (a.put o.dst v) w') : Oper.wp P o a w K Q := by
  unfold Oper.wp
  rw [hrun, Oper.upon_enter]
  exact hc.mono (fun e w' h => by obtain ⟨v, rfl, hk⟩ := hK e w' h; exact hk)
theorem step_calls {P : Program} {ops : Array Oper} {o : Oper} {a : Act} {w : World} {K : Act → World → Prop} {Q : Exit → Act → World → Prop} {E : Prop} {f : FuncId} {args : Array Value} {R : Ending → World → Prop} (hg : o.guard = none)
    (hrun : (execOp a.eval o).run P w = .ok (.enter f args) w) (hc : Calls P f args w R) (hK : ∀ e w', R e w' → ∃ v, e = .returned v ∧ K (a.put o.dst v) w') : if Region.wanted o (yielded ops a.tmps) = true then Oper.wp P o a w K Q else E :=
  step_of_wp hg (wp_calls hrun hc hK)
theorem list_of_wp {P : Program} {ops : Array Oper} {rest : List Oper} {o : Oper} {a : Act} {w : World} {Q : Exit → Act → World → Prop} (hg : o.guard = none) (h : ∀ K : Act → World → Prop, (∀ a' w', wpList P ops Q rest a' w' → K a' w') → Oper.wp P o a w K Q) : wpList P ops Q (o :: rest) a w :=
  wpList_plain hg h
namespace Flat
variable {α : Type}
/-- append of any slice on an owned one, at the operation -/
theorem wpApp {o : Oper} {a : Act} {K : Act → World → Prop} {Q : Exit → Act → World → Prop} (F : Flat α) (w : World) (s x : Operand)
    (ho : o.op = .call { callee := .builtin .append, args := #[s, x], argTypes := #[F.T, F.T] })
    {base : Nat} {v : Value} {xs ys : List α} (hs : a.eval s = v) (hown : F.Own w base v xs) {ad : Option Addr} {c : Nat} (hx : a.eval x = .slice ad ys.length c) (hr : Rd w ad (F.encs ys))
    (hlen : xs.length + ys.length ≤ 16777216) (hbase : base ≤ w.heap.size)
    (h : ∀ v' w', F.Own w' base v' (xs ++ ys) → w.grownBy w' v.ownBlock → K (a.put o.dst v') w') : Oper.wp Try.prog o a w K Q := by
  obtain ⟨i0, hi, hz0, hz1, hz2⟩ := info_parts F.inf
  cases ad with
  | none =>
    have h0 : ys = [] := by
      cases ys with
      | nil => rfl
      | cons y ys =>
        have hl : 0 < (F.encs (y :: ys)).length := by rw [F.encs_length]; exact Nat.mul_pos (by simp) F.pos
        obtain ⟨b, off, h1, _⟩ := hr.all hl
        simp at h1
    subst h0
    have hrun := run_append_of_nil (P := Try.prog) w base F.T o.type F.E i0 F.size F.und hi v xs.length (F.encs xs) hown c
    unfold Oper.wp execOp
    simp only [List.length_nil] at hx
    simp only [ho, resolve, invoke, builtin, Sem.run_bind, Sem.run_pure, Result.andThen_ok, List.map_toArray, List.map_cons, List.map_nil, hs, hx, hrun]
    exact h v w (by simpa using hown) (World.grownBy.refl w _)
  | some ad =>
    refine wp_append_own w s x _ ho base F.E i0 F.z F.size F.bytes F.und hi hz0 hz1 hz2 F.zsz F.pos v xs.length (F.encs xs) hs hown ad ys.length c (F.encs ys) hx (F.encs_length ys) ?_ (fun u hu => F.encs_one hu) (by simp [maxLen]; omega) ?_ hbase (fun v' w' h1 h2 _ => ?_)
    · intro j u hu
      obtain ⟨b, off, he, _, hc⟩ := hr j u hu
      simp at he
      subst he
      unfold Addr.add
      by_cases hj : j = 0
      · subst hj; simpa using hc
      · simpa [hj] using hc
    · have := F.few
      calc (xs.length + ys.length) * F.bytes ≤ 16777216 * 4096 := Nat.mul_le_mul hlen this
        _ ≤ 140737488355328 := by decide
    · refine h v' w' ?_ h2
      unfold Own
      rw [encs_append, List.length_append]
      exact h1
end Flat
theorem rd_one {w : World} {g : Nat} {u : Value} (h : w.cell? ⟨g, 0, none⟩ = some u) (hg : g < w.heap.size) : Rd w (some ⟨g, 0, none⟩) [u] := by
  intro j x hx
  cases j with
  | zero => simp at hx; subst hx; exact ⟨g, 0, rfl, hg, h⟩
  | succ j => simp at hx
theorem cell_lt {w : World} {g i : Nat} {u : Value} (h : w.cell? ⟨g, i, none⟩ = some u) : g < w.heap.size := by
  unfold World.cell? at h
  cases hh : w.heap[g]? with
  | none => rw [hh] at h; simp at h
  | some o => exact (Array.getElem?_eq_some_iff.1 hh).1
/-- append(v, y) on an owned []int64; y lies in a block of its own -/
theorem wpAppI {o : Oper} {a : Act} {K : Act → World → Prop} {Q : Exit → Act → World → Prop} (w : World) (s x : Operand)
    (ho : o.op = .call { callee := .builtin .append, args := #[s, x], argTypes := #[32, 32] })
    {base g : Nat} {v : Value} {xs : List Int} {y : Int} (hs : a.eval s = v) (hown : OwnI w base v xs) (hx : a.eval x = .slice (some ⟨g, 0, none⟩) 1 1) (hc : w.cell? ⟨g, 0, none⟩ = some (.int .i64 y))
    (hlen : xs.length < 16777216) (hbase : base ≤ w.heap.size)
    (h : ∀ v' w', OwnI w' base v' (xs ++ [y]) → w.grownBy w' v.ownBlock → K (a.put o.dst v') w') : Oper.wp Try.prog o a w K Q := by
  refine Flat.wpApp FI w s x ho hs (by rw [FI_own]; exact hown) (ys := [y]) hx (by rw [FI_encs]; exact rd_one hc (cell_lt hc)) (by simp; omega) hbase (fun v' w' h1 h2 => h v' w' (by rw [FI_own] at h1; exact h1) h2)
theorem listAppI {ops : Array Oper} {rest : List Oper} {o : Oper} {a : Act} {Q : Exit → Act → World → Prop} (w : World) (s x : Operand) (hg : o.guard = none)
    (ho : o.op = .call { callee := .builtin .append, args := #[s, x], argTypes := #[32, 32] })
    {base g : Nat} {v : Value} {xs : List Int} {y : Int} (hs : a.eval s = v) (hown : OwnI w base v xs) (hx : a.eval x = .slice (some ⟨g, 0, none⟩) 1 1) (hc : w.cell? ⟨g, 0, none⟩ = some (.int .i64 y))
    (hlen : xs.length < 16777216) (hbase : base ≤ w.heap.size)
    (h : ∀ v' w', OwnI w' base v' (xs ++ [y]) → w.grownBy w' v.ownBlock → wpList Try.prog ops Q rest (a.put o.dst v') w') : wpList Try.prog ops Q (o :: rest) a w :=
  list_of_wp hg fun K hK => wpAppI w s x ho hs hown hx hc hlen hbase fun v' w' h1 h2 => hK _ _ (h v' w' h1 h2)
theorem stepAppI {ops : Array Oper} {o : Oper} {a : Act} {K : Act → World → Prop} {Q : Exit → Act → World → Prop} {E : Prop} (w : World) (s x : Operand) (hg : o.guard = none)
    (ho : o.op = .call { callee := .builtin .append, args := #[s, x], argTypes := #[32, 32] })
    {base g : Nat} {v : Value} {xs : List Int} {y : Int} (hs : a.eval s = v) (hown : OwnI w base v xs) (hx : a.eval x = .slice (some ⟨g, 0, none⟩) 1 1) (hc : w.cell? ⟨g, 0, none⟩ = some (.int .i64 y))
    (hlen : xs.length < 16777216) (hbase : base ≤ w.heap.size)
    (h : ∀ v' w', OwnI w' base v' (xs ++ [y]) → w.grownBy w' v.ownBlock → K (a.put o.dst v') w') : if Region.wanted o (yielded ops a.tmps) = true then Oper.wp Try.prog o a w K Q else E :=
  step_of_wp hg (wpAppI w s x ho hs hown hx hc hlen hbase h)

theorem wp_app_one {T E : Nat} {z : Value} {bytes : Nat} (hT : OneT T E z bytes) {o : Oper} {a : Act} {K : Act → World → Prop} {Q : Exit → Act → World → Prop} (w : World) (s x : Operand)
    (ho : o.op = .call { callee := .builtin .append, args := #[s, x], argTypes := #[T, T] })
    {base g n : Nat} {v y : Value} {xs : List Value} (hy1 : y.oneCell' = true) (hs : a.eval s = v) (hown : w.ownsRow base E 1 v n xs) (hx : a.eval x = .slice (some ⟨g, 0, none⟩) 1 1) (hc : w.cell? ⟨g, 0, none⟩ = some y)
    (hlen : n < 16777216) (hbase : base ≤ w.heap.size)
    (h : ∀ v' w', w'.ownsRow base E 1 v' (n + 1) (xs ++ [y]) → w.grownBy w' v.ownBlock → K (a.put o.dst v') w') : Oper.wp Try.prog o a w K Q := by
  obtain ⟨i0, hi, hz0, hz1, hz2⟩ := info_parts hT.inf
  refine wp_append_own w s x _ ho base E i0 z 1 bytes hT.und hi hz0 hz1 hz2 hT.one (by decide) v n xs hs hown ⟨g, 0, none⟩ 1 1 [y] hx rfl ?_ (by intro u hu; simp at hu; subst hu; exact hy1) (by simp [maxLen]; omega) ?_ hbase (fun v' w' h1 h2 _ => h v' w' h1 h2)
  · intro j u hu
    cases j with
    | zero => simp at hu; subst hu; simpa [Addr.add] using hc
    | succ j => simp at hu
  · have := hT.few
    calc (n + 1) * bytes ≤ 16777216 * 4096 := Nat.mul_le_mul (by omega) this
      _ ≤ 140737488355328 := by decide
theorem OwnIIB.lt {w : World} {base B : Nat} {v : Value} {xss : List (List Int)} (h : OwnIIB w base B v xss) (g : Nat) (hg : v.ownBlock = some g) : base ≤ g ∧ g < w.heap.size := by
  obtain ⟨vs, h1, _⟩ := h
  exact h1.lt g hg
theorem OwnI.one {w : World} {base : Nat} {u : Value} {xs : List Int} (h : OwnI w base u xs) : u.oneCell' = true := by
  rcases h.2 with ⟨rfl, _⟩ | ⟨g, c, cur, rfl, _⟩ <;> rfl
/-- append(v, u) on owned rows; u an owned row, its block none of theirs -/
theorem wpAppRow {o : Oper} {a : Act} {K : Act → World → Prop} {Q : Exit → Act → World → Prop} (w : World) (s x : Operand)
    (ho : o.op = .call { callee := .builtin .append, args := #[s, x], argTypes := #[50, 50] })
    {base B g : Nat} {v u : Value} {xss : List (List Int)} {xs : List Int} (hs : a.eval s = v) (hown : OwnIIB w base B v xss) (hu : OwnI w base u xs) (hB : ∀ g, u.ownBlock = some g → B ≤ g)
    (hx : a.eval x = .slice (some ⟨g, 0, none⟩) 1 1) (hc : w.cell? ⟨g, 0, none⟩ = some u) (hlen : xss.length < 16777216) (hbase : base ≤ w.heap.size)
    (h : ∀ v' w', OwnII w' base v' (xss ++ [xs]) → w.grownBy w' v.ownBlock → K (a.put o.dst v') w') : Oper.wp Try.prog o a w K Q := by
  obtain ⟨vs, h1, h2, h3⟩ := hown
  refine wp_app_one tI64S w s x ho hu.one hs h1 hx hc hlen hbase (fun v' w' k1 k2 => h v' w' ⟨vs ++ [u], ?_, ?_⟩ k2)
  · rw [List.length_append]; exact k1
  · have hsn : Rows2 w base (vs ++ [u]) (xss ++ [xs]) := Rows2.snoc (B := B) h2 hu h3 hB
    exact hsn.kept h1 k2
theorem listAppRow {ops : Array Oper} {rest : List Oper} {o : Oper} {a : Act} {Q : Exit → Act → World → Prop} (w : World) (s x : Operand) (hg : o.guard = none)
    (ho : o.op = .call { callee := .builtin .append, args := #[s, x], argTypes := #[50, 50] })
    {base B g : Nat} {v u : Value} {xss : List (List Int)} {xs : List Int} (hs : a.eval s = v) (hown : OwnIIB w base B v xss) (hu : OwnI w base u xs) (hB : ∀ g, u.ownBlock = some g → B ≤ g)
    (hx : a.eval x = .slice (some ⟨g, 0, none⟩) 1 1) (hc : w.cell? ⟨g, 0, none⟩ = some u) (hlen : xss.length < 16777216) (hbase : base ≤ w.heap.size)
    (h : ∀ v' w', OwnII w' base v' (xss ++ [xs]) → w.grownBy w' v.ownBlock → wpList Try.prog ops Q rest (a.put o.dst v') w') : wpList Try.prog ops Q (o :: rest) a w :=
  list_of_wp hg fun K hK => wpAppRow w s x ho hs hown hu hB hx hc hlen hbase fun v' w' h1 h2 => hK _ _ (h v' w' h1 h2)
theorem stepAppRow {ops : Array Oper} {o : Oper} {a : Act} {K : Act → World → Prop} {Q : Exit → Act → World → Prop} {E : Prop} (w : World) (s x : Operand) (hg : o.guard = none)
    (ho : o.op = .call { callee := .builtin .append, args := #[s, x], argTypes := #[50, 50] })
    {base B g : Nat} {v u : Value} {xss : List (List Int)} {xs : List Int} (hs : a.eval s = v) (hown : OwnIIB w base B v xss) (hu : OwnI w base u xs) (hB : ∀ g, u.ownBlock = some g → B ≤ g)
    (hx : a.eval x = .slice (some ⟨g, 0, none⟩) 1 1) (hc : w.cell? ⟨g, 0, none⟩ = some u) (hlen : xss.length < 16777216) (hbase : base ≤ w.heap.size)
    (h : ∀ v' w', OwnII w' base v' (xss ++ [xs]) → w.grownBy w' v.ownBlock → K (a.put o.dst v') w') : if Region.wanted o (yielded ops a.tmps) = true then Oper.wp Try.prog o a w K Q else E :=
  step_of_wp hg (wpAppRow w s x ho hs hown hu hB hx hc hlen hbase h)
theorem OwnII.lt {w : World} {base : Nat} {v : Value} {xss : List (List Int)} (h : OwnII w base v xss) (g : Nat) (hg : v.ownBlock = some g) : base ≤ g ∧ g < w.heap.size := by
  obtain ⟨vs, h1, _⟩ := h
  exact h1.lt g hg
theorem Fs.refl (S : Nat → Prop) (w : World) : Fs S w w := ⟨rfl, rfl, rfl, Nat.le_refl _, fun _ _ _ => rfl⟩
theorem Fs.set {S : Nat → Prop} {w w' : World} (h : Fs S w w') {a : Addr} (ha : S a.block) (u : Value) : Fs S w (w'.setCell a u) :=
  ⟨h.os, h.tape, h.output, by simpa using h.size, fun k hk hx => by
    rw [heap_setCell_other w' a k u (fun e => hx (by rw [e]; exact ha))]; exact h.block k hk hx⟩
theorem Fs.frozen {S : Nat → Prop} {w w' : World} (h : Fs S w w') {p : Addr} (hp : p.block < w.heap.size) (hn : ¬ S p.block) : w'.frozen? p = w.frozen? p := by
  simp [World.frozen?, h.block p.block hp hn]
end Go.Proofs.Ytceobhmbnkheiaa
namespace Go.Proofs.Ytceobhmbnkheiaa
open Go.RowKit Go.Sort
theorem f6big_any (ad : Option Addr) (n c : Nat) (w : World) (hn : n ≤ maxLen) :
    Calls Try.prog 5 #[.slice ad n c] w fun e w' => e = .returned (.bool (decide (4096 < n))) ∧ w = w' := by
  unfold maxLen at hn
  by_cases h : 4096 < n
  · have h1 : (4096 : Int) < (n : Int) := by omega
    have hd : decide (4096 < n) = true := by simp [h]
    have HD := Lib.hid hd
    clear hd
    go_enter Try.func5, Try.ntmps5
    go_wp2
    go_ret
    exact ⟨rb (by rw [HD.out] <;> (first | rfl | (simp; done) | (simp; omega))), rfl⟩
  · have h1 : (n : Int) ≤ (4096 : Int) := by omega
    have hd : decide (4096 < n) = false := by simp [h]
    have HD := Lib.hid hd
    clear hd
    go_enter Try.func5, Try.ntmps5
    go_wp2
    go_ret
    exact ⟨rb (by rw [HD.out] <;> (first | rfl | (simp; done) | (simp; omega))), rfl⟩
end Go.Proofs.Ytceobhmbnkheiaa
namespace Go.Proofs.Ytceobhmbnkheiaa
open Go.RowKit Go.Sort
def riseN (lo hi : Int) (e : List Int) : Nat → Bool
  | 0 => true
  | k + 1 => riseN lo hi e k && (inR (e.getD k 0) lo hi && (decide (k = 0) || decide (e.getD (k - 1) 0 < e.getD k 0)))
theorem riseN_false {lo hi : Int} {e : List Int} {k : Nat} (h : (inR (e.getD k 0) lo hi && (decide (k = 0) || decide (e.getD (k - 1) 0 < e.getD k 0))) = false) : ∀ {m : Nat}, k < m → riseN lo hi e m = false
  | 0, h1 => by omega
  | m + 1, h1 => by
    unfold riseN
    by_cases hk : k = m
    · subst hk; rw [h]; simp
    · rw [riseN_false h (show k < m by omega)]; rfl
end Go.Proofs.Ytceobhmbnkheiaa
namespace Go.Proofs.Ytceobhmbnkheiaa
open Go.RowKit Go.Sort
/-- edges of a valid graph with m nodes -/
def EdgesB (m : Nat) (es : List (List Int)) : Prop := ∀ e ∈ es, ∃ a b : Nat, e = [(a : Int), (b : Int)] ∧ a < b ∧ b < m
def rankE (e : List Int) : Nat := (e.getD 0 0).toNat * 5 + (e.getD 1 0).toNat
theorem okN_true {hi : Int} {es : List (List Int)} : ∀ {m k : Nat}, okN hi es m = true → k < m → stepW hi es k = true
  | 0, k, _, h => by omega
  | m + 1, k, h, hk => by
    unfold okN at h
    rw [Bool.and_eq_true] at h
    by_cases e : k = m
    · subst e; exact h.2
    · exact okN_true h.1 (by omega)
theorem stepW_edge {hi : Int} {es : List (List Int)} {k : Nat} (h0 : 0 ≤ hi) (h4 : hi ≤ 4) (h : stepW hi es k = true) : ∃ a b : Nat, es.getD k [] = [(a : Int), (b : Int)] ∧ a < b ∧ (b : Int) ≤ hi := by
  unfold stepW at h
  rw [Bool.and_eq_true] at h
  have h1 := h.1
  unfold edgeW at h1
  rw [Bool.and_eq_true, Bool.and_eq_true] at h1
  obtain ⟨x, y, he⟩ := len2 (of_decide_eq_true h1.1)
  rw [he] at h1
  simp only [List.getD_cons_zero, List.getD_cons_succ] at h1
  have hx := inR_iff.1 h1.2.1
  have hy := inR_iff.1 h1.2.2
  rw [IntWalk.i64_in _ (by omega)] at hy
  obtain ⟨a, rfl⟩ := Int.eq_ofNat_of_zero_le hx.1
  obtain ⟨b, rfl⟩ := Int.eq_ofNat_of_zero_le (show 0 ≤ y by omega)
  exact ⟨a, b, he, by omega, by omega⟩
theorem graphOk_n {n : Int} {es : List (List Int)} (h : graphOk n es = true) : ∃ m : Nat, n = (m : Int) ∧ 1 ≤ m ∧ m ≤ 5 ∧ IntKind.i64.wrap (n - 1) = (m : Int) - 1 ∧ okN ((m : Int) - 1) es es.length = true := by
  unfold graphOk at h
  rw [Bool.and_eq_true] at h
  have hn := inR_iff.1 h.1
  obtain ⟨m, rfl⟩ := Int.eq_ofNat_of_zero_le (show 0 ≤ n by omega)
  have hw : IntKind.i64.wrap ((m : Int) - 1) = (m : Int) - 1 := IntWalk.i64_in _ (by omega)
  exact ⟨m, rfl, by omega, by omega, hw, by rw [← hw]; exact h.2⟩
theorem graphOk_edges {m : Nat} {es : List (List Int)} (h1 : 1 ≤ m) (h5 : m ≤ 5) (h : okN ((m : Int) - 1) es es.length = true) : EdgesB m es := by
  intro e he
  obtain ⟨k, hk, rfl⟩ := List.getElem_of_mem he
  obtain ⟨a, b, h2, h3, h4⟩ := stepW_edge (by omega) (by omega) (okN_true h hk)
  rw [getD_at hk] at h2
  exact ⟨a, b, h2, h3, by omega⟩
theorem graphOk_rank {m : Nat} {es : List (List Int)} (h1 : 1 ≤ m) (h5 : m ≤ 5) (h : okN ((m : Int) - 1) es es.length = true) : ∀ k, k < es.length → k ≤ rankE (es.getD k []) := by
  intro k
  induction k with
  | zero => intro _; omega
  | succ k ih =>
    intro hk
    have hi := ih (by omega)
    obtain ⟨a, b, e1, _, _⟩ := stepW_edge (by omega) (by omega) (okN_true h (show k < es.length by omega))
    obtain ⟨c, d, e2, _, _⟩ := stepW_edge (by omega) (by omega) (okN_true h hk)
    have hs := okN_true h hk
    unfold stepW at hs
    rw [Bool.and_eq_true] at hs
    have hl := hs.2
    rw [Nat.add_sub_cancel, e1, e2] at hl
    rw [e1] at hi
    rw [e2]
    have hlt : a < c ∨ (a = c ∧ b < d) := by
      simp [lessL] at hl
      split at hl <;> omega
    simp [rankE] at hi ⊢
    omega
theorem graphOk_len {m : Nat} {es : List (List Int)} (h1 : 1 ≤ m) (h5 : m ≤ 5) (h : okN ((m : Int) - 1) es es.length = true) : es.length ≤ 25 := by
  by_cases h0 : es.length = 0
  · omega
  · have hr := graphOk_rank h1 h5 h (es.length - 1) (by omega)
    obtain ⟨a, b, e1, h3, h4⟩ := stepW_edge (by omega) (by omega) (okN_true h (show es.length - 1 < es.length by omega))
    rw [e1] at hr
    simp [rankE] at hr
    omega
/-- all a graph that is valid is -/
theorem graphOk_all {n : Int} {es : List (List Int)} (h : graphOk n es = true) : ∃ m : Nat, n = (m : Int) ∧ 1 ≤ m ∧ m ≤ 5 ∧ EdgesB m es ∧ es.length ≤ 25 := by
  obtain ⟨m, h1, h2, h3, _, h5⟩ := graphOk_n h
  exact ⟨m, h1, h2, h3, graphOk_edges h2 h3 h5, graphOk_len h2 h3 h5⟩
theorem riseN_two {hi : Int} {e : List Int} (h0 : 0 ≤ hi) (h4 : hi ≤ 4) : (decide (e.length = 2) && riseN 0 hi e e.length) = edgeW hi e := by
  unfold edgeW
  by_cases h : e.length = 2
  · obtain ⟨a, b, rfl⟩ := len2 h
    simp [riseN, inR]
    by_cases h1 : 0 ≤ a ∧ a ≤ hi
    · rw [IntWalk.i64_in _ (by omega)]
      simp [h1]
      rw [Bool.eq_iff_iff]
      simp
      omega
    · rcases Classical.not_and_iff_not_or_not.1 h1 with h2 | h2 <;> simp [h2]
  · simp [h]
def colsOk (n lo hi : Int) (l : List Int) : Bool := l.all (fun c => inR c lo hi) && decide ((l.length : Int) = n)
def properB (es : List (List Int)) (cs : List Int) : Bool := !(es.any fun e => decide (cs.getD (e.getD 0 0).toNat 0 = cs.getD (e.getD 1 0).toNat 0))
/-- a graph at an address -/
def GraphAt (w : World) (b o : Nat) (n : Int) (v : Value) : Prop := b < w.heap.size ∧ w.cell? ⟨b, o, none⟩ = some (.int .i64 n) ∧ w.cell? ⟨b, o + 1, none⟩ = some v
theorem GraphAt.below {w w' : World} {b o : Nat} {n : Int} {v : Value} (h : GraphAt w b o n v) (hb : Below w.heap.size w w') : GraphAt w' b o n v :=
  ⟨Nat.lt_of_lt_of_le h.1 hb.size, by rw [hb.cell (p := ⟨b, o, none⟩) h.1]; exact h.2.1, by rw [hb.cell (p := ⟨b, o + 1, none⟩) h.1]; exact h.2.2⟩
end Go.Proofs.Ytceobhmbnkheiaa
namespace Go.Proofs.Ytceobhmbnkheiaa
open Go.RowKit Go.Sort
end Go.Proofs.Ytceobhmbnkheiaa
namespace Go.Proofs.Ytceobhmbnkheiaa
open Go.RowKit Go.Sort
theorem all_false_at {p : Int → Bool} {l : List Int} {k : Nat} (h : k < l.length) (hp : p l[k] = false) : l.all p = false := by
  rw [List.all_eq_false]; exact ⟨l[k], List.getElem_mem h, by rw [hp]; simp⟩
theorem all_take_succ {p : Int → Bool} {l : List Int} {k : Nat} (h : (l.take k).all p = true) (hk : k < l.length) (hp : p l[k] = true) : (l.take (k + 1)).all p = true := by
  rw [List.take_succ_eq_append_getElem hk, List.all_append, h]; simp [hp]
def askedC (n : Int) (es : List (List Int)) (q : Int) (right : Bool) : Int := if graphOk n es = false then 1 else if inR q 1 4 = false then 2 else if right = false then 2 else 0
theorem all_any_not {l : List Int} {lo hi : Int} : (!(l.any fun c => !inR c lo hi)) = l.all fun c => inR c lo hi := by
  rw [Bool.eq_iff_iff]; simp
def codeC (n : Int) (es : List (List Int)) (q : Int) (lists : List (List Int)) : Int := if graphOk n es = false then 1 else if inR q 1 4 = false then 2 else if lists.all (fun l => colsOk n 0 (q - 1) l) = false then 2 else 0
/-- a new array with one slice in it, as a slice of slices -/
theorem slii_one {w : World} {u : Value} {xs : List Int} (hu : SlI w u xs) : SlII (w.alloc (.cells #[u] 32)) (.slice (some ⟨w.heap.size, 0, none⟩) 1 1) [xs] := by
  refine ⟨_, 1, [u], rfl, by simp, by simp [maxLen], rfl, rd_new w #[u] _, fun i hi x hx => ?_⟩
  cases i with
  | zero => simp at hx; subst hx; exact hu.below ((Below.refl _ _).alloc (Nat.le_refl _) _)
  | succ i => simp at hi
end Go.Proofs.Ytceobhmbnkheiaa
namespace Go.Proofs.Ytceobhmbnkheiaa
open Go.RowKit Go.Sort
def sameE (cs : List Int) (e : List Int) : Bool := decide (cs.getD (e.getD 0 0).toNat 0 = cs.getD (e.getD 1 0).toNat 0)
theorem properB_eq (es : List (List Int)) (cs : List Int) : properB es cs = !(es.any (sameE cs)) := rfl
theorem sameE_two {cs : List Int} {a c : Nat} (h1 : a < cs.length) (h2 : c < cs.length) : sameE cs [(a : Int), (c : Int)] = decide (cs[a] = cs[c]) := by
  simp [sameE, List.getD_eq_getElem?_getD, List.getElem?_eq_getElem h1, List.getElem?_eq_getElem h2]
theorem any_take_succL {α : Type} {p : α → Bool} {l : List α} {k : Nat} (h : (l.take k).any p = false) (hk : k < l.length) (he : p l[k] = false) : (l.take (k + 1)).any p = false := by
  rw [List.take_succ_eq_append_getElem hk, List.any_append, h]; simp [he]
theorem any_atL {α : Type} {p : α → Bool} {l : List α} {k : Nat} (hk : k < l.length) (he : p l[k] = true) : l.any p = true := by
  rw [List.any_eq_true]; exact ⟨_, List.getElem_mem hk, he⟩
def tupBI (r : Bool × Int) : Value := .tuple #[.bool r.1, .int .i64 r.2]
def isColR (n : Int) (es : List (List Int)) (q : Int) (cs : List Int) : Bool × Int :=
  let code := askedC n es q (colsOk n 0 (IntKind.i64.wrap (q - 1)) cs)
  if code = 0 then (properB es cs, 0) else (false, code)
theorem askedC_ok {n q : Int} {es : List (List Int)} {r : Bool} (h : askedC n es q r = 0) : graphOk n es = true ∧ 1 ≤ q ∧ q ≤ 4 ∧ r = true := by
  unfold askedC at h
  split at h
  · simp at h
  · rename_i h1
    split at h
    · simp at h
    · rename_i h2
      split at h
      · simp at h
      · rename_i h3
        have h2' : inR q 1 4 = true := by simpa using h2
        have := inR_iff.1 h2'
        exact ⟨by simpa using h1, this.1, this.2, by simpa using h3⟩
theorem askedC_rng {n q : Int} {es : List (List Int)} {r : Bool} : askedC n es q r = 0 ∨ askedC n es q r = 1 ∨ askedC n es q r = 2 := by
  unfold askedC
  split
  · simp
  · split
    · simp
    · split <;> simp
theorem colsOk_len {n lo hi : Int} {cs : List Int} (h : colsOk n lo hi cs = true) : (cs.length : Int) = n ∧ ∀ c ∈ cs, lo ≤ c ∧ c ≤ hi := by
  unfold colsOk at h
  rw [Bool.and_eq_true, List.all_eq_true] at h
  exact ⟨of_decide_eq_true h.2, fun c hc => inR_iff.1 (h.1 c hc)⟩
theorem codeC_one {n q : Int} {es : List (List Int)} {cs : List Int} : codeC n es q [cs] = askedC n es q (colsOk n 0 (IntKind.i64.wrap (q - 1)) cs) := by
  unfold codeC askedC
  split
  · rfl
  · split
    · rfl
    · rename_i h
      have h2' : inR q 1 4 = true := by simpa using h
      have := inR_iff.1 h2'
      rw [IntWalk.i64_in _ (by omega)]
      simp
end Go.Proofs.Ytceobhmbnkheiaa
namespace Go.Proofs.Ytceobhmbnkheiaa
open Go.RowKit Go.Sort
theorem ixFrom_mem : ∀ (l : List Int) (x : Int) (k : Nat), 0 ≤ ixFrom l x k ↔ x ∈ l
  | [], x, k => by simp [ixFrom]
  | y :: r, x, k => by
    unfold ixFrom
    by_cases h : x = y
    · rw [if_pos h]; simp [h]
    · rw [if_neg h, ixFrom_mem r x (k + 1)]; simp [h]
set_option maxHeartbeats 400000 in
theorem Clone_any {u : Value} {xs : List Int} (w : World) (ha : SlI w u xs) (hl : xs.length ≤ 1048576) :
    Calls Try.prog 66 #[u] w fun e w' => ∃ v, e = .returned v ∧ OwnI w' w.heap.size v xs ∧ Below w.heap.size w w' := by
  obtain ⟨a, c, rfl, hc, hc', hr⟩ := ha
  cases a with
  | none =>
    have h0 : xs = [] := by
      cases xs with
      | nil => rfl
      | cons y ys =>
        obtain ⟨b, off, h1, _⟩ := hr.all (k := 0) (by simp [i64s])
        simp at h1
    subst h0
    have hn := @Lib.run_eql_slice_nil
    go_enter Try.func66, Try.ntmps66
    go_wp2
    go_ret
    exact ⟨_, rfl, OwnI.nil _ _, Below.refl _ _⟩
  | some ad =>
    have hr2 := hr.below ((Below.refl w.heap.size w).alloc (Nat.le_refl _) (.cells #[] 2))
    have hn := @Lib.run_eql_slice_nil
    have own0 := OwnI.empty w (base := w.heap.size) (Nat.le_refl _)
    go_enter Try.func66, Try.ntmps66
    go_wp2_with (at_builtin; refine append_SlI _ _ _ rfl rfl rfl own0 rfl ⟨_, _, rfl, hc, hc', hr2⟩ (by simp; omega) (by simp) ?_)
    intro v' w' o1 g1 b1
    go_wp2
    go_ret
    exact ⟨_, rfl, o1, ((Below.refl _ _).alloc (Nat.le_refl _) _).trans b1⟩
/-- the search in depth: f cards still to come -/
def dfsL (c : Nat) : Nat → List Int → List (List Int)
  | 0, l => [l]
  | f + 1, l => ((extD.upTo' c).filter (fun x => !decide (x ∈ l))).flatMap fun x => dfsL c f (l ++ [x])
def dfsN (c f : Nat) (l : List Int) (x : Nat) : List (List Int) := ((extD.upTo' x).filter (fun x => !decide (x ∈ l))).flatMap fun x => dfsL c f (l ++ [x])
theorem dfsN_no {c f x : Nat} {l : List Int} (h : (x : Int) ∈ l) : dfsN c f l (x + 1) = dfsN c f l x := by
  simp [dfsN, extD.upTo', List.range_succ, List.filter_append, h]
theorem dfsN_yes {c f x : Nat} {l : List Int} (h : ¬ (x : Int) ∈ l) : dfsN c f l (x + 1) = dfsN c f l x ++ dfsL c f (l ++ [(x : Int)]) := by
  simp [dfsN, extD.upTo', List.range_succ, List.filter_append, h]
theorem dfsL_decks (c : Nat) (h1 : 1 ≤ c) (h3 : c ≤ 3) : dfsL c c [] = decksL c c := by
  have h : ∀ c, c ≤ 3 → 1 ≤ c → dfsL c c [] = decksL c c := by decide
  exact h c h3 h1
def isE (E : Nat) (w : World) (k : Nat) : Prop := ∃ cs fz, w.heap[k]? = some (.cells cs E fz)
theorem isE_same {E : Nat} {w w' : World} {k : Nat} (h : w'.heap[k]? = w.heap[k]?) : isE E w' k ↔ isE E w k := by unfold isE; rw [h]
theorem isE_set {E : Nat} {w : World} {a : Addr} {u : Value} {k : Nat} (h : isE E (w.setCell a u) k) : isE E w k := by
  by_cases hk : k = a.block
  · subst hk
    obtain ⟨cs, fz, h⟩ := h
    simp only [World.setCell, Array.getElem?_modify, if_true] at h
    cases hh : w.heap[a.block]? with
    | none => rw [hh] at h; simp at h
    | some o =>
      rw [hh] at h
      cases o with
      | cells c e f => simp at h; exact ⟨c, f, by rw [hh, h.2.1]⟩
      | _ => simp at h
  · obtain ⟨cs, fz, h⟩ := h
    rw [heap_setCell_other w a k u hk] at h
    exact ⟨cs, fz, h⟩
theorem own_isE {w : World} {b e size n k : Nat} {v : Value} {xs : List Value} (h : w.ownsRow b e size v n xs) (hk : v.ownBlock = some k) : isE e w k := by
  rcases h.2 with ⟨rfl, _⟩ | ⟨g, c, cur, rfl, _, h3, _⟩
  · simp [Value.ownBlock] at hk
  · simp [Value.ownBlock] at hk
    subst hk
    exact ⟨_, _, h3⟩
/-- all stays but block bo, and from base on blocks of elements of type E -/
structure Fe (base bo E : Nat) (w w' : World) : Prop where
  os : w'.os = w.os
  tape : w'.tape = w.tape
  output : w'.output = w.output
  size : w.heap.size ≤ w'.heap.size
  block : ∀ k, k < w.heap.size → k ≠ bo → (k < base ∨ ¬ isE E w k) → w'.heap[k]? = w.heap[k]?
theorem Fe.refl (base bo E : Nat) (w : World) : Fe base bo E w w := ⟨rfl, rfl, rfl, Nat.le_refl _, fun _ _ _ _ => rfl⟩
theorem Fe.trans {base bo E : Nat} {a b c : World} (h : Fe base bo E a b) (k : Fe base bo E b c) : Fe base bo E a c :=
  ⟨k.os.trans h.os, k.tape.trans h.tape, k.output.trans h.output, Nat.le_trans h.size k.size, fun i hi hx hy => by
    have h1 := h.block i hi hx hy
    rw [k.block i (Nat.lt_of_lt_of_le hi h.size) hx (hy.imp id fun hn ⟨cs, fz, he⟩ => hn ⟨cs, fz, by rw [← h1]; exact he⟩), h1]⟩
theorem Fe.of_below {base bo E : Nat} {w w' : World} (h : Below w.heap.size w w') : Fe base bo E w w' := ⟨h.os, h.tape, h.output, h.size, fun k hk _ _ => h.block k hk⟩
theorem Fe.of_grown {base bo E size n : Nat} {w w' : World} {v : Value} {xs : List Value} (h : w.ownsRow base E size v n xs) (hg : w.grownBy w' v.ownBlock) : Fe base bo E w w' :=
  ⟨hg.os, hg.tape, hg.output, hg.size, fun k hk _ hy => hg.block k hk (fun e => by
    rcases h.2 with ⟨rfl, _⟩ | ⟨g, c, cur, rfl, h2, h3, _⟩
    · simp [Value.ownBlock] at e
    · simp [Value.ownBlock] at e
      subst e
      rcases hy with hy | hy
      · omega
      · exact hy ⟨_, _, h3⟩)⟩
theorem Fe.set {base bo E : Nat} {w w' : World} (h : Fe base bo E w w') {a : Addr} (ha : a.block = bo) (u : Value) : Fe base bo E w (w'.setCell a u) :=
  ⟨h.os, h.tape, h.output, by simpa using h.size, fun k hk hx hy => by
    rw [heap_setCell_other w' a k u (fun e => hx (by rw [e]; exact ha))]; exact h.block k hk hx hy⟩
theorem Fe.below {base bo E B : Nat} {w w' : World} (h : Fe base bo E w w') (h1 : B ≤ base) (h2 : B ≤ bo) (h3 : B ≤ w.heap.size) : Below B w w' :=
  ⟨h.os, h.tape, h.output, h.size, fun k hk => h.block k (by omega) (by omega) (.inl (by omega))⟩
theorem ownsRow_fe {base bo E : Nat} {w w' : World} {b e size n : Nat} {v : Value} {xs : List Value} (h : w.ownsRow b e size v n xs) (hf : Fe base bo E w w') (he : e ≠ E) (hb : ¬ isE e w bo) : w'.ownsRow b e size v n xs := by
  refine ⟨h.1, ?_⟩
  rcases h.2 with h2 | ⟨g, cap, cur, h1, h2, h3, h4⟩
  · exact .inl h2
  · refine .inr ⟨g, cap, cur, h1, h2, ?_, h4⟩
    rw [hf.block g (Array.getElem?_eq_some_iff.1 h3).1 (fun e => by subst e; exact hb ⟨_, _, h3⟩) (.inr fun ⟨cs, fz, hh⟩ => by rw [h3] at hh; simp at hh; exact he hh.2.1)]; exact h3
theorem ownsRow_set_ne {w : World} {b e size n : Nat} {v : Value} {xs : List Value} (h : w.ownsRow b e size v n xs) {a : Addr} (ha : ¬ isE e w a.block) (u : Value) : (w.setCell a u).ownsRow b e size v n xs := by
  refine ⟨h.1, ?_⟩
  rcases h.2 with h2 | ⟨g, cap, cur, h1, h2, h3, h4⟩
  · exact .inl h2
  · refine .inr ⟨g, cap, cur, h1, h2, ?_, h4⟩
    rw [heap_setCell_other w a g u (fun e => ha (by rw [← e]; exact ⟨_, _, h3⟩))]; exact h3
theorem OwnII.set_ne {w : World} {base : Nat} {v : Value} {xss : List (List Int)} (h : OwnII w base v xss) {a : Addr} (h1 : ¬ isE 32 w a.block) (h2 : ¬ isE 2 w a.block) (u : Value) : OwnII (w.setCell a u) base v xss := by
  obtain ⟨vs, k1, k2⟩ := h
  exact ⟨vs, ownsRow_set_ne k1 h1 u, k2.1, fun i x xs hx hy => ownsRow_set_ne (k2.2.1 i x xs hx hy) h2 u, k2.2.2⟩
theorem OwnII.form {w : World} {base : Nat} {v : Value} {xss : List (List Int)} (h : OwnII w base v xss) : ∃ a n c, v = .slice a n c ∧ Hid (n = xss.length) := by
  obtain ⟨a, c, vs, rfl, _⟩ := h.sl
  exact ⟨a, _, c, rfl, rfl⟩
theorem OwnI.form {w : World} {base : Nat} {v : Value} {xs : List Int} (h : OwnI w base v xs) : ∃ a n c, v = .slice a n c ∧ Hid (n = xs.length) := by
  obtain ⟨a, c, rfl, _⟩ := h.sl
  exact ⟨a, _, c, rfl, rfl⟩
theorem dfsN_mono (c f : Nat) (l : List Int) : ∀ x y, x ≤ y → (dfsN c f l x).length ≤ (dfsN c f l y).length := by
  intro x y h
  induction h with
  | refl => exact Nat.le_refl _
  | step _ ih =>
    rename_i m _
    by_cases hm : (m : Int) ∈ l
    · rw [dfsN_no hm]; exact ih
    · rw [dfsN_yes hm, List.length_append]; omega
/-- a clone as a step; w0: an elder world in which the slice reads so -/
theorem step_clone {ops : Array Oper} {o : Oper} {a : Act} {K : Act → World → Prop} {Q : Exit → Act → World → Prop} {E : Prop} {w w0 : World} (hg : o.guard = none) {u : Value} {xs : List Int}
    (hrun : (execOp a.eval o).run Try.prog w = .ok (.enter 66 #[u]) w) (hbw : Below w0.heap.size w0 w) (hu : SlI w0 u xs) (hl : xs.length ≤ 1048576)
    (h : ∀ v w', OwnI w' w0.heap.size v xs → Below w0.heap.size w0 w' → Below w.heap.size w w' → w.heap.size ≤ w'.heap.size → K (a.put o.dst v) w') : if Region.wanted o (yielded ops a.tmps) = true then Oper.wp Try.prog o a w K Q else E :=
  step_calls hg hrun (Clone_any w (hu.below hbw) hl) (fun e w' ⟨v, h1, h2, h3⟩ => ⟨v, h1, h v w' (h2.lower hbw.size) (hbw.trans (h3.mono hbw.size)) h3 h3.size⟩)
theorem step_appI {ops : Array Oper} {o : Oper} {a : Act} {K : Act → World → Prop} {Q : Exit → Act → World → Prop} {E : Prop} {w w0 w1 : World} (hg : o.guard = none) (s x : Operand)
    (ho : o.op = .call { callee := .builtin .append, args := #[s, x], argTypes := #[32, 32] })
    {g : Nat} {v : Value} {xs : List Int} {y : Int} (hs : a.eval s = v) (hown : OwnI w1 w0.heap.size v xs) (h01 : Below w0.heap.size w0 w1) (h1w : Below w1.heap.size w1 w) (hx : a.eval x = .slice (some ⟨g, 0, none⟩) 1 1) (hc : w.cell? ⟨g, 0, none⟩ = some (.int .i64 y)) (hlen : xs.length < 16777216)
    (h : ∀ v' w', OwnI w' w0.heap.size v' (xs ++ [y]) → Below w0.heap.size w0 w' → K (a.put o.dst v') w') : if Region.wanted o (yielded ops a.tmps) = true then Oper.wp Try.prog o a w K Q else E := by
  have h0w := h01.trans (h1w.mono h01.size)
  have hown' := hown.below h1w
  exact stepAppI w s x hg ho hs hown' hx hc hlen h0w.size (fun v' w' k1 k2 => h v' w' k1 (h0w.trans (hown'.grown k2 h0w.size)))
end Go.Proofs.Ytceobhmbnkheiaa
namespace Go.Proofs.Ytceobhmbnkheiaa
open Go.RowKit Go.Sort
def nearE (a b : Int) (e : List Int) : Bool := (decide (e.getD 0 0 = a) && decide (e.getD 1 0 = b)) || (decide (e.getD 0 0 = b) && decide (e.getD 1 0 = a))
def nearB (es : List (List Int)) (a b : Int) : Bool := es.any (nearE a b)
def apartI (es : List (List Int)) (s : List Int) (i k : Nat) : Bool := (List.range k).all fun j => !nearB es (s.getD i 0) (s.getD j 0)
def apartN (es : List (List Int)) (s : List Int) (k : Nat) : Bool := (List.range k).all fun i => apartI es s i i
def bothE (s : List Int) (e : List Int) : Bool := decide (e.getD 0 0 ∈ s) && decide (e.getD 1 0 ∈ s)
def indepB (es : List (List Int)) (s : List Int) : Bool := !(es.any (bothE s))
theorem indep_law {m : Nat} {es : List (List Int)} {s : List Int} (hE : EdgesB m es) : apartN es s s.length = indepB es s := by
  rw [Bool.eq_iff_iff]
  unfold apartN apartI indepB
  simp only [List.all_eq_true, List.mem_range, Bool.not_eq_true', List.any_eq_false]
  constructor
  · intro h e he hb
    obtain ⟨a, b, rfl, hab, _⟩ := hE e he
    simp only [bothE, List.getD_cons_zero, List.getD_cons_succ, Bool.and_eq_true, decide_eq_true_eq] at hb
    obtain ⟨i, hi, h1⟩ := List.getElem_of_mem hb.1
    obtain ⟨j, hj, h2⟩ := List.getElem_of_mem hb.2
    rcases Nat.lt_trichotomy i j with hij | hij | hij
    · have := h j hj i hij
      rw [getD_at hj, getD_at hi] at this
      unfold nearB at this
      rw [List.any_eq_false] at this
      have := this _ he
      simp [nearE, h1, h2] at this
    · subst hij
      rw [h1] at h2
      omega
    · have := h i hi j hij
      rw [getD_at hj, getD_at hi] at this
      unfold nearB at this
      rw [List.any_eq_false] at this
      have := this _ he
      simp [nearE, h1, h2] at this
  · intro h i hi j hij
    unfold nearB
    rw [List.any_eq_false]
    intro e he hn
    have hj : j < s.length := by omega
    rw [getD_at hi, getD_at hj] at hn
    have h2 := h e he
    unfold bothE at h2
    have m1 := List.getElem_mem hi
    have m2 := List.getElem_mem hj
    unfold nearE at hn
    simp only [Bool.or_eq_true, Bool.and_eq_true, decide_eq_true_eq] at hn
    rcases hn with ⟨e1, e2⟩ | ⟨e1, e2⟩
    · rw [e1, e2] at h2; simp [m1, m2] at h2
    · rw [e1, e2] at h2; simp [m1, m2] at h2
theorem nearE_two (a b : Int) (p q : Nat) : nearE a b [(p : Int), (q : Int)] = ((decide ((p : Int) = a) && decide ((q : Int) = b)) || (decide ((p : Int) = b) && decide ((q : Int) = a))) := rfl
theorem range_all_succ {p : Nat → Bool} {k : Nat} (h : (List.range k).all p = true) (hp : p k = true) : (List.range (k + 1)).all p = true := by
  rw [List.range_succ, List.all_append, h]; simp [hp]
theorem range_all_no {p : Nat → Bool} {i k : Nat} (hi : i < k) (hp : p i = false) : (List.range k).all p = false := by
  rw [List.all_eq_false]; exact ⟨i, by simpa using hi, by rw [hp]; simp⟩
def isIndR (n : Int) (es : List (List Int)) (s : List Int) : Bool × Int :=
  let code := askedC n es 1 (riseN 0 (IntKind.i64.wrap (n - 1)) s s.length)
  if code = 0 then (indepB es s, 0) else (false, code)
end Go.Proofs.Ytceobhmbnkheiaa
