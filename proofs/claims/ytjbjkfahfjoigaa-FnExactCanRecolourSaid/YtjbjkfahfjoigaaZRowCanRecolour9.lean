/-
  IsColouring, both sides. With it: Laws at one operation, in a list of operations and in a region that draws its order: a call by its contract, append on owned slices and rows. Graphs: valid or not, the reference's. Colourings: what a graph that is valid is; lists of colours; proper colourings, both sides. The reference's l08Ok, l08List, l08Asked, l08Proper. IsColouring, both sides, and the codes of graphs, colours and lists.
-/
import Derived.Test.YtjbjkfahfjoigaaZRowCanRecolour3
import Derived.Test.YtjbjkfahfjoigaaZRowCanRecolour4
import Derived.Deep.RegionLaw
import Derived.Test.YtjbjkfahfjoigaaZRowCanRecolour5
set_option linter.unusedVariables false
set_option linter.unusedSimpArgs false
namespace Go.Proofs.Ytjbjkfahfjoigaa
open Go.RowKit Go.Sort
theorem step_of_wp {P : Program} {ops : Array Oper} {o : Oper} {a : Act} {w : World} {K : Act → World → Prop} {Q : Exit → Act → World → Prop} {E : Prop} (hg : o.guard = none) (h : Oper.wp P o a w K Q) : if Region.wanted o (yielded ops a.tmps) = true then Oper.wp P o a w K Q else E := by
  rw [if_pos (by simp [Region.wanted, hg])]; exact h
theorem wp_calls {P : Program} {o : Oper} {a : Act} {w : World} {K : Act → World → Prop} {Q : Exit → Act → World → Prop} {f : FuncId} {args : Array Value} {R : Ending → World → Prop}
    (hrun : (execOp a.eval o).run P w = .ok (.enter f args) w) (hc : Calls P f args w R) (hK : ∀ e w', R e w' → ∃ v, e = .returned v ∧ K (a.put o.dst v) w') : Oper.wp P o a w K Q := by
  unfold Oper.wp
  rw [hrun, Oper.upon_enter]
  exact hc.mono (fun e w' h => by obtain ⟨v, rfl, hk⟩ := hK e w' h; exact hk)
theorem step_calls {P : Program} {ops : Array Oper} {o : Oper} {a : Act} {w : World} {K : Act → World → Prop} {Q : Exit → Act → World → Prop} {E : Prop} {f : FuncId} {args : Array Value} {R : Ending → World → Prop} (hg : o.guard = none)
    (hrun : (execOp a.eval o).run P w = .ok (.enter f args) w) (hc : Calls P f args w R) (hK : ∀ e w', R e w' → ∃ v, e = .returned v ∧ K (a.put o.dst v) w') : if Region.wanted o (yielded ops a.tmps) = true then Oper.wp P o a w K Q else E :=
  step_of_wp hg (wp_calls hrun hc hK)
theorem list_of_wp {P : Program} {ops : Array Oper} {rest : List Oper} {o : Oper} {a : Act} {w : World} {Q : Exit → Act → World → Prop} (hg : o.guard = none) (h : ∀ K : Act → World → Prop, (∀ a' w', wpList P ops Q rest a' w' → K a' w') → Oper.wp P o a w K Q) : wpList P ops Q (o :: rest) a w :=
  wpList_plain hg h
namespace Flat
variable {α : Type}
/-- append of any slice on an owned one, at the operation -/
theorem wpApp {o : Oper} {a : Act} {K : Act → World → Prop} {Q : Exit → Act → World → Prop} (F : Flat α) (w : World) (s x : Operand)
    (ho : o.op = .call { callee := .builtin .append, args := #[s, x], argTypes := #[F.T, F.T] })
    {base : Nat} {v : Value} {xs ys : List α} (hs : a.eval s = v) (hown : F.Own w base v xs) {ad : Option Addr} {c : Nat} (hx : a.eval x = .slice ad ys.length c) (hr : Rd w ad (F.encs ys))
    (hlen : xs.length + ys.length ≤ 16777216) (hbase : base ≤ w.heap.size)
    (h : ∀ v' w', F.Own w' base v' (xs ++ ys) → w.grownBy w' v.ownBlock → K (a.put o.dst v') w') : Oper.wp Try.prog o a w K Q := by
  obtain ⟨i0, hi, hz0, hz1, hz2⟩ := info_parts F.inf
  cases ad with
  | none =>
    have h0 : ys = [] := by
      cases ys with
      | nil => rfl
      | cons y ys =>
        have hl : 0 < (F.encs (y :: ys)).length := by rw [F.encs_length]; exact Nat.mul_pos (by simp) F.pos
        obtain ⟨b, off, h1, _⟩ := hr.all hl
        simp at h1
    subst h0
    have hrun := run_append_of_nil (P := Try.prog) w base F.T o.type F.E i0 F.size F.und hi v xs.length (F.encs xs) hown c
    unfold Oper.wp execOp
    simp only [List.length_nil] at hx
    simp only [ho, resolve, invoke, builtin, Sem.run_bind, Sem.run_pure, Result.andThen_ok, List.map_toArray, List.map_cons, List.map_nil, hs, hx, hrun]
    exact h v w (by simpa using hown) (World.grownBy.refl w _)
  | some ad =>
    refine wp_append_own w s x _ ho base F.E i0 F.z F.size F.bytes F.und hi hz0 hz1 hz2 F.zsz F.pos v xs.length (F.encs xs) hs hown ad ys.length c (F.encs ys) hx (F.encs_length ys) ?_ (fun u hu => F.encs_one hu) (by simp [maxLen]; omega) ?_ hbase (fun v' w' h1 h2 _ => ?_)
    · intro j u hu
      obtain ⟨b, off, he, _, hc⟩ := hr j u hu
      simp at he
      subst he
      unfold Addr.add
      by_cases hj : j = 0
      · subst hj; simpa using hc
      · simpa [hj] using hc
    · have := F.few
      calc (xs.length + ys.length) * F.bytes ≤ 16777216 * 4096 := Nat.mul_le_mul hlen this
        _ ≤ 140737488355328 := by decide
    · refine h v' w' ?_ h2
      unfold Own
      rw [encs_append, List.length_append]
      exact h1
end Flat
theorem rd_one {w : World} {g : Nat} {u : Value} (h : w.cell? ⟨g, 0, none⟩ = some u) (hg : g < w.heap.size) : Rd w (some ⟨g, 0, none⟩) [u] := by
  intro j x hx
  cases j with
  | zero => simp at hx; subst hx; exact ⟨g, 0, rfl, hg, h⟩
  | succ j => simp at hx
theorem cell_lt {w : World} {g i : Nat} {u : Value} (h : w.cell? ⟨g, i, none⟩ = some u) : g < w.heap.size := by
  unfold World.cell? at h
  cases hh : w.heap[g]? with
  | none => rw [hh] at h; simp at h
  | some o => exact (Array.getElem?_eq_some_iff.1 hh).1
/-- append(v, y) on an owned []int64; y lies in a block of its own -/
theorem wpAppI {o : Oper} {a : Act} {K : Act → World → Prop} {Q : Exit → Act → World → Prop} (w : World) (s x : Operand)
    (ho : o.op = .call { callee := .builtin .append, args := #[s, x], argTypes := #[42, 42] })
    {base g : Nat} {v : Value} {xs : List Int} {y : Int} (hs : a.eval s = v) (hown : OwnI w base v xs) (hx : a.eval x = .slice (some ⟨g, 0, none⟩) 1 1) (hc : w.cell? ⟨g, 0, none⟩ = some (.int .i64 y))
    (hlen : xs.length < 16777216) (hbase : base ≤ w.heap.size)
    (h : ∀ v' w', OwnI w' base v' (xs ++ [y]) → w.grownBy w' v.ownBlock → K (a.put o.dst v') w') : Oper.wp Try.prog o a w K Q := by
  refine Flat.wpApp FI w s x ho hs (by rw [FI_own]; exact hown) (ys := [y]) hx (by rw [FI_encs]; exact rd_one hc (cell_lt hc)) (by simp; omega) hbase (fun v' w' h1 h2 => h v' w' (by rw [FI_own] at h1; exact h1) h2)
theorem listAppI {ops : Array Oper} {rest : List Oper} {o : Oper} {a : Act} {Q : Exit → Act → World → Prop} (w : World) (s x : Operand) (hg : o.guard = none)
    (ho : o.op = .call { callee := .builtin .append, args := #[s, x], argTypes := #[42, 42] })
    {base g : Nat} {v : Value} {xs : List Int} {y : Int} (hs : a.eval s = v) (hown : OwnI w base v xs) (hx : a.eval x = .slice (some ⟨g, 0, none⟩) 1 1) (hc : w.cell? ⟨g, 0, none⟩ = some (.int .i64 y))
    (hlen : xs.length < 16777216) (hbase : base ≤ w.heap.size)
    (h : ∀ v' w', OwnI w' base v' (xs ++ [y]) → w.grownBy w' v.ownBlock → wpList Try.prog ops Q rest (a.put o.dst v') w') : wpList Try.prog ops Q (o :: rest) a w :=
  list_of_wp hg fun K hK => wpAppI w s x ho hs hown hx hc hlen hbase fun v' w' h1 h2 => hK _ _ (h v' w' h1 h2)
theorem stepAppI {ops : Array Oper} {o : Oper} {a : Act} {K : Act → World → Prop} {Q : Exit → Act → World → Prop} {E : Prop} (w : World) (s x : Operand) (hg : o.guard = none)
    (ho : o.op = .call { callee := .builtin .append, args := #[s, x], argTypes := #[42, 42] })
    {base g : Nat} {v : Value} {xs : List Int} {y : Int} (hs : a.eval s = v) (hown : OwnI w base v xs) (hx : a.eval x = .slice (some ⟨g, 0, none⟩) 1 1) (hc : w.cell? ⟨g, 0, none⟩ = some (.int .i64 y))
    (hlen : xs.length < 16777216) (hbase : base ≤ w.heap.size)
    (h : ∀ v' w', OwnI w' base v' (xs ++ [y]) → w.grownBy w' v.ownBlock → K (a.put o.dst v') w') : if Region.wanted o (yielded ops a.tmps) = true then Oper.wp Try.prog o a w K Q else E :=
  step_of_wp hg (wpAppI w s x ho hs hown hx hc hlen hbase h)

theorem wp_app_one {T E : Nat} {z : Value} {bytes : Nat} (hT : OneT T E z bytes) {o : Oper} {a : Act} {K : Act → World → Prop} {Q : Exit → Act → World → Prop} (w : World) (s x : Operand)
    (ho : o.op = .call { callee := .builtin .append, args := #[s, x], argTypes := #[T, T] })
    {base g n : Nat} {v y : Value} {xs : List Value} (hy1 : y.oneCell' = true) (hs : a.eval s = v) (hown : w.ownsRow base E 1 v n xs) (hx : a.eval x = .slice (some ⟨g, 0, none⟩) 1 1) (hc : w.cell? ⟨g, 0, none⟩ = some y)
    (hlen : n < 16777216) (hbase : base ≤ w.heap.size)
    (h : ∀ v' w', w'.ownsRow base E 1 v' (n + 1) (xs ++ [y]) → w.grownBy w' v.ownBlock → K (a.put o.dst v') w') : Oper.wp Try.prog o a w K Q := by
  obtain ⟨i0, hi, hz0, hz1, hz2⟩ := info_parts hT.inf
  refine wp_append_own w s x _ ho base E i0 z 1 bytes hT.und hi hz0 hz1 hz2 hT.one (by decide) v n xs hs hown ⟨g, 0, none⟩ 1 1 [y] hx rfl ?_ (by intro u hu; simp at hu; subst hu; exact hy1) (by simp [maxLen]; omega) ?_ hbase (fun v' w' h1 h2 _ => h v' w' h1 h2)
  · intro j u hu
    cases j with
    | zero => simp at hu; subst hu; simpa [Addr.add] using hc
    | succ j => simp at hu
  · have := hT.few
    calc (n + 1) * bytes ≤ 16777216 * 4096 := Nat.mul_le_mul (by omega) this
      _ ≤ 140737488355328 := by decide
theorem OwnIIB.lt {w : World} {base B : Nat} {v : Value} {xss : List (List Int)} (h : OwnIIB w base B v xss) (g : Nat) (hg : v.ownBlock = some g) : base ≤ g ∧ g < w.heap.size := by
  obtain ⟨vs, h1, _⟩ := h
  exact h1.lt g hg
theorem OwnI.one {w : World} {base : Nat} {u : Value} {xs : List Int} (h : OwnI w base u xs) : u.oneCell' = true := by
  rcases h.2 with ⟨rfl, _⟩ | ⟨g, c, cur, rfl, _⟩ <;> rfl
/-- append(v, u) on owned rows; u an owned row, its block none of theirs -/
theorem wpAppRow {o : Oper} {a : Act} {K : Act → World → Prop} {Q : Exit → Act → World → Prop} (w : World) (s x : Operand)
    (ho : o.op = .call { callee := .builtin .append, args := #[s, x], argTypes := #[22, 22] })
    {base B g : Nat} {v u : Value} {xss : List (List Int)} {xs : List Int} (hs : a.eval s = v) (hown : OwnIIB w base B v xss) (hu : OwnI w base u xs) (hB : ∀ g, u.ownBlock = some g → B ≤ g)
    (hx : a.eval x = .slice (some ⟨g, 0, none⟩) 1 1) (hc : w.cell? ⟨g, 0, none⟩ = some u) (hlen : xss.length < 16777216) (hbase : base ≤ w.heap.size)
    (h : ∀ v' w', OwnII w' base v' (xss ++ [xs]) → w.grownBy w' v.ownBlock → K (a.put o.dst v') w') : Oper.wp Try.prog o a w K Q := by
  obtain ⟨vs, h1, h2, h3⟩ := hown
  refine wp_app_one tI64S w s x ho hu.one hs h1 hx hc hlen hbase (fun v' w' k1 k2 => h v' w' ⟨vs ++ [u], ?_, ?_⟩ k2)
  · rw [List.length_append]; exact k1
  · have hsn : Rows2 w base (vs ++ [u]) (xss ++ [xs]) := Rows2.snoc (B := B) h2 hu h3 hB
    exact hsn.kept h1 k2
theorem listAppRow {ops : Array Oper} {rest : List Oper} {o : Oper} {a : Act} {Q : Exit → Act → World → Prop} (w : World) (s x : Operand) (hg : o.guard = none)
    (ho : o.op = .call { callee := .builtin .append, args := #[s, x], argTypes := #[22, 22] })
    {base B g : Nat} {v u : Value} {xss : List (List Int)} {xs : List Int} (hs : a.eval s = v) (hown : OwnIIB w base B v xss) (hu : OwnI w base u xs) (hB : ∀ g, u.ownBlock = some g → B ≤ g)
    (hx : a.eval x = .slice (some ⟨g, 0, none⟩) 1 1) (hc : w.cell? ⟨g, 0, none⟩ = some u) (hlen : xss.length < 16777216) (hbase : base ≤ w.heap.size)
    (h : ∀ v' w', OwnII w' base v' (xss ++ [xs]) → w.grownBy w' v.ownBlock → wpList Try.prog ops Q rest (a.put o.dst v') w') : wpList Try.prog ops Q (o :: rest) a w :=
  list_of_wp hg fun K hK => wpAppRow w s x ho hs hown hu hB hx hc hlen hbase fun v' w' h1 h2 => hK _ _ (h v' w' h1 h2)
theorem stepAppRow {ops : Array Oper} {o : Oper} {a : Act} {K : Act → World → Prop} {Q : Exit → Act → World → Prop} {E : Prop} (w : World) (s x : Operand) (hg : o.guard = none)
    (ho : o.op = .call { callee := .builtin .append, args := #[s, x], argTypes := #[22, 22] })
    {base B g : Nat} {v u : Value} {xss : List (List Int)} {xs : List Int} (hs : a.eval s = v) (hown : OwnIIB w base B v xss) (hu : OwnI w base u xs) (hB : ∀ g, u.ownBlock = some g → B ≤ g)
    (hx : a.eval x = .slice (some ⟨g, 0, none⟩) 1 1) (hc : w.cell? ⟨g, 0, none⟩ = some u) (hlen : xss.length < 16777216) (hbase : base ≤ w.heap.size)
    (h : ∀ v' w', OwnII w' base v' (xss ++ [xs]) → w.grownBy w' v.ownBlock → K (a.put o.dst v') w') : if Region.wanted o (yielded ops a.tmps) = true then Oper.wp Try.prog o a w K Q else E :=
  step_of_wp hg (wpAppRow w s x ho hs hown hu hB hx hc hlen hbase h)
theorem OwnII.lt {w : World} {base : Nat} {v : Value} {xss : List (List Int)} (h : OwnII w base v xss) (g : Nat) (hg : v.ownBlock = some g) : base ≤ g ∧ g < w.heap.size := by
  obtain ⟨vs, h1, _⟩ := h
  exact h1.lt g hg
theorem Fs.refl (S : Nat → Prop) (w : World) : Fs S w w := ⟨rfl, rfl, rfl, Nat.le_refl _, fun _ _ _ => rfl⟩
theorem Fs.set {S : Nat → Prop} {w w' : World} (h : Fs S w w') {a : Addr} (ha : S a.block) (u : Value) : Fs S w (w'.setCell a u) :=
  ⟨h.os, h.tape, h.output, by simpa using h.size, fun k hk hx => by
    rw [heap_setCell_other w' a k u (fun e => hx (by rw [e]; exact ha))]; exact h.block k hk hx⟩
theorem Fs.frozen {S : Nat → Prop} {w w' : World} (h : Fs S w w') {p : Addr} (hp : p.block < w.heap.size) (hn : ¬ S p.block) : w'.frozen? p = w.frozen? p := by
  simp [World.frozen?, h.block p.block hp hn]
end Go.Proofs.Ytjbjkfahfjoigaa
namespace Go.Proofs.Ytjbjkfahfjoigaa
open Go.RowKit Go.Sort
set_option maxHeartbeats 2000000 in
theorem l08Less_any {u v : Value} {xs ys : List Int} (w : World) (ha : SlI w u xs) (hb : SlI w v ys) :
    Calls Try.prog 77 #[u, v] w fun e w' => e = .returned (.bool (lessL xs ys)) ∧ Below w.heap.size w w' := by
  obtain ⟨a, ca, rfl, hca, hca', ha⟩ := ha
  obtain ⟨b, cb, rfl, hcb, hcb', hb⟩ := hb
  unfold maxLen at hca' hcb'
  go_enter Try.func77, Try.ntmps77
  go_wp2
  go_loopw [5] (fun i wr => ∃ k : Nat, k ≤ xs.length ∧ k ≤ ys.length ∧ i = .int .i64 k ∧ Hid (lessL xs ys = lessL (xs.drop k) (ys.drop k)) ∧ Below w.heap.size w wr) (fun i _ => xs.length - (intOf i).toNat)
  case atStart => exact ⟨0, Nat.zero_le _, Nat.zero_le _, rfl, rfl, Below.refl _ _⟩
  case round =>
    obtain ⟨k, hk, hk2, rfl, hc, hbr⟩ := hrel
    have HA := Lib.hid (ha.below hbr)
    have HB := Lib.hid (hb.below hbr)
    by_cases hlt : k < xs.length
    · have i1 : (k : Int) < (xs.length : Int) := by omega
      by_cases hy : k < ys.length
      · obtain ⟨ba, oa, rfl, ga⟩ := HA.out.one (i64s_get hlt)
        obtain ⟨bb, ob, rfl, gb⟩ := HB.out.one (i64s_get hy)
        have i2 : (k : Int) < (ys.length : Int) := by omega
        have i0 : (0 : Int) ≤ (k : Int) := by omega
        have hd := lessL_drop hlt hy
        have HD := Lib.hid hd
        have ka := fun d os => cell_regrown ga d os
        have kb := fun d os => cell_regrown gb d os
        clear hd
        by_cases he : xs[k] = ys[k]
        · have ht : (xs[k] != ys[k]) = false := by simp [he]
          have HE := Lib.hid he
          clear he
          go_wp2_with fail
          refine wp_region_quiet_below (by kernel_rfl) (by kernel_rfl) ?_
          repeat (first | go_big_quiet_skip | quiet_step (first | fail))
          refine wpQuiet_nil ?_
          intro _ hw'
          obtain ⟨⟨dq, osq⟩, hw''⟩ := hw'
          subst hw''
          have bq0 := below_regrown wr dq osq
          generalize grow (redrawn wr dq) osq = wq at bq0 ⊢
          have hb2 := hbr.trans (bq0.mono hbr.size)
          clear ka kb ht
          go_wp2
          go_roundw
          case rel => exact ⟨k + 1, by omega, by omega, by go_num, by unfold Hid at *; rw [hc, HD, if_pos HE], hb2⟩
          case measure => simp [intOf]; omega
        · have ht : (xs[k] != ys[k]) = true := by simp [he]
          have HE := Lib.hid he
          clear he
          go_wp2_with fail
          refine wp_region_quiet_below (by kernel_rfl) (by kernel_rfl) ?_
          repeat (first | go_big_quiet_skip | quiet_step (first | fail))
          refine wpQuiet_nil ?_
          intro _ hw'
          obtain ⟨⟨dq, osq⟩, hw''⟩ := hw'
          subst hw''
          have bq0 := below_regrown wr dq osq
          generalize grow (redrawn wr dq) osq = wq at bq0 ⊢
          have hb2 := hbr.trans (bq0.mono hbr.size)
          have ga2 := bq0.cell (p := ⟨ba, oa + k, none⟩) (cell_lt ga)
          have gb2 := bq0.cell (p := ⟨bb, ob + k, none⟩) (cell_lt gb)
          rw [ga] at ga2
          rw [gb] at gb2
          have ka2 := fun d os => cell_regrown ga2 d os
          have kb2 := fun d os => cell_regrown gb2 d os
          clear ka kb ht
          go_wp2_with fail
          refine wp_region_quiet_below (by kernel_rfl) (by kernel_rfl) ?_
          repeat (first | go_big_quiet_skip | quiet_step (first | fail))
          refine wpQuiet_nil ?_
          intro _ hw'
          obtain ⟨⟨dq, osq⟩, hw''⟩ := hw'
          subst hw''
          have bq1 := below_regrown wq dq osq
          generalize grow (redrawn wq dq) osq = wq2 at bq1 ⊢
          clear ka2 kb2
          go_wp2
          go_ret
          exact ⟨rb (by rw [hc.out, HD.out, if_neg HE.out]), hb2.trans (bq1.mono hb2.size)⟩
      · obtain rfl : k = ys.length := by omega
        go_wp2
        go_ret
        exact ⟨rb (by rw [hc.out, List.drop_length, List.drop_eq_getElem_cons hlt]; unfold lessL; simp; omega), hbr⟩
    · obtain rfl : k = xs.length := by omega
      go_wp2
      go_ret
      exact ⟨rb (by
        rw [hc.out, List.drop_length]
        by_cases hy : xs.length < ys.length
        · rw [List.drop_eq_getElem_cons hy]; simp [lessL, hy]
        · rw [List.drop_eq_nil_of_le (by omega)]; simp [lessL]; omega), hbr⟩
def riseN (lo hi : Int) (e : List Int) : Nat → Bool
  | 0 => true
  | k + 1 => riseN lo hi e k && (inR (e.getD k 0) lo hi && (decide (k = 0) || decide (e.getD (k - 1) 0 < e.getD k 0)))
theorem riseN_false {lo hi : Int} {e : List Int} {k : Nat} (h : (inR (e.getD k 0) lo hi && (decide (k = 0) || decide (e.getD (k - 1) 0 < e.getD k 0))) = false) : ∀ {m : Nat}, k < m → riseN lo hi e m = false
  | 0, h1 => by omega
  | m + 1, h1 => by
    unfold riseN
    by_cases hk : k = m
    · subst hk; rw [h]; simp
    · rw [riseN_false h (show k < m by omega)]; rfl
set_option maxHeartbeats 4000000 in
theorem l00Rises_any {u : Value} {e : List Int} (lo hi : Int) (w : World) (ha : SlI w u e) :
    Calls Try.prog 76 #[u, .int .i64 lo, .int .i64 hi] w fun en w' => en = .returned (.bool (riseN lo hi e e.length)) ∧ Below w.heap.size w w' := by
  obtain ⟨a, ca, rfl, hca, hca', ha⟩ := ha
  unfold maxLen at hca'
  go_enter Try.func76, Try.ntmps76
  go_wp2
  go_loopw [7] (fun i wr => ∃ k : Nat, k ≤ e.length ∧ i = .int .i64 k ∧ Hid (riseN lo hi e k = true) ∧ Below w.heap.size w wr) (fun i _ => e.length - (intOf i).toNat)
  case atStart => exact ⟨0, Nat.zero_le _, rfl, rfl, Below.refl _ _⟩
  case round =>
    obtain ⟨k, hk, rfl, hc, hbr⟩ := hrel
    have HA := Lib.hid (ha.below hbr)
    by_cases hlt : k < e.length
    · have i1 : (k : Int) < (e.length : Int) := by omega
      have i0 : (0 : Int) ≤ (k : Int) := by omega
      obtain ⟨ba, oa, rfl, ga⟩ := HA.out.one (i64s_get hlt)
      have ka := fun d os => cell_regrown ga d os
      generalize hx : e[k] = x at ga ka
      have hgd : e.getD k 0 = x := by rw [getD_at hlt, hx]
      have HGD := Lib.hid hgd
      generalize hq : inR x lo hi = q
      have HQ := Lib.hid hq
      have HNO := Lib.hid (fun h => riseN_false (lo := lo) (hi := hi) (e := e) (k := k) h hlt)
      clear hx hgd hq
      cases q
      · go_wp2_with fail
        refine wp_region_quiet_below (by kernel_rfl) (by kernel_rfl) ?_
        repeat (first | go_big_quiet_skip | quiet_step (first | (with_reducible exact Calls.regrown_of (l00In_q HQ.out _))))
        refine wpQuiet_nil ?_
        intro _ hw'
        obtain ⟨⟨dq, osq⟩, hw''⟩ := hw'
        subst hw''
        have bq0 := below_regrown wr dq osq
        generalize grow (redrawn wr dq) osq = wq at bq0 ⊢
        clear ka
        go_wp2
        go_ret
        exact ⟨rb (HNO.out (by rw [HGD.out, HQ.out]; rfl)).symm, hbr.trans (bq0.mono hbr.size)⟩
      · by_cases hk0 : k = 0
        · have hk0' : decide (0 < k) = false := by simp; omega
          have HK0 := Lib.hid hk0
          clear hk0
          go_wp2_with fail
          refine wp_region_quiet_below (by kernel_rfl) (by kernel_rfl) ?_
          repeat (first | go_big_quiet_skip | quiet_step (first | (with_reducible exact Calls.regrown_of (l00In_q HQ.out _))))
          refine wpQuiet_nil ?_
          intro _ hw'
          obtain ⟨⟨dq, osq⟩, hw''⟩ := hw'
          subst hw''
          have bq0 := below_regrown wr dq osq
          generalize grow (redrawn wr dq) osq = wq at bq0 ⊢
          have hb2 := hbr.trans (bq0.mono hbr.size)
          clear ka hk0'
          go_wp2
          go_roundw
          case rel => exact ⟨k + 1, by omega, by go_num, by unfold Hid riseN; rw [hc.out, HGD.out, HQ.out]; simp [HK0.out], hb2⟩
          case measure => simp [intOf]; omega
        · obtain ⟨m, hm⟩ : ∃ m, k = m + 1 := ⟨k - 1, by omega⟩
          have r2 : IntKind.i64.wrap ((k : Int) - 1) = (m : Int) := by rw [IntWalk.i64_in _ (by omega)]; omega
          have hkp : decide (0 < k) = true := by simp; omega
          have hml : m < e.length := by omega
          have i3 : (0 : Int) ≤ (m : Int) := by omega
          have i4 : (m : Int) < (e.length : Int) := by omega
          obtain ⟨ba', oa', he', gm⟩ := HA.out.one (i64s_get hml)
          simp only [Option.some.injEq, Addr.mk.injEq] at he'
          obtain ⟨rfl, rfl, _⟩ := he'
          have km := fun d os => cell_regrown gm d os
          generalize hy : e[m] = y at gm km
          have hgm : e.getD (k - 1) 0 = y := by rw [hm, Nat.add_sub_cancel, getD_at hml, hy]
          have HGM := Lib.hid hgm
          have HM := Lib.hid hm
          clear hy hgm hm
          by_cases hxy : y < x
          · go_wp2_with fail
            refine wp_region_quiet_below (by kernel_rfl) (by kernel_rfl) ?_
            repeat (first | go_big_quiet_skip | quiet_step (first | (with_reducible exact Calls.regrown_of (l00In_q HQ.out _))))
            refine wpQuiet_nil ?_
            intro _ hw'
            obtain ⟨⟨dq, osq⟩, hw''⟩ := hw'
            subst hw''
            have bq0 := below_regrown wr dq osq
            generalize grow (redrawn wr dq) osq = wq at bq0 ⊢
            have hb2 := hbr.trans (bq0.mono hbr.size)
            clear ka km r2 hkp
            go_wp2
            go_roundw
            case rel => exact ⟨k + 1, by omega, by go_num, by unfold Hid riseN; rw [hc.out, HGD.out, HQ.out, HGM.out]; simp [hxy], hb2⟩
            case measure => simp [intOf]; omega
          · have hxy2 : x ≤ y := by omega
            go_wp2_with fail
            refine wp_region_quiet_below (by kernel_rfl) (by kernel_rfl) ?_
            repeat (first | go_big_quiet_skip | quiet_step (first | (with_reducible exact Calls.regrown_of (l00In_q HQ.out _))))
            refine wpQuiet_nil ?_
            intro _ hw'
            obtain ⟨⟨dq, osq⟩, hw''⟩ := hw'
            subst hw''
            have bq0 := below_regrown wr dq osq
            generalize grow (redrawn wr dq) osq = wq at bq0 ⊢
            clear ka km r2 hkp
            go_wp2
            go_ret
            exact ⟨rb (HNO.out (by rw [HGD.out, HQ.out, HGM.out]; simp; omega)).symm, hbr.trans (bq0.mono hbr.size)⟩
    · obtain rfl : k = e.length := by omega
      go_wp2
      go_ret
      exact ⟨rb hc.out.symm, hbr⟩
end Go.Proofs.Ytjbjkfahfjoigaa
namespace Go.Proofs.Ytjbjkfahfjoigaa
open Go.RowKit Go.Sort
/-- edges of a valid graph with m nodes -/
def EdgesB (m : Nat) (es : List (List Int)) : Prop := ∀ e ∈ es, ∃ a b : Nat, e = [(a : Int), (b : Int)] ∧ a < b ∧ b < m
def rankE (e : List Int) : Nat := (e.getD 0 0).toNat * 5 + (e.getD 1 0).toNat
theorem okN_true {hi : Int} {es : List (List Int)} : ∀ {m k : Nat}, okN hi es m = true → k < m → stepW hi es k = true
  | 0, k, _, h => by omega
  | m + 1, k, h, hk => by
    unfold okN at h
    rw [Bool.and_eq_true] at h
    by_cases e : k = m
    · subst e; exact h.2
    · exact okN_true h.1 (by omega)
theorem stepW_edge {hi : Int} {es : List (List Int)} {k : Nat} (h0 : 0 ≤ hi) (h4 : hi ≤ 4) (h : stepW hi es k = true) : ∃ a b : Nat, es.getD k [] = [(a : Int), (b : Int)] ∧ a < b ∧ (b : Int) ≤ hi := by
  unfold stepW at h
  rw [Bool.and_eq_true] at h
  have h1 := h.1
  unfold edgeW at h1
  rw [Bool.and_eq_true, Bool.and_eq_true] at h1
  obtain ⟨x, y, he⟩ := len2 (of_decide_eq_true h1.1)
  rw [he] at h1
  simp only [List.getD_cons_zero, List.getD_cons_succ] at h1
  have hx := inR_iff.1 h1.2.1
  have hy := inR_iff.1 h1.2.2
  rw [IntWalk.i64_in _ (by omega)] at hy
  obtain ⟨a, rfl⟩ := Int.eq_ofNat_of_zero_le hx.1
  obtain ⟨b, rfl⟩ := Int.eq_ofNat_of_zero_le (show 0 ≤ y by omega)
  exact ⟨a, b, he, by omega, by omega⟩
theorem graphOk_n {n : Int} {es : List (List Int)} (h : graphOk n es = true) : ∃ m : Nat, n = (m : Int) ∧ 1 ≤ m ∧ m ≤ 5 ∧ IntKind.i64.wrap (n - 1) = (m : Int) - 1 ∧ okN ((m : Int) - 1) es es.length = true := by
  unfold graphOk at h
  rw [Bool.and_eq_true] at h
  have hn := inR_iff.1 h.1
  obtain ⟨m, rfl⟩ := Int.eq_ofNat_of_zero_le (show 0 ≤ n by omega)
  have hw : IntKind.i64.wrap ((m : Int) - 1) = (m : Int) - 1 := IntWalk.i64_in _ (by omega)
  exact ⟨m, rfl, by omega, by omega, hw, by rw [← hw]; exact h.2⟩
theorem graphOk_edges {m : Nat} {es : List (List Int)} (h1 : 1 ≤ m) (h5 : m ≤ 5) (h : okN ((m : Int) - 1) es es.length = true) : EdgesB m es := by
  intro e he
  obtain ⟨k, hk, rfl⟩ := List.getElem_of_mem he
  obtain ⟨a, b, h2, h3, h4⟩ := stepW_edge (by omega) (by omega) (okN_true h hk)
  rw [getD_at hk] at h2
  exact ⟨a, b, h2, h3, by omega⟩
theorem graphOk_rank {m : Nat} {es : List (List Int)} (h1 : 1 ≤ m) (h5 : m ≤ 5) (h : okN ((m : Int) - 1) es es.length = true) : ∀ k, k < es.length → k ≤ rankE (es.getD k []) := by
  intro k
  induction k with
  | zero => intro _; omega
  | succ k ih =>
    intro hk
    have hi := ih (by omega)
    obtain ⟨a, b, e1, _, _⟩ := stepW_edge (by omega) (by omega) (okN_true h (show k < es.length by omega))
    obtain ⟨c, d, e2, _, _⟩ := stepW_edge (by omega) (by omega) (okN_true h hk)
    have hs := okN_true h hk
    unfold stepW at hs
    rw [Bool.and_eq_true] at hs
    have hl := hs.2
    rw [Nat.add_sub_cancel, e1, e2] at hl
    rw [e1] at hi
    rw [e2]
    have hlt : a < c ∨ (a = c ∧ b < d) := by
      simp [lessL] at hl
      split at hl <;> omega
    simp [rankE] at hi ⊢
    omega
theorem graphOk_len {m : Nat} {es : List (List Int)} (h1 : 1 ≤ m) (h5 : m ≤ 5) (h : okN ((m : Int) - 1) es es.length = true) : es.length ≤ 25 := by
  by_cases h0 : es.length = 0
  · omega
  · have hr := graphOk_rank h1 h5 h (es.length - 1) (by omega)
    obtain ⟨a, b, e1, h3, h4⟩ := stepW_edge (by omega) (by omega) (okN_true h (show es.length - 1 < es.length by omega))
    rw [e1] at hr
    simp [rankE] at hr
    omega
/-- all a graph that is valid is -/
theorem graphOk_all {n : Int} {es : List (List Int)} (h : graphOk n es = true) : ∃ m : Nat, n = (m : Int) ∧ 1 ≤ m ∧ m ≤ 5 ∧ EdgesB m es ∧ es.length ≤ 25 := by
  obtain ⟨m, h1, h2, h3, _, h5⟩ := graphOk_n h
  exact ⟨m, h1, h2, h3, graphOk_edges h2 h3 h5, graphOk_len h2 h3 h5⟩
theorem riseN_two {hi : Int} {e : List Int} (h0 : 0 ≤ hi) (h4 : hi ≤ 4) : (decide (e.length = 2) && riseN 0 hi e e.length) = edgeW hi e := by
  unfold edgeW
  by_cases h : e.length = 2
  · obtain ⟨a, b, rfl⟩ := len2 h
    simp [riseN, inR]
    by_cases h1 : 0 ≤ a ∧ a ≤ hi
    · rw [IntWalk.i64_in _ (by omega)]
      simp [h1]
      rw [Bool.eq_iff_iff]
      simp
      omega
    · rcases Classical.not_and_iff_not_or_not.1 h1 with h2 | h2 <;> simp [h2]
  · simp [h]
def colsOk (n lo hi : Int) (l : List Int) : Bool := l.all (fun c => inR c lo hi) && decide ((l.length : Int) = n)
def properB (es : List (List Int)) (cs : List Int) : Bool := !(es.any fun e => decide (cs.getD (e.getD 0 0).toNat 0 = cs.getD (e.getD 1 0).toNat 0))
/-- a graph at an address -/
def GraphAt (w : World) (b o : Nat) (n : Int) (v : Value) : Prop := b < w.heap.size ∧ w.cell? ⟨b, o, none⟩ = some (.int .i64 n) ∧ w.cell? ⟨b, o + 1, none⟩ = some v
theorem GraphAt.below {w w' : World} {b o : Nat} {n : Int} {v : Value} (h : GraphAt w b o n v) (hb : Below w.heap.size w w') : GraphAt w' b o n v :=
  ⟨Nat.lt_of_lt_of_le h.1 hb.size, by rw [hb.cell (p := ⟨b, o, none⟩) h.1]; exact h.2.1, by rw [hb.cell (p := ⟨b, o + 1, none⟩) h.1]; exact h.2.2⟩
theorem graphAt_new (w : World) (n : Int) (v : Value) : GraphAt (w.alloc (.cells #[.int .i64 n, v] 35)) w.heap.size 0 n v := by
  refine ⟨by simp, ?_, ?_⟩ <;> simp [go_sem]
end Go.Proofs.Ytjbjkfahfjoigaa
namespace Go.Proofs.Ytjbjkfahfjoigaa
open Go.RowKit Go.Sort
set_option maxRecDepth 100000 in
set_option maxHeartbeats 4000000 in
theorem l08Ok_any {v : Value} {es : List (List Int)} (b o : Nat) (n : Int) (w : World) (hc : GraphAt w b o n v) (ha : SlII w v es) :
    Calls Try.prog 57 #[.pointer (some ⟨b, o, none⟩)] w fun e w' => e = .returned (.bool (graphOk n es)) ∧ Below w.heap.size w w' := by
  obtain ⟨a, ca, us, rfl, hca, hca', hul, hrd, hrow⟩ := ha
  have HG := Lib.hid (fun W (h : Below w.heap.size w W) => And.intro (hrd.below h) (fun i hi u hu => (hrow i hi u hu).below h))
  have HC := Lib.hid (fun W (h : Below w.heap.size w W) => hc.below h)
  have HU := Lib.hid hul
  unfold maxLen at hca'
  obtain ⟨zb, c0, c1⟩ := hc
  clear hul hrd hrow
  generalize hq : inR n 1 5 = q
  have HQ := Lib.hid hq
  cases q
  · clear hq
    go_enter Try.func57, Try.ntmps57
    go_wp2_with (go_at_call 15; refine (l00In_any _ _ _ _).mono ?_; rintro e w' ⟨rfl, rfl⟩; rw [HQ.out])
    go_ret
    exact ⟨rb (by unfold graphOk; rw [HQ.out]; rfl), Below.refl _ _⟩
  · have hn := inR_iff.1 hq
    have hw : IntKind.i64.wrap (n - 1) = n - 1 := IntWalk.i64_in _ (by omega)
    have HGO : Hid (graphOk n es = okN (n - 1) es es.length) := by unfold Hid graphOk; rw [hq, hw]; rfl
    obtain ⟨hn1, hn2⟩ := hn
    clear hq hw
    go_enter Try.func57, Try.ntmps57
    go_wp2_with (go_at_call 15; refine (l00In_any _ _ _ _).mono ?_; rintro e w' ⟨rfl, rfl⟩; rw [HQ.out])
    go_loopw [3, 4] (fun i _ wr => ∃ k : Nat, k ≤ es.length ∧ i = .int .i64 k ∧ Hid (okN (n - 1) es k = true) ∧ Below w.heap.size w wr) (fun i _ _ => es.length - (intOf i).toNat)
    case atStart => exact ⟨0, Nat.zero_le _, rfl, rfl, Below.refl _ _⟩
    case round =>
      clear c0 c1 zb
      obtain ⟨k, hk, rfl, hok, hbr⟩ := hrel
      obtain ⟨zb, c0, c1⟩ := HC.out _ hbr
      by_cases hlt : k < es.length
      · obtain ⟨x, bb, off, rfl, gc, sx⟩ := SlII.row HU.out (HG.out _ hbr).1 (HG.out _ hbr).2 hlt
        have i1 : (k : Int) < (es.length : Int) := by omega
        have NO : stepW (n - 1) es k = false → graphOk n es = false := fun h => by rw [HGO.out, okN_false h hlt]
        have HNO := Lib.hid NO
        have hes : stepW (n - 1) es k = (edgeW (n - 1) es[k] && (decide (k = 0) || lessL (es.getD (k - 1) []) es[k])) := by unfold stepW; rw [getD_at hlt]
        have HES := Lib.hid hes
        have SX := Lib.hid (fun W (h : Below wr.heap.size wr W) => sx.below h)
        obtain ⟨ea, ec, rfl, _, _, _⟩ := id sx
        have htwo := riseN_two (hi := n - 1) (e := es[k]) (by omega) (by omega)
        clear hes NO sx
        by_cases hl : es[k].length = 2
        · have ht : ((es[k].length : Int) != 2) = false := by rw [hl]; rfl
          rw [hl] at htwo
          generalize hr : riseN 0 (n - 1) es[k] 2 = r at htwo
          have HR : Hid (riseN 0 (n - 1) es[k] es[k].length = r) := by unfold Hid; rw [hl]; exact hr
          have HE : Hid (edgeW (n - 1) es[k] = r) := by unfold Hid; rw [← htwo]; simp
          clear hl hr htwo
          go_wp2_with fail
          refine (l00Rises_any 0 (n - 1) _ (SX.out _ (Below.refl _ _))).mono ?_
          rintro e w2 ⟨rfl, b2⟩
          rw [HR.out]
          have hb2 := hbr.trans (b2.mono hbr.size)
          cases r
          · go_wp2
            go_ret
            exact ⟨rb (HNO.out (by rw [HES.out, HE.out]; rfl)).symm, hb2⟩
          · obtain ⟨_, d0, d1⟩ := HC.out _ hb2
            by_cases hk0 : k = 0
            · have hk0' : decide (0 < k) = false := by simp; omega
              have HK0 := Lib.hid hk0
              clear hk0
              go_wp2
              go_roundw
              case rel => exact ⟨k + 1, by omega, by go_num, by unfold Hid okN; rw [hok.out, HES.out, HE.out]; simp [HK0.out], hb2⟩
              case measure => simp [intOf]; omega
            · obtain ⟨m, hm⟩ : ∃ m, k = m + 1 := ⟨k - 1, by omega⟩
              have hkp : (0 : Int) < (k : Int) := by omega
              have hml : m < es.length := by omega
              have i3 : (m : Int) = (k : Int) - 1 := by omega
              have hk1 : k - 1 = m := by omega
              obtain ⟨x', b', off', he', gc', sx'⟩ := SlII.row HU.out (HG.out _ hb2).1 (HG.out _ hb2).2 hml
              simp only [Option.some.injEq, Addr.mk.injEq] at he'
              obtain ⟨rfl, rfl, _⟩ := he'
              obtain ⟨pa, pc, rfl, _⟩ := id sx'
              have SP := Lib.hid sx'
              have hst : stepW (n - 1) es k = lessL es[m] es[k] := by
                rw [HES.out, HE.out, hk1, getD_at hml]
                simp [hk0]
              generalize hl3 : lessL es[m] es[k] = l3 at hst
              have HST := Lib.hid hst
              have HL3 := Lib.hid hl3
              have gc2 : w2.cell? ⟨bb, off + (k - 1), none⟩ = some (.slice pa es[m].length pc) := by rw [hk1]; exact gc'
              have HK0 := Lib.hid hk0
              have HM := Lib.hid hm
              clear hst hl3 sx' hk0 hm i3 hk1 gc'
              go_wp2_with fail
              refine (l08Less_any _ SP.out (SX.out _ b2)).mono ?_
              rintro e w3 ⟨rfl, b3⟩
              rw [HL3.out]
              have hb3 := hb2.trans (b3.mono hb2.size)
              cases l3
              · go_wp2
                go_ret
                exact ⟨rb (HNO.out HST.out).symm, hb3⟩
              · go_wp2
                go_roundw
                case rel => exact ⟨k + 1, by omega, by go_num, by unfold Hid okN; rw [hok.out, HST.out]; rfl, hb3⟩
                case measure => simp [intOf]; omega
        · have ht : ((es[k].length : Int) != 2) = true := by simp; omega
          have hno := edgeW_no (hi := n - 1) hl
          have HN2 := Lib.hid hno
          clear hno hl htwo
          go_wp2
          go_ret
          exact ⟨rb (HNO.out (by rw [HES.out, HN2.out]; rfl)).symm, hbr⟩
      · obtain rfl : k = es.length := by omega
        go_wp2
        go_ret
        exact ⟨rb (by rw [HGO.out, hok.out]), hbr⟩
end Go.Proofs.Ytjbjkfahfjoigaa
namespace Go.Proofs.Ytjbjkfahfjoigaa
open Go.RowKit Go.Sort
theorem all_false_at {p : Int → Bool} {l : List Int} {k : Nat} (h : k < l.length) (hp : p l[k] = false) : l.all p = false := by
  rw [List.all_eq_false]; exact ⟨l[k], List.getElem_mem h, by rw [hp]; simp⟩
theorem all_take_succ {p : Int → Bool} {l : List Int} {k : Nat} (h : (l.take k).all p = true) (hk : k < l.length) (hp : p l[k] = true) : (l.take (k + 1)).all p = true := by
  rw [List.take_succ_eq_append_getElem hk, List.all_append, h]; simp [hp]
def askedC (n : Int) (es : List (List Int)) (q : Int) (right : Bool) : Int := if graphOk n es = false then 1 else if inR q 1 4 = false then 2 else if right = false then 2 else 0
set_option maxHeartbeats 1000000 in
theorem l08Asked_any {v : Value} {es : List (List Int)} (b o : Nat) (n q : Int) (right : Bool) (w : World) (hc : GraphAt w b o n v) (ha : SlII w v es) :
    Calls Try.prog 27 #[.pointer (some ⟨b, o, none⟩), .int .i64 q, .bool right] w fun e w' => e = .returned (.int .i64 (askedC n es q right)) ∧ Below w.heap.size w w' := by
  generalize hg : graphOk n es = g
  generalize hq : inR q 1 4 = p
  have HG := Lib.hid hg
  have HQ := Lib.hid hq
  clear hg hq
  cases g
  · go_enter Try.func27, Try.ntmps27
    go_wp2_with (go_at_call 57; refine (l08Ok_any b o n _ hc ha).mono ?_; rintro e w1 ⟨rfl, b1⟩; rw [HG.out])
    go_ret
    exact ⟨ri (by unfold askedC; rw [HG.out]; rfl), b1⟩
  · cases p <;> cases right
    all_goals
      go_enter Try.func27, Try.ntmps27
      go_wp2_with (first
        | (go_at_call 57; refine (l08Ok_any b o n _ hc ha).mono ?_; rintro e w1 ⟨rfl, b1⟩; rw [HG.out])
        | (go_at_call 15; refine (l00In_any _ _ _ _).mono ?_; rintro e w' ⟨rfl, rfl⟩; rw [HQ.out]))
      go_ret
      exact ⟨ri (by unfold askedC; rw [HG.out, HQ.out]; rfl), b1⟩
/-- colours that a closure looks at -/
theorem colClosure_any {u cv : Value} {cs : List Int} {a c : Nat} (b : Nat) (w : World) (hc : CellsAt w b [cv]) (hcv : SlI w cv cs) (hu : SlI w u [(a : Int), (c : Int)]) (h1 : a < cs.length) (h2 : c < cs.length) :
    Calls Try.prog 87 #[u, .pointer (some ⟨b, 0, none⟩)] w fun e w' => e = .returned (.bool (decide (cs[a] = cs[c]))) ∧ Below w.heap.size w w' := by
  obtain ⟨ua, uc, rfl, _, _, ur⟩ := hu
  obtain ⟨va, vc, rfl, _, hvc, vr⟩ := hcv
  unfold maxLen at hvc
  obtain ⟨eb, eo, rfl, g0⟩ := ur.one (i64s_get (j := 0) (by simp))
  obtain ⟨eb', eo', he', g1⟩ := ur.one (i64s_get (j := 1) (by simp))
  simp only [Option.some.injEq, Addr.mk.injEq] at he'
  obtain ⟨rfl, rfl, _⟩ := he'
  obtain ⟨cb, co, rfl, ga⟩ := vr.one (i64s_get h1)
  obtain ⟨cb', co', he', gc⟩ := vr.one (i64s_get h2)
  simp only [Option.some.injEq, Addr.mk.injEq] at he'
  obtain ⟨rfl, rfl, _⟩ := he'
  have k0 := hc.get 0 _ rfl
  simp only [Nat.add_zero, List.getElem_cons_zero, List.getElem_cons_succ] at g0 g1
  have kk0 := fun d os => cell_regrown k0 d os
  have kg0 := fun d os => cell_regrown g0 d os
  have kg1 := fun d os => cell_regrown g1 d os
  have kga := fun d os => cell_regrown ga d os
  have kgc := fun d os => cell_regrown gc d os
  have i1 : (a : Int) < (cs.length : Int) := by omega
  have i2 : (c : Int) < (cs.length : Int) := by omega
  go_enter Try.func87, Try.ntmps87
  go_wp2_with fail
  refine wp_region_quiet_below (by kernel_rfl) (by kernel_rfl) ?_
  repeat (first | go_big_quiet_skip | quiet_step (fail))
  refine wpQuiet_nil ?_
  intro _ hw'
  obtain ⟨⟨dq, osq⟩, hw''⟩ := hw'
  subst hw''
  have bq0 := below_regrown w dq osq
  generalize grow (redrawn w dq) osq = wq at bq0 ⊢
  clear kk0 kg0 kg1 kga kgc
  go_wp2
  go_ret
  exact ⟨rb (by first | rfl | (simp; done)), bq0⟩
theorem areClosure_any (b1 b2 : Nat) (c lo q : Int) (w : World) (h1 : CellsAt w b1 [.int .i64 lo]) (h2 : CellsAt w b2 [.int .i64 q]) (hq1 : 1 ≤ q) (hq4 : q ≤ 4) :
    Calls Try.prog 80 #[.int .i64 c, .pointer (some ⟨b1, 0, none⟩), .pointer (some ⟨b2, 0, none⟩)] w fun e w' => e = .returned (.bool (!inR c lo (q - 1))) ∧ Below w.heap.size w w' := by
  have c1 := h1.get 0 _ rfl
  have c2 := h2.get 0 _ rfl
  go_enter Try.func80, Try.ntmps80
  go_wp2_with (go_at_call 19; refine (inRange_any _ _ _ _).mono ?_; rintro e w' ⟨rfl, rfl⟩)
  go_ret
  exact ⟨rfl, Below.refl _ _⟩
theorem all_any_not {l : List Int} {lo hi : Int} : (!(l.any fun c => !inR c lo hi)) = l.all fun c => inR c lo hi := by
  rw [Bool.eq_iff_iff]; simp
set_option maxHeartbeats 1000000 in
theorem areColours_any {v u : Value} {cs : List Int} (n q lo : Int) (w : World) (hv : ∃ a m c, v = .slice a m c) (hu : SlI w u cs) (hq1 : 1 ≤ q) (hq4 : q ≤ 4) :
    Calls Try.prog 63 #[.agg #[.int .i64 n, v], .int .i64 q, .int .i64 lo, u] w fun e w' => e = .returned (.bool (colsOk n lo (q - 1) cs)) ∧ Below w.heap.size w w' := by
  have hmf : ∀ (fn : Fn) (first cap : Array Value) (w : World), (Instr.makeFunc fn first cap).run Try.prog w = .ok (.func fn first cap) w := fun _ _ _ _ => rfl
  obtain ⟨a, m, ca, rfl⟩ := hv
  have b1 : Below w.heap.size w (w.alloc (.cells #[.int .i64 n, .slice a m ca] 35)) := (Below.refl _ _).alloc (Nat.le_refl _) _
  have b2 := b1.alloc (by simp) (.cells #[.int .i64 q] 2)
  have b3 := b2.alloc (by simp; omega) (.cells #[.int .i64 lo] 2)
  have X1 := Lib.hid ((CellsAt.new' (w.alloc (.cells #[.int .i64 n, .slice a m ca] 35)) [.int .i64 q] 2 (b := w.heap.size + 1) (by simp)).below ((Below.refl _ _).alloc (Nat.le_refl _) (.cells #[.int .i64 lo] 2)))
  have X2 := Lib.hid (CellsAt.new' ((w.alloc (.cells #[.int .i64 n, .slice a m ca] 35)).alloc (.cells #[.int .i64 q] 2)) [.int .i64 lo] 2 (b := w.heap.size + 1 + 1) (by simp))
  have HU := Lib.hid (hu.below b3)
  obtain ⟨ua, uc, rfl, _⟩ := hu
  by_cases hl : (cs.length : Int) = n
  · have ht : ((cs.length : Int) == n) = true := by simp [hl]
    have HL := Lib.hid hl
    clear hl
    go_enter Try.func63, Try.ntmps63
    go_wp2_with fail
    refine (ContainsFuncAre_any _ _ (fun c => !inR c lo (q - 1)) _ HU.out (fun W x hW _ => areClosure_any _ _ x lo q W (X2.out.below hW) (X1.out.below hW) hq1 hq4)).mono ?_
    rintro e w1 ⟨rfl, b4⟩
    go_wp2
    go_ret
    exact ⟨rb (by unfold colsOk; rw [← all_any_not]; simp [HL.out]), b3.trans (b4.mono b3.size)⟩
  · have ht : ((cs.length : Int) == n) = false := by simp [hl]
    have HL := Lib.hid hl
    clear hl
    go_enter Try.func63, Try.ntmps63
    go_wp2
    go_ret
    exact ⟨rb (by unfold colsOk; simp [HL.out]), b3⟩
def codeC (n : Int) (es : List (List Int)) (q : Int) (lists : List (List Int)) : Int := if graphOk n es = false then 1 else if inR q 1 4 = false then 2 else if lists.all (fun l => colsOk n 0 (q - 1) l) = false then 2 else 0
set_option maxHeartbeats 2000000 in
theorem colourCode_any {v u : Value} {es lists : List (List Int)} (n q : Int) (w : World) (ha : SlII w v es) (hu : SlII w u lists) :
    Calls Try.prog 32 #[.agg #[.int .i64 n, v], .int .i64 q, u] w fun e w' => e = .returned (.int .i64 (codeC n es q lists)) ∧ Below w.heap.size w w' := by
  have HA := Lib.hid (fun W (h : Below w.heap.size w W) => ha.below h)
  obtain ⟨a, ca, us, rfl, _⟩ := id ha
  obtain ⟨la, lc, lus, rfl, hlc, hlc', hul, hrd, hrow⟩ := hu
  unfold maxLen at hlc'
  have HG := Lib.hid (fun W (h : Below w.heap.size w W) => And.intro (hrd.below h) (fun i hi u hu => (hrow i hi u hu).below h))
  have HU := Lib.hid hul
  have bx : Below w.heap.size w (w.alloc (.cells #[.int .i64 n, .slice a es.length ca] 35)) := (Below.refl _ _).alloc (Nat.le_refl _) _
  have X := Lib.hid (graphAt_new w n (.slice a es.length ca))
  clear ha hul hrd hrow
  generalize hg : graphOk n es = g
  have HGG := Lib.hid hg
  clear hg
  generalize hq : inR q 1 4 = p
  have HQ := Lib.hid hq
  go_enter Try.func32, Try.ntmps32
  go_wp2_with fail
  refine (ImplValidGraph_any n _ (HA.out _ bx)).mono ?_
  rintro e w1 ⟨rfl, b1⟩
  rw [HGG.out]
  have hb1 := bx.trans (b1.mono bx.size)
  have X1 := Lib.hid (X.out.below b1)
  clear b1
  cases g
  · clear hq
    go_wp2
    go_ret
    exact ⟨ri (by unfold codeC; rw [HGG.out]; rfl), hb1⟩
  · cases p
    · clear hq
      go_wp2_with (go_at_call 19; refine (inRange_any _ _ _ _).mono ?_; rintro e w' ⟨rfl, rfl⟩; rw [HQ.out])
      go_ret
      exact ⟨ri (by unfold codeC; rw [HGG.out, HQ.out]; rfl), hb1⟩
    · obtain ⟨hq1, hq4⟩ := inR_iff.1 hq
      clear hq
      go_wp2_with (go_at_call 19; refine (inRange_any _ _ _ _).mono ?_; rintro e w' ⟨rfl, rfl⟩; rw [HQ.out])
      go_loopw [8, 17] (fun _ i wr => ∃ k : Nat, k ≤ lists.length ∧ i = .int .i64 k ∧ Hid ((lists.take k).all (fun l => colsOk n 0 (q - 1) l) = true) ∧ Below w1.heap.size w1 wr) (fun _ i _ => lists.length - (intOf i).toNat)
      case atStart => exact ⟨0, Nat.zero_le _, rfl, rfl, Below.refl _ _⟩
      case round =>
        obtain ⟨k, hk, rfl, hok, hbr⟩ := hrel
        have hbw := hb1.trans (hbr.mono hb1.size)
        by_cases hlt : k < lists.length
        · obtain ⟨x, bb, off, rfl, gc, sx⟩ := SlII.row HU.out (HG.out _ hbw).1 (HG.out _ hbw).2 hlt
          have i1 : (k : Int) < (lists.length : Int) := by omega
          obtain ⟨_, c0, c1⟩ := X1.out.below hbr
          simp only [Nat.zero_add] at c0 c1
          obtain ⟨xa, xc, rfl, _⟩ := id sx
          generalize hp : colsOk n 0 (q - 1) lists[k] = P
          have HP := Lib.hid hp
          have SX := Lib.hid sx
          clear hp sx
          go_wp2_with fail
          refine (areColours_any n q 0 _ ⟨_, _, _, rfl⟩ SX.out hq1 hq4).mono ?_
          rintro e w2 ⟨rfl, b2⟩
          rw [HP.out]
          have hb2 := hbr.trans (b2.mono hbr.size)
          clear b2 c0 c1
          cases P
          · go_wp2
            go_ret
            exact ⟨ri (by
              unfold codeC
              rw [HGG.out, HQ.out, show lists.all (fun l => colsOk n 0 (q - 1) l) = false from by rw [List.all_eq_false]; exact ⟨lists[k], List.getElem_mem hlt, by rw [HP.out]; simp⟩]
              rfl), hb1.trans (hb2.mono hb1.size)⟩
          · go_wp2
            go_roundw
            case rel => exact ⟨k + 1, by omega, by go_num, by unfold Hid at *; rw [List.take_succ_eq_append_getElem hlt, List.all_append, hok]; simp [HP], hb2⟩
            case measure => simp [intOf]; omega
        · obtain rfl : k = lists.length := by omega
          go_wp2
          go_ret
          exact ⟨ri (by
            have := hok.out
            rw [List.take_length] at this
            unfold codeC
            rw [HGG.out, HQ.out, this]; rfl), hbw⟩
/-- a new array with one slice in it, as a slice of slices -/
theorem slii_one {w : World} {u : Value} {xs : List Int} (hu : SlI w u xs) : SlII (w.alloc (.cells #[u] 42)) (.slice (some ⟨w.heap.size, 0, none⟩) 1 1) [xs] := by
  refine ⟨_, 1, [u], rfl, by simp, by simp [maxLen], rfl, rd_new w #[u] _, fun i hi x hx => ?_⟩
  cases i with
  | zero => simp at hx; subst hx; exact hu.below ((Below.refl _ _).alloc (Nat.le_refl _) _)
  | succ i => simp at hi
end Go.Proofs.Ytjbjkfahfjoigaa
namespace Go.Proofs.Ytjbjkfahfjoigaa
open Go.RowKit Go.Sort
def sameE (cs : List Int) (e : List Int) : Bool := decide (cs.getD (e.getD 0 0).toNat 0 = cs.getD (e.getD 1 0).toNat 0)
theorem properB_eq (es : List (List Int)) (cs : List Int) : properB es cs = !(es.any (sameE cs)) := rfl
theorem sameE_two {cs : List Int} {a c : Nat} (h1 : a < cs.length) (h2 : c < cs.length) : sameE cs [(a : Int), (c : Int)] = decide (cs[a] = cs[c]) := by
  simp [sameE, List.getD_eq_getElem?_getD, List.getElem?_eq_getElem h1, List.getElem?_eq_getElem h2]
theorem any_take_succL {α : Type} {p : α → Bool} {l : List α} {k : Nat} (h : (l.take k).any p = false) (hk : k < l.length) (he : p l[k] = false) : (l.take (k + 1)).any p = false := by
  rw [List.take_succ_eq_append_getElem hk, List.any_append, h]; simp [he]
theorem any_atL {α : Type} {p : α → Bool} {l : List α} {k : Nat} (hk : k < l.length) (he : p l[k] = true) : l.any p = true := by
  rw [List.any_eq_true]; exact ⟨_, List.getElem_mem hk, he⟩
set_option maxRecDepth 100000 in
set_option maxHeartbeats 2000000 in
theorem l08Proper_any {v u : Value} {es : List (List Int)} {cs : List Int} (b o m : Nat) (n : Int) (w : World) (hc : GraphAt w b o n v) (ha : SlII w v es) (hu : SlI w u cs) (hE : EdgesB m es) (hm : cs.length = m) :
    Calls Try.prog 58 #[.pointer (some ⟨b, o, none⟩), u] w fun e w' => e = .returned (.bool (properB es cs)) ∧ Below w.heap.size w w' := by
  obtain ⟨a, ca, us, rfl, hca, hca', hul, hrd, hrow⟩ := ha
  have HG := Lib.hid (fun W (h : Below w.heap.size w W) => And.intro (hrd.below h) (fun i hi u hu => (hrow i hi u hu).below h))
  have HC := Lib.hid (fun W (h : Below w.heap.size w W) => hc.below h)
  have HV := Lib.hid (fun W (h : Below w.heap.size w W) => hu.below h)
  have HU := Lib.hid hul
  have HE := Lib.hid hE
  have HM := Lib.hid hm
  obtain ⟨_, c0, c1⟩ := hc
  obtain ⟨va, vc, rfl, _, hvc, _⟩ := hu
  unfold maxLen at hca' hvc
  clear hul hrd hrow hE hm
  go_enter Try.func58, Try.ntmps58
  go_wp2
  clear c0 c1
  go_loopw [5] (fun i wr => ∃ k : Nat, k ≤ es.length ∧ i = .int .i64 k ∧ Hid ((es.take k).any (sameE cs) = false) ∧ Below w.heap.size w wr) (fun i _ => es.length - (intOf i).toNat)
  case atStart => exact ⟨0, Nat.zero_le _, rfl, rfl, Below.refl _ _⟩
  case round =>
    obtain ⟨k, hk, rfl, hok, hbr⟩ := hrel
    obtain ⟨_, c0, c1⟩ := HC.out _ hbr
    by_cases hlt : k < es.length
    · obtain ⟨x, bb, off, rfl, gc, sx⟩ := SlII.row HU.out (HG.out _ hbr).1 (HG.out _ hbr).2 hlt
      have i1 : (k : Int) < (es.length : Int) := by omega
      have i0 : (0 : Int) ≤ (k : Int) := by omega
      obtain ⟨p, q, he, hpq, hqm⟩ := HE.out _ (List.getElem_mem hlt)
      rw [he] at sx
      have hp1 : p < cs.length := by rw [HM.out]; omega
      have hq1 : q < cs.length := by rw [HM.out]; omega
      have hsame : sameE cs es[k] = decide (cs[p] = cs[q]) := by rw [he]; exact sameE_two hp1 hq1
      obtain ⟨ua, uc, rfl, _, _, ur⟩ := sx
      obtain ⟨_, _, he', _, _, vr⟩ := HV.out _ hbr
      simp only [Value.slice.injEq] at he'
      obtain ⟨rfl, _, rfl⟩ := he'
      obtain ⟨eb, eo, rfl, g0⟩ := ur.one (i64s_get (j := 0) (by simp))
      obtain ⟨eb', eo', he', g1⟩ := ur.one (i64s_get (j := 1) (by simp))
      simp only [Option.some.injEq, Addr.mk.injEq] at he'
      obtain ⟨rfl, rfl, _⟩ := he'
      obtain ⟨cb, co, rfl, ga⟩ := vr.one (i64s_get hp1)
      obtain ⟨cb', co', he', gq⟩ := vr.one (i64s_get hq1)
      simp only [Option.some.injEq, Addr.mk.injEq] at he'
      obtain ⟨rfl, rfl, _⟩ := he'
      simp only [Nat.add_zero, List.getElem_cons_zero, List.getElem_cons_succ] at g0 g1
      have kc1 := fun d os => cell_regrown c1 d os
      have kgc := fun d os => cell_regrown gc d os
      have kg0 := fun d os => cell_regrown g0 d os
      have kg1 := fun d os => cell_regrown g1 d os
      have kga := fun d os => cell_regrown ga d os
      have kgq := fun d os => cell_regrown gq d os
      have j1 : (p : Int) < (cs.length : Int) := by omega
      have j2 : (q : Int) < (cs.length : Int) := by omega
      have j3 : (0 : Int) < (([(p : Int), (q : Int)].length : Nat) : Int) := by simp
      have j4 : (1 : Int) < (([(p : Int), (q : Int)].length : Nat) : Int) := by simp
      have HS := Lib.hid hsame
      clear he hpq hqm hsame
      generalize hd : decide (cs[p] = cs[q]) = d at HS
      have HD := Lib.hid hd
      clear hd
      go_wp2_with fail
      refine wp_region_quiet_below (by kernel_rfl) (by kernel_rfl) ?_
      repeat (first | go_big_quiet_skip | quiet_step (first | fail))
      refine wpQuiet_nil ?_
      intro _ hw'
      obtain ⟨⟨dq, osq⟩, hw''⟩ := hw'
      subst hw''
      have bq0 := below_regrown wr dq osq
      generalize grow (redrawn wr dq) osq = wq at bq0 ⊢
      have hb2 := hbr.trans (bq0.mono hbr.size)
      clear kc1 kgc kg0 kg1 kga kgq
      have hd2 := HD.out
      cases d
      · have ht : (cs[p] == cs[q]) = false := by simpa using hd2
        clear hd2
        go_wp2
        go_roundw
        case rel => exact ⟨k + 1, by omega, by go_num, any_take_succL hok.out hlt HS.out, hb2⟩
        case measure => simp [intOf]; omega
      · have ht : (cs[p] == cs[q]) = true := by simpa using hd2
        clear hd2
        go_wp2
        go_ret
        exact ⟨rb (by rw [properB_eq, any_atL hlt HS.out]; rfl), hb2⟩
    · obtain rfl : k = es.length := by omega
      go_wp2
      go_ret
      exact ⟨rb (by
        have := hok.out
        rw [List.take_length] at this
        rw [properB_eq, this]; rfl), hbr⟩
set_option maxHeartbeats 1000000 in
theorem isColouring_any {v u : Value} {es : List (List Int)} {cs : List Int} (m : Nat) (n : Int) (w : World) (ha : SlII w v es) (hu : SlI w u cs) (hE : EdgesB m es) (hm : cs.length = m) :
    Calls Try.prog 82 #[.agg #[.int .i64 n, v], u] w fun e w' => e = .returned (.bool (properB es cs)) ∧ Below w.heap.size w w' := by
  have hmf : ∀ (fn : Fn) (first cap : Array Value) (w : World), (Instr.makeFunc fn first cap).run Try.prog w = .ok (.func fn first cap) w := fun _ _ _ _ => rfl
  have HA := Lib.hid (fun W (h : Below w.heap.size w W) => ha.below h)
  have HV := Lib.hid (fun W (h : Below w.heap.size w W) => hu.below h)
  have HE := Lib.hid hE
  have HM := Lib.hid hm
  obtain ⟨a, ca, us, rfl, _⟩ := ha
  obtain ⟨va, vc, rfl, _⟩ := hu
  have b1 : Below w.heap.size w (w.alloc (.cells #[.int .i64 n, .slice a es.length ca] 35)) := (Below.refl _ _).alloc (Nat.le_refl _) _
  have b2 := b1.alloc (by simp) (.cells #[.slice va cs.length vc] 42)
  have X := Lib.hid (CellsAt.new' (w.alloc (.cells #[.int .i64 n, .slice a es.length ca] 35)) [.slice va cs.length vc] 42 (b := w.heap.size + 1) (by simp))
  clear hE hm
  go_enter Try.func82, Try.ntmps82
  go_wp2_with fail
  refine (ContainsFuncCol_any _ (sameE cs) _ (HA.out _ b2) (fun W x u hW hx hu => ?_)).mono ?_
  · obtain ⟨p, q, he, hpq, hqm⟩ := HE.out x hx
    have hp1 : p < cs.length := by rw [HM.out]; omega
    have hq1 : q < cs.length := by rw [HM.out]; omega
    subst he
    rw [sameE_two hp1 hq1]
    exact colClosure_any _ W (X.out.below hW) (HV.out _ (b2.trans (hW.mono b2.size))) hu hp1 hq1
  · rintro e w1 ⟨rfl, b3⟩
    go_wp2
    go_ret
    exact ⟨rb (properB_eq es cs).symm, b2.trans (b3.mono b2.size)⟩
def tupBI (r : Bool × Int) : Value := .tuple #[.bool r.1, .int .i64 r.2]
def isColR (n : Int) (es : List (List Int)) (q : Int) (cs : List Int) : Bool × Int :=
  let code := askedC n es q (colsOk n 0 (IntKind.i64.wrap (q - 1)) cs)
  if code = 0 then (properB es cs, 0) else (false, code)
theorem askedC_ok {n q : Int} {es : List (List Int)} {r : Bool} (h : askedC n es q r = 0) : graphOk n es = true ∧ 1 ≤ q ∧ q ≤ 4 ∧ r = true := by
  unfold askedC at h
  split at h
  · simp at h
  · rename_i h1
    split at h
    · simp at h
    · rename_i h2
      split at h
      · simp at h
      · rename_i h3
        have h2' : inR q 1 4 = true := by simpa using h2
        have := inR_iff.1 h2'
        exact ⟨by simpa using h1, this.1, this.2, by simpa using h3⟩
theorem askedC_rng {n q : Int} {es : List (List Int)} {r : Bool} : askedC n es q r = 0 ∨ askedC n es q r = 1 ∨ askedC n es q r = 2 := by
  unfold askedC
  split
  · simp
  · split
    · simp
    · split <;> simp
theorem colsOk_len {n lo hi : Int} {cs : List Int} (h : colsOk n lo hi cs = true) : (cs.length : Int) = n ∧ ∀ c ∈ cs, lo ≤ c ∧ c ≤ hi := by
  unfold colsOk at h
  rw [Bool.and_eq_true, List.all_eq_true] at h
  exact ⟨of_decide_eq_true h.2, fun c hc => inR_iff.1 (h.1 c hc)⟩
theorem codeC_one {n q : Int} {es : List (List Int)} {cs : List Int} : codeC n es q [cs] = askedC n es q (colsOk n 0 (IntKind.i64.wrap (q - 1)) cs) := by
  unfold codeC askedC
  split
  · rfl
  · split
    · rfl
    · rename_i h
      have h2' : inR q 1 4 = true := by simpa using h
      have := inR_iff.1 h2'
      rw [IntWalk.i64_in _ (by omega)]
      simp
end Go.Proofs.Ytjbjkfahfjoigaa
