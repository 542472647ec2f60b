/-
  Rising runs: a deck's place among all, its runs, both sides. With it: Laws at one operation, in a list of operations and in a region that draws its order: a call by its contract, append on owned slices and rows. Graphs: valid or not, the reference's. Searches: plain laws. A search by (impl.Graph).isColouring$1. A search by (impl.Graph).areColours$1. Colourings: what a graph that is valid is; lists of colours; proper colourings, both sides. The reference's l08Ok, l08List, l08Asked, l08Proper. IsColouring, both sides, and the codes of graphs, colours and lists. IsColouring, both sides. A search by (impl.Graph).isIndependent$1. Decks: all orders of few cards, as the reference lists them; the place of a deck among them.
-/
import Derived.Test.YtenemohjmemoiaaZRowChangeSet2
import Derived.Deep.RegionLaw
import Derived.Test.YtenemohjmemoiaaZRowChangeSet1
set_option linter.unusedVariables false
set_option linter.unusedSimpArgs false
namespace Go.Proofs.Ytenemohjmemoiaa
open Go.RowKit Go.Sort
theorem step_of_wp {P : Program} {ops : Array Oper} {o : Oper} {a : Act} {w : World} {K : Act → World → Prop} {Q : Exit → Act → World → Prop} {E : Prop} (hg : o.guard = none) (h : Oper.wp P o a w K Q) : if Region.wanted o (yielded ops a.tmps) = true then Oper.wp P o a w K Q else E := by
  rw [if_pos (by simp [Region.wanted, hg])]; exact h
theorem wp_calls {P : Program} {o : Oper} {a : Act} {w : World} {K : Act → World → Prop} {Q : Exit → Act → World → Prop} {f : FuncId} {args : Array Value} {R : Ending → World → Prop}
    (hrun : (execOp a.eval o).run P w = .ok (.enter f args) w) (hc : Calls P f args w R) (hK : ∀ e w', R e w' → ∃ v, e = .returned v ∧ K (a.put o.dst v) w') : Oper.wp P o a w K Q := by
  unfold Oper.wp
  rw [hrun, Oper.upon_enter]
  exact hc.mono (fun e w' h => by obtain ⟨v, rfl, hk⟩ := hK e w' h; exact hk)
theorem step_calls {P : Program} {ops : Array Oper} {o : Oper} {a : Act} {w : World} {K : Act → World → Prop} {Q : Exit → Act → World → Prop} {E : Prop} {f : FuncId} {args : Array Value} {R : Ending → World → Prop} (hg : o.guard = none)
    (hrun : (execOp a.eval o).run P w = .ok (.enter f args) w) (hc : Calls P f args w R) (hK : ∀ e w', R e w' → ∃ v, e = .returned v ∧ K (a.put o.dst v) w') : if Region.wanted o (yielded ops a.tmps) = true then Oper.wp P o a w K Q else E :=
  step_of_wp hg (wp_calls hrun hc hK)
theorem list_of_wp {P : Program} {ops : Array Oper} {rest : List Oper} {o : Oper} {a : Act} {w : World} {Q : Exit → Act → World → Prop} (hg : o.guard = none) (h : ∀ K : Act → World → Prop, (∀ a' w', wpList P ops Q rest a' w' → K a' w') → Oper.wp P o a w K Q) : wpList P ops Q (o :: rest) a w :=
  wpList_plain hg h
namespace Flat
variable {α : Type}
/-- append of any slice on an owned one, at the operation -/
theorem wpApp {o : Oper} {a : Act} {K : Act → World → Prop} {Q : Exit → Act → World → Prop} (F : Flat α) (w : World) (s x : Operand)
    (ho : o.op = .call { callee := .builtin .append, args := #[s, x], argTypes := #[F.T, F.T] })
    {base : Nat} {v : Value} {xs ys : List α} (hs : a.eval s = v) (hown : F.Own w base v xs) {ad : Option Addr} {c : Nat} (hx : a.eval x = .slice ad ys.length c) (hr : Rd w ad (F.encs ys))
    (hlen : xs.length + ys.length ≤ 16777216) (hbase : base ≤ w.heap.size)
    (h : ∀ v' w', F.Own w' base v' (xs ++ ys) → w.grownBy w' v.ownBlock → K (a.put o.dst v') w') : Oper.wp Try.prog o a w K Q := by
  obtain ⟨i0, hi, hz0, hz1, hz2⟩ := info_parts F.inf
  cases ad with
  | none =>
    have h0 : ys = [] := by
      cases ys with
      | nil => rfl
      | cons y ys =>
        have hl : 0 < (F.encs (y :: ys)).length := by rw [F.encs_length]; exact Nat.mul_pos (by simp) F.pos
        obtain ⟨b, off, h1, _⟩ := hr.all hl
        simp at h1
    subst h0
    have hrun := run_append_of_nil (P := Try.prog) w base F.T o.type F.E i0 F.size F.und hi v xs.length (F.encs xs) hown c
    unfold Oper.wp execOp
    simp only [List.length_nil] at hx
    simp only [ho, resolve, invoke, builtin, Sem.run_bind, Sem.run_pure, Result.andThen_ok, List.map_toArray, List.map_cons, List.map_nil, hs, hx, hrun]
    exact h v w (by simpa using hown) (World.grownBy.refl w _)
  | some ad =>
    refine wp_append_own w s x _ ho base F.E i0 F.z F.size F.bytes F.und hi hz0 hz1 hz2 F.zsz F.pos v xs.length (F.encs xs) hs hown ad ys.length c (F.encs ys) hx (F.encs_length ys) ?_ (fun u hu => F.encs_one hu) (by simp [maxLen]; omega) ?_ hbase (fun v' w' h1 h2 _ => ?_)
    · intro j u hu
      obtain ⟨b, off, he, _, hc⟩ := hr j u hu
      simp at he
      subst he
      unfold Addr.add
      by_cases hj : j = 0
      · subst hj; simpa using hc
      · simpa [hj] using hc
    · have := F.few
      calc (xs.length + ys.length) * F.bytes ≤ 16777216 * 4096 := Nat.mul_le_mul hlen this
        _ ≤ 140737488355328 := by decide
    · refine h v' w' ?_ h2
      unfold Own
      rw [encs_append, List.length_append]
      exact h1
end Flat
theorem rd_one {w : World} {g : Nat} {u : Value} (h : w.cell? ⟨g, 0, none⟩ = some u) (hg : g < w.heap.size) : Rd w (some ⟨g, 0, none⟩) [u] := by
  intro j x hx
  cases j with
  | zero => simp at hx; subst hx; exact ⟨g, 0, rfl, hg, h⟩
  | succ j => simp at hx
theorem cell_lt {w : World} {g i : Nat} {u : Value} (h : w.cell? ⟨g, i, none⟩ = some u) : g < w.heap.size := by
  unfold World.cell? at h
  cases hh : w.heap[g]? with
  | none => rw [hh] at h; simp at h
  | some o => exact (Array.getElem?_eq_some_iff.1 hh).1
/-- append(v, y) on an owned []int64; y lies in a block of its own -/
theorem wpAppI {o : Oper} {a : Act} {K : Act → World → Prop} {Q : Exit → Act → World → Prop} (w : World) (s x : Operand)
    (ho : o.op = .call { callee := .builtin .append, args := #[s, x], argTypes := #[31, 31] })
    {base g : Nat} {v : Value} {xs : List Int} {y : Int} (hs : a.eval s = v) (hown : OwnI w base v xs) (hx : a.eval x = .slice (some ⟨g, 0, none⟩) 1 1) (hc : w.cell? ⟨g, 0, none⟩ = some (.int .i64 y))
    (hlen : xs.length < 16777216) (hbase : base ≤ w.heap.size)
    (h : ∀ v' w', OwnI w' base v' (xs ++ [y]) → w.grownBy w' v.ownBlock → K (a.put o.dst v') w') : Oper.wp Try.prog o a w K Q := by
  refine Flat.wpApp FI w s x ho hs (by rw [FI_own]; exact hown) (ys := [y]) hx (by rw [FI_encs]; exact rd_one hc (cell_lt hc)) (by simp; omega) hbase (fun v' w' h1 h2 => h v' w' (by rw [FI_own] at h1; exact h1) h2)
theorem listAppI {ops : Array Oper} {rest : List Oper} {o : Oper} {a : Act} {Q : Exit → Act → World → Prop} (w : World) (s x : Operand) (hg : o.guard = none)
    (ho : o.op = .call { callee := .builtin .append, args := #[s, x], argTypes := #[31, 31] })
    {base g : Nat} {v : Value} {xs : List Int} {y : Int} (hs : a.eval s = v) (hown : OwnI w base v xs) (hx : a.eval x = .slice (some ⟨g, 0, none⟩) 1 1) (hc : w.cell? ⟨g, 0, none⟩ = some (.int .i64 y))
    (hlen : xs.length < 16777216) (hbase : base ≤ w.heap.size)
    (h : ∀ v' w', OwnI w' base v' (xs ++ [y]) → w.grownBy w' v.ownBlock → wpList Try.prog ops Q rest (a.put o.dst v') w') : wpList Try.prog ops Q (o :: rest) a w :=
  list_of_wp hg fun K hK => wpAppI w s x ho hs hown hx hc hlen hbase fun v' w' h1 h2 => hK _ _ (h v' w' h1 h2)
theorem stepAppI {ops : Array Oper} {o : Oper} {a : Act} {K : Act → World → Prop} {Q : Exit → Act → World → Prop} {E : Prop} (w : World) (s x : Operand) (hg : o.guard = none)
    (ho : o.op = .call { callee := .builtin .append, args := #[s, x], argTypes := #[31, 31] })
    {base g : Nat} {v : Value} {xs : List Int} {y : Int} (hs : a.eval s = v) (hown : OwnI w base v xs) (hx : a.eval x = .slice (some ⟨g, 0, none⟩) 1 1) (hc : w.cell? ⟨g, 0, none⟩ = some (.int .i64 y))
    (hlen : xs.length < 16777216) (hbase : base ≤ w.heap.size)
    (h : ∀ v' w', OwnI w' base v' (xs ++ [y]) → w.grownBy w' v.ownBlock → K (a.put o.dst v') w') : if Region.wanted o (yielded ops a.tmps) = true then Oper.wp Try.prog o a w K Q else E :=
  step_of_wp hg (wpAppI w s x ho hs hown hx hc hlen hbase h)

theorem wp_app_one {T E : Nat} {z : Value} {bytes : Nat} (hT : OneT T E z bytes) {o : Oper} {a : Act} {K : Act → World → Prop} {Q : Exit → Act → World → Prop} (w : World) (s x : Operand)
    (ho : o.op = .call { callee := .builtin .append, args := #[s, x], argTypes := #[T, T] })
    {base g n : Nat} {v y : Value} {xs : List Value} (hy1 : y.oneCell' = true) (hs : a.eval s = v) (hown : w.ownsRow base E 1 v n xs) (hx : a.eval x = .slice (some ⟨g, 0, none⟩) 1 1) (hc : w.cell? ⟨g, 0, none⟩ = some y)
    (hlen : n < 16777216) (hbase : base ≤ w.heap.size)
    (h : ∀ v' w', w'.ownsRow base E 1 v' (n + 1) (xs ++ [y]) → w.grownBy w' v.ownBlock → K (a.put o.dst v') w') : Oper.wp Try.prog o a w K Q := by
  obtain ⟨i0, hi, hz0, hz1, hz2⟩ := info_parts hT.inf
  refine wp_append_own w s x _ ho base E i0 z 1 bytes hT.und hi hz0 hz1 hz2 hT.one (by decide) v n xs hs hown ⟨g, 0, none⟩ 1 1 [y] hx rfl ?_ (by intro u hu; simp at hu; subst hu; exact hy1) (by simp [maxLen]; omega) ?_ hbase (fun v' w' h1 h2 _ => h v' w' h1 h2)
  · intro j u hu
    cases j with
    | zero => simp at hu; subst hu; simpa [Addr.add] using hc
    | succ j => simp at hu
  · have := hT.few
    calc (n + 1) * bytes ≤ 16777216 * 4096 := Nat.mul_le_mul (by omega) this
      _ ≤ 140737488355328 := by decide
theorem OwnIIB.lt {w : World} {base B : Nat} {v : Value} {xss : List (List Int)} (h : OwnIIB w base B v xss) (g : Nat) (hg : v.ownBlock = some g) : base ≤ g ∧ g < w.heap.size := by
  obtain ⟨vs, h1, _⟩ := h
  exact h1.lt g hg
theorem OwnI.one {w : World} {base : Nat} {u : Value} {xs : List Int} (h : OwnI w base u xs) : u.oneCell' = true := by
  rcases h.2 with ⟨rfl, _⟩ | ⟨g, c, cur, rfl, _⟩ <;> rfl
/-- append(v, u) on owned rows; u an owned row, its block none of theirs -/
theorem wpAppRow {o : Oper} {a : Act} {K : Act → World → Prop} {Q : Exit → Act → World → Prop} (w : World) (s x : Operand)
    (ho : o.op = .call { callee := .builtin .append, args := #[s, x], argTypes := #[22, 22] })
    {base B g : Nat} {v u : Value} {xss : List (List Int)} {xs : List Int} (hs : a.eval s = v) (hown : OwnIIB w base B v xss) (hu : OwnI w base u xs) (hB : ∀ g, u.ownBlock = some g → B ≤ g)
    (hx : a.eval x = .slice (some ⟨g, 0, none⟩) 1 1) (hc : w.cell? ⟨g, 0, none⟩ = some u) (hlen : xss.length < 16777216) (hbase : base ≤ w.heap.size)
    (h : ∀ v' w', OwnII w' base v' (xss ++ [xs]) → w.grownBy w' v.ownBlock → K (a.put o.dst v') w') : Oper.wp Try.prog o a w K Q := by
  obtain ⟨vs, h1, h2, h3⟩ := hown
  refine wp_app_one tI64S w s x ho hu.one hs h1 hx hc hlen hbase (fun v' w' k1 k2 => h v' w' ⟨vs ++ [u], ?_, ?_⟩ k2)
  · rw [List.length_append]; exact k1
  · have hsn : Rows2 w base (vs ++ [u]) (xss ++ [xs]) := Rows2.snoc (B := B) h2 hu h3 hB
    exact hsn.kept h1 k2
theorem listAppRow {ops : Array Oper} {rest : List Oper} {o : Oper} {a : Act} {Q : Exit → Act → World → Prop} (w : World) (s x : Operand) (hg : o.guard = none)
    (ho : o.op = .call { callee := .builtin .append, args := #[s, x], argTypes := #[22, 22] })
    {base B g : Nat} {v u : Value} {xss : List (List Int)} {xs : List Int} (hs : a.eval s = v) (hown : OwnIIB w base B v xss) (hu : OwnI w base u xs) (hB : ∀ g, u.ownBlock = some g → B ≤ g)
    (hx : a.eval x = .slice (some ⟨g, 0, none⟩) 1 1) (hc : w.cell? ⟨g, 0, none⟩ = some u) (hlen : xss.length < 16777216) (hbase : base ≤ w.heap.size)
    (h : ∀ v' w', OwnII w' base v' (xss ++ [xs]) → w.grownBy w' v.ownBlock → wpList Try.prog ops Q rest (a.put o.dst v') w') : wpList Try.prog ops Q (o :: rest) a w :=
  list_of_wp hg fun K hK => wpAppRow w s x ho hs hown hu hB hx hc hlen hbase fun v' w' h1 h2 => hK _ _ (h v' w' h1 h2)
theorem stepAppRow {ops : Array Oper} {o : Oper} {a : Act} {K : Act → World → Prop} {Q : Exit → Act → World → Prop} {E : Prop} (w : World) (s x : Operand) (hg : o.guard = none)
    (ho : o.op = .call { callee := .builtin .append, args := #[s, x], argTypes := #[22, 22] })
    {base B g : Nat} {v u : Value} {xss : List (List Int)} {xs : List Int} (hs : a.eval s = v) (hown : OwnIIB w base B v xss) (hu : OwnI w base u xs) (hB : ∀ g, u.ownBlock = some g → B ≤ g)
    (hx : a.eval x = .slice (some ⟨g, 0, none⟩) 1 1) (hc : w.cell? ⟨g, 0, none⟩ = some u) (hlen : xss.length < 16777216) (hbase : base ≤ w.heap.size)
    (h : ∀ v' w', OwnII w' base v' (xss ++ [xs]) → w.grownBy w' v.ownBlock → K (a.put o.dst v') w') : if Region.wanted o (yielded ops a.tmps) = true then Oper.wp Try.prog o a w K Q else E :=
  step_of_wp hg (wpAppRow w s x ho hs hown hu hB hx hc hlen hbase h)
theorem OwnII.lt {w : World} {base : Nat} {v : Value} {xss : List (List Int)} (h : OwnII w base v xss) (g : Nat) (hg : v.ownBlock = some g) : base ≤ g ∧ g < w.heap.size := by
  obtain ⟨vs, h1, _⟩ := h
  exact h1.lt g hg
theorem Fs.refl (S : Nat → Prop) (w : World) : Fs S w w := ⟨rfl, rfl, rfl, Nat.le_refl _, fun _ _ _ => rfl⟩
theorem Fs.set {S : Nat → Prop} {w w' : World} (h : Fs S w w') {a : Addr} (ha : S a.block) (u : Value) : Fs S w (w'.setCell a u) :=
  ⟨h.os, h.tape, h.output, by simpa using h.size, fun k hk hx => by
    rw [heap_setCell_other w' a k u (fun e => hx (by rw [e]; exact ha))]; exact h.block k hk hx⟩
theorem Fs.frozen {S : Nat → Prop} {w w' : World} (h : Fs S w w') {p : Addr} (hp : p.block < w.heap.size) (hn : ¬ S p.block) : w'.frozen? p = w.frozen? p := by
  simp [World.frozen?, h.block p.block hp hn]
end Go.Proofs.Ytenemohjmemoiaa
namespace Go.Proofs.Ytenemohjmemoiaa
open Go.RowKit Go.Sort
set_option maxHeartbeats 2000000 in
theorem l08Less_any {u v : Value} {xs ys : List Int} (w : World) (ha : SlI w u xs) (hb : SlI w v ys) :
    Calls Try.prog 109 #[u, v] w fun e w' => e = .returned (.bool (lessL xs ys)) ∧ Below w.heap.size w w' := by
  obtain ⟨a, ca, rfl, hca, hca', ha⟩ := ha
  obtain ⟨b, cb, rfl, hcb, hcb', hb⟩ := hb
  unfold maxLen at hca' hcb'
  go_enter Try.func109, Try.ntmps109
  go_wp2
  go_loopw [5] (fun i wr => ∃ k : Nat, k ≤ xs.length ∧ k ≤ ys.length ∧ i = .int .i64 k ∧ Hid (lessL xs ys = lessL (xs.drop k) (ys.drop k)) ∧ Below w.heap.size w wr) (fun i _ => xs.length - (intOf i).toNat)
  case atStart => exact ⟨0, Nat.zero_le _, Nat.zero_le _, rfl, rfl, Below.refl _ _⟩
  case round =>
    obtain ⟨k, hk, hk2, rfl, hc, hbr⟩ := hrel
    have HA := Lib.hid (ha.below hbr)
    have HB := Lib.hid (hb.below hbr)
    by_cases hlt : k < xs.length
    · have i1 : (k : Int) < (xs.length : Int) := by omega
      by_cases hy : k < ys.length
      · obtain ⟨ba, oa, rfl, ga⟩ := HA.out.one (i64s_get hlt)
        obtain ⟨bb, ob, rfl, gb⟩ := HB.out.one (i64s_get hy)
        have i2 : (k : Int) < (ys.length : Int) := by omega
        have i0 : (0 : Int) ≤ (k : Int) := by omega
        have hd := lessL_drop hlt hy
        have HD := Lib.hid hd
        have ka := fun d os => cell_regrown ga d os
        have kb := fun d os => cell_regrown gb d os
        clear hd
        by_cases he : xs[k] = ys[k]
        · have ht : (xs[k] != ys[k]) = false := by simp [he]
          have HE := Lib.hid he
          clear he
          go_wp2_with fail
          refine wp_region_quiet_below (by kernel_rfl) (by kernel_rfl) ?_
          repeat (first | go_big_quiet_skip | quiet_step (first | fail))
          refine wpQuiet_nil ?_
          intro _ hw'
          obtain ⟨⟨dq, osq⟩, hw''⟩ := hw'
          subst hw''
          have bq0 := below_regrown wr dq osq
          generalize grow (redrawn wr dq) osq = wq at bq0 ⊢
          have hb2 := hbr.trans (bq0.mono hbr.size)
          clear ka kb ht
          go_wp2
          go_roundw
          case rel => exact ⟨k + 1, by omega, by omega, by go_num, by unfold Hid at *; rw [hc, HD, if_pos HE], hb2⟩
          case measure => simp [intOf]; omega
        · have ht : (xs[k] != ys[k]) = true := by simp [he]
          have HE := Lib.hid he
          clear he
          go_wp2_with fail
          refine wp_region_quiet_below (by kernel_rfl) (by kernel_rfl) ?_
          repeat (first | go_big_quiet_skip | quiet_step (first | fail))
          refine wpQuiet_nil ?_
          intro _ hw'
          obtain ⟨⟨dq, osq⟩, hw''⟩ := hw'
          subst hw''
          have bq0 := below_regrown wr dq osq
          generalize grow (redrawn wr dq) osq = wq at bq0 ⊢
          have hb2 := hbr.trans (bq0.mono hbr.size)
          have ga2 := bq0.cell (p := ⟨ba, oa + k, none⟩) (cell_lt ga)
          have gb2 := bq0.cell (p := ⟨bb, ob + k, none⟩) (cell_lt gb)
          rw [ga] at ga2
          rw [gb] at gb2
          have ka2 := fun d os => cell_regrown ga2 d os
          have kb2 := fun d os => cell_regrown gb2 d os
          clear ka kb ht
          go_wp2_with fail
          refine wp_region_quiet_below (by kernel_rfl) (by kernel_rfl) ?_
          repeat (first | go_big_quiet_skip | quiet_step (first | fail))
          refine wpQuiet_nil ?_
          intro _ hw'
          obtain ⟨⟨dq, osq⟩, hw''⟩ := hw'
          subst hw''
          have bq1 := below_regrown wq dq osq
          generalize grow (redrawn wq dq) osq = wq2 at bq1 ⊢
          clear ka2 kb2
          go_wp2
          go_ret
          exact ⟨rb (by rw [hc.out, HD.out, if_neg HE.out]), hb2.trans (bq1.mono hb2.size)⟩
      · obtain rfl : k = ys.length := by omega
        go_wp2
        go_ret
        exact ⟨rb (by rw [hc.out, List.drop_length, List.drop_eq_getElem_cons hlt]; unfold lessL; simp; omega), hbr⟩
    · obtain rfl : k = xs.length := by omega
      go_wp2
      go_ret
      exact ⟨rb (by
        rw [hc.out, List.drop_length]
        by_cases hy : xs.length < ys.length
        · rw [List.drop_eq_getElem_cons hy]; simp [lessL, hy]
        · rw [List.drop_eq_nil_of_le (by omega)]; simp [lessL]; omega), hbr⟩
def riseN (lo hi : Int) (e : List Int) : Nat → Bool
  | 0 => true
  | k + 1 => riseN lo hi e k && (inR (e.getD k 0) lo hi && (decide (k = 0) || decide (e.getD (k - 1) 0 < e.getD k 0)))
theorem riseN_false {lo hi : Int} {e : List Int} {k : Nat} (h : (inR (e.getD k 0) lo hi && (decide (k = 0) || decide (e.getD (k - 1) 0 < e.getD k 0))) = false) : ∀ {m : Nat}, k < m → riseN lo hi e m = false
  | 0, h1 => by omega
  | m + 1, h1 => by
    unfold riseN
    by_cases hk : k = m
    · subst hk; rw [h]; simp
    · rw [riseN_false h (show k < m by omega)]; rfl
set_option maxHeartbeats 4000000 in
theorem l00Rises_any {u : Value} {e : List Int} (lo hi : Int) (w : World) (ha : SlI w u e) :
    Calls Try.prog 108 #[u, .int .i64 lo, .int .i64 hi] w fun en w' => en = .returned (.bool (riseN lo hi e e.length)) ∧ Below w.heap.size w w' := by
  obtain ⟨a, ca, rfl, hca, hca', ha⟩ := ha
  unfold maxLen at hca'
  go_enter Try.func108, Try.ntmps108
  go_wp2
  go_loopw [7] (fun i wr => ∃ k : Nat, k ≤ e.length ∧ i = .int .i64 k ∧ Hid (riseN lo hi e k = true) ∧ Below w.heap.size w wr) (fun i _ => e.length - (intOf i).toNat)
  case atStart => exact ⟨0, Nat.zero_le _, rfl, rfl, Below.refl _ _⟩
  case round =>
    obtain ⟨k, hk, rfl, hc, hbr⟩ := hrel
    have HA := Lib.hid (ha.below hbr)
    by_cases hlt : k < e.length
    · have i1 : (k : Int) < (e.length : Int) := by omega
      have i0 : (0 : Int) ≤ (k : Int) := by omega
      obtain ⟨ba, oa, rfl, ga⟩ := HA.out.one (i64s_get hlt)
      have ka := fun d os => cell_regrown ga d os
      generalize hx : e[k] = x at ga ka
      have hgd : e.getD k 0 = x := by rw [getD_at hlt, hx]
      have HGD := Lib.hid hgd
      generalize hq : inR x lo hi = q
      have HQ := Lib.hid hq
      have HNO := Lib.hid (fun h => riseN_false (lo := lo) (hi := hi) (e := e) (k := k) h hlt)
      clear hx hgd hq
      cases q
      · go_wp2_with fail
        refine wp_region_quiet_below (by kernel_rfl) (by kernel_rfl) ?_
        repeat (first | go_big_quiet_skip | quiet_step (first | (with_reducible exact Calls.regrown_of (l00In_q HQ.out _))))
        refine wpQuiet_nil ?_
        intro _ hw'
        obtain ⟨⟨dq, osq⟩, hw''⟩ := hw'
        subst hw''
        have bq0 := below_regrown wr dq osq
        generalize grow (redrawn wr dq) osq = wq at bq0 ⊢
        clear ka
        go_wp2
        go_ret
        exact ⟨rb (HNO.out (by rw [HGD.out, HQ.out]; rfl)).symm, hbr.trans (bq0.mono hbr.size)⟩
      · by_cases hk0 : k = 0
        · have hk0' : decide (0 < k) = false := by simp; omega
          have HK0 := Lib.hid hk0
          clear hk0
          go_wp2_with fail
          refine wp_region_quiet_below (by kernel_rfl) (by kernel_rfl) ?_
          repeat (first | go_big_quiet_skip | quiet_step (first | (with_reducible exact Calls.regrown_of (l00In_q HQ.out _))))
          refine wpQuiet_nil ?_
          intro _ hw'
          obtain ⟨⟨dq, osq⟩, hw''⟩ := hw'
          subst hw''
          have bq0 := below_regrown wr dq osq
          generalize grow (redrawn wr dq) osq = wq at bq0 ⊢
          have hb2 := hbr.trans (bq0.mono hbr.size)
          clear ka hk0'
          go_wp2
          go_roundw
          case rel => exact ⟨k + 1, by omega, by go_num, by unfold Hid riseN; rw [hc.out, HGD.out, HQ.out]; simp [HK0.out], hb2⟩
          case measure => simp [intOf]; omega
        · obtain ⟨m, hm⟩ : ∃ m, k = m + 1 := ⟨k - 1, by omega⟩
          have r2 : IntKind.i64.wrap ((k : Int) - 1) = (m : Int) := by rw [IntWalk.i64_in _ (by omega)]; omega
          have hkp : decide (0 < k) = true := by simp; omega
          have hml : m < e.length := by omega
          have i3 : (0 : Int) ≤ (m : Int) := by omega
          have i4 : (m : Int) < (e.length : Int) := by omega
          obtain ⟨ba', oa', he', gm⟩ := HA.out.one (i64s_get hml)
          simp only [Option.some.injEq, Addr.mk.injEq] at he'
          obtain ⟨rfl, rfl, _⟩ := he'
          have km := fun d os => cell_regrown gm d os
          generalize hy : e[m] = y at gm km
          have hgm : e.getD (k - 1) 0 = y := by rw [hm, Nat.add_sub_cancel, getD_at hml, hy]
          have HGM := Lib.hid hgm
          have HM := Lib.hid hm
          clear hy hgm hm
          by_cases hxy : y < x
          · go_wp2_with fail
            refine wp_region_quiet_below (by kernel_rfl) (by kernel_rfl) ?_
            repeat (first | go_big_quiet_skip | quiet_step (first | (with_reducible exact Calls.regrown_of (l00In_q HQ.out _))))
            refine wpQuiet_nil ?_
            intro _ hw'
            obtain ⟨⟨dq, osq⟩, hw''⟩ := hw'
            subst hw''
            have bq0 := below_regrown wr dq osq
            generalize grow (redrawn wr dq) osq = wq at bq0 ⊢
            have hb2 := hbr.trans (bq0.mono hbr.size)
            clear ka km r2 hkp
            go_wp2
            go_roundw
            case rel => exact ⟨k + 1, by omega, by go_num, by unfold Hid riseN; rw [hc.out, HGD.out, HQ.out, HGM.out]; simp [hxy], hb2⟩
            case measure => simp [intOf]; omega
          · have hxy2 : x ≤ y := by omega
            go_wp2_with fail
            refine wp_region_quiet_below (by kernel_rfl) (by kernel_rfl) ?_
            repeat (first | go_big_quiet_skip | quiet_step (first | (with_reducible exact Calls.regrown_of (l00In_q HQ.out _))))
            refine wpQuiet_nil ?_
            intro _ hw'
            obtain ⟨⟨dq, osq⟩, hw''⟩ := hw'
            subst hw''
            have bq0 := below_regrown wr dq osq
            generalize grow (redrawn wr dq) osq = wq at bq0 ⊢
            clear ka km r2 hkp
            go_wp2
            go_ret
            exact ⟨rb (HNO.out (by rw [HGD.out, HQ.out, HGM.out]; simp; omega)).symm, hbr.trans (bq0.mono hbr.size)⟩
    · obtain rfl : k = e.length := by omega
      go_wp2
      go_ret
      exact ⟨rb hc.out.symm, hbr⟩
end Go.Proofs.Ytenemohjmemoiaa
namespace Go.Proofs.Ytenemohjmemoiaa
open Go.RowKit Go.Sort
def ixP (p : Int → Bool) : List Int → Nat → Int
  | [], _ => -1
  | x :: r, k => if p x = true then (k : Int) else ixP p r (k + 1)
theorem ixP_any (p : Int → Bool) : ∀ (l : List Int) (k : Nat), decide (0 ≤ ixP p l k) = l.any p
  | [], k => by simp [ixP]
  | x :: r, k => by
    unfold ixP
    by_cases h : p x = true
    · rw [if_pos h]; simp [h]
    · rw [if_neg h, ixP_any p r (k + 1)]; simp [h]
theorem ixP_step {p : Int → Bool} {l : List Int} {k : Nat} (h : k < l.length) : ixP p (l.drop k) k = if p l[k] = true then (k : Int) else ixP p (l.drop (k + 1)) (k + 1) := by
  rw [List.drop_eq_getElem_cons h]; rfl
theorem ixP_bd (p : Int → Bool) : ∀ (l : List Int) (k : Nat), -1 ≤ ixP p l k ∧ ixP p l k < k + l.length
  | [], k => by simp [ixP]; omega
  | x :: r, k => by
    unfold ixP
    have := ixP_bd p r (k + 1)
    split
    · simp; omega
    · simp at this ⊢; omega

def ixRow (p : List Int → Bool) : List (List Int) → Nat → Int
  | [], _ => -1
  | x :: r, k => if p x = true then (k : Int) else ixRow p r (k + 1)
theorem ixRow_any (p : List Int → Bool) : ∀ (l : List (List Int)) (k : Nat), decide (0 ≤ ixRow p l k) = l.any p
  | [], k => by simp [ixRow]
  | x :: r, k => by
    unfold ixRow
    by_cases h : p x = true
    · rw [if_pos h]; simp [h]
    · rw [if_neg h, ixRow_any p r (k + 1)]; simp [h]
theorem ixRow_step {p : List Int → Bool} {l : List (List Int)} {k : Nat} (h : k < l.length) : ixRow p (l.drop k) k = if p l[k] = true then (k : Int) else ixRow p (l.drop (k + 1)) (k + 1) := by
  rw [List.drop_eq_getElem_cons h]; rfl
theorem ixRow_bd (p : List Int → Bool) : ∀ (l : List (List Int)) (k : Nat), -1 ≤ ixRow p l k ∧ ixRow p l k < k + l.length
  | [], k => by simp [ixRow]; omega
  | x :: r, k => by
    unfold ixRow
    have := ixRow_bd p r (k + 1)
    split
    · simp; omega
    · simp at this ⊢; omega
end Go.Proofs.Ytenemohjmemoiaa
namespace Go.Proofs.Ytenemohjmemoiaa
open Go.RowKit Go.Sort
end Go.Proofs.Ytenemohjmemoiaa
namespace Go.Proofs.Ytenemohjmemoiaa
open Go.RowKit Go.Sort
end Go.Proofs.Ytenemohjmemoiaa
namespace Go.Proofs.Ytenemohjmemoiaa
open Go.RowKit Go.Sort
/-- edges of a valid graph with m nodes -/
def EdgesB (m : Nat) (es : List (List Int)) : Prop := ∀ e ∈ es, ∃ a b : Nat, e = [(a : Int), (b : Int)] ∧ a < b ∧ b < m
def rankE (e : List Int) : Nat := (e.getD 0 0).toNat * 5 + (e.getD 1 0).toNat
theorem okN_true {hi : Int} {es : List (List Int)} : ∀ {m k : Nat}, okN hi es m = true → k < m → stepW hi es k = true
  | 0, k, _, h => by omega
  | m + 1, k, h, hk => by
    unfold okN at h
    rw [Bool.and_eq_true] at h
    by_cases e : k = m
    · subst e; exact h.2
    · exact okN_true h.1 (by omega)
theorem stepW_edge {hi : Int} {es : List (List Int)} {k : Nat} (h0 : 0 ≤ hi) (h4 : hi ≤ 4) (h : stepW hi es k = true) : ∃ a b : Nat, es.getD k [] = [(a : Int), (b : Int)] ∧ a < b ∧ (b : Int) ≤ hi := by
  unfold stepW at h
  rw [Bool.and_eq_true] at h
  have h1 := h.1
  unfold edgeW at h1
  rw [Bool.and_eq_true, Bool.and_eq_true] at h1
  obtain ⟨x, y, he⟩ := len2 (of_decide_eq_true h1.1)
  rw [he] at h1
  simp only [List.getD_cons_zero, List.getD_cons_succ] at h1
  have hx := inR_iff.1 h1.2.1
  have hy := inR_iff.1 h1.2.2
  rw [IntWalk.i64_in _ (by omega)] at hy
  obtain ⟨a, rfl⟩ := Int.eq_ofNat_of_zero_le hx.1
  obtain ⟨b, rfl⟩ := Int.eq_ofNat_of_zero_le (show 0 ≤ y by omega)
  exact ⟨a, b, he, by omega, by omega⟩
theorem graphOk_n {n : Int} {es : List (List Int)} (h : graphOk n es = true) : ∃ m : Nat, n = (m : Int) ∧ 1 ≤ m ∧ m ≤ 5 ∧ IntKind.i64.wrap (n - 1) = (m : Int) - 1 ∧ okN ((m : Int) - 1) es es.length = true := by
  unfold graphOk at h
  rw [Bool.and_eq_true] at h
  have hn := inR_iff.1 h.1
  obtain ⟨m, rfl⟩ := Int.eq_ofNat_of_zero_le (show 0 ≤ n by omega)
  have hw : IntKind.i64.wrap ((m : Int) - 1) = (m : Int) - 1 := IntWalk.i64_in _ (by omega)
  exact ⟨m, rfl, by omega, by omega, hw, by rw [← hw]; exact h.2⟩
theorem graphOk_edges {m : Nat} {es : List (List Int)} (h1 : 1 ≤ m) (h5 : m ≤ 5) (h : okN ((m : Int) - 1) es es.length = true) : EdgesB m es := by
  intro e he
  obtain ⟨k, hk, rfl⟩ := List.getElem_of_mem he
  obtain ⟨a, b, h2, h3, h4⟩ := stepW_edge (by omega) (by omega) (okN_true h hk)
  rw [getD_at hk] at h2
  exact ⟨a, b, h2, h3, by omega⟩
theorem graphOk_rank {m : Nat} {es : List (List Int)} (h1 : 1 ≤ m) (h5 : m ≤ 5) (h : okN ((m : Int) - 1) es es.length = true) : ∀ k, k < es.length → k ≤ rankE (es.getD k []) := by
  intro k
  induction k with
  | zero => intro _; omega
  | succ k ih =>
    intro hk
    have hi := ih (by omega)
    obtain ⟨a, b, e1, _, _⟩ := stepW_edge (by omega) (by omega) (okN_true h (show k < es.length by omega))
    obtain ⟨c, d, e2, _, _⟩ := stepW_edge (by omega) (by omega) (okN_true h hk)
    have hs := okN_true h hk
    unfold stepW at hs
    rw [Bool.and_eq_true] at hs
    have hl := hs.2
    rw [Nat.add_sub_cancel, e1, e2] at hl
    rw [e1] at hi
    rw [e2]
    have hlt : a < c ∨ (a = c ∧ b < d) := by
      simp [lessL] at hl
      split at hl <;> omega
    simp [rankE] at hi ⊢
    omega
theorem graphOk_len {m : Nat} {es : List (List Int)} (h1 : 1 ≤ m) (h5 : m ≤ 5) (h : okN ((m : Int) - 1) es es.length = true) : es.length ≤ 25 := by
  by_cases h0 : es.length = 0
  · omega
  · have hr := graphOk_rank h1 h5 h (es.length - 1) (by omega)
    obtain ⟨a, b, e1, h3, h4⟩ := stepW_edge (by omega) (by omega) (okN_true h (show es.length - 1 < es.length by omega))
    rw [e1] at hr
    simp [rankE] at hr
    omega
/-- all a graph that is valid is -/
theorem graphOk_all {n : Int} {es : List (List Int)} (h : graphOk n es = true) : ∃ m : Nat, n = (m : Int) ∧ 1 ≤ m ∧ m ≤ 5 ∧ EdgesB m es ∧ es.length ≤ 25 := by
  obtain ⟨m, h1, h2, h3, _, h5⟩ := graphOk_n h
  exact ⟨m, h1, h2, h3, graphOk_edges h2 h3 h5, graphOk_len h2 h3 h5⟩
theorem riseN_two {hi : Int} {e : List Int} (h0 : 0 ≤ hi) (h4 : hi ≤ 4) : (decide (e.length = 2) && riseN 0 hi e e.length) = edgeW hi e := by
  unfold edgeW
  by_cases h : e.length = 2
  · obtain ⟨a, b, rfl⟩ := len2 h
    simp [riseN, inR]
    by_cases h1 : 0 ≤ a ∧ a ≤ hi
    · rw [IntWalk.i64_in _ (by omega)]
      simp [h1]
      rw [Bool.eq_iff_iff]
      simp
      omega
    · rcases Classical.not_and_iff_not_or_not.1 h1 with h2 | h2 <;> simp [h2]
  · simp [h]
def colsOk (n lo hi : Int) (l : List Int) : Bool := l.all (fun c => inR c lo hi) && decide ((l.length : Int) = n)
def properB (es : List (List Int)) (cs : List Int) : Bool := !(es.any fun e => decide (cs.getD (e.getD 0 0).toNat 0 = cs.getD (e.getD 1 0).toNat 0))
/-- a graph at an address -/
def GraphAt (w : World) (b o : Nat) (n : Int) (v : Value) : Prop := b < w.heap.size ∧ w.cell? ⟨b, o, none⟩ = some (.int .i64 n) ∧ w.cell? ⟨b, o + 1, none⟩ = some v
theorem GraphAt.below {w w' : World} {b o : Nat} {n : Int} {v : Value} (h : GraphAt w b o n v) (hb : Below w.heap.size w w') : GraphAt w' b o n v :=
  ⟨Nat.lt_of_lt_of_le h.1 hb.size, by rw [hb.cell (p := ⟨b, o, none⟩) h.1]; exact h.2.1, by rw [hb.cell (p := ⟨b, o + 1, none⟩) h.1]; exact h.2.2⟩
theorem graphAt_new (w : World) (n : Int) (v : Value) : GraphAt (w.alloc (.cells #[.int .i64 n, v] 24)) w.heap.size 0 n v := by
  refine ⟨by simp, ?_, ?_⟩ <;> simp [go_sem]
end Go.Proofs.Ytenemohjmemoiaa
namespace Go.Proofs.Ytenemohjmemoiaa
open Go.RowKit Go.Sort
set_option maxRecDepth 100000 in
set_option maxHeartbeats 4000000 in
theorem l08Ok_any {v : Value} {es : List (List Int)} (b o : Nat) (n : Int) (w : World) (hc : GraphAt w b o n v) (ha : SlII w v es) :
    Calls Try.prog 51 #[.pointer (some ⟨b, o, none⟩)] w fun e w' => e = .returned (.bool (graphOk n es)) ∧ Below w.heap.size w w' := by
  obtain ⟨a, ca, us, rfl, hca, hca', hul, hrd, hrow⟩ := ha
  have HG := Lib.hid (fun W (h : Below w.heap.size w W) => And.intro (hrd.below h) (fun i hi u hu => (hrow i hi u hu).below h))
  have HC := Lib.hid (fun W (h : Below w.heap.size w W) => hc.below h)
  have HU := Lib.hid hul
  unfold maxLen at hca'
  obtain ⟨zb, c0, c1⟩ := hc
  clear hul hrd hrow
  generalize hq : inR n 1 5 = q
  have HQ := Lib.hid hq
  cases q
  · clear hq
    go_enter Try.func51, Try.ntmps51
    go_wp2_with (go_at_call 63; refine (l00In_any _ _ _ _).mono ?_; rintro e w' ⟨rfl, rfl⟩; rw [HQ.out])
    go_ret
    exact ⟨rb (by unfold graphOk; rw [HQ.out]; rfl), Below.refl _ _⟩
  · have hn := inR_iff.1 hq
    have hw : IntKind.i64.wrap (n - 1) = n - 1 := IntWalk.i64_in _ (by omega)
    have HGO : Hid (graphOk n es = okN (n - 1) es es.length) := by unfold Hid graphOk; rw [hq, hw]; rfl
    obtain ⟨hn1, hn2⟩ := hn
    clear hq hw
    go_enter Try.func51, Try.ntmps51
    go_wp2_with (go_at_call 63; refine (l00In_any _ _ _ _).mono ?_; rintro e w' ⟨rfl, rfl⟩; rw [HQ.out])
    go_loopw [3, 4] (fun i _ wr => ∃ k : Nat, k ≤ es.length ∧ i = .int .i64 k ∧ Hid (okN (n - 1) es k = true) ∧ Below w.heap.size w wr) (fun i _ _ => es.length - (intOf i).toNat)
    case atStart => exact ⟨0, Nat.zero_le _, rfl, rfl, Below.refl _ _⟩
    case round =>
      clear c0 c1 zb
      obtain ⟨k, hk, rfl, hok, hbr⟩ := hrel
      obtain ⟨zb, c0, c1⟩ := HC.out _ hbr
      by_cases hlt : k < es.length
      · obtain ⟨x, bb, off, rfl, gc, sx⟩ := SlII.row HU.out (HG.out _ hbr).1 (HG.out _ hbr).2 hlt
        have i1 : (k : Int) < (es.length : Int) := by omega
        have NO : stepW (n - 1) es k = false → graphOk n es = false := fun h => by rw [HGO.out, okN_false h hlt]
        have HNO := Lib.hid NO
        have hes : stepW (n - 1) es k = (edgeW (n - 1) es[k] && (decide (k = 0) || lessL (es.getD (k - 1) []) es[k])) := by unfold stepW; rw [getD_at hlt]
        have HES := Lib.hid hes
        have SX := Lib.hid (fun W (h : Below wr.heap.size wr W) => sx.below h)
        obtain ⟨ea, ec, rfl, _, _, _⟩ := id sx
        have htwo := riseN_two (hi := n - 1) (e := es[k]) (by omega) (by omega)
        clear hes NO sx
        by_cases hl : es[k].length = 2
        · have ht : ((es[k].length : Int) != 2) = false := by rw [hl]; rfl
          rw [hl] at htwo
          generalize hr : riseN 0 (n - 1) es[k] 2 = r at htwo
          have HR : Hid (riseN 0 (n - 1) es[k] es[k].length = r) := by unfold Hid; rw [hl]; exact hr
          have HE : Hid (edgeW (n - 1) es[k] = r) := by unfold Hid; rw [← htwo]; simp
          clear hl hr htwo
          go_wp2_with fail
          refine (l00Rises_any 0 (n - 1) _ (SX.out _ (Below.refl _ _))).mono ?_
          rintro e w2 ⟨rfl, b2⟩
          rw [HR.out]
          have hb2 := hbr.trans (b2.mono hbr.size)
          cases r
          · go_wp2
            go_ret
            exact ⟨rb (HNO.out (by rw [HES.out, HE.out]; rfl)).symm, hb2⟩
          · obtain ⟨_, d0, d1⟩ := HC.out _ hb2
            by_cases hk0 : k = 0
            · have hk0' : decide (0 < k) = false := by simp; omega
              have HK0 := Lib.hid hk0
              clear hk0
              go_wp2
              go_roundw
              case rel => exact ⟨k + 1, by omega, by go_num, by unfold Hid okN; rw [hok.out, HES.out, HE.out]; simp [HK0.out], hb2⟩
              case measure => simp [intOf]; omega
            · obtain ⟨m, hm⟩ : ∃ m, k = m + 1 := ⟨k - 1, by omega⟩
              have hkp : (0 : Int) < (k : Int) := by omega
              have hml : m < es.length := by omega
              have i3 : (m : Int) = (k : Int) - 1 := by omega
              have hk1 : k - 1 = m := by omega
              obtain ⟨x', b', off', he', gc', sx'⟩ := SlII.row HU.out (HG.out _ hb2).1 (HG.out _ hb2).2 hml
              simp only [Option.some.injEq, Addr.mk.injEq] at he'
              obtain ⟨rfl, rfl, _⟩ := he'
              obtain ⟨pa, pc, rfl, _⟩ := id sx'
              have SP := Lib.hid sx'
              have hst : stepW (n - 1) es k = lessL es[m] es[k] := by
                rw [HES.out, HE.out, hk1, getD_at hml]
                simp [hk0]
              generalize hl3 : lessL es[m] es[k] = l3 at hst
              have HST := Lib.hid hst
              have HL3 := Lib.hid hl3
              have gc2 : w2.cell? ⟨bb, off + (k - 1), none⟩ = some (.slice pa es[m].length pc) := by rw [hk1]; exact gc'
              have HK0 := Lib.hid hk0
              have HM := Lib.hid hm
              clear hst hl3 sx' hk0 hm i3 hk1 gc'
              go_wp2_with fail
              refine (l08Less_any _ SP.out (SX.out _ b2)).mono ?_
              rintro e w3 ⟨rfl, b3⟩
              rw [HL3.out]
              have hb3 := hb2.trans (b3.mono hb2.size)
              cases l3
              · go_wp2
                go_ret
                exact ⟨rb (HNO.out HST.out).symm, hb3⟩
              · go_wp2
                go_roundw
                case rel => exact ⟨k + 1, by omega, by go_num, by unfold Hid okN; rw [hok.out, HST.out]; rfl, hb3⟩
                case measure => simp [intOf]; omega
        · have ht : ((es[k].length : Int) != 2) = true := by simp; omega
          have hno := edgeW_no (hi := n - 1) hl
          have HN2 := Lib.hid hno
          clear hno hl htwo
          go_wp2
          go_ret
          exact ⟨rb (HNO.out (by rw [HES.out, HN2.out]; rfl)).symm, hbr⟩
      · obtain rfl : k = es.length := by omega
        go_wp2
        go_ret
        exact ⟨rb (by rw [HGO.out, hok.out]), hbr⟩
end Go.Proofs.Ytenemohjmemoiaa
namespace Go.Proofs.Ytenemohjmemoiaa
open Go.RowKit Go.Sort
theorem all_false_at {p : Int → Bool} {l : List Int} {k : Nat} (h : k < l.length) (hp : p l[k] = false) : l.all p = false := by
  rw [List.all_eq_false]; exact ⟨l[k], List.getElem_mem h, by rw [hp]; simp⟩
theorem all_take_succ {p : Int → Bool} {l : List Int} {k : Nat} (h : (l.take k).all p = true) (hk : k < l.length) (hp : p l[k] = true) : (l.take (k + 1)).all p = true := by
  rw [List.take_succ_eq_append_getElem hk, List.all_append, h]; simp [hp]
def askedC (n : Int) (es : List (List Int)) (q : Int) (right : Bool) : Int := if graphOk n es = false then 1 else if inR q 1 4 = false then 2 else if right = false then 2 else 0
set_option maxHeartbeats 1000000 in
theorem l08Asked_any {v : Value} {es : List (List Int)} (b o : Nat) (n q : Int) (right : Bool) (w : World) (hc : GraphAt w b o n v) (ha : SlII w v es) :
    Calls Try.prog 117 #[.pointer (some ⟨b, o, none⟩), .int .i64 q, .bool right] w fun e w' => e = .returned (.int .i64 (askedC n es q right)) ∧ Below w.heap.size w w' := by
  generalize hg : graphOk n es = g
  generalize hq : inR q 1 4 = p
  have HG := Lib.hid hg
  have HQ := Lib.hid hq
  clear hg hq
  cases g
  · go_enter Try.func117, Try.ntmps117
    go_wp2_with (go_at_call 51; refine (l08Ok_any b o n _ hc ha).mono ?_; rintro e w1 ⟨rfl, b1⟩; rw [HG.out])
    go_ret
    exact ⟨ri (by unfold askedC; rw [HG.out]; rfl), b1⟩
  · cases p <;> cases right
    all_goals
      go_enter Try.func117, Try.ntmps117
      go_wp2_with (first
        | (go_at_call 51; refine (l08Ok_any b o n _ hc ha).mono ?_; rintro e w1 ⟨rfl, b1⟩; rw [HG.out])
        | (go_at_call 63; refine (l00In_any _ _ _ _).mono ?_; rintro e w' ⟨rfl, rfl⟩; rw [HQ.out]))
      go_ret
      exact ⟨ri (by unfold askedC; rw [HG.out, HQ.out]; rfl), b1⟩
theorem all_any_not {l : List Int} {lo hi : Int} : (!(l.any fun c => !inR c lo hi)) = l.all fun c => inR c lo hi := by
  rw [Bool.eq_iff_iff]; simp
def codeC (n : Int) (es : List (List Int)) (q : Int) (lists : List (List Int)) : Int := if graphOk n es = false then 1 else if inR q 1 4 = false then 2 else if lists.all (fun l => colsOk n 0 (q - 1) l) = false then 2 else 0
/-- a new array with one slice in it, as a slice of slices -/
theorem slii_one {w : World} {u : Value} {xs : List Int} (hu : SlI w u xs) : SlII (w.alloc (.cells #[u] 31)) (.slice (some ⟨w.heap.size, 0, none⟩) 1 1) [xs] := by
  refine ⟨_, 1, [u], rfl, by simp, by simp [maxLen], rfl, rd_new w #[u] _, fun i hi x hx => ?_⟩
  cases i with
  | zero => simp at hx; subst hx; exact hu.below ((Below.refl _ _).alloc (Nat.le_refl _) _)
  | succ i => simp at hi
end Go.Proofs.Ytenemohjmemoiaa
namespace Go.Proofs.Ytenemohjmemoiaa
open Go.RowKit Go.Sort
def sameE (cs : List Int) (e : List Int) : Bool := decide (cs.getD (e.getD 0 0).toNat 0 = cs.getD (e.getD 1 0).toNat 0)
theorem properB_eq (es : List (List Int)) (cs : List Int) : properB es cs = !(es.any (sameE cs)) := rfl
theorem sameE_two {cs : List Int} {a c : Nat} (h1 : a < cs.length) (h2 : c < cs.length) : sameE cs [(a : Int), (c : Int)] = decide (cs[a] = cs[c]) := by
  simp [sameE, List.getD_eq_getElem?_getD, List.getElem?_eq_getElem h1, List.getElem?_eq_getElem h2]
theorem any_take_succL {α : Type} {p : α → Bool} {l : List α} {k : Nat} (h : (l.take k).any p = false) (hk : k < l.length) (he : p l[k] = false) : (l.take (k + 1)).any p = false := by
  rw [List.take_succ_eq_append_getElem hk, List.any_append, h]; simp [he]
theorem any_atL {α : Type} {p : α → Bool} {l : List α} {k : Nat} (hk : k < l.length) (he : p l[k] = true) : l.any p = true := by
  rw [List.any_eq_true]; exact ⟨_, List.getElem_mem hk, he⟩
def tupBI (r : Bool × Int) : Value := .tuple #[.bool r.1, .int .i64 r.2]
def isColR (n : Int) (es : List (List Int)) (q : Int) (cs : List Int) : Bool × Int :=
  let code := askedC n es q (colsOk n 0 (IntKind.i64.wrap (q - 1)) cs)
  if code = 0 then (properB es cs, 0) else (false, code)
theorem askedC_ok {n q : Int} {es : List (List Int)} {r : Bool} (h : askedC n es q r = 0) : graphOk n es = true ∧ 1 ≤ q ∧ q ≤ 4 ∧ r = true := by
  unfold askedC at h
  split at h
  · simp at h
  · rename_i h1
    split at h
    · simp at h
    · rename_i h2
      split at h
      · simp at h
      · rename_i h3
        have h2' : inR q 1 4 = true := by simpa using h2
        have := inR_iff.1 h2'
        exact ⟨by simpa using h1, this.1, this.2, by simpa using h3⟩
theorem askedC_rng {n q : Int} {es : List (List Int)} {r : Bool} : askedC n es q r = 0 ∨ askedC n es q r = 1 ∨ askedC n es q r = 2 := by
  unfold askedC
  split
  · simp
  · split
    · simp
    · split <;> simp
theorem colsOk_len {n lo hi : Int} {cs : List Int} (h : colsOk n lo hi cs = true) : (cs.length : Int) = n ∧ ∀ c ∈ cs, lo ≤ c ∧ c ≤ hi := by
  unfold colsOk at h
  rw [Bool.and_eq_true, List.all_eq_true] at h
  exact ⟨of_decide_eq_true h.2, fun c hc => inR_iff.1 (h.1 c hc)⟩
theorem codeC_one {n q : Int} {es : List (List Int)} {cs : List Int} : codeC n es q [cs] = askedC n es q (colsOk n 0 (IntKind.i64.wrap (q - 1)) cs) := by
  unfold codeC askedC
  split
  · rfl
  · split
    · rfl
    · rename_i h
      have h2' : inR q 1 4 = true := by simpa using h
      have := inR_iff.1 h2'
      rw [IntWalk.i64_in _ (by omega)]
      simp
end Go.Proofs.Ytenemohjmemoiaa
namespace Go.Proofs.Ytenemohjmemoiaa
open Go.RowKit Go.Sort
set_option maxHeartbeats 1000000 in
theorem IndexFuncInd_any {u : Value} {xs : List (List Int)} (cap0 : Value) (p : List Int → Bool) (w : World) (ha : SlII w u xs)
    (hf : ∀ W x u, Below w.heap.size w W → x ∈ xs → SlI W u x → Calls Try.prog 123 #[u, cap0] W fun e w' => e = .returned (.bool (p x)) ∧ Below W.heap.size W w') :
    Calls Try.prog 149 #[u, .func (.func 123) #[] #[cap0]] w fun e w' => e = .returned (.int .i64 (ixRow p xs 0)) ∧ Below w.heap.size w w' := by
  obtain ⟨a, ca, us, rfl, hca, hca', hul, hrd, hrow⟩ := ha
  have HU := Lib.hid hul
  have HR := Lib.hid hrow
  clear hul hrow
  unfold maxLen at hca'
  have HF := Lib.hid hf
  clear hf
  go_enter Try.func149, Try.ntmps149
  go_wp2
  go_loopw [5, 8] (fun _ i wr => ∃ k : Nat, k ≤ xs.length ∧ i = .int .i64 k ∧ Hid (ixRow p xs 0 = ixRow p (xs.drop k) k) ∧ Below w.heap.size w wr) (fun _ i _ => xs.length - (intOf i).toNat)
  case atStart => exact ⟨0, Nat.zero_le _, rfl, rfl, Below.refl _ _⟩
  case round =>
    obtain ⟨k, hk, rfl, hno, hbw⟩ := hrel
    by_cases hlt : k < xs.length
    · obtain ⟨x, b, off, rfl, gc, sx⟩ := SlII.row HU.out (hrd.below hbw) (fun i hi u hu => (HR.out i hi u hu).below hbw) hlt
      obtain ⟨xa, xc, rfl, _⟩ := id sx
      have i1 : (k : Int) < (xs.length : Int) := by omega
      have hst := ixRow_step (p := p) hlt
      have HS := Lib.hid hst
      clear hst
      generalize hp : p xs[k] = P
      have HP := Lib.hid hp
      clear hp
      cases P
      · go_wp2_with fail
        refine (HF.out _ xs[k] _ hbw (List.getElem_mem hlt) sx).mono ?_
        rintro e w2 ⟨rfl, b2⟩
        rw [HP.out]
        have bq := hbw.trans (b2.mono hbw.size)
        go_wp2
        go_roundw
        case rel => exact ⟨k + 1, by omega, by go_num, by unfold Hid at *; rw [hno, HS, HP]; rfl, bq⟩
        case measure => simp [intOf]; omega
      · go_wp2_with fail
        refine (HF.out _ xs[k] _ hbw (List.getElem_mem hlt) sx).mono ?_
        rintro e w2 ⟨rfl, b2⟩
        rw [HP.out]
        have bq := hbw.trans (b2.mono hbw.size)
        go_wp2
        go_ret
        exact ⟨ri (by rw [hno.out, HS.out, HP.out]; rfl), bq⟩
    · obtain rfl : k = xs.length := by omega
      go_wp2
      go_ret
      exact ⟨ri (by rw [hno.out]; simp [ixRow]), hbw⟩
set_option maxHeartbeats 400000 in
theorem ContainsFuncInd_any {u : Value} {xs : List (List Int)} (cap0 : Value) (p : List Int → Bool) (w : World) (ha : SlII w u xs)
    (hf : ∀ W x u, Below w.heap.size w W → x ∈ xs → SlI W u x → Calls Try.prog 123 #[u, cap0] W fun e w' => e = .returned (.bool (p x)) ∧ Below W.heap.size W w') :
    Calls Try.prog 120 #[u, .func (.func 123) #[] #[cap0]] w fun e w' => e = .returned (.bool (xs.any p)) ∧ Below w.heap.size w w' := by
  have hx := ixRow_any p xs 0
  obtain ⟨hb0, hb1⟩ := ixRow_bd p xs 0
  obtain ⟨a, ca, us, rfl, hca, hca', _⟩ := id ha
  unfold maxLen at hca'
  have HF := Lib.hid hf
  have HX := Lib.hid hx
  clear hf hx
  go_enter Try.func120, Try.ntmps120
  go_wp2_with fail
  refine (IndexFuncInd_any cap0 p _ ha HF.out).mono ?_
  rintro e w2 ⟨rfl, b2⟩
  go_wp2
  go_ret
  exact ⟨rb HX.out, b2⟩
end Go.Proofs.Ytenemohjmemoiaa
namespace Go.Proofs.Ytenemohjmemoiaa
open Go.RowKit

/-- append(v, u) on owned rows, u a row that has been made since -/
theorem append_row {ops : Array Oper} {rest : List Oper} {o : Oper} {a : Act} {Q : Exit → Act → World → Prop} (w0 w : World) (s x : Operand) (hg : o.guard = none)
    (ho : o.op = .call { callee := .builtin .append, args := #[s, x], argTypes := #[22, 22] })
    {base : Nat} {v u : Value} {xss : List (List Int)} {xs : List Int} (hs : a.eval s = v) (hown : OwnII w0 base v xss) (hb : Below w0.heap.size w0 w) (hu : OwnI w w0.heap.size u xs) {t : Nat} (hx : a.eval x = .slice (some ⟨w.heap.size, 0, none⟩) 1 1)
    (hlen : xss.length < 16777216) (hbase : base ≤ w0.heap.size)
    (h : ∀ v' w', OwnII w' base v' (xss ++ [xs]) → Below base (w.alloc (.cells #[u] t)) w' → w.heap.size < w'.heap.size → wpList Try.prog ops Q rest (a.put o.dst v') w') : wpList Try.prog ops Q (o :: rest) a (w.alloc (.cells #[u] t)) := by
  obtain ⟨vs, h1, h2⟩ := hown
  have hlt := h2.lt
  have h1' := ownsRow_below h1 hb
  have h2' := h2.below hb
  have hu1 : u.oneCell' = true := by
    rcases hu.2 with ⟨rfl, _⟩ | ⟨g, c, cur, rfl, _⟩ <;> rfl
  refine append_one tI64S w u hu1 s x hg ho hs h1' hx hlen (Nat.le_trans hbase hb.size) (fun v' w' k1 k2 k3 k4 => ?_)
  refine h v' w' ⟨vs ++ [u], ?_, ?_⟩ k3 k4
  · rw [List.length_append]; exact k1
  · have hsn : Rows2 w base (vs ++ [u]) (xss ++ [xs]) := Rows2.snoc (B := w0.heap.size) h2' (hu.lower hbase) (fun i v g hv hg => (hlt i v g hv hg).2) (fun g hg => (hu.lt g hg).1)
    exact (hsn.below ((Below.refl _ _).alloc (Nat.le_refl _) _)).kept (h1'.alloc (.cells #[u] t)) k2

/-- the next longer decks of one -/
def extD (c : Nat) (d : List Int) : List (List Int) := ((upTo' c).filter (fun x => !decide (x ∈ d))).map (fun x => d ++ [x])
where upTo' (n : Nat) : List Int := (List.range n).map fun (i : Nat) => (i : Int)
def extN (c : Nat) (d : List Int) (x : Nat) : List (List Int) := ((extD.upTo' x).filter (fun x => !decide (x ∈ d))).map (fun x => d ++ [x])
def decksL (c : Nat) : Nat → List (List Int)
  | 0 => [[]]
  | k + 1 => (decksL c k).flatMap (extD c)
theorem extN_full (c : Nat) (d : List Int) : extN c d c = extD c d := rfl
theorem extN_zero (c : Nat) (d : List Int) : extN c d 0 = [] := rfl
theorem extN_no {c x : Nat} {d : List Int} (h : (x : Int) ∈ d) : extN c d (x + 1) = extN c d x := by
  simp [extN, extD.upTo', List.range_succ, List.filter_append, h]
theorem extN_yes {c x : Nat} {d : List Int} (h : ¬ (x : Int) ∈ d) : extN c d (x + 1) = extN c d x ++ [d ++ [(x : Int)]] := by
  simp [extN, extD.upTo', List.range_succ, List.filter_append, h]
theorem extN_length (c x : Nat) (d : List Int) : (extN c d x).length ≤ x := by
  unfold extN
  rw [List.length_map]
  refine Nat.le_trans (List.length_filter_le _ _) ?_
  simp [extD.upTo']
theorem decks_small {c k : Nat} (hc1 : 1 ≤ c) (hc : c ≤ 3) (hk : k ≤ c) : (decksL c k).length ≤ 6 ∧ ∀ d ∈ decksL c k, d.length = k := by
  have h : ∀ c, c ≤ 3 → ∀ k, k ≤ c → 1 ≤ c → ((decksL c k).length ≤ 6 ∧ ∀ d ∈ decksL c k, d.length = k) := by decide
  exact h c hc k hk hc1
theorem flat_take (l : List (List Int)) (f : List Int → List (List Int)) {i : Nat} (h : i < l.length) : (l.take (i + 1)).flatMap f = (l.take i).flatMap f ++ f l[i] := by
  rw [List.take_succ_eq_append_getElem h, List.flatMap_append]; simp
theorem flat_take_le (l : List (List Int)) (f : List Int → List (List Int)) (i : Nat) : ((l.take i).flatMap f).length ≤ (l.flatMap f).length := by
  conv => rhs; rw [← List.take_append_drop i l]
  rw [List.flatMap_append, List.length_append]; omega

set_option maxHeartbeats 400000 in
theorem l00Own_any {u : Value} {xs : List Int} (w : World) (ha : SlI w u xs) (hl : xs.length ≤ 1048576) :
    Calls Try.prog 145 #[u] w fun e w' => ∃ v, e = .returned v ∧ OwnI w' w.heap.size v xs ∧ Below w.heap.size w w' := by
  have bx : Below w.heap.size w (w.alloc (.cells #[] 2)) := (Below.refl _ _).alloc (Nat.le_refl _) _
  have hb := ha.below bx
  have hown := OwnI.empty w (base := w.heap.size) (Nat.le_refl _)
  obtain ⟨a, ca, rfl, _⟩ := id ha
  clear ha
  go_enter Try.func145, Try.ntmps145
  go_wp2_with (at_builtin; refine append_SlI _ _ _ rfl rfl rfl hown rfl hb (by simp; omega) (by simp) ?_)
  intro v' w1 hown1 hg1 hb1
  go_wp2
  go_ret
  exact ⟨_, rfl, hown1, bx.trans hb1⟩

theorem OwnII.one (w : World) {base : Nat} {u : Value} {xs : List Int} (hu : OwnI w base u xs) (hb : base ≤ w.heap.size) :
    OwnII (w.alloc (.cells #[u] 31)) base (.slice (some ⟨w.heap.size, 0, none⟩) 1 1) [xs] := by
  have hu1 : u.oneCell' = true := by rcases hu.2 with ⟨rfl, _⟩ | ⟨g, c, cur, rfl, _⟩ <;> rfl
  refine ⟨[u], World.ownsRow_lit (base := base) (e := 31) (size := 1) w #[u] 1 hb (by simp [maxLen]) (by simp), rfl, ?_, ?_⟩
  · intro i u' xs' h1 h2
    cases i with
    | zero => simp at h1 h2; subst h1 h2; exact hu.below ((Below.refl _ _).alloc (Nat.le_refl _) _)
    | succ i => simp at h1
  · intro i j u' v' g hij h1 h2
    cases i with
    | zero => cases j with
      | zero => exact absurd rfl hij
      | succ j => simp at h2
    | succ i => simp at h1

theorem OwnI.empty' (w : World) {base : Nat} (hb : base ≤ w.heap.size) : OwnI (w.alloc (.cells #[] 2)) base (.slice (some ⟨w.heap.size, 0, none⟩) 0 0) [] := OwnI.empty w hb

end Go.Proofs.Ytenemohjmemoiaa
namespace Go.Proofs.Ytenemohjmemoiaa
open Go.RowKit

def findFrom : List (List Int) → List Int → Nat → Int
  | [], _, _ => -1
  | d :: ds, x, k => if d = x then (k : Int) else findFrom ds x (k + 1)
def findD (x : List Int) : Int := if inR x.length 1 3 = true then findFrom (decksL x.length x.length) x 0 else -1
def lastIx (l : List Int) (x : Int) : Nat → Int
  | 0 => -1
  | i + 1 => if l.getD i 0 = x then (i : Int) else lastIx l x i
def runsN (l : List Int) : Nat → Int
  | 0 => 1
  | k + 1 => if lastIx l ((k : Int) + 1) l.length < lastIx l k l.length then runsN l k + 1 else runsN l k
def ixFrom : List Int → Int → Nat → Int
  | [], _, _ => -1
  | y :: r, x, k => if x = y then (k : Int) else ixFrom r x (k + 1)
def runsM (l : List Int) : Nat → Int
  | 0 => 1
  | k + 1 => if ixFrom l ((k : Int) + 1) 0 < ixFrom l k 0 then runsM l k + 1 else runsM l k
theorem findFrom_ge : ∀ (D : List (List Int)) (x : List Int) (k : Nat), 0 ≤ findFrom D x k ↔ x ∈ D
  | [], x, k => by simp [findFrom]
  | d :: ds, x, k => by
    unfold findFrom
    by_cases h : d = x
    · rw [if_pos h]; simp [h]
    · rw [if_neg h, findFrom_ge ds x (k + 1)]; simp [Ne.symm h]
theorem findFrom_step {D : List (List Int)} {x : List Int} {k : Nat} (h : k < D.length) : findFrom (D.drop k) x k = if D[k] = x then (k : Int) else findFrom (D.drop (k + 1)) x (k + 1) := by
  rw [List.drop_eq_getElem_cons h]; rfl
theorem ixFrom_step {l : List Int} {x : Int} {k : Nat} (h : k < l.length) : ixFrom (l.drop k) x k = if x = l[k] then (k : Int) else ixFrom (l.drop (k + 1)) x (k + 1) := by
  rw [List.drop_eq_getElem_cons h]; rfl
theorem lastIx_bd (l : List Int) (x : Int) : ∀ i, -1 ≤ lastIx l x i ∧ lastIx l x i < i
  | 0 => by simp [lastIx]
  | i + 1 => by
    unfold lastIx
    have := lastIx_bd l x i
    split <;> omega
theorem ixFrom_bd : ∀ (l : List Int) (x : Int) (k : Nat), -1 ≤ ixFrom l x k ∧ ixFrom l x k < k + l.length
  | [], x, k => by simp [ixFrom] <;> omega
  | y :: r, x, k => by
    unfold ixFrom
    have := ixFrom_bd r x (k + 1)
    split
    · simp; omega
    · simp at this ⊢; omega
theorem runsN_bd (l : List Int) : ∀ k, 1 ≤ runsN l k ∧ runsN l k ≤ 1 + k
  | 0 => by simp [runsN]
  | k + 1 => by have := runsN_bd l k; unfold runsN; split <;> omega
theorem runsM_bd (l : List Int) : ∀ k, 1 ≤ runsM l k ∧ runsM l k ≤ 1 + k
  | 0 => by simp [runsM]
  | k + 1 => by have := runsM_bd l k; unfold runsM; split <;> omega
def ordTail (n : Int) : List Int → List Int → Bool
  | _, [] => true
  | s, x :: r => inR x 0 (n - 1) && (!decide (x ∈ s) && ordTail n (s ++ [x]) r)
def ordOk (n : Nat) (l : List Int) : Bool := ordTail n [] l && decide (l.length = n)
def seenL (s : List Int) (n : Nat) : List Bool := (List.range n).map fun (j : Nat) => decide ((j : Int) ∈ s)
theorem seenL_length (s : List Int) (n : Nat) : (seenL s n).length = n := by simp [seenL]
theorem seenL_get {s : List Int} {n j : Nat} (h : j < n) : (seenL s n)[j]'(by simp [seenL]; exact h) = decide ((j : Int) ∈ s) := by simp [seenL]
theorem seenL_nil (n : Nat) : seenL [] n = List.replicate n false := by
  apply List.ext_getElem <;> simp [seenL]
theorem seenL_set {s : List Int} {n j : Nat} : (seenL s n).set j true = seenL (s ++ [(j : Int)]) n := by
  apply List.ext_getElem
  · simp [seenL]
  · intro i h1 h2
    simp [seenL] at h1
    rw [List.getElem_set]
    simp [seenL]
    by_cases h : j = i
    · simp [h]
    · simp [h]; omega
theorem ordTail_step {n : Int} {l : List Int} {k : Nat} (h : k < l.length) : ordTail n (l.take k) (l.drop k) = (inR l[k] 0 (n - 1) && (!decide (l[k] ∈ l.take k) && ordTail n (l.take (k + 1)) (l.drop (k + 1)))) := by
  rw [List.drop_eq_getElem_cons h, List.take_succ_eq_append_getElem h]; rfl

def runsR (x : List Int) : Int × Int := if 0 ≤ findD x then (runsN x (x.length - 1), 0) else (0, 2)
def tupII (r : Int × Int) : Value := .tuple #[.int .i64 r.1, .int .i64 r.2]
theorem findD_len {x : List Int} (h : 0 ≤ findD x) : 1 ≤ x.length ∧ x.length ≤ 3 := by
  unfold findD at h
  split at h
  · rename_i hi; have := inR_iff.1 hi; omega
  · omega
set_option maxHeartbeats 400000 in
theorem Index_any {u : Value} {xs : List Int} (x : Int) (w : World) (ha : SlI w u xs) :
    Calls Try.prog 150 #[u, .int .i64 x] w fun e w' => e = .returned (.int .i64 (ixFrom xs x 0)) ∧ w = w' := by
  obtain ⟨a, ca, rfl, hca, hca', ha⟩ := ha
  unfold maxLen at hca'
  go_enter Try.func150, Try.ntmps150
  go_wp2
  go_loopw [5, 8] (fun _ i wr => ∃ k : Nat, k ≤ xs.length ∧ i = .int .i64 k ∧ Hid (ixFrom xs x 0 = ixFrom (xs.drop k) x k) ∧ wr = w) (fun _ i _ => xs.length - (intOf i).toNat)
  case atStart => exact ⟨0, Nat.zero_le _, rfl, rfl, rfl⟩
  case round =>
    obtain ⟨k, hk, rfl, hno, rfl⟩ := hrel
    by_cases hlt : k < xs.length
    · obtain ⟨b, off, rfl, gc⟩ := ha.one (i64s_get hlt)
      have i1 : (k : Int) < (xs.length : Int) := by omega
      have hst := ixFrom_step (x := x) hlt
      have HS := Lib.hid hst
      clear hst
      by_cases he : x = xs[k]
      · have HE := Lib.hid he
        have ht : (x == xs[k]) = true := by simpa using he
        clear he
        go_wp2
        go_ret
        exact ⟨ri (by rw [hno.out, HS.out, if_pos HE.out]), rfl⟩
      · have HE := Lib.hid he
        have ht : (x == xs[k]) = false := by simpa using he
        clear he
        go_wp2
        go_roundw
        case rel => exact ⟨k + 1, by omega, by go_num, by unfold Hid at *; rw [hno, HS, if_neg HE], trivial⟩
        case measure => simp [intOf]; omega
    · obtain rfl : k = xs.length := by omega
      go_wp2
      go_ret
      exact ⟨ri (by rw [hno.out]; simp [ixFrom]), rfl⟩

theorem FB_own_set {w : World} {base g n c : Nat} {xs : List Bool} (h : FB.Own w base (.slice (some ⟨g, 0, none⟩) n c) xs) (i : Nat) (x : Bool) :
    FB.Own (w.setCell ⟨g, i, none⟩ (.bool x)) base (.slice (some ⟨g, 0, none⟩) n c) (xs.set i x) := by
  obtain rfl := h.len_of
  have := (World.ownsRow.stored (base := base) h i (.bool x)).1
  unfold Flat.Own
  rw [List.length_set, FB_encs]
  rw [FB_encs] at this
  simpa [List.map_set] using this
theorem FB_own_cell {w : World} {base g n c : Nat} {xs : List Bool} (h : FB.Own w base (.slice (some ⟨g, 0, none⟩) n c) xs) {i : Nat} (hi : i < xs.length) : w.cell? ⟨g, i, none⟩ = some (.bool xs[i]) := by
  have := h.cell (i := i) (j := 0) hi (by decide)
  have e : i * FB.size + 0 = i := by show i * 1 + 0 = i; omega
  rw [e] at this
  exact this
def isDeckB (x : List Int) : Bool := inR x.length 1 3 && ordOk x.length x
/-- the same decks are right on both sides, and have the same runs -/
theorem deck_law : ∀ x : List Int, (0 ≤ findD x ↔ isDeckB x = true) ∧ (0 ≤ findD x → runsN x (x.length - 1) = runsM x (x.length - 1)) := by
  have all : ∀ n, n ≤ 3 → ∀ d ∈ decksL n n, runsN d (d.length - 1) = runsM d (d.length - 1) ∧ isDeckB d = decide (1 ≤ n) := by decide
  have key : ∀ x : List Int, isDeckB x = true → x ∈ decksL x.length x.length := by
    intro x hx
    unfold isDeckB at hx
    rw [Bool.and_eq_true] at hx
    have hl := inR_iff.1 hx.1
    have ho := hx.2
    unfold ordOk at ho
    rw [Bool.and_eq_true] at ho
    have ho := ho.1
    have c1 : ∀ y : Int, inR y 0 0 = true → y = 0 := by intro y h; have := inR_iff.1 h; omega
    have c2 : ∀ y : Int, inR y 0 1 = true → y = 0 ∨ y = 1 := by intro y h; have := inR_iff.1 h; omega
    have c3 : ∀ y : Int, inR y 0 2 = true → y = 0 ∨ y = 1 ∨ y = 2 := by intro y h; have := inR_iff.1 h; omega
    match x, hl, ho with
    | [a], _, ho =>
      simp [ordTail] at ho
      obtain rfl := c1 a ho
      decide
    | [a, b], _, ho =>
      simp [ordTail] at ho
      obtain ⟨h1, h2, h3⟩ := ho
      rcases c2 a h1 with rfl | rfl <;> rcases c2 b h2 with rfl | rfl <;> first | decide | (exact absurd rfl h3)
    | [a, b, c], _, ho =>
      simp [ordTail] at ho
      obtain ⟨h1, h2, h3, h4, h5, h6⟩ := ho
      rcases c3 a h1 with rfl | rfl | rfl <;> rcases c3 b h2 with rfl | rfl | rfl <;> rcases c3 c h4 with rfl | rfl | rfl <;> first | decide | (exact absurd rfl h3) | (exact absurd rfl h5) | (exact absurd rfl h6)
    | [], hl, _ => simp at hl
    | a :: b :: c :: d :: r, hl, _ => simp at hl; omega
  intro x
  have hf : 0 ≤ findD x ↔ (1 ≤ x.length ∧ x.length ≤ 3) ∧ x ∈ decksL x.length x.length := by
    unfold findD
    by_cases h : inR x.length 1 3 = true
    · rw [if_pos h, findFrom_ge]
      have := inR_iff.1 h
      constructor
      · intro h; exact ⟨by omega, h⟩
      · intro h; exact h.2
    · rw [if_neg h]
      constructor
      · intro h; omega
      · intro h2; exact absurd (inR_iff.2 (by omega)) h
  refine ⟨⟨fun h => ?_, fun h => ?_⟩, fun h => ?_⟩
  · have h2 := hf.1 h
    have := (all _ h2.1.2 _ h2.2).2
    rw [this]; simp; omega
  · have h2 := h
    unfold isDeckB at h2
    rw [Bool.and_eq_true] at h2
    have := inR_iff.1 h2.1
    exact hf.2 ⟨by omega, key x h⟩
  · have h2 := hf.1 h
    exact (all _ h2.1.2 _ h2.2).1
end Go.Proofs.Ytenemohjmemoiaa
