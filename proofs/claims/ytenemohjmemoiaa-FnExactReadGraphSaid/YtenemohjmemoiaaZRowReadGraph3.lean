/-
  Texts of deeds. With it: Laws at one operation, in a list of operations and in a region that draws its order: a call by its contract, append on owned slices and rows. Graphs: valid or not, the reference's. Searches: plain laws. A search by (impl.Graph).isColouring$1. A search by (impl.Graph).areColours$1. Colourings: what a graph that is valid is; lists of colours; proper colourings, both sides. The reference's l08Ok, l08List, l08Asked, l08Proper. Numbers in decimal. The program's own decimal: for every int64 its digits, with a sign ahead if it is below 0. Words of deeds, and which deeds are valid.
-/
import Derived.Test.YtenemohjmemoiaaZRowReadGraph2
import Derived.Deep.RegionLaw
import Derived.Test.YtenemohjmemoiaaZRowReadGraph1
import Derived.Deep.RegionWith
import Derived.Deep.DeepCutAuto
import Derived.Laws.CopyOwn
import Derived.Lib.QuietBelow
set_option linter.unusedVariables false
set_option linter.unusedSimpArgs false
namespace Go.Proofs.Ytenemohjmemoiaa
open Go.RowKit Go.Sort
theorem step_of_wp {P : Program} {ops : Array Oper} {o : Oper} {a : Act} {w : World} {K : Act → World → Prop} {Q : Exit → Act → World → Prop} {E : Prop} (hg : o.guard = none) (h : Oper.wp P o a w K Q) : if Region.wanted o (yielded ops a.tmps) = true then Oper.wp P o a w K Q else E := by
  rw [if_pos (by simp [Region.wanted, hg])]; exact h
theorem wp_calls {P : Program} {o : Oper} {a : Act} {w : World} {K : Act → World → Prop} {Q : Exit → Act → World → Prop} {f : FuncId} {args : Array Value} {R : Ending → World → Prop}
    (hrun : (execOp a.eval o).run P w = .ok (.enter f args) w) (hc : Calls P f args w R) (hK : ∀ e w', R e w' → ∃ v, e = .returned v ∧ K (a.put o.dst v) w') : Oper.wp P o a w K Q := by
  unfold Oper.wp
  rw [hrun, Oper.upon_enter]
  exact hc.mono (fun e w' h => by obtain ⟨v, rfl, hk⟩ := hK e w' h; exact hk)
theorem step_calls {P : Program} {ops : Array Oper} {o : Oper} {a : Act} {w : World} {K : Act → World → Prop} {Q : Exit → Act → World → Prop} {E : Prop} {f : FuncId} {args : Array Value} {R : Ending → World → Prop} (hg : o.guard = none)
    (hrun : (execOp a.eval o).run P w = .ok (.enter f args) w) (hc : Calls P f args w R) (hK : ∀ e w', R e w' → ∃ v, e = .returned v ∧ K (a.put o.dst v) w') : if Region.wanted o (yielded ops a.tmps) = true then Oper.wp P o a w K Q else E :=
  step_of_wp hg (wp_calls hrun hc hK)
theorem list_of_wp {P : Program} {ops : Array Oper} {rest : List Oper} {o : Oper} {a : Act} {w : World} {Q : Exit → Act → World → Prop} (hg : o.guard = none) (h : ∀ K : Act → World → Prop, (∀ a' w', wpList P ops Q rest a' w' → K a' w') → Oper.wp P o a w K Q) : wpList P ops Q (o :: rest) a w :=
  wpList_plain hg h
namespace Flat
variable {α : Type}
/-- append of any slice on an owned one, at the operation -/
theorem wpApp {o : Oper} {a : Act} {K : Act → World → Prop} {Q : Exit → Act → World → Prop} (F : Flat α) (w : World) (s x : Operand)
    (ho : o.op = .call { callee := .builtin .append, args := #[s, x], argTypes := #[F.T, F.T] })
    {base : Nat} {v : Value} {xs ys : List α} (hs : a.eval s = v) (hown : F.Own w base v xs) {ad : Option Addr} {c : Nat} (hx : a.eval x = .slice ad ys.length c) (hr : Rd w ad (F.encs ys))
    (hlen : xs.length + ys.length ≤ 16777216) (hbase : base ≤ w.heap.size)
    (h : ∀ v' w', F.Own w' base v' (xs ++ ys) → w.grownBy w' v.ownBlock → K (a.put o.dst v') w') : Oper.wp Try.prog o a w K Q := by
  obtain ⟨i0, hi, hz0, hz1, hz2⟩ := info_parts F.inf
  cases ad with
  | none =>
    have h0 : ys = [] := by
      cases ys with
      | nil => rfl
      | cons y ys =>
        have hl : 0 < (F.encs (y :: ys)).length := by rw [F.encs_length]; exact Nat.mul_pos (by simp) F.pos
        obtain ⟨b, off, h1, _⟩ := hr.all hl
        simp at h1
    subst h0
    have hrun := run_append_of_nil (P := Try.prog) w base F.T o.type F.E i0 F.size F.und hi v xs.length (F.encs xs) hown c
    unfold Oper.wp execOp
    simp only [List.length_nil] at hx
    simp only [ho, resolve, invoke, builtin, Sem.run_bind, Sem.run_pure, Result.andThen_ok, List.map_toArray, List.map_cons, List.map_nil, hs, hx, hrun]
    exact h v w (by simpa using hown) (World.grownBy.refl w _)
  | some ad =>
    refine wp_append_own w s x _ ho base F.E i0 F.z F.size F.bytes F.und hi hz0 hz1 hz2 F.zsz F.pos v xs.length (F.encs xs) hs hown ad ys.length c (F.encs ys) hx (F.encs_length ys) ?_ (fun u hu => F.encs_one hu) (by simp [maxLen]; omega) ?_ hbase (fun v' w' h1 h2 _ => ?_)
    · intro j u hu
      obtain ⟨b, off, he, _, hc⟩ := hr j u hu
      simp at he
      subst he
      unfold Addr.add
      by_cases hj : j = 0
      · subst hj; simpa using hc
      · simpa [hj] using hc
    · have := F.few
      calc (xs.length + ys.length) * F.bytes ≤ 16777216 * 4096 := Nat.mul_le_mul hlen this
        _ ≤ 140737488355328 := by decide
    · refine h v' w' ?_ h2
      unfold Own
      rw [encs_append, List.length_append]
      exact h1
end Flat
theorem rd_one {w : World} {g : Nat} {u : Value} (h : w.cell? ⟨g, 0, none⟩ = some u) (hg : g < w.heap.size) : Rd w (some ⟨g, 0, none⟩) [u] := by
  intro j x hx
  cases j with
  | zero => simp at hx; subst hx; exact ⟨g, 0, rfl, hg, h⟩
  | succ j => simp at hx
theorem cell_lt {w : World} {g i : Nat} {u : Value} (h : w.cell? ⟨g, i, none⟩ = some u) : g < w.heap.size := by
  unfold World.cell? at h
  cases hh : w.heap[g]? with
  | none => rw [hh] at h; simp at h
  | some o => exact (Array.getElem?_eq_some_iff.1 hh).1
/-- append(v, y) on an owned []int64; y lies in a block of its own -/
theorem wpAppI {o : Oper} {a : Act} {K : Act → World → Prop} {Q : Exit → Act → World → Prop} (w : World) (s x : Operand)
    (ho : o.op = .call { callee := .builtin .append, args := #[s, x], argTypes := #[31, 31] })
    {base g : Nat} {v : Value} {xs : List Int} {y : Int} (hs : a.eval s = v) (hown : OwnI w base v xs) (hx : a.eval x = .slice (some ⟨g, 0, none⟩) 1 1) (hc : w.cell? ⟨g, 0, none⟩ = some (.int .i64 y))
    (hlen : xs.length < 16777216) (hbase : base ≤ w.heap.size)
    (h : ∀ v' w', OwnI w' base v' (xs ++ [y]) → w.grownBy w' v.ownBlock → K (a.put o.dst v') w') : Oper.wp Try.prog o a w K Q := by
  refine Flat.wpApp FI w s x ho hs (by rw [FI_own]; exact hown) (ys := [y]) hx (by rw [FI_encs]; exact rd_one hc (cell_lt hc)) (by simp; omega) hbase (fun v' w' h1 h2 => h v' w' (by rw [FI_own] at h1; exact h1) h2)
theorem listAppI {ops : Array Oper} {rest : List Oper} {o : Oper} {a : Act} {Q : Exit → Act → World → Prop} (w : World) (s x : Operand) (hg : o.guard = none)
    (ho : o.op = .call { callee := .builtin .append, args := #[s, x], argTypes := #[31, 31] })
    {base g : Nat} {v : Value} {xs : List Int} {y : Int} (hs : a.eval s = v) (hown : OwnI w base v xs) (hx : a.eval x = .slice (some ⟨g, 0, none⟩) 1 1) (hc : w.cell? ⟨g, 0, none⟩ = some (.int .i64 y))
    (hlen : xs.length < 16777216) (hbase : base ≤ w.heap.size)
    (h : ∀ v' w', OwnI w' base v' (xs ++ [y]) → w.grownBy w' v.ownBlock → wpList Try.prog ops Q rest (a.put o.dst v') w') : wpList Try.prog ops Q (o :: rest) a w :=
  list_of_wp hg fun K hK => wpAppI w s x ho hs hown hx hc hlen hbase fun v' w' h1 h2 => hK _ _ (h v' w' h1 h2)
theorem stepAppI {ops : Array Oper} {o : Oper} {a : Act} {K : Act → World → Prop} {Q : Exit → Act → World → Prop} {E : Prop} (w : World) (s x : Operand) (hg : o.guard = none)
    (ho : o.op = .call { callee := .builtin .append, args := #[s, x], argTypes := #[31, 31] })
    {base g : Nat} {v : Value} {xs : List Int} {y : Int} (hs : a.eval s = v) (hown : OwnI w base v xs) (hx : a.eval x = .slice (some ⟨g, 0, none⟩) 1 1) (hc : w.cell? ⟨g, 0, none⟩ = some (.int .i64 y))
    (hlen : xs.length < 16777216) (hbase : base ≤ w.heap.size)
    (h : ∀ v' w', OwnI w' base v' (xs ++ [y]) → w.grownBy w' v.ownBlock → K (a.put o.dst v') w') : if Region.wanted o (yielded ops a.tmps) = true then Oper.wp Try.prog o a w K Q else E :=
  step_of_wp hg (wpAppI w s x ho hs hown hx hc hlen hbase h)

theorem wp_app_one {T E : Nat} {z : Value} {bytes : Nat} (hT : OneT T E z bytes) {o : Oper} {a : Act} {K : Act → World → Prop} {Q : Exit → Act → World → Prop} (w : World) (s x : Operand)
    (ho : o.op = .call { callee := .builtin .append, args := #[s, x], argTypes := #[T, T] })
    {base g n : Nat} {v y : Value} {xs : List Value} (hy1 : y.oneCell' = true) (hs : a.eval s = v) (hown : w.ownsRow base E 1 v n xs) (hx : a.eval x = .slice (some ⟨g, 0, none⟩) 1 1) (hc : w.cell? ⟨g, 0, none⟩ = some y)
    (hlen : n < 16777216) (hbase : base ≤ w.heap.size)
    (h : ∀ v' w', w'.ownsRow base E 1 v' (n + 1) (xs ++ [y]) → w.grownBy w' v.ownBlock → K (a.put o.dst v') w') : Oper.wp Try.prog o a w K Q := by
  obtain ⟨i0, hi, hz0, hz1, hz2⟩ := info_parts hT.inf
  refine wp_append_own w s x _ ho base E i0 z 1 bytes hT.und hi hz0 hz1 hz2 hT.one (by decide) v n xs hs hown ⟨g, 0, none⟩ 1 1 [y] hx rfl ?_ (by intro u hu; simp at hu; subst hu; exact hy1) (by simp [maxLen]; omega) ?_ hbase (fun v' w' h1 h2 _ => h v' w' h1 h2)
  · intro j u hu
    cases j with
    | zero => simp at hu; subst hu; simpa [Addr.add] using hc
    | succ j => simp at hu
  · have := hT.few
    calc (n + 1) * bytes ≤ 16777216 * 4096 := Nat.mul_le_mul (by omega) this
      _ ≤ 140737488355328 := by decide
theorem OwnIIB.lt {w : World} {base B : Nat} {v : Value} {xss : List (List Int)} (h : OwnIIB w base B v xss) (g : Nat) (hg : v.ownBlock = some g) : base ≤ g ∧ g < w.heap.size := by
  obtain ⟨vs, h1, _⟩ := h
  exact h1.lt g hg
theorem OwnI.one {w : World} {base : Nat} {u : Value} {xs : List Int} (h : OwnI w base u xs) : u.oneCell' = true := by
  rcases h.2 with ⟨rfl, _⟩ | ⟨g, c, cur, rfl, _⟩ <;> rfl
/-- append(v, u) on owned rows; u an owned row, its block none of theirs -/
theorem wpAppRow {o : Oper} {a : Act} {K : Act → World → Prop} {Q : Exit → Act → World → Prop} (w : World) (s x : Operand)
    (ho : o.op = .call { callee := .builtin .append, args := #[s, x], argTypes := #[22, 22] })
    {base B g : Nat} {v u : Value} {xss : List (List Int)} {xs : List Int} (hs : a.eval s = v) (hown : OwnIIB w base B v xss) (hu : OwnI w base u xs) (hB : ∀ g, u.ownBlock = some g → B ≤ g)
    (hx : a.eval x = .slice (some ⟨g, 0, none⟩) 1 1) (hc : w.cell? ⟨g, 0, none⟩ = some u) (hlen : xss.length < 16777216) (hbase : base ≤ w.heap.size)
    (h : ∀ v' w', OwnII w' base v' (xss ++ [xs]) → w.grownBy w' v.ownBlock → K (a.put o.dst v') w') : Oper.wp Try.prog o a w K Q := by
  obtain ⟨vs, h1, h2, h3⟩ := hown
  refine wp_app_one tI64S w s x ho hu.one hs h1 hx hc hlen hbase (fun v' w' k1 k2 => h v' w' ⟨vs ++ [u], ?_, ?_⟩ k2)
  · rw [List.length_append]; exact k1
  · have hsn : Rows2 w base (vs ++ [u]) (xss ++ [xs]) := Rows2.snoc (B := B) h2 hu h3 hB
    exact hsn.kept h1 k2
theorem listAppRow {ops : Array Oper} {rest : List Oper} {o : Oper} {a : Act} {Q : Exit → Act → World → Prop} (w : World) (s x : Operand) (hg : o.guard = none)
    (ho : o.op = .call { callee := .builtin .append, args := #[s, x], argTypes := #[22, 22] })
    {base B g : Nat} {v u : Value} {xss : List (List Int)} {xs : List Int} (hs : a.eval s = v) (hown : OwnIIB w base B v xss) (hu : OwnI w base u xs) (hB : ∀ g, u.ownBlock = some g → B ≤ g)
    (hx : a.eval x = .slice (some ⟨g, 0, none⟩) 1 1) (hc : w.cell? ⟨g, 0, none⟩ = some u) (hlen : xss.length < 16777216) (hbase : base ≤ w.heap.size)
    (h : ∀ v' w', OwnII w' base v' (xss ++ [xs]) → w.grownBy w' v.ownBlock → wpList Try.prog ops Q rest (a.put o.dst v') w') : wpList Try.prog ops Q (o :: rest) a w :=
  list_of_wp hg fun K hK => wpAppRow w s x ho hs hown hu hB hx hc hlen hbase fun v' w' h1 h2 => hK _ _ (h v' w' h1 h2)
theorem stepAppRow {ops : Array Oper} {o : Oper} {a : Act} {K : Act → World → Prop} {Q : Exit → Act → World → Prop} {E : Prop} (w : World) (s x : Operand) (hg : o.guard = none)
    (ho : o.op = .call { callee := .builtin .append, args := #[s, x], argTypes := #[22, 22] })
    {base B g : Nat} {v u : Value} {xss : List (List Int)} {xs : List Int} (hs : a.eval s = v) (hown : OwnIIB w base B v xss) (hu : OwnI w base u xs) (hB : ∀ g, u.ownBlock = some g → B ≤ g)
    (hx : a.eval x = .slice (some ⟨g, 0, none⟩) 1 1) (hc : w.cell? ⟨g, 0, none⟩ = some u) (hlen : xss.length < 16777216) (hbase : base ≤ w.heap.size)
    (h : ∀ v' w', OwnII w' base v' (xss ++ [xs]) → w.grownBy w' v.ownBlock → K (a.put o.dst v') w') : if Region.wanted o (yielded ops a.tmps) = true then Oper.wp Try.prog o a w K Q else E :=
  step_of_wp hg (wpAppRow w s x ho hs hown hu hB hx hc hlen hbase h)
theorem OwnII.lt {w : World} {base : Nat} {v : Value} {xss : List (List Int)} (h : OwnII w base v xss) (g : Nat) (hg : v.ownBlock = some g) : base ≤ g ∧ g < w.heap.size := by
  obtain ⟨vs, h1, _⟩ := h
  exact h1.lt g hg
theorem Fs.refl (S : Nat → Prop) (w : World) : Fs S w w := ⟨rfl, rfl, rfl, Nat.le_refl _, fun _ _ _ => rfl⟩
theorem Fs.set {S : Nat → Prop} {w w' : World} (h : Fs S w w') {a : Addr} (ha : S a.block) (u : Value) : Fs S w (w'.setCell a u) :=
  ⟨h.os, h.tape, h.output, by simpa using h.size, fun k hk hx => by
    rw [heap_setCell_other w' a k u (fun e => hx (by rw [e]; exact ha))]; exact h.block k hk hx⟩
theorem Fs.frozen {S : Nat → Prop} {w w' : World} (h : Fs S w w') {p : Addr} (hp : p.block < w.heap.size) (hn : ¬ S p.block) : w'.frozen? p = w.frozen? p := by
  simp [World.frozen?, h.block p.block hp hn]
end Go.Proofs.Ytenemohjmemoiaa
namespace Go.Proofs.Ytenemohjmemoiaa
open Go.RowKit Go.Sort
set_option maxHeartbeats 2000000 in
theorem l08Less_any {u v : Value} {xs ys : List Int} (w : World) (ha : SlI w u xs) (hb : SlI w v ys) :
    Calls Try.prog 109 #[u, v] w fun e w' => e = .returned (.bool (lessL xs ys)) ∧ Below w.heap.size w w' := by
  obtain ⟨a, ca, rfl, hca, hca', ha⟩ := ha
  obtain ⟨b, cb, rfl, hcb, hcb', hb⟩ := hb
  unfold maxLen at hca' hcb'
  go_enter Try.func109, Try.ntmps109
  go_wp2
  go_loopw [5] (fun i wr => ∃ k : Nat, k ≤ xs.length ∧ k ≤ ys.length ∧ i = .int .i64 k ∧ Hid (lessL xs ys = lessL (xs.drop k) (ys.drop k)) ∧ Below w.heap.size w wr) (fun i _ => xs.length - (intOf i).toNat)
  case atStart => exact ⟨0, Nat.zero_le _, Nat.zero_le _, rfl, rfl, Below.refl _ _⟩
  case round =>
    obtain ⟨k, hk, hk2, rfl, hc, hbr⟩ := hrel
    have HA := Lib.hid (ha.below hbr)
    have HB := Lib.hid (hb.below hbr)
    by_cases hlt : k < xs.length
    · have i1 : (k : Int) < (xs.length : Int) := by omega
      by_cases hy : k < ys.length
      · obtain ⟨ba, oa, rfl, ga⟩ := HA.out.one (i64s_get hlt)
        obtain ⟨bb, ob, rfl, gb⟩ := HB.out.one (i64s_get hy)
        have i2 : (k : Int) < (ys.length : Int) := by omega
        have i0 : (0 : Int) ≤ (k : Int) := by omega
        have hd := lessL_drop hlt hy
        have HD := Lib.hid hd
        have ka := fun d os => cell_regrown ga d os
        have kb := fun d os => cell_regrown gb d os
        clear hd
        by_cases he : xs[k] = ys[k]
        · have ht : (xs[k] != ys[k]) = false := by simp [he]
          have HE := Lib.hid he
          clear he
          go_wp2_with fail
          refine wp_region_quiet_below (by kernel_rfl) (by kernel_rfl) ?_
          repeat (first | go_big_quiet_skip | quiet_step (first | fail))
          refine wpQuiet_nil ?_
          intro _ hw'
          obtain ⟨⟨dq, osq⟩, hw''⟩ := hw'
          subst hw''
          have bq0 := below_regrown wr dq osq
          generalize grow (redrawn wr dq) osq = wq at bq0 ⊢
          have hb2 := hbr.trans (bq0.mono hbr.size)
          clear ka kb ht
          go_wp2
          go_roundw
          case rel => exact ⟨k + 1, by omega, by omega, by go_num, by unfold Hid at *; rw [hc, HD, if_pos HE], hb2⟩
          case measure => simp [intOf]; omega
        · have ht : (xs[k] != ys[k]) = true := by simp [he]
          have HE := Lib.hid he
          clear he
          go_wp2_with fail
          refine wp_region_quiet_below (by kernel_rfl) (by kernel_rfl) ?_
          repeat (first | go_big_quiet_skip | quiet_step (first | fail))
          refine wpQuiet_nil ?_
          intro _ hw'
          obtain ⟨⟨dq, osq⟩, hw''⟩ := hw'
          subst hw''
          have bq0 := below_regrown wr dq osq
          generalize grow (redrawn wr dq) osq = wq at bq0 ⊢
          have hb2 := hbr.trans (bq0.mono hbr.size)
          have ga2 := bq0.cell (p := ⟨ba, oa + k, none⟩) (cell_lt ga)
          have gb2 := bq0.cell (p := ⟨bb, ob + k, none⟩) (cell_lt gb)
          rw [ga] at ga2
          rw [gb] at gb2
          have ka2 := fun d os => cell_regrown ga2 d os
          have kb2 := fun d os => cell_regrown gb2 d os
          clear ka kb ht
          go_wp2_with fail
          refine wp_region_quiet_below (by kernel_rfl) (by kernel_rfl) ?_
          repeat (first | go_big_quiet_skip | quiet_step (first | fail))
          refine wpQuiet_nil ?_
          intro _ hw'
          obtain ⟨⟨dq, osq⟩, hw''⟩ := hw'
          subst hw''
          have bq1 := below_regrown wq dq osq
          generalize grow (redrawn wq dq) osq = wq2 at bq1 ⊢
          clear ka2 kb2
          go_wp2
          go_ret
          exact ⟨rb (by rw [hc.out, HD.out, if_neg HE.out]), hb2.trans (bq1.mono hb2.size)⟩
      · obtain rfl : k = ys.length := by omega
        go_wp2
        go_ret
        exact ⟨rb (by rw [hc.out, List.drop_length, List.drop_eq_getElem_cons hlt]; unfold lessL; simp; omega), hbr⟩
    · obtain rfl : k = xs.length := by omega
      go_wp2
      go_ret
      exact ⟨rb (by
        rw [hc.out, List.drop_length]
        by_cases hy : xs.length < ys.length
        · rw [List.drop_eq_getElem_cons hy]; simp [lessL, hy]
        · rw [List.drop_eq_nil_of_le (by omega)]; simp [lessL]; omega), hbr⟩
def riseN (lo hi : Int) (e : List Int) : Nat → Bool
  | 0 => true
  | k + 1 => riseN lo hi e k && (inR (e.getD k 0) lo hi && (decide (k = 0) || decide (e.getD (k - 1) 0 < e.getD k 0)))
theorem riseN_false {lo hi : Int} {e : List Int} {k : Nat} (h : (inR (e.getD k 0) lo hi && (decide (k = 0) || decide (e.getD (k - 1) 0 < e.getD k 0))) = false) : ∀ {m : Nat}, k < m → riseN lo hi e m = false
  | 0, h1 => by omega
  | m + 1, h1 => by
    unfold riseN
    by_cases hk : k = m
    · subst hk; rw [h]; simp
    · rw [riseN_false h (show k < m by omega)]; rfl
set_option maxHeartbeats 4000000 in
theorem l00Rises_any {u : Value} {e : List Int} (lo hi : Int) (w : World) (ha : SlI w u e) :
    Calls Try.prog 108 #[u, .int .i64 lo, .int .i64 hi] w fun en w' => en = .returned (.bool (riseN lo hi e e.length)) ∧ Below w.heap.size w w' := by
  obtain ⟨a, ca, rfl, hca, hca', ha⟩ := ha
  unfold maxLen at hca'
  go_enter Try.func108, Try.ntmps108
  go_wp2
  go_loopw [7] (fun i wr => ∃ k : Nat, k ≤ e.length ∧ i = .int .i64 k ∧ Hid (riseN lo hi e k = true) ∧ Below w.heap.size w wr) (fun i _ => e.length - (intOf i).toNat)
  case atStart => exact ⟨0, Nat.zero_le _, rfl, rfl, Below.refl _ _⟩
  case round =>
    obtain ⟨k, hk, rfl, hc, hbr⟩ := hrel
    have HA := Lib.hid (ha.below hbr)
    by_cases hlt : k < e.length
    · have i1 : (k : Int) < (e.length : Int) := by omega
      have i0 : (0 : Int) ≤ (k : Int) := by omega
      obtain ⟨ba, oa, rfl, ga⟩ := HA.out.one (i64s_get hlt)
      have ka := fun d os => cell_regrown ga d os
      generalize hx : e[k] = x at ga ka
      have hgd : e.getD k 0 = x := by rw [getD_at hlt, hx]
      have HGD := Lib.hid hgd
      generalize hq : inR x lo hi = q
      have HQ := Lib.hid hq
      have HNO := Lib.hid (fun h => riseN_false (lo := lo) (hi := hi) (e := e) (k := k) h hlt)
      clear hx hgd hq
      cases q
      · go_wp2_with fail
        refine wp_region_quiet_below (by kernel_rfl) (by kernel_rfl) ?_
        repeat (first | go_big_quiet_skip | quiet_step (first | (with_reducible exact Calls.regrown_of (l00In_q HQ.out _))))
        refine wpQuiet_nil ?_
        intro _ hw'
        obtain ⟨⟨dq, osq⟩, hw''⟩ := hw'
        subst hw''
        have bq0 := below_regrown wr dq osq
        generalize grow (redrawn wr dq) osq = wq at bq0 ⊢
        clear ka
        go_wp2
        go_ret
        exact ⟨rb (HNO.out (by rw [HGD.out, HQ.out]; rfl)).symm, hbr.trans (bq0.mono hbr.size)⟩
      · by_cases hk0 : k = 0
        · have hk0' : decide (0 < k) = false := by simp; omega
          have HK0 := Lib.hid hk0
          clear hk0
          go_wp2_with fail
          refine wp_region_quiet_below (by kernel_rfl) (by kernel_rfl) ?_
          repeat (first | go_big_quiet_skip | quiet_step (first | (with_reducible exact Calls.regrown_of (l00In_q HQ.out _))))
          refine wpQuiet_nil ?_
          intro _ hw'
          obtain ⟨⟨dq, osq⟩, hw''⟩ := hw'
          subst hw''
          have bq0 := below_regrown wr dq osq
          generalize grow (redrawn wr dq) osq = wq at bq0 ⊢
          have hb2 := hbr.trans (bq0.mono hbr.size)
          clear ka hk0'
          go_wp2
          go_roundw
          case rel => exact ⟨k + 1, by omega, by go_num, by unfold Hid riseN; rw [hc.out, HGD.out, HQ.out]; simp [HK0.out], hb2⟩
          case measure => simp [intOf]; omega
        · obtain ⟨m, hm⟩ : ∃ m, k = m + 1 := ⟨k - 1, by omega⟩
          have r2 : IntKind.i64.wrap ((k : Int) - 1) = (m : Int) := by rw [IntWalk.i64_in _ (by omega)]; omega
          have hkp : decide (0 < k) = true := by simp; omega
          have hml : m < e.length := by omega
          have i3 : (0 : Int) ≤ (m : Int) := by omega
          have i4 : (m : Int) < (e.length : Int) := by omega
          obtain ⟨ba', oa', he', gm⟩ := HA.out.one (i64s_get hml)
          simp only [Option.some.injEq, Addr.mk.injEq] at he'
          obtain ⟨rfl, rfl, _⟩ := he'
          have km := fun d os => cell_regrown gm d os
          generalize hy : e[m] = y at gm km
          have hgm : e.getD (k - 1) 0 = y := by rw [hm, Nat.add_sub_cancel, getD_at hml, hy]
          have HGM := Lib.hid hgm
          have HM := Lib.hid hm
          clear hy hgm hm
          by_cases hxy : y < x
          · go_wp2_with fail
            refine wp_region_quiet_below (by kernel_rfl) (by kernel_rfl) ?_
            repeat (first | go_big_quiet_skip | quiet_step (first | (with_reducible exact Calls.regrown_of (l00In_q HQ.out _))))
            refine wpQuiet_nil ?_
            intro _ hw'
            obtain ⟨⟨dq, osq⟩, hw''⟩ := hw'
            subst hw''
            have bq0 := below_regrown wr dq osq
            generalize grow (redrawn wr dq) osq = wq at bq0 ⊢
            have hb2 := hbr.trans (bq0.mono hbr.size)
            clear ka km r2 hkp
            go_wp2
            go_roundw
            case rel => exact ⟨k + 1, by omega, by go_num, by unfold Hid riseN; rw [hc.out, HGD.out, HQ.out, HGM.out]; simp [hxy], hb2⟩
            case measure => simp [intOf]; omega
          · have hxy2 : x ≤ y := by omega
            go_wp2_with fail
            refine wp_region_quiet_below (by kernel_rfl) (by kernel_rfl) ?_
            repeat (first | go_big_quiet_skip | quiet_step (first | (with_reducible exact Calls.regrown_of (l00In_q HQ.out _))))
            refine wpQuiet_nil ?_
            intro _ hw'
            obtain ⟨⟨dq, osq⟩, hw''⟩ := hw'
            subst hw''
            have bq0 := below_regrown wr dq osq
            generalize grow (redrawn wr dq) osq = wq at bq0 ⊢
            clear ka km r2 hkp
            go_wp2
            go_ret
            exact ⟨rb (HNO.out (by rw [HGD.out, HQ.out, HGM.out]; simp; omega)).symm, hbr.trans (bq0.mono hbr.size)⟩
    · obtain rfl : k = e.length := by omega
      go_wp2
      go_ret
      exact ⟨rb hc.out.symm, hbr⟩
end Go.Proofs.Ytenemohjmemoiaa
namespace Go.Proofs.Ytenemohjmemoiaa
open Go.RowKit Go.Sort
def ixP (p : Int → Bool) : List Int → Nat → Int
  | [], _ => -1
  | x :: r, k => if p x = true then (k : Int) else ixP p r (k + 1)
theorem ixP_any (p : Int → Bool) : ∀ (l : List Int) (k : Nat), decide (0 ≤ ixP p l k) = l.any p
  | [], k => by simp [ixP]
  | x :: r, k => by
    unfold ixP
    by_cases h : p x = true
    · rw [if_pos h]; simp [h]
    · rw [if_neg h, ixP_any p r (k + 1)]; simp [h]
theorem ixP_step {p : Int → Bool} {l : List Int} {k : Nat} (h : k < l.length) : ixP p (l.drop k) k = if p l[k] = true then (k : Int) else ixP p (l.drop (k + 1)) (k + 1) := by
  rw [List.drop_eq_getElem_cons h]; rfl
theorem ixP_bd (p : Int → Bool) : ∀ (l : List Int) (k : Nat), -1 ≤ ixP p l k ∧ ixP p l k < k + l.length
  | [], k => by simp [ixP]; omega
  | x :: r, k => by
    unfold ixP
    have := ixP_bd p r (k + 1)
    split
    · simp; omega
    · simp at this ⊢; omega

def ixRow (p : List Int → Bool) : List (List Int) → Nat → Int
  | [], _ => -1
  | x :: r, k => if p x = true then (k : Int) else ixRow p r (k + 1)
theorem ixRow_any (p : List Int → Bool) : ∀ (l : List (List Int)) (k : Nat), decide (0 ≤ ixRow p l k) = l.any p
  | [], k => by simp [ixRow]
  | x :: r, k => by
    unfold ixRow
    by_cases h : p x = true
    · rw [if_pos h]; simp [h]
    · rw [if_neg h, ixRow_any p r (k + 1)]; simp [h]
theorem ixRow_step {p : List Int → Bool} {l : List (List Int)} {k : Nat} (h : k < l.length) : ixRow p (l.drop k) k = if p l[k] = true then (k : Int) else ixRow p (l.drop (k + 1)) (k + 1) := by
  rw [List.drop_eq_getElem_cons h]; rfl
theorem ixRow_bd (p : List Int → Bool) : ∀ (l : List (List Int)) (k : Nat), -1 ≤ ixRow p l k ∧ ixRow p l k < k + l.length
  | [], k => by simp [ixRow]; omega
  | x :: r, k => by
    unfold ixRow
    have := ixRow_bd p r (k + 1)
    split
    · simp; omega
    · simp at this ⊢; omega
end Go.Proofs.Ytenemohjmemoiaa
namespace Go.Proofs.Ytenemohjmemoiaa
open Go.RowKit Go.Sort
end Go.Proofs.Ytenemohjmemoiaa
namespace Go.Proofs.Ytenemohjmemoiaa
open Go.RowKit Go.Sort
end Go.Proofs.Ytenemohjmemoiaa
namespace Go.Proofs.Ytenemohjmemoiaa
open Go.RowKit Go.Sort
/-- edges of a valid graph with m nodes -/
def EdgesB (m : Nat) (es : List (List Int)) : Prop := ∀ e ∈ es, ∃ a b : Nat, e = [(a : Int), (b : Int)] ∧ a < b ∧ b < m
def rankE (e : List Int) : Nat := (e.getD 0 0).toNat * 5 + (e.getD 1 0).toNat
theorem okN_true {hi : Int} {es : List (List Int)} : ∀ {m k : Nat}, okN hi es m = true → k < m → stepW hi es k = true
  | 0, k, _, h => by omega
  | m + 1, k, h, hk => by
    unfold okN at h
    rw [Bool.and_eq_true] at h
    by_cases e : k = m
    · subst e; exact h.2
    · exact okN_true h.1 (by omega)
theorem stepW_edge {hi : Int} {es : List (List Int)} {k : Nat} (h0 : 0 ≤ hi) (h4 : hi ≤ 4) (h : stepW hi es k = true) : ∃ a b : Nat, es.getD k [] = [(a : Int), (b : Int)] ∧ a < b ∧ (b : Int) ≤ hi := by
  unfold stepW at h
  rw [Bool.and_eq_true] at h
  have h1 := h.1
  unfold edgeW at h1
  rw [Bool.and_eq_true, Bool.and_eq_true] at h1
  obtain ⟨x, y, he⟩ := len2 (of_decide_eq_true h1.1)
  rw [he] at h1
  simp only [List.getD_cons_zero, List.getD_cons_succ] at h1
  have hx := inR_iff.1 h1.2.1
  have hy := inR_iff.1 h1.2.2
  rw [IntWalk.i64_in _ (by omega)] at hy
  obtain ⟨a, rfl⟩ := Int.eq_ofNat_of_zero_le hx.1
  obtain ⟨b, rfl⟩ := Int.eq_ofNat_of_zero_le (show 0 ≤ y by omega)
  exact ⟨a, b, he, by omega, by omega⟩
theorem graphOk_n {n : Int} {es : List (List Int)} (h : graphOk n es = true) : ∃ m : Nat, n = (m : Int) ∧ 1 ≤ m ∧ m ≤ 5 ∧ IntKind.i64.wrap (n - 1) = (m : Int) - 1 ∧ okN ((m : Int) - 1) es es.length = true := by
  unfold graphOk at h
  rw [Bool.and_eq_true] at h
  have hn := inR_iff.1 h.1
  obtain ⟨m, rfl⟩ := Int.eq_ofNat_of_zero_le (show 0 ≤ n by omega)
  have hw : IntKind.i64.wrap ((m : Int) - 1) = (m : Int) - 1 := IntWalk.i64_in _ (by omega)
  exact ⟨m, rfl, by omega, by omega, hw, by rw [← hw]; exact h.2⟩
theorem graphOk_edges {m : Nat} {es : List (List Int)} (h1 : 1 ≤ m) (h5 : m ≤ 5) (h : okN ((m : Int) - 1) es es.length = true) : EdgesB m es := by
  intro e he
  obtain ⟨k, hk, rfl⟩ := List.getElem_of_mem he
  obtain ⟨a, b, h2, h3, h4⟩ := stepW_edge (by omega) (by omega) (okN_true h hk)
  rw [getD_at hk] at h2
  exact ⟨a, b, h2, h3, by omega⟩
theorem graphOk_rank {m : Nat} {es : List (List Int)} (h1 : 1 ≤ m) (h5 : m ≤ 5) (h : okN ((m : Int) - 1) es es.length = true) : ∀ k, k < es.length → k ≤ rankE (es.getD k []) := by
  intro k
  induction k with
  | zero => intro _; omega
  | succ k ih =>
    intro hk
    have hi := ih (by omega)
    obtain ⟨a, b, e1, _, _⟩ := stepW_edge (by omega) (by omega) (okN_true h (show k < es.length by omega))
    obtain ⟨c, d, e2, _, _⟩ := stepW_edge (by omega) (by omega) (okN_true h hk)
    have hs := okN_true h hk
    unfold stepW at hs
    rw [Bool.and_eq_true] at hs
    have hl := hs.2
    rw [Nat.add_sub_cancel, e1, e2] at hl
    rw [e1] at hi
    rw [e2]
    have hlt : a < c ∨ (a = c ∧ b < d) := by
      simp [lessL] at hl
      split at hl <;> omega
    simp [rankE] at hi ⊢
    omega
theorem graphOk_len {m : Nat} {es : List (List Int)} (h1 : 1 ≤ m) (h5 : m ≤ 5) (h : okN ((m : Int) - 1) es es.length = true) : es.length ≤ 25 := by
  by_cases h0 : es.length = 0
  · omega
  · have hr := graphOk_rank h1 h5 h (es.length - 1) (by omega)
    obtain ⟨a, b, e1, h3, h4⟩ := stepW_edge (by omega) (by omega) (okN_true h (show es.length - 1 < es.length by omega))
    rw [e1] at hr
    simp [rankE] at hr
    omega
/-- all a graph that is valid is -/
theorem graphOk_all {n : Int} {es : List (List Int)} (h : graphOk n es = true) : ∃ m : Nat, n = (m : Int) ∧ 1 ≤ m ∧ m ≤ 5 ∧ EdgesB m es ∧ es.length ≤ 25 := by
  obtain ⟨m, h1, h2, h3, _, h5⟩ := graphOk_n h
  exact ⟨m, h1, h2, h3, graphOk_edges h2 h3 h5, graphOk_len h2 h3 h5⟩
theorem riseN_two {hi : Int} {e : List Int} (h0 : 0 ≤ hi) (h4 : hi ≤ 4) : (decide (e.length = 2) && riseN 0 hi e e.length) = edgeW hi e := by
  unfold edgeW
  by_cases h : e.length = 2
  · obtain ⟨a, b, rfl⟩ := len2 h
    simp [riseN, inR]
    by_cases h1 : 0 ≤ a ∧ a ≤ hi
    · rw [IntWalk.i64_in _ (by omega)]
      simp [h1]
      rw [Bool.eq_iff_iff]
      simp
      omega
    · rcases Classical.not_and_iff_not_or_not.1 h1 with h2 | h2 <;> simp [h2]
  · simp [h]
def colsOk (n lo hi : Int) (l : List Int) : Bool := l.all (fun c => inR c lo hi) && decide ((l.length : Int) = n)
def properB (es : List (List Int)) (cs : List Int) : Bool := !(es.any fun e => decide (cs.getD (e.getD 0 0).toNat 0 = cs.getD (e.getD 1 0).toNat 0))
/-- a graph at an address -/
def GraphAt (w : World) (b o : Nat) (n : Int) (v : Value) : Prop := b < w.heap.size ∧ w.cell? ⟨b, o, none⟩ = some (.int .i64 n) ∧ w.cell? ⟨b, o + 1, none⟩ = some v
theorem GraphAt.below {w w' : World} {b o : Nat} {n : Int} {v : Value} (h : GraphAt w b o n v) (hb : Below w.heap.size w w') : GraphAt w' b o n v :=
  ⟨Nat.lt_of_lt_of_le h.1 hb.size, by rw [hb.cell (p := ⟨b, o, none⟩) h.1]; exact h.2.1, by rw [hb.cell (p := ⟨b, o + 1, none⟩) h.1]; exact h.2.2⟩
theorem graphAt_new (w : World) (n : Int) (v : Value) : GraphAt (w.alloc (.cells #[.int .i64 n, v] 24)) w.heap.size 0 n v := by
  refine ⟨by simp, ?_, ?_⟩ <;> simp [go_sem]
end Go.Proofs.Ytenemohjmemoiaa
namespace Go.Proofs.Ytenemohjmemoiaa
open Go.RowKit Go.Sort
set_option maxRecDepth 100000 in
set_option maxHeartbeats 4000000 in
theorem l08Ok_any {v : Value} {es : List (List Int)} (b o : Nat) (n : Int) (w : World) (hc : GraphAt w b o n v) (ha : SlII w v es) :
    Calls Try.prog 51 #[.pointer (some ⟨b, o, none⟩)] w fun e w' => e = .returned (.bool (graphOk n es)) ∧ Below w.heap.size w w' := by
  obtain ⟨a, ca, us, rfl, hca, hca', hul, hrd, hrow⟩ := ha
  have HG := Lib.hid (fun W (h : Below w.heap.size w W) => And.intro (hrd.below h) (fun i hi u hu => (hrow i hi u hu).below h))
  have HC := Lib.hid (fun W (h : Below w.heap.size w W) => hc.below h)
  have HU := Lib.hid hul
  unfold maxLen at hca'
  obtain ⟨zb, c0, c1⟩ := hc
  clear hul hrd hrow
  generalize hq : inR n 1 5 = q
  have HQ := Lib.hid hq
  cases q
  · clear hq
    go_enter Try.func51, Try.ntmps51
    go_wp2_with (go_at_call 63; refine (l00In_any _ _ _ _).mono ?_; rintro e w' ⟨rfl, rfl⟩; rw [HQ.out])
    go_ret
    exact ⟨rb (by unfold graphOk; rw [HQ.out]; rfl), Below.refl _ _⟩
  · have hn := inR_iff.1 hq
    have hw : IntKind.i64.wrap (n - 1) = n - 1 := IntWalk.i64_in _ (by omega)
    have HGO : Hid (graphOk n es = okN (n - 1) es es.length) := by unfold Hid graphOk; rw [hq, hw]; rfl
    obtain ⟨hn1, hn2⟩ := hn
    clear hq hw
    go_enter Try.func51, Try.ntmps51
    go_wp2_with (go_at_call 63; refine (l00In_any _ _ _ _).mono ?_; rintro e w' ⟨rfl, rfl⟩; rw [HQ.out])
    go_loopw [3, 4] (fun i _ wr => ∃ k : Nat, k ≤ es.length ∧ i = .int .i64 k ∧ Hid (okN (n - 1) es k = true) ∧ Below w.heap.size w wr) (fun i _ _ => es.length - (intOf i).toNat)
    case atStart => exact ⟨0, Nat.zero_le _, rfl, rfl, Below.refl _ _⟩
    case round =>
      clear c0 c1 zb
      obtain ⟨k, hk, rfl, hok, hbr⟩ := hrel
      obtain ⟨zb, c0, c1⟩ := HC.out _ hbr
      by_cases hlt : k < es.length
      · obtain ⟨x, bb, off, rfl, gc, sx⟩ := SlII.row HU.out (HG.out _ hbr).1 (HG.out _ hbr).2 hlt
        have i1 : (k : Int) < (es.length : Int) := by omega
        have NO : stepW (n - 1) es k = false → graphOk n es = false := fun h => by rw [HGO.out, okN_false h hlt]
        have HNO := Lib.hid NO
        have hes : stepW (n - 1) es k = (edgeW (n - 1) es[k] && (decide (k = 0) || lessL (es.getD (k - 1) []) es[k])) := by unfold stepW; rw [getD_at hlt]
        have HES := Lib.hid hes
        have SX := Lib.hid (fun W (h : Below wr.heap.size wr W) => sx.below h)
        obtain ⟨ea, ec, rfl, _, _, _⟩ := id sx
        have htwo := riseN_two (hi := n - 1) (e := es[k]) (by omega) (by omega)
        clear hes NO sx
        by_cases hl : es[k].length = 2
        · have ht : ((es[k].length : Int) != 2) = false := by rw [hl]; rfl
          rw [hl] at htwo
          generalize hr : riseN 0 (n - 1) es[k] 2 = r at htwo
          have HR : Hid (riseN 0 (n - 1) es[k] es[k].length = r) := by unfold Hid; rw [hl]; exact hr
          have HE : Hid (edgeW (n - 1) es[k] = r) := by unfold Hid; rw [← htwo]; simp
          clear hl hr htwo
          go_wp2_with fail
          refine (l00Rises_any 0 (n - 1) _ (SX.out _ (Below.refl _ _))).mono ?_
          rintro e w2 ⟨rfl, b2⟩
          rw [HR.out]
          have hb2 := hbr.trans (b2.mono hbr.size)
          cases r
          · go_wp2
            go_ret
            exact ⟨rb (HNO.out (by rw [HES.out, HE.out]; rfl)).symm, hb2⟩
          · obtain ⟨_, d0, d1⟩ := HC.out _ hb2
            by_cases hk0 : k = 0
            · have hk0' : decide (0 < k) = false := by simp; omega
              have HK0 := Lib.hid hk0
              clear hk0
              go_wp2
              go_roundw
              case rel => exact ⟨k + 1, by omega, by go_num, by unfold Hid okN; rw [hok.out, HES.out, HE.out]; simp [HK0.out], hb2⟩
              case measure => simp [intOf]; omega
            · obtain ⟨m, hm⟩ : ∃ m, k = m + 1 := ⟨k - 1, by omega⟩
              have hkp : (0 : Int) < (k : Int) := by omega
              have hml : m < es.length := by omega
              have i3 : (m : Int) = (k : Int) - 1 := by omega
              have hk1 : k - 1 = m := by omega
              obtain ⟨x', b', off', he', gc', sx'⟩ := SlII.row HU.out (HG.out _ hb2).1 (HG.out _ hb2).2 hml
              simp only [Option.some.injEq, Addr.mk.injEq] at he'
              obtain ⟨rfl, rfl, _⟩ := he'
              obtain ⟨pa, pc, rfl, _⟩ := id sx'
              have SP := Lib.hid sx'
              have hst : stepW (n - 1) es k = lessL es[m] es[k] := by
                rw [HES.out, HE.out, hk1, getD_at hml]
                simp [hk0]
              generalize hl3 : lessL es[m] es[k] = l3 at hst
              have HST := Lib.hid hst
              have HL3 := Lib.hid hl3
              have gc2 : w2.cell? ⟨bb, off + (k - 1), none⟩ = some (.slice pa es[m].length pc) := by rw [hk1]; exact gc'
              have HK0 := Lib.hid hk0
              have HM := Lib.hid hm
              clear hst hl3 sx' hk0 hm i3 hk1 gc'
              go_wp2_with fail
              refine (l08Less_any _ SP.out (SX.out _ b2)).mono ?_
              rintro e w3 ⟨rfl, b3⟩
              rw [HL3.out]
              have hb3 := hb2.trans (b3.mono hb2.size)
              cases l3
              · go_wp2
                go_ret
                exact ⟨rb (HNO.out HST.out).symm, hb3⟩
              · go_wp2
                go_roundw
                case rel => exact ⟨k + 1, by omega, by go_num, by unfold Hid okN; rw [hok.out, HST.out]; rfl, hb3⟩
                case measure => simp [intOf]; omega
        · have ht : ((es[k].length : Int) != 2) = true := by simp; omega
          have hno := edgeW_no (hi := n - 1) hl
          have HN2 := Lib.hid hno
          clear hno hl htwo
          go_wp2
          go_ret
          exact ⟨rb (HNO.out (by rw [HES.out, HN2.out]; rfl)).symm, hbr⟩
      · obtain rfl : k = es.length := by omega
        go_wp2
        go_ret
        exact ⟨rb (by rw [HGO.out, hok.out]), hbr⟩
end Go.Proofs.Ytenemohjmemoiaa
namespace Go.Proofs.Ytenemohjmemoiaa
open Go.RowKit
def dig (n : Nat) : UInt8 := UInt8.ofNat (48 + n)
def dec (n : Nat) : List UInt8 := if n < 10 then [dig n] else dec (n / 10) ++ [dig (n % 10)]
termination_by n
decreasing_by omega
def decB (n : Nat) : ByteArray := ⟨(dec n).toArray⟩
theorem dec_lt {n : Nat} (h : n < 10) : dec n = [dig n] := by rw [dec]; simp [h]
theorem dec_ge {n : Nat} (h : 10 ≤ n) : dec n = dec (n / 10) ++ [dig (n % 10)] := by rw [dec]; rw [if_neg (by omega)]
theorem decB_ge {n : Nat} (h : 10 ≤ n) : decB n = decB (n / 10) ++ ⟨#[dig (n % 10)]⟩ := by
  unfold decB; rw [dec_ge h]; apply ByteArray.ext; rw [ByteArray.data_append]; simp
theorem dig_add (n : Nat) : dig n = 48 + UInt8.ofNat n := by unfold dig; rw [UInt8.ofNat_add]; rfl
theorem decB_ge' {n : Nat} (h : ¬ n < 10) : decB (n / 10) ++ ⟨#[48 + UInt8.ofNat (n % 10)]⟩ = decB n := by rw [decB_ge (Nat.le_of_not_lt h), dig_add]
theorem dec_length_le : ∀ k n, n < 10 ^ (k + 1) → (dec n).length ≤ k + 1 := by
  intro k
  induction k with
  | zero => intro n h; rw [dec_lt (by omega)]; simp
  | succ k ih =>
    intro n h
    by_cases h10 : n < 10
    · rw [dec_lt h10]; simp
    · rw [dec_ge (by omega), List.length_append]
      have := ih (n / 10) (by rw [Nat.pow_succ] at h; omega)
      simp only [List.length_cons, List.length_nil]; omega
theorem decB_size (n : Nat) : (decB n).size = (dec n).length := by simp [decB, ByteArray.size]
theorem decB_size_le {k n : Nat} (h : n < 10 ^ (k + 1)) : (decB n).size ≤ k + 1 := by rw [decB_size]; exact dec_length_le k n h
theorem rs {a b : ByteArray} (h : a = b) : Ending.returned (.string a) = .returned (.string b) := by rw [h]
theorem conv_one (u : World) (v : Int) (t : Nat) :
    (convert 40 9 (.slice (some ⟨u.heap.size, 0, none⟩) 1 1)).run Try.prog (u.alloc (.cells #[.int .u8 v] t)) = .ok (.string ⟨#[UInt8.ofNat v.toNat]⟩) (u.alloc (.cells #[.int .u8 v] t)) := by
  rw [run_convert_bytes_arg (P := Try.prog) (u.alloc (.cells #[.int .u8 v] t)) 40 5 Try.underlying40 Try.underlying5 u.heap.size 0 1 1 [v] rfl (by
    intro i hi
    obtain rfl : i = 0 := by omega
    simp) 9 Try.underlying9]
  rfl
theorem conv_at (u : World) (b : Nat) (v : Int) (h : u.cell? ⟨b, 0, none⟩ = some (.int .u8 v)) :
    (convert 40 9 (.slice (some ⟨b, 0, none⟩) 1 1)).run Try.prog u = .ok (.string ⟨#[UInt8.ofNat v.toNat]⟩) u := by
  rw [run_convert_bytes_arg (P := Try.prog) u 40 5 Try.underlying40 Try.underlying5 b 0 1 1 [v] rfl (by
    intro i hi
    obtain rfl : i = 0 := by omega
    simpa using h) 9 Try.underlying9]
  rfl
theorem dig_int (n : Nat) : UInt8.ofNat (48 + (n : Int) % 10).toNat = dig (n % 10) := by
  unfold dig; congr 1
set_option maxHeartbeats 800000 in
theorem Decimal_any : ∀ (k n : Nat) (w : World), n < 10 ^ (k + 1) → k ≤ 17 →
    Calls Try.prog 110 #[.int .i64 n] w fun e w' => e = .returned (.string (decB n)) ∧ Below w.heap.size w w' := by
  have base : ∀ (n : Nat) (w : World), n < 10 → Calls Try.prog 110 #[.int .i64 n] w fun e w' => e = .returned (.string (decB n)) ∧ Below w.heap.size w w' := by
    intro n w h9
    have hcv := fun v => conv_one w v 5
    go_enter Try.func110, Try.ntmps110
    go_wp2
    go_ret
    exact ⟨rs (by rw [decB, dec_lt h9]; rfl), (Below.refl _ _).alloc (Nat.le_refl _) _⟩
  intro k
  induction k with
  | zero => intro n w h _; exact base n w (by omega)
  | succ k ih =>
    intro n w h hk
    by_cases h10 : n < 10
    · exact base n w h10
    · have hd : ∀ u : World, Calls Try.prog 110 #[.int .i64 ((n : Int) / 10)] u fun e w' => e = .returned (.string (decB (n / 10))) ∧ Below u.heap.size u w' := by
        intro u
        have := ih (n / 10) u (by rw [Nat.pow_succ] at h; omega) (by omega)
        simpa using this
      have hsz : (decB (n / 10)).size ≤ k + 1 := decB_size_le (by rw [Nat.pow_succ] at h; omega)
      have h10' : (10 : Int) ≤ n := by omega
      have h63 : (n : Int) ≤ 1000000000000000000 := by
        have h1 : 10 ^ (k + 1 + 1) ≤ 10 ^ 18 := Nat.pow_le_pow_right (by omega) (by omega)
        have h2 : (10 : Nat) ^ 18 = 1000000000000000000 := by decide
        omega
      have HD := Lib.hid hd
      have hcv := fun u v => conv_one u v 5
      have hcv' := fun (u : World) v => conv_at (u.alloc (.cells #[.int .u8 v] 5)).drew u.heap.size v (by simp)
      clear hd ih base h
      have e1 : IntKind.i64.wrap ((n : Int) / 10) = (n : Int) / 10 := IntWalk.i64_in _ (by omega)
      have e2 : (n : Int).tmod 10 = (n : Int) % 10 := Int.tmod_eq_emod_of_nonneg (by omega)
      have e3 : IntKind.i64.wrap (48 + (n : Int) % 10) = 48 + (n : Int) % 10 := IntWalk.i64_in _ (by omega)
      have e4 : IntKind.u8.wrap (48 + (n : Int) % 10) = 48 + (n : Int) % 10 := by
        have : 0 ≤ 48 + (n : Int) % 10 ∧ 48 + (n : Int) % 10 < 256 := by omega
        generalize 48 + (n : Int) % 10 = q at this
        simp [IntKind.wrap, IntKind.bits, IntKind.signed]; omega
      go_enter Try.func110, Try.ntmps110
      go_wp2_with fail
      go_region_with (go_at_call 110; refine (HD.out _).mono ?_; rintro e w1 ⟨rfl, b1⟩; have hcc := b1.cell (p := ⟨w.heap.size, 0, none⟩); have hc3 := conv_at w1 w.heap.size (48 + (n : Int) % 10))
      all_goals
        go_wp2
        go_ret
      all_goals refine ⟨rs (decB_ge' h10), ?_⟩
      all_goals first
        | exact ((Below.refl w.heap.size w).drew.trans (b1.mono (Nat.le_refl _))).alloc b1.size _
        | exact ((Below.refl _ _).alloc (Nat.le_refl _) _).drew.trans (b1.mono (by simp))
end Go.Proofs.Ytenemohjmemoiaa
namespace Go.Proofs.Ytenemohjmemoiaa
open Go.RowKit
def decI (n : Int) : List UInt8 := if n < 0 then 45 :: dec n.natAbs else dec n.natAbs
def decIB (n : Int) : ByteArray := ⟨(decI n).toArray⟩
def bytesV (l : List UInt8) : List Value := l.map fun c => .int .u8 c.toNat
/-- what is still to come -/
def restD (r : Nat) : List UInt8 := if r = 0 then [] else dec r
theorem restD_pos {r : Nat} (h : 0 < r) : restD r = restD (r / 10) ++ [dig (r % 10)] := by
  unfold restD
  rw [if_neg (by omega)]
  by_cases h10 : r < 10
  · rw [if_pos (by omega), dec_lt h10, Nat.mod_eq_of_lt h10]; rfl
  · rw [if_neg (by omega), dec_ge (by omega)]
/-- the buffer: a block of 20 bytes of which those from j on are told -/
def Buf (w : World) (b j : Nat) (em : List UInt8) : Prop :=
  ∃ cur, w.heap[b]? = some (.cells cur 147 (0, 0)) ∧ cur.size = 20 ∧ j + em.length = 20 ∧ cur.toList.drop j = bytesV em
theorem Buf.store {w : World} {b j : Nat} {em : List UInt8} (h : Buf w b (j + 1) em) (c : UInt8) : Buf (w.setCell ⟨b, j, none⟩ (.int .u8 c.toNat)) b j (c :: em) := by
  obtain ⟨cur, h1, h2, h3, h4⟩ := h
  refine ⟨cur.setIfInBounds j (.int .u8 c.toNat), heap_setCell_same _ _ _ _ _ _ h1, by simpa using h2, by simp; omega, ?_⟩
  rw [Array.toList_setIfInBounds, List.drop_eq_getElem_cons (by simp; omega), List.getElem_set_self]
  simp only [bytesV, List.map_cons]
  rw [List.drop_set_of_lt (by omega)]
  exact congrArg _ h4
theorem Buf.has {w : World} {b j : Nat} {em : List UInt8} (h : Buf w b j em) {i : Nat} (hi : i < 20) : ∃ v, w.cell? ⟨b, i, none⟩ = some v := by
  obtain ⟨cur, h1, h2, h3, h4⟩ := h
  exact ⟨cur[i]'(by omega), by rw [cell_of_row w b i cur _ _ h1]; simp [h2, hi]⟩
theorem Buf.free {w : World} {b j : Nat} {em : List UInt8} (h : Buf w b j em) (i : Nat) : w.frozen? ⟨b, i, none⟩ = false := by
  obtain ⟨cur, h1, h2, h3, h4⟩ := h
  exact frozen_of_row w b i cur _ h1
theorem Buf.lt {w : World} {b j : Nat} {em : List UInt8} (h : Buf w b j em) : b < w.heap.size := by
  obtain ⟨cur, h1, _⟩ := h
  exact (Array.getElem?_eq_some_iff.1 h1).1
/-- R has at most j digits -/
def Fits (R j : Nat) : Prop := R < 10 ^ j
theorem Fits.pos {R j : Nat} (h : Fits R j) (hR : 0 < R) : ∃ i, j = i + 1 := by
  cases j with
  | zero => simp [Fits] at h; omega
  | succ j => exact ⟨j, rfl⟩
theorem Fits.div {R j : Nat} (h : Fits R (j + 1)) : Fits (R / 10) j := by
  unfold Fits at *; rw [Nat.pow_succ] at h; omega
theorem Fits.wrap {R i : Nat} (h : Fits R (i + 1)) (hi : i < 20) : IntKind.u64.wrap ((R : Int) / 10) = ((R / 10 : Nat) : Int) := by
  have h1 : Fits (R / 10) i := h.div
  have h2 : R / 10 < 10 ^ 19 := Nat.lt_of_lt_of_le h1 (Nat.pow_le_pow_right (by omega) (by omega))
  have h3 : (10 : Nat) ^ 19 = 10000000000000000000 := by decide
  rw [IntWalk.u64_in _ (by omega)]
  omega
theorem Buf.bound {w : World} {b j : Nat} {em : List UInt8} (h : Buf w b j em) : j ≤ 20 ∧ em.length = 20 - j := by
  obtain ⟨cur, h1, h2, h3, h4⟩ := h; omega
theorem Buf.new (w : World) (cur : Array Value) (h : cur.size = 20) : Buf (w.alloc (.cells cur 147)) w.heap.size 20 [] :=
  ⟨cur, heap_alloc_new w _, h, rfl, by simp [bytesV, h]⟩
theorem dig_toNat (r : Nat) : ((dig (r % 10)).toNat : Int) = 48 + (r : Int) % 10 := by
  unfold dig; simp; omega
theorem Buf.read {w : World} {b j : Nat} {em : List UInt8} (h : Buf w b j em) : ∀ i, i < 20 - j → w.cell? ⟨b, j + i, none⟩ = some (.int .u8 ((em.map fun c => (c.toNat : Int)).getD i 0)) := by
  obtain ⟨cur, h1, h2, h3, h4⟩ := h
  intro i hi
  rw [cell_of_row w b (j + i) cur _ _ h1]
  have h5 : (cur.toList.drop j)[i]? = (bytesV em)[i]? := by rw [h4]
  rw [List.getElem?_drop] at h5
  simp only [Array.getElem?_toList] at h5
  rw [h5]
  have : i < em.length := by omega
  simp [bytesV, this]
theorem strOfNums_bytes (em : List UInt8) : strOfNums (em.map fun c => (c.toNat : Int)) = ⟨em.toArray⟩ := by
  simp [strOfNums, Function.comp_def]
/-- string(out[j:]) -/
theorem Buf.string {w : World} {b j : Nat} {em : List UInt8} (h : Buf w b j em) :
    (convert 40 9 (.slice (some ⟨b, j, none⟩) (20 - j) (20 - j))).run Try.prog w = .ok (.string ⟨em.toArray⟩) w := by
  have hl := h.bound
  rw [run_convert_bytes_arg (P := Try.prog) w 40 5 Try.underlying40 Try.underlying5 b j (20 - j) (20 - j) (em.map fun c => (c.toNat : Int)) (by simp; omega) h.read 9 Try.underlying9, strOfNums_bytes]
def DecRel (B : Nat) (w : World) (N : Nat) (a r : Value) (wr : World) : Prop :=
  ∃ (j R : Nat) (em : List UInt8), a = .int .i64 j ∧ r = .int .u64 R ∧ Fits R j ∧ Buf wr B j em ∧ dec N = restD R ++ em ∧ Below B w wr
def Z20 : Array Value := Array.replicate 20 (.int .u8 0)
theorem Z20_size : Z20.size = 20 := by simp [Z20]
theorem run_build20 (w : World) : (Instr.build 147 #[]).run Try.prog w = .ok (.agg Z20) w := run_build w _ _ Z20 (by kernel_rfl)
theorem run_zero20 (w : World) : (zeroValue 147).run Try.prog w = .ok (.agg Z20) w := by kernel_rfl
theorem Z20_plain : Z20.all (·.oneCell') = true := by kernel_rfl
theorem info20 : (Try.prog.info? 147).map (·.size) = some Z20.size := by rw [Z20_size]; kernel_rfl
theorem Buf.fresh (w : World) : Buf ((w.alloc (.cells Z20 147)).setRow w.heap.size Z20) w.heap.size 20 [] :=
  ⟨Z20, setRow_heap _ _ _ _ _ _ (heap_alloc_new w _), Z20_size, rfl, by simp [bytesV, Z20]⟩
theorem dec_pos (n : Nat) : 0 < (dec n).length := by
  by_cases h : n < 10
  · rw [dec_lt h]; simp
  · rw [dec_ge (by omega)]; simp
theorem run_slice20 (u : World) (b j : Nat) (hj : j < 20) : (Instr.sliceAt 147 (.pointer (some ⟨b, 0, none⟩)) (some (.int .i64 j)) none none).run Try.prog u = .ok (.slice (some ⟨b, j, none⟩) (20 - j) (20 - j)) u := by
  have hlen : Try.prog.arrayLen 147 = 20 := by kernel_rfl
  have hel : Try.prog.elem 147 = 5 := by kernel_rfl
  have hs : (sizeOf 5).run Try.prog u = .ok 1 u := by kernel_rfl
  rw [run_sliceAt_array_l u 147 ⟨b, 0, none⟩ (by rw [hlen, hel]; exact Try.underlying147) .i64 j (by omega) (by rw [hlen]; omega), hel, hs, hlen]
  have e : ¬ (20 = j) := by omega
  have e2 : (⟨b, 0, none⟩ : Addr).add j = ⟨b, j, none⟩ := by unfold Addr.add; split <;> simp_all
  simp [slicedAt, e, e2, Result.andThen]
theorem below_fresh (w : World) : Below w.heap.size w ((w.alloc (.cells Z20 147)).setRow w.heap.size Z20) := by
  have h := (Below.refl w.heap.size w).alloc (Nat.le_refl _) (.cells Z20 147)
  exact below_setRow h (Nat.le_refl _) _
set_option maxHeartbeats 1600000 in
theorem decimal_pos (n : Int) (N : Nat) (w : World) (hn : 0 < n) (hu : IntKind.u64.wrap n = (N : Int)) (hN : N = n.natAbs) (hlt : Fits N 20) (hpos : 0 < N) :
    Calls Try.prog 114 #[.int .i64 n] w fun e w' => e = .returned (.string (decIB n)) ∧ Below w.heap.size w w' := by
  have hn0 : (n == 0) = false := by simp; omega
  have hn1 : decide (n < 0) = false := by simp; omega
  have HN := Lib.hid hN
  have hb20 := run_build20
  have ha20 := run_zero20
  clear hN
  go_enter Try.func114, Try.ntmps114
  go_upto_region 3 with (fail)
  go_wp2_with (with_reducible refine wpList_store_row rfl 147 _ _ rfl w.heap.size Z20 rfl rfl 147 Z20 (heap_alloc_new w _) info20 rfl Z20_plain ?_)
  go_loopw [4, 5] (fun a r wr => DecRel w.heap.size w N a r wr) (fun _ r _ => (intOf r).toNat)
  case atStart => exact ⟨20, N, [], rfl, rfl, hlt, Buf.fresh w, by simp [restD]; omega, below_fresh w⟩
  case round =>
    clear hu hb20 ha20
    obtain ⟨j, R, em, rfl, rfl, hRj, hbuf, hdec, hbw⟩ := hrel
    have HD := Lib.hid hdec
    clear hdec
    by_cases hR : 0 < R
    · obtain ⟨i, rfl⟩ := hRj.pos hR
      have hj := hbuf.bound
      have hi : i < 20 := by omega
      obtain ⟨v, hv⟩ := hbuf.has hi
      have hf := hbuf.free i
      have e1 : IntKind.u64.wrap ((R : Int) / 10) = ((R / 10 : Nat) : Int) := hRj.wrap hi
      have hbuf' := hbuf.store (dig (R % 10))
      rw [dig_toNat] at hbuf'
      go_wp2
      go_roundw
      case rel => exact ⟨i, R / 10, _, rfl, vi (by omega), hRj.div, hbuf', by rw [HD.out, restD_pos hR, List.append_assoc]; rfl, hbw.setCell (by simp) _⟩
      case measure => simp [intOf]; omega
    · obtain rfl : R = 0 := by omega
      have hj := hbuf.bound
      have hem : em = dec N := by rw [HD.out]; simp [restD]
      have HE := Lib.hid hem
      clear hem
      have hcs := hbuf.string
      have hsl := run_slice20 wr w.heap.size j (by have := dec_pos N; rw [← HE.out] at this; omega)
      go_wp2
      go_ret
      exact ⟨rs (by rw [HE.out]; unfold decIB decI; rw [if_neg (by omega), HN.out]), hbw⟩
set_option maxHeartbeats 1600000 in
theorem decimal_neg (n : Int) (N : Nat) (w : World) (hn : n < 0) (U : Int) (hu : IntKind.u64.wrap n = U) (hv : IntKind.u64.wrap (-U) = (N : Int)) (h19 : Fits N 19) (hN : N = n.natAbs) (hlt : Fits N 20) (hpos : 0 < N) :
    Calls Try.prog 114 #[.int .i64 n] w fun e w' => e = .returned (.string (decIB n)) ∧ Below w.heap.size w w' := by
  have hn0 : (n == 0) = false := by simp; omega
  have hn1 : decide (n < 0) = true := by simp; omega
  have HN := Lib.hid hN
  have hb20 := run_build20
  have ha20 := run_zero20
  clear hN
  go_enter Try.func114, Try.ntmps114
  go_upto_region 3 with (fail)
  go_wp2_with (with_reducible refine wpList_store_row rfl 147 _ _ rfl w.heap.size Z20 rfl rfl 147 Z20 (heap_alloc_new w _) info20 rfl Z20_plain ?_)
  go_loopw [4, 5] (fun a r wr => DecRel w.heap.size w N a r wr) (fun _ r _ => (intOf r).toNat)
  case atStart => exact ⟨20, N, [], rfl, rfl, hlt, Buf.fresh w, by simp [restD]; omega, below_fresh w⟩
  case round =>
    clear hu hb20 ha20 hv
    obtain ⟨j, R, em, rfl, rfl, hRj, hbuf, hdec, hbw⟩ := hrel
    have HD := Lib.hid hdec
    clear hdec
    by_cases hR : 0 < R
    · obtain ⟨i, rfl⟩ := hRj.pos hR
      have hj := hbuf.bound
      have hi : i < 20 := by omega
      obtain ⟨v, hv⟩ := hbuf.has hi
      have hf := hbuf.free i
      have e1 : IntKind.u64.wrap ((R : Int) / 10) = ((R / 10 : Nat) : Int) := hRj.wrap hi
      have hbuf' := hbuf.store (dig (R % 10))
      rw [dig_toNat] at hbuf'
      go_wp2
      go_roundw
      case rel => exact ⟨i, R / 10, _, rfl, vi (by omega), hRj.div, hbuf', by rw [HD.out, restD_pos hR, List.append_assoc]; rfl, hbw.setCell (by simp) _⟩
      case measure => simp [intOf]; omega
    · obtain rfl : R = 0 := by omega
      have hj := hbuf.bound
      have hem : em = dec N := by rw [HD.out]; simp [restD]
      have HE := Lib.hid hem
      clear hem
      obtain ⟨i, rfl⟩ : ∃ i, j = i + 1 := by
        have h1 : em.length ≤ 19 := by rw [HE.out]; exact dec_length_le 18 N h19
        exact ⟨j - 1, by omega⟩
      have hi : i < 20 := by omega
      obtain ⟨v, hv⟩ := hbuf.has hi
      have hf := hbuf.free i
      have hbuf' := hbuf.store 45
      have h45 : ((45 : UInt8).toNat : Int) = 45 := rfl
      rw [h45] at hbuf'
      have hcs := hbuf'.string
      have hsl := fun u => run_slice20 u w.heap.size i hi
      clear h45
      go_wp2
      go_ret
      exact ⟨rs (by rw [HE.out]; unfold decIB decI; rw [if_pos hn, HN.out]), hbw.setCell (by simp) _⟩
theorem fits_abs {n : Int} (h0 : -9223372036854775808 ≤ n) (h1 : n ≤ 9223372036854775807) : Fits n.natAbs 19 := by
  have h3 : (10 : Nat) ^ 19 = 10000000000000000000 := by decide
  unfold Fits; omega
theorem Fits.up {R j : Nat} (h : Fits R j) : Fits R (j + 1) := by
  unfold Fits at *; rw [Nat.pow_succ]; omega
theorem u64_neg {n : Int} (h0 : -9223372036854775808 ≤ n) (h1 : n < 0) : ∃ U : Int, IntKind.u64.wrap n = U ∧ IntKind.u64.wrap (-U) = (n.natAbs : Int) := by
  refine ⟨n + 18446744073709551616, ?_, ?_⟩
  · simp only [IntKind.wrap, IntKind.bits, IntKind.signed, Bool.false_and, Bool.false_eq_true, if_false]; omega
  · simp only [IntKind.wrap, IntKind.bits, IntKind.signed, Bool.false_and, Bool.false_eq_true, if_false]; omega
theorem decimal_zero (w : World) :
    Calls Try.prog 114 #[.int .i64 0] w fun e w' => e = .returned (.string ⟨#[48]⟩) ∧ w = w' := by
  go_enter Try.func114, Try.ntmps114
  go_wp2
  go_ret
  exact ⟨rfl, rfl⟩
/-- THE CONTRACT of impl.decimal -/
theorem decimal_any (n : Int) (w : World) (h0 : -9223372036854775808 ≤ n) (h1 : n ≤ 9223372036854775807) :
    Calls Try.prog 114 #[.int .i64 n] w fun e w' => e = .returned (.string (decIB n)) ∧ Below w.heap.size w w' := by
  by_cases hz : n = 0
  · subst hz
    refine (decimal_zero w).mono fun e w' ⟨he, hw⟩ => ?_
    subst hw
    refine ⟨?_, Below.refl _ _⟩
    rw [he]
    exact rs (by unfold decIB decI; rw [if_neg (by omega)]; rw [show (0 : Int).natAbs = 0 from rfl, dec_lt (by omega)]; rfl)
  · have hf := fits_abs h0 h1
    by_cases hn : n < 0
    · obtain ⟨U, hu, hv⟩ := u64_neg h0 hn
      exact decimal_neg n n.natAbs w hn U hu hv hf rfl hf.up (by omega)
    · exact decimal_pos n n.natAbs w (by omega) (by rw [IntWalk.u64_in _ (by omega)]; omega) rfl hf.up (by omega)
end Go.Proofs.Ytenemohjmemoiaa
namespace Go.Proofs.Ytenemohjmemoiaa
open Go.RowKit

def wordOf (k : Int) : ByteArray :=
  if k = 1 then ⟨#[103, 105, 118, 101]⟩ else
  if k = 2 then ⟨#[119, 111, 114, 107]⟩ else
  if k = 3 then ⟨#[100, 101, 108, 105, 118, 101, 114]⟩ else
  if k = 4 then ⟨#[99, 111, 112, 121]⟩ else
  if k = 5 then ⟨#[100, 114, 111, 112]⟩ else
  if k = 6 then ⟨#[115, 121, 110, 99]⟩ else
  if k = 7 then ⟨#[111, 117, 116]⟩ else
  if k = 8 then ⟨#[99, 114, 97, 115, 104]⟩ else
  if k = 9 then ⟨#[116, 101, 97, 114]⟩ else
  if k = 10 then ⟨#[113, 117, 105, 116]⟩ else
  ⟨#[]⟩
def toldOf (k : Int) : Bool := decide (k = 1) || decide (k = 2) || decide (k = 3) || decide (k = 4) || decide (k = 5) || decide (k = 10)
def deedOk (k a : Int) : Bool := inR k 1 10 && (inR a 0 999 && (toldOf k || decide (a = 0)))
theorem kind_cases {k : Int} (h : inR k 1 10 = true) : k = 1 ∨ k = 2 ∨ k = 3 ∨ k = 4 ∨ k = 5 ∨ k = 6 ∨ k = 7 ∨ k = 8 ∨ k = 9 ∨ k = 10 := by
  have := inR_iff.1 h; omega
theorem wordOf_out {k : Int} (h : inR k 1 10 = false) : wordOf k = ⟨#[]⟩ ∧ toldOf k = false := by
  have := inR_false.1 h
  constructor
  · unfold wordOf
    repeat (rw [if_neg (by omega)])
  · simp [toldOf]; omega

theorem wordOf_ne {k : Int} (h : inR k 1 10 = true) : (wordOf k).toList.isEmpty = false ∧ (!(wordOf k).toList.isEmpty) = true := by
  rcases kind_cases h with rfl | rfl | rfl | rfl | rfl | rfl | rfl | rfl | rfl | rfl <;> simp [wordOf, ByteArray.toList_eq]
/-- the tables that the reference makes anew at each call -/
def TabS (w : World) (b : Nat) : Prop := ∀ j : Nat, 1 ≤ j → j ≤ 10 → w.cell? ⟨b, j, none⟩ = some (.string (wordOf j))
def TabB (w : World) (b : Nat) : Prop := ∀ j : Nat, 1 ≤ j → j ≤ 10 → w.cell? ⟨b, j, none⟩ = some (.bool (toldOf j))
theorem nat_cases {j : Nat} (h1 : 1 ≤ j) (h2 : j ≤ 10) : j = 1 ∨ j = 2 ∨ j = 3 ∨ j = 4 ∨ j = 5 ∨ j = 6 ∨ j = 7 ∨ j = 8 ∨ j = 9 ∨ j = 10 := by omega
end Go.Proofs.Ytenemohjmemoiaa
namespace Go.Proofs.Ytenemohjmemoiaa
open Go.RowKit Go.Sort
def deedTextB (k a : Int) : ByteArray := if deedOk k a = true then (if toldOf k = true then wordOf k ++ ⟨#[32]⟩ ++ decB a.natAbs else wordOf k) else ⟨#[]⟩
theorem deedOk_parts {k a : Int} (h : deedOk k a = true) : inR k 1 10 = true ∧ 0 ≤ a ∧ a ≤ 999 := by
  unfold deedOk at h
  rw [Bool.and_eq_true, Bool.and_eq_true] at h
  have := inR_iff.1 h.2.1
  exact ⟨h.1, this.1, this.2⟩
theorem wordOf_size (k : Int) : (wordOf k).size ≤ 7 := by
  unfold wordOf
  repeat (split; · decide)
  decide
theorem decIB_nat (n : Nat) : decIB n = decB n := by unfold decIB decI decB; rw [if_neg (by omega)]; rfl
theorem app_assoc (a b c : ByteArray) : a ++ (b ++ c) = a ++ b ++ c := by apply ByteArray.ext; simp only [ByteArray.data_append, Array.append_assoc]
end Go.Proofs.Ytenemohjmemoiaa
