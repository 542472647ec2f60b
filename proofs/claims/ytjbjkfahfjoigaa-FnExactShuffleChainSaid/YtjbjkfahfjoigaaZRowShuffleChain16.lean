/-
  slices.Insert, slices.Concat at []int64.
-/
import Derived.Test.YtjbjkfahfjoigaaZRowShuffleChain7
import Derived.Test.YtjbjkfahfjoigaaZRowShuffleChain9
import Derived.Test.YtjbjkfahfjoigaaZRowShuffleChain13
import Derived.Lib.Overlaps
import Derived.Lib.AppendZerosOnto
import Derived.Lib.JoinLaws
import Derived.Laws.Externs
import Derived.Laws.IdiomCopy
import Derived.Lib.SliceRun
set_option linter.unusedVariables false
set_option linter.unusedSimpArgs false
namespace Go.Proofs.Ytjbjkfahfjoigaa
open Go.RowKit Go.Sort Go.Lib

theorem size_i64 (w : World) : (Go.sizeOf 2).run Try.prog w = .ok 1 w := by
  obtain ⟨i0, hi, hz0, hz1, hz2⟩ := info_parts info2
  simp [Go.sizeOf, typeInfo, hi, hz1]
theorem wp_copy_runI (w : World) {o : Oper} {a : Act} {K : Act → World → Prop} {Q : Exit → Act → World → Prop} (d s : Operand) (t t' : TypeId)
    (ho : o.op = .call { callee := .builtin .copy, args := #[d, s], argTypes := #[t, t'] }) (v u : Value) (hd : a.eval d = v) (hs : a.eval s = u) {v' : Value} {w' : World}
    (hr : (Builtin.copy_ #[t, t'] o.type #[v, u]).run Try.prog w = .ok v' w') (h : K (a.put o.dst v') w') : o.wp Try.prog a w K Q := by
  unfold Oper.wp execOp
  simp only [ho, resolve, invoke, builtin, Sem.run_bind, Sem.run_pure, Result.andThen_ok, List.map_toArray, List.map_cons, List.map_nil, hd, hs, hr]
  exact h

theorem wpList_copy_runI (w : World) {ops : Array Oper} {rest : List Oper} {o : Oper} {a : Act} {Q : Exit → Act → World → Prop} (hgd : o.guard = none) (d s : Operand) (t t' : TypeId)
    (ho : o.op = .call { callee := .builtin .copy, args := #[d, s], argTypes := #[t, t'] }) (v u : Value) (hd : a.eval d = v) (hs : a.eval s = u) {v' : Value} {w' : World}
    (hr : (Builtin.copy_ #[t, t'] o.type #[v, u]).run Try.prog w = .ok v' w') (h : wpList Try.prog ops Q rest (a.put o.dst v') w') : wpList Try.prog ops Q (o :: rest) a w :=
  wpList_plain hgd fun _ hK => wp_copy_runI w d s t t' ho v u hd hs hr (hK _ _ h)
theorem step_copy_runI {ops : Array Oper} {o : Oper} {a : Act} {w : World} {K : Act → World → Prop} {Q : Exit → Act → World → Prop} {E : Prop}
    (hg : o.guard = none) (d x : Operand) (dT sT : TypeId) (hop : o.op = Op.call { callee := Callee.builtin Builtin.copy, args := #[d, x], argTypes := #[dT, sT] })
    (v u : Value) (hd : a.eval d = v) (hx : a.eval x = u) {v' : Value} {w' : World} (hr : (Builtin.copy_ #[dT, sT] o.type #[v, u]).run Try.prog w = .ok v' w') (hK : K (a.put o.dst v') w') :
    if Region.wanted o (yielded ops a.tmps) = true then Oper.wp Try.prog o a w K Q else E := by
  have hw : Region.wanted o (yielded ops a.tmps) = true := by simp [Region.wanted, hg]
  rw [if_pos hw]
  unfold Oper.wp
  simp [execOp, hop, resolve, invoke, builtin, hd, hx, hr, Result.andThen]
  exact hK
theorem isSome_setCells (b : Nat) (vs : List Value) (o : Nat) (w : World) (h : ∀ j, j < vs.length → (w.cell? ⟨b, o + j, none⟩).isSome = true) (k : Nat) (hk : (w.cell? ⟨b, k, none⟩).isSome = true) : ((w.setCells b o vs).cell? ⟨b, k, none⟩).isSome = true := by
  by_cases hin : o ≤ k ∧ k < o + vs.length
  · have := World.cell?_setCells_in b vs o w h (k - o) (by omega)
    rw [show o + (k - o) = k by omega] at this
    rw [this]; rfl
  · rw [World.cell?_setCells_out b vs o w ⟨b, k, none⟩ (fun _ _ => by show k < o ∨ o + vs.length ≤ k; omega)]
    exact hk
set_option maxHeartbeats 4000000 in
set_option maxRecDepth 100000 in
theorem ins_shift (b off n c i vb voff m vc : Nat) (cs vs : List Value) (w : World) (hi : i < n) (hm : 0 < m) (hroom : n + m ≤ c) (hc63 : c ≤ 9223372036854775807) (hvb : vb ≠ b)
    (hcl : cs.length = n) (hvl : vs.length = m)
    (hcs : ∀ j v, cs[j]? = some v → w.cell? ⟨b, off + j, none⟩ = some v) (hsp : ∀ j, j < n + m → (w.cell? ⟨b, off + j, none⟩).isSome = true) (hfz : ∀ j, j < n + m → w.frozen? ⟨b, off + j, none⟩ = false)
    (hvs : ∀ j v, vs[j]? = some v → w.cell? ⟨vb, voff + j, none⟩ = some v) (h1c : ∀ v ∈ cs, v.oneCell' = true) (h1v : ∀ v ∈ vs, v.oneCell' = true)
    (tA tB : TypeId) (kA kB : Nat) (hsa : w.shape? vb = some (tA, kA)) (hsb : w.shape? b = some (tB, kB)) (hkB : kB ≠ 0) (hfa : w.frozen? ⟨vb, voff, none⟩ = false) (hfe : w.frozen? ⟨vb, kA, none⟩ = false) :
    Calls Try.prog 46 #[.slice (some ⟨b, off, none⟩) n c, .int .i64 i, .slice (some ⟨vb, voff, none⟩) m vc] w fun e w' =>
      e = .returned (.slice (some ⟨b, off, none⟩) (n + m) c) ∧ w' = (w.drew.setCells b (off + (i + m)) (cs.drop i)).setCells b (off + i) vs := by
  have und42 := Try.underlying42
  have hz1 : ¬ ((m : Int) = 0) := by omega
  have hz2 : ¬ ((i : Int) = (n : Int)) := by omega
  have hsz : (Try.prog.info? 2).map (·.size) = some 1 := by
    obtain ⟨i0, hi0, h0, h1, h2⟩ := info_parts info2
    rw [hi0]; simp [h1]
  have hov : ∀ lb cb, (callFunc 73 #[.slice (some ⟨vb, voff, none⟩) m vc, .slice (some ⟨b, off + (i + m), none⟩) lb cb]).run Try.prog w = .ok (.value (.bool false)) w := fun lb cb => by
    rw [run_callFunc_extern Try.func73 (by kernel_rfl) (by kernel_rfl) (by kernel_rfl) (e := Extern.SlicesOverlaps.overlaps #[42, 42] #[4]) (by kernel_rfl),
      Lib.run_overlaps_apart w 42 4 2 Try.underlying42 1 size_i64 ⟨vb, voff, none⟩ ⟨b, off + (i + m), none⟩ m vc lb cb hvb tA tB kA kB hsa hsb hkB hfa hfe]
    rfl
  have hdl : (cs.drop i).length = n - i := by rw [List.length_drop, hcl]
  have hw1 : IntKind.i64.wrap ((i : Int) + (m : Int)) = (i : Int) + (m : Int) := by rw [IntKind.wrap_i64]; omega
  have hb1 : (0 : Int) ≤ (i : Int) + (m : Int) := by omega
  have hin : i ≤ n := by omega
  have htn : ((i : Int) + (m : Int)).toNat = i + m := by omega
  have hb2 : ¬ (c = i + m) := by omega
  have hb3 : (i : Int) ≤ (n : Int) + (m : Int) := by omega
  have hb4 : ¬ (c = i) := by omega
  have hcp1 : ∀ ty dc sc, (Builtin.copy_ #[42, 42] ty #[.slice (some ⟨b, off + (i + m), none⟩) (n + m - (i + m)) dc, .slice (some ⟨b, off + i, none⟩) (n + m - i) sc]).run Try.prog w.drew = .ok (goInt (cs.drop i).length) (w.drew.setCells b (off + (i + m)) (cs.drop i)) := fun ty dc sc =>
    run_copy_cells w.drew _ _ ty 2 b (off + (i + m)) (n + m - (i + m)) dc ⟨b, off + i, none⟩ (n + m - i) sc (cs.drop i) Try.underlying42 hsz (by rw [hdl]; simp only [Nat.min_def]; split <;> omega)
      (fun j v hj => by rw [Addr.add_lit, Nat.add_assoc]; exact hcs (i + j) v (by rwa [List.getElem?_drop] at hj))
      (fun j hj => by rw [Nat.add_assoc]; exact hsp _ (by omega)) (fun j hj => by rw [Nat.add_assoc]; exact hfz _ (by omega)) (fun v hv => h1c v (List.mem_of_mem_drop hv))
  obtain ⟨W1, hW1⟩ : ∃ W1, W1 = w.drew.setCells b (off + (i + m)) (cs.drop i) := ⟨_, rfl⟩
  have hsp1 : ∀ k, k < n + m → (W1.cell? ⟨b, off + k, none⟩).isSome = true := fun k hk => by
    rw [hW1]
    exact isSome_setCells b _ _ _ (fun j hj => by rw [Nat.add_assoc]; exact hsp _ (by omega)) _ (hsp k hk)
  have hcp2 : ∀ (W : World), (∀ x, W.cell? x = W1.cell? x) → (∀ x, W.frozen? x = W1.frozen? x) → ∀ ty dc, (Builtin.copy_ #[42, 42] ty #[.slice (some ⟨b, off + i, none⟩) (n + m - i) dc, .slice (some ⟨vb, voff, none⟩) m vc]).run Try.prog W = .ok (goInt vs.length) (W.setCells b (off + i) vs) := fun W hWc hWf ty dc =>
    run_copy_cells W _ _ ty 2 b (off + i) (n + m - i) dc ⟨vb, voff, none⟩ m vc vs Try.underlying42 hsz (by rw [hvl]; simp only [Nat.min_def]; split <;> omega)
      (fun j v hj => by
        rw [Addr.add_lit, hWc, hW1, World.cell?_setCells_out b _ _ _ _ (fun h _ => absurd h hvb)]
        exact hvs j v hj)
      (fun j hj => by rw [hWc, Nat.add_assoc]; exact hsp1 _ (by omega)) (fun j hj => by rw [hWf, hW1, World.frozen?_setCells, Nat.add_assoc]; exact hfz _ (by omega)) h1v
  rw [← hW1] at hcp1
  go_enter Try.func46, Try.ntmps46
  go_wp2_with (simp only [hov])
  go_region_law (refine step_copy_runI rfl _ _ 42 42 rfl _ _ (by simp [Act.eval, Act.put]) (by simp [Act.eval, Act.put]) (hcp1 _ _ _) ?_)
  go_wp2_with (at_builtin; refine wpList_copy_runI _ rfl _ _ 42 42 rfl _ _ rfl rfl (hcp2 _ (fun _ => rfl) (fun _ => rfl) _ _) ?_)
  go_ret
  first | exact ⟨rfl, rfl⟩ | exact ⟨rfl, by rw [hW1]⟩
set_option maxHeartbeats 4000000 in
set_option maxRecDepth 100000 in
theorem ins_end_room (b off n c vb voff m vc : Nat) (vs : List Value) (w : World) (hm : 0 < m) (hroom : n + m ≤ c) (hc63 : c ≤ 9223372036854775807)
    (hvl : vs.length = m) (hsp : ∀ j, j < m → (w.cell? ⟨b, off + n + j, none⟩).isSome = true) (hfz : ∀ j, j < m → w.frozen? ⟨b, off + n + j, none⟩ = false)
    (hvs : ∀ j v, vs[j]? = some v → w.cell? ⟨vb, voff + j, none⟩ = some v) (h1v : ∀ v ∈ vs, v.oneCell' = true) :
    Calls Try.prog 46 #[.slice (some ⟨b, off, none⟩) n c, .int .i64 n, .slice (some ⟨vb, voff, none⟩) m vc] w fun e w' =>
      e = .returned (.slice (some ⟨b, off, none⟩) (n + m) c) ∧ w' = w.setCells b (off + n) vs := by
  have und42 := Try.underlying42
  have hz1 : ¬ ((m : Int) = 0) := by omega
  have hsrc : Src Try.prog 1 42 (.slice (some ⟨vb, voff, none⟩) m vc) m vs w := Src.ofSlice w Try.underlying42 ⟨vb, voff, none⟩ m vc vs (by omega) (fun j u hj => by rw [Addr.add_lit]; exact hvs j u hj) h1v
  go_enter Try.func46, Try.ntmps46
  go_wp2_with (at_builtin; refine wpList_append_room1 _ rfl _ _ 42 42 rfl 2 _ _ Try.underlying42 info2 b off n c rfl _ rfl m vs hsrc hroom (by rw [hvl]; exact hsp) (by rw [hvl]; exact hfz) ?_)
  go_ret
  exact ⟨rfl, rfl⟩
set_option maxHeartbeats 4000000 in
set_option maxRecDepth 100000 in
theorem ins_end_grow (base : Option Addr) (n c vb voff m vc : Nat) (cs vs : List Value) (w : World) (hm : 0 < m) (hnc : n ≤ c) (hroom : c < n + m) (hbig : (n + m) * 8 ≤ 140737488355328)
    (hcl : cs.length = n) (hvl : vs.length = m) (hnil : base = none → n = 0)
    (hcs : ∀ a, base = some a → ∀ j v, cs[j]? = some v → w.cell? (a.add j) = some v)
    (hvs : ∀ j v, vs[j]? = some v → w.cell? ⟨vb, voff + j, none⟩ = some v) (h1v : ∀ v ∈ vs, v.oneCell' = true) :
    Calls Try.prog 46 #[.slice base n c, .int .i64 n, .slice (some ⟨vb, voff, none⟩) m vc] w fun e w' =>
      e = .returned (.slice (some ⟨w.heap.size, 0, none⟩) (n + m) (grownCap w (n + m) c 2)) ∧
      w' = w.drew.alloc (.cells ((cs ++ vs).toArray ++ Builtin.zeroCells (Value.int .i64 0).cells (grownCap w (n + m) c 2 - (n + m))) 2) := by
  have und42 := Try.underlying42
  obtain ⟨i0, hi0, hz0, hzs, hzb⟩ := info_parts info2
  have hz1 : ¬ ((m : Int) = 0) := by omega
  have hsrc : Src Try.prog i0.size 42 (.slice (some ⟨vb, voff, none⟩) m vc) m vs w := by
    rw [hzs]
    exact Src.ofSlice w Try.underlying42 ⟨vb, voff, none⟩ m vc vs (by omega) (fun j u hj => by rw [Addr.add_lit]; exact hvs j u hj) h1v
  have hold : (Builtin.firstCells i0.size n (.slice base n c)).run Try.prog w.drew = .ok cs.toArray w.drew := by
    rw [hzs]
    cases base with
    | none =>
      have h0 := hnil rfl
      subst h0
      rw [List.length_eq_zero_iff.1 hcl]
      exact run_firstCells_none w.drew 1 0 0 c
    | some a => exact run_firstCells_some w.drew 1 n a n c cs (by omega) (fun j v hj => hcs a rfl j v hj)
  have hrun : ∀ ty, (Builtin.append_ #[42, 42] ty #[.slice base n c, .slice (some ⟨vb, voff, none⟩) m vc]).run Try.prog w = _ := fun ty =>
    run_append_grow_src w 42 42 ty 2 i0 _ Try.underlying42 hi0 hz0 base n c cs hold _ m vs hsrc hroom (by omega) (by rw [hzb]; exact growslice_fits hroom hbig)
  go_enter Try.func46, Try.ntmps46
  cases base with
  | none =>
    have h0 := hnil rfl
    subst h0
    go_wp2_with (at_builtin; refine Lib.wpList_append_run _ rfl _ _ _ _ rfl _ _ rfl rfl _ _ (hrun _) ?_)
    go_ret
    exact ⟨rfl, rfl⟩
  | some a =>
    obtain ⟨ab, ao, asp⟩ := a
    go_wp2_with (at_builtin; refine Lib.wpList_append_run _ rfl _ _ _ _ rfl _ _ rfl rfl _ _ (hrun _) ?_)
    all_goals (go_ret; exact ⟨rfl, rfl⟩)
set_option maxHeartbeats 4000000 in
set_option maxRecDepth 100000 in
theorem ins_grow (b off n c i vb voff m vc : Nat) (cs vs : List Value) (w : World) (hi : i < n) (hm : 0 < m) (hnc : n ≤ c) (hroom : c < n + m) (hbig : (n + m) * 8 ≤ 140737488355328)
    (hcl : cs.length = n) (hvl : vs.length = m)
    (hcs : ∀ j v, cs[j]? = some v → w.cell? ⟨b, off + j, none⟩ = some v)
    (hvs : ∀ j v, vs[j]? = some v → w.cell? ⟨vb, voff + j, none⟩ = some v) (h1c : ∀ v ∈ cs, v.oneCell' = true) (h1v : ∀ v ∈ vs, v.oneCell' = true) :
    Calls Try.prog 46 #[.slice (some ⟨b, off, none⟩) n c, .int .i64 i, .slice (some ⟨vb, voff, none⟩) m vc] w fun e w' =>
      e = .returned (.slice (some ⟨w.heap.size, 0, none⟩) (n + m) (grownCap w (n + m) c 2)) ∧
      w' = (((w.alloc (.cells ((cs.take i).toArray ++ Builtin.zeroCells (Value.int .i64 0).cells (n + m - i) ++ Builtin.zeroCells (Value.int .i64 0).cells (grownCap w (n + m) c 2 - (n + m))) 2)).drew.setCells w.heap.size i vs).drew).setCells w.heap.size (i + m) (cs.drop i) := by
  have und42 := Try.underlying42
  obtain ⟨i0, hi0, hz0, hzs, hzb⟩ := info_parts info2
  have hz1 : ¬ ((m : Int) = 0) := by omega
  have hz2 : ¬ ((i : Int) = (n : Int)) := by omega
  have hz3 : (c : Int) < (n : Int) + (m : Int) := by omega
  have hsz : (Try.prog.info? 2).map (·.size) = some 1 := by rw [hi0]; simp [hzs]
  have hbw : b < w.heap.size := block_lt_of_cell (hcs 0 _ (List.getElem?_eq_getElem (by omega)))
  have hvw : vb < w.heap.size := block_lt_of_cell (hvs 0 _ (List.getElem?_eq_getElem (by omega)))
  have hkk : (n : Int) + (m : Int) - (i : Int) = ((n + m - i : Nat) : Int) := by omega
  have hik : i + (n + m - i) = n + m := by omega
  have hold : (Builtin.firstCells i0.size i (.slice (some ⟨b, off, none⟩) i c)).run Try.prog w.drew = .ok (cs.take i).toArray w.drew := by
    rw [hzs]
    exact run_firstCells_some w.drew 1 i ⟨b, off, none⟩ i c (cs.take i) (by rw [List.length_take]; omega) (fun j v hj => by
      rw [Addr.add_lit]
      rw [List.getElem?_take] at hj
      split at hj
      · exact hcs j v hj
      · cases hj)
  have hrz : ∀ ty, (Builtin.append_ #[42, 3] ty #[.slice (some ⟨b, off, none⟩) i c, .int .i64 ((n : Int) + (m : Int) - (i : Int))]).run Try.prog w =
      .ok (.slice (some ⟨w.heap.size, 0, none⟩) (n + m) (grownCap w (n + m) c 2)) (w.drew.alloc (.cells ((cs.take i).toArray ++ Builtin.zeroCells (Value.int .i64 0).cells (n + m - i) ++ Builtin.zeroCells (Value.int .i64 0).cells (grownCap w (n + m) c 2 - (n + m))) 2)) := fun ty => by
    have h := Lib.run_append_grow_zeros w 42 3 ty 2 i0 _ .i64 .i64 Try.underlying42 Try.underlying3 hi0 hz0 (some ⟨b, off, none⟩) i c (cs.take i) hold (n + m - i) (by omega) (by omega) (by omega) (by omega) (by rw [hzb]; omega) (by rw [hzb, hik]; exact growslice_fits hroom hbig)
    rw [hik] at h
    rw [hkk]
    exact h
  obtain ⟨G, hG⟩ : ∃ G, G = grownCap w (n + m) c 2 := ⟨_, rfl⟩
  obtain ⟨ROW, hROW⟩ : ∃ ROW : Array Value, ROW = (cs.take i).toArray ++ Builtin.zeroCells (Value.int .i64 0).cells (n + m - i) ++ Builtin.zeroCells (Value.int .i64 0).cells (G - (n + m)) := ⟨_, rfl⟩
  rw [← hG] at hrz ⊢
  rw [← hROW] at hrz ⊢
  have hRl : n + m ≤ ROW.size := by
    rw [hROW]
    simp [Builtin.zeroCells, Value.cells]
    omega
  obtain ⟨W1, hW1⟩ : ∃ W1, W1 = w.drew.alloc (.cells ROW 2) := ⟨_, rfl⟩
  rw [← hW1] at hrz
  have hN : ∀ j, j < n + m → (W1.cell? ⟨w.heap.size, j, none⟩).isSome = true := fun j hj => by
    rw [hW1, World.cell?_alloc_at (w := w.drew) ROW _ w.heap.size j rfl, Array.getElem?_eq_getElem (by omega)]; rfl
  have hNf : ∀ j, W1.frozen? ⟨w.heap.size, j, none⟩ = false := fun j => by rw [hW1]; exact World.frozen?_alloc_at (w := w.drew) ROW _ w.heap.size j rfl
  have hOb : ∀ j v, w.cell? ⟨b, j, none⟩ = some v → W1.cell? ⟨b, j, none⟩ = some v := fun j v h => by rw [hW1, World.cell?_alloc_past (w := w.drew) _ b j hbw]; exact h
  have hOv : ∀ j v, w.cell? ⟨vb, j, none⟩ = some v → W1.cell? ⟨vb, j, none⟩ = some v := fun j v h => by rw [hW1, World.cell?_alloc_past (w := w.drew) _ vb j hvw]; exact h
  have hcpA : ∀ (W : World), (∀ x, W.cell? x = W1.cell? x) → (∀ x, W.frozen? x = W1.frozen? x) → ∀ ty dc, (Builtin.copy_ #[42, 42] ty #[.slice (some ⟨w.heap.size, i, none⟩) (n + m - i) dc, .slice (some ⟨vb, voff, none⟩) m vc]).run Try.prog W = .ok (goInt vs.length) (W.setCells w.heap.size i vs) := fun W hWc hWf ty dc =>
    run_copy_cells W _ _ ty 2 w.heap.size i (n + m - i) dc ⟨vb, voff, none⟩ m vc vs Try.underlying42 hsz (by rw [hvl]; simp only [Nat.min_def]; split <;> omega)
      (fun j v hj => by rw [Addr.add_lit, hWc]; exact hOv _ v (hvs j v hj))
      (fun j hj => by rw [hWc]; exact hN _ (by omega)) (fun j hj => by rw [hWf]; exact hNf _) h1v
  have hGn : n + m ≤ G := by rw [hG]; exact grownCap_ge w _ _ _
  have hG63 : G ≤ 9223372036854775807 := by
    have := grownCap_le_maxLen w (n + m) c 2 (by unfold maxLen; omega)
    rw [← hG] at this
    unfold maxLen at this
    omega
  have hGi : ¬ (G = i) := by omega
  have hGim : ¬ (G = i + m) := by omega
  have hci : ¬ (c = i) := by omega
  have hbN : b ≠ w.heap.size := by omega
  have hdl : (cs.drop i).length = n - i := by rw [List.length_drop, hcl]
  have hcpB : ∀ (W : World), (∀ x, W.cell? x = (W1.setCells w.heap.size i vs).cell? x) → (∀ x, W.frozen? x = (W1.setCells w.heap.size i vs).frozen? x) → ∀ ty dc sc, (Builtin.copy_ #[42, 42] ty #[.slice (some ⟨w.heap.size, i + m, none⟩) (n + m - (i + m)) dc, .slice (some ⟨b, off + i, none⟩) (n - i) sc]).run Try.prog W = .ok (goInt (cs.drop i).length) (W.setCells w.heap.size (i + m) (cs.drop i)) := fun W hWc hWf ty dc sc =>
    run_copy_cells W _ _ ty 2 w.heap.size (i + m) (n + m - (i + m)) dc ⟨b, off + i, none⟩ (n - i) sc (cs.drop i) Try.underlying42 hsz (by rw [hdl]; simp only [Nat.min_def]; split <;> omega)
      (fun j v hj => by
        rw [Addr.add_lit, hWc, World.cell?_setCells_out _ _ _ _ _ (fun h _ => absurd h hbN), Nat.add_assoc]
        exact hOb _ v (hcs (i + j) v (by rwa [List.getElem?_drop] at hj)))
      (fun j hj => by rw [hWc]; exact isSome_setCells _ _ _ _ (fun t ht => hN _ (by omega)) _ (hN _ (by omega)))
      (fun j hj => by rw [hWf, World.frozen?_setCells]; exact hNf _) (fun v hv => h1c v (List.mem_of_mem_drop hv))
  subst hW1
  have hE1 : ∀ x, ((w.alloc (.cells ROW 2)).drew).cell? x = (w.drew.alloc (.cells ROW 2)).cell? x := fun x => rfl
  have hE2 : ∀ x, ((w.alloc (.cells ROW 2)).drew).frozen? x = (w.drew.alloc (.cells ROW 2)).frozen? x := fun x => rfl
  have hF1 : ∀ x, (((w.alloc (.cells ROW 2)).drew.setCells w.heap.size i vs).drew).cell? x = ((w.drew.alloc (.cells ROW 2)).setCells w.heap.size i vs).cell? x := fun x => rfl
  have hF2 : ∀ x, (((w.alloc (.cells ROW 2)).drew.setCells w.heap.size i vs).drew).frozen? x = ((w.drew.alloc (.cells ROW 2)).setCells w.heap.size i vs).frozen? x := fun x => rfl
  have hw1 : IntKind.i64.wrap ((i : Int) + (m : Int)) = (i : Int) + (m : Int) := by rw [IntKind.wrap_i64]; omega
  have hb1 : (0 : Int) ≤ (i : Int) + (m : Int) := by omega
  have hin : i ≤ n := by omega
  have htn : ((i : Int) + (m : Int)).toNat = i + m := by omega
  have hb3 : (i : Int) ≤ (n : Int) := by omega
  clear hkk hik hold hROW hG hRl
  go_enter Try.func46, Try.ntmps46
  go_wp2_with (first
    | (at_builtin; refine Lib.wpList_append_run _ rfl _ _ _ _ rfl _ _ rfl rfl _ _ (hrz _) ?_)
    | (at_builtin; refine wpList_copy_runI _ rfl _ _ 42 42 rfl _ _ rfl rfl (hcpA _ hE1 hE2 _ _) ?_)
    | (at_builtin; refine wpList_copy_runI _ rfl _ _ 42 42 rfl _ _ rfl rfl (hcpB _ (fun _ => rfl) (fun _ => rfl) _ _ _) ?_))
  go_region_law (refine step_copy_runI rfl _ _ 42 42 rfl (.slice (some ⟨w.heap.size, i + m, none⟩) (n + m - (i + m)) (G - (i + m))) (.slice (some ⟨b, off + i, none⟩) (n - i) (c - i)) (by simp [Act.eval, Act.put]) (by simp [Act.eval, Act.put]) (hcpB _ hF1 hF2 2 (G - (i + m)) (c - i)) ?_)
  go_wp2
  go_ret
  exact ⟨rfl, rfl⟩
theorem heap_new (w : World) (o : Obj) : (w.alloc o).heap[w.heap.size]? = some o := by
  show (w.heap.push o)[w.heap.size]? = some o
  simp

theorem bel_setCells {B : Nat} {a : World} (g : Nat) (hg : B ≤ g) : ∀ (vs : List Value) (o : Nat) (w : World), Below B a w → Below B a (w.setCells g o vs)
  | [], _, _, h => h
  | v :: r, o, w, h => by
    rw [World.setCells]
    exact bel_setCells g hg r (o + 1) _ (h.setCell (p := ⟨g, o, none⟩) hg v)
theorem heap_setCells (g e : Nat) : ∀ (vs : List Value) (o : Nat) (w : World) (cur : Array Value), w.heap[g]? = some (.cells cur e) → ∃ cur', (w.setCells g o vs).heap[g]? = some (.cells cur' e) ∧ cur'.size = cur.size
  | [], _, _, cur, h => ⟨cur, h, rfl⟩
  | v :: r, o, w, cur, h => by
    rw [World.setCells]
    obtain ⟨c', h1, h2⟩ := heap_setCells g e r (o + 1) _ _ (heap_setCell_same w g o cur e v h)
    exact ⟨c', h1, by simpa using h2⟩
theorem OwnI.of_cells {w : World} {base g c : Nat} {cur : Array Value} {xs : List Int} (hb : base ≤ g) (h : w.heap[g]? = some (.cells cur 2)) (hs : cur.size = c) (hn : xs.length ≤ c) (hc : c ≤ maxLen)
    (hx : ∀ j (hj : j < xs.length), w.cell? ⟨g, j, none⟩ = some (.int .i64 xs[j])) : OwnI w base (.slice (some ⟨g, 0, none⟩) xs.length c) xs := by
  refine ⟨by simp [i64s], .inr ⟨g, c, cur, rfl, hb, h, hn, hc, by simpa using hs, ?_⟩⟩
  apply List.ext_getElem?
  intro j
  by_cases hj : j < xs.length
  · have h2 := hx j hj
    unfold World.cell? at h2
    simp only [h] at h2
    rw [List.getElem?_take_of_lt (by omega), i64s_get hj]
    simpa using h2
  · rw [List.getElem?_eq_none (by rw [List.length_take]; omega), List.getElem?_eq_none (by rw [i64s_length]; omega)]
def insN (xs : List Int) (i : Nat) (Y : Int) : List Int := xs.take i ++ Y :: xs.drop i
theorem insN_len {xs : List Int} {i : Nat} {Y : Int} (h : i ≤ xs.length) : (insN xs i Y).length = xs.length + 1 := by
  unfold insN; rw [List.length_append, List.length_cons, List.length_take, List.length_drop]; omega
theorem insN_get {xs : List Int} {i : Nat} {Y : Int} (h : i ≤ xs.length) {j : Nat} (hj : j < xs.length + 1) : (insN xs i Y)[j]? = some (if hlt : j < i then xs[j]'(by omega) else if he : j = i then Y else xs[j - 1]'(by omega)) := by
  unfold insN
  by_cases hlt : j < i
  · rw [dif_pos hlt, List.getElem?_append_left (by rw [List.length_take]; omega), List.getElem?_take_of_lt hlt, List.getElem?_eq_getElem (by omega)]
  · rw [dif_neg hlt, List.getElem?_append_right (by rw [List.length_take]; omega), List.length_take, Nat.min_eq_left h]
    by_cases he : j = i
    · subst he
      rw [dif_pos rfl, Nat.sub_self]; rfl
    · rw [dif_neg he]
      obtain ⟨q, rfl⟩ : ∃ q, j = i + q + 1 := ⟨j - i - 1, by omega⟩
      rw [show i + q + 1 - i = q + 1 by omega, List.getElem?_cons_succ, List.getElem?_drop]
      show xs[i + q]? = some (xs[i + q + 1 - 1]'(by omega))
      rw [List.getElem?_eq_getElem (by omega)]; rfl
theorem OwnI.ins {w : World} {base g c : Nat} {cur : Array Value} {xs : List Int} {i : Nat} {Y : Int} (hi : i ≤ xs.length) (hb : base ≤ g) (h : w.heap[g]? = some (.cells cur 2)) (hs : cur.size = c) (hn : xs.length + 1 ≤ c) (hc : c ≤ maxLen)
    (h1 : ∀ j (hj : j < i), w.cell? ⟨g, j, none⟩ = some (.int .i64 (xs[j]'(by omega)))) (h2 : w.cell? ⟨g, i, none⟩ = some (.int .i64 Y)) (h3 : ∀ j (hj : j < xs.length - i), w.cell? ⟨g, i + 1 + j, none⟩ = some (.int .i64 (xs[i + j]'(by omega)))) :
    OwnI w base (.slice (some ⟨g, 0, none⟩) (xs.length + 1) c) (insN xs i Y) := by
  have e := insN_len (Y := Y) hi
  rw [← e] at hn ⊢
  refine OwnI.of_cells hb h hs hn hc (fun j hj => ?_)
  rw [e] at hj
  have k := insN_get (Y := Y) hi hj
  rw [List.getElem?_eq_getElem (by rw [e]; exact hj)] at k
  rw [Option.some.inj k]
  by_cases hlt : j < i
  · rw [dif_pos hlt]; exact h1 j hlt
  · rw [dif_neg hlt]
    by_cases he : j = i
    · subst he; rw [dif_pos rfl]; exact h2
    · rw [dif_neg he]
      obtain ⟨q, rfl⟩ : ∃ q, j = i + 1 + q := ⟨j - i - 1, by omega⟩
      have := h3 q (by omega)
      rw [this]
      congr 2
      have : i + 1 + q - 1 = i + q := by omega
      simp only [this]
theorem Insert_any {s : Value} {xs : List Int} {base : Nat} (i vb : Nat) (Y : Int) (w : World) (ho : OwnI w base s xs) (hi : i ≤ xs.length) (hl : xs.length ≤ 1000) (hvb : ∀ g, s.ownBlock = some g → g ≠ vb) (hv : OwnI w base (.slice (some ⟨vb, 0, none⟩) 1 1) [Y]) (hbase : base ≤ w.heap.size) :
    Calls Try.prog 46 #[s, .int .i64 i, .slice (some ⟨vb, 0, none⟩) 1 1] w fun e w' => ∃ r, e = .returned r ∧ OwnI w' base r (insN xs i Y) ∧ Below base w w' := by
  have hvc : ∀ j v, [Value.int .i64 Y][j]? = some v → w.cell? ⟨vb, 0 + j, none⟩ = some v := by
    intro j v hj
    match j, hj with
    | 0, hj => simp at hj; subst hj; exact OwnI.cell hv (i := 0) (by simp)
    | j + 1, hj => simp at hj
  have h1v : ∀ v ∈ [Value.int .i64 Y], v.oneCell' = true := by simp; rfl
  have hlen : (i64s xs).length = xs.length := i64s_length xs
  have hone : ∀ v ∈ i64s xs, v.oneCell' = true := by
    intro v hv
    simp only [i64s, List.mem_map] at hv
    obtain ⟨x, _, rfl⟩ := hv; rfl
  have growI : ∀ (w' : World) (G : Nat), G ≤ maxLen → xs.length + 1 ≤ G → ∀ (C : Array Value), (∀ j (hj : j < xs.length + 1), C[j]? = (i64s xs ++ [Value.int .i64 Y])[j]?) → C.size = G → w' = w.drew.alloc (.cells C 2) → OwnI w' base (.slice (some ⟨w.heap.size, 0, none⟩) (xs.length + 1) G) (insN xs xs.length Y) ∧ Below base w w' := by
    intro w' G hG hG1 C hC hCs hw'
    subst hw'
    refine ⟨OwnI.ins (Nat.le_refl _) hbase (cur := C) (heap_new w.drew _) hCs hG1 hG ?_ ?_ ?_, (Below.refl _ _).drew.alloc hbase _⟩
    · intro j hj
      rw [World.cell?_alloc_at (w := w.drew) C _ w.heap.size j rfl, hC j (by omega), List.getElem?_append_left (by rw [hlen]; omega), i64s_get hj]
    · rw [World.cell?_alloc_at (w := w.drew) C _ w.heap.size xs.length rfl, hC _ (by omega), List.getElem?_append_right (by omega), hlen, Nat.sub_self]; rfl
    · intro j hj; omega
  rcases ho.forms with ⟨rfl, rfl⟩ | ⟨g, c, rfl, hgb, hgs, hnc, hcm⟩
  · obtain rfl : i = 0 := by simpa using hi
    refine (ins_end_grow none 0 0 vb 0 1 1 [] [.int .i64 Y] w (by omega) (by omega) (by omega) (by decide) rfl rfl (fun _ => rfl) (fun _ h => by simp at h) hvc h1v).mono ?_
    rintro e w' ⟨rfl, rfl⟩
    have hG := grownCap_ge w (0 + 1) 0 2
    have hG2 := grownCap_le_maxLen w (0 + 1) 0 2 (by unfold maxLen; omega)
    generalize grownCap w (0 + 1) 0 2 = G at hG hG2 ⊢
    refine ⟨_, rfl, growI _ _ hG2 hG _ (fun j hj => ?_) ?_ rfl⟩
    · have h0 : j = 0 := by simpa using hj
      subst h0
      rw [Array.getElem?_append_left (by simp)]; simp [i64s]
    · simp [Builtin.zeroCells, Value.cells]; omega
  · have hcs : ∀ j v, (i64s xs)[j]? = some v → w.cell? ⟨g, 0 + j, none⟩ = some v := by
      intro j v hj
      have hjl : j < xs.length := by rw [← hlen]; exact (List.getElem?_eq_some_iff.1 hj).1
      rw [i64s_get hjl] at hj
      rw [Nat.zero_add, ← hj]; exact OwnI.cell ho hjl
    have hown := ho
    rcases hown.2 with ⟨h1, _⟩ | ⟨g', cap, cur, h1, _, h3, _, _, h6, _⟩
    · simp at h1
    simp only [Value.slice.injEq, Option.some.injEq, Addr.mk.injEq] at h1
    obtain ⟨⟨rfl, _, _⟩, _, rfl⟩ := h1
    have hcur : cur.size = c := by simpa using h6
    have hne : vb ≠ g := fun e => hvb g rfl e.symm
    have hcap : ∀ j, j < c → (w.cell? ⟨g, j, none⟩).isSome = true := by
      intro j hj
      unfold World.cell?
      simp only [h3]
      simp [hcur, hj]
    have hfz : ∀ j, w.frozen? ⟨g, j, none⟩ = false := fun j => ho.free j
    have hcm2 : c ≤ 9223372036854775807 := by unfold maxLen at hcm; omega
    by_cases hie : i = xs.length
    · subst hie
      by_cases hroom : xs.length + 1 ≤ c
      · refine (ins_end_room g 0 xs.length c vb 0 1 1 [.int .i64 Y] w (by omega) hroom hcm2 rfl (fun j hj => hcap _ (by omega)) (fun j hj => hfz _) hvc h1v).mono ?_
        rintro e w' ⟨rfl, rfl⟩
        refine ⟨_, rfl, ?_, bel_setCells g hgb _ _ _ (Below.refl _ _)⟩
        obtain ⟨cur', k1, k2⟩ := heap_setCells g 2 [.int .i64 Y] (0 + xs.length) w cur h3
        refine OwnI.ins (Nat.le_refl _) hgb k1 (by rw [k2, hcur]) hroom hcm ?_ ?_ ?_
        · intro j hj
          rw [World.cell?_setCells_out _ _ _ _ _ (fun _ _ => by show j < 0 + xs.length ∨ _; omega)]
          exact OwnI.cell ho hj
        · have := World.cell?_setCells_in g [.int .i64 Y] (0 + xs.length) w (fun j hj => hcap _ (by simp at hj; omega)) 0 (by simp)
          simpa using this
        · intro j hj; omega
      · refine (ins_end_grow (some ⟨g, 0, none⟩) xs.length c vb 0 1 1 (i64s xs) [.int .i64 Y] w (by omega) hnc (by omega) (by omega) hlen rfl (fun h => by simp at h) (fun a ha j v hj => by
          simp only [Option.some.injEq] at ha
          subst ha
          have := hcs j v hj
          rw [Addr.add_lit]; exact this) hvc h1v).mono ?_
        rintro e w' ⟨rfl, rfl⟩
        have hG := grownCap_ge w (xs.length + 1) c 2
        have hG2 := grownCap_le_maxLen w (xs.length + 1) c 2 (by unfold maxLen; omega)
        refine ⟨_, rfl, growI _ _ hG2 hG _ (fun j hj => ?_) ?_ rfl⟩
        · rw [Array.getElem?_append_left (by simp [hlen]; omega)]; simp
        · simp [Builtin.zeroCells, Value.cells, hlen]; omega
    · have hil : i < xs.length := by omega
      by_cases hroom : xs.length + 1 ≤ c
      · have hsa : ∃ kA, w.shape? vb = some (2, kA) := by
          rcases hv.2 with ⟨h1, _⟩ | ⟨g', cap, cur', h1, _, h3', _⟩
          · simp at h1
          · simp only [Value.slice.injEq, Option.some.injEq, Addr.mk.injEq] at h1
            obtain ⟨⟨rfl, _, _⟩, _, _⟩ := h1
            exact ⟨cur'.size, by unfold World.shape?; simp only [h3']⟩
        obtain ⟨kA, hsa⟩ := hsa
        have hsb : w.shape? g = some (2, c) := by unfold World.shape?; simp only [h3, hcur]
        refine (ins_shift g 0 xs.length c i vb 0 1 1 (i64s xs) [.int .i64 Y] w hil (by omega) hroom hcm2 hne hlen rfl hcs (fun j hj => hcap _ (by omega)) (fun j hj => hfz _) hvc hone h1v _ _ kA c hsa hsb (by omega) (hv.free 0) (hv.free kA)).mono ?_
        rintro e w' ⟨rfl, rfl⟩
        refine ⟨_, rfl, ?_, bel_setCells g hgb _ _ _ (bel_setCells g hgb _ _ _ (Below.refl _ _).drew)⟩
        obtain ⟨cur1, k1, k2⟩ := heap_setCells g 2 ((i64s xs).drop i) (0 + (i + 1)) w.drew cur h3
        obtain ⟨cur2, k3, k4⟩ := heap_setCells g 2 [.int .i64 Y] (0 + i) _ cur1 k1
        have hd : ((i64s xs).drop i).length = xs.length - i := by rw [List.length_drop, hlen]
        have hin1 : ∀ j (hj : j < xs.length - i), ((w.drew.setCells g (0 + (i + 1)) ((i64s xs).drop i)).cell? ⟨g, 0 + (i + 1) + j, none⟩) = some (.int .i64 (xs[i + j]'(by omega))) := by
          intro j hj
          rw [World.cell?_setCells_in g _ _ w.drew (fun t ht => hcap _ (by rw [hd] at ht; omega)) j (by omega)]
          rw [List.getElem_drop]
          simp [i64s]
        have hso : ∀ k, k < c → ((w.drew.setCells g (0 + (i + 1)) ((i64s xs).drop i)).cell? ⟨g, k, none⟩).isSome = true := fun k hk => isSome_setCells g _ _ w.drew (fun t ht => hcap _ (by rw [hd] at ht; omega)) k (hcap k hk)
        refine OwnI.ins (Nat.le_of_lt hil) hgb k3 (by rw [k4, k2, hcur]) hroom hcm ?_ ?_ ?_
        · intro j hj
          rw [World.cell?_setCells_out _ _ _ _ _ (fun _ _ => by show j < 0 + i ∨ _; omega), World.cell?_setCells_out _ _ _ _ _ (fun _ _ => by show j < 0 + (i + 1) ∨ _; omega)]
          exact OwnI.cell ho (by omega)
        · have := World.cell?_setCells_in g [.int .i64 Y] (0 + i) _ (fun j hj => hso (0 + i + j) (by simp at hj; omega)) 0 (by simp)
          simpa using this
        · intro j hj
          rw [World.cell?_setCells_out _ _ _ _ _ (fun _ _ => by show i + 1 + j < 0 + i ∨ 0 + i + 1 ≤ i + 1 + j; omega)]
          have := hin1 j hj
          rw [Nat.zero_add] at this
          rw [Nat.zero_add]
          exact this
      · refine (ins_grow g 0 xs.length c i vb 0 1 1 (i64s xs) [.int .i64 Y] w hil (by omega) hnc (by omega) (by omega) hlen rfl hcs hvc hone h1v).mono ?_
        rintro e w' ⟨rfl, rfl⟩
        have hG := grownCap_ge w (xs.length + 1) c 2
        have hG2 := grownCap_le_maxLen w (xs.length + 1) c 2 (by unfold maxLen; omega)
        obtain ⟨G, hGe⟩ : ∃ G, G = grownCap w (xs.length + 1) c 2 := ⟨_, rfl⟩
        rw [← hGe] at hG hG2 ⊢
        obtain ⟨ROW, hROW⟩ : ∃ ROW : Array Value, ROW = ((i64s xs).take i).toArray ++ Builtin.zeroCells (Value.int .i64 0).cells (xs.length + 1 - i) ++ Builtin.zeroCells (Value.int .i64 0).cells (G - (xs.length + 1)) := ⟨_, rfl⟩
        have hRs : ROW.size = G := by
          rw [hROW]
          simp [Builtin.zeroCells, Value.cells, hlen]
          omega
        have hR1 : ∀ j (hj : j < i), ROW[j]? = some (.int .i64 (xs[j]'(by omega))) := by
          intro j hj
          rw [hROW, Array.getElem?_append_left (by simp [Builtin.zeroCells, Value.cells, hlen]; omega), Array.getElem?_append_left (by simp [hlen]; omega)]
          simp only [List.getElem?_toArray]
          rw [List.getElem?_take_of_lt hj, i64s_get (by omega)]
        rw [← hROW]
        have hd : ((i64s xs).drop i).length = xs.length - i := by rw [List.length_drop, hlen]
        obtain ⟨W1, hW1⟩ : ∃ W1, W1 = w.alloc (.cells ROW 2) := ⟨_, rfl⟩
        have hh : W1.heap[w.heap.size]? = some (.cells ROW 2) := by rw [hW1]; exact heap_new w _
        have hc0 : ∀ j, W1.cell? ⟨w.heap.size, j, none⟩ = ROW[j]? := fun j => by rw [hW1]; exact World.cell?_alloc_at ROW _ w.heap.size j rfl
        have hB1 : Below base w W1 := by rw [hW1]; exact (Below.refl _ _).alloc hbase _
        rw [← hW1]
        obtain ⟨cur1, k1, k2⟩ := heap_setCells w.heap.size 2 [.int .i64 Y] i W1.drew ROW hh
        obtain ⟨W2, hW2⟩ : ∃ W2, W2 = W1.drew.setCells w.heap.size i [.int .i64 Y] := ⟨_, rfl⟩
        have hB2 : Below base w W2 := by rw [hW2]; exact bel_setCells _ hbase _ _ _ hB1.drew
        have hs1 : ∀ k, k < G → (W1.drew.cell? ⟨w.heap.size, k, none⟩).isSome = true := fun k hk => by
          show (W1.cell? ⟨w.heap.size, k, none⟩).isSome = true
          rw [hc0, Array.getElem?_eq_getElem (by omega)]; rfl
        have hs2 : ∀ k, k < G → (W2.cell? ⟨w.heap.size, k, none⟩).isSome = true := fun k hk => by
          rw [hW2]; exact isSome_setCells _ _ _ _ (fun t ht => hs1 _ (by simp at ht; omega)) k (hs1 k hk)
        have hY : W2.cell? ⟨w.heap.size, i, none⟩ = some (.int .i64 Y) := by
          rw [hW2]
          have := World.cell?_setCells_in w.heap.size [.int .i64 Y] i W1.drew (fun t ht => hs1 _ (by simp at ht; omega)) 0 (by simp)
          simpa using this
        have hlo : ∀ j (hj : j < i), W2.cell? ⟨w.heap.size, j, none⟩ = some (.int .i64 (xs[j]'(by omega))) := fun j hj => by
          rw [hW2, World.cell?_setCells_out _ _ _ _ _ (fun _ _ => by show j < i ∨ _; omega)]
          show W1.cell? _ = _
          rw [hc0, hR1 j hj]
        rw [← hW2] at k1
        rw [← hW2]
        obtain ⟨cur2, k3, k4⟩ := heap_setCells w.heap.size 2 ((i64s xs).drop i) (i + 1) W2.drew cur1 k1
        refine ⟨_, rfl, OwnI.ins (Nat.le_of_lt hil) hbase k3 (by rw [k4, k2, hRs]) hG hG2 ?_ ?_ ?_, bel_setCells _ hbase _ _ _ hB2.drew⟩
        · intro j hj
          rw [World.cell?_setCells_out _ _ _ _ _ (fun _ _ => by show j < i + 1 ∨ _; omega)]
          exact hlo j hj
        · rw [World.cell?_setCells_out _ _ _ _ _ (fun _ _ => by show i < i + 1 ∨ _; omega)]
          exact hY
        · intro j hj
          rw [World.cell?_setCells_in w.heap.size _ (i + 1) W2.drew (fun t ht => hs2 _ (by rw [hd] at ht; omega)) j (by omega)]
          rw [List.getElem_drop]
          simp [i64s]

set_option maxHeartbeats 4000000 in
set_option maxRecDepth 100000 in
theorem Grow_nil_any (n : Nat) (w : World) (hn : n ≤ 1000) :
    Calls Try.prog 75 #[.slice none 0 0, .int .i64 n] w fun e w' => ∃ r, e = .returned r ∧ OwnI w' w.heap.size r [] ∧ Below w.heap.size w w' := by
  obtain ⟨i0, hi0, hz0, hzs, hzb⟩ := info_parts info2
  by_cases h0 : n = 0
  · subst h0
    go_enter Try.func75, Try.ntmps75
    go_wp2
    go_ret
    exact ⟨_, rfl, OwnI.nil _ _, Below.refl _ _⟩
  · have h1 : ¬ ((n : Int) < 0) := by omega
    have h4 : (n : Int) > 0 := by omega
    have h5 : (0 : Int) < (n : Int) := by omega
    have h3 : wrap64 (n : Int) = (n : Int) := by unfold wrap64; omega
    have hold : (Builtin.firstCells i0.size 0 (.slice none 0 0)).run Try.prog w.drew = .ok ([] : List Value).toArray w.drew := run_firstCells_none w.drew i0.size 0 0 0
    have hrz : ∀ ty, (Builtin.append_ #[42, 3] ty #[.slice none 0 0, .int .i64 (n : Int)]).run Try.prog w =
        .ok (.slice (some ⟨w.heap.size, 0, none⟩) (0 + n) (grownCap w (0 + n) 0 2)) (w.drew.alloc (.cells (([] : List Value).toArray ++ Builtin.zeroCells (Value.int .i64 0).cells n ++ Builtin.zeroCells (Value.int .i64 0).cells (grownCap w (0 + n) 0 2 - (0 + n))) 2)) := fun ty =>
      Lib.run_append_grow_zeros w 42 3 ty 2 i0 _ .i64 .i64 Try.underlying42 Try.underlying3 hi0 hz0 none 0 0 [] hold n (by omega) (by omega) (by omega) (by omega) (by rw [hzb]; omega) (by rw [hzb]; exact growslice_fits (by omega) (by omega))
    have hG := grownCap_ge w (0 + n) 0 2
    have hG2 := grownCap_le_maxLen w (0 + n) 0 2 (by unfold maxLen; omega)
    obtain ⟨G, hGe⟩ : ∃ G, G = grownCap w (0 + n) 0 2 := ⟨_, rfl⟩
    rw [← hGe] at hrz hG hG2
    obtain ⟨C, hC⟩ : ∃ C : Array Value, C = ([] : List Value).toArray ++ Builtin.zeroCells (Value.int .i64 0).cells n ++ Builtin.zeroCells (Value.int .i64 0).cells (G - (0 + n)) := ⟨_, rfl⟩
    have hCs : C.size = G := by
      rw [hC]; simp [Builtin.zeroCells, Value.cells]; omega
    rw [← hC] at hrz
    have O := Lib.hid (OwnI.of_cells (w := w.drew.alloc (.cells C 2)) (base := w.heap.size) (g := w.heap.size) (xs := []) (Nat.le_refl _) (heap_new w.drew _) hCs (by simp) hG2 (fun j hj => by simp at hj))
    have B := Lib.hid ((Below.refl w.heap.size w).drew.alloc (Nat.le_refl _) (.cells C 2))
    have hG63 : G ≤ 9223372036854775807 := by unfold maxLen at hG2; omega
    clear hC hGe hold
    go_enter Try.func75, Try.ntmps75
    go_wp2_with (at_builtin; refine Lib.wpList_append_run _ rfl _ _ _ _ rfl _ _ rfl rfl _ _ (hrz _) ?_)
    go_ret
    exact ⟨_, rfl, O.out, B.out⟩

theorem flatten_succ {xss : List (List Int)} {k : Nat} (h : k < xss.length) : (xss.take (k + 1)).flatten = (xss.take k).flatten ++ xss[k] := by
  rw [List.take_succ_eq_append_getElem h, List.flatten_append]; simp
theorem flatten_le {xss : List (List Int)} {k : Nat} : (xss.take k).flatten.length ≤ xss.flatten.length := by
  have : xss.flatten = (xss.take k).flatten ++ (xss.drop k).flatten := by rw [← List.flatten_append, List.take_append_drop]
  rw [this, List.length_append]; omega
set_option maxHeartbeats 4000000 in
set_option maxRecDepth 100000 in
theorem Concat_any {v : Value} {xss : List (List Int)} (w : World) (ha : SlII w v xss) (hl : xss.flatten.length ≤ 1000) (hx : xss.length ≤ 1000) :
    Calls Try.prog 48 #[v] w fun e w' => ∃ r, e = .returned r ∧ OwnI w' w.heap.size r xss.flatten ∧ Below w.heap.size w w' := by
  have HA := Lib.hid (fun W (h : Below w.heap.size w W) => ha.below h)
  obtain ⟨a, ca, us, rfl, _, _, _⟩ := ha
  obtain ⟨XL, hXL⟩ : ∃ XL, XL = xss.length := ⟨_, rfl⟩
  have HXL := Lib.hid hXL
  rw [← hXL] at HA ⊢
  have hX1 : XL ≤ 1000 := by omega
  clear hXL
  go_enter Try.func48, Try.ntmps48
  go_wp2
  go_loopw [3, 11] (fun sv iv wr => ∃ k : Nat, k ≤ XL ∧ iv = .int .i64 k ∧ sv = .int .i64 ((xss.take k).flatten.length : Nat) ∧ wr = w) (fun _ i _ => XL - (intOf i).toNat)
  case atStart => exact ⟨0, Nat.zero_le _, rfl, rfl, rfl⟩
  case round =>
    obtain ⟨k, hk, rfl, rfl, rfl⟩ := hrel
    by_cases hlt : k < XL
    · have hkx : k < xss.length := by rw [← HXL.out]; exact hlt
      obtain ⟨b, off, ra, rc, rfl, hb, gc, sc⟩ := (HA.out wr (Below.refl _ _)).nthJ hkx
      have HS := Lib.hid (flatten_succ hkx)
      have HL1 := flatten_le (xss := xss) (k := k)
      have HL2 := flatten_le (xss := xss) (k := k + 1)
      rw [HS.out, List.length_append] at HL2
      have HSL := Lib.hid (show (xss.take (k + 1)).flatten.length = (xss.take k).flatten.length + xss[k].length from by rw [HS.out, List.length_append])
      generalize (xss.take k).flatten.length = A at HL1 HL2 HSL
      generalize xss[k].length = C at gc HL2 HSL
      have r1 : IntKind.i64.wrap ((A : Int) + (C : Int)) = (A : Int) + (C : Int) := IntWalk.i64_in _ (by omega)
      have r2 : ¬ ((A : Int) + (C : Int) < 0) := by omega
      have i1 : (k : Int) < (XL : Int) := by omega
      have i0 : (0 : Int) ≤ (k : Int) := by omega
      clear sc
      go_wp2
      go_roundw
      case rel => exact ⟨k + 1, by omega, by go_num, by rw [HSL.out]; go_num, trivial⟩
      case measure => simp [intOf]; omega
    · obtain rfl : k = XL := by omega
      have HT := Lib.hid (show xss.take k = xss from by rw [HXL.out]; exact List.take_length)
      rw [HT.out]
      have hln := hl
      have HFL := Lib.hid (fun q => flatten_le (xss := xss) (k := q))
      generalize hFL : xss.flatten.length = FL at hln ⊢
      have HF := Lib.hid hFL
      clear hFL hl
      go_wp2_with fail
      refine (Grow_nil_any FL wr hln).mono ?_
      rintro e w1 ⟨r1, rfl, o1, b1⟩
      have O1 := Lib.hid o1
      have B1 := Lib.hid b1
      clear o1 b1
      go_wp2
      go_loopw [6, 27] (fun rv iv wi => ∃ q : Nat, q ≤ k ∧ iv = .int .i64 q ∧ OwnI wi wr.heap.size rv (xss.take q).flatten ∧ Below wr.heap.size wr wi) (fun _ i _ => k - (intOf i).toNat)
      case atStart => exact ⟨0, Nat.zero_le _, rfl, by simpa using O1.out, B1.out⟩
      case round =>
        clear O1 B1
        obtain ⟨q, hq, rfl, hown, hbw⟩ := hrel
        by_cases hlt : q < k
        · have hkx : q < xss.length := by rw [← HXL.out]; exact hlt
          obtain ⟨b, off, ra, rc, rfl, hb, gc, sc⟩ := (HA.out _ hbw).nthJ hkx
          have HS := Lib.hid (flatten_succ hkx)
          have HL2 := HFL.out (q + 1)
          rw [HS.out, List.length_append, HF.out] at HL2
          have hln2 : (xss.take q).flatten.length + xss[q].length ≤ 16777216 := by omega
          have i1 : (q : Int) < (k : Int) := by omega
          have i0 : (0 : Int) ≤ (q : Int) := by omega
          have HO := Lib.hid hown
          have HB := Lib.hid hbw
          have hz := hbw.size
          generalize xss[q] = ys at gc sc HS hln2
          generalize (xss.take q).flatten = A at HS HO hln2
          have SC := Lib.hid sc
          clear hown hbw sc HL2 hkx
          go_wp2_with (at_builtin; refine append_SlI _ _ _ rfl rfl rfl HO.out rfl SC.out hln2 hz ?_)
          intro v7 w7 o7 g7 b7
          rw [← HS.out] at o7
          have O7 := Lib.hid o7
          have B7 := Lib.hid (HB.out.trans b7)
          clear g7 b7 o7
          go_wp2
          go_roundw
          case rel => exact ⟨q + 1, by omega, by go_num, O7.out, B7.out⟩
          case measure => simp [intOf]; omega
        · obtain rfl : q = k := by omega
          rw [HT.out] at hown
          have HO := Lib.hid hown
          have HB := Lib.hid hbw
          clear hown hbw
          go_wp2
          go_ret
          exact ⟨_, rfl, HO.out, HB.out⟩
end Go.Proofs.Ytjbjkfahfjoigaa
