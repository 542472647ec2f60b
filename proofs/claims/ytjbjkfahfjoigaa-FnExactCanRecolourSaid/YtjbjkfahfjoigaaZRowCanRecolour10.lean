/-
  IsIndependent, both sides. With it: Decks by search in depth: the program's decks, DeckAt and DeckNumber.
-/
import Derived.Test.YtjbjkfahfjoigaaZRowCanRecolour5
import Derived.Test.YtjbjkfahfjoigaaZRowCanRecolour9
set_option linter.unusedVariables false
set_option linter.unusedSimpArgs false
namespace Go.Proofs.Ytjbjkfahfjoigaa
open Go.RowKit Go.Sort
theorem ixFrom_mem : ∀ (l : List Int) (x : Int) (k : Nat), 0 ≤ ixFrom l x k ↔ x ∈ l
  | [], x, k => by simp [ixFrom]
  | y :: r, x, k => by
    unfold ixFrom
    by_cases h : x = y
    · rw [if_pos h]; simp [h]
    · rw [if_neg h, ixFrom_mem r x (k + 1)]; simp [h]
set_option maxHeartbeats 400000 in
theorem Contains_any {u : Value} {xs : List Int} (x : Int) (w : World) (ha : SlI w u xs) :
    Calls Try.prog 44 #[u, .int .i64 x] w fun e w' => e = .returned (.bool (decide (x ∈ xs))) ∧ w = w' := by
  obtain ⟨a, c, rfl, _⟩ := id ha
  have hm := Lib.hid (ixFrom_mem xs x 0)
  have hb := ixFrom_bd xs x 0
  generalize hq : ixFrom xs x 0 = q at hb
  have HQ := Lib.hid hq
  clear hq
  go_enter Try.func44, Try.ntmps44
  go_wp2_with fail
  refine (Index_any x _ ha).mono ?_
  rintro e w2 ⟨rfl, rfl⟩
  rw [HQ.out]
  go_wp2
  go_ret
  exact ⟨rb (by have := hm.out; rw [HQ.out] at this; rw [decide_eq_decide]; exact this), rfl⟩
set_option maxHeartbeats 400000 in
theorem Clone_any {u : Value} {xs : List Int} (w : World) (ha : SlI w u xs) (hl : xs.length ≤ 1048576) :
    Calls Try.prog 45 #[u] w fun e w' => ∃ v, e = .returned v ∧ OwnI w' w.heap.size v xs ∧ Below w.heap.size w w' := by
  obtain ⟨a, c, rfl, hc, hc', hr⟩ := ha
  cases a with
  | none =>
    have h0 : xs = [] := by
      cases xs with
      | nil => rfl
      | cons y ys =>
        obtain ⟨b, off, h1, _⟩ := hr.all (k := 0) (by simp [i64s])
        simp at h1
    subst h0
    have hn := @Lib.run_eql_slice_nil
    go_enter Try.func45, Try.ntmps45
    go_wp2
    go_ret
    exact ⟨_, rfl, OwnI.nil _ _, Below.refl _ _⟩
  | some ad =>
    have hr2 := hr.below ((Below.refl w.heap.size w).alloc (Nat.le_refl _) (.cells #[] 2))
    have hn := @Lib.run_eql_slice_nil
    have own0 := OwnI.empty w (base := w.heap.size) (Nat.le_refl _)
    go_enter Try.func45, Try.ntmps45
    go_wp2_with (at_builtin; refine append_SlI _ _ _ rfl rfl rfl own0 rfl ⟨_, _, rfl, hc, hc', hr2⟩ (by simp; omega) (by simp) ?_)
    intro v' w' o1 g1 b1
    go_wp2
    go_ret
    exact ⟨_, rfl, o1, ((Below.refl _ _).alloc (Nat.le_refl _) _).trans b1⟩
/-- the search in depth: f cards still to come -/
def dfsL (c : Nat) : Nat → List Int → List (List Int)
  | 0, l => [l]
  | f + 1, l => ((extD.upTo' c).filter (fun x => !decide (x ∈ l))).flatMap fun x => dfsL c f (l ++ [x])
def dfsN (c f : Nat) (l : List Int) (x : Nat) : List (List Int) := ((extD.upTo' x).filter (fun x => !decide (x ∈ l))).flatMap fun x => dfsL c f (l ++ [x])
theorem dfsN_no {c f x : Nat} {l : List Int} (h : (x : Int) ∈ l) : dfsN c f l (x + 1) = dfsN c f l x := by
  simp [dfsN, extD.upTo', List.range_succ, List.filter_append, h]
theorem dfsN_yes {c f x : Nat} {l : List Int} (h : ¬ (x : Int) ∈ l) : dfsN c f l (x + 1) = dfsN c f l x ++ dfsL c f (l ++ [(x : Int)]) := by
  simp [dfsN, extD.upTo', List.range_succ, List.filter_append, h]
theorem dfsL_decks (c : Nat) (h1 : 1 ≤ c) (h3 : c ≤ 3) : dfsL c c [] = decksL c c := by
  have h : ∀ c, c ≤ 3 → 1 ≤ c → dfsL c c [] = decksL c c := by decide
  exact h c h3 h1
def isE (E : Nat) (w : World) (k : Nat) : Prop := ∃ cs fz, w.heap[k]? = some (.cells cs E fz)
theorem isE_same {E : Nat} {w w' : World} {k : Nat} (h : w'.heap[k]? = w.heap[k]?) : isE E w' k ↔ isE E w k := by unfold isE; rw [h]
theorem isE_set {E : Nat} {w : World} {a : Addr} {u : Value} {k : Nat} (h : isE E (w.setCell a u) k) : isE E w k := by
  by_cases hk : k = a.block
  · subst hk
    obtain ⟨cs, fz, h⟩ := h
    simp only [World.setCell, Array.getElem?_modify, if_true] at h
    cases hh : w.heap[a.block]? with
    | none => rw [hh] at h; simp at h
    | some o =>
      rw [hh] at h
      cases o with
      | cells c e f => simp at h; exact ⟨c, f, by rw [hh, h.2.1]⟩
      | _ => simp at h
  · obtain ⟨cs, fz, h⟩ := h
    rw [heap_setCell_other w a k u hk] at h
    exact ⟨cs, fz, h⟩
theorem own_isE {w : World} {b e size n k : Nat} {v : Value} {xs : List Value} (h : w.ownsRow b e size v n xs) (hk : v.ownBlock = some k) : isE e w k := by
  rcases h.2 with ⟨rfl, _⟩ | ⟨g, c, cur, rfl, _, h3, _⟩
  · simp [Value.ownBlock] at hk
  · simp [Value.ownBlock] at hk
    subst hk
    exact ⟨_, _, h3⟩
/-- the three boxes of the search -/
structure DfsBox (w : World) (bc bo bf c : Nat) (v : Value) : Prop where
  c0 : w.cell? ⟨bc, 0, none⟩ = some (.int .i64 c)
  o0 : w.cell? ⟨bo, 0, none⟩ = some v
  fo : w.frozen? ⟨bo, 0, none⟩ = false
  f0 : w.cell? ⟨bf, 0, none⟩ = some (.func (.func 43) #[] #[.pointer (some ⟨bc, 0, none⟩), .pointer (some ⟨bo, 0, none⟩), .pointer (some ⟨bf, 0, none⟩)])
  nc : ¬ isE 42 w bc
  nf : ¬ isE 42 w bf
  no : ¬ isE 42 w bo
  no2 : ¬ isE 2 w bo
theorem DfsBox.blk {w w' : World} {bc bo bf c : Nat} {v : Value} (h : DfsBox w bc bo bf c v) (h1 : w'.heap[bc]? = w.heap[bc]?) (h2 : w'.heap[bo]? = w.heap[bo]?) (h3 : w'.heap[bf]? = w.heap[bf]?) : DfsBox w' bc bo bf c v :=
  ⟨by rw [World.cell?_of_block h1]; exact h.c0, by rw [World.cell?_of_block h2]; exact h.o0, by have := h.fo; simpa [World.frozen?, h2] using this, by rw [World.cell?_of_block h3]; exact h.f0,
    by rw [isE_same h1]; exact h.nc, by rw [isE_same h3]; exact h.nf, by rw [isE_same h2]; exact h.no, by rw [isE_same h2]; exact h.no2⟩
theorem DfsBox.below {w w' : World} {bc bo bf c : Nat} {v : Value} (h : DfsBox w bc bo bf c v) (hb : Below w.heap.size w w') : DfsBox w' bc bo bf c v := h.blk (hb.block _ (cell_lt h.c0)) (hb.block _ (cell_lt h.o0)) (hb.block _ (cell_lt h.f0))
theorem DfsBox.set {w : World} {bc bo bf c : Nat} {v : Value} (h : DfsBox w bc bo bf c v) (h1 : bc ≠ bo) (h2 : bf ≠ bo) (u : Value) : DfsBox (w.setCell ⟨bo, 0, none⟩ u) bc bo bf c u := by
  refine ⟨?_, ?_, ?_, ?_, fun he => h.nc (isE_set he), fun he => h.nf (isE_set he), fun he => h.no (isE_set he), fun he => h.no2 (isE_set he)⟩
  · rw [World.cell?_of_block (heap_setCell_other w ⟨bo, 0, none⟩ bc u h1)]; exact h.c0
  · simp [go_sem, h.o0]
  · simpa using h.fo
  · rw [World.cell?_of_block (heap_setCell_other w ⟨bo, 0, none⟩ bf u h2)]; exact h.f0
/-- all stays but block bo, and from base on blocks of elements of type E -/
structure Fe (base bo E : Nat) (w w' : World) : Prop where
  os : w'.os = w.os
  tape : w'.tape = w.tape
  output : w'.output = w.output
  size : w.heap.size ≤ w'.heap.size
  block : ∀ k, k < w.heap.size → k ≠ bo → (k < base ∨ ¬ isE E w k) → w'.heap[k]? = w.heap[k]?
theorem Fe.refl (base bo E : Nat) (w : World) : Fe base bo E w w := ⟨rfl, rfl, rfl, Nat.le_refl _, fun _ _ _ _ => rfl⟩
theorem Fe.trans {base bo E : Nat} {a b c : World} (h : Fe base bo E a b) (k : Fe base bo E b c) : Fe base bo E a c :=
  ⟨k.os.trans h.os, k.tape.trans h.tape, k.output.trans h.output, Nat.le_trans h.size k.size, fun i hi hx hy => by
    have h1 := h.block i hi hx hy
    rw [k.block i (Nat.lt_of_lt_of_le hi h.size) hx (hy.imp id fun hn ⟨cs, fz, he⟩ => hn ⟨cs, fz, by rw [← h1]; exact he⟩), h1]⟩
theorem Fe.of_below {base bo E : Nat} {w w' : World} (h : Below w.heap.size w w') : Fe base bo E w w' := ⟨h.os, h.tape, h.output, h.size, fun k hk _ _ => h.block k hk⟩
theorem Fe.of_grown {base bo E size n : Nat} {w w' : World} {v : Value} {xs : List Value} (h : w.ownsRow base E size v n xs) (hg : w.grownBy w' v.ownBlock) : Fe base bo E w w' :=
  ⟨hg.os, hg.tape, hg.output, hg.size, fun k hk _ hy => hg.block k hk (fun e => by
    rcases h.2 with ⟨rfl, _⟩ | ⟨g, c, cur, rfl, h2, h3, _⟩
    · simp [Value.ownBlock] at e
    · simp [Value.ownBlock] at e
      subst e
      rcases hy with hy | hy
      · omega
      · exact hy ⟨_, _, h3⟩)⟩
theorem Fe.set {base bo E : Nat} {w w' : World} (h : Fe base bo E w w') {a : Addr} (ha : a.block = bo) (u : Value) : Fe base bo E w (w'.setCell a u) :=
  ⟨h.os, h.tape, h.output, by simpa using h.size, fun k hk hx hy => by
    rw [heap_setCell_other w' a k u (fun e => hx (by rw [e]; exact ha))]; exact h.block k hk hx hy⟩
theorem Fe.below {base bo E B : Nat} {w w' : World} (h : Fe base bo E w w') (h1 : B ≤ base) (h2 : B ≤ bo) (h3 : B ≤ w.heap.size) : Below B w w' :=
  ⟨h.os, h.tape, h.output, h.size, fun k hk => h.block k (by omega) (by omega) (.inl (by omega))⟩
theorem ownsRow_fe {base bo E : Nat} {w w' : World} {b e size n : Nat} {v : Value} {xs : List Value} (h : w.ownsRow b e size v n xs) (hf : Fe base bo E w w') (he : e ≠ E) (hb : ¬ isE e w bo) : w'.ownsRow b e size v n xs := by
  refine ⟨h.1, ?_⟩
  rcases h.2 with h2 | ⟨g, cap, cur, h1, h2, h3, h4⟩
  · exact .inl h2
  · refine .inr ⟨g, cap, cur, h1, h2, ?_, h4⟩
    rw [hf.block g (Array.getElem?_eq_some_iff.1 h3).1 (fun e => by subst e; exact hb ⟨_, _, h3⟩) (.inr fun ⟨cs, fz, hh⟩ => by rw [h3] at hh; simp at hh; exact he hh.2.1)]; exact h3
theorem ownsRow_set_ne {w : World} {b e size n : Nat} {v : Value} {xs : List Value} (h : w.ownsRow b e size v n xs) {a : Addr} (ha : ¬ isE e w a.block) (u : Value) : (w.setCell a u).ownsRow b e size v n xs := by
  refine ⟨h.1, ?_⟩
  rcases h.2 with h2 | ⟨g, cap, cur, h1, h2, h3, h4⟩
  · exact .inl h2
  · refine .inr ⟨g, cap, cur, h1, h2, ?_, h4⟩
    rw [heap_setCell_other w a g u (fun e => ha (by rw [← e]; exact ⟨_, _, h3⟩))]; exact h3
theorem OwnII.set_ne {w : World} {base : Nat} {v : Value} {xss : List (List Int)} (h : OwnII w base v xss) {a : Addr} (h1 : ¬ isE 42 w a.block) (h2 : ¬ isE 2 w a.block) (u : Value) : OwnII (w.setCell a u) base v xss := by
  obtain ⟨vs, k1, k2⟩ := h
  exact ⟨vs, ownsRow_set_ne k1 h1 u, k2.1, fun i x xs hx hy => ownsRow_set_ne (k2.2.1 i x xs hx hy) h2 u, k2.2.2⟩
theorem OwnII.form {w : World} {base : Nat} {v : Value} {xss : List (List Int)} (h : OwnII w base v xss) : ∃ a n c, v = .slice a n c ∧ Hid (n = xss.length) := by
  obtain ⟨a, c, vs, rfl, _⟩ := h.sl
  exact ⟨a, _, c, rfl, rfl⟩
theorem OwnI.form {w : World} {base : Nat} {v : Value} {xs : List Int} (h : OwnI w base v xs) : ∃ a n c, v = .slice a n c ∧ Hid (n = xs.length) := by
  obtain ⟨a, c, rfl, _⟩ := h.sl
  exact ⟨a, _, c, rfl, rfl⟩
/-- what a search leaves: the list has grown by ys -/
def DfsP (w : World) (base bc bo bf c : Nat) (xss ys : List (List Int)) (e : Ending) (w' : World) : Prop :=
  ∃ v', e = .returned (.tuple #[]) ∧ DfsBox w' bc bo bf c v' ∧ OwnII w' base v' (xss ++ ys) ∧ Fe base bo 42 w w'
set_option maxHeartbeats 1000000 in
theorem dfs_leaf {u v : Value} {xss : List (List Int)} {l : List Int} (base bc bo bf c B : Nat) (w : World) (hbx : DfsBox w bc bo bf c v) (hne : bc ≠ bo) (hnf : bf ≠ bo)
    (hown : OwnIIB w base B v xss) (hu : OwnI w base u l) (hB : ∀ g, u.ownBlock = some g → B ≤ g) (hl : l.length = c) (hs : xss.length ≤ 1000) (hbase : base ≤ w.heap.size) (hcs : c ≤ 1000) :
    Calls Try.prog 43 #[u, .pointer (some ⟨bc, 0, none⟩), .pointer (some ⟨bo, 0, none⟩), .pointer (some ⟨bf, 0, none⟩)] w (DfsP w base bc bo bf c xss [l]) := by
  obtain ⟨ua, uc, rfl, _⟩ := id hu.sl
  obtain ⟨c0, o0, fo, f0, _, _, _, _⟩ := id hbx
  have hlt := hown.lt
  obtain ⟨va, vc, vvs, rfl, _⟩ := id hown.ii.sl
  have bx : Below w.heap.size w (w.alloc (.cells #[.slice ua l.length uc] 42)) := (Below.refl _ _).alloc (Nat.le_refl _) _
  have HO := Lib.hid (hown.below bx)
  have HU := Lib.hid (hu.below bx)
  have HBX := Lib.hid hbx
  have HB := Lib.hid hB
  have HL := Lib.hid hl
  have HLT := Lib.hid hlt
  have zo : bo < w.heap.size := cell_lt o0
  have ht : ((l.length : Int) == (c : Int)) = true := by rw [HL.out]; simp
  clear hbx hown hu hB hl hlt
  go_enter Try.func43, Try.ntmps43
  go_wp2_with (at_builtin; refine listAppRow _ _ _ rfl rfl rfl HO.out HU.out HB.out rfl (by simp [go_sem]) (by omega) (by simp; omega) ?_)
  intro v' w1 o1 g1
  have n1 : ∀ k, ¬ isE 42 w k → k < w.heap.size → w1.heap[k]? = w.heap[k]? := fun k hk hl => by
    rw [g1.block k (by simp; omega) (fun h => by
      obtain ⟨vs, h1, _⟩ := HO.out
      exact hk ((isE_same (bx.block k hl)).1 (own_isE h1 h.symm))), bx.block k hl]
  have x1 := HBX.out.blk (n1 _ HBX.out.nc (cell_lt c0)) (n1 _ HBX.out.no zo) (n1 _ HBX.out.nf (cell_lt f0))
  obtain ⟨d0, p0, po, q0, _, _, _, _⟩ := id x1
  obtain ⟨va', n', vc', rfl, _⟩ := o1.form
  have e1 : Fe base bo 42 w w1 := (Fe.of_below bx).trans (by obtain ⟨vs, h1, _⟩ := HO.out; exact Fe.of_grown h1 g1)
  have HX1 := Lib.hid x1
  have E1 := Lib.hid e1
  have O1 := Lib.hid o1
  clear x1 o1 g1 n1 c0 o0 fo f0 e1
  go_wp2
  exact bodyPost_ret (v := .tuple #[]) (by simp [results, Try.results43, go_sem]) rfl ⟨_, rfl, HX1.out.set hne hnf _, O1.out.set_ne (a := ⟨bo, 0, none⟩) HX1.out.no HX1.out.no2 _, E1.out.set rfl _⟩
theorem dfsN_mono (c f : Nat) (l : List Int) : ∀ x y, x ≤ y → (dfsN c f l x).length ≤ (dfsN c f l y).length := by
  intro x y h
  induction h with
  | refl => exact Nat.le_refl _
  | step _ ih =>
    rename_i m _
    by_cases hm : (m : Int) ∈ l
    · rw [dfsN_no hm]; exact ih
    · rw [dfsN_yes hm, List.length_append]; omega
/-- a clone as a step; w0: an elder world in which the slice reads so -/
theorem step_clone {ops : Array Oper} {o : Oper} {a : Act} {K : Act → World → Prop} {Q : Exit → Act → World → Prop} {E : Prop} {w w0 : World} (hg : o.guard = none) {u : Value} {xs : List Int}
    (hrun : (execOp a.eval o).run Try.prog w = .ok (.enter 45 #[u]) w) (hbw : Below w0.heap.size w0 w) (hu : SlI w0 u xs) (hl : xs.length ≤ 1048576)
    (h : ∀ v w', OwnI w' w0.heap.size v xs → Below w0.heap.size w0 w' → Below w.heap.size w w' → w.heap.size ≤ w'.heap.size → K (a.put o.dst v) w') : if Region.wanted o (yielded ops a.tmps) = true then Oper.wp Try.prog o a w K Q else E :=
  step_calls hg hrun (Clone_any w (hu.below hbw) hl) (fun e w' ⟨v, h1, h2, h3⟩ => ⟨v, h1, h v w' (h2.lower hbw.size) (hbw.trans (h3.mono hbw.size)) h3 h3.size⟩)
theorem step_appI {ops : Array Oper} {o : Oper} {a : Act} {K : Act → World → Prop} {Q : Exit → Act → World → Prop} {E : Prop} {w w0 w1 : World} (hg : o.guard = none) (s x : Operand)
    (ho : o.op = .call { callee := .builtin .append, args := #[s, x], argTypes := #[42, 42] })
    {g : Nat} {v : Value} {xs : List Int} {y : Int} (hs : a.eval s = v) (hown : OwnI w1 w0.heap.size v xs) (h01 : Below w0.heap.size w0 w1) (h1w : Below w1.heap.size w1 w) (hx : a.eval x = .slice (some ⟨g, 0, none⟩) 1 1) (hc : w.cell? ⟨g, 0, none⟩ = some (.int .i64 y)) (hlen : xs.length < 16777216)
    (h : ∀ v' w', OwnI w' w0.heap.size v' (xs ++ [y]) → Below w0.heap.size w0 w' → K (a.put o.dst v') w') : if Region.wanted o (yielded ops a.tmps) = true then Oper.wp Try.prog o a w K Q else E := by
  have h0w := h01.trans (h1w.mono h01.size)
  have hown' := hown.below h1w
  exact stepAppI w s x hg ho hs hown' hx hc hlen h0w.size (fun v' w' k1 k2 => h v' w' k1 (h0w.trans (hown'.grown k2 h0w.size)))
set_option maxRecDepth 100000 in
set_option maxHeartbeats 4000000 in
theorem dfs_any (base bc bo bf c : Nat) (hne : bc ≠ bo) (hnf : bf ≠ bo) (hcs : c ≤ 1000) : ∀ (f : Nat) (l : List Int) (u v : Value) (xss : List (List Int)) (B : Nat) (w : World),
    Hid (l.length + f = c) → DfsBox w bc bo bf c v → OwnIIB w base B v xss → OwnI w base u l → Hid (∀ g, u.ownBlock = some g → B ≤ g) → xss.length + (dfsL c f l).length ≤ 1000 → base ≤ w.heap.size →
    Calls Try.prog 43 #[u, .pointer (some ⟨bc, 0, none⟩), .pointer (some ⟨bo, 0, none⟩), .pointer (some ⟨bf, 0, none⟩)] w (DfsP w base bc bo bf c xss (dfsL c f l)) := by
  intro f
  induction f with
  | zero =>
    intro l u v xss B w hl hbx hown hu hB hs hbase
    exact dfs_leaf base bc bo bf c B w hbx hne hnf hown hu hB.out hl.out (by omega) hbase hcs
  | succ f ih =>
    intro l u v xss B w hl hbx hown hu hB hs hbase
    obtain ⟨c0, o0, fo, f0, _, _, _, _⟩ := id hbx
    obtain ⟨ua, n, uc, rfl, hn⟩ := hu.form
    have hlc : l.length < c := by have := hl.out; omega
    have hncs : n < c := by rw [hn.out]; exact hlc
    have ht : ((n : Int) == (c : Int)) = false := by
      simp; omega
    have hmo := Lib.hid (dfsN_mono c f l)
    have hfull : dfsL c (f + 1) l = dfsN c f l c := rfl
    have HF := Lib.hid hfull
    rw [hfull] at hs ⊢
    have HU := Lib.hid hu
    have HOW := Lib.hid hown
    have HBX := Lib.hid hbx
    have HNN := Lib.hid hncs
    clear hu hown hbx hfull hncs hlc
    go_enter Try.func43, Try.ntmps43
    go_wp2
    go_loopw [15] (fun i wr => ∃ (x : Nat) (v' : Value), x ≤ c ∧ i = .int .i64 x ∧ DfsBox wr bc bo bf c v' ∧ OwnII wr base v' (xss ++ dfsN c f l x) ∧ Fe base bo 42 w wr) (fun i _ => c - (intOf i).toNat)
    case atStart => exact ⟨0, v, Nat.zero_le _, rfl, HBX.out, by simpa [dfsN, extD.upTo'] using HOW.out.ii, Fe.refl _ _ _ _⟩
    case round =>
      clear c0 o0 fo f0
      obtain ⟨x, v', hx, rfl, hbx, hown, hfe⟩ := hrel
      have hur : OwnI wr base (.slice ua n uc) l := ownsRow_fe HU.out hfe (by decide) HBX.out.no2
      by_cases hlt : x < c
      · by_cases hm : (x : Int) ∈ l
        · have hdm : decide ((x : Int) ∈ l) = true := by simpa using hm
          have HDM := Lib.hid hdm
          have HM := Lib.hid hm
          clear hm hdm
          go_wp2_with (go_at_call 44; refine (Contains_any _ _ hur.sl).mono ?_; rintro e w' ⟨rfl, rfl⟩; rw [HDM.out])
          go_roundw
          case rel => exact ⟨x + 1, v', by omega, by go_num, hbx, by rw [dfsN_no HM.out]; exact hown, hfe⟩
          case measure => simp [intOf]; omega
        · have hdm : decide ((x : Int) ∈ l) = false := by simpa using hm
          have HDM := Lib.hid hdm
          have hle := hmo.out (x + 1) c (by omega)
          rw [dfsN_yes hm, List.length_append] at hle
          have HM := Lib.hid hm
          obtain ⟨q0, q1, q2, q3, _, _, _, _⟩ := id hbx
          have zbf := cell_lt q3
          have HBX1 := Lib.hid hbx
          have HOW1 := Lib.hid hown.b
          have HUR := Lib.hid hur.sl
          have HFE := Lib.hid hfe
          clear hm hdm hbx hown hfe
          go_wp2_with (go_at_call 44; refine (Contains_any _ _ hur.sl).mono ?_; rintro e w' ⟨rfl, rfl⟩; rw [HDM.out])
          go_region_law? (first
            | (refine step_appI (w0 := wr) (w1 := w1) rfl (.tmp 24) (.tmp 26) rfl (y := (x : Int)) rfl oc1 bw1 (by (repeat (first | exact Below.refl _ _ | refine Below.drew ?_ | refine Below.alloc ?_ (by simp) _))) rfl (by first | (simp [go_sem]; done) | exact qx | fail) (by have := hl.out; omega) ?_; intro cv2 w2 oc2 bw2; have q5 := bw2.cell (p := ⟨bf, 0, none⟩) zbf; rw [q3] at q5; have zb2 : bf < w2.heap.size := Nat.lt_of_lt_of_le zbf bw2.size)
            | (go_simp; go_at_call 45; refine (Clone_any _ (HUR.out.below (by (repeat (first | exact Below.refl _ _ | refine Below.drew ?_ | refine Below.alloc ?_ (by simp) _)))) (by have := hl.out; omega)).mono ?_; rintro e w1 ⟨cv, rfl, oc, b1⟩; have bw1 := below_of (a := wr) (by (repeat (first | exact Below.refl _ _ | refine Below.drew ?_ | refine Below.alloc ?_ (by simp) _))) b1; have oc1 := oc.lower (base' := wr.heap.size) (by simp); have q4 := bw1.cell (p := ⟨bf, 0, none⟩) zbf; rw [q3] at q4; have zb1 : bf < w1.heap.size := Nat.lt_of_lt_of_le zbf bw1.size; try (have qx := b1.cell (p := ⟨wr.heap.size, 0, none⟩) (by first | (simp; done) | fail); simp [go_sem] at qx))
            | (go_simp; go_at_call 43; refine (ih (l ++ [(x : Int)]) _ _ (xss ++ dfsN c f l x) wr.heap.size _ (Lib.hid (by have := hl.out; rw [List.length_append]; simp; omega)) (HBX1.out.below bw2) (HOW1.out.below bw2) (oc2.lower (Nat.le_trans hbase HFE.out.size)) (Lib.hid fun g hg => (oc2.lt g hg).1) (by rw [List.length_append]; omega) (Nat.le_trans hbase (Nat.le_trans HFE.out.size bw2.size))).mono ?_; rintro e w3 ⟨v3, rfl, x3, o3, f3⟩))
          all_goals
            have HX3 := Lib.hid x3
            have HO3 := Lib.hid o3
            have HF3 := Lib.hid ((HFE.out.trans (Fe.of_below bw2)).trans f3)
            obtain ⟨r0, _, _, _, _, _, _, _⟩ := id x3
            clear x3 o3 f3
            go_wp2
            go_roundw
            case rel => exact ⟨x + 1, v3, by omega, by go_num, HX3.out, by rw [dfsN_yes HM.out, ← List.append_assoc]; exact HO3.out, HF3.out⟩
            case measure => simp [intOf]; omega
      · obtain rfl : x = c := by omega
        go_wp2
        refine bodyPost_end (v := .tuple #[]) (by simp [results, Try.results43, go_sem]) rfl ?_
        exact ⟨v', rfl, hbx, hown, hfe⟩
end Go.Proofs.Ytjbjkfahfjoigaa
namespace Go.Proofs.Ytjbjkfahfjoigaa
open Go.RowKit Go.Sort
def nearE (a b : Int) (e : List Int) : Bool := (decide (e.getD 0 0 = a) && decide (e.getD 1 0 = b)) || (decide (e.getD 0 0 = b) && decide (e.getD 1 0 = a))
def nearB (es : List (List Int)) (a b : Int) : Bool := es.any (nearE a b)
def apartI (es : List (List Int)) (s : List Int) (i k : Nat) : Bool := (List.range k).all fun j => !nearB es (s.getD i 0) (s.getD j 0)
def apartN (es : List (List Int)) (s : List Int) (k : Nat) : Bool := (List.range k).all fun i => apartI es s i i
def bothE (s : List Int) (e : List Int) : Bool := decide (e.getD 0 0 ∈ s) && decide (e.getD 1 0 ∈ s)
def indepB (es : List (List Int)) (s : List Int) : Bool := !(es.any (bothE s))
theorem indep_law {m : Nat} {es : List (List Int)} {s : List Int} (hE : EdgesB m es) : apartN es s s.length = indepB es s := by
  rw [Bool.eq_iff_iff]
  unfold apartN apartI indepB
  simp only [List.all_eq_true, List.mem_range, Bool.not_eq_true', List.any_eq_false]
  constructor
  · intro h e he hb
    obtain ⟨a, b, rfl, hab, _⟩ := hE e he
    simp only [bothE, List.getD_cons_zero, List.getD_cons_succ, Bool.and_eq_true, decide_eq_true_eq] at hb
    obtain ⟨i, hi, h1⟩ := List.getElem_of_mem hb.1
    obtain ⟨j, hj, h2⟩ := List.getElem_of_mem hb.2
    rcases Nat.lt_trichotomy i j with hij | hij | hij
    · have := h j hj i hij
      rw [getD_at hj, getD_at hi] at this
      unfold nearB at this
      rw [List.any_eq_false] at this
      have := this _ he
      simp [nearE, h1, h2] at this
    · subst hij
      rw [h1] at h2
      omega
    · have := h i hi j hij
      rw [getD_at hj, getD_at hi] at this
      unfold nearB at this
      rw [List.any_eq_false] at this
      have := this _ he
      simp [nearE, h1, h2] at this
  · intro h i hi j hij
    unfold nearB
    rw [List.any_eq_false]
    intro e he hn
    have hj : j < s.length := by omega
    rw [getD_at hi, getD_at hj] at hn
    have h2 := h e he
    unfold bothE at h2
    have m1 := List.getElem_mem hi
    have m2 := List.getElem_mem hj
    unfold nearE at hn
    simp only [Bool.or_eq_true, Bool.and_eq_true, decide_eq_true_eq] at hn
    rcases hn with ⟨e1, e2⟩ | ⟨e1, e2⟩
    · rw [e1, e2] at h2; simp [m1, m2] at h2
    · rw [e1, e2] at h2; simp [m1, m2] at h2
theorem nearE_two (a b : Int) (p q : Nat) : nearE a b [(p : Int), (q : Int)] = ((decide ((p : Int) = a) && decide ((q : Int) = b)) || (decide ((p : Int) = b) && decide ((q : Int) = a))) := rfl
set_option maxRecDepth 100000 in
set_option maxHeartbeats 4000000 in
theorem l08Near_any {v : Value} {es : List (List Int)} (b o m : Nat) (n x y : Int) (w : World) (hc : GraphAt w b o n v) (ha : SlII w v es) (hE : EdgesB m es) :
    Calls Try.prog 78 #[.pointer (some ⟨b, o, none⟩), .int .i64 x, .int .i64 y] w fun e w' => e = .returned (.bool (nearB es x y)) ∧ Below w.heap.size w w' := by
  obtain ⟨a, ca, us, rfl, hca, hca', hul, hrd, hrow⟩ := ha
  have HG := Lib.hid (fun W (h : Below w.heap.size w W) => And.intro (hrd.below h) (fun i hi u hu => (hrow i hi u hu).below h))
  have HC := Lib.hid (fun W (h : Below w.heap.size w W) => hc.below h)
  have HU := Lib.hid hul
  have HE := Lib.hid hE
  obtain ⟨_, c0, c1⟩ := hc
  unfold maxLen at hca'
  clear hul hrd hrow hE
  go_enter Try.func78, Try.ntmps78
  go_wp2
  clear c0 c1
  go_loopw [7, 8] (fun i _ wr => ∃ k : Nat, k ≤ es.length ∧ i = .int .i64 k ∧ Hid ((es.take k).any (nearE x y) = false) ∧ Below w.heap.size w wr) (fun i _ _ => es.length - (intOf i).toNat)
  case atStart => exact ⟨0, Nat.zero_le _, rfl, rfl, Below.refl _ _⟩
  case round =>
    obtain ⟨k, hk, rfl, hok, hbr⟩ := hrel
    obtain ⟨_, c0, c1⟩ := HC.out _ hbr
    by_cases hlt : k < es.length
    · obtain ⟨z, bb, off, rfl, gc, sx⟩ := SlII.row HU.out (HG.out _ hbr).1 (HG.out _ hbr).2 hlt
      have i1 : (k : Int) < (es.length : Int) := by omega
      obtain ⟨p, q, he, hpq, hqm⟩ := HE.out _ (List.getElem_mem hlt)
      rw [he] at sx
      have hne : nearE x y es[k] = ((decide ((p : Int) = x) && decide ((q : Int) = y)) || (decide ((p : Int) = y) && decide ((q : Int) = x))) := by rw [he]; exact nearE_two x y p q
      obtain ⟨ua, uc, rfl, _, _, ur⟩ := sx
      obtain ⟨eb, eo, rfl, g0⟩ := ur.one (i64s_get (j := 0) (by simp))
      obtain ⟨eb', eo', he', g1⟩ := ur.one (i64s_get (j := 1) (by simp))
      simp only [Option.some.injEq, Addr.mk.injEq] at he'
      obtain ⟨rfl, rfl, _⟩ := he'
      simp only [Nat.add_zero, List.getElem_cons_zero, List.getElem_cons_succ] at g0 g1
      have HN := Lib.hid hne
      obtain ⟨P, hP⟩ : ∃ P : Int, P = (p : Int) := ⟨_, rfl⟩
      obtain ⟨Q, hQ⟩ : ∃ Q : Int, Q = (q : Int) := ⟨_, rfl⟩
      rw [← hP] at g0
      rw [← hQ] at g1
      have hne2 : nearE x y es[k] = ((decide (P = x) && decide (Q = y)) || (decide (P = y) && decide (Q = x))) := by rw [hP, hQ]; exact HN.out
      have HN2 := Lib.hid hne2
      have j1 : (1 : Int) < ((([(p : Int), (q : Int)] : List Int).length : Nat) : Int) := by simp
      have j0 : (0 : Int) < ((([(p : Int), (q : Int)] : List Int).length : Nat) : Int) := by simp
      obtain ⟨d1, hd1⟩ : ∃ d, d = decide (P = x) := ⟨_, rfl⟩
      obtain ⟨d2, hd2⟩ : ∃ d, d = decide (Q = y) := ⟨_, rfl⟩
      obtain ⟨d3, hd3⟩ : ∃ d, d = decide (P = y) := ⟨_, rfl⟩
      obtain ⟨d4, hd4⟩ : ∃ d, d = decide (Q = x) := ⟨_, rfl⟩
      have t1 : (P == x) = d1 := by rw [hd1]; rfl
      have t2 : (Q == y) = d2 := by rw [hd2]; rfl
      have t3 : (P == y) = d3 := by rw [hd3]; rfl
      have t4 : (Q == x) = d4 := by rw [hd4]; rfl
      have HN3 : Hid (nearE x y es[k] = ((d1 && d2) || (d3 && d4))) := by unfold Hid; rw [HN2.out, hd1, hd2, hd3, hd4]
      clear hP hQ hne hne2 he hpq hqm hd1 hd2 hd3 hd4
      cases d1 <;> cases d2 <;> cases d3 <;> cases d4
      all_goals
        go_wp2
        first
          | (go_ret
             exact ⟨rb (any_atL hlt HN3.out).symm, hbr⟩)
          | (go_roundw
             case rel => exact ⟨k + 1, by omega, by go_num, any_take_succL hok.out hlt HN3.out, hbr⟩
             case measure => simp [intOf]; omega)
    · obtain rfl : k = es.length := by omega
      go_wp2
      go_ret
      exact ⟨rb (by
        have := hok.out
        rw [List.take_length] at this
        unfold nearB; rw [this]), hbr⟩
theorem l08Near_q {v : Value} {es : List (List Int)} {x y : Int} {q : Bool} (h : nearB es x y = q) (b o m : Nat) (n : Int) (w : World) (hc : GraphAt w b o n v) (ha : SlII w v es) (hE : EdgesB m es) :
    Calls Try.prog 78 #[.pointer (some ⟨b, o, none⟩), .int .i64 x, .int .i64 y] w fun e w' => e = .returned (.bool q) ∧ Below w.heap.size w w' :=
  (l08Near_any b o m n x y w hc ha hE).mono fun e w' ⟨h1, h2⟩ => ⟨by rw [h1, h], h2⟩
theorem range_all_succ {p : Nat → Bool} {k : Nat} (h : (List.range k).all p = true) (hp : p k = true) : (List.range (k + 1)).all p = true := by
  rw [List.range_succ, List.all_append, h]; simp [hp]
theorem range_all_no {p : Nat → Bool} {i k : Nat} (hi : i < k) (hp : p i = false) : (List.range k).all p = false := by
  rw [List.all_eq_false]; exact ⟨i, by simpa using hi, by rw [hp]; simp⟩
theorem Contains_q {u : Value} {xs : List Int} {x : Int} {q : Bool} (h : decide (x ∈ xs) = q) (w : World) (ha : SlI w u xs) :
    Calls Try.prog 44 #[u, .int .i64 x] w fun e w' => e = .returned (.bool q) ∧ Below w.heap.size w w' :=
  (Contains_any x w ha).mono fun e w' ⟨h1, h2⟩ => ⟨by rw [h1, h], by rw [h2]; exact Below.refl _ _⟩
def isIndR (n : Int) (es : List (List Int)) (s : List Int) : Bool × Int :=
  let code := askedC n es 1 (riseN 0 (IntKind.i64.wrap (n - 1)) s s.length)
  if code = 0 then (indepB es s, 0) else (false, code)
end Go.Proofs.Ytjbjkfahfjoigaa
