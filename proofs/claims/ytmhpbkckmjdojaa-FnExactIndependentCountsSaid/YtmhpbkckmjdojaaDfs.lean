/-
  Decks by search in depth: the program's decks, DeckAt and DeckNumber.
-/
import Derived.Test.YtmhpbkckmjdojaaRising
import Derived.Test.YtmhpbkckmjdojaaStepLaw
namespace Go.Proofs.Ytmhpbkckmjdojaa
open Go.RowKit Go.Sort
theorem ixFrom_mem : ∀ (l : List Int) (x : Int) (k : Nat), 0 ≤ ixFrom l x k ↔ x ∈ l
  | [], x, k => by simp [ixFrom]
  | y :: r, x, k => by
    unfold ixFrom
    by_cases h : x = y
    · rw [if_pos h]; simp [h]
    · rw [if_neg h, ixFrom_mem r x (k + 1)]; simp [h]
set_option maxHeartbeats 400000 in
theorem Contains_any {u : Value} {xs : List Int} (x : Int) (w : World) (ha : SlI w u xs) :
    Calls Try.prog 64 #[u, .int .i64 x] w fun e w' => e = .returned (.bool (decide (x ∈ xs))) ∧ w = w' := by
  obtain ⟨a, c, rfl, _⟩ := id ha
  have hm := Lib.hid (ixFrom_mem xs x 0)
  have hb := ixFrom_bd xs x 0
  generalize hq : ixFrom xs x 0 = q at hb
  have HQ := Lib.hid hq
  clear hq
  go_enter Try.func64, Try.ntmps64
  go_wp2_with fail
  refine (Index_any x _ ha).mono ?_
  rintro e w2 ⟨rfl, rfl⟩
  rw [HQ.out]
  go_wp2
  go_ret
  exact ⟨rb (by have := hm.out; rw [HQ.out] at this; rw [decide_eq_decide]; exact this), rfl⟩
set_option maxHeartbeats 400000 in
theorem Clone_any {u : Value} {xs : List Int} (w : World) (ha : SlI w u xs) (hl : xs.length ≤ 1048576) :
    Calls Try.prog 51 #[u] w fun e w' => ∃ v, e = .returned v ∧ OwnI w' w.heap.size v xs ∧ Below w.heap.size w w' := by
  obtain ⟨a, c, rfl, hc, hc', hr⟩ := ha
  cases a with
  | none =>
    have h0 : xs = [] := by
      cases xs with
      | nil => rfl
      | cons y ys =>
        obtain ⟨b, off, h1, _⟩ := hr.all (k := 0) (by simp [i64s])
        simp at h1
    subst h0
    have hn := @Lib.run_eql_slice_nil
    go_enter Try.func51, Try.ntmps51
    go_wp2
    go_ret
    exact ⟨_, rfl, OwnI.nil _ _, Below.refl _ _⟩
  | some ad =>
    have hr2 := hr.below ((Below.refl w.heap.size w).alloc (Nat.le_refl _) (.cells #[] 2))
    have hn := @Lib.run_eql_slice_nil
    have own0 := OwnI.empty w (base := w.heap.size) (Nat.le_refl _)
    go_enter Try.func51, Try.ntmps51
    go_wp2_with (at_builtin; refine append_SlI _ _ _ rfl rfl rfl own0 rfl ⟨_, _, rfl, hc, hc', hr2⟩ (by simp; omega) (by simp) ?_)
    intro v' w' o1 g1 b1
    go_wp2
    go_ret
    exact ⟨_, rfl, o1, ((Below.refl _ _).alloc (Nat.le_refl _) _).trans b1⟩
/-- the search in depth: f cards still to come -/
def dfsL (c : Nat) : Nat → List Int → List (List Int)
  | 0, l => [l]
  | f + 1, l => ((extD.upTo' c).filter (fun x => !decide (x ∈ l))).flatMap fun x => dfsL c f (l ++ [x])
def dfsN (c f : Nat) (l : List Int) (x : Nat) : List (List Int) := ((extD.upTo' x).filter (fun x => !decide (x ∈ l))).flatMap fun x => dfsL c f (l ++ [x])
theorem dfsN_no {c f x : Nat} {l : List Int} (h : (x : Int) ∈ l) : dfsN c f l (x + 1) = dfsN c f l x := by
  simp [dfsN, extD.upTo', List.range_succ, List.filter_append, h]
theorem dfsN_yes {c f x : Nat} {l : List Int} (h : ¬ (x : Int) ∈ l) : dfsN c f l (x + 1) = dfsN c f l x ++ dfsL c f (l ++ [(x : Int)]) := by
  simp [dfsN, extD.upTo', List.range_succ, List.filter_append, h]
theorem dfsL_decks (c : Nat) (h1 : 1 ≤ c) (h3 : c ≤ 3) : dfsL c c [] = decksL c c := by
  have h : ∀ c, c ≤ 3 → 1 ≤ c → dfsL c c [] = decksL c c := by decide
  exact h c h3 h1
def isE (E : Nat) (w : World) (k : Nat) : Prop := ∃ cs fz, w.heap[k]? = some (.cells cs E fz)
theorem isE_same {E : Nat} {w w' : World} {k : Nat} (h : w'.heap[k]? = w.heap[k]?) : isE E w' k ↔ isE E w k := by unfold isE; rw [h]
theorem isE_set {E : Nat} {w : World} {a : Addr} {u : Value} {k : Nat} (h : isE E (w.setCell a u) k) : isE E w k := by
  by_cases hk : k = a.block
  · subst hk
    obtain ⟨cs, fz, h⟩ := h
    simp only [World.setCell, Array.getElem?_modify, if_true] at h
    cases hh : w.heap[a.block]? with
    | none => rw [hh] at h; simp at h
    | some o =>
      rw [hh] at h
      cases o with
      | cells c e f => simp at h; exact ⟨c, f, by rw [hh, h.2.1]⟩
      | _ => simp at h
  · obtain ⟨cs, fz, h⟩ := h
    rw [heap_setCell_other w a k u hk] at h
    exact ⟨cs, fz, h⟩
theorem own_isE {w : World} {b e size n k : Nat} {v : Value} {xs : List Value} (h : w.ownsRow b e size v n xs) (hk : v.ownBlock = some k) : isE e w k := by
  rcases h.2 with ⟨rfl, _⟩ | ⟨g, c, cur, rfl, _, h3, _⟩
  · simp [Value.ownBlock] at hk
  · simp [Value.ownBlock] at hk
    subst hk
    exact ⟨_, _, h3⟩
/-- all stays but block bo, and from base on blocks of elements of type E -/
structure Fe (base bo E : Nat) (w w' : World) : Prop where
  os : w'.os = w.os
  tape : w'.tape = w.tape
  output : w'.output = w.output
  size : w.heap.size ≤ w'.heap.size
  block : ∀ k, k < w.heap.size → k ≠ bo → (k < base ∨ ¬ isE E w k) → w'.heap[k]? = w.heap[k]?
theorem Fe.refl (base bo E : Nat) (w : World) : Fe base bo E w w := ⟨rfl, rfl, rfl, Nat.le_refl _, fun _ _ _ _ => rfl⟩
theorem Fe.trans {base bo E : Nat} {a b c : World} (h : Fe base bo E a b) (k : Fe base bo E b c) : Fe base bo E a c :=
  ⟨k.os.trans h.os, k.tape.trans h.tape, k.output.trans h.output, Nat.le_trans h.size k.size, fun i hi hx hy => by
    have h1 := h.block i hi hx hy
    rw [k.block i (Nat.lt_of_lt_of_le hi h.size) hx (hy.imp id fun hn ⟨cs, fz, he⟩ => hn ⟨cs, fz, by rw [← h1]; exact he⟩), h1]⟩
theorem Fe.of_below {base bo E : Nat} {w w' : World} (h : Below w.heap.size w w') : Fe base bo E w w' := ⟨h.os, h.tape, h.output, h.size, fun k hk _ _ => h.block k hk⟩
theorem Fe.of_grown {base bo E size n : Nat} {w w' : World} {v : Value} {xs : List Value} (h : w.ownsRow base E size v n xs) (hg : w.grownBy w' v.ownBlock) : Fe base bo E w w' :=
  ⟨hg.os, hg.tape, hg.output, hg.size, fun k hk _ hy => hg.block k hk (fun e => by
    rcases h.2 with ⟨rfl, _⟩ | ⟨g, c, cur, rfl, h2, h3, _⟩
    · simp [Value.ownBlock] at e
    · simp [Value.ownBlock] at e
      subst e
      rcases hy with hy | hy
      · omega
      · exact hy ⟨_, _, h3⟩)⟩
theorem Fe.set {base bo E : Nat} {w w' : World} (h : Fe base bo E w w') {a : Addr} (ha : a.block = bo) (u : Value) : Fe base bo E w (w'.setCell a u) :=
  ⟨h.os, h.tape, h.output, by simpa using h.size, fun k hk hx hy => by
    rw [heap_setCell_other w' a k u (fun e => hx (by rw [e]; exact ha))]; exact h.block k hk hx hy⟩
theorem Fe.below {base bo E B : Nat} {w w' : World} (h : Fe base bo E w w') (h1 : B ≤ base) (h2 : B ≤ bo) (h3 : B ≤ w.heap.size) : Below B w w' :=
  ⟨h.os, h.tape, h.output, h.size, fun k hk => h.block k (by omega) (by omega) (.inl (by omega))⟩
theorem ownsRow_fe {base bo E : Nat} {w w' : World} {b e size n : Nat} {v : Value} {xs : List Value} (h : w.ownsRow b e size v n xs) (hf : Fe base bo E w w') (he : e ≠ E) (hb : ¬ isE e w bo) : w'.ownsRow b e size v n xs := by
  refine ⟨h.1, ?_⟩
  rcases h.2 with h2 | ⟨g, cap, cur, h1, h2, h3, h4⟩
  · exact .inl h2
  · refine .inr ⟨g, cap, cur, h1, h2, ?_, h4⟩
    rw [hf.block g (Array.getElem?_eq_some_iff.1 h3).1 (fun e => by subst e; exact hb ⟨_, _, h3⟩) (.inr fun ⟨cs, fz, hh⟩ => by rw [h3] at hh; simp at hh; exact he hh.2.1)]; exact h3
theorem ownsRow_set_ne {w : World} {b e size n : Nat} {v : Value} {xs : List Value} (h : w.ownsRow b e size v n xs) {a : Addr} (ha : ¬ isE e w a.block) (u : Value) : (w.setCell a u).ownsRow b e size v n xs := by
  refine ⟨h.1, ?_⟩
  rcases h.2 with h2 | ⟨g, cap, cur, h1, h2, h3, h4⟩
  · exact .inl h2
  · refine .inr ⟨g, cap, cur, h1, h2, ?_, h4⟩
    rw [heap_setCell_other w a g u (fun e => ha (by rw [← e]; exact ⟨_, _, h3⟩))]; exact h3
theorem OwnII.set_ne {w : World} {base : Nat} {v : Value} {xss : List (List Int)} (h : OwnII w base v xss) {a : Addr} (h1 : ¬ isE 25 w a.block) (h2 : ¬ isE 2 w a.block) (u : Value) : OwnII (w.setCell a u) base v xss := by
  obtain ⟨vs, k1, k2⟩ := h
  exact ⟨vs, ownsRow_set_ne k1 h1 u, k2.1, fun i x xs hx hy => ownsRow_set_ne (k2.2.1 i x xs hx hy) h2 u, k2.2.2⟩
theorem OwnII.form {w : World} {base : Nat} {v : Value} {xss : List (List Int)} (h : OwnII w base v xss) : ∃ a n c, v = .slice a n c ∧ Hid (n = xss.length) := by
  obtain ⟨a, c, vs, rfl, _⟩ := h.sl
  exact ⟨a, _, c, rfl, rfl⟩
theorem OwnI.form {w : World} {base : Nat} {v : Value} {xs : List Int} (h : OwnI w base v xs) : ∃ a n c, v = .slice a n c ∧ Hid (n = xs.length) := by
  obtain ⟨a, c, rfl, _⟩ := h.sl
  exact ⟨a, _, c, rfl, rfl⟩
theorem dfsN_mono (c f : Nat) (l : List Int) : ∀ x y, x ≤ y → (dfsN c f l x).length ≤ (dfsN c f l y).length := by
  intro x y h
  induction h with
  | refl => exact Nat.le_refl _
  | step _ ih =>
    rename_i m _
    by_cases hm : (m : Int) ∈ l
    · rw [dfsN_no hm]; exact ih
    · rw [dfsN_yes hm, List.length_append]; omega
/-- a clone as a step; w0: an elder world in which the slice reads so -/
theorem step_clone {ops : Array Oper} {o : Oper} {a : Act} {K : Act → World → Prop} {Q : Exit → Act → World → Prop} {E : Prop} {w w0 : World} (hg : o.guard = none) {u : Value} {xs : List Int}
    (hrun : (execOp a.eval o).run Try.prog w = .ok (.enter 51 #[u]) w) (hbw : Below w0.heap.size w0 w) (hu : SlI w0 u xs) (hl : xs.length ≤ 1048576)
    (h : ∀ v w', OwnI w' w0.heap.size v xs → Below w0.heap.size w0 w' → Below w.heap.size w w' → w.heap.size ≤ w'.heap.size → K (a.put o.dst v) w') : if Region.wanted o (yielded ops a.tmps) = true then Oper.wp Try.prog o a w K Q else E :=
  step_calls hg hrun (Clone_any w (hu.below hbw) hl) (fun e w' ⟨v, h1, h2, h3⟩ => ⟨v, h1, h v w' (h2.lower hbw.size) (hbw.trans (h3.mono hbw.size)) h3 h3.size⟩)
theorem step_appI {ops : Array Oper} {o : Oper} {a : Act} {K : Act → World → Prop} {Q : Exit → Act → World → Prop} {E : Prop} {w w0 w1 : World} (hg : o.guard = none) (s x : Operand)
    (ho : o.op = .call { callee := .builtin .append, args := #[s, x], argTypes := #[25, 25] })
    {g : Nat} {v : Value} {xs : List Int} {y : Int} (hs : a.eval s = v) (hown : OwnI w1 w0.heap.size v xs) (h01 : Below w0.heap.size w0 w1) (h1w : Below w1.heap.size w1 w) (hx : a.eval x = .slice (some ⟨g, 0, none⟩) 1 1) (hc : w.cell? ⟨g, 0, none⟩ = some (.int .i64 y)) (hlen : xs.length < 16777216)
    (h : ∀ v' w', OwnI w' w0.heap.size v' (xs ++ [y]) → Below w0.heap.size w0 w' → K (a.put o.dst v') w') : if Region.wanted o (yielded ops a.tmps) = true then Oper.wp Try.prog o a w K Q else E := by
  have h0w := h01.trans (h1w.mono h01.size)
  have hown' := hown.below h1w
  exact stepAppI w s x hg ho hs hown' hx hc hlen h0w.size (fun v' w' k1 k2 => h v' w' k1 (h0w.trans (hown'.grown k2 h0w.size)))
end Go.Proofs.Ytmhpbkckmjdojaa
