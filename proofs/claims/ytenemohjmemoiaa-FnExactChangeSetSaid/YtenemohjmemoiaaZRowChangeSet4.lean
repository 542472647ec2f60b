/-
  The independent sets as bits of a number, and their counts by size: plain part. With it: Decks by search in depth: the program's decks, DeckAt and DeckNumber. IsIndependent, both sides. A search by (impl.Graph).free$1. One step by a draw: the reference's and the program's. The program's decks; DeckAt and DeckNumber, both sides. A search by impl.deckIndex$1. DeckAt and DeckNumber, both sides. Free colours of a node, both sides.
-/
import Derived.Test.YtenemohjmemoiaaZRowChangeSet3
import Derived.Test.YtenemohjmemoiaaZRowChangeSet1
import Derived.Laws.EntriesVeiled
import Derived.Test.YtenemohjmemoiaaZRowChangeSet2
set_option linter.unusedVariables false
set_option linter.unusedSimpArgs false
namespace Go.Proofs.Ytenemohjmemoiaa
open Go.RowKit Go.Sort
theorem ixFrom_mem : ∀ (l : List Int) (x : Int) (k : Nat), 0 ≤ ixFrom l x k ↔ x ∈ l
  | [], x, k => by simp [ixFrom]
  | y :: r, x, k => by
    unfold ixFrom
    by_cases h : x = y
    · rw [if_pos h]; simp [h]
    · rw [if_neg h, ixFrom_mem r x (k + 1)]; simp [h]
set_option maxHeartbeats 400000 in
theorem Contains_any {u : Value} {xs : List Int} (x : Int) (w : World) (ha : SlI w u xs) :
    Calls Try.prog 124 #[u, .int .i64 x] w fun e w' => e = .returned (.bool (decide (x ∈ xs))) ∧ w = w' := by
  obtain ⟨a, c, rfl, _⟩ := id ha
  have hm := Lib.hid (ixFrom_mem xs x 0)
  have hb := ixFrom_bd xs x 0
  generalize hq : ixFrom xs x 0 = q at hb
  have HQ := Lib.hid hq
  clear hq
  go_enter Try.func124, Try.ntmps124
  go_wp2_with fail
  refine (Index_any x _ ha).mono ?_
  rintro e w2 ⟨rfl, rfl⟩
  rw [HQ.out]
  go_wp2
  go_ret
  exact ⟨rb (by have := hm.out; rw [HQ.out] at this; rw [decide_eq_decide]; exact this), rfl⟩
set_option maxHeartbeats 400000 in
theorem Clone_any {u : Value} {xs : List Int} (w : World) (ha : SlI w u xs) (hl : xs.length ≤ 1048576) :
    Calls Try.prog 126 #[u] w fun e w' => ∃ v, e = .returned v ∧ OwnI w' w.heap.size v xs ∧ Below w.heap.size w w' := by
  obtain ⟨a, c, rfl, hc, hc', hr⟩ := ha
  cases a with
  | none =>
    have h0 : xs = [] := by
      cases xs with
      | nil => rfl
      | cons y ys =>
        obtain ⟨b, off, h1, _⟩ := hr.all (k := 0) (by simp [i64s])
        simp at h1
    subst h0
    have hn := @Lib.run_eql_slice_nil
    go_enter Try.func126, Try.ntmps126
    go_wp2
    go_ret
    exact ⟨_, rfl, OwnI.nil _ _, Below.refl _ _⟩
  | some ad =>
    have hr2 := hr.below ((Below.refl w.heap.size w).alloc (Nat.le_refl _) (.cells #[] 2))
    have hn := @Lib.run_eql_slice_nil
    have own0 := OwnI.empty w (base := w.heap.size) (Nat.le_refl _)
    go_enter Try.func126, Try.ntmps126
    go_wp2_with (at_builtin; refine append_SlI _ _ _ rfl rfl rfl own0 rfl ⟨_, _, rfl, hc, hc', hr2⟩ (by simp; omega) (by simp) ?_)
    intro v' w' o1 g1 b1
    go_wp2
    go_ret
    exact ⟨_, rfl, o1, ((Below.refl _ _).alloc (Nat.le_refl _) _).trans b1⟩
/-- the search in depth: f cards still to come -/
def dfsL (c : Nat) : Nat → List Int → List (List Int)
  | 0, l => [l]
  | f + 1, l => ((extD.upTo' c).filter (fun x => !decide (x ∈ l))).flatMap fun x => dfsL c f (l ++ [x])
def dfsN (c f : Nat) (l : List Int) (x : Nat) : List (List Int) := ((extD.upTo' x).filter (fun x => !decide (x ∈ l))).flatMap fun x => dfsL c f (l ++ [x])
theorem dfsN_no {c f x : Nat} {l : List Int} (h : (x : Int) ∈ l) : dfsN c f l (x + 1) = dfsN c f l x := by
  simp [dfsN, extD.upTo', List.range_succ, List.filter_append, h]
theorem dfsN_yes {c f x : Nat} {l : List Int} (h : ¬ (x : Int) ∈ l) : dfsN c f l (x + 1) = dfsN c f l x ++ dfsL c f (l ++ [(x : Int)]) := by
  simp [dfsN, extD.upTo', List.range_succ, List.filter_append, h]
theorem dfsL_decks (c : Nat) (h1 : 1 ≤ c) (h3 : c ≤ 3) : dfsL c c [] = decksL c c := by
  have h : ∀ c, c ≤ 3 → 1 ≤ c → dfsL c c [] = decksL c c := by decide
  exact h c h3 h1
def isE (E : Nat) (w : World) (k : Nat) : Prop := ∃ cs fz, w.heap[k]? = some (.cells cs E fz)
theorem isE_same {E : Nat} {w w' : World} {k : Nat} (h : w'.heap[k]? = w.heap[k]?) : isE E w' k ↔ isE E w k := by unfold isE; rw [h]
theorem isE_set {E : Nat} {w : World} {a : Addr} {u : Value} {k : Nat} (h : isE E (w.setCell a u) k) : isE E w k := by
  by_cases hk : k = a.block
  · subst hk
    obtain ⟨cs, fz, h⟩ := h
    simp only [World.setCell, Array.getElem?_modify, if_true] at h
    cases hh : w.heap[a.block]? with
    | none => rw [hh] at h; simp at h
    | some o =>
      rw [hh] at h
      cases o with
      | cells c e f => simp at h; exact ⟨c, f, by rw [hh, h.2.1]⟩
      | _ => simp at h
  · obtain ⟨cs, fz, h⟩ := h
    rw [heap_setCell_other w a k u hk] at h
    exact ⟨cs, fz, h⟩
theorem own_isE {w : World} {b e size n k : Nat} {v : Value} {xs : List Value} (h : w.ownsRow b e size v n xs) (hk : v.ownBlock = some k) : isE e w k := by
  rcases h.2 with ⟨rfl, _⟩ | ⟨g, c, cur, rfl, _, h3, _⟩
  · simp [Value.ownBlock] at hk
  · simp [Value.ownBlock] at hk
    subst hk
    exact ⟨_, _, h3⟩
/-- all stays but block bo, and from base on blocks of elements of type E -/
structure Fe (base bo E : Nat) (w w' : World) : Prop where
  os : w'.os = w.os
  tape : w'.tape = w.tape
  output : w'.output = w.output
  size : w.heap.size ≤ w'.heap.size
  block : ∀ k, k < w.heap.size → k ≠ bo → (k < base ∨ ¬ isE E w k) → w'.heap[k]? = w.heap[k]?
theorem Fe.refl (base bo E : Nat) (w : World) : Fe base bo E w w := ⟨rfl, rfl, rfl, Nat.le_refl _, fun _ _ _ _ => rfl⟩
theorem Fe.trans {base bo E : Nat} {a b c : World} (h : Fe base bo E a b) (k : Fe base bo E b c) : Fe base bo E a c :=
  ⟨k.os.trans h.os, k.tape.trans h.tape, k.output.trans h.output, Nat.le_trans h.size k.size, fun i hi hx hy => by
    have h1 := h.block i hi hx hy
    rw [k.block i (Nat.lt_of_lt_of_le hi h.size) hx (hy.imp id fun hn ⟨cs, fz, he⟩ => hn ⟨cs, fz, by rw [← h1]; exact he⟩), h1]⟩
theorem Fe.of_below {base bo E : Nat} {w w' : World} (h : Below w.heap.size w w') : Fe base bo E w w' := ⟨h.os, h.tape, h.output, h.size, fun k hk _ _ => h.block k hk⟩
theorem Fe.of_grown {base bo E size n : Nat} {w w' : World} {v : Value} {xs : List Value} (h : w.ownsRow base E size v n xs) (hg : w.grownBy w' v.ownBlock) : Fe base bo E w w' :=
  ⟨hg.os, hg.tape, hg.output, hg.size, fun k hk _ hy => hg.block k hk (fun e => by
    rcases h.2 with ⟨rfl, _⟩ | ⟨g, c, cur, rfl, h2, h3, _⟩
    · simp [Value.ownBlock] at e
    · simp [Value.ownBlock] at e
      subst e
      rcases hy with hy | hy
      · omega
      · exact hy ⟨_, _, h3⟩)⟩
theorem Fe.set {base bo E : Nat} {w w' : World} (h : Fe base bo E w w') {a : Addr} (ha : a.block = bo) (u : Value) : Fe base bo E w (w'.setCell a u) :=
  ⟨h.os, h.tape, h.output, by simpa using h.size, fun k hk hx hy => by
    rw [heap_setCell_other w' a k u (fun e => hx (by rw [e]; exact ha))]; exact h.block k hk hx hy⟩
theorem Fe.below {base bo E B : Nat} {w w' : World} (h : Fe base bo E w w') (h1 : B ≤ base) (h2 : B ≤ bo) (h3 : B ≤ w.heap.size) : Below B w w' :=
  ⟨h.os, h.tape, h.output, h.size, fun k hk => h.block k (by omega) (by omega) (.inl (by omega))⟩
theorem ownsRow_fe {base bo E : Nat} {w w' : World} {b e size n : Nat} {v : Value} {xs : List Value} (h : w.ownsRow b e size v n xs) (hf : Fe base bo E w w') (he : e ≠ E) (hb : ¬ isE e w bo) : w'.ownsRow b e size v n xs := by
  refine ⟨h.1, ?_⟩
  rcases h.2 with h2 | ⟨g, cap, cur, h1, h2, h3, h4⟩
  · exact .inl h2
  · refine .inr ⟨g, cap, cur, h1, h2, ?_, h4⟩
    rw [hf.block g (Array.getElem?_eq_some_iff.1 h3).1 (fun e => by subst e; exact hb ⟨_, _, h3⟩) (.inr fun ⟨cs, fz, hh⟩ => by rw [h3] at hh; simp at hh; exact he hh.2.1)]; exact h3
theorem ownsRow_set_ne {w : World} {b e size n : Nat} {v : Value} {xs : List Value} (h : w.ownsRow b e size v n xs) {a : Addr} (ha : ¬ isE e w a.block) (u : Value) : (w.setCell a u).ownsRow b e size v n xs := by
  refine ⟨h.1, ?_⟩
  rcases h.2 with h2 | ⟨g, cap, cur, h1, h2, h3, h4⟩
  · exact .inl h2
  · refine .inr ⟨g, cap, cur, h1, h2, ?_, h4⟩
    rw [heap_setCell_other w a g u (fun e => ha (by rw [← e]; exact ⟨_, _, h3⟩))]; exact h3
theorem OwnII.set_ne {w : World} {base : Nat} {v : Value} {xss : List (List Int)} (h : OwnII w base v xss) {a : Addr} (h1 : ¬ isE 31 w a.block) (h2 : ¬ isE 2 w a.block) (u : Value) : OwnII (w.setCell a u) base v xss := by
  obtain ⟨vs, k1, k2⟩ := h
  exact ⟨vs, ownsRow_set_ne k1 h1 u, k2.1, fun i x xs hx hy => ownsRow_set_ne (k2.2.1 i x xs hx hy) h2 u, k2.2.2⟩
theorem OwnII.form {w : World} {base : Nat} {v : Value} {xss : List (List Int)} (h : OwnII w base v xss) : ∃ a n c, v = .slice a n c ∧ Hid (n = xss.length) := by
  obtain ⟨a, c, vs, rfl, _⟩ := h.sl
  exact ⟨a, _, c, rfl, rfl⟩
theorem OwnI.form {w : World} {base : Nat} {v : Value} {xs : List Int} (h : OwnI w base v xs) : ∃ a n c, v = .slice a n c ∧ Hid (n = xs.length) := by
  obtain ⟨a, c, rfl, _⟩ := h.sl
  exact ⟨a, _, c, rfl, rfl⟩
theorem dfsN_mono (c f : Nat) (l : List Int) : ∀ x y, x ≤ y → (dfsN c f l x).length ≤ (dfsN c f l y).length := by
  intro x y h
  induction h with
  | refl => exact Nat.le_refl _
  | step _ ih =>
    rename_i m _
    by_cases hm : (m : Int) ∈ l
    · rw [dfsN_no hm]; exact ih
    · rw [dfsN_yes hm, List.length_append]; omega
/-- a clone as a step; w0: an elder world in which the slice reads so -/
theorem step_clone {ops : Array Oper} {o : Oper} {a : Act} {K : Act → World → Prop} {Q : Exit → Act → World → Prop} {E : Prop} {w w0 : World} (hg : o.guard = none) {u : Value} {xs : List Int}
    (hrun : (execOp a.eval o).run Try.prog w = .ok (.enter 126 #[u]) w) (hbw : Below w0.heap.size w0 w) (hu : SlI w0 u xs) (hl : xs.length ≤ 1048576)
    (h : ∀ v w', OwnI w' w0.heap.size v xs → Below w0.heap.size w0 w' → Below w.heap.size w w' → w.heap.size ≤ w'.heap.size → K (a.put o.dst v) w') : if Region.wanted o (yielded ops a.tmps) = true then Oper.wp Try.prog o a w K Q else E :=
  step_calls hg hrun (Clone_any w (hu.below hbw) hl) (fun e w' ⟨v, h1, h2, h3⟩ => ⟨v, h1, h v w' (h2.lower hbw.size) (hbw.trans (h3.mono hbw.size)) h3 h3.size⟩)
theorem step_appI {ops : Array Oper} {o : Oper} {a : Act} {K : Act → World → Prop} {Q : Exit → Act → World → Prop} {E : Prop} {w w0 w1 : World} (hg : o.guard = none) (s x : Operand)
    (ho : o.op = .call { callee := .builtin .append, args := #[s, x], argTypes := #[31, 31] })
    {g : Nat} {v : Value} {xs : List Int} {y : Int} (hs : a.eval s = v) (hown : OwnI w1 w0.heap.size v xs) (h01 : Below w0.heap.size w0 w1) (h1w : Below w1.heap.size w1 w) (hx : a.eval x = .slice (some ⟨g, 0, none⟩) 1 1) (hc : w.cell? ⟨g, 0, none⟩ = some (.int .i64 y)) (hlen : xs.length < 16777216)
    (h : ∀ v' w', OwnI w' w0.heap.size v' (xs ++ [y]) → Below w0.heap.size w0 w' → K (a.put o.dst v') w') : if Region.wanted o (yielded ops a.tmps) = true then Oper.wp Try.prog o a w K Q else E := by
  have h0w := h01.trans (h1w.mono h01.size)
  have hown' := hown.below h1w
  exact stepAppI w s x hg ho hs hown' hx hc hlen h0w.size (fun v' w' k1 k2 => h v' w' k1 (h0w.trans (hown'.grown k2 h0w.size)))
end Go.Proofs.Ytenemohjmemoiaa
namespace Go.Proofs.Ytenemohjmemoiaa
open Go.RowKit Go.Sort
def nearE (a b : Int) (e : List Int) : Bool := (decide (e.getD 0 0 = a) && decide (e.getD 1 0 = b)) || (decide (e.getD 0 0 = b) && decide (e.getD 1 0 = a))
def nearB (es : List (List Int)) (a b : Int) : Bool := es.any (nearE a b)
def apartI (es : List (List Int)) (s : List Int) (i k : Nat) : Bool := (List.range k).all fun j => !nearB es (s.getD i 0) (s.getD j 0)
def apartN (es : List (List Int)) (s : List Int) (k : Nat) : Bool := (List.range k).all fun i => apartI es s i i
def bothE (s : List Int) (e : List Int) : Bool := decide (e.getD 0 0 ∈ s) && decide (e.getD 1 0 ∈ s)
def indepB (es : List (List Int)) (s : List Int) : Bool := !(es.any (bothE s))
theorem indep_law {m : Nat} {es : List (List Int)} {s : List Int} (hE : EdgesB m es) : apartN es s s.length = indepB es s := by
  rw [Bool.eq_iff_iff]
  unfold apartN apartI indepB
  simp only [List.all_eq_true, List.mem_range, Bool.not_eq_true', List.any_eq_false]
  constructor
  · intro h e he hb
    obtain ⟨a, b, rfl, hab, _⟩ := hE e he
    simp only [bothE, List.getD_cons_zero, List.getD_cons_succ, Bool.and_eq_true, decide_eq_true_eq] at hb
    obtain ⟨i, hi, h1⟩ := List.getElem_of_mem hb.1
    obtain ⟨j, hj, h2⟩ := List.getElem_of_mem hb.2
    rcases Nat.lt_trichotomy i j with hij | hij | hij
    · have := h j hj i hij
      rw [getD_at hj, getD_at hi] at this
      unfold nearB at this
      rw [List.any_eq_false] at this
      have := this _ he
      simp [nearE, h1, h2] at this
    · subst hij
      rw [h1] at h2
      omega
    · have := h i hi j hij
      rw [getD_at hj, getD_at hi] at this
      unfold nearB at this
      rw [List.any_eq_false] at this
      have := this _ he
      simp [nearE, h1, h2] at this
  · intro h i hi j hij
    unfold nearB
    rw [List.any_eq_false]
    intro e he hn
    have hj : j < s.length := by omega
    rw [getD_at hi, getD_at hj] at hn
    have h2 := h e he
    unfold bothE at h2
    have m1 := List.getElem_mem hi
    have m2 := List.getElem_mem hj
    unfold nearE at hn
    simp only [Bool.or_eq_true, Bool.and_eq_true, decide_eq_true_eq] at hn
    rcases hn with ⟨e1, e2⟩ | ⟨e1, e2⟩
    · rw [e1, e2] at h2; simp [m1, m2] at h2
    · rw [e1, e2] at h2; simp [m1, m2] at h2
theorem nearE_two (a b : Int) (p q : Nat) : nearE a b [(p : Int), (q : Int)] = ((decide ((p : Int) = a) && decide ((q : Int) = b)) || (decide ((p : Int) = b) && decide ((q : Int) = a))) := rfl
set_option maxRecDepth 100000 in
set_option maxHeartbeats 4000000 in
theorem l08Near_any {v : Value} {es : List (List Int)} (b o m : Nat) (n x y : Int) (w : World) (hc : GraphAt w b o n v) (ha : SlII w v es) (hE : EdgesB m es) :
    Calls Try.prog 118 #[.pointer (some ⟨b, o, none⟩), .int .i64 x, .int .i64 y] w fun e w' => e = .returned (.bool (nearB es x y)) ∧ Below w.heap.size w w' := by
  obtain ⟨a, ca, us, rfl, hca, hca', hul, hrd, hrow⟩ := ha
  have HG := Lib.hid (fun W (h : Below w.heap.size w W) => And.intro (hrd.below h) (fun i hi u hu => (hrow i hi u hu).below h))
  have HC := Lib.hid (fun W (h : Below w.heap.size w W) => hc.below h)
  have HU := Lib.hid hul
  have HE := Lib.hid hE
  obtain ⟨_, c0, c1⟩ := hc
  unfold maxLen at hca'
  clear hul hrd hrow hE
  go_enter Try.func118, Try.ntmps118
  go_wp2
  clear c0 c1
  go_loopw [7, 8] (fun i _ wr => ∃ k : Nat, k ≤ es.length ∧ i = .int .i64 k ∧ Hid ((es.take k).any (nearE x y) = false) ∧ Below w.heap.size w wr) (fun i _ _ => es.length - (intOf i).toNat)
  case atStart => exact ⟨0, Nat.zero_le _, rfl, rfl, Below.refl _ _⟩
  case round =>
    obtain ⟨k, hk, rfl, hok, hbr⟩ := hrel
    obtain ⟨_, c0, c1⟩ := HC.out _ hbr
    by_cases hlt : k < es.length
    · obtain ⟨z, bb, off, rfl, gc, sx⟩ := SlII.row HU.out (HG.out _ hbr).1 (HG.out _ hbr).2 hlt
      have i1 : (k : Int) < (es.length : Int) := by omega
      obtain ⟨p, q, he, hpq, hqm⟩ := HE.out _ (List.getElem_mem hlt)
      rw [he] at sx
      have hne : nearE x y es[k] = ((decide ((p : Int) = x) && decide ((q : Int) = y)) || (decide ((p : Int) = y) && decide ((q : Int) = x))) := by rw [he]; exact nearE_two x y p q
      obtain ⟨ua, uc, rfl, _, _, ur⟩ := sx
      obtain ⟨eb, eo, rfl, g0⟩ := ur.one (i64s_get (j := 0) (by simp))
      obtain ⟨eb', eo', he', g1⟩ := ur.one (i64s_get (j := 1) (by simp))
      simp only [Option.some.injEq, Addr.mk.injEq] at he'
      obtain ⟨rfl, rfl, _⟩ := he'
      simp only [Nat.add_zero, List.getElem_cons_zero, List.getElem_cons_succ] at g0 g1
      have HN := Lib.hid hne
      obtain ⟨P, hP⟩ : ∃ P : Int, P = (p : Int) := ⟨_, rfl⟩
      obtain ⟨Q, hQ⟩ : ∃ Q : Int, Q = (q : Int) := ⟨_, rfl⟩
      rw [← hP] at g0
      rw [← hQ] at g1
      have hne2 : nearE x y es[k] = ((decide (P = x) && decide (Q = y)) || (decide (P = y) && decide (Q = x))) := by rw [hP, hQ]; exact HN.out
      have HN2 := Lib.hid hne2
      have j1 : (1 : Int) < ((([(p : Int), (q : Int)] : List Int).length : Nat) : Int) := by simp
      have j0 : (0 : Int) < ((([(p : Int), (q : Int)] : List Int).length : Nat) : Int) := by simp
      obtain ⟨d1, hd1⟩ : ∃ d, d = decide (P = x) := ⟨_, rfl⟩
      obtain ⟨d2, hd2⟩ : ∃ d, d = decide (Q = y) := ⟨_, rfl⟩
      obtain ⟨d3, hd3⟩ : ∃ d, d = decide (P = y) := ⟨_, rfl⟩
      obtain ⟨d4, hd4⟩ : ∃ d, d = decide (Q = x) := ⟨_, rfl⟩
      have t1 : (P == x) = d1 := by rw [hd1]; rfl
      have t2 : (Q == y) = d2 := by rw [hd2]; rfl
      have t3 : (P == y) = d3 := by rw [hd3]; rfl
      have t4 : (Q == x) = d4 := by rw [hd4]; rfl
      have HN3 : Hid (nearE x y es[k] = ((d1 && d2) || (d3 && d4))) := by unfold Hid; rw [HN2.out, hd1, hd2, hd3, hd4]
      clear hP hQ hne hne2 he hpq hqm hd1 hd2 hd3 hd4
      cases d1 <;> cases d2 <;> cases d3 <;> cases d4
      all_goals
        go_wp2
        first
          | (go_ret
             exact ⟨rb (any_atL hlt HN3.out).symm, hbr⟩)
          | (go_roundw
             case rel => exact ⟨k + 1, by omega, by go_num, any_take_succL hok.out hlt HN3.out, hbr⟩
             case measure => simp [intOf]; omega)
    · obtain rfl : k = es.length := by omega
      go_wp2
      go_ret
      exact ⟨rb (by
        have := hok.out
        rw [List.take_length] at this
        unfold nearB; rw [this]), hbr⟩
theorem l08Near_q {v : Value} {es : List (List Int)} {x y : Int} {q : Bool} (h : nearB es x y = q) (b o m : Nat) (n : Int) (w : World) (hc : GraphAt w b o n v) (ha : SlII w v es) (hE : EdgesB m es) :
    Calls Try.prog 118 #[.pointer (some ⟨b, o, none⟩), .int .i64 x, .int .i64 y] w fun e w' => e = .returned (.bool q) ∧ Below w.heap.size w w' :=
  (l08Near_any b o m n x y w hc ha hE).mono fun e w' ⟨h1, h2⟩ => ⟨by rw [h1, h], h2⟩
theorem range_all_succ {p : Nat → Bool} {k : Nat} (h : (List.range k).all p = true) (hp : p k = true) : (List.range (k + 1)).all p = true := by
  rw [List.range_succ, List.all_append, h]; simp [hp]
theorem range_all_no {p : Nat → Bool} {i k : Nat} (hi : i < k) (hp : p i = false) : (List.range k).all p = false := by
  rw [List.all_eq_false]; exact ⟨i, by simpa using hi, by rw [hp]; simp⟩
set_option maxRecDepth 100000 in
set_option maxHeartbeats 4000000 in
theorem l08Apart_any {v u : Value} {es : List (List Int)} {s : List Int} (b o m : Nat) (n : Int) (w : World) (hc : GraphAt w b o n v) (ha : SlII w v es) (hu : SlI w u s) (hE : EdgesB m es) :
    Calls Try.prog 64 #[.pointer (some ⟨b, o, none⟩), u] w fun e w' => e = .returned (.bool (apartN es s s.length)) ∧ Below w.heap.size w w' := by
  have HA := Lib.hid (fun W (h : Below w.heap.size w W) => ha.below h)
  have HC := Lib.hid (fun W (h : Below w.heap.size w W) => hc.below h)
  have HV := Lib.hid (fun W (h : Below w.heap.size w W) => hu.below h)
  have HE := Lib.hid hE
  obtain ⟨va, vc, rfl, _, hvc, _⟩ := hu
  unfold maxLen at hvc
  clear ha hc hE
  go_enter Try.func64, Try.ntmps64
  go_wp2
  go_loopw [5, 6] (fun i _ wr => ∃ k : Nat, k ≤ s.length ∧ i = .int .i64 k ∧ Hid (apartN es s k = true) ∧ Below w.heap.size w wr) (fun i _ _ => s.length - (intOf i).toNat)
  case atStart => exact ⟨0, Nat.zero_le _, rfl, rfl, Below.refl _ _⟩
  case round =>
    obtain ⟨k, hk, rfl, hok, hbr⟩ := hrel
    by_cases hlt : k < s.length
    · have i1 : (k : Int) < (s.length : Int) := by omega
      obtain ⟨wo, rfl⟩ : ∃ wo : World, wo = wr := ⟨_, rfl⟩
      go_wp2
      go_loopw [6] (fun i wr => ∃ j : Nat, j ≤ k ∧ i = .int .i64 j ∧ Hid (apartI es s k j = true) ∧ Below wo.heap.size wo wr) (fun i _ => k - (intOf i).toNat)
      case atStart => exact ⟨0, Nat.zero_le _, rfl, rfl, Below.refl _ _⟩
      case round =>
        obtain ⟨j, hj, rfl, hok2, hbo⟩ := hrel
        have hbw := hbr.trans (hbo.mono hbr.size)
        by_cases hjt : j < k
        · have hjs : j < s.length := by omega
          obtain ⟨_, _, he', _, _, vr⟩ := HV.out _ hbw
          simp only [Value.slice.injEq] at he'
          obtain ⟨rfl, _, rfl⟩ := he'
          obtain ⟨cb, co, rfl, gk⟩ := vr.one (i64s_get hlt)
          obtain ⟨cb', co', he', gj⟩ := vr.one (i64s_get hjs)
          simp only [Option.some.injEq, Addr.mk.injEq] at he'
          obtain ⟨rfl, rfl, _⟩ := he'
          have i2 : (0 : Int) ≤ (k : Int) := by omega
          have i3 : (0 : Int) ≤ (j : Int) := by omega
          have i4 : (j : Int) < (s.length : Int) := by omega
          have kk := fun d os => cell_regrown gk d os
          have kj := fun d os => cell_regrown gj d os
          generalize hq : nearB es s[k] s[j] = q
          have hterm : (!nearB es (s.getD k 0) (s.getD j 0)) = !q := by rw [getD_at hlt, getD_at hjs, hq]
          have HT := Lib.hid hterm
          have HQ := Lib.hid hq
          have C1 := Lib.hid (HC.out _ hbw)
          have A1 := Lib.hid (HA.out _ hbw)
          clear hterm hq
          cases q
          · go_wp2_with fail
            refine wp_region_quiet_below (by kernel_rfl) (by kernel_rfl) ?_
            repeat (first | go_big_quiet_skip | quiet_step (first | (with_reducible exact Calls.regrown_of (l08Near_q HQ.out b o m n _ (C1.out.below (below_regrown _ _ _)) (A1.out.below (below_regrown _ _ _)) HE.out))))
            refine wpQuiet_nil ?_
            intro _ hw'
            obtain ⟨⟨dq, osq⟩, hw''⟩ := hw'
            subst hw''
            have bq0 := below_regrown wr dq osq
            generalize grow (redrawn wr dq) osq = wq at bq0 ⊢
            have hb2 := hbo.trans (bq0.mono hbo.size)
            clear kk kj
            go_wp2
            go_roundw
            case rel => exact ⟨j + 1, by omega, by go_num, range_all_succ hok2.out HT.out, hb2⟩
            case measure => simp [intOf]; omega
          · go_wp2_with fail
            refine wp_region_quiet_below (by kernel_rfl) (by kernel_rfl) ?_
            repeat (first | go_big_quiet_skip | quiet_step (first | (with_reducible exact Calls.regrown_of (l08Near_q HQ.out b o m n _ (C1.out.below (below_regrown _ _ _)) (A1.out.below (below_regrown _ _ _)) HE.out))))
            refine wpQuiet_nil ?_
            intro _ hw'
            obtain ⟨⟨dq, osq⟩, hw''⟩ := hw'
            subst hw''
            have bq0 := below_regrown wr dq osq
            generalize grow (redrawn wr dq) osq = wq at bq0 ⊢
            clear kk kj
            go_wp2
            go_ret
            exact ⟨rb (range_all_no hlt (range_all_no hjt HT.out)).symm, hbw.trans (bq0.mono hbw.size)⟩
        · obtain rfl : j = k := by omega
          go_wp2
          go_roundw
          case rel => exact ⟨j + 1, by omega, by go_num, range_all_succ hok.out hok2.out, hbr.trans (hbo.mono hbr.size)⟩
          case measure => simp [intOf]; omega
    · obtain rfl : k = s.length := by omega
      go_wp2
      go_ret
      exact ⟨rb hok.out.symm, hbr⟩
theorem isNode_any {v : Value} (m : Nat) (x : Int) (w : World) (hv : ∃ a l c, v = .slice a l c) (h1 : 1 ≤ m) (h5 : m ≤ 100) :
    Calls Try.prog 68 #[.agg #[.int .i64 m, v], .int .i64 x] w fun e w' => e = .returned (.bool (inR x 0 ((m : Int) - 1))) ∧ Below w.heap.size w w' := by
  obtain ⟨a, l, c, rfl⟩ := hv
  go_enter Try.func68, Try.ntmps68
  go_wp2_with (go_at_call 69; refine (inRange_any _ _ _ _).mono ?_; rintro e w' ⟨rfl, rfl⟩)
  go_ret
  exact ⟨rfl, (Below.refl _ _).alloc (Nat.le_refl _) _⟩
set_option maxHeartbeats 4000000 in
theorem isNodes_any {v u : Value} {s : List Int} (m : Nat) (w : World) (hv : ∃ a l c, v = .slice a l c) (hu : SlI w u s) (h1 : 1 ≤ m) (h5 : m ≤ 100) :
    Calls Try.prog 122 #[.agg #[.int .i64 m, v], u] w fun en w' => en = .returned (.bool (riseN 0 ((m : Int) - 1) s s.length)) ∧ Below w.heap.size w w' := by
  obtain ⟨a, l, c, rfl⟩ := hv
  have bx : Below w.heap.size w (w.alloc (.cells #[.int .i64 m, .slice a l c] 24)) := (Below.refl _ _).alloc (Nat.le_refl _) _
  have X := Lib.hid (CellsAt.new w [.int .i64 m, .slice a l c] 24)
  have HV := Lib.hid (fun W (h : Below w.heap.size w W) => hu.below h)
  obtain ⟨va, vc, rfl, _, hvc, _⟩ := hu
  unfold maxLen at hvc
  go_enter Try.func122, Try.ntmps122
  go_wp2
  go_loopw [5, 6, 9] (fun _ _ i wr => ∃ k : Nat, k ≤ s.length ∧ i = .int .i64 k ∧ Hid (riseN 0 ((m : Int) - 1) s k = true) ∧ Below (w.alloc (.cells #[.int .i64 m, .slice a l c] 24)).heap.size (w.alloc (.cells #[.int .i64 m, .slice a l c] 24)) wr) (fun _ _ i _ => s.length - (intOf i).toNat)
  case atStart => exact ⟨0, Nat.zero_le _, rfl, rfl, Below.refl _ _⟩
  case round =>
    obtain ⟨k, hk, rfl, hok, hbr⟩ := hrel
    have hbw := bx.trans (hbr.mono bx.size)
    have x1 := X.out.below hbr
    have c0 := x1.get 0 _ rfl
    have c1 := x1.get 1 _ rfl
    by_cases hlt : k < s.length
    · have i1 : (k : Int) < (s.length : Int) := by omega
      obtain ⟨_, _, he', _, _, vr⟩ := HV.out _ hbw
      simp only [Value.slice.injEq] at he'
      obtain ⟨rfl, _, rfl⟩ := he'
      obtain ⟨cb, co, rfl, gk⟩ := vr.one (i64s_get hlt)
      generalize hx : s[k] = x at gk
      have hgd : s.getD k 0 = x := by rw [getD_at hlt, hx]
      have HGD := Lib.hid hgd
      generalize hq : inR x 0 ((m : Int) - 1) = q
      have HQ := Lib.hid hq
      have HNO := Lib.hid (fun h => riseN_false (lo := 0) (hi := (m : Int) - 1) (e := s) (k := k) h hlt)
      clear hx hgd hq x1
      go_wp2_with fail
      refine (isNode_any m x _ ⟨_, _, _, rfl⟩ h1 h5).mono ?_
      rintro e w2 ⟨rfl, b2⟩
      rw [HQ.out]
      have hb2 := hbr.trans (b2.mono hbr.size)
      have hbw2 := bx.trans (hb2.mono bx.size)
      clear c0 c1
      cases q
      · go_wp2
        go_ret
        exact ⟨rb (HNO.out (by rw [HGD.out, HQ.out]; rfl)).symm, hbw2⟩
      · by_cases hk0 : k = 0
        · have hk0' : decide (0 < k) = false := by simp; omega
          have HK0 := Lib.hid hk0
          clear hk0
          go_wp2
          go_roundw
          case rel => exact ⟨k + 1, by omega, by go_num, by unfold Hid riseN; rw [hok.out, HGD.out, HQ.out]; simp [HK0.out], hb2⟩
          case measure => simp [intOf]; omega
        · obtain ⟨j, hj⟩ : ∃ j, k = j + 1 := ⟨k - 1, by omega⟩
          have hjl : j < s.length := by omega
          obtain ⟨_, _, he', _, _, vr2⟩ := HV.out _ hbw2
          simp only [Value.slice.injEq] at he'
          obtain ⟨he1, _, rfl⟩ := he'
          subst he1
          obtain ⟨cb', co', he', gm⟩ := vr2.one (i64s_get hjl)
          simp only [Option.some.injEq, Addr.mk.injEq] at he'
          obtain ⟨rfl, rfl, _⟩ := he'
          generalize hy : s[j] = y at gm
          have hk1 : k - 1 = j := by omega
          have hgm : s.getD (k - 1) 0 = y := by rw [hk1, getD_at hjl, hy]
          have HGM := Lib.hid hgm
          have hkp : (0 : Int) < (k : Int) := by omega
          have gm2 : w2.cell? ⟨cb, co + (k - 1), none⟩ = some (.int .i64 y) := by rw [hk1]; exact gm
          have HK1 := Lib.hid hk1
          have HJ := Lib.hid hj
          have HK0 := Lib.hid hk0
          clear hy hgm gm hk1 hj hk0
          by_cases hxy : y < x
          · go_wp2
            go_roundw
            case rel => exact ⟨k + 1, by omega, by go_num, by unfold Hid riseN; rw [hok.out, HGD.out, HQ.out, HGM.out]; simp [hxy], hb2⟩
            case measure => simp [intOf]; omega
          · have hxy2 : x ≤ y := by omega
            go_wp2
            go_ret
            exact ⟨rb (HNO.out (by rw [HGD.out, HQ.out, HGM.out]; simp; omega)).symm, hbw2⟩
    · obtain rfl : k = s.length := by omega
      go_wp2
      go_ret
      exact ⟨rb hok.out.symm, hbw⟩
theorem Contains_q {u : Value} {xs : List Int} {x : Int} {q : Bool} (h : decide (x ∈ xs) = q) (w : World) (ha : SlI w u xs) :
    Calls Try.prog 124 #[u, .int .i64 x] w fun e w' => e = .returned (.bool q) ∧ Below w.heap.size w w' :=
  (Contains_any x w ha).mono fun e w' ⟨h1, h2⟩ => ⟨by rw [h1, h], by rw [h2]; exact Below.refl _ _⟩
theorem indClosure_any {u cv : Value} {s : List Int} {a c : Nat} (b : Nat) (w : World) (hc : CellsAt w b [cv]) (hcv : SlI w cv s) (hu : SlI w u [(a : Int), (c : Int)]) :
    Calls Try.prog 123 #[u, .pointer (some ⟨b, 0, none⟩)] w fun e w' => e = .returned (.bool (bothE s [(a : Int), (c : Int)])) ∧ Below w.heap.size w w' := by
  have HCV := Lib.hid hcv
  obtain ⟨ua, uc, rfl, _, _, ur⟩ := hu
  obtain ⟨va, vc, rfl, _, _, _⟩ := hcv
  obtain ⟨eb, eo, rfl, g0⟩ := ur.one (i64s_get (j := 0) (by simp))
  obtain ⟨eb', eo', he', g1⟩ := ur.one (i64s_get (j := 1) (by simp))
  simp only [Option.some.injEq, Addr.mk.injEq] at he'
  obtain ⟨rfl, rfl, _⟩ := he'
  have k0 := hc.get 0 _ rfl
  simp only [Nat.add_zero, List.getElem_cons_zero, List.getElem_cons_succ] at g0 g1
  have kk0 := fun d os => cell_regrown k0 d os
  have kg0 := fun d os => cell_regrown g0 d os
  have kg1 := fun d os => cell_regrown g1 d os
  have j1 : (1 : Int) < ((([(a : Int), (c : Int)] : List Int).length : Nat) : Int) := by simp
  have j0 : (0 : Int) < ((([(a : Int), (c : Int)] : List Int).length : Nat) : Int) := by simp
  have hb : bothE s [(a : Int), (c : Int)] = (decide ((a : Int) ∈ s) && decide ((c : Int) ∈ s)) := rfl
  generalize hd1 : decide ((a : Int) ∈ s) = d1 at hb
  generalize hd2 : decide ((c : Int) ∈ s) = d2 at hb
  have H1 := Lib.hid hd1
  have H2 := Lib.hid hd2
  have HB := Lib.hid hb
  clear hd1 hd2 hb
  cases d1
  all_goals
    go_enter Try.func123, Try.ntmps123
    go_wp2_with fail
    refine wp_region_quiet_below (by kernel_rfl) (by kernel_rfl) ?_
    repeat (first | go_big_quiet_skip | quiet_step (first | (with_reducible exact Calls.regrown_of (Contains_q H1.out _ (HCV.out.below (below_regrown _ _ _)))) | (with_reducible exact Calls.regrown_of (Contains_q H2.out _ (HCV.out.below (below_regrown _ _ _))))))
    refine wpQuiet_nil ?_
    intro _ hw'
    obtain ⟨⟨dq, osq⟩, hw''⟩ := hw'
    subst hw''
    have bq0 := below_regrown w dq osq
    generalize grow (redrawn w dq) osq = wq at bq0 ⊢
    clear kk0 kg0 kg1
    go_wp2
    go_ret
    exact ⟨rb (by rw [HB.out]; rfl), bq0⟩
set_option maxRecDepth 100000 in
set_option maxHeartbeats 1000000 in
theorem isIndependent_any {v u : Value} {es : List (List Int)} {s : List Int} (m : Nat) (n : Int) (w : World) (ha : SlII w v es) (hu : SlI w u s) (hE : EdgesB m es) :
    Calls Try.prog 70 #[.agg #[.int .i64 n, v], u] w fun e w' => e = .returned (.bool (indepB es s)) ∧ Below w.heap.size w w' := by
  have hmf : ∀ (fn : Fn) (first cap : Array Value) (w : World), (Instr.makeFunc fn first cap).run Try.prog w = .ok (.func fn first cap) w := fun _ _ _ _ => rfl
  have HA := Lib.hid (fun W (h : Below w.heap.size w W) => ha.below h)
  have HV := Lib.hid (fun W (h : Below w.heap.size w W) => hu.below h)
  have HE := Lib.hid hE
  obtain ⟨a, ca, us, rfl, _⟩ := ha
  obtain ⟨va, vc, rfl, _⟩ := hu
  have b1 : Below w.heap.size w (w.alloc (.cells #[.int .i64 n, .slice a es.length ca] 24)) := (Below.refl _ _).alloc (Nat.le_refl _) _
  have b2 := b1.alloc (by simp) (.cells #[.slice va s.length vc] 31)
  have X := Lib.hid (CellsAt.new' (w.alloc (.cells #[.int .i64 n, .slice a es.length ca] 24)) [.slice va s.length vc] 31 (b := w.heap.size + 1) (by simp))
  clear hE
  go_enter Try.func70, Try.ntmps70
  go_wp2_with fail
  refine (ContainsFuncInd_any _ (bothE s) _ (HA.out _ b2) (fun W x u hW hx hu => ?_)).mono ?_
  · obtain ⟨p, q, he, hpq, hqm⟩ := HE.out x hx
    subst he
    exact indClosure_any _ W (X.out.below hW) (HV.out _ (b2.trans (hW.mono b2.size))) hu
  · rintro e w1 ⟨rfl, b3⟩
    go_wp2
    go_ret
    exact ⟨rfl, b2.trans (b3.mono b2.size)⟩
def isIndR (n : Int) (es : List (List Int)) (s : List Int) : Bool × Int :=
  let code := askedC n es 1 (riseN 0 (IntKind.i64.wrap (n - 1)) s s.length)
  if code = 0 then (indepB es s, 0) else (false, code)
end Go.Proofs.Ytenemohjmemoiaa
namespace Go.Proofs.Ytenemohjmemoiaa
open Go.RowKit Go.Sort
end Go.Proofs.Ytenemohjmemoiaa
namespace Go.Proofs.Ytenemohjmemoiaa
open Go.RowKit Go.Sort
/-- from index k on, with sum q so far -/
def toFrom : List Int → Int → Int → Nat → Option Nat
  | [], _, _, _ => none
  | x :: r, d, q, k => if d < q + x then some k else toFrom r d (q + x) (k + 1)
def toOf (r : List Int) (d : Int) : Option Nat := toFrom r d 0 0
theorem toFrom_lt : ∀ (r : List Int) (d q : Int) (k : Nat), d < q + r.sum → r ≠ [] → (∀ x ∈ r, 0 ≤ x) → ∃ i, toFrom r d q k = some i ∧ k ≤ i ∧ i < k + r.length
  | [], _, _, _, _, h, _ => absurd rfl h
  | x :: r, d, q, k, hd, _, hx => by
    unfold toFrom
    by_cases h : d < q + x
    · exact ⟨k, by rw [if_pos h], Nat.le_refl _, by simp⟩
    · rw [if_neg h]
      rw [List.sum_cons] at hd
      cases r with
      | nil => simp at hd; omega
      | cons y r =>
        obtain ⟨i, h1, h2, h3⟩ := toFrom_lt (y :: r) d (q + x) (k + 1) (by omega) (by simp) (fun z hz => hx z (by simp [hz]))
        exact ⟨i, h1, by omega, by simp at h3 ⊢; omega⟩
theorem toOf_step {r : List Int} {d : Int} {j : Nat} (hj : j < r.length) : toFrom (r.drop j) d (r.take j).sum j = if d < (r.take j).sum + r[j] then some j else toFrom (r.drop (j + 1)) d (r.take (j + 1)).sum (j + 1) := by
  rw [List.drop_eq_getElem_cons hj]
  have : (r.take (j + 1)).sum = (r.take j).sum + r[j] := sum_succ hj
  rw [this]
  rfl
/-- the row is right for a total -/
def RowB (r : List Int) : Prop := r.length ≤ 6 ∧ ∀ x ∈ r, 0 ≤ x ∧ x ≤ 60
theorem RowB.sum {r : List Int} (h : RowB r) (j : Nat) : 0 ≤ (r.take j).sum ∧ (r.take j).sum ≤ 1000 := by
  have hin : inAll (r.take j) 60 = true := by
    unfold inAll
    rw [List.all_eq_true]
    intro x hx
    have := h.2 x (List.mem_of_mem_take hx)
    exact inR_iff.2 this
  have h2 := inAll_sum (t := 60) (by omega) hin
  have h3 : (r.take j).length ≤ 6 := by rw [List.length_take]; have := h.1; omega
  omega
theorem chainOk_parts0 {s t : Int} {xss : List (List Int)} (h : chainOk s t xss = true) : (1 ≤ s ∧ s ≤ 6) ∧ (1 ≤ t ∧ t ≤ 60) ∧ (xss.length : Int) = s ∧ rowsOk s t xss = true := by
  unfold chainOk at h
  rw [Bool.and_eq_true, Bool.and_eq_true, Bool.and_eq_true] at h
  exact ⟨inR_iff.1 h.1, inR_iff.1 h.2.1, of_decide_eq_true h.2.2.1, h.2.2.2⟩
theorem rowB_of {s t : Int} {xss : List (List Int)} (h : chainOk s t xss = true) {k : Nat} (hk : k < xss.length) : RowB xss[k] ∧ (xss[k].length : Int) = s ∧ xss[k].sum = t := by
  unfold chainOk at h
  rw [Bool.and_eq_true, Bool.and_eq_true, Bool.and_eq_true] at h
  have hs := inR_iff.1 h.1
  have ht := inR_iff.1 h.2.1
  have hr := h.2.2.2
  unfold rowsOk at hr
  rw [List.all_eq_true] at hr
  have := hr _ (List.getElem_mem hk)
  unfold rowOk at this
  rw [Bool.and_eq_true, Bool.and_eq_true] at this
  have hl := of_decide_eq_true this.1
  have ha := this.2.1
  unfold inAll at ha
  rw [List.all_eq_true] at ha
  refine ⟨⟨by omega, fun x hx => ?_⟩, hl, of_decide_eq_true this.2.2⟩
  have := inR_iff.1 (ha x hx)
  omega

set_option maxHeartbeats 1000000 in
theorem stepByDraw_any {v : Value} {xss : List (List Int)} (s t d : Int) (k : Nat) (w : World) (ha : SlII w v xss) (hk : k < xss.length) (hB : RowB xss[k]) :
    Calls Try.prog 105 #[.agg #[.int .i64 s, .int .i64 t, v], .int .i64 k, .int .i64 d] w fun e w' => e = .returned (.int .i64 (((toOf xss[k] d).map Int.ofNat).getD (-1))) ∧ Below w.heap.size w w' := by
  obtain ⟨a, ca, us, rfl, hca, hca', hul, hrd, hrow⟩ := ha
  obtain ⟨x, ba, oa, rfl, hrowk⟩ := SlII.rowAt hul hrd hrow hk
  generalize hr : xss[k] = r at hrowk hB
  obtain ⟨ra, rc, rfl, hrc, hrc', _⟩ := id hrowk.2.2
  have bb : Below w.heap.size w (w.alloc (chObj s t (.slice (some ⟨ba, oa, none⟩) xss.length ca))) := chBelow _ _ _ _
  obtain ⟨g0, ga, ra', rc', he, _, _, hrr⟩ := hrowk.below bb
  simp at he
  obtain ⟨rfl, rfl⟩ := he
  unfold maxLen at hca' hrc'
  have i1 : (k : Int) < (xss.length : Int) := by omega
  have hr6 : r.length ≤ 6 := hB.1
  have HB := Lib.hid hB
  have HBB := Lib.hid bb
  clear hr hul hrd hrow hca hca' hrc hB hrowk bb
  have GA := Lib.hid ga
  go_enter Try.func105, Try.ntmps105
  unfold chObj at ga
  go_wp2
  clear ga
  go_loopw [7, 16] (fun q i wr => ∃ j : Nat, j ≤ r.length ∧ i = .int .i64 j ∧ q = .int .i64 (r.take j).sum ∧ toOf r d = toFrom (r.drop j) d (r.take j).sum j ∧ wr = w.alloc (chObj s t (.slice (some ⟨ba, oa, none⟩) xss.length ca))) (fun _ i _ => r.length - (intOf i).toNat)
  case atStart => exact ⟨0, Nat.zero_le _, rfl, rfl, rfl, rfl⟩
  case round =>
    obtain ⟨j, hj, rfl, rfl, hto, rfl⟩ := hrel
    have HT := Lib.hid hto
    clear hto
    have hs0 := (HB.out.sum j).1
    have hs1 := (HB.out.sum j).2
    by_cases hjt : j < r.length
    · obtain ⟨rb, ro, rfl, gr⟩ := hrr.one (i64s_get hjt)
      have hx := HB.out.2 r[j] (List.getElem_mem hjt)
      have hx0 : 0 ≤ r[j] := hx.1
      have hx1 : r[j] ≤ 60 := hx.2
      have hst := toOf_step (d := d) hjt
      have HST := Lib.hid hst
      have i3 : (j : Int) < (r.length : Int) := by omega
      clear hx hst
      by_cases hd : d < (r.take j).sum + r[j]
      · go_wp2
        go_ret
        exact ⟨ri (by rw [HT.out, HST.out, if_pos hd]; rfl), HBB.out⟩
      · go_wp2
        go_roundw
        case rel => exact ⟨j + 1, by omega, by go_num, vi (sum_succ hjt).symm, by rw [HT.out, HST.out, if_neg (by omega)], trivial⟩
        case measure => simp [intOf]; omega
    · obtain rfl : j = r.length := by omega
      go_wp2
      go_ret
      exact ⟨ri (by rw [HT.out]; simp [toFrom]), HBB.out⟩

def upTo (n : Nat) : List Int := (List.range n).map fun (i : Nat) => (i : Int)
theorem upTo_succ (n : Nat) : upTo (n + 1) = upTo n ++ [(n : Int)] := by simp [upTo, List.range_succ]
theorem upTo_length (n : Nat) : (upTo n).length = n := by simp [upTo]

set_option maxHeartbeats 400000 in
theorem everyState_any (n : Nat) (w : World) (hn : n ≤ 1000) :
    Calls Try.prog 77 #[.int .i64 n] w fun e w' => ∃ v, e = .returned v ∧ OwnI w' w.heap.size v (upTo n) ∧ Below w.heap.size w w' := by
  go_enter Try.func77, Try.ntmps77
  go_wp2
  go_loopw [3, 7] (fun v i wr => ∃ k : Nat, k ≤ n ∧ i = .int .i64 k ∧ OwnI wr w.heap.size v (upTo k) ∧ Below w.heap.size w wr) (fun _ i _ => n - (intOf i).toNat)
  case atStart => exact ⟨0, Nat.zero_le _, rfl, OwnI.empty _ (Nat.le_refl _), (Below.refl _ _).alloc (Nat.le_refl _) _⟩
  case round =>
    obtain ⟨k, hk, rfl, hown, hbw⟩ := hrel
    by_cases hlt : k < n
    · have hsz := hbw.size
      have hl := upTo_length k
      go_wp2_with (at_builtin; refine append_i64 _ _ _ _ rfl rfl rfl hown rfl (by omega) (by omega) ?_)
      intro v' w1 hown1 hb1 hsz1
      rw [← upTo_succ] at hown1
      have hb2 := (hbw.alloc hsz _).trans hb1
      clear hown hb1
      go_wp2
      go_roundw
      case rel => exact ⟨k + 1, by omega, by go_num, hown1, hb2⟩
      case measure => simp [intOf]; omega
    · obtain rfl : k = n := by omega
      go_wp2
      go_ret
      exact ⟨_, rfl, hown, hbw⟩
end Go.Proofs.Ytenemohjmemoiaa
namespace Go.Proofs.Ytenemohjmemoiaa
open Go.RowKit Go.Sort
theorem isE_old {E : Nat} {w : World} {o : Obj} {k : Nat} (h : k < w.heap.size) : isE E (w.alloc o) k ↔ isE E w k := by
  refine isE_same ?_
  show (w.heap.push o)[k]? = _
  rw [Array.getElem?_push, if_neg (by omega)]
theorem not_isE_at {E T : Nat} {w : World} {cs : Array Value} {k : Nat} (hk : k = w.heap.size) (h : T ≠ E) : ¬ isE E (w.alloc (.cells cs T)) k := by
  rintro ⟨c, f, he⟩
  subst hk
  have : (w.heap.push (.cells cs T))[w.heap.size]? = some (.cells c E f) := he
  rw [Array.getElem?_push, if_pos rfl] at this
  simp at this
  exact h this.2.1
end Go.Proofs.Ytenemohjmemoiaa
namespace Go.Proofs.Ytenemohjmemoiaa
open Go.RowKit Go.Sort
end Go.Proofs.Ytenemohjmemoiaa
namespace Go.Proofs.Ytenemohjmemoiaa
open Go.RowKit Go.Sort
theorem hasIndex_any (x n : Int) (w : World) (h0 : 0 ≤ n) (h1 : n ≤ 1000000000) :
    Calls Try.prog 136 #[.int .i64 x, .int .i64 n] w fun e w' => e = .returned (.bool (inR x 0 (n - 1))) ∧ w = w' := by
  go_enter Try.func136, Try.ntmps136
  go_wp2_with (go_at_call 69; refine (inRange_any _ _ _ _).mono ?_; rintro e w' ⟨rfl, rfl⟩)
  go_ret
  exact ⟨rfl, rfl⟩
theorem OwnII.rowAt {w : World} {base : Nat} {ad : Option Addr} {n c : Nat} {xss : List (List Int)} (h : OwnII w base (.slice ad n c) xss) {i : Nat} (hi : i < xss.length) :
    ∃ b off u, ad = some ⟨b, off, none⟩ ∧ w.cell? ⟨b, off + i, none⟩ = some u ∧ OwnI w base u xss[i] := by
  obtain ⟨vs, h1, h2⟩ := h
  obtain ⟨ad', c', he, _, _, hr⟩ := ownsRow_rd h1
  simp at he
  obtain ⟨rfl, _, rfl⟩ := he
  have hv : i < vs.length := by rw [h2.1]; exact hi
  obtain ⟨b, off, e1, e2⟩ := hr.one (List.getElem?_eq_getElem hv)
  exact ⟨b, off, vs[i], e1, e2, h2.2.1 i _ _ (List.getElem?_eq_getElem hv) (List.getElem?_eq_getElem hi)⟩
def tupVC (v : Value) (c : Int) : Value := .tuple #[v, .int .i64 c]
def deckAtR (cards number : Int) : List Int × Int :=
  if inR cards 1 3 = true then (if inR number 0 ((decksL cards.toNat cards.toNat).length - 1) = true then ((decksL cards.toNat cards.toNat).getD number.toNat [], 0) else ([], 2)) else ([], 2)
/-- a fresh []int64 and a code -/
def FreshIC (w : World) (R : List Int × Int) (e : Ending) (w' : World) : Prop := ∃ v, e = .returned (tupVC v R.2) ∧ OwnI w' w.heap.size v R.1 ∧ Below w.heap.size w w'
theorem deckAtR_len (a b : Int) : (deckAtR a b).1.length ≤ 3 := by
  unfold deckAtR
  split
  · rename_i h
    split
    · have h1 := inR_iff.1 h
      obtain ⟨n, rfl⟩ := Int.eq_ofNat_of_zero_le (show 0 ≤ a by omega)
      have := (decks_small (c := n) (k := n) (by omega) (by omega) (Nat.le_refl _)).2
      rw [Int.toNat_natCast]
      dsimp only
      by_cases hb : b.toNat < (decksL n n).length
      · rw [List.getD_eq_getElem?_getD, List.getElem?_eq_getElem hb]
        have := this _ (List.getElem_mem hb)
        simp; omega
      · rw [List.getD_eq_getElem?_getD, List.getElem?_eq_none (by omega)]; simp
    · simp
  · simp
theorem findFrom_ix (D : List (List Int)) (x : List Int) : ∀ k, ixRow (fun y => decide (x = y)) D k = findFrom D x k := by
  induction D with
  | nil => intro k; rfl
  | cons y r ih =>
    intro k
    unfold ixRow findFrom
    rw [ih (k + 1)]
    by_cases h : x = y
    · subst h; simp
    · have h2 : ¬ y = x := fun e => h e.symm
      simp [h, h2]
def deckNumR (x : List Int) : Int × Int := if findD x < 0 then (0, 2) else (findD x, 0)
end Go.Proofs.Ytenemohjmemoiaa
namespace Go.Proofs.Ytenemohjmemoiaa
open Go.RowKit Go.Sort
def neighE (node : Int) (e : List Int) : List Int := if node = e.getD 0 0 then [e.getD 1 0] else if node = e.getD 1 0 then [e.getD 0 0] else []
def neighL (es : List (List Int)) (node : Int) : List Int := es.flatMap (neighE node)
def takenB (es : List (List Int)) (cs : List Int) (node c : Int) : Bool := (neighL es node).any fun o => decide (cs.getD o.toNat 0 = c)
def freeL (es : List (List Int)) (cs : List Int) (node : Int) (k : Nat) : List Int := (upTo k).filter fun c => !takenB es cs node c
theorem freeL_yes {es : List (List Int)} {cs : List Int} {node : Int} {k : Nat} (h : takenB es cs node k = false) : freeL es cs node (k + 1) = freeL es cs node k ++ [(k : Int)] := by
  unfold freeL; rw [upTo_succ, List.filter_append]; simp [h]
theorem freeL_no {es : List (List Int)} {cs : List Int} {node : Int} {k : Nat} (h : takenB es cs node k = true) : freeL es cs node (k + 1) = freeL es cs node k := by
  unfold freeL; rw [upTo_succ, List.filter_append]; simp [h]
theorem freeL_length (es : List (List Int)) (cs : List Int) (node : Int) (k : Nat) : (freeL es cs node k).length ≤ k := by
  unfold freeL; refine Nat.le_trans (List.length_filter_le _ _) ?_; rw [upTo_length]; exact Nat.le_refl _
theorem neighE_len (node : Int) (e : List Int) : (neighE node e).length ≤ 1 := by
  unfold neighE
  split
  · simp
  · split <;> simp
theorem flat_len {l : List (List Int)} {f : List Int → List Int} (h : ∀ x, (f x).length ≤ 1) : (l.flatMap f).length ≤ l.length := by
  induction l with
  | nil => simp
  | cons x r ih => rw [List.flatMap_cons, List.length_append, List.length_cons]; have := h x; omega
theorem flat_take_succ {l : List (List Int)} {f : List Int → List Int} {k : Nat} (h : k < l.length) : (l.take (k + 1)).flatMap f = (l.take k).flatMap f ++ f l[k] := by
  rw [List.take_succ_eq_append_getElem h, List.flatMap_append]; simp
theorem neighE_two (node : Int) (p q : Nat) : neighE node [(p : Int), (q : Int)] = if node = (p : Int) then [(q : Int)] else if node = (q : Int) then [(p : Int)] else [] := rfl
theorem neighE_mem {node o : Int} {p q : Nat} (hpq : p < q) : o ∈ neighE node [(p : Int), (q : Int)] ↔ nearE node o [(p : Int), (q : Int)] = true := by
  rw [neighE_two, nearE_two]
  split
  · rename_i h; subst h; simp; constructor
    · intro h; left; exact h.symm
    · rintro (h | ⟨h1, h2⟩)
      · exact h.symm
      · omega
  · rename_i h
    split
    · rename_i h2; subst h2; simp; constructor
      · intro h3; right; exact h3.symm
      · rintro (⟨h3, _⟩ | h3)
        · omega
        · exact h3.symm
    · rename_i h2
      simp
      omega
theorem neigh_in {m : Nat} {es : List (List Int)} (hE : EdgesB m es) {node o : Int} (h : o ∈ neighL es node) : ∃ a : Nat, o = (a : Int) ∧ a < m := by
  unfold neighL at h
  rw [List.mem_flatMap] at h
  obtain ⟨e, he, ho⟩ := h
  obtain ⟨p, q, rfl, hpq, hq⟩ := hE e he
  rw [neighE_two] at ho
  split at ho
  · simp at ho; exact ⟨q, ho, hq⟩
  · split at ho
    · simp at ho; exact ⟨p, ho, by omega⟩
    · simp at ho
/-- as the reference has it -/
def freeS (es : List (List Int)) (cs : List Int) (node c : Int) (k : Nat) : Bool := (List.range k).all fun i => (!decide (cs.getD i 0 = c)) || !nearB es node (i : Int)
theorem free_law {m : Nat} {es : List (List Int)} {cs : List Int} {node c : Int} (hE : EdgesB m es) : freeS es cs node c m = !takenB es cs node c := by
  rw [Bool.eq_iff_iff]
  unfold freeS takenB
  simp only [List.all_eq_true, List.mem_range, Bool.or_eq_true, Bool.not_eq_true', decide_eq_false_iff_not, List.any_eq_false, decide_eq_true_eq]
  constructor
  · intro h o ho hc
    obtain ⟨a, rfl, ha⟩ := neigh_in hE ho
    rw [Int.toNat_natCast] at hc
    rcases h a ha with h1 | h1
    · exact h1 hc
    · unfold nearB at h1
      rw [List.any_eq_false] at h1
      unfold neighL at ho
      rw [List.mem_flatMap] at ho
      obtain ⟨e, he, ho⟩ := ho
      obtain ⟨p, q, rfl, hpq, hq⟩ := hE e he
      exact h1 _ he ((neighE_mem hpq).1 ho)
  · intro h i hi
    by_cases hc : cs.getD i 0 = c
    · right
      unfold nearB
      rw [List.any_eq_false]
      intro e he hn
      obtain ⟨p, q, rfl, hpq, hq⟩ := hE e he
      have ho : (i : Int) ∈ neighL es node := by
        unfold neighL
        rw [List.mem_flatMap]
        exact ⟨_, he, (neighE_mem hpq).2 hn⟩
      exact h _ ho (by rw [Int.toNat_natCast]; exact hc)
    · left; exact hc
theorem CellsAt.belowB {w w' : World} {b B : Nat} {vs : List Value} (h : CellsAt w b vs) (hB : b < B) (hb : Below B w w') : CellsAt w' b vs :=
  ⟨Nat.lt_of_lt_of_le h.1 hb.size, fun i u hu => by rw [hb.cell (p := ⟨b, i, none⟩) hB]; exact h.2 i u hu⟩
set_option maxHeartbeats 2000000 in
theorem neighbours_any {v : Value} {es : List (List Int)} (m : Nat) (n node : Int) (w : World) (ha : SlII w v es) (hE : EdgesB m es) (hl : es.length ≤ 100) :
    Calls Try.prog 129 #[.agg #[.int .i64 n, v], .int .i64 node] w fun e w' => ∃ r, e = .returned r ∧ OwnI w' w.heap.size r (neighL es node) ∧ Below w.heap.size w w' := by
  obtain ⟨a, ca, us, rfl, hca, hca', hul, hrd, hrow⟩ := ha
  have HG := Lib.hid (fun W (h : Below w.heap.size w W) => And.intro (hrd.below h) (fun i hi u hu => (hrow i hi u hu).below h))
  have HU := Lib.hid hul
  have HE := Lib.hid hE
  have bx : Below w.heap.size w ((w.alloc (.cells #[.int .i64 n, .slice a es.length ca] 24)).alloc (.cells #[] 2)) := ((Below.refl _ _).alloc (Nat.le_refl _) _).alloc (by simp) _
  have own0 := OwnI.empty (w.alloc (.cells #[.int .i64 n, .slice a es.length ca] 24)) (base := w.heap.size) (by simp)
  simp only [show (w.alloc (.cells #[.int .i64 n, .slice a es.length ca] 24)).heap.size = w.heap.size + 1 from by simp] at own0
  have hfl := fun k => flat_len (l := es.take k) (f := neighE node) (neighE_len node)
  have HFL := Lib.hid hfl
  unfold maxLen at hca'
  clear hul hrd hrow hE hfl
  go_enter Try.func129, Try.ntmps129
  go_wp2
  go_loopw [5, 7, 12] (fun v _ i wr => ∃ k : Nat, k ≤ es.length ∧ i = .int .i64 k ∧ OwnI wr w.heap.size v ((es.take k).flatMap (neighE node)) ∧ Below w.heap.size w wr) (fun _ _ i _ => es.length - (intOf i).toNat)
  case atStart => exact ⟨0, Nat.zero_le _, rfl, own0, bx⟩
  case round =>
    clear own0 bx
    obtain ⟨k, hk, rfl, hown, hbr⟩ := hrel
    by_cases hlt : k < es.length
    · obtain ⟨z, bb, off, rfl, gc, sx⟩ := SlII.row HU.out (HG.out _ hbr).1 (HG.out _ hbr).2 hlt
      have i1 : (k : Int) < (es.length : Int) := by omega
      obtain ⟨p, q, he, hpq, hqm⟩ := HE.out _ (List.getElem_mem hlt)
      have hft := flat_take_succ (f := neighE node) hlt
      rw [he, neighE_two] at hft
      rw [he] at sx
      obtain ⟨ua, uc, rfl, _, _, ur⟩ := sx
      obtain ⟨eb, eo, rfl, g0⟩ := ur.one (i64s_get (j := 0) (by simp))
      obtain ⟨eb', eo', he', g1⟩ := ur.one (i64s_get (j := 1) (by simp))
      simp only [Option.some.injEq, Addr.mk.injEq] at he'
      obtain ⟨rfl, rfl, _⟩ := he'
      simp only [Nat.add_zero, List.getElem_cons_zero, List.getElem_cons_succ] at g0 g1
      have j1 : (1 : Int) < ((([(p : Int), (q : Int)] : List Int).length : Nat) : Int) := by simp
      have j0 : (0 : Int) < ((([(p : Int), (q : Int)] : List Int).length : Nat) : Int) := by simp
      have hln : ((es.take k).flatMap (neighE node)).length < 16777216 := by have := HFL.out k; rw [List.length_take] at this; omega
      generalize (es.take k).flatMap (neighE node) = l at hown hft hln
      have hsz := hbr.size
      have HFT := Lib.hid hft
      clear he hpq hqm hft
      by_cases h1 : node = (p : Int)
      · have t1 : (node == (p : Int)) = true := by simp [h1]
        have H1 := Lib.hid h1
        clear h1
        go_wp2_with (at_builtin; refine append_i64 _ _ _ _ rfl rfl rfl hown rfl hln hsz ?_)
        intro v' w1 hown1 hb1 hsz1
        have hb2 := (hbr.alloc hsz _).trans hb1
        clear hown hb1
        go_wp2
        go_roundw
        case rel => exact ⟨k + 1, by omega, by go_num, by rw [HFT.out, if_pos H1.out]; exact hown1, hb2⟩
        case measure => simp [intOf]; omega
      · have t1 : (node == (p : Int)) = false := by simp [h1]
        have H1 := Lib.hid h1
        clear h1
        by_cases h2 : node = (q : Int)
        · have t2 : (node == (q : Int)) = true := by simp [h2]
          have H2 := Lib.hid h2
          clear h2
          go_wp2_with (at_builtin; refine append_i64 _ _ _ _ rfl rfl rfl hown rfl hln hsz ?_)
          intro v' w1 hown1 hb1 hsz1
          have hb2 := (hbr.alloc hsz _).trans hb1
          clear hown hb1
          go_wp2
          go_roundw
          case rel => exact ⟨k + 1, by omega, by go_num, by rw [HFT.out, if_neg H1.out, if_pos H2.out]; exact hown1, hb2⟩
          case measure => simp [intOf]; omega
        · have t2 : (node == (q : Int)) = false := by simp [h2]
          have H2 := Lib.hid h2
          clear h2
          go_wp2
          go_roundw
          case rel => exact ⟨k + 1, by omega, by go_num, by rw [HFT.out, if_neg H1.out, if_neg H2.out, List.append_nil]; exact hown, hbr⟩
          case measure => simp [intOf]; omega
    · obtain rfl : k = es.length := by omega
      rw [List.take_length] at hown
      go_wp2
      go_ret
      exact ⟨_, rfl, hown, hbr⟩
end Go.Proofs.Ytenemohjmemoiaa
namespace Go.Proofs.Ytenemohjmemoiaa
open Go.RowKit Go.Sort
theorem pow2_le {L : Nat} (h : L ≤ 25) : 2 ^ L ≤ 33554432 := Nat.le_trans (Nat.pow_le_pow_right (by decide) h) (by decide)
/-- the numbers below k that are bits of x -/
def setK (x k : Nat) : List Int := (upTo k).filter fun i => x / 2 ^ i.toNat % 2 == 1
theorem setK_yes {x k : Nat} (h : x / 2 ^ k % 2 = 1) : setK x (k + 1) = setK x k ++ [(k : Int)] := by
  unfold setK; rw [upTo_succ, List.filter_append]; simp [h]
theorem setK_no {x k : Nat} (h : x / 2 ^ k % 2 = 0) : setK x (k + 1) = setK x k := by
  unfold setK; rw [upTo_succ, List.filter_append]; simp [h]
theorem setK_len (x k : Nat) : (setK x k).length ≤ k := by
  unfold setK; refine Nat.le_trans (List.length_filter_le _ _) ?_; rw [upTo_length]; exact Nat.le_refl _
/-- the independent sets of the numbers below N -/
def indN (m : Nat) (es : List (List Int)) : Nat → List (List Int)
  | 0 => []
  | x + 1 => if indepB es (setK x m) = true then indN m es x ++ [setK x m] else indN m es x
theorem indN_yes {m : Nat} {es : List (List Int)} {x : Nat} (h : indepB es (setK x m) = true) : indN m es (x + 1) = indN m es x ++ [setK x m] := by
  conv => lhs; unfold indN
  rw [if_pos h]
theorem indN_no {m : Nat} {es : List (List Int)} {x : Nat} (h : indepB es (setK x m) = false) : indN m es (x + 1) = indN m es x := by
  conv => lhs; unfold indN
  rw [if_neg (by rw [h]; simp)]
theorem indN_len (m : Nat) (es : List (List Int)) : ∀ N, (indN m es N).length ≤ N
  | 0 => by simp [indN]
  | N + 1 => by
    have := indN_len m es N
    unfold indN
    split <;> simp <;> omega
theorem indN_mem {m : Nat} {es : List (List Int)} {s : List Int} : ∀ N, s ∈ indN m es N → ∃ x, x < N ∧ s = setK x m ∧ indepB es s = true
  | 0, h => by simp [indN] at h
  | N + 1, h => by
    unfold indN at h
    split at h
    · rename_i hi
      simp only [List.mem_append, List.mem_singleton] at h
      rcases h with h | h
      · obtain ⟨x, h1, h2⟩ := indN_mem N h
        exact ⟨x, by omega, h2⟩
      · subst h; exact ⟨N, by omega, rfl, hi⟩
    · obtain ⟨x, h1, h2⟩ := indN_mem N h
      exact ⟨x, by omega, h2⟩
def bump (out : List Int) (s : List Int) : List Int := out.set s.length (out.getD s.length 0 + 1)
def cntL (L : Nat) (ss : List (List Int)) : List Int := ss.foldl bump (List.replicate L 0)
theorem cntL_snoc (L : Nat) (ss : List (List Int)) (s : List Int) : cntL L (ss ++ [s]) = bump (cntL L ss) s := by simp [cntL]
theorem cntL_take {L : Nat} {ss : List (List Int)} {k : Nat} (h : k < ss.length) : cntL L (ss.take (k + 1)) = bump (cntL L (ss.take k)) ss[k] := by
  rw [List.take_succ_eq_append_getElem h, cntL_snoc]
theorem foldl_bump_len : ∀ (ss : List (List Int)) (o : List Int), (ss.foldl bump o).length = o.length
  | [], _ => rfl
  | s :: r, o => by rw [List.foldl_cons, foldl_bump_len r]; simp [bump]
theorem cntL_len (L : Nat) (ss : List (List Int)) : (cntL L ss).length = L := by unfold cntL; rw [foldl_bump_len]; simp
theorem foldl_bump_rng (g : Nat) : ∀ (ss : List (List Int)) (o : List Int), o.getD g 0 ≤ (ss.foldl bump o).getD g 0 ∧ (ss.foldl bump o).getD g 0 ≤ o.getD g 0 + ss.length
  | [], _ => by simp
  | s :: r, o => by
    rw [List.foldl_cons]
    have ih := foldl_bump_rng g r (bump o s)
    have : o.getD g 0 ≤ (bump o s).getD g 0 ∧ (bump o s).getD g 0 ≤ o.getD g 0 + 1 := by
      unfold bump
      simp only [List.getD_eq_getElem?_getD, List.getElem?_set]
      split
      · rename_i hs
        subst hs
        split
        · simp; omega
        · rename_i hl; rw [List.getElem?_eq_none (by omega)]; simp
      · omega
    simp only [List.length_cons]
    omega
theorem cntL_rng (L : Nat) (ss : List (List Int)) (g : Nat) : 0 ≤ (cntL L ss).getD g 0 ∧ (cntL L ss).getD g 0 ≤ ss.length := by
  have := foldl_bump_rng g ss (List.replicate L 0)
  have h0 : (List.replicate L (0 : Int)).getD g 0 = 0 := by
    rw [List.getD_eq_getElem?_getD, List.getElem?_replicate]
    split <;> rfl
  rw [h0] at this
  unfold cntL
  omega
end Go.Proofs.Ytenemohjmemoiaa
