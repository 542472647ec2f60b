/-
  FnJournal: plain part: the lines of a journal's text, also of a torn one. With it: A desk at first, both sides. A desk at first, the program's: both lists grow in one statement, in whatever order. A desk's run over a journal: plain laws.
-/
import Derived.Test.YtijpkcdalmlaiaaZRowFnPlantPackets18
import Derived.Test.YtijpkcdalmlaiaaZRowFnPlantPackets19
import Derived.Deep.RegionLaw
import Derived.Test.YtijpkcdalmlaiaaZRowFnPlantPackets17
set_option linter.unusedVariables false
set_option linter.unusedSimpArgs false
namespace Go.Proofs.Ytijpkcdalmlaiaa
open Go.RowKit Go.Sort
theorem own_ne {w : World} {b b' : Nat} {u v : Value} {x y : Int} {xs ys : List Int} (h : OwnI w b u (x :: xs)) (h' : OwnI w b' v (y :: ys)) (hxy : x ≠ y) {g : Nat} (hu : u.ownBlock = some g) : v.ownBlock ≠ some g := by
  intro hv
  rcases h.forms with ⟨rfl, _⟩ | ⟨g1, c1, rfl, _⟩
  · simp [Value.ownBlock] at hu
  · rcases h'.forms with ⟨rfl, _⟩ | ⟨g2, c2, rfl, _⟩
    · simp [Value.ownBlock] at hv
    · simp [Value.ownBlock] at hu hv
      subst hu
      subst hv
      have a := h.cell (i := 0) (by simp)
      have b := h'.cell (i := 0) (by simp)
      rw [a] at b
      simp at b
      exact hxy b
/-- append of one number, with what it leaves -/
theorem step_append1 {ops : Array Oper} {o : Oper} {a : Act} {K : Act → World → Prop} {Q : Exit → Act → World → Prop} {E : Prop} (w : World) (hgd : o.guard = none) (s x : Operand)
    (ho : o.op = .call { callee := .builtin .append, args := #[s, x], argTypes := #[30, 30] })
    {base : Nat} {v : Value} {xs : List Int} {y : Int} {g : Nat} (hs : a.eval s = v) (hown : OwnI w base v xs) (hx : a.eval x = .slice (some ⟨g, 0, none⟩) 1 1) (hc : w.cell? ⟨g, 0, none⟩ = some (.int .i64 y)) (hlen : xs.length ≤ 1000) (hbase : base ≤ w.heap.size)
    (h : ∀ v' w', OwnI w' base v' (xs ++ [y]) → w.grownBy w' v.ownBlock → K (a.put o.dst v') w') : if Region.wanted o (yielded ops a.tmps) = true then Oper.wp Try.prog o a w K Q else E := by
  have hw : Region.wanted o (yielded ops a.tmps) = true := by simp [Region.wanted, hgd]
  rw [if_pos hw]
  obtain ⟨i0, hi, hz0, hz1, hz2⟩ := info_parts info2
  refine wp_append_own w s x _ ho base 2 i0 (.int .i64 0) 1 8 Try.underlying30 hi hz0 hz1 hz2 rfl (by decide) v xs.length (i64s xs) hs hown ⟨g, 0, none⟩ 1 1 [.int .i64 y] hx rfl ?_ (by intro u hu; simp at hu; subst hu; rfl) (by simp [maxLen]; omega) (by omega) hbase (fun v' w' h1 h2 _ => h v' w' ?_ h2)
  · intro j u hu
    cases j with
    | zero => simp at hu; subst hu; simpa [Addr.add] using hc
    | succ j => simp at hu
  · unfold OwnI
    rw [i64s_append, List.length_append]; exact h1
theorem grown_cell {w w' : World} {row : Option Nat} (h : w.grownBy w' row) {g : Nat} (hg : g < w.heap.size) (hne : some g ≠ row) (i : Nat) : w'.cell? ⟨g, i, none⟩ = w.cell? ⟨g, i, none⟩ := World.cell?_of_block (h.block g hg hne)
/-- both lists of a fresh desk, k long -/
structure Pair (w : World) (B k : Nat) (vl vr : Value) : Prop where
  ol : OwnI w B vl (List.replicate k 0)
  or_ : OwnI w B vr (List.replicate k (-1))
  nil : k = 0 → vl = .slice none 0 0 ∧ vr = .slice none 0 0
theorem Pair.ne {w : World} {B k : Nat} {vl vr : Value} (h : Pair w B k vl vr) {g : Nat} (hg : vl.ownBlock = some g) : vr.ownBlock ≠ some g := by
  cases k with
  | zero => rw [(h.nil rfl).1] at hg; simp [Value.ownBlock] at hg
  | succ k => exact own_ne (by simpa [List.replicate_succ] using h.ol) (by simpa [List.replicate_succ] using h.or_) (by decide) hg
theorem Pair.below {w w' : World} {B k : Nat} {vl vr : Value} (h : Pair w B k vl vr) (hb : Below w.heap.size w w') : Pair w' B k vl vr := ⟨h.ol.below hb, h.or_.below hb, h.nil⟩
theorem Pair.lt {w : World} {B k : Nat} {vl vr : Value} (h : Pair w B k vl vr) : (∀ g, vl.ownBlock = some g → B ≤ g ∧ g < w.heap.size) ∧ ∀ g, vr.ownBlock = some g → B ≤ g ∧ g < w.heap.size := ⟨fun g hg => h.ol.lt g hg, fun g hg => h.or_.lt g hg⟩
/-- the first list has grown -/
theorem Pair.step1 {w w' : World} {B k : Nat} {vl vr : Value} (h : Pair w B k vl vr) (hg : w.grownBy w' vl.ownBlock) : OwnI w' B vr (List.replicate k (-1)) := by
  refine h.or_.kept hg ?_
  cases hb : vr.ownBlock with
  | none => exact .inl rfl
  | some g => exact .inr (fun e => h.ne e.symm hb)
/-- the second one too -/
theorem Pair.step2 {w w' : World} {B k : Nat} {vl vr vr' : Value} (h1 : OwnI w B vl (List.replicate (k + 1) 0)) (h2 : OwnI w B vr (List.replicate k (-1))) (hn : k = 0 → vr = .slice none 0 0) (hg : w.grownBy w' vr.ownBlock) (h3 : OwnI w' B vr' (List.replicate (k + 1) (-1))) : Pair w' B (k + 1) vl vr' := by
  refine ⟨h1.kept hg ?_, h3, fun h => by simp at h⟩
  cases hb : vl.ownBlock with
  | none => exact .inl rfl
  | some g =>
    refine .inr (fun e => ?_)
    cases k with
    | zero => rw [hn rfl] at e; simp [Value.ownBlock] at e
    | succ k => exact own_ne (by simpa [List.replicate_succ] using h1) (by simpa [List.replicate_succ] using h2) (by decide) hb e.symm
theorem rep_snoc (k : Nat) (x : Int) : List.replicate k x ++ [x] = List.replicate (k + 1) x := by rw [List.replicate_succ']
/-- a box of a desk whose lists are just made -/
structure Box (w : World) (g : Nat) (vl vr : Value) : Prop where
  lt : g < w.heap.size
  c0 : w.cell? ⟨g, 0, none⟩ = some vl
  c1 : w.cell? ⟨g, 1, none⟩ = some vr
  c2 : w.cell? ⟨g, 2, none⟩ = some (.int .i64 0)
  f0 : w.frozen? ⟨g, 0, none⟩ = false
  f1 : w.frozen? ⟨g, 1, none⟩ = false
theorem Box.blk {w w' : World} {g : Nat} {vl vr : Value} (h : Box w g vl vr) (hs : w.heap.size ≤ w'.heap.size) (hb : w'.heap[g]? = w.heap[g]?) : Box w' g vl vr :=
  ⟨Nat.lt_of_lt_of_le h.lt hs, by rw [World.cell?_of_block hb]; exact h.c0, by rw [World.cell?_of_block hb]; exact h.c1, by rw [World.cell?_of_block hb]; exact h.c2, by
    have := h.f0; simpa [World.frozen?, hb] using this, by have := h.f1; simpa [World.frozen?, hb] using this⟩
theorem Box.below {w w' : World} {g : Nat} {vl vr : Value} (h : Box w g vl vr) {B : Nat} (hB : g < B) (hb : Below B w w') : Box w' g vl vr := h.blk hb.size (hb.block g hB)
theorem Box.set0 {w : World} {g : Nat} {vl vr : Value} (h : Box w g vl vr) (u : Value) : Box (w.setCell ⟨g, 0, none⟩ u) g u vr := by
  obtain ⟨h1, h2, h3, h4, h5, h6⟩ := h
  exact ⟨by simpa using h1, by simp [go_sem, h2], by simp [go_sem, h3], by simp [go_sem, h4], by simpa using h5, by simpa using h6⟩
theorem Box.set1 {w : World} {g : Nat} {vl vr : Value} (h : Box w g vl vr) (u : Value) : Box (w.setCell ⟨g, 1, none⟩ u) g vl u := by
  obtain ⟨h1, h2, h3, h4, h5, h6⟩ := h
  exact ⟨by simpa using h1, by simp [go_sem, h2], by simp [go_sem, h3], by simp [go_sem, h4], by simpa using h5, by simpa using h6⟩
theorem OwnI.setBelow {w : World} {base : Nat} {v : Value} {xs : List Int} (h : OwnI w base v xs) {a : Addr} (ha : a.block < base) (u : Value) : OwnI (w.setCell a u) base v xs := ownsRow_setCell_below h ha u
theorem append1 {ops : Array Oper} {rest : List Oper} {o : Oper} {a : Act} {Q : Exit → Act → World → Prop} (w : World) (hgd : o.guard = none) (s x : Operand)
    (ho : o.op = .call { callee := .builtin .append, args := #[s, x], argTypes := #[30, 30] })
    {base : Nat} {v : Value} {xs : List Int} {y : Int} {g : Nat} (hs : a.eval s = v) (hown : OwnI w base v xs) (hx : a.eval x = .slice (some ⟨g, 0, none⟩) 1 1) (hc : w.cell? ⟨g, 0, none⟩ = some (.int .i64 y)) (hlen : xs.length ≤ 1000) (hbase : base ≤ w.heap.size)
    (h : ∀ v' w', OwnI w' base v' (xs ++ [y]) → w.grownBy w' v.ownBlock → wpList Try.prog ops Q rest (a.put o.dst v') w') : wpList Try.prog ops Q (o :: rest) a w := by
  obtain ⟨i0, hi, hz0, hz1, hz2⟩ := info_parts info2
  refine wpList_append_own w hgd s x _ ho base 2 i0 (.int .i64 0) 1 8 Try.underlying30 hi hz0 hz1 hz2 rfl (by decide) v xs.length (i64s xs) hs hown ⟨g, 0, none⟩ 1 1 [.int .i64 y] hx rfl ?_ (by intro u hu; simp at hu; subst hu; rfl) (by simp [maxLen]; omega) (by omega) hbase (fun v' w' h1 h2 _ => h v' w' ?_ h2)
  · intro j u hu
    cases j with
    | zero => simp at hu; subst hu; simpa [Addr.add] using hc
    | succ j => simp at hu
  · unfold OwnI
    rw [i64s_append, List.length_append]; exact h1
theorem rep_form {w : World} {base k : Nat} {v : Value} {x : Int} (h : OwnI w base v (List.replicate (k + 1) x)) : ∃ g c, v = .slice (some ⟨g, 0, none⟩) (k + 1) c := by
  rcases h.forms with ⟨_, h0⟩ | ⟨g, c, rfl, _⟩
  · simp at h0
  · exact ⟨g, c, by simp⟩
theorem rep_form' {w : World} {base k : Nat} {v : Value} {x : Int} (h : OwnI w base v (List.replicate k x)) : ∃ ad c, v = .slice ad k c := by
  rcases h.forms with ⟨rfl, h0⟩ | ⟨g, c, rfl, _⟩
  · simp at h0; subst h0; exact ⟨_, _, rfl⟩
  · exact ⟨some ⟨g, 0, none⟩, c, by simp⟩
def deskV (vl vr : Value) (q : Int) : Value := .agg #[vl, vr, .int .i64 q]
def FreshP (w : World) (n : Nat) (e : Ending) (w' : World) : Prop := ∃ vl vr, e = .returned (deskV vl vr 0) ∧ Pair w' w.heap.size n vl vr ∧ Below w.heap.size w w'
theorem Pair.lower {w : World} {B B' k : Nat} {vl vr : Value} (h : Pair w B k vl vr) (hb : B' ≤ B) : Pair w B' k vl vr := ⟨h.ol.lower hb, h.or_.lower hb, h.nil⟩
theorem Pair.setBelow {w : World} {B k : Nat} {vl vr : Value} (h : Pair w B k vl vr) {a : Addr} (ha : a.block < B) (u : Value) : Pair (w.setCell a u) B k vl vr := ⟨h.ol.setBelow ha u, h.or_.setBelow ha u, h.nil⟩
set_option maxHeartbeats 4000000 in
theorem l09Fresh_any {u : Value} (b o n : Nat) (s t bs wk : Int) (w : World) (hc : ServAt w b o s t u bs n wk) (hn : n ≤ 100) :
    Calls Try.prog 93 #[.pointer (some ⟨b, o, none⟩)] w (FreshP w n) := by
  have bA : Below w.heap.size w (w.alloc (.cells #[.slice none 0 0, .slice none 0 0, .int .i64 0] 56)) := (Below.refl _ _).alloc (Nat.le_refl _) _
  have HC := Lib.hid (fun W (h : Below w.heap.size w W) => hc.below h)
  have hbx : Box ((w.alloc (.cells #[.slice none 0 0, .slice none 0 0, .int .i64 0] 56)).alloc (.cells #[.slice none 0 0, .slice none 0 0, .int .i64 0] 56)) (w.heap.size + 1) (.slice none 0 0) (.slice none 0 0) := by
    refine ⟨by simp, ?_, ?_, ?_, ?_, ?_⟩ <;> simp [go_sem]
  have HBX := Lib.hid hbx
  have QW := Lib.hid (fun W (h : Below (w.alloc (.cells #[.slice none 0 0, .slice none 0 0, .int .i64 0] 56)).heap.size (w.alloc (.cells #[.slice none 0 0, .slice none 0 0, .int .i64 0] 56)) W) =>
    show (W.cell? ⟨w.heap.size, 0, none⟩ = some (.slice none 0 0) ∧ W.cell? ⟨w.heap.size, 1, none⟩ = some (.slice none 0 0) ∧ W.cell? ⟨w.heap.size, 2, none⟩ = some (.int .i64 0)) ∧ W.frozen? ⟨w.heap.size, 0, none⟩ = false ∧ W.frozen? ⟨w.heap.size, 1, none⟩ = false ∧ W.frozen? ⟨w.heap.size, 2, none⟩ = false from by
      have a0 := h.cell (p := ⟨w.heap.size, 0, none⟩) (by simp)
      have a1 := h.cell (p := ⟨w.heap.size, 1, none⟩) (by simp)
      have a2 := h.cell (p := ⟨w.heap.size, 2, none⟩) (by simp)
      have f0 := h.frozen (p := ⟨w.heap.size, 0, none⟩) (by simp)
      have f1 := h.frozen (p := ⟨w.heap.size, 1, none⟩) (by simp)
      have f2 := h.frozen (p := ⟨w.heap.size, 2, none⟩) (by simp)
      simp [go_sem] at a0 a1 a2 f0 f1 f2
      exact ⟨⟨a0, a1, a2⟩, f0, f1, f2⟩)
  clear hbx hc
  go_enter Try.func93, Try.ntmps93
  go_wp2
  go_loopw [4] (fun i wr => ∃ (k : Nat) (vl vr : Value), k ≤ n ∧ i = .int .i64 k ∧ Box wr (w.heap.size + 1) vl vr ∧ Pair wr (w.heap.size + 2) k vl vr ∧ Below (w.alloc (.cells #[.slice none 0 0, .slice none 0 0, .int .i64 0] 56)).heap.size (w.alloc (.cells #[.slice none 0 0, .slice none 0 0, .int .i64 0] 56)) wr) (fun i _ => n - (intOf i).toNat)
  case atStart => exact ⟨0, _, _, Nat.zero_le _, rfl, HBX.out, ⟨OwnI.nil _ _, OwnI.nil _ _, fun _ => ⟨rfl, rfl⟩⟩, (Below.refl _ _).alloc (Nat.le_refl _) _⟩
  case round =>
    obtain ⟨k, vl, vr, hk, rfl, hbox, hpair, hbr⟩ := hrel
    obtain ⟨zl, x0, x1, x2, xf0, xf1⟩ := id hbox
    obtain ⟨la, lc, rfl⟩ := rep_form' hpair.ol
    obtain ⟨ra, rc, rfl⟩ := rep_form' hpair.or_
    obtain ⟨⟨_, s0, s1, s2⟩, s3, s4, s5⟩ := HC.out _ (bA.trans (hbr.mono bA.size))
    by_cases hlt : k < n
    · have i1 : (k : Int) < (n : Int) := by omega
      have ba : Below wr.heap.size wr (wr.alloc (.cells #[.int .i64 0] 2)) := (Below.refl _ _).alloc (Nat.le_refl _) _
      have hp0 := hpair.below ba
      have hb0 := hbox.below zl ba
      have hz : w.heap.size + 2 ≤ wr.heap.size := by omega
      have hcell0 : (wr.alloc (.cells #[.int .i64 0] 2)).cell? ⟨wr.heap.size, 0, none⟩ = some (.int .i64 0) := by simp [go_sem]
      have hlen0 : (List.replicate k (0 : Int)).length ≤ 1000 := by simp; omega
      have hzz0 : w.heap.size + 2 ≤ (wr.alloc (.cells #[.int .i64 0] 2)).heap.size := by simp; omega
      have HC0 := Lib.hid hcell0
      have HL0 := Lib.hid hlen0
      have HZ0 := Lib.hid hzz0
      clear hcell0 hlen0 hzz0
      go_wp2_with (at_builtin; refine append1 _ rfl (.tmp 15) (.tmp 16) rfl rfl hp0.ol rfl HC0.out HL0.out HZ0.out ?_)
      intro v1 w1 o1 g1
      rw [rep_snoc] at o1
      have r1 := hp0.step1 g1
      have bl1 := hp0.ol.grown g1 (by simp; omega)
      have bx1 := hb0.below (by omega) bl1
      have hb1 : Below (w.alloc (.cells #[.slice none 0 0, .slice none 0 0, .int .i64 0] 56)).heap.size (w.alloc (.cells #[.slice none 0 0, .slice none 0 0, .int .i64 0] 56)) w1 := (hbr.trans (ba.mono hbr.size)).trans (bl1.mono (by simp))
      obtain ⟨ga, gc, rfl⟩ := rep_form o1
      obtain ⟨_, y0, y1, y2, yf0, yf1⟩ := id bx1
      have HNIL := Lib.hid hpair.nil
      have zw1 := bx1.lt
      go_upto_region 6 with (fail)
      generalize hW2 : w1.setCell ⟨w.heap.size + 1, 0, none⟩ (.slice (some ⟨ga, 0, none⟩) (k + 1) gc) = w2
      have bx2 : Box w2 (w.heap.size + 1) (.slice (some ⟨ga, 0, none⟩) (k + 1) gc) (.slice ra k rc) := by rw [← hW2]; exact bx1.set0 _
      have o2 : OwnI w2 (w.heap.size + 2) (.slice (some ⟨ga, 0, none⟩) (k + 1) gc) (List.replicate (k + 1) 0) := by rw [← hW2]; exact o1.setBelow (by simp) _
      have r2 : OwnI w2 (w.heap.size + 2) (.slice ra k rc) (List.replicate k (-1)) := by rw [← hW2]; exact r1.setBelow (by simp) _
      have hb2 : Below (w.alloc (.cells #[.slice none 0 0, .slice none 0 0, .int .i64 0] 56)).heap.size (w.alloc (.cells #[.slice none 0 0, .slice none 0 0, .int .i64 0] 56)) w2 := by rw [← hW2]; exact hb1.setCell (by simp) _
      clear hW2 bx1 o1 r1 hb1 y0 y1 y2 yf0 yf1 zw1 bl1 g1 hb0 hp0 ba x0 x1 x2 xf0 xf1 hbox hpair hbr
      obtain ⟨zl2, y0, y1, y2, yf0, yf1⟩ := id bx2
      have ba : Below w2.heap.size w2 (w2.alloc (.cells #[.int .i64 (-1)] 2)) := (Below.refl _ _).alloc (Nat.le_refl _) _
      have r3 := r2.below ba
      have o3 := o2.below ba
      have b3 := bx2.below zl2 ba
      have hcell0 : (w2.alloc (.cells #[.int .i64 (-1)] 2)).cell? ⟨w2.heap.size, 0, none⟩ = some (.int .i64 (-1)) := by simp [go_sem]
      have hlen0 : (List.replicate k (-1 : Int)).length ≤ 1000 := by simp; omega
      have hzz0 : w.heap.size + 2 ≤ (w2.alloc (.cells #[.int .i64 (-1)] 2)).heap.size := by simp; omega
      have HC1 := Lib.hid hcell0
      have HL1 := Lib.hid hlen0
      have HZ1 := Lib.hid hzz0
      clear hcell0 hlen0 hzz0
      go_wp2_with (at_builtin; refine append1 _ rfl (.tmp 20) (.tmp 21) rfl rfl r3 rfl HC1.out HL1.out HZ1.out ?_)
      intro v4 w4 o4 g4
      rw [rep_snoc] at o4
      have p4 := Pair.step2 o3 r3 (fun h => (HNIL.out h).2) g4 o4
      have bl4 := r3.grown g4 HZ1.out
      have bx4 := b3.below (by omega) bl4
      have hb4 : Below (w.alloc (.cells #[.slice none 0 0, .slice none 0 0, .int .i64 0] 56)).heap.size (w.alloc (.cells #[.slice none 0 0, .slice none 0 0, .int .i64 0] 56)) w4 := (hb2.trans (ba.mono hb2.size)).trans (bl4.mono (by simp))
      obtain ⟨gb, gd, rfl⟩ := rep_form o4
      obtain ⟨_, t0, t1, t2, tf0, tf1⟩ := id bx4
      clear r2 r3 o2 o3 b3 bx2 o4 g4 bl4 ba y0 y1 y2 yf0 yf1
      go_wp2
      go_roundw
      case rel => exact ⟨k + 1, _, _, by omega, by go_num, bx4.set1 _, p4.setBelow (by simp) _, hb4.setCell (by simp) _⟩
      case measure => simp [intOf]; omega
    · obtain rfl : k = n := by omega
      obtain ⟨⟨q0, q1, q2⟩, qf0, qf1, qf2⟩ := QW.out _ hbr
      go_wp2
      refine bodyPost_ret (v := deskV (.slice la k lc) (.slice ra k rc) 0) (by simp [results, Try.results93, go_sem, deskV, q0, q1, q2]) rfl ⟨_, _, rfl, ?_, ?_⟩
      · skip
        exact (((hpair.setBelow (by simp) _).setBelow (by simp) _).setBelow (by simp) _).lower (by omega)
      · exact ((((bA.trans (hbr.mono bA.size))).setCell (Nat.le_refl _) _).setCell (Nat.le_refl _) _).setCell (Nat.le_refl _) _
end Go.Proofs.Ytijpkcdalmlaiaa
namespace Go.Proofs.Ytijpkcdalmlaiaa
open Go.RowKit Go.Sort
theorem step_append2 {ops : Array Oper} {o : Oper} {a : Act} {K : Act → World → Prop} {Q : Exit → Act → World → Prop} {E : Prop} {w : World} {w0 : World} (hgd : o.guard = none) (s x : Operand)
    (ho : o.op = .call { callee := .builtin .append, args := #[s, x], argTypes := #[30, 30] })
    {base : Nat} {v : Value} {xs : List Int} {y : Int} {g : Nat} (hbw : Below w0.heap.size w0 w) (hs : a.eval s = v) (hown : OwnI w0 base v xs) (hx : a.eval x = .slice (some ⟨g, 0, none⟩) 1 1) (hc : w.cell? ⟨g, 0, none⟩ = some (.int .i64 y)) (hlen : xs.length ≤ 1000) (hbase : base ≤ w0.heap.size)
    (h : ∀ v' w', Below w0.heap.size w0 w → OwnI w base v xs → OwnI w' base v' (xs ++ [y]) → w.grownBy w' v.ownBlock → K (a.put o.dst v') w') : if Region.wanted o (yielded ops a.tmps) = true then Oper.wp Try.prog o a w K Q else E :=
  step_append1 w hgd s x ho hs (hown.below hbw) hx hc hlen (Nat.le_trans hbase hbw.size) (fun v' w' h1 h2 => h v' w' hbw (hown.below hbw) h1 h2)
set_option maxHeartbeats 8000000 in
theorem newDesk_any {a : Option Addr} {c m n : Nat} (s t bs wk : Int) (w : World) (hn : n ≤ 100) :
    Calls Try.prog 103 #[.agg #[.int .i64 s, .int .i64 t, .slice a m c, .int .i64 bs, .int .i64 n, .int .i64 wk]] w (FreshP w n) := by
  have bS : Below w.heap.size w (w.alloc (.cells #[.int .i64 s, .int .i64 t, .slice a m c, .int .i64 bs, .int .i64 n, .int .i64 wk] 35)) := (Below.refl _ _).alloc (Nat.le_refl _) _
  have XS := svBox w s t (.slice a m c) bs n wk
  have bA : Below w.heap.size w ((w.alloc (.cells #[.int .i64 s, .int .i64 t, .slice a m c, .int .i64 bs, .int .i64 n, .int .i64 wk] 35)).alloc (.cells #[.slice none 0 0, .slice none 0 0, .int .i64 0] 56)) := bS.alloc bS.size _
  have HSV := Lib.hid (fun W (h : Below ((w.alloc (.cells #[.int .i64 s, .int .i64 t, .slice a m c, .int .i64 bs, .int .i64 n, .int .i64 wk] 35)).alloc (.cells #[.slice none 0 0, .slice none 0 0, .int .i64 0] 56)).heap.size ((w.alloc (.cells #[.int .i64 s, .int .i64 t, .slice a m c, .int .i64 bs, .int .i64 n, .int .i64 wk] 35)).alloc (.cells #[.slice none 0 0, .slice none 0 0, .int .i64 0] 56)) W) => (XS.below ((Below.refl _ _).alloc (Nat.le_refl _) (.cells #[.slice none 0 0, .slice none 0 0, .int .i64 0] 56))).below h)
  have hbx : Box (((w.alloc (.cells #[.int .i64 s, .int .i64 t, .slice a m c, .int .i64 bs, .int .i64 n, .int .i64 wk] 35)).alloc (.cells #[.slice none 0 0, .slice none 0 0, .int .i64 0] 56)).alloc (.cells #[.slice none 0 0, .slice none 0 0, .int .i64 0] 56)) (w.heap.size + 2) (.slice none 0 0) (.slice none 0 0) := by
    refine ⟨by simp, ?_, ?_, ?_, ?_, ?_⟩ <;> simp [go_sem]
  have HBX := Lib.hid hbx
  have QW := Lib.hid (fun W (h : Below ((w.alloc (.cells #[.int .i64 s, .int .i64 t, .slice a m c, .int .i64 bs, .int .i64 n, .int .i64 wk] 35)).alloc (.cells #[.slice none 0 0, .slice none 0 0, .int .i64 0] 56)).heap.size ((w.alloc (.cells #[.int .i64 s, .int .i64 t, .slice a m c, .int .i64 bs, .int .i64 n, .int .i64 wk] 35)).alloc (.cells #[.slice none 0 0, .slice none 0 0, .int .i64 0] 56)) W) =>
    show (W.cell? ⟨w.heap.size + 1, 0, none⟩ = some (.slice none 0 0) ∧ W.cell? ⟨w.heap.size + 1, 1, none⟩ = some (.slice none 0 0) ∧ W.cell? ⟨w.heap.size + 1, 2, none⟩ = some (.int .i64 0)) ∧ W.frozen? ⟨w.heap.size + 1, 0, none⟩ = false ∧ W.frozen? ⟨w.heap.size + 1, 1, none⟩ = false ∧ W.frozen? ⟨w.heap.size + 1, 2, none⟩ = false from by
      have a0 := h.cell (p := ⟨w.heap.size + 1, 0, none⟩) (by simp)
      have a1 := h.cell (p := ⟨w.heap.size + 1, 1, none⟩) (by simp)
      have a2 := h.cell (p := ⟨w.heap.size + 1, 2, none⟩) (by simp)
      have f0 := h.frozen (p := ⟨w.heap.size + 1, 0, none⟩) (by simp)
      have f1 := h.frozen (p := ⟨w.heap.size + 1, 1, none⟩) (by simp)
      have f2 := h.frozen (p := ⟨w.heap.size + 1, 2, none⟩) (by simp)
      simp [go_sem] at a0 a1 a2 f0 f1 f2
      exact ⟨⟨a0, a1, a2⟩, f0, f1, f2⟩)
  clear hbx XS bS
  go_enter Try.func103, Try.ntmps103
  go_wp2
  go_loopw [7] (fun i wr => ∃ (k : Nat) (vl vr : Value), k ≤ n ∧ i = .int .i64 k ∧ Box wr (w.heap.size + 2) vl vr ∧ Pair wr (w.heap.size + 3) k vl vr ∧ Below ((w.alloc (.cells #[.int .i64 s, .int .i64 t, .slice a m c, .int .i64 bs, .int .i64 n, .int .i64 wk] 35)).alloc (.cells #[.slice none 0 0, .slice none 0 0, .int .i64 0] 56)).heap.size ((w.alloc (.cells #[.int .i64 s, .int .i64 t, .slice a m c, .int .i64 bs, .int .i64 n, .int .i64 wk] 35)).alloc (.cells #[.slice none 0 0, .slice none 0 0, .int .i64 0] 56)) wr) (fun i _ => n - (intOf i).toNat)
  case atStart => exact ⟨0, _, _, Nat.zero_le _, rfl, HBX.out, ⟨OwnI.nil _ _, OwnI.nil _ _, fun _ => ⟨rfl, rfl⟩⟩, (Below.refl _ _).alloc (Nat.le_refl _) _⟩
  case round =>
    obtain ⟨k, vl, vr, hk, rfl, hbox, hpair, hbr⟩ := hrel
    obtain ⟨zl, x0, x1, x2, xf0, xf1⟩ := id hbox
    obtain ⟨la, lc, rfl⟩ := rep_form' hpair.ol
    obtain ⟨ra, rc, rfl⟩ := rep_form' hpair.or_
    by_cases hlt : k < n
    · have i1 : (k : Int) < (n : Int) := by omega
      have HP := Lib.hid hpair
      have HB := Lib.hid hbox
      have HBR := Lib.hid hbr
      have hz : w.heap.size + 3 ≤ wr.heap.size := by omega
      have zl' : w.heap.size + 1 < wr.heap.size := by omega
      have hzb : w.heap.size + 2 < w.heap.size + 3 := by omega
      have hzz : ((w.alloc (.cells #[.int .i64 s, .int .i64 t, .slice a m c, .int .i64 bs, .int .i64 n, .int .i64 wk] 35)).alloc (.cells #[.slice none 0 0, .slice none 0 0, .int .i64 0] 56)).heap.size ≤ w.heap.size + 3 := by simp
      have hln : (List.replicate k (0 : Int)).length ≤ 1000 := by simp; omega
      have hln2 : (List.replicate k (-1 : Int)).length ≤ 1000 := by simp; omega
      have HL0 := Lib.hid hln
      have HL1 := Lib.hid hln2
      clear hln hln2 hpair hbox hbr
      go_wp2_with fail
      go_region_law? (first
        | (refine step_append2 (w0 := wr) rfl (.tmp 10) (.tmp 11) rfl (y := 0) (base := w.heap.size + 3) (g := wr.heap.size) (by (repeat (first | exact Below.refl _ _ | refine Below.drew ?_ | refine Below.alloc ?_ (by simp) _))) (by first | (simp [Act.eval, Act.put]; done) | fail) HP.out.ol (by first | (simp [Act.eval, Act.put]; done) | fail) (by first | (simp [go_sem]; done) | fail) HL0.out (by omega) ?_; intro v1 w1 bA1 q1 o1 g1; rw [rep_snoc] at o1; have bl1 := (bA1.mono hz).trans (q1.grown g1 (Nat.le_trans hz bA1.size)); have hw1 := HBR.out.trans (bl1.mono hzz); have bx1 := HB.out.below hzb bl1; have hz1 := Nat.le_trans hz bl1.size; have r1 := (HP.out.below bA1).step1 g1; have gz := Nat.le_trans bA1.size g1.size; obtain ⟨ga, gc, rfl⟩ := rep_form o1; obtain ⟨zl1, y0, y1, y2, yf0, yf1⟩ := id bx1; have zl1' : w.heap.size + 1 < w1.heap.size := Nat.lt_of_lt_of_le (Nat.lt_succ_self _) (Nat.le_of_lt zl1))
        | (refine step_append2 (w0 := wr) rfl (.tmp 10) (.tmp 11) rfl (y := 0) (base := w.heap.size + 3) (g := wr.heap.size + 1) (by (repeat (first | exact Below.refl _ _ | refine Below.drew ?_ | refine Below.alloc ?_ (by simp) _))) (by first | (simp [Act.eval, Act.put]; done) | fail) HP.out.ol (by first | (simp [Act.eval, Act.put]; done) | fail) (by first | (simp [go_sem]; done) | fail) HL0.out (by omega) ?_; intro v1 w1 bA1 q1 o1 g1; rw [rep_snoc] at o1; have bl1 := (bA1.mono hz).trans (q1.grown g1 (Nat.le_trans hz bA1.size)); have hw1 := HBR.out.trans (bl1.mono hzz); have bx1 := HB.out.below hzb bl1; have hz1 := Nat.le_trans hz bl1.size; have r1 := (HP.out.below bA1).step1 g1; have gz := Nat.le_trans bA1.size g1.size; obtain ⟨ga, gc, rfl⟩ := rep_form o1; obtain ⟨zl1, y0, y1, y2, yf0, yf1⟩ := id bx1; have zl1' : w.heap.size + 1 < w1.heap.size := Nat.lt_of_lt_of_le (Nat.lt_succ_self _) (Nat.le_of_lt zl1))
        | (refine step_append2 (w0 := w1) rfl (.tmp 14) (.tmp 15) rfl (y := -1) (g := w1.heap.size) (base := w.heap.size + 3) (xs := List.replicate k (-1)) (by (repeat (first | exact Below.refl _ _ | refine Below.drew ?_ | refine Below.alloc ?_ (by simp) _))) (by first | (simp [Act.eval, Act.put]; done) | fail) r1 (by first | (simp [Act.eval, Act.put]; done) | fail) (by first | (simp [go_sem]; done) | fail) HL1.out (by omega) ?_; intro v2 w2 bB1 q2 o2 g2; rw [rep_snoc] at o2; have p2 := Pair.step2 (o1.below bB1) q2 (fun h => (HP.out.nil h).2) g2 o2; have bl2 := (bB1.mono hz1).trans (q2.grown g2 (Nat.le_trans hz1 bB1.size)); have bx2 := bx1.below hzb bl2; have hw2 := hw1.trans (bl2.mono hzz); have hz2 := Nat.le_trans hz1 bl2.size; obtain ⟨gb, gd, rfl⟩ := rep_form o2; obtain ⟨zl2, t0, t1, t2, tf0, tf1⟩ := id bx2)
        | (refine step_append2 (w0 := w1) rfl (.tmp 14) (.tmp 15) rfl (y := -1) (g := wr.heap.size) (base := w.heap.size + 3) (xs := List.replicate k (-1)) (by (repeat (first | exact Below.refl _ _ | refine Below.drew ?_ | refine Below.alloc ?_ (by simp) _))) (by first | (simp [Act.eval, Act.put]; done) | fail) r1 (by first | (simp [Act.eval, Act.put]; done) | fail) (by (try simp [go_sem]); rw [grown_cell g1 (g := wr.heap.size) (by first | (simp; done) | (simp; omega)) (by intro e; have := ((HP.out.below bA1).lt).1 _ e.symm; have := HP.out.lt.1 _ e.symm; omega)]; first | (simp [go_sem]; done) | fail) HL1.out (by omega) ?_; intro v2 w2 bB1 q2 o2 g2; rw [rep_snoc] at o2; have p2 := Pair.step2 (o1.below bB1) q2 (fun h => (HP.out.nil h).2) g2 o2; have bl2 := (bB1.mono hz1).trans (q2.grown g2 (Nat.le_trans hz1 bB1.size)); have bx2 := bx1.below hzb bl2; have hw2 := hw1.trans (bl2.mono hzz); have hz2 := Nat.le_trans hz1 bl2.size; obtain ⟨gb, gd, rfl⟩ := rep_form o2; obtain ⟨zl2, t0, t1, t2, tf0, tf1⟩ := id bx2)
        | (refine step_append2 (w0 := w1) rfl (.tmp 14) (.tmp 15) rfl (y := -1) (g := wr.heap.size + 1) (base := w.heap.size + 3) (xs := List.replicate k (-1)) (by (repeat (first | exact Below.refl _ _ | refine Below.drew ?_ | refine Below.alloc ?_ (by simp) _))) (by first | (simp [Act.eval, Act.put]; done) | fail) r1 (by first | (simp [Act.eval, Act.put]; done) | fail) (by (try simp [go_sem]); rw [grown_cell g1 (g := wr.heap.size + 1) (by first | (simp; done) | (simp; omega)) (by intro e; have := ((HP.out.below bA1).lt).1 _ e.symm; have := HP.out.lt.1 _ e.symm; omega)]; first | (simp [go_sem]; done) | fail) HL1.out (by omega) ?_; intro v2 w2 bB1 q2 o2 g2; rw [rep_snoc] at o2; have p2 := Pair.step2 (o1.below bB1) q2 (fun h => (HP.out.nil h).2) g2 o2; have bl2 := (bB1.mono hz1).trans (q2.grown g2 (Nat.le_trans hz1 bB1.size)); have bx2 := bx1.below hzb bl2; have hw2 := hw1.trans (bl2.mono hzz); have hz2 := Nat.le_trans hz1 bl2.size; obtain ⟨gb, gd, rfl⟩ := rep_form o2; obtain ⟨zl2, t0, t1, t2, tf0, tf1⟩ := id bx2)
        | fail "no arm")
      all_goals
        go_wp2
        go_roundw
        case rel => exact ⟨k + 1, _, _, by omega, by go_num, (bx2.set0 _).set1 _, (p2.setBelow (by simp) _).setBelow (by simp) _, (hw2.setCell (by simp) _).setCell (by simp) _⟩
        case measure => simp [intOf]; omega
    · obtain rfl : k = n := by omega
      obtain ⟨⟨q0, q1, q2⟩, qf0, qf1, qf2⟩ := QW.out _ hbr
      go_wp2
      refine bodyPost_ret (v := deskV (.slice la k lc) (.slice ra k rc) 0) (by simp [results, Try.results103, go_sem, deskV, q0, q1, q2]) rfl ⟨_, _, rfl, ?_, ?_⟩
      · exact (((hpair.setBelow (by simp) _).setBelow (by simp) _).setBelow (by simp) _).lower (by omega)
      · exact ((((bA.trans (hbr.mono bA.size))).setCell (by simp) _).setCell (by simp) _).setCell (by simp) _
end Go.Proofs.Ytijpkcdalmlaiaa
namespace Go.Proofs.Ytijpkcdalmlaiaa
open Go.RowKit Go.Sort
def learn3 (d : List Int × List Int × Int) (x : Int × Int × Int) : Option (List Int × List Int × Int) := learnF d.1 d.2.1 d.2.2 x.1 x.2.1 x.2.2
def learnAll : List (Int × Int × Int) → List Int × List Int × Int → Option (List Int × List Int × Int)
  | [], d => some d
  | x :: r, d => match learn3 d x with | some d' => learnAll r d' | none => none
theorem learnAll_some {xs : List (Int × Int × Int)} {k : Nat} {d d' : List Int × List Int × Int} (h : k < xs.length) (hd : learn3 d xs[k] = some d') : learnAll (xs.drop k) d = learnAll (xs.drop (k + 1)) d' := by
  rw [List.drop_eq_getElem_cons h]
  show (match learn3 d xs[k] with | some d' => learnAll (xs.drop (k + 1)) d' | none => none) = _
  rw [hd]
theorem learnAll_none {xs : List (Int × Int × Int)} {k : Nat} {d : List Int × List Int × Int} (h : k < xs.length) (hd : learn3 d xs[k] = none) : learnAll (xs.drop k) d = none := by
  rw [List.drop_eq_getElem_cons h]
  show (match learn3 d xs[k] with | some d' => learnAll (xs.drop (k + 1)) d' | none => none) = _
  rw [hd]
def DeskOk (n : Nat) (d : List Int × List Int × Int) : Prop := d.1.length = n ∧ d.2.1.length = n ∧ (∀ x ∈ d.1, 0 ≤ x ∧ x ≤ 7) ∧ 0 ≤ d.2.2 ∧ d.2.2 ≤ n
theorem deskOk_new (n : Nat) : DeskOk n (List.replicate n 0, List.replicate n (-1), 0) := by
  refine ⟨by simp, by simp, ?_, by simp, by simp⟩
  intro x hx
  simp at hx
  omega
theorem learn3_ok {n : Nat} {st : Int} {d d' : List Int × List Int × Int} {x : Int × Int × Int} (hd : DeskOk n d) (hx : recOk st n x.1 x.2.1 x.2.2 = true) (h : learn3 d x = some d') : DeskOk n d' := by
  obtain ⟨h1, h2, h3, h4, h5⟩ := hd
  unfold recOk at hx
  rw [Bool.and_eq_true] at hx
  obtain ⟨ha, hb⟩ := hx
  have hs := inR_iff.1 ha
  unfold learn3 learnF at h
  split at h
  · rename_i hk
    rw [if_pos hk] at hb
    have hv := inR_iff.1 hb
    split at h
    · simp at h
      subst h
      refine ⟨by simp [h1], by dsimp only; split <;> simp [h2], ?_, h4, h5⟩
      intro y hy
      rcases List.mem_or_eq_of_mem_set hy with hy | rfl
      · exact h3 y hy
      · omega
    · simp at h
  · split at h
    · split at h
      · simp at h
        subst h
        exact ⟨h1, by simp [h2], h3, h4, h5⟩
      · simp at h
    · split at h
      · rename_i hq
        simp at h
        subst h
        exact ⟨h1, h2, h3, by show 0 ≤ d.2.2 + 1; omega, by show d.2.2 + 1 ≤ n; omega⟩
      · simp at h
/-- what stands where a desk's run ends -/
def DeskO (w : World) (base : Nat) (vl vr : Value) (l r : List Int) : Prop := OwnI w base vl l ∧ OwnI w base vr r ∧ r.length = l.length ∧ ∀ g, vl.ownBlock = some g → vr.ownBlock ≠ some g
theorem DeskO.nil (w : World) (base : Nat) : DeskO w base (.slice none 0 0) (.slice none 0 0) [] [] := ⟨OwnI.nil _ _, OwnI.nil _ _, rfl, fun g h => by simp [Value.ownBlock] at h⟩
theorem DeskO.below {w w' : World} {base : Nat} {vl vr : Value} {l r : List Int} (h : DeskO w base vl vr l r) (hb : Below w.heap.size w w') : DeskO w' base vl vr l r := ⟨h.1.below hb, h.2.1.below hb, h.2.2⟩
theorem DeskO.lower {w : World} {base base' : Nat} {vl vr : Value} {l r : List Int} (h : DeskO w base vl vr l r) (hb : base' ≤ base) : DeskO w base' vl vr l r := ⟨h.1.lower hb, h.2.1.lower hb, h.2.2⟩
theorem DeskO.setBelow {w : World} {base : Nat} {vl vr : Value} {l r : List Int} (h : DeskO w base vl vr l r) {a : Addr} (ha : a.block < base) (u : Value) : DeskO (w.setCell a u) base vl vr l r := ⟨ownsRow_setCell_below h.1 ha u, ownsRow_setCell_below h.2.1 ha u, h.2.2⟩
theorem DeskIs.out {w : World} {base b o gl cl gr cr : Nat} {lv rs : List Int} {outs : Int} (h : DeskIs w base b o gl cl gr cr lv rs outs) : DeskO w base (.slice (some ⟨gl, 0, none⟩) lv.length cl) (.slice (some ⟨gr, 0, none⟩) lv.length cr) lv rs :=
  ⟨h.ol, h.or_, h.len, fun g hg hg' => h.lr (by simp [Value.ownBlock] at hg hg'; omega)⟩
def DeskRunP (w : World) (n : Nat) (xs : List (Int × Int × Int)) (e : Ending) (w' : World) : Prop :=
  ∃ (res : Option (List Int × List Int × Int)) (vl vr : Value), res = learnAll xs (List.replicate n 0, List.replicate n (-1), 0) ∧
    e = .returned (.tuple #[deskV vl vr (res.getD ([], [], 0)).2.2, .bool res.isSome]) ∧ DeskO w' w.heap.size vl vr (res.getD ([], [], 0)).1 (res.getD ([], [], 0)).2.1 ∧ Below w.heap.size w w'
def DeskRunSP (w : World) (n : Nat) (xs : List (Int × Int × Int)) (e : Ending) (w' : World) : Prop :=
  ∃ (vl vr : Value) (l r : List Int) (q : Int), e = .returned (.tuple #[deskV vl vr q, .bool (learnAll xs (List.replicate n 0, List.replicate n (-1), 0)).isSome]) ∧ DeskO w' w.heap.size vl vr l r ∧ Below w.heap.size w w' ∧
    ∀ d, learnAll xs (List.replicate n 0, List.replicate n (-1), 0) = some d → d = (l, r, q)
end Go.Proofs.Ytijpkcdalmlaiaa
namespace Go.Proofs.Ytijpkcdalmlaiaa
open Go.RowKit Go.Sort
def lineL (x : Int × Int × Int) : List UInt8 := (recB x.1 x.2.1.toNat x.2.2.toNat).data.toList
def textL : List (Int × Int × Int) → List UInt8
  | [] => []
  | x :: r => lineL x ++ 10 :: textL r
theorem linesR_list : ∀ (xs : List (Int × Int × Int)) (acc : ByteArray), (linesR acc xs).data.toList = acc.data.toList ++ textL xs
  | [], acc => by simp [linesR, textL]
  | x :: r, acc => by
    unfold linesR
    rw [linesR_list r, app_list, app_list]
    show _ = acc.data.toList ++ (lineL x ++ 10 :: textL r)
    unfold lineL
    simp
theorem dig_no {c : UInt8} (h : ¬ (48 ≤ c.toNat ∧ c.toNat ≤ 57)) (n : Nat) : c ∉ (decB n).data.toList := by
  intro hm
  have := dec_all n c hm
  exact h this
theorem line_no (x : Int × Int × Int) : (10 : UInt8) ∉ lineL x := by
  have hd : ∀ n, (10 : UInt8) ∉ (decB n).data.toList := dig_no (by decide)
  unfold lineL recB
  split
  · rw [app_list, app_list, app_list]
    simp only [List.mem_append, not_or]
    exact ⟨by decide, ⟨hd _, by decide⟩, hd _⟩
  · split
    · rw [app_list, app_list, app_list]
      simp only [List.mem_append, not_or]
      exact ⟨by decide, ⟨hd _, by decide⟩, hd _⟩
    · rw [app_list]
      simp only [List.mem_append, not_or]
      exact ⟨by decide, hd _⟩
/-- a torn text's lines -/
theorem torn : ∀ (xs : List (Int × Int × Int)) (i : Nat), ∃ rest : List UInt8, wordsL 10 [] ((textL xs).take i) = (xs.take (((textL xs).take i).count 10)).map lineL ++ [rest] ∧ ((textL xs).take i).count 10 ≤ xs.length
  | [], i => ⟨[], by simp [textL, wordsL], by simp [textL]⟩
  | x :: r, i => by
    by_cases h : i ≤ (lineL x).length
    · have e : (textL (x :: r)).take i = (lineL x).take i := by
        show (lineL x ++ 10 :: textL r).take i = _
        rw [List.take_append_of_le_length h]
      have hn : (10 : UInt8) ∉ (lineL x).take i := fun hm => line_no x (List.mem_of_mem_take hm)
      rw [e, List.count_eq_zero_of_not_mem hn, wordsL_no _ _ hn]
      exact ⟨_, rfl, Nat.zero_le _⟩
    · obtain ⟨k, hk⟩ : ∃ k, i = (lineL x).length + (k + 1) := ⟨i - (lineL x).length - 1, by omega⟩
      have e : (textL (x :: r)).take i = lineL x ++ 10 :: (textL r).take k := by
        show (lineL x ++ 10 :: textL r).take i = _
        rw [hk, List.take_append, List.take_of_length_le (by omega), show (lineL x).length + (k + 1) - (lineL x).length = k + 1 by omega, List.take_succ_cons]
      obtain ⟨rest, h1, h2⟩ := torn r k
      have hc : (lineL x ++ 10 :: (textL r).take k).count 10 = ((textL r).take k).count 10 + 1 := by
        rw [List.count_append, List.count_eq_zero_of_not_mem (line_no x), List.count_cons_self]; omega
      refine ⟨rest, ?_, ?_⟩
      · rw [e, hc, wordsL_app _ _ _ (line_no x), h1]; simp
      · rw [e, hc]; simp; omega
theorem recOf_line {st sm : Int} {x : Int × Int × Int} (h : recOk st sm x.1 x.2.1 x.2.2 = true) (h2 : sm ≤ 8) (h4 : st ≤ 6) : recOf st sm (mkB (lineL x)) = some x := by
  have hr : IsRec st sm (mkB (lineL x)) x := ⟨h, by unfold lineL; rw [mkB_toList]⟩
  rw [recOf_iff (readRecR_of hr h2 h4), if_pos h]
theorem readAll_lines {st sm : Int} (h2 : sm ≤ 8) (h4 : st ≤ 6) : ∀ (xs acc : List (Int × Int × Int)), (∀ x ∈ xs, recOk st sm x.1 x.2.1 x.2.2 = true) → readAll st sm ((xs.map lineL).map mkB) acc = (acc ++ xs, 0)
  | [], acc, _ => by simp [readAll]
  | x :: r, acc, h => by
    show (match recOf st sm (mkB (lineL x)) with | some q => readAll st sm ((r.map lineL).map mkB) (acc ++ [q]) | none => ([], 5)) = _
    rw [recOf_line (h x (by simp)) h2 h4]
    show readAll st sm ((r.map lineL).map mkB) (acc ++ [x]) = _
    rw [readAll_lines h2 h4 r _ (fun y hy => h y (by simp [hy]))]
    simp
/-- the records of a torn text -/
theorem read_torn {s t : Int} {xss : List (List Int)} {bs sm wk : Int} (hs : serviceOk s t xss bs sm wk = true) (h2 : sm ≤ 8) (h4 : s ≤ 6) {xs : List (Int × Int × Int)} (hx : ∀ x ∈ xs, recOk s sm x.1 x.2.1 x.2.2 = true) (i : Nat) {text : ByteArray} (ht : text.data.toList = (textL xs).take i) (hsz : text.size ≤ 20000) :
    jReadR s t xss bs sm wk text = (xs.take (text.data.toList.count 10), 0) ∧ text.data.toList.count 10 ≤ xs.length := by
  obtain ⟨rest, h5, h6⟩ := torn xs i
  unfold jReadR
  rw [if_pos hs, if_pos hsz, cuts_eq, ht, h5]
  refine ⟨?_, h6⟩
  rw [List.map_append, List.length_append]
  simp only [List.map_cons, List.map_nil, List.length_cons, List.length_nil, Nat.add_sub_cancel]
  rw [List.take_left' rfl]
  rw [readAll_lines h2 h4 _ _ (fun x hm => hx x (List.mem_of_mem_take hm))]
  simp
theorem textL_len {xs : List (Int × Int × Int)} (h : ∀ x ∈ xs, (lineL x).length ≤ 16) : (textL xs).length ≤ 17 * xs.length := by
  induction xs with
  | nil => simp [textL]
  | cons x r ih =>
    have h1 := h x (by simp)
    have h2 := ih (fun y hy => h y (by simp [hy]))
    show (lineL x ++ 10 :: textL r).length ≤ _
    simp only [List.length_append, List.length_cons]
    omega
theorem learnAll_app : ∀ (xs ys : List (Int × Int × Int)) (d : List Int × List Int × Int), learnAll (xs ++ ys) d = (learnAll xs d).bind (learnAll ys)
  | [], ys, d => rfl
  | x :: r, ys, d => by
    show (match learn3 d x with | some d' => learnAll (r ++ ys) d' | none => none) = Option.bind (match learn3 d x with | some d' => learnAll r d' | none => none) (learnAll ys)
    cases learn3 d x with
    | none => rfl
    | some d' => exact learnAll_app r ys d'
theorem learnAll_take {xs : List (Int × Int × Int)} {d d' : List Int × List Int × Int} (h : learnAll xs d = some d') (k : Nat) : ∃ e, learnAll (xs.take k) d = some e := by
  rw [← List.take_append_drop k xs, learnAll_app] at h
  cases hh : learnAll (xs.take k) d with
  | none => rw [hh] at h; cases h
  | some e => exact ⟨e, rfl⟩
end Go.Proofs.Ytijpkcdalmlaiaa
