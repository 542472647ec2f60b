/-
  A desk at first, both sides.
-/
import Derived.Test.YthbbnjpadmcbmaaLearnI
import Derived.Test.YthbbnjpadmcbmaaLearnS
import Derived.Deep.RegionLaw
namespace Go.Proofs.Ythbbnjpadmcbmaa
open Go.RowKit Go.Sort
theorem own_ne {w : World} {b b' : Nat} {u v : Value} {x y : Int} {xs ys : List Int} (h : OwnI w b u (x :: xs)) (h' : OwnI w b' v (y :: ys)) (hxy : x ≠ y) {g : Nat} (hu : u.ownBlock = some g) : v.ownBlock ≠ some g := by
  intro hv
  rcases h.forms with ⟨rfl, _⟩ | ⟨g1, c1, rfl, _⟩
  · simp [Value.ownBlock] at hu
  · rcases h'.forms with ⟨rfl, _⟩ | ⟨g2, c2, rfl, _⟩
    · simp [Value.ownBlock] at hv
    · simp [Value.ownBlock] at hu hv
      subst hu
      subst hv
      have a := h.cell (i := 0) (by simp)
      have b := h'.cell (i := 0) (by simp)
      rw [a] at b
      simp at b
      exact hxy b
/-- append of one number, with what it leaves -/
theorem step_append1 {ops : Array Oper} {o : Oper} {a : Act} {K : Act → World → Prop} {Q : Exit → Act → World → Prop} {E : Prop} (w : World) (hgd : o.guard = none) (s x : Operand)
    (ho : o.op = .call { callee := .builtin .append, args := #[s, x], argTypes := #[30, 30] })
    {base : Nat} {v : Value} {xs : List Int} {y : Int} {g : Nat} (hs : a.eval s = v) (hown : OwnI w base v xs) (hx : a.eval x = .slice (some ⟨g, 0, none⟩) 1 1) (hc : w.cell? ⟨g, 0, none⟩ = some (.int .i64 y)) (hlen : xs.length ≤ 1000) (hbase : base ≤ w.heap.size)
    (h : ∀ v' w', OwnI w' base v' (xs ++ [y]) → w.grownBy w' v.ownBlock → K (a.put o.dst v') w') : if Region.wanted o (yielded ops a.tmps) = true then Oper.wp Try.prog o a w K Q else E := by
  have hw : Region.wanted o (yielded ops a.tmps) = true := by simp [Region.wanted, hgd]
  rw [if_pos hw]
  obtain ⟨i0, hi, hz0, hz1, hz2⟩ := info_parts info2
  refine wp_append_own w s x _ ho base 2 i0 (.int .i64 0) 1 8 Try.underlying30 hi hz0 hz1 hz2 rfl (by decide) v xs.length (i64s xs) hs hown ⟨g, 0, none⟩ 1 1 [.int .i64 y] hx rfl ?_ (by intro u hu; simp at hu; subst hu; rfl) (by simp [maxLen]; omega) (by omega) hbase (fun v' w' h1 h2 _ => h v' w' ?_ h2)
  · intro j u hu
    cases j with
    | zero => simp at hu; subst hu; simpa [Addr.add] using hc
    | succ j => simp at hu
  · unfold OwnI
    rw [i64s_append, List.length_append]; exact h1
theorem grown_cell {w w' : World} {row : Option Nat} (h : w.grownBy w' row) {g : Nat} (hg : g < w.heap.size) (hne : some g ≠ row) (i : Nat) : w'.cell? ⟨g, i, none⟩ = w.cell? ⟨g, i, none⟩ := World.cell?_of_block (h.block g hg hne)
/-- both lists of a fresh desk, k long -/
structure Pair (w : World) (B k : Nat) (vl vr : Value) : Prop where
  ol : OwnI w B vl (List.replicate k 0)
  or_ : OwnI w B vr (List.replicate k (-1))
  nil : k = 0 → vl = .slice none 0 0 ∧ vr = .slice none 0 0
theorem Pair.ne {w : World} {B k : Nat} {vl vr : Value} (h : Pair w B k vl vr) {g : Nat} (hg : vl.ownBlock = some g) : vr.ownBlock ≠ some g := by
  cases k with
  | zero => rw [(h.nil rfl).1] at hg; simp [Value.ownBlock] at hg
  | succ k => exact own_ne (by simpa [List.replicate_succ] using h.ol) (by simpa [List.replicate_succ] using h.or_) (by decide) hg
theorem Pair.below {w w' : World} {B k : Nat} {vl vr : Value} (h : Pair w B k vl vr) (hb : Below w.heap.size w w') : Pair w' B k vl vr := ⟨h.ol.below hb, h.or_.below hb, h.nil⟩
theorem Pair.lt {w : World} {B k : Nat} {vl vr : Value} (h : Pair w B k vl vr) : (∀ g, vl.ownBlock = some g → B ≤ g ∧ g < w.heap.size) ∧ ∀ g, vr.ownBlock = some g → B ≤ g ∧ g < w.heap.size := ⟨fun g hg => h.ol.lt g hg, fun g hg => h.or_.lt g hg⟩
/-- the first list has grown -/
theorem Pair.step1 {w w' : World} {B k : Nat} {vl vr : Value} (h : Pair w B k vl vr) (hg : w.grownBy w' vl.ownBlock) : OwnI w' B vr (List.replicate k (-1)) := by
  refine h.or_.kept hg ?_
  cases hb : vr.ownBlock with
  | none => exact .inl rfl
  | some g => exact .inr (fun e => h.ne e.symm hb)
/-- the second one too -/
theorem Pair.step2 {w w' : World} {B k : Nat} {vl vr vr' : Value} (h1 : OwnI w B vl (List.replicate (k + 1) 0)) (h2 : OwnI w B vr (List.replicate k (-1))) (hn : k = 0 → vr = .slice none 0 0) (hg : w.grownBy w' vr.ownBlock) (h3 : OwnI w' B vr' (List.replicate (k + 1) (-1))) : Pair w' B (k + 1) vl vr' := by
  refine ⟨h1.kept hg ?_, h3, fun h => by simp at h⟩
  cases hb : vl.ownBlock with
  | none => exact .inl rfl
  | some g =>
    refine .inr (fun e => ?_)
    cases k with
    | zero => rw [hn rfl] at e; simp [Value.ownBlock] at e
    | succ k => exact own_ne (by simpa [List.replicate_succ] using h1) (by simpa [List.replicate_succ] using h2) (by decide) hb e.symm
theorem rep_snoc (k : Nat) (x : Int) : List.replicate k x ++ [x] = List.replicate (k + 1) x := by rw [List.replicate_succ']
/-- a box of a desk whose lists are just made -/
structure Box (w : World) (g : Nat) (vl vr : Value) : Prop where
  lt : g < w.heap.size
  c0 : w.cell? ⟨g, 0, none⟩ = some vl
  c1 : w.cell? ⟨g, 1, none⟩ = some vr
  c2 : w.cell? ⟨g, 2, none⟩ = some (.int .i64 0)
  f0 : w.frozen? ⟨g, 0, none⟩ = false
  f1 : w.frozen? ⟨g, 1, none⟩ = false
theorem Box.blk {w w' : World} {g : Nat} {vl vr : Value} (h : Box w g vl vr) (hs : w.heap.size ≤ w'.heap.size) (hb : w'.heap[g]? = w.heap[g]?) : Box w' g vl vr :=
  ⟨Nat.lt_of_lt_of_le h.lt hs, by rw [World.cell?_of_block hb]; exact h.c0, by rw [World.cell?_of_block hb]; exact h.c1, by rw [World.cell?_of_block hb]; exact h.c2, by
    have := h.f0; simpa [World.frozen?, hb] using this, by have := h.f1; simpa [World.frozen?, hb] using this⟩
theorem Box.below {w w' : World} {g : Nat} {vl vr : Value} (h : Box w g vl vr) {B : Nat} (hB : g < B) (hb : Below B w w') : Box w' g vl vr := h.blk hb.size (hb.block g hB)
theorem Box.set0 {w : World} {g : Nat} {vl vr : Value} (h : Box w g vl vr) (u : Value) : Box (w.setCell ⟨g, 0, none⟩ u) g u vr := by
  obtain ⟨h1, h2, h3, h4, h5, h6⟩ := h
  exact ⟨by simpa using h1, by simp [go_sem, h2], by simp [go_sem, h3], by simp [go_sem, h4], by simpa using h5, by simpa using h6⟩
theorem Box.set1 {w : World} {g : Nat} {vl vr : Value} (h : Box w g vl vr) (u : Value) : Box (w.setCell ⟨g, 1, none⟩ u) g vl u := by
  obtain ⟨h1, h2, h3, h4, h5, h6⟩ := h
  exact ⟨by simpa using h1, by simp [go_sem, h2], by simp [go_sem, h3], by simp [go_sem, h4], by simpa using h5, by simpa using h6⟩
theorem OwnI.setBelow {w : World} {base : Nat} {v : Value} {xs : List Int} (h : OwnI w base v xs) {a : Addr} (ha : a.block < base) (u : Value) : OwnI (w.setCell a u) base v xs := ownsRow_setCell_below h ha u
theorem append1 {ops : Array Oper} {rest : List Oper} {o : Oper} {a : Act} {Q : Exit → Act → World → Prop} (w : World) (hgd : o.guard = none) (s x : Operand)
    (ho : o.op = .call { callee := .builtin .append, args := #[s, x], argTypes := #[30, 30] })
    {base : Nat} {v : Value} {xs : List Int} {y : Int} {g : Nat} (hs : a.eval s = v) (hown : OwnI w base v xs) (hx : a.eval x = .slice (some ⟨g, 0, none⟩) 1 1) (hc : w.cell? ⟨g, 0, none⟩ = some (.int .i64 y)) (hlen : xs.length ≤ 1000) (hbase : base ≤ w.heap.size)
    (h : ∀ v' w', OwnI w' base v' (xs ++ [y]) → w.grownBy w' v.ownBlock → wpList Try.prog ops Q rest (a.put o.dst v') w') : wpList Try.prog ops Q (o :: rest) a w := by
  obtain ⟨i0, hi, hz0, hz1, hz2⟩ := info_parts info2
  refine wpList_append_own w hgd s x _ ho base 2 i0 (.int .i64 0) 1 8 Try.underlying30 hi hz0 hz1 hz2 rfl (by decide) v xs.length (i64s xs) hs hown ⟨g, 0, none⟩ 1 1 [.int .i64 y] hx rfl ?_ (by intro u hu; simp at hu; subst hu; rfl) (by simp [maxLen]; omega) (by omega) hbase (fun v' w' h1 h2 _ => h v' w' ?_ h2)
  · intro j u hu
    cases j with
    | zero => simp at hu; subst hu; simpa [Addr.add] using hc
    | succ j => simp at hu
  · unfold OwnI
    rw [i64s_append, List.length_append]; exact h1
theorem rep_form {w : World} {base k : Nat} {v : Value} {x : Int} (h : OwnI w base v (List.replicate (k + 1) x)) : ∃ g c, v = .slice (some ⟨g, 0, none⟩) (k + 1) c := by
  rcases h.forms with ⟨_, h0⟩ | ⟨g, c, rfl, _⟩
  · simp at h0
  · exact ⟨g, c, by simp⟩
theorem rep_form' {w : World} {base k : Nat} {v : Value} {x : Int} (h : OwnI w base v (List.replicate k x)) : ∃ ad c, v = .slice ad k c := by
  rcases h.forms with ⟨rfl, h0⟩ | ⟨g, c, rfl, _⟩
  · simp at h0; subst h0; exact ⟨_, _, rfl⟩
  · exact ⟨some ⟨g, 0, none⟩, c, by simp⟩
def deskV (vl vr : Value) (q : Int) : Value := .agg #[vl, vr, .int .i64 q]
def FreshP (w : World) (n : Nat) (e : Ending) (w' : World) : Prop := ∃ vl vr, e = .returned (deskV vl vr 0) ∧ Pair w' w.heap.size n vl vr ∧ Below w.heap.size w w'
theorem Pair.lower {w : World} {B B' k : Nat} {vl vr : Value} (h : Pair w B k vl vr) (hb : B' ≤ B) : Pair w B' k vl vr := ⟨h.ol.lower hb, h.or_.lower hb, h.nil⟩
theorem Pair.setBelow {w : World} {B k : Nat} {vl vr : Value} (h : Pair w B k vl vr) {a : Addr} (ha : a.block < B) (u : Value) : Pair (w.setCell a u) B k vl vr := ⟨h.ol.setBelow ha u, h.or_.setBelow ha u, h.nil⟩
set_option maxHeartbeats 4000000 in
theorem l09Fresh_any {u : Value} (b o n : Nat) (s t bs wk : Int) (w : World) (hc : ServAt w b o s t u bs n wk) (hn : n ≤ 100) :
    Calls Try.prog 79 #[.pointer (some ⟨b, o, none⟩)] w (FreshP w n) := by
  have bA : Below w.heap.size w (w.alloc (.cells #[.slice none 0 0, .slice none 0 0, .int .i64 0] 32)) := (Below.refl _ _).alloc (Nat.le_refl _) _
  have HC := Lib.hid (fun W (h : Below w.heap.size w W) => hc.below h)
  have hbx : Box ((w.alloc (.cells #[.slice none 0 0, .slice none 0 0, .int .i64 0] 32)).alloc (.cells #[.slice none 0 0, .slice none 0 0, .int .i64 0] 32)) (w.heap.size + 1) (.slice none 0 0) (.slice none 0 0) := by
    refine ⟨by simp, ?_, ?_, ?_, ?_, ?_⟩ <;> simp [go_sem]
  have HBX := Lib.hid hbx
  have QW := Lib.hid (fun W (h : Below (w.alloc (.cells #[.slice none 0 0, .slice none 0 0, .int .i64 0] 32)).heap.size (w.alloc (.cells #[.slice none 0 0, .slice none 0 0, .int .i64 0] 32)) W) =>
    show (W.cell? ⟨w.heap.size, 0, none⟩ = some (.slice none 0 0) ∧ W.cell? ⟨w.heap.size, 1, none⟩ = some (.slice none 0 0) ∧ W.cell? ⟨w.heap.size, 2, none⟩ = some (.int .i64 0)) ∧ W.frozen? ⟨w.heap.size, 0, none⟩ = false ∧ W.frozen? ⟨w.heap.size, 1, none⟩ = false ∧ W.frozen? ⟨w.heap.size, 2, none⟩ = false from by
      have a0 := h.cell (p := ⟨w.heap.size, 0, none⟩) (by simp)
      have a1 := h.cell (p := ⟨w.heap.size, 1, none⟩) (by simp)
      have a2 := h.cell (p := ⟨w.heap.size, 2, none⟩) (by simp)
      have f0 := h.frozen (p := ⟨w.heap.size, 0, none⟩) (by simp)
      have f1 := h.frozen (p := ⟨w.heap.size, 1, none⟩) (by simp)
      have f2 := h.frozen (p := ⟨w.heap.size, 2, none⟩) (by simp)
      simp [go_sem] at a0 a1 a2 f0 f1 f2
      exact ⟨⟨a0, a1, a2⟩, f0, f1, f2⟩)
  clear hbx hc
  go_enter Try.func79, Try.ntmps79
  go_wp2
  go_loopw [4] (fun i wr => ∃ (k : Nat) (vl vr : Value), k ≤ n ∧ i = .int .i64 k ∧ Box wr (w.heap.size + 1) vl vr ∧ Pair wr (w.heap.size + 2) k vl vr ∧ Below (w.alloc (.cells #[.slice none 0 0, .slice none 0 0, .int .i64 0] 32)).heap.size (w.alloc (.cells #[.slice none 0 0, .slice none 0 0, .int .i64 0] 32)) wr) (fun i _ => n - (intOf i).toNat)
  case atStart => exact ⟨0, _, _, Nat.zero_le _, rfl, HBX.out, ⟨OwnI.nil _ _, OwnI.nil _ _, fun _ => ⟨rfl, rfl⟩⟩, (Below.refl _ _).alloc (Nat.le_refl _) _⟩
  case round =>
    obtain ⟨k, vl, vr, hk, rfl, hbox, hpair, hbr⟩ := hrel
    obtain ⟨zl, x0, x1, x2, xf0, xf1⟩ := id hbox
    obtain ⟨la, lc, rfl⟩ := rep_form' hpair.ol
    obtain ⟨ra, rc, rfl⟩ := rep_form' hpair.or_
    obtain ⟨⟨_, s0, s1, s2⟩, s3, s4, s5⟩ := HC.out _ (bA.trans (hbr.mono bA.size))
    by_cases hlt : k < n
    · have i1 : (k : Int) < (n : Int) := by omega
      have ba : Below wr.heap.size wr (wr.alloc (.cells #[.int .i64 0] 2)) := (Below.refl _ _).alloc (Nat.le_refl _) _
      have hp0 := hpair.below ba
      have hb0 := hbox.below zl ba
      have hz : w.heap.size + 2 ≤ wr.heap.size := by omega
      have hcell0 : (wr.alloc (.cells #[.int .i64 0] 2)).cell? ⟨wr.heap.size, 0, none⟩ = some (.int .i64 0) := by simp [go_sem]
      have hlen0 : (List.replicate k (0 : Int)).length ≤ 1000 := by simp; omega
      have hzz0 : w.heap.size + 2 ≤ (wr.alloc (.cells #[.int .i64 0] 2)).heap.size := by simp; omega
      have HC0 := Lib.hid hcell0
      have HL0 := Lib.hid hlen0
      have HZ0 := Lib.hid hzz0
      clear hcell0 hlen0 hzz0
      go_wp2_with (at_builtin; refine append1 _ rfl (.tmp 15) (.tmp 16) rfl rfl hp0.ol rfl HC0.out HL0.out HZ0.out ?_)
      intro v1 w1 o1 g1
      rw [rep_snoc] at o1
      have r1 := hp0.step1 g1
      have bl1 := hp0.ol.grown g1 (by simp; omega)
      have bx1 := hb0.below (by omega) bl1
      have hb1 : Below (w.alloc (.cells #[.slice none 0 0, .slice none 0 0, .int .i64 0] 32)).heap.size (w.alloc (.cells #[.slice none 0 0, .slice none 0 0, .int .i64 0] 32)) w1 := (hbr.trans (ba.mono hbr.size)).trans (bl1.mono (by simp))
      obtain ⟨ga, gc, rfl⟩ := rep_form o1
      obtain ⟨_, y0, y1, y2, yf0, yf1⟩ := id bx1
      have HNIL := Lib.hid hpair.nil
      have zw1 := bx1.lt
      go_upto_region 6 with (fail)
      generalize hW2 : w1.setCell ⟨w.heap.size + 1, 0, none⟩ (.slice (some ⟨ga, 0, none⟩) (k + 1) gc) = w2
      have bx2 : Box w2 (w.heap.size + 1) (.slice (some ⟨ga, 0, none⟩) (k + 1) gc) (.slice ra k rc) := by rw [← hW2]; exact bx1.set0 _
      have o2 : OwnI w2 (w.heap.size + 2) (.slice (some ⟨ga, 0, none⟩) (k + 1) gc) (List.replicate (k + 1) 0) := by rw [← hW2]; exact o1.setBelow (by simp) _
      have r2 : OwnI w2 (w.heap.size + 2) (.slice ra k rc) (List.replicate k (-1)) := by rw [← hW2]; exact r1.setBelow (by simp) _
      have hb2 : Below (w.alloc (.cells #[.slice none 0 0, .slice none 0 0, .int .i64 0] 32)).heap.size (w.alloc (.cells #[.slice none 0 0, .slice none 0 0, .int .i64 0] 32)) w2 := by rw [← hW2]; exact hb1.setCell (by simp) _
      clear hW2 bx1 o1 r1 hb1 y0 y1 y2 yf0 yf1 zw1 bl1 g1 hb0 hp0 ba x0 x1 x2 xf0 xf1 hbox hpair hbr
      obtain ⟨zl2, y0, y1, y2, yf0, yf1⟩ := id bx2
      have ba : Below w2.heap.size w2 (w2.alloc (.cells #[.int .i64 (-1)] 2)) := (Below.refl _ _).alloc (Nat.le_refl _) _
      have r3 := r2.below ba
      have o3 := o2.below ba
      have b3 := bx2.below zl2 ba
      have hcell0 : (w2.alloc (.cells #[.int .i64 (-1)] 2)).cell? ⟨w2.heap.size, 0, none⟩ = some (.int .i64 (-1)) := by simp [go_sem]
      have hlen0 : (List.replicate k (-1 : Int)).length ≤ 1000 := by simp; omega
      have hzz0 : w.heap.size + 2 ≤ (w2.alloc (.cells #[.int .i64 (-1)] 2)).heap.size := by simp; omega
      have HC1 := Lib.hid hcell0
      have HL1 := Lib.hid hlen0
      have HZ1 := Lib.hid hzz0
      clear hcell0 hlen0 hzz0
      go_wp2_with (at_builtin; refine append1 _ rfl (.tmp 20) (.tmp 21) rfl rfl r3 rfl HC1.out HL1.out HZ1.out ?_)
      intro v4 w4 o4 g4
      rw [rep_snoc] at o4
      have p4 := Pair.step2 o3 r3 (fun h => (HNIL.out h).2) g4 o4
      have bl4 := r3.grown g4 HZ1.out
      have bx4 := b3.below (by omega) bl4
      have hb4 : Below (w.alloc (.cells #[.slice none 0 0, .slice none 0 0, .int .i64 0] 32)).heap.size (w.alloc (.cells #[.slice none 0 0, .slice none 0 0, .int .i64 0] 32)) w4 := (hb2.trans (ba.mono hb2.size)).trans (bl4.mono (by simp))
      obtain ⟨gb, gd, rfl⟩ := rep_form o4
      obtain ⟨_, t0, t1, t2, tf0, tf1⟩ := id bx4
      clear r2 r3 o2 o3 b3 bx2 o4 g4 bl4 ba y0 y1 y2 yf0 yf1
      go_wp2
      go_roundw
      case rel => exact ⟨k + 1, _, _, by omega, by go_num, bx4.set1 _, p4.setBelow (by simp) _, hb4.setCell (by simp) _⟩
      case measure => simp [intOf]; omega
    · obtain rfl : k = n := by omega
      obtain ⟨⟨q0, q1, q2⟩, qf0, qf1, qf2⟩ := QW.out _ hbr
      go_wp2
      refine bodyPost_ret (v := deskV (.slice la k lc) (.slice ra k rc) 0) (by simp [results, Try.results79, go_sem, deskV, q0, q1, q2]) rfl ⟨_, _, rfl, ?_, ?_⟩
      · skip
        exact (((hpair.setBelow (by simp) _).setBelow (by simp) _).setBelow (by simp) _).lower (by omega)
      · exact ((((bA.trans (hbr.mono bA.size))).setCell (Nat.le_refl _) _).setCell (Nat.le_refl _) _).setCell (Nat.le_refl _) _
end Go.Proofs.Ythbbnjpadmcbmaa
