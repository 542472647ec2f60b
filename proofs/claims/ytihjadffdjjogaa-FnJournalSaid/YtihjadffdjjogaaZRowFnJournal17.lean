/-
  The program's learn. With it: A desk learns a record: the program's and the reference's.
-/
import Derived.Test.YtihjadffdjjogaaZRowFnJournal12
import Derived.Test.YtihjadffdjjogaaZRowFnJournal2
import Derived.Deep.DeepCutAuto
set_option linter.unusedVariables false
set_option linter.unusedSimpArgs false
namespace Go.Proofs.Ytihjadffdjjogaa
open Go.RowKit Go.Sort
/-- all blocks but those of S stay -/
structure Fr (S : Nat → Prop) (w w' : World) : Prop where
  os : w'.os = w.os
  tape : w'.tape = w.tape
  output : w'.output = w.output
  size : w.heap.size ≤ w'.heap.size
  block : ∀ k, k < w.heap.size → ¬ S k → w'.heap[k]? = w.heap[k]?
theorem Fr.refl (S : Nat → Prop) (w : World) : Fr S w w := ⟨rfl, rfl, rfl, Nat.le_refl _, fun _ _ _ => rfl⟩
theorem Fr.trans {S : Nat → Prop} {a b c : World} (h : Fr S a b) (k : Fr S b c) : Fr S a c :=
  ⟨k.os.trans h.os, k.tape.trans h.tape, k.output.trans h.output, Nat.le_trans h.size k.size, fun i hi hx => (k.block i (Nat.lt_of_lt_of_le hi h.size) hx).trans (h.block i hi hx)⟩
theorem Fr.of_below {S : Nat → Prop} {w w' : World} (h : Below w.heap.size w w') : Fr S w w' := ⟨h.os, h.tape, h.output, h.size, fun k hk _ => h.block k hk⟩
theorem Fr.set {S : Nat → Prop} {w w' : World} (h : Fr S w w') {a : Addr} (ha : S a.block) (u : Value) : Fr S w (w'.setCell a u) :=
  ⟨h.os, h.tape, h.output, by simpa using h.size, fun k hk hx => by
    rw [heap_setCell_other w' a k u (fun e => hx (by rw [e]; exact ha))]; exact h.block k hk hx⟩
theorem Fr.below {S : Nat → Prop} {w w' : World} (h : Fr S w w') {B : Nat} (hB : B ≤ w.heap.size) (hS : ∀ k, S k → B ≤ k) : Below B w w' :=
  ⟨h.os, h.tape, h.output, h.size, fun k hk => h.block k (Nat.lt_of_lt_of_le hk hB) (fun hs => by have := hS k hs; omega)⟩
theorem Fr.mono {S T : Nat → Prop} {w w' : World} (h : Fr S w w') (hST : ∀ k, S k → T k) : Fr T w w' :=
  ⟨h.os, h.tape, h.output, h.size, fun k hk hx => h.block k hk (fun hs => hx (hST k hs))⟩
def In3 (a b c : Nat) (k : Nat) : Prop := k = a ∨ k = b ∨ k = c
/-- a desk's cells -/
def DeskAt (w : World) (b o : Nat) (vl vr : Value) (outs : Int) : Prop :=
  b < w.heap.size ∧ w.cell? ⟨b, o, none⟩ = some vl ∧ w.cell? ⟨b, o + 1, none⟩ = some vr ∧ w.cell? ⟨b, o + 2, none⟩ = some (.int .i64 outs) ∧ w.frozen? ⟨b, o + 2, none⟩ = false
theorem DeskAt.below {w w' : World} {b o : Nat} {vl vr : Value} {outs : Int} (h : DeskAt w b o vl vr outs) (hb : Below w.heap.size w w') : DeskAt w' b o vl vr outs :=
  ⟨Nat.lt_of_lt_of_le h.1 hb.size, by rw [hb.cell (p := ⟨b, o, none⟩) h.1]; exact h.2.1, by rw [hb.cell (p := ⟨b, o + 1, none⟩) h.1]; exact h.2.2.1, by rw [hb.cell (p := ⟨b, o + 2, none⟩) h.1]; exact h.2.2.2.1, by rw [hb.frozen (p := ⟨b, o + 2, none⟩) h.1]; exact h.2.2.2.2⟩
theorem DeskAt.far {w : World} {b o : Nat} {vl vr : Value} {outs : Int} (h : DeskAt w b o vl vr outs) {a : Addr} (ha : b ≠ a.block) (u : Value) : DeskAt (w.setCell a u) b o vl vr outs :=
  ⟨by simpa using h.1, by rw [World.cell?_of_block (heap_setCell_other w a b u ha)]; exact h.2.1, by rw [World.cell?_of_block (heap_setCell_other w a b u ha)]; exact h.2.2.1, by rw [World.cell?_of_block (heap_setCell_other w a b u ha)]; exact h.2.2.2.1, by
    have := h.2.2.2.2
    simpa [World.frozen?, heap_setCell_other w a b u ha] using this⟩
theorem OwnI.far {w : World} {base g n c : Nat} {xs : List Int} (h : OwnI w base (.slice (some ⟨g, 0, none⟩) n c) xs) {a : Addr} (ha : g ≠ a.block) (u : Value) : OwnI (w.setCell a u) base (.slice (some ⟨g, 0, none⟩) n c) xs := by
  have hg : w.grownBy (w.setCell a u) (some a.block) := ⟨rfl, rfl, rfl, by simp, fun k hk hne => heap_setCell_other w a k u (fun e => hne (by rw [e]))⟩
  exact World.ownsRow.kept h hg (.inr (fun e => ha (by simpa [Value.ownBlock] using e)))
/-- the state of a desk in memory: pointer, slices, contents -/
structure DeskIs (w : World) (base b o gl cl gr cr : Nat) (lv rs : List Int) (outs : Int) : Prop where
  at_ : DeskAt w b o (.slice (some ⟨gl, 0, none⟩) lv.length cl) (.slice (some ⟨gr, 0, none⟩) lv.length cr) outs
  ol : OwnI w base (.slice (some ⟨gl, 0, none⟩) lv.length cl) lv
  or_ : OwnI w base (.slice (some ⟨gr, 0, none⟩) lv.length cr) rs
  len : rs.length = lv.length
  lr : gl ≠ gr
  bl : b ≠ gl
  br : b ≠ gr
theorem DeskIs.below {w w' : World} {base b o gl cl gr cr : Nat} {lv rs : List Int} {outs : Int} (h : DeskIs w base b o gl cl gr cr lv rs outs) (hb : Below w.heap.size w w') : DeskIs w' base b o gl cl gr cr lv rs outs :=
  ⟨h.at_.below hb, h.ol.below hb, h.or_.below hb, h.len, h.lr, h.bl, h.br⟩
theorem DeskIs.setL {w : World} {base b o gl cl gr cr : Nat} {lv rs : List Int} {outs : Int} (h : DeskIs w base b o gl cl gr cr lv rs outs) (j : Nat) (x : Int) : DeskIs (w.setCell ⟨gl, j, none⟩ (.int .i64 x)) base b o gl cl gr cr (lv.set j x) rs outs := by
  have h1 := h.ol.set j x
  refine ⟨?_, ?_, ?_, by rw [List.length_set]; exact h.len, h.lr, h.bl, h.br⟩
  · rw [List.length_set]; exact h.at_.far h.bl _
  · rw [List.length_set]; exact h1
  · rw [List.length_set]; exact h.or_.far (Ne.symm h.lr) _
theorem DeskIs.setR {w : World} {base b o gl cl gr cr : Nat} {lv rs : List Int} {outs : Int} (h : DeskIs w base b o gl cl gr cr lv rs outs) (j : Nat) (x : Int) : DeskIs (w.setCell ⟨gr, j, none⟩ (.int .i64 x)) base b o gl cl gr cr lv (rs.set j x) outs :=
  ⟨h.at_.far h.br _, h.ol.far h.lr _, h.or_.set j x, by rw [List.length_set]; exact h.len, h.lr, h.bl, h.br⟩
theorem DeskIs.setO {w : World} {base b o gl cl gr cr : Nat} {lv rs : List Int} {outs : Int} (h : DeskIs w base b o gl cl gr cr lv rs outs) (x : Int) : DeskIs (w.setCell ⟨b, o + 2, none⟩ (.int .i64 x)) base b o gl cl gr cr lv rs x := by
  obtain ⟨h0, h1, h2, h3, h4⟩ := h.at_
  refine ⟨⟨by simpa using h0, ?_, ?_, ?_, by simpa using h4⟩, h.ol.far (Ne.symm h.bl) _, h.or_.far (Ne.symm h.br) _, h.len, h.lr, h.bl, h.br⟩
  · simp [go_sem, h1]
  · simp [go_sem, h2]
  · simp [go_sem, h3]
def Rec3At (w : World) (b : Nat) (k s v : Int) : Prop := b < w.heap.size ∧ w.cell? ⟨b, 0, none⟩ = some (.int .i64 k) ∧ w.cell? ⟨b, 1, none⟩ = some (.int .i64 s) ∧ w.cell? ⟨b, 2, none⟩ = some (.int .i64 v)
theorem Rec3At.below {w w' : World} {b : Nat} {k s v : Int} (h : Rec3At w b k s v) (hb : Below w.heap.size w w') : Rec3At w' b k s v :=
  ⟨Nat.lt_of_lt_of_le h.1 hb.size, by rw [hb.cell (p := ⟨b, 0, none⟩) h.1]; exact h.2.1, by rw [hb.cell (p := ⟨b, 1, none⟩) h.1]; exact h.2.2.1, by rw [hb.cell (p := ⟨b, 2, none⟩) h.1]; exact h.2.2.2⟩
theorem Rec3At.far {w : World} {b : Nat} {k s v : Int} (h : Rec3At w b k s v) {a : Addr} (ha : b ≠ a.block) (u : Value) : Rec3At (w.setCell a u) b k s v :=
  ⟨by simpa using h.1, by rw [World.cell?_of_block (heap_setCell_other w a b u ha)]; exact h.2.1, by rw [World.cell?_of_block (heap_setCell_other w a b u ha)]; exact h.2.2.1, by rw [World.cell?_of_block (heap_setCell_other w a b u ha)]; exact h.2.2.2⟩
theorem rec3At_new (w : World) (k s v : Int) : Rec3At (w.alloc (.cells #[.int .i64 k, .int .i64 s, .int .i64 v] 42)) w.heap.size k s v := by
  unfold Rec3At
  refine ⟨by simp, ?_, ?_, ?_⟩ <;> simp [go_sem]
def learnF (lv rs : List Int) (outs k s v : Int) : Option (List Int × List Int × Int) :=
  if k = 1 then (if rs.getD s.toNat 0 = -1 ∧ v = lv.getD s.toNat 0 + 1 then some (lv.set s.toNat v, if v = 7 then rs.set s.toNat (-2) else rs, outs) else none)
  else if k = 2 then (if rs.getD s.toNat 0 = -1 then some (lv, rs.set s.toNat v, outs) else none)
  else (if ¬ rs.getD s.toNat 0 = -1 ∧ s = outs then some (lv, rs, outs + 1) else none)
/-- all blocks but a desk's stay, and of the desk's own box all but the counter -/
structure FrD (b o gl gr : Nat) (w w' : World) : Prop extends Fr (In3 b gl gr) w w' where
  lt : b < w.heap.size
  box : ∀ i, i ≠ o + 2 → w'.cell? ⟨b, i, none⟩ = w.cell? ⟨b, i, none⟩
  fz : ∀ i, w'.frozen? ⟨b, i, none⟩ = w.frozen? ⟨b, i, none⟩
theorem FrD.of_below {b o gl gr : Nat} {w w' : World} (h : Below w.heap.size w w') (hb : b < w.heap.size) : FrD b o gl gr w w' :=
  ⟨Fr.of_below h, hb, fun i _ => h.cell (p := ⟨b, i, none⟩) hb, fun i => h.frozen (p := ⟨b, i, none⟩) hb⟩
theorem FrD.then_below {b o gl gr : Nat} {w w' w'' : World} (h : FrD b o gl gr w w') (k : Below w'.heap.size w' w'') : FrD b o gl gr w w'' :=
  have hb : b < w'.heap.size := Nat.lt_of_lt_of_le h.lt h.size
  ⟨h.toFr.trans (Fr.of_below k), h.lt, fun i hi => (k.cell (p := ⟨b, i, none⟩) hb).trans (h.box i hi), fun i => (k.frozen (p := ⟨b, i, none⟩) hb).trans (h.fz i)⟩
theorem FrD.setF {b o gl gr : Nat} {w w' : World} (h : FrD b o gl gr w w') {g : Nat} (hg : g = gl ∨ g = gr) (hne : b ≠ g) (j : Nat) (u : Value) : FrD b o gl gr w (w'.setCell ⟨g, j, none⟩ u) :=
  ⟨h.toFr.set (a := ⟨g, j, none⟩) (.inr hg) u, h.lt, fun i hi => by
    rw [World.cell?_of_block (heap_setCell_other w' ⟨g, j, none⟩ b u hne)]; exact h.box i hi, fun i => by
    rw [← h.fz i]; simp [World.frozen?, heap_setCell_other w' ⟨g, j, none⟩ b u hne]⟩
theorem FrD.setO {b o gl gr : Nat} {w w' : World} (h : FrD b o gl gr w w') (u : Value) : FrD b o gl gr w (w'.setCell ⟨b, o + 2, none⟩ u) :=
  ⟨h.toFr.set (a := ⟨b, o + 2, none⟩) (.inl rfl) u, h.lt, fun i hi => by
    rw [← h.box i hi]; simp [go_sem, Ne.symm hi, hi], fun i => by
    rw [← h.fz i]; simp [go_sem]⟩
/-- what a call that learns leaves -/
def LearnP (w : World) (base b o gl cl gr cr : Nat) (lv rs : List Int) (outs k s v : Int) (e : Ending) (w' : World) : Prop :=
  e = .returned (.bool (learnF lv rs outs k s v).isSome) ∧ FrD b o gl gr w w' ∧
    ∀ l r q, (learnF lv rs outs k s v).getD (lv, rs, outs) = (l, r, q) → DeskIs w' base b o gl cl gr cr l r q
theorem LearnP.no {w w' : World} {base b o gl cl gr cr : Nat} {lv rs : List Int} {outs k s v : Int} (hf : learnF lv rs outs k s v = none) (hd : DeskIs w' base b o gl cl gr cr lv rs outs) (hfr : FrD b o gl gr w w') :
    LearnP w base b o gl cl gr cr lv rs outs k s v (.returned (.bool false)) w' := by
  refine ⟨by rw [hf]; rfl, hfr, fun l r q h => ?_⟩
  rw [hf] at h
  simp at h
  obtain ⟨rfl, rfl, rfl⟩ := h
  exact hd
theorem LearnP.yes {w w' : World} {base b o gl cl gr cr : Nat} {lv rs l r : List Int} {outs q k s v : Int} (hf : learnF lv rs outs k s v = some (l, r, q)) (hd : DeskIs w' base b o gl cl gr cr l r q) (hfr : FrD b o gl gr w w') :
    LearnP w base b o gl cl gr cr lv rs outs k s v (.returned (.bool true)) w' := by
  refine ⟨by rw [hf]; rfl, hfr, fun l' r' q' h => ?_⟩
  rw [hf] at h
  simp at h
  obtain ⟨rfl, rfl, rfl⟩ := h
  exact hd
end Go.Proofs.Ytihjadffdjjogaa
namespace Go.Proofs.Ytihjadffdjjogaa
open Go.RowKit Go.Sort
set_option maxHeartbeats 8000000 in
theorem learn_1 {base b o gl cl gr cr j : Nat} {lv rs : List Int} (outs v : Int) (w : World) (hD : DeskIs w base b o gl cl gr cr lv rs outs) (hj : j < lv.length) (hn : lv.length ≤ 1000000)
    (hx1 : ∀ x ∈ lv, -1000000000 ≤ x ∧ x ≤ 1000000000) (ho1 : 0 ≤ outs) (ho2 : outs ≤ 1000000000) :
    Calls Try.prog 45 #[.pointer (some ⟨b, o, none⟩), .agg #[.int .i64 1, .int .i64 j, .int .i64 v]] w (LearnP w base b o gl cl gr cr lv rs outs 1 j v) := by
  obtain ⟨x, hx⟩ : ∃ x, lv[j]'hj = x := ⟨_, rfl⟩
  have hjr : j < rs.length := by rw [hD.len]; exact hj
  obtain ⟨y, hy⟩ : ∃ y, rs[j]'hjr = y := ⟨_, rfl⟩
  have hxb := hx1 _ (List.getElem_mem hj)
  rw [hx] at hxb
  have hxl : -1000000000 ≤ x := hxb.1
  have hxu : x ≤ 1000000000 := hxb.2
  have hgx : lv.getD j 0 = x := by rw [← hx]; simp [hj]
  have hgy : rs.getD j 0 = y := by rw [← hy]; simp [hjr]
  have HX := Lib.hid hx
  have HY := Lib.hid hy
  have HF := Lib.hid (show learnF lv rs outs 1 j v = (if y = -1 ∧ v = x + 1 then some (lv.set j v, if v = 7 then rs.set j (-2) else rs, outs) else none) by unfold learnF; simp only [Int.toNat_natCast, hgx, hgy]; simp)
  have hwr : IntKind.i64.wrap (x + 1) = x + 1 := IntWalk.i64_in _ (by omega)
  have hji : (0 : Int) ≤ (j : Int) := by omega
  have hjl : (j : Int) < (lv.length : Int) := by omega
  have hgl := (hD.ol.lt gl rfl).2
  have hgr := (hD.or_.lt gr rfl).2
  have hbb := hD.at_.1
  have n1 : ¬ w.heap.size = gl := by omega
  have n2 : ¬ w.heap.size = gr := by omega
  have n3 : ¬ gl = w.heap.size := by omega
  have n4 : ¬ gr = w.heap.size := by omega
  have n5 := hD.lr
  have n6 := hD.bl
  have n7 := hD.br
  have bx : Below w.heap.size w (w.alloc (.cells #[.int .i64 1, .int .i64 j, .int .i64 v] 42)) := (Below.refl _ _).alloc (Nat.le_refl _) _
  have DX := Lib.hid (hD.below bx)
  have RX := Lib.hid (rec3At_new w 1 j v)
  have FX := Lib.hid (FrD.of_below (o := o) (gl := gl) (gr := gr) bx hbb)
  clear hx1 hxb hx hy hgx hgy hD bx
  by_cases hy1 : y = -1
  · by_cases hv1 : v = x + 1
    · by_cases hv7 : v = 7
      · skip
        have ty : (y != (-1 : Int)) = false := by simp [hy1]
        have HY1 := Lib.hid hy1
        clear hy1
        have tv : (v != x + 1) = false := by simp [hv1]
        have HV1 := Lib.hid hv1
        clear hv1
        have t7 : (v == (7 : Int)) = true := by simp [hv7]
        have HV7 := Lib.hid hv7
        clear hv7
        go_enter Try.func45, Try.ntmps45
        go_upto_region 1 with (fail)
        generalize w.alloc (.cells #[.int .i64 1, .int .i64 j, .int .i64 v] 42) = w0 at DX RX FX ⊢
        have D := DX.out
        obtain ⟨p0, p1, p2⟩ := RX.out.2
        obtain ⟨zb, a0, a1, a2, af⟩ := D.at_
        have gl0 := D.ol.cell hj
        have gr0 := D.or_.cell (i := j) hjr
        rw [HX.out] at gl0
        rw [HY.out] at gr0
        have k0 := fun d os => cell_regrown a0 d os
        have k1 := fun d os => cell_regrown a1 d os
        have k2 := fun d os => cell_regrown a2 d os
        have k3 := fun d os => cell_regrown p0 d os
        have k4 := fun d os => cell_regrown p1 d os
        have k5 := fun d os => cell_regrown p2 d os
        have k6 := fun d os => cell_regrown gl0 d os
        have k7 := fun d os => cell_regrown gr0 d os
        clear D a0 a1 a2 af gl0 gr0 p0 p1 p2 zb
        refine wp_region_quiet_below (by kernel_rfl) (by kernel_rfl) ?_
        repeat (first | go_big_quiet_skip | quiet_step (fail))
        refine wpQuiet_nil ?_
        intro _ hw'
        obtain ⟨⟨dq, osq⟩, hw''⟩ := hw'
        subst hw''
        have bq := below_regrown w0 dq osq
        generalize grow (redrawn w0 dq) osq = w1 at bq ⊢
        clear k0 k1 k2 k3 k4 k5 k6 k7
        have DX := Lib.hid (DX.out.below bq)
        have RX := Lib.hid (RX.out.below bq)
        have FX := Lib.hid (FX.out.then_below bq)
        clear bq
        obtain ⟨p0, p1, p2⟩ := RX.out.2
        go_wp2
        clear p0 p1 p2
        have D := DX.out
        obtain ⟨p0, p1, p2⟩ := RX.out.2
        obtain ⟨zb, a0, a1, a2, af⟩ := D.at_
        have gl0 := D.ol.cell hj
        have gr0 := D.or_.cell (i := j) hjr
        rw [HX.out] at gl0
        rw [HY.out] at gr0
        have k0 := fun d os => cell_regrown a0 d os
        have k1 := fun d os => cell_regrown a1 d os
        have k2 := fun d os => cell_regrown a2 d os
        have k3 := fun d os => cell_regrown p0 d os
        have k4 := fun d os => cell_regrown p1 d os
        have k5 := fun d os => cell_regrown p2 d os
        have k6 := fun d os => cell_regrown gl0 d os
        have k7 := fun d os => cell_regrown gr0 d os
        clear D a0 a1 a2 af gl0 gr0 p0 p1 p2 zb
        refine wp_region_quiet_below (by kernel_rfl) (by kernel_rfl) ?_
        repeat (first | go_big_quiet_skip | quiet_step (fail))
        refine wpQuiet_nil ?_
        intro _ hw'
        obtain ⟨⟨dq, osq⟩, hw''⟩ := hw'
        subst hw''
        have bq := below_regrown w1 dq osq
        generalize grow (redrawn w1 dq) osq = w2 at bq ⊢
        clear k0 k1 k2 k3 k4 k5 k6 k7
        have DX := Lib.hid (DX.out.below bq)
        have RX := Lib.hid (RX.out.below bq)
        have FX := Lib.hid (FX.out.then_below bq)
        clear bq
        go_wp2_with fail
        have D := DX.out
        obtain ⟨p0, p1, p2⟩ := RX.out.2
        obtain ⟨zb, a0, a1, a2, af⟩ := D.at_
        have gl0 := D.ol.cell hj
        have gr0 := D.or_.cell (i := j) hjr
        rw [HX.out] at gl0
        rw [HY.out] at gr0
        have k0 := fun d os => cell_regrown a0 d os
        have k1 := fun d os => cell_regrown a1 d os
        have k2 := fun d os => cell_regrown a2 d os
        have k3 := fun d os => cell_regrown p0 d os
        have k4 := fun d os => cell_regrown p1 d os
        have k5 := fun d os => cell_regrown p2 d os
        have k6 := fun d os => cell_regrown gl0 d os
        have k7 := fun d os => cell_regrown gr0 d os
        clear D a0 a1 a2 af gl0 gr0 p0 p1 p2 zb
        refine wp_region_below_tail 9 (by kernel_rfl) (by kernel_rfl) ?_
        simp only [List.take_succ_cons, List.take_zero, List.drop_succ_cons, List.drop_zero]
        repeat (first | go_big_quiet_skip | quiet_step (fail))
        refine wpQuiet_nil ?_
        intro _ hw'
        obtain ⟨⟨dq, osq⟩, hw''⟩ := hw'
        subst hw''
        have bq := below_regrown w2 dq osq
        generalize grow (redrawn w2 dq) osq = w3 at bq ⊢
        clear k0 k1 k2 k3 k4 k5 k6 k7
        have DX := Lib.hid (DX.out.below bq)
        have RX := Lib.hid (RX.out.below bq)
        have FX := Lib.hid (FX.out.then_below bq)
        have gl0 := DX.out.ol.cell hj
        have gr0 := DX.out.or_.cell (i := j) hjr
        have gf := DX.out.ol.free j
        have gg := DX.out.or_.free j
        clear bq
        obtain ⟨p0, p1, p2⟩ := RX.out.2
        go_wp2
        generalize hW4 : w3.setCell ⟨gl, j, none⟩ (.int .i64 v) = w4
        have DX := Lib.hid (show DeskIs w4 base b o gl cl gr cr (lv.set j v) rs outs by rw [← hW4]; exact DX.out.setL j v)
        have RX := Lib.hid (show Rec3At w4 w.heap.size 1 j v by rw [← hW4]; exact RX.out.far n1 _)
        have FX := Lib.hid (show FrD b o gl gr w w4 by rw [← hW4]; exact FX.out.setF (.inl rfl) DX.out.bl j _)
        clear hW4 p0 p1 p2 gl0 gr0 gf gg
        have D := DX.out
        obtain ⟨p0, p1, p2⟩ := RX.out.2
        obtain ⟨zb, a0, a1, a2, af⟩ := D.at_
        rw [List.length_set] at a0 a1
        have gl0 := D.ol.cell (i := j) (by rw [List.length_set]; exact hj)
        have gr0 := D.or_.cell (i := j) hjr
        rw [HY.out] at gr0
        have k0 := fun d os => cell_regrown a0 d os
        have k1 := fun d os => cell_regrown a1 d os
        have k2 := fun d os => cell_regrown a2 d os
        have k3 := fun d os => cell_regrown p0 d os
        have k4 := fun d os => cell_regrown p1 d os
        have k5 := fun d os => cell_regrown p2 d os
        have k6 := fun d os => cell_regrown gl0 d os
        have k7 := fun d os => cell_regrown gr0 d os
        clear D a0 a1 a2 af gl0 gr0 p0 p1 p2 zb
        refine wp_region_below_tail 7 (by kernel_rfl) (by kernel_rfl) ?_
        simp only [List.take_succ_cons, List.take_zero, List.drop_succ_cons, List.drop_zero]
        repeat (first | go_big_quiet_skip | quiet_step (fail))
        refine wpQuiet_nil ?_
        intro _ hw'
        obtain ⟨⟨dq, osq⟩, hw''⟩ := hw'
        subst hw''
        have bq := below_regrown w4 dq osq
        generalize grow (redrawn w4 dq) osq = w5 at bq ⊢
        clear k0 k1 k2 k3 k4 k5 k6 k7
        have DX := Lib.hid (DX.out.below bq)
        have RX := Lib.hid (RX.out.below bq)
        have FX := Lib.hid (FX.out.then_below bq)
        have gl0 := DX.out.ol.cell (i := j) (by rw [List.length_set]; exact hj)
        have gr0 := DX.out.or_.cell (i := j) hjr
        have gf := DX.out.ol.free j
        have gg := DX.out.or_.free j
        clear bq
        have hN := HF.out
        rw [if_pos ⟨HY1.out, HV1.out⟩, if_pos HV7.out] at hN
        have HN := Lib.hid hN
        clear hN
        go_wp2
        go_ret
        exact LearnP.yes HN.out (DX.out.setR j (-2)) (FX.out.setF (.inr rfl) DX.out.br j _)
      · skip
        have ty : (y != (-1 : Int)) = false := by simp [hy1]
        have HY1 := Lib.hid hy1
        clear hy1
        have tv : (v != x + 1) = false := by simp [hv1]
        have HV1 := Lib.hid hv1
        clear hv1
        have t7 : (v == (7 : Int)) = false := by simp [hv7]
        have HV7 := Lib.hid hv7
        clear hv7
        go_enter Try.func45, Try.ntmps45
        go_upto_region 1 with (fail)
        generalize w.alloc (.cells #[.int .i64 1, .int .i64 j, .int .i64 v] 42) = w0 at DX RX FX ⊢
        have D := DX.out
        obtain ⟨p0, p1, p2⟩ := RX.out.2
        obtain ⟨zb, a0, a1, a2, af⟩ := D.at_
        have gl0 := D.ol.cell hj
        have gr0 := D.or_.cell (i := j) hjr
        rw [HX.out] at gl0
        rw [HY.out] at gr0
        have k0 := fun d os => cell_regrown a0 d os
        have k1 := fun d os => cell_regrown a1 d os
        have k2 := fun d os => cell_regrown a2 d os
        have k3 := fun d os => cell_regrown p0 d os
        have k4 := fun d os => cell_regrown p1 d os
        have k5 := fun d os => cell_regrown p2 d os
        have k6 := fun d os => cell_regrown gl0 d os
        have k7 := fun d os => cell_regrown gr0 d os
        clear D a0 a1 a2 af gl0 gr0 p0 p1 p2 zb
        refine wp_region_quiet_below (by kernel_rfl) (by kernel_rfl) ?_
        repeat (first | go_big_quiet_skip | quiet_step (fail))
        refine wpQuiet_nil ?_
        intro _ hw'
        obtain ⟨⟨dq, osq⟩, hw''⟩ := hw'
        subst hw''
        have bq := below_regrown w0 dq osq
        generalize grow (redrawn w0 dq) osq = w1 at bq ⊢
        clear k0 k1 k2 k3 k4 k5 k6 k7
        have DX := Lib.hid (DX.out.below bq)
        have RX := Lib.hid (RX.out.below bq)
        have FX := Lib.hid (FX.out.then_below bq)
        clear bq
        obtain ⟨p0, p1, p2⟩ := RX.out.2
        go_wp2
        clear p0 p1 p2
        have D := DX.out
        obtain ⟨p0, p1, p2⟩ := RX.out.2
        obtain ⟨zb, a0, a1, a2, af⟩ := D.at_
        have gl0 := D.ol.cell hj
        have gr0 := D.or_.cell (i := j) hjr
        rw [HX.out] at gl0
        rw [HY.out] at gr0
        have k0 := fun d os => cell_regrown a0 d os
        have k1 := fun d os => cell_regrown a1 d os
        have k2 := fun d os => cell_regrown a2 d os
        have k3 := fun d os => cell_regrown p0 d os
        have k4 := fun d os => cell_regrown p1 d os
        have k5 := fun d os => cell_regrown p2 d os
        have k6 := fun d os => cell_regrown gl0 d os
        have k7 := fun d os => cell_regrown gr0 d os
        clear D a0 a1 a2 af gl0 gr0 p0 p1 p2 zb
        refine wp_region_quiet_below (by kernel_rfl) (by kernel_rfl) ?_
        repeat (first | go_big_quiet_skip | quiet_step (fail))
        refine wpQuiet_nil ?_
        intro _ hw'
        obtain ⟨⟨dq, osq⟩, hw''⟩ := hw'
        subst hw''
        have bq := below_regrown w1 dq osq
        generalize grow (redrawn w1 dq) osq = w2 at bq ⊢
        clear k0 k1 k2 k3 k4 k5 k6 k7
        have DX := Lib.hid (DX.out.below bq)
        have RX := Lib.hid (RX.out.below bq)
        have FX := Lib.hid (FX.out.then_below bq)
        clear bq
        go_wp2_with fail
        have D := DX.out
        obtain ⟨p0, p1, p2⟩ := RX.out.2
        obtain ⟨zb, a0, a1, a2, af⟩ := D.at_
        have gl0 := D.ol.cell hj
        have gr0 := D.or_.cell (i := j) hjr
        rw [HX.out] at gl0
        rw [HY.out] at gr0
        have k0 := fun d os => cell_regrown a0 d os
        have k1 := fun d os => cell_regrown a1 d os
        have k2 := fun d os => cell_regrown a2 d os
        have k3 := fun d os => cell_regrown p0 d os
        have k4 := fun d os => cell_regrown p1 d os
        have k5 := fun d os => cell_regrown p2 d os
        have k6 := fun d os => cell_regrown gl0 d os
        have k7 := fun d os => cell_regrown gr0 d os
        clear D a0 a1 a2 af gl0 gr0 p0 p1 p2 zb
        refine wp_region_below_tail 9 (by kernel_rfl) (by kernel_rfl) ?_
        simp only [List.take_succ_cons, List.take_zero, List.drop_succ_cons, List.drop_zero]
        repeat (first | go_big_quiet_skip | quiet_step (fail))
        refine wpQuiet_nil ?_
        intro _ hw'
        obtain ⟨⟨dq, osq⟩, hw''⟩ := hw'
        subst hw''
        have bq := below_regrown w2 dq osq
        generalize grow (redrawn w2 dq) osq = w3 at bq ⊢
        clear k0 k1 k2 k3 k4 k5 k6 k7
        have DX := Lib.hid (DX.out.below bq)
        have RX := Lib.hid (RX.out.below bq)
        have FX := Lib.hid (FX.out.then_below bq)
        have gl0 := DX.out.ol.cell hj
        have gr0 := DX.out.or_.cell (i := j) hjr
        have gf := DX.out.ol.free j
        have gg := DX.out.or_.free j
        clear bq
        obtain ⟨p0, p1, p2⟩ := RX.out.2
        have hN := HF.out
        rw [if_pos ⟨HY1.out, HV1.out⟩, if_neg HV7.out] at hN
        have HN := Lib.hid hN
        clear hN
        go_wp2
        go_ret
        exact LearnP.yes HN.out (DX.out.setL j v) (FX.out.setF (.inl rfl) DX.out.bl j _)
    · skip
      have ty : (y != (-1 : Int)) = false := by simp [hy1]
      have HY1 := Lib.hid hy1
      clear hy1
      have tv : (v != x + 1) = true := by simp [hv1]
      have HV1 := Lib.hid hv1
      clear hv1
      go_enter Try.func45, Try.ntmps45
      go_upto_region 1 with (fail)
      generalize w.alloc (.cells #[.int .i64 1, .int .i64 j, .int .i64 v] 42) = w0 at DX RX FX ⊢
      have D := DX.out
      obtain ⟨p0, p1, p2⟩ := RX.out.2
      obtain ⟨zb, a0, a1, a2, af⟩ := D.at_
      have gl0 := D.ol.cell hj
      have gr0 := D.or_.cell (i := j) hjr
      rw [HX.out] at gl0
      rw [HY.out] at gr0
      have k0 := fun d os => cell_regrown a0 d os
      have k1 := fun d os => cell_regrown a1 d os
      have k2 := fun d os => cell_regrown a2 d os
      have k3 := fun d os => cell_regrown p0 d os
      have k4 := fun d os => cell_regrown p1 d os
      have k5 := fun d os => cell_regrown p2 d os
      have k6 := fun d os => cell_regrown gl0 d os
      have k7 := fun d os => cell_regrown gr0 d os
      clear D a0 a1 a2 af gl0 gr0 p0 p1 p2 zb
      refine wp_region_quiet_below (by kernel_rfl) (by kernel_rfl) ?_
      repeat (first | go_big_quiet_skip | quiet_step (fail))
      refine wpQuiet_nil ?_
      intro _ hw'
      obtain ⟨⟨dq, osq⟩, hw''⟩ := hw'
      subst hw''
      have bq := below_regrown w0 dq osq
      generalize grow (redrawn w0 dq) osq = w1 at bq ⊢
      clear k0 k1 k2 k3 k4 k5 k6 k7
      have DX := Lib.hid (DX.out.below bq)
      have RX := Lib.hid (RX.out.below bq)
      have FX := Lib.hid (FX.out.then_below bq)
      clear bq
      obtain ⟨p0, p1, p2⟩ := RX.out.2
      go_wp2
      clear p0 p1 p2
      have D := DX.out
      obtain ⟨p0, p1, p2⟩ := RX.out.2
      obtain ⟨zb, a0, a1, a2, af⟩ := D.at_
      have gl0 := D.ol.cell hj
      have gr0 := D.or_.cell (i := j) hjr
      rw [HX.out] at gl0
      rw [HY.out] at gr0
      have k0 := fun d os => cell_regrown a0 d os
      have k1 := fun d os => cell_regrown a1 d os
      have k2 := fun d os => cell_regrown a2 d os
      have k3 := fun d os => cell_regrown p0 d os
      have k4 := fun d os => cell_regrown p1 d os
      have k5 := fun d os => cell_regrown p2 d os
      have k6 := fun d os => cell_regrown gl0 d os
      have k7 := fun d os => cell_regrown gr0 d os
      clear D a0 a1 a2 af gl0 gr0 p0 p1 p2 zb
      refine wp_region_quiet_below (by kernel_rfl) (by kernel_rfl) ?_
      repeat (first | go_big_quiet_skip | quiet_step (fail))
      refine wpQuiet_nil ?_
      intro _ hw'
      obtain ⟨⟨dq, osq⟩, hw''⟩ := hw'
      subst hw''
      have bq := below_regrown w1 dq osq
      generalize grow (redrawn w1 dq) osq = w2 at bq ⊢
      clear k0 k1 k2 k3 k4 k5 k6 k7
      have DX := Lib.hid (DX.out.below bq)
      have RX := Lib.hid (RX.out.below bq)
      have FX := Lib.hid (FX.out.then_below bq)
      clear bq
      have hN := HF.out
      rw [if_neg (fun h => HV1.out h.2)] at hN
      have HN := Lib.hid hN
      clear hN
      go_wp2
      go_ret
      exact LearnP.no HN.out DX.out FX.out
  · skip
    have ty : (y != (-1 : Int)) = true := by simp [hy1]
    have HY1 := Lib.hid hy1
    clear hy1
    go_enter Try.func45, Try.ntmps45
    go_upto_region 1 with (fail)
    generalize w.alloc (.cells #[.int .i64 1, .int .i64 j, .int .i64 v] 42) = w0 at DX RX FX ⊢
    have D := DX.out
    obtain ⟨p0, p1, p2⟩ := RX.out.2
    obtain ⟨zb, a0, a1, a2, af⟩ := D.at_
    have gl0 := D.ol.cell hj
    have gr0 := D.or_.cell (i := j) hjr
    rw [HX.out] at gl0
    rw [HY.out] at gr0
    have k0 := fun d os => cell_regrown a0 d os
    have k1 := fun d os => cell_regrown a1 d os
    have k2 := fun d os => cell_regrown a2 d os
    have k3 := fun d os => cell_regrown p0 d os
    have k4 := fun d os => cell_regrown p1 d os
    have k5 := fun d os => cell_regrown p2 d os
    have k6 := fun d os => cell_regrown gl0 d os
    have k7 := fun d os => cell_regrown gr0 d os
    clear D a0 a1 a2 af gl0 gr0 p0 p1 p2 zb
    refine wp_region_quiet_below (by kernel_rfl) (by kernel_rfl) ?_
    repeat (first | go_big_quiet_skip | quiet_step (fail))
    refine wpQuiet_nil ?_
    intro _ hw'
    obtain ⟨⟨dq, osq⟩, hw''⟩ := hw'
    subst hw''
    have bq := below_regrown w0 dq osq
    generalize grow (redrawn w0 dq) osq = w1 at bq ⊢
    clear k0 k1 k2 k3 k4 k5 k6 k7
    have DX := Lib.hid (DX.out.below bq)
    have RX := Lib.hid (RX.out.below bq)
    have FX := Lib.hid (FX.out.then_below bq)
    clear bq
    obtain ⟨p0, p1, p2⟩ := RX.out.2
    go_wp2
    clear p0 p1 p2
    have D := DX.out
    obtain ⟨p0, p1, p2⟩ := RX.out.2
    obtain ⟨zb, a0, a1, a2, af⟩ := D.at_
    have gl0 := D.ol.cell hj
    have gr0 := D.or_.cell (i := j) hjr
    rw [HX.out] at gl0
    rw [HY.out] at gr0
    have k0 := fun d os => cell_regrown a0 d os
    have k1 := fun d os => cell_regrown a1 d os
    have k2 := fun d os => cell_regrown a2 d os
    have k3 := fun d os => cell_regrown p0 d os
    have k4 := fun d os => cell_regrown p1 d os
    have k5 := fun d os => cell_regrown p2 d os
    have k6 := fun d os => cell_regrown gl0 d os
    have k7 := fun d os => cell_regrown gr0 d os
    clear D a0 a1 a2 af gl0 gr0 p0 p1 p2 zb
    refine wp_region_quiet_below (by kernel_rfl) (by kernel_rfl) ?_
    repeat (first | go_big_quiet_skip | quiet_step (fail))
    refine wpQuiet_nil ?_
    intro _ hw'
    obtain ⟨⟨dq, osq⟩, hw''⟩ := hw'
    subst hw''
    have bq := below_regrown w1 dq osq
    generalize grow (redrawn w1 dq) osq = w2 at bq ⊢
    clear k0 k1 k2 k3 k4 k5 k6 k7
    have DX := Lib.hid (DX.out.below bq)
    have RX := Lib.hid (RX.out.below bq)
    have FX := Lib.hid (FX.out.then_below bq)
    clear bq
    have hN := HF.out
    rw [if_neg (fun h => HY1.out h.1)] at hN
    have HN := Lib.hid hN
    clear hN
    go_wp2
    go_ret
    exact LearnP.no HN.out DX.out FX.out
set_option maxHeartbeats 8000000 in
theorem learn_2 {base b o gl cl gr cr j : Nat} {lv rs : List Int} (outs v : Int) (w : World) (hD : DeskIs w base b o gl cl gr cr lv rs outs) (hj : j < lv.length) (hn : lv.length ≤ 1000000)
    (hx1 : ∀ x ∈ lv, -1000000000 ≤ x ∧ x ≤ 1000000000) (ho1 : 0 ≤ outs) (ho2 : outs ≤ 1000000000) :
    Calls Try.prog 45 #[.pointer (some ⟨b, o, none⟩), .agg #[.int .i64 2, .int .i64 j, .int .i64 v]] w (LearnP w base b o gl cl gr cr lv rs outs 2 j v) := by
  obtain ⟨x, hx⟩ : ∃ x, lv[j]'hj = x := ⟨_, rfl⟩
  have hjr : j < rs.length := by rw [hD.len]; exact hj
  obtain ⟨y, hy⟩ : ∃ y, rs[j]'hjr = y := ⟨_, rfl⟩
  have hxb := hx1 _ (List.getElem_mem hj)
  rw [hx] at hxb
  have hxl : -1000000000 ≤ x := hxb.1
  have hxu : x ≤ 1000000000 := hxb.2
  have hgx : lv.getD j 0 = x := by rw [← hx]; simp [hj]
  have hgy : rs.getD j 0 = y := by rw [← hy]; simp [hjr]
  have HX := Lib.hid hx
  have HY := Lib.hid hy
  have HF := Lib.hid (show learnF lv rs outs 2 j v = (if y = -1 then some (lv, rs.set j v, outs) else none) by unfold learnF; simp only [Int.toNat_natCast, hgx, hgy]; simp)
  have hwr : IntKind.i64.wrap (x + 1) = x + 1 := IntWalk.i64_in _ (by omega)
  have hji : (0 : Int) ≤ (j : Int) := by omega
  have hjl : (j : Int) < (lv.length : Int) := by omega
  have hgl := (hD.ol.lt gl rfl).2
  have hgr := (hD.or_.lt gr rfl).2
  have hbb := hD.at_.1
  have n1 : ¬ w.heap.size = gl := by omega
  have n2 : ¬ w.heap.size = gr := by omega
  have n3 : ¬ gl = w.heap.size := by omega
  have n4 : ¬ gr = w.heap.size := by omega
  have n5 := hD.lr
  have n6 := hD.bl
  have n7 := hD.br
  have bx : Below w.heap.size w (w.alloc (.cells #[.int .i64 2, .int .i64 j, .int .i64 v] 42)) := (Below.refl _ _).alloc (Nat.le_refl _) _
  have DX := Lib.hid (hD.below bx)
  have RX := Lib.hid (rec3At_new w 2 j v)
  have FX := Lib.hid (FrD.of_below (o := o) (gl := gl) (gr := gr) bx hbb)
  clear hx1 hxb hx hy hgx hgy hD bx
  by_cases hy1 : y = -1
  · skip
    have ty : (y != (-1 : Int)) = false := by simp [hy1]
    have HY1 := Lib.hid hy1
    clear hy1
    go_enter Try.func45, Try.ntmps45
    go_upto_region 1 with (fail)
    generalize w.alloc (.cells #[.int .i64 2, .int .i64 j, .int .i64 v] 42) = w0 at DX RX FX ⊢
    have D := DX.out
    obtain ⟨p0, p1, p2⟩ := RX.out.2
    obtain ⟨zb, a0, a1, a2, af⟩ := D.at_
    have gl0 := D.ol.cell hj
    have gr0 := D.or_.cell (i := j) hjr
    rw [HX.out] at gl0
    rw [HY.out] at gr0
    have k0 := fun d os => cell_regrown a0 d os
    have k1 := fun d os => cell_regrown a1 d os
    have k2 := fun d os => cell_regrown a2 d os
    have k3 := fun d os => cell_regrown p0 d os
    have k4 := fun d os => cell_regrown p1 d os
    have k5 := fun d os => cell_regrown p2 d os
    have k6 := fun d os => cell_regrown gl0 d os
    have k7 := fun d os => cell_regrown gr0 d os
    clear D a0 a1 a2 af gl0 gr0 p0 p1 p2 zb
    refine wp_region_quiet_below (by kernel_rfl) (by kernel_rfl) ?_
    repeat (first | go_big_quiet_skip | quiet_step (fail))
    refine wpQuiet_nil ?_
    intro _ hw'
    obtain ⟨⟨dq, osq⟩, hw''⟩ := hw'
    subst hw''
    have bq := below_regrown w0 dq osq
    generalize grow (redrawn w0 dq) osq = w1 at bq ⊢
    clear k0 k1 k2 k3 k4 k5 k6 k7
    have DX := Lib.hid (DX.out.below bq)
    have RX := Lib.hid (RX.out.below bq)
    have FX := Lib.hid (FX.out.then_below bq)
    clear bq
    obtain ⟨p0, p1, p2⟩ := RX.out.2
    go_wp2
    clear p0 p1 p2
    have D := DX.out
    obtain ⟨p0, p1, p2⟩ := RX.out.2
    obtain ⟨zb, a0, a1, a2, af⟩ := D.at_
    have gl0 := D.ol.cell hj
    have gr0 := D.or_.cell (i := j) hjr
    rw [HX.out] at gl0
    rw [HY.out] at gr0
    have k0 := fun d os => cell_regrown a0 d os
    have k1 := fun d os => cell_regrown a1 d os
    have k2 := fun d os => cell_regrown a2 d os
    have k3 := fun d os => cell_regrown p0 d os
    have k4 := fun d os => cell_regrown p1 d os
    have k5 := fun d os => cell_regrown p2 d os
    have k6 := fun d os => cell_regrown gl0 d os
    have k7 := fun d os => cell_regrown gr0 d os
    clear D a0 a1 a2 af gl0 gr0 p0 p1 p2 zb
    refine wp_region_below_tail 9 (by kernel_rfl) (by kernel_rfl) ?_
    simp only [List.take_succ_cons, List.take_zero, List.drop_succ_cons, List.drop_zero]
    repeat (first | go_big_quiet_skip | quiet_step (fail))
    refine wpQuiet_nil ?_
    intro _ hw'
    obtain ⟨⟨dq, osq⟩, hw''⟩ := hw'
    subst hw''
    have bq := below_regrown w1 dq osq
    generalize grow (redrawn w1 dq) osq = w2 at bq ⊢
    clear k0 k1 k2 k3 k4 k5 k6 k7
    have DX := Lib.hid (DX.out.below bq)
    have RX := Lib.hid (RX.out.below bq)
    have FX := Lib.hid (FX.out.then_below bq)
    have gl0 := DX.out.ol.cell hj
    have gr0 := DX.out.or_.cell (i := j) hjr
    have gf := DX.out.ol.free j
    have gg := DX.out.or_.free j
    clear bq
    have hN := HF.out
    rw [if_pos HY1.out] at hN
    have HN := Lib.hid hN
    clear hN
    go_wp2
    go_ret
    exact LearnP.yes HN.out (DX.out.setR j v) (FX.out.setF (.inr rfl) DX.out.br j _)
  · skip
    have ty : (y != (-1 : Int)) = true := by simp [hy1]
    have HY1 := Lib.hid hy1
    clear hy1
    go_enter Try.func45, Try.ntmps45
    go_upto_region 1 with (fail)
    generalize w.alloc (.cells #[.int .i64 2, .int .i64 j, .int .i64 v] 42) = w0 at DX RX FX ⊢
    have D := DX.out
    obtain ⟨p0, p1, p2⟩ := RX.out.2
    obtain ⟨zb, a0, a1, a2, af⟩ := D.at_
    have gl0 := D.ol.cell hj
    have gr0 := D.or_.cell (i := j) hjr
    rw [HX.out] at gl0
    rw [HY.out] at gr0
    have k0 := fun d os => cell_regrown a0 d os
    have k1 := fun d os => cell_regrown a1 d os
    have k2 := fun d os => cell_regrown a2 d os
    have k3 := fun d os => cell_regrown p0 d os
    have k4 := fun d os => cell_regrown p1 d os
    have k5 := fun d os => cell_regrown p2 d os
    have k6 := fun d os => cell_regrown gl0 d os
    have k7 := fun d os => cell_regrown gr0 d os
    clear D a0 a1 a2 af gl0 gr0 p0 p1 p2 zb
    refine wp_region_quiet_below (by kernel_rfl) (by kernel_rfl) ?_
    repeat (first | go_big_quiet_skip | quiet_step (fail))
    refine wpQuiet_nil ?_
    intro _ hw'
    obtain ⟨⟨dq, osq⟩, hw''⟩ := hw'
    subst hw''
    have bq := below_regrown w0 dq osq
    generalize grow (redrawn w0 dq) osq = w1 at bq ⊢
    clear k0 k1 k2 k3 k4 k5 k6 k7
    have DX := Lib.hid (DX.out.below bq)
    have RX := Lib.hid (RX.out.below bq)
    have FX := Lib.hid (FX.out.then_below bq)
    clear bq
    obtain ⟨p0, p1, p2⟩ := RX.out.2
    have hN := HF.out
    rw [if_neg HY1.out] at hN
    have HN := Lib.hid hN
    clear hN
    go_wp2
    go_ret
    exact LearnP.no HN.out DX.out FX.out
set_option maxHeartbeats 8000000 in
theorem learn_3 {base b o gl cl gr cr j : Nat} {lv rs : List Int} (outs v : Int) (w : World) (hD : DeskIs w base b o gl cl gr cr lv rs outs) (hj : j < lv.length) (hn : lv.length ≤ 1000000)
    (hx1 : ∀ x ∈ lv, -1000000000 ≤ x ∧ x ≤ 1000000000) (ho1 : 0 ≤ outs) (ho2 : outs ≤ 1000000000) :
    Calls Try.prog 45 #[.pointer (some ⟨b, o, none⟩), .agg #[.int .i64 3, .int .i64 j, .int .i64 v]] w (LearnP w base b o gl cl gr cr lv rs outs 3 j v) := by
  obtain ⟨x, hx⟩ : ∃ x, lv[j]'hj = x := ⟨_, rfl⟩
  have hjr : j < rs.length := by rw [hD.len]; exact hj
  obtain ⟨y, hy⟩ : ∃ y, rs[j]'hjr = y := ⟨_, rfl⟩
  have hxb := hx1 _ (List.getElem_mem hj)
  rw [hx] at hxb
  have hxl : -1000000000 ≤ x := hxb.1
  have hxu : x ≤ 1000000000 := hxb.2
  have hgx : lv.getD j 0 = x := by rw [← hx]; simp [hj]
  have hgy : rs.getD j 0 = y := by rw [← hy]; simp [hjr]
  have HX := Lib.hid hx
  have HY := Lib.hid hy
  have HF := Lib.hid (show learnF lv rs outs 3 j v = (if ¬ y = -1 ∧ (j : Int) = outs then some (lv, rs, outs + 1) else none) by unfold learnF; simp only [Int.toNat_natCast, hgx, hgy]; simp)
  have hwr : IntKind.i64.wrap (x + 1) = x + 1 := IntWalk.i64_in _ (by omega)
  have hji : (0 : Int) ≤ (j : Int) := by omega
  have hjl : (j : Int) < (lv.length : Int) := by omega
  have hgl := (hD.ol.lt gl rfl).2
  have hgr := (hD.or_.lt gr rfl).2
  have hbb := hD.at_.1
  have n1 : ¬ w.heap.size = gl := by omega
  have n2 : ¬ w.heap.size = gr := by omega
  have n3 : ¬ gl = w.heap.size := by omega
  have n4 : ¬ gr = w.heap.size := by omega
  have n5 := hD.lr
  have n6 := hD.bl
  have n7 := hD.br
  have bx : Below w.heap.size w (w.alloc (.cells #[.int .i64 3, .int .i64 j, .int .i64 v] 42)) := (Below.refl _ _).alloc (Nat.le_refl _) _
  have DX := Lib.hid (hD.below bx)
  have RX := Lib.hid (rec3At_new w 3 j v)
  have FX := Lib.hid (FrD.of_below (o := o) (gl := gl) (gr := gr) bx hbb)
  clear hx1 hxb hx hy hgx hgy hD bx
  by_cases hy1 : y = -1
  · skip
    have ty : (y != (-1 : Int)) = false := by simp [hy1]
    have HY1 := Lib.hid hy1
    clear hy1
    go_enter Try.func45, Try.ntmps45
    go_upto_region 1 with (fail)
    generalize w.alloc (.cells #[.int .i64 3, .int .i64 j, .int .i64 v] 42) = w0 at DX RX FX ⊢
    have D := DX.out
    obtain ⟨p0, p1, p2⟩ := RX.out.2
    obtain ⟨zb, a0, a1, a2, af⟩ := D.at_
    have gl0 := D.ol.cell hj
    have gr0 := D.or_.cell (i := j) hjr
    rw [HX.out] at gl0
    rw [HY.out] at gr0
    have k0 := fun d os => cell_regrown a0 d os
    have k1 := fun d os => cell_regrown a1 d os
    have k2 := fun d os => cell_regrown a2 d os
    have k3 := fun d os => cell_regrown p0 d os
    have k4 := fun d os => cell_regrown p1 d os
    have k5 := fun d os => cell_regrown p2 d os
    have k6 := fun d os => cell_regrown gl0 d os
    have k7 := fun d os => cell_regrown gr0 d os
    clear D a0 a1 a2 af gl0 gr0 p0 p1 p2 zb
    refine wp_region_quiet_below (by kernel_rfl) (by kernel_rfl) ?_
    repeat (first | go_big_quiet_skip | quiet_step (fail))
    refine wpQuiet_nil ?_
    intro _ hw'
    obtain ⟨⟨dq, osq⟩, hw''⟩ := hw'
    subst hw''
    have bq := below_regrown w0 dq osq
    generalize grow (redrawn w0 dq) osq = w1 at bq ⊢
    clear k0 k1 k2 k3 k4 k5 k6 k7
    have DX := Lib.hid (DX.out.below bq)
    have RX := Lib.hid (RX.out.below bq)
    have FX := Lib.hid (FX.out.then_below bq)
    clear bq
    obtain ⟨p0, p1, p2⟩ := RX.out.2
    go_wp2
    clear p0 p1 p2
    have D := DX.out
    obtain ⟨p0, p1, p2⟩ := RX.out.2
    obtain ⟨zb, a0, a1, a2, af⟩ := D.at_
    have gl0 := D.ol.cell hj
    have gr0 := D.or_.cell (i := j) hjr
    rw [HX.out] at gl0
    rw [HY.out] at gr0
    have k0 := fun d os => cell_regrown a0 d os
    have k1 := fun d os => cell_regrown a1 d os
    have k2 := fun d os => cell_regrown a2 d os
    have k3 := fun d os => cell_regrown p0 d os
    have k4 := fun d os => cell_regrown p1 d os
    have k5 := fun d os => cell_regrown p2 d os
    have k6 := fun d os => cell_regrown gl0 d os
    have k7 := fun d os => cell_regrown gr0 d os
    clear D a0 a1 a2 af gl0 gr0 p0 p1 p2 zb
    refine wp_region_quiet_below (by kernel_rfl) (by kernel_rfl) ?_
    repeat (first | go_big_quiet_skip | quiet_step (fail))
    refine wpQuiet_nil ?_
    intro _ hw'
    obtain ⟨⟨dq, osq⟩, hw''⟩ := hw'
    subst hw''
    have bq := below_regrown w1 dq osq
    generalize grow (redrawn w1 dq) osq = w2 at bq ⊢
    clear k0 k1 k2 k3 k4 k5 k6 k7
    have DX := Lib.hid (DX.out.below bq)
    have RX := Lib.hid (RX.out.below bq)
    have FX := Lib.hid (FX.out.then_below bq)
    clear bq
    have hN := HF.out
    rw [if_neg (fun h => h.1 HY1.out)] at hN
    have HN := Lib.hid hN
    clear hN
    go_wp2
    go_ret
    exact LearnP.no HN.out DX.out FX.out
  · by_cases hjo : (j : Int) = outs
    · skip
      have tj : ((j : Int) != outs) = false := by simp [hjo]
      have HJO := Lib.hid hjo
      clear hjo
      have ty : (y != (-1 : Int)) = true := by simp [hy1]
      have HY1 := Lib.hid hy1
      clear hy1
      go_enter Try.func45, Try.ntmps45
      go_upto_region 1 with (fail)
      generalize w.alloc (.cells #[.int .i64 3, .int .i64 j, .int .i64 v] 42) = w0 at DX RX FX ⊢
      have D := DX.out
      obtain ⟨p0, p1, p2⟩ := RX.out.2
      obtain ⟨zb, a0, a1, a2, af⟩ := D.at_
      have gl0 := D.ol.cell hj
      have gr0 := D.or_.cell (i := j) hjr
      rw [HX.out] at gl0
      rw [HY.out] at gr0
      have k0 := fun d os => cell_regrown a0 d os
      have k1 := fun d os => cell_regrown a1 d os
      have k2 := fun d os => cell_regrown a2 d os
      have k3 := fun d os => cell_regrown p0 d os
      have k4 := fun d os => cell_regrown p1 d os
      have k5 := fun d os => cell_regrown p2 d os
      have k6 := fun d os => cell_regrown gl0 d os
      have k7 := fun d os => cell_regrown gr0 d os
      clear D a0 a1 a2 af gl0 gr0 p0 p1 p2 zb
      refine wp_region_quiet_below (by kernel_rfl) (by kernel_rfl) ?_
      repeat (first | go_big_quiet_skip | quiet_step (fail))
      refine wpQuiet_nil ?_
      intro _ hw'
      obtain ⟨⟨dq, osq⟩, hw''⟩ := hw'
      subst hw''
      have bq := below_regrown w0 dq osq
      generalize grow (redrawn w0 dq) osq = w1 at bq ⊢
      clear k0 k1 k2 k3 k4 k5 k6 k7
      have DX := Lib.hid (DX.out.below bq)
      have RX := Lib.hid (RX.out.below bq)
      have FX := Lib.hid (FX.out.then_below bq)
      clear bq
      obtain ⟨p0, p1, p2⟩ := RX.out.2
      go_wp2
      clear p0 p1 p2
      have D := DX.out
      obtain ⟨p0, p1, p2⟩ := RX.out.2
      obtain ⟨zb, a0, a1, a2, af⟩ := D.at_
      have gl0 := D.ol.cell hj
      have gr0 := D.or_.cell (i := j) hjr
      rw [HX.out] at gl0
      rw [HY.out] at gr0
      have k0 := fun d os => cell_regrown a0 d os
      have k1 := fun d os => cell_regrown a1 d os
      have k2 := fun d os => cell_regrown a2 d os
      have k3 := fun d os => cell_regrown p0 d os
      have k4 := fun d os => cell_regrown p1 d os
      have k5 := fun d os => cell_regrown p2 d os
      have k6 := fun d os => cell_regrown gl0 d os
      have k7 := fun d os => cell_regrown gr0 d os
      clear D a0 a1 a2 af gl0 gr0 p0 p1 p2 zb
      refine wp_region_quiet_below (by kernel_rfl) (by kernel_rfl) ?_
      repeat (first | go_big_quiet_skip | quiet_step (fail))
      refine wpQuiet_nil ?_
      intro _ hw'
      obtain ⟨⟨dq, osq⟩, hw''⟩ := hw'
      subst hw''
      have bq := below_regrown w1 dq osq
      generalize grow (redrawn w1 dq) osq = w2 at bq ⊢
      clear k0 k1 k2 k3 k4 k5 k6 k7
      have DX := Lib.hid (DX.out.below bq)
      have RX := Lib.hid (RX.out.below bq)
      have FX := Lib.hid (FX.out.then_below bq)
      clear bq
      obtain ⟨zb, a0, a1, a2, af⟩ := DX.out.at_
      have hN := HF.out
      rw [if_pos ⟨HY1.out, HJO.out⟩] at hN
      have HN := Lib.hid hN
      clear hN
      go_wp2
      go_ret
      exact LearnP.yes HN.out (DX.out.setO (outs + 1)) (FX.out.setO _)
    · skip
      have tj : ((j : Int) != outs) = true := by simp [hjo]
      have HJO := Lib.hid hjo
      clear hjo
      have ty : (y != (-1 : Int)) = true := by simp [hy1]
      have HY1 := Lib.hid hy1
      clear hy1
      go_enter Try.func45, Try.ntmps45
      go_upto_region 1 with (fail)
      generalize w.alloc (.cells #[.int .i64 3, .int .i64 j, .int .i64 v] 42) = w0 at DX RX FX ⊢
      have D := DX.out
      obtain ⟨p0, p1, p2⟩ := RX.out.2
      obtain ⟨zb, a0, a1, a2, af⟩ := D.at_
      have gl0 := D.ol.cell hj
      have gr0 := D.or_.cell (i := j) hjr
      rw [HX.out] at gl0
      rw [HY.out] at gr0
      have k0 := fun d os => cell_regrown a0 d os
      have k1 := fun d os => cell_regrown a1 d os
      have k2 := fun d os => cell_regrown a2 d os
      have k3 := fun d os => cell_regrown p0 d os
      have k4 := fun d os => cell_regrown p1 d os
      have k5 := fun d os => cell_regrown p2 d os
      have k6 := fun d os => cell_regrown gl0 d os
      have k7 := fun d os => cell_regrown gr0 d os
      clear D a0 a1 a2 af gl0 gr0 p0 p1 p2 zb
      refine wp_region_quiet_below (by kernel_rfl) (by kernel_rfl) ?_
      repeat (first | go_big_quiet_skip | quiet_step (fail))
      refine wpQuiet_nil ?_
      intro _ hw'
      obtain ⟨⟨dq, osq⟩, hw''⟩ := hw'
      subst hw''
      have bq := below_regrown w0 dq osq
      generalize grow (redrawn w0 dq) osq = w1 at bq ⊢
      clear k0 k1 k2 k3 k4 k5 k6 k7
      have DX := Lib.hid (DX.out.below bq)
      have RX := Lib.hid (RX.out.below bq)
      have FX := Lib.hid (FX.out.then_below bq)
      clear bq
      obtain ⟨p0, p1, p2⟩ := RX.out.2
      go_wp2
      clear p0 p1 p2
      have D := DX.out
      obtain ⟨p0, p1, p2⟩ := RX.out.2
      obtain ⟨zb, a0, a1, a2, af⟩ := D.at_
      have gl0 := D.ol.cell hj
      have gr0 := D.or_.cell (i := j) hjr
      rw [HX.out] at gl0
      rw [HY.out] at gr0
      have k0 := fun d os => cell_regrown a0 d os
      have k1 := fun d os => cell_regrown a1 d os
      have k2 := fun d os => cell_regrown a2 d os
      have k3 := fun d os => cell_regrown p0 d os
      have k4 := fun d os => cell_regrown p1 d os
      have k5 := fun d os => cell_regrown p2 d os
      have k6 := fun d os => cell_regrown gl0 d os
      have k7 := fun d os => cell_regrown gr0 d os
      clear D a0 a1 a2 af gl0 gr0 p0 p1 p2 zb
      refine wp_region_quiet_below (by kernel_rfl) (by kernel_rfl) ?_
      repeat (first | go_big_quiet_skip | quiet_step (fail))
      refine wpQuiet_nil ?_
      intro _ hw'
      obtain ⟨⟨dq, osq⟩, hw''⟩ := hw'
      subst hw''
      have bq := below_regrown w1 dq osq
      generalize grow (redrawn w1 dq) osq = w2 at bq ⊢
      clear k0 k1 k2 k3 k4 k5 k6 k7
      have DX := Lib.hid (DX.out.below bq)
      have RX := Lib.hid (RX.out.below bq)
      have FX := Lib.hid (FX.out.then_below bq)
      clear bq
      have hN := HF.out
      rw [if_neg (fun h => HJO.out h.2)] at hN
      have HN := Lib.hid hN
      clear hN
      go_wp2
      go_ret
      exact LearnP.no HN.out DX.out FX.out
theorem learn_any {base b o gl cl gr cr j : Nat} {lv rs : List Int} (k outs v : Int) (w : World) (hk : k = 1 ∨ k = 2 ∨ k = 3) (hD : DeskIs w base b o gl cl gr cr lv rs outs) (hj : j < lv.length) (hn : lv.length ≤ 1000000)
    (hx1 : ∀ x ∈ lv, -1000000000 ≤ x ∧ x ≤ 1000000000) (ho1 : 0 ≤ outs) (ho2 : outs ≤ 1000000000) :
    Calls Try.prog 45 #[.pointer (some ⟨b, o, none⟩), .agg #[.int .i64 k, .int .i64 j, .int .i64 v]] w (LearnP w base b o gl cl gr cr lv rs outs k j v) := by
  rcases hk with rfl | rfl | rfl
  · exact learn_1 outs v w hD hj hn hx1 ho1 ho2
  · exact learn_2 outs v w hD hj hn hx1 ho1 ho2
  · exact learn_3 outs v w hD hj hn hx1 ho1 ho2
end Go.Proofs.Ytihjadffdjjogaa
