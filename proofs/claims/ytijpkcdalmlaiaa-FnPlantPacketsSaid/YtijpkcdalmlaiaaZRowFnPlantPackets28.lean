/-
  The chains that the laws draw: weights moved in a row (l02Thin). With it: The chains that the laws draw: l01Draw, P6Chain.
-/
import Derived.Test.YtijpkcdalmlaiaaZRowFnPlantPackets25
import Derived.Test.YtijpkcdalmlaiaaZRowFnPlantPackets21
import Derived.Test.YtijpkcdalmlaiaaZRowFnPlantPackets6
set_option linter.unusedVariables false
set_option linter.unusedSimpArgs false
namespace Go.Proofs.Ytijpkcdalmlaiaa
open Go.RowKit Go.Sort
theorem chain_drawn {n t : Nat} {xss : List (List Int)} (h1 : 1 ≤ n) (h2 : n ≤ 6) (t1 : 1 ≤ t) (t2 : t ≤ 60) (hl : xss.length = n) (hr : ∀ r ∈ xss, r.length = n ∧ (∀ x ∈ r, 0 ≤ x ∧ x ≤ (t : Int)) ∧ r.sum = (t : Int)) : chainOk n t xss = true := by
  unfold chainOk
  rw [Bool.and_eq_true, Bool.and_eq_true, Bool.and_eq_true]
  refine ⟨inR_iff.2 (by omega), inR_iff.2 (by omega), by simp [hl], ?_⟩
  unfold rowsOk
  rw [List.all_eq_true]
  intro r hm
  obtain ⟨a, b, c⟩ := hr r hm
  unfold rowOk inAll
  rw [Bool.and_eq_true, Bool.and_eq_true, List.all_eq_true]
  exact ⟨by simp [a], fun x hx => inR_iff.2 (by have := b x hx; omega), by simp [c]⟩
/-- a chain under work -/
structure Box3 (w : World) (b : Nat) (n t : Int) (v : Value) : Prop where
  c : CellsAt w b [.int .i64 n, .int .i64 t, v]
  f : ∀ i, w.frozen? ⟨b, i, none⟩ = false
theorem Box3.fs {S : Nat → Prop} {w w' : World} {b : Nat} {n t : Int} {v : Value} (h : Box3 w b n t v) (hf : Fs S w w') (hS : ¬ S b) : Box3 w' b n t v :=
  ⟨h.c.fs hf hS, fun i => by rw [hf.frozen (p := ⟨b, i, none⟩) h.c.1 hS]; exact h.f i⟩
theorem Box3.new (w : World) (n t : Int) (v : Value) : Box3 (w.alloc (.cells #[.int .i64 n, .int .i64 t, v] 33)) w.heap.size n t v :=
  ⟨CellsAt.new w [.int .i64 n, .int .i64 t, v] 33, fun i => by simp [go_sem]⟩
theorem Box3.set {w : World} {b : Nat} {n t : Int} {v : Value} (h : Box3 w b n t v) (u : Value) : Box3 (w.setCell ⟨b, 2, none⟩ u) b n t u := by
  have c0 := h.c.get 0 _ rfl
  have c1 := h.c.get 1 _ rfl
  have c2 := h.c.get 2 _ rfl
  refine ⟨⟨by simpa using h.c.1, fun i v hv => ?_⟩, fun i => by simpa using h.f i⟩
  match i, hv with
  | 0, hv => simp at hv; subst hv; simp [go_sem, c0]
  | 1, hv => simp at hv; subst hv; simp [go_sem, c1]
  | 2, hv => simp at hv; subst hv; simp [go_sem, c2]
theorem OwnIIB.fsJ {S : Nat → Prop} {w w' : World} {base B : Nat} {v : Value} {xss : List (List Int)} (h : OwnIIB w base B v xss) (hf : Fs S w w') (hS : ∀ k, S k → k < base) : OwnIIB w' base B v xss := by
  obtain ⟨vs, h1, h2, h3⟩ := h
  exact ⟨vs, ownsRow_fs h1 hf hS, ⟨h2.1, fun i u xs hu hx => ownsRow_fs (h2.2.1 i u xs hu hx) hf hS, h2.2.2⟩, h3⟩
theorem OwnII.formJ {w : World} {base : Nat} {v : Value} {xss : List (List Int)} (h : OwnII w base v xss) : ∃ a n c, v = .slice a n c ∧ Hid (n = xss.length) := by
  obtain ⟨a, ca, us, rfl, _⟩ := h.sl
  exact ⟨a, _, ca, rfl, rfl⟩
theorem Fs.set1 (w : World) (r i : Nat) (x : Value) : Fs (fun k => k = r) w (w.setCell ⟨r, i, none⟩ x) := Fs.set (S := fun k => k = r) (Fs.refl _ _) (a := ⟨r, i, none⟩) rfl _
theorem Fs.set3 (w : World) (r : Nat) (x y z : Value) : Fs (fun k => k = r) w (((w.setCell ⟨r, 0, none⟩ x).setCell ⟨r, 1, none⟩ y).setCell ⟨r, 2, none⟩ z) :=
  Fs.set (S := fun k => k = r) (Fs.set (S := fun k => k = r) (Fs.set (S := fun k => k = r) (Fs.refl _ _) (a := ⟨r, 0, none⟩) rfl _) (a := ⟨r, 1, none⟩) rfl _) (a := ⟨r, 2, none⟩) rfl _
theorem Fs.of_belowB {w w' : World} {B : Nat} (h : Below B w w') : Fs (fun k => B ≤ k) w w' := ⟨h.os, h.tape, h.output, h.size, fun k hk hx => h.block k (by omega)⟩
theorem step_appRowJ {ops : Array Oper} {o : Oper} {a : Act} {K : Act → World → Prop} {Q : Exit → Act → World → Prop} {E : Prop} {w w4 : World} (hg : o.guard = none) (s x : Operand)
    (ho : o.op = .call { callee := .builtin .append, args := #[s, x], argTypes := #[22, 22] })
    {base B g : Nat} {v u : Value} {xss : List (List Int)} {xs : List Int} (hs : a.eval s = v) (hown : OwnIIB w4 base B v xss) (hu : OwnI w4 base u xs) (hB : ∀ g, u.ownBlock = some g → B ≤ g) (h4w : Below w4.heap.size w4 w)
    (hx : a.eval x = .slice (some ⟨g, 0, none⟩) 1 1) (hc : w.cell? ⟨g, 0, none⟩ = some u) (hlen : xss.length < 16777216) (hbase : base ≤ w4.heap.size)
    (h : ∀ v' w', OwnII w' base v' (xss ++ [xs]) → Below base w4 w' → K (a.put o.dst v') w') : if Region.wanted o (yielded ops a.tmps) = true then Oper.wp Try.prog o a w K Q else E := by
  have ho4 := hown.below h4w
  have hz := Nat.le_trans hbase h4w.size
  exact stepAppRow w s x hg ho hs ho4 (hu.below h4w) hB hx hc hlen hz (fun v' w' k1 k2 => h v' w' k1 ((h4w.mono hbase).trans ((Below.refl _ _).grown k2 hz (fun k hk => (ho4.lt k hk).1))))

set_option maxRecDepth 100000 in
set_option maxHeartbeats 8000000 in
theorem l01Draw_any (b K mo : Nat) (w : World) (hs : SrcB w b K) (hK : K ≤ 100000) (hm : 1 ≤ mo) (hm2 : mo ≤ 6) :
    Calls Try.prog 126 #[.pointer (some ⟨b, 0, none⟩), .int .i64 mo] w fun e w' => ∃ (n t : Nat) (v : Value) (xss : List (List Int)), e = .returned (.agg #[.int .i64 n, .int .i64 t, v]) ∧ n ≤ mo ∧ chainOk n t xss = true ∧ OwnII w' w.heap.size v xss ∧ SrcB w' b (K + 1000) ∧ Fs (fun k => k = b) w w' := by
  have hbw := hs.lt
  have hA : Below w.heap.size w (w.alloc (.cells #[.int .i64 0, .int .i64 0, .slice none 0 0] 33)) := (Below.refl _ _).alloc (Nat.le_refl _) _
  have S1 := Lib.hid (hs.below hA)
  have FA := Lib.hid (Fs.of_below (S := fun k => k = b) hA)
  have R1 := Lib.hid (Box3.new w 0 0 (.slice none 0 0))
  obtain ⟨W1, hW1⟩ : ∃ W1, W1 = w.alloc (.cells #[.int .i64 0, .int .i64 0, .slice none 0 0] 33) := ⟨_, rfl⟩
  rw [← hW1] at S1 FA R1
  have Z1 := Lib.hid (show W1.heap.size = w.heap.size + 1 by rw [hW1]; simp)
  have HW1 := Lib.hid hW1
  clear hs hA hW1
  go_enter Try.func126, Try.ntmps126
  go_wp2_with fail
  rw [← HW1.out]
  refine (pick_any b K mo _ S1.out (by omega)).mono ?_
  rintro e w1 ⟨y, rfl, hy0, hy1, s1, g1⟩
  obtain ⟨y, rfl⟩ := Int.eq_ofNat_of_zero_le hy0
  obtain ⟨n, hn⟩ : ∃ n, n = y + 1 := ⟨_, rfl⟩
  have hn1 : 1 ≤ n := by omega
  have hn2 : n ≤ mo := by omega
  have r1 : IntKind.i64.wrap (1 + (y : Int)) = (n : Int) := by rw [IntWalk.i64_in _ (by omega)]; omega
  have hzw1 := g1.size
  have F1 := Lib.hid (FA.out.trans g1)
  have R2 := Lib.hid (R1.out.fs g1 (by omega))
  have OL := Lib.hid (show OwnI (w1.alloc (.cells #[.int .i64 1, .int .i64 2, .int .i64 2, .int .i64 3, .int .i64 4, .int .i64 6] 2)) w1.heap.size (.slice (some ⟨w1.heap.size, 0, none⟩) 6 6) [1, 2, 2, 3, 4, 6] from
    World.ownsRow_lit (base := w1.heap.size) (e := 2) (size := 1) w1 #[.int .i64 1, .int .i64 2, .int .i64 2, .int .i64 3, .int .i64 4, .int .i64 6] 6 (Nat.le_refl _) (by simp [maxLen]) (by simp))
  have hA2 : Below w1.heap.size w1 (w1.alloc (.cells #[.int .i64 1, .int .i64 2, .int .i64 2, .int .i64 3, .int .i64 4, .int .i64 6] 2)) := (Below.refl _ _).alloc (Nat.le_refl _) _
  have S2 := Lib.hid (s1.below hA2)
  have F2 := Lib.hid (F1.out.trans (Fs.of_below hA2))
  have R3 := Lib.hid (R2.out.fs (S := fun _ => False) (Fs.of_below hA2) (fun h => h))
  have HB1 := Lib.hid s1.lt
  clear hy0 hy1 hn s1 g1 hA2
  go_wp2_with fail
  refine (among_any b (K + 2) (xs := [1, 2, 2, 3, 4, 6]) _ S2.out (by omega) (fun W hf => (OL.out.fs hf (fun k hk => by have := HB1.out; omega)).sl) (by simp) (by simp)).mono ?_
  rintro e w2 ⟨t, ht, rfl, s2, g2⟩
  obtain ⟨t, rfl, ht1, ht2⟩ : ∃ t' : Nat, t = (t' : Int) ∧ 1 ≤ t' ∧ t' ≤ 6 := by
    simp at ht
    exact ⟨t.toNat, by omega, by omega, by omega⟩
  have F3 := Lib.hid (F2.out.trans g2)
  have R4 := Lib.hid (R3.out.fs g2 (by omega))
  have hA3 : Below w2.heap.size w2 (w2.alloc (.cells #[.int .i64 n, .int .i64 t, .slice none 0 0] 33)) := (Below.refl _ _).alloc (Nat.le_refl _) _
  have HB2 := Lib.hid s2.lt
  have S3 := Lib.hid (s2.below hA3)
  have F4 := Lib.hid (F3.out.trans (Fs.of_below hA3))
  have R5 := Lib.hid (R4.out.fs (S := fun _ => False) (Fs.of_below hA3) (fun h => h))
  have X3 := Lib.hid (Box3.new w2 n t (.slice none 0 0))
  obtain ⟨W3, hW3⟩ : ∃ W3, W3 = w2.alloc (.cells #[.int .i64 n, .int .i64 t, .slice none 0 0] 33) := ⟨_, rfl⟩
  rw [← hW3] at S3 F4 R5 X3
  have HW3 := Lib.hid hW3
  have ZR := Lib.hid (show w.heap.size < w2.heap.size from R4.out.c.1)
  have Z3 := Lib.hid (show W3.heap.size = w2.heap.size + 1 by rw [hW3]; simp)
  clear ht s2 g2 hA3 S1 FA R1 R2 F1 OL S2 F2 R3 HB1 hzw1 hW3
  go_wp2
  rw [← HW3.out]
  go_loopw [6] (fun l wr => ∃ (i : Nat) (v : Value) (xss : List (List Int)), i ≤ n ∧ l = .int .i64 i ∧ xss.length = i ∧ Hid (∀ r ∈ xss, r.length = n ∧ (∀ x ∈ r, 0 ≤ x ∧ x ≤ (t : Int)) ∧ r.sum = (t : Int)) ∧ Box3 wr w2.heap.size n t v ∧ OwnII wr (w2.heap.size + 1) v xss ∧ SrcB wr b (K + 4 + 24 * i) ∧ Fs (fun k => k = b ∨ k = w2.heap.size) W3 wr) (fun l _ => n - (intOf l).toNat)
  case atStart => exact ⟨0, _, [], Nat.zero_le _, rfl, rfl, Lib.hid (by simp), X3.out, OwnII.nil _ _, S3.out, Fs.refl _ _⟩
  case round =>
    obtain ⟨i, v, xss, hi, rfl, hxl, hrows, hbox, hown, hsrc, hf⟩ := hrel
    by_cases hlt : i < n
    · have i1 : (i : Int) < (n : Int) := by omega
      have c0 := hbox.c.get 0 _ rfl
      have c1 := hbox.c.get 1 _ rfl
      have c2 := hbox.c.get 2 _ rfl
      have zb := hbox.c.1
      have HBX := Lib.hid hbox
      have HO := Lib.hid hown.b
      have HS := Lib.hid hsrc
      have HF := Lib.hid hf
      have hbne : ¬ w2.heap.size = b := by have := HB2.out; omega
      have hz3 : w2.heap.size + 1 ≤ wr.heap.size := by omega
      have hxs : xss.length < 16777216 := by omega
      clear hbox hown hsrc hf
      go_wp2_with fail
      go_region_law (first
        | (refine step_appRowJ (w4 := w4) (B := wr.heap.size) rfl (.tmp 22) (.tmp 29) rfl (u := .slice ua n uc) (xs := r) rfl o4 u4 hB4 (by (repeat (first | exact Below.refl _ _ | refine Below.drew ?_ | refine Below.alloc ?_ (by simp) _))) rfl (by first | (simp [go_sem]; done) | fail) hxs hz4 ?_; intro v5 w5 o5 b5; obtain ⟨oa, on, oc, rfl, _⟩ := o5.formJ; have x5 := x4.fs (Fs.of_belowB b5) (by omega); have s5 := s4.fs (Fs.of_belowB b5) (fun k hk => by have := HB2.out; omega); have q0 := x5.c.get 0 _ rfl; have q1 := x5.c.get 1 _ rfl; have q2 := x5.c.get 2 _ rfl; have q3 := x5.f 2)
        | (go_simp; go_at_call 137; refine (l01Row_any b (K + 4 + 24 * i) n t _ (HS.out.below (by (repeat (first | exact Below.refl _ _ | refine Below.drew ?_ | refine Below.alloc ?_ (by simp) _)))) (by omega) (by omega) (by omega) (by omega)).mono ?_; rintro e w4 ⟨u, r, rfl, hrl, hrx, hrs, ou, s4, g4⟩; obtain ⟨ua, uc, rfl, _⟩ := id ou.sl; rw [hrl] at ou ⊢; have G4 : Fs (fun k => k = b) wr w4 := (Fs.of_below (by (repeat (first | exact Below.refl _ _ | refine Below.drew ?_ | refine Below.alloc ?_ (by simp) _)))).trans g4; have o4 := OwnIIB.fsJ HO.out G4 (fun k hk => by have := HB2.out; omega); have hwz : wr.heap.size ≤ w4.heap.size := G4.size; have u4 := ou.lower (base' := w2.heap.size + 1) (by simpa using hz3); have hB4 : ∀ g, (Value.slice ua n uc).ownBlock = some g → wr.heap.size ≤ g := (fun g hg => by have := (ou.lt g hg).1; simpa using this); have x4 := HBX.out.fs G4 hbne; have hz4 : w2.heap.size + 1 ≤ w4.heap.size := Nat.le_trans hz3 hwz; have p2 := x4.c.get 2 _ rfl; have hl4 : w2.heap.size < w4.heap.size := hz4; have hn4 : ¬ w2.heap.size = w4.heap.size := Nat.ne_of_lt hl4; have hn4' : ¬ w4.heap.size = w2.heap.size := Nat.ne_of_gt hl4)
        | fail "no arm")
      all_goals
        have ROW := Lib.hid (show ∀ x ∈ xss ++ [r], x.length = n ∧ (∀ y ∈ x, 0 ≤ y ∧ y ≤ (t : Int)) ∧ x.sum = (t : Int) from fun x hx => by
          simp only [List.mem_append, List.mem_singleton] at hx
          rcases hx with hx | rfl
          · exact hrows.out x hx
          · exact ⟨hrl, hrx, hrs⟩)
        have O5 := Lib.hid o5
        have X5 := Lib.hid x5
        have S5 := Lib.hid s5
        have F5 := Lib.hid (show Fs (fun k => k = b ∨ k = w2.heap.size) W3 w5 from ⟨b5.os.trans (G4.os.trans HF.out.os), b5.tape.trans (G4.tape.trans HF.out.tape), b5.output.trans (G4.output.trans HF.out.output), Nat.le_trans HF.out.size (Nat.le_trans G4.size b5.size), fun k hk hx => (b5.block k (by have := Z3.out; omega)).trans ((G4.block k (Nat.lt_of_lt_of_le hk HF.out.size) (fun e => hx (.inl e))).trans (HF.out.block k hk hx))⟩)
        clear o5 x5 s5 b5
        go_wp2
        go_roundw
        case rel => exact ⟨i + 1, _, xss ++ [r], by omega, by go_num, by simp [hxl], ROW, X5.out.set _, O5.out.setCell (by simp) _, (S5.out.fs (Fs.set1 _ _ _ _) (fun k hk => by have := HB2.out; omega)).more (by omega), F5.out.set (a := ⟨w2.heap.size, 2, none⟩) (.inr rfl) _⟩
        case measure => simp [intOf]; omega
    · obtain rfl : i = n := by omega
      have R6 := R5.out.fs hf (by have := ZR.out; have := Z1.out; omega)
      have c0 := hbox.c.get 0 _ rfl
      have c1 := hbox.c.get 1 _ rfl
      have c2 := hbox.c.get 2 _ rfl
      have q0 := R6.c.get 0 _ rfl
      have q1 := R6.c.get 1 _ rfl
      have q2 := R6.c.get 2 _ rfl
      have f0 := R6.f 0
      have f1 := R6.f 1
      have f2 := R6.f 2
      have zz := R6.c.1
      have HCH := Lib.hid (chain_drawn hn1 (by omega) ht1 (by omega) hxl hrows.out)
      obtain ⟨va, vn, vc, rfl, _⟩ := hown.formJ
      have HO := Lib.hid hown
      have HS := Lib.hid hsrc
      have HF := Lib.hid (show Fs (fun k => k = b) w wr from ⟨hf.os.trans F4.out.os, hf.tape.trans F4.out.tape, hf.output.trans F4.out.output, Nat.le_trans F4.out.size hf.size, fun k hk hx => (hf.block k (Nat.lt_of_lt_of_le hk F4.out.size) (by have := ZR.out; omega)).trans (F4.out.block k hk hx)⟩)
      clear hbox R6 hown hsrc hf hrows
      go_wp2
      refine bodyPost_ret (v := .agg #[.int .i64 i, .int .i64 t, .slice va vn vc]) (by simp [results, Try.results126, go_sem, c0, c1, c2, q0, q1, q2, zz]) rfl ⟨i, t, _, xss, rfl, hn2, HCH.out, ?_, ?_, ?_⟩
      · exact (((HO.out.setCell (by have := ZR.out; simp; omega) _).setCell (by have := ZR.out; simp; omega) _).setCell (by have := ZR.out; simp; omega) _).lower (by have := ZR.out; omega)
      · exact (HS.out.fs (Fs.set3 _ _ _ _ _) (fun k hk => by omega)).more (by omega)
      · have hs3 := Fs.set3 wr w.heap.size (.int .i64 i) (.int .i64 t) (.slice va vn vc)
        exact ⟨hs3.os.trans HF.out.os, hs3.tape.trans HF.out.tape, hs3.output.trans HF.out.output, Nat.le_trans HF.out.size hs3.size, fun k hk hx => (hs3.block k (Nat.lt_of_lt_of_le hk HF.out.size) (by omega)).trans (HF.out.block k hk hx)⟩
end Go.Proofs.Ytijpkcdalmlaiaa
namespace Go.Proofs.Ytijpkcdalmlaiaa
open Go.RowKit Go.Sort
theorem OwnII.formN {w : World} {base : Nat} {v : Value} {xss : List (List Int)} (h : OwnII w base v xss) (hn : 0 < xss.length) : ∃ gv c, v = .slice (some ⟨gv, 0, none⟩) xss.length c ∧ gv < w.heap.size ∧ base ≤ gv := by
  obtain ⟨vs, h1, h2⟩ := h
  rcases h1.2 with ⟨_, h0⟩ | ⟨gv, c, cur, hv, _⟩
  · omega
  · exact ⟨gv, c, hv, by rename_i h; exact ⟨(Array.getElem?_eq_some_iff.1 h.2.1).1, h.1⟩⟩
def RowsP (n t : Nat) (xss : List (List Int)) : Prop := ∀ r ∈ xss, r.length = n ∧ (∀ x ∈ r, 0 ≤ x ∧ x ≤ (t : Int)) ∧ r.sum = (t : Int)
theorem le_sumI : ∀ {l : List Int}, (∀ x ∈ l, 0 ≤ x) → 0 ≤ l.sum ∧ ∀ x ∈ l, x ≤ l.sum
  | [], _ => by simp
  | a :: l, h => by
    obtain ⟨h1, h2⟩ := le_sumI (l := l) (fun x hx => h x (by simp [hx]))
    have ha := h a (by simp)
    rw [List.sum_cons]
    refine ⟨by omega, fun x hx => ?_⟩
    simp only [List.mem_cons] at hx
    rcases hx with rfl | hx
    · omega
    · have := h2 x hx; omega
theorem rowsP_of {n t : Nat} {xss : List (List Int)} (h : chainOk n t xss = true) : RowsP n t xss := by
  intro r hr
  obtain ⟨k, hk, rfl⟩ := List.getElem_of_mem hr
  obtain ⟨h1, h2, h3⟩ := rowB_of h hk
  obtain ⟨h4, h5⟩ := le_sumI (l := xss[k]) (fun x hx => (h1.2 x hx).1)
  exact ⟨by omega, fun x hx => ⟨(h1.2 x hx).1, by have := h5 x hx; omega⟩, h3⟩
def moveR (r : List Int) (a b : Nat) : List Int := (r.set b (r.getD b 0 + r.getD a 0)).set a 0
theorem moveR_len (r : List Int) (a b : Nat) : (moveR r a b).length = r.length := by simp [moveR]
theorem moveR_ok {r : List Int} {n t a b : Nat} (h : r.length = n ∧ (∀ x ∈ r, 0 ≤ x ∧ x ≤ (t : Int)) ∧ r.sum = (t : Int)) (ha : a < n) (hb : b < n) (hab : a ≠ b) : (moveR r a b).length = n ∧ (∀ x ∈ moveR r a b, 0 ≤ x ∧ x ≤ (t : Int)) ∧ (moveR r a b).sum = (t : Int) := by
  obtain ⟨h1, h2, h3⟩ := h
  have hal : a < r.length := by omega
  have hbl : b < r.length := by omega
  have hs : (moveR r a b).sum = (t : Int) := by
    unfold moveR
    rw [gD_at hal, gD_at hbl]
    have e1 := sum_set (n := r[a]) hbl
    have hal2 : a < (r.set b (r[b] + r[a])).length := by simpa using hal
    have e2 := sum_set (n := -r[a]) hal2
    rw [List.getElem_set_ne (Ne.symm hab)] at e2
    rw [show r[a] + -r[a] = 0 by omega] at e2
    rw [e2, e1, h3]; omega
  have hp : ∀ x ∈ moveR r a b, 0 ≤ x := by
    intro x hx
    unfold moveR at hx
    rw [gD_at hal, gD_at hbl] at hx
    rcases List.mem_or_eq_of_mem_set hx with hx | rfl
    · rcases List.mem_or_eq_of_mem_set hx with hx | rfl
      · exact (h2 x hx).1
      · have := h2 _ (List.getElem_mem hal); have := h2 _ (List.getElem_mem hbl); omega
    · omega
  obtain ⟨_, h5⟩ := le_sumI hp
  exact ⟨by rw [moveR_len]; exact h1, fun x hx => ⟨hp x hx, by have := h5 x hx; omega⟩, hs⟩
theorem RowsP.set {n t : Nat} {xss : List (List Int)} (h : RowsP n t xss) (i : Nat) {r : List Int} (hr : r.length = n ∧ (∀ x ∈ r, 0 ≤ x ∧ x ≤ (t : Int)) ∧ r.sum = (t : Int)) : RowsP n t (xss.set i r) := by
  intro x hx
  rcases List.mem_or_eq_of_mem_set hx with hx | rfl
  · exact h x hx
  · exact hr
end Go.Proofs.Ytijpkcdalmlaiaa
