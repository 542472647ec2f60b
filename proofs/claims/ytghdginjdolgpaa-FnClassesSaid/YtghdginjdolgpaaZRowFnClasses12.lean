/-
  Classes, and the program's entries for what is reached. With it: The chains that the laws draw: l01Draw, P6Chain. The chains that the laws draw: weights moved in a row (l02Thin). Closed classes and classes: the program's side.
-/
import Derived.Test.YtghdginjdolgpaaZRowFnClasses11
import Derived.Test.YtghdginjdolgpaaZRowFnClasses10
import Derived.Test.YtghdginjdolgpaaZRowFnClasses4
import Derived.Test.YtghdginjdolgpaaZRowFnClasses6
set_option linter.unusedVariables false
set_option linter.unusedSimpArgs false
namespace Go.Proofs.Ytghdginjdolgpaa
open Go.RowKit Go.Sort
theorem chain_drawn {n t : Nat} {xss : List (List Int)} (h1 : 1 ≤ n) (h2 : n ≤ 6) (t1 : 1 ≤ t) (t2 : t ≤ 60) (hl : xss.length = n) (hr : ∀ r ∈ xss, r.length = n ∧ (∀ x ∈ r, 0 ≤ x ∧ x ≤ (t : Int)) ∧ r.sum = (t : Int)) : chainOk n t xss = true := by
  unfold chainOk
  rw [Bool.and_eq_true, Bool.and_eq_true, Bool.and_eq_true]
  refine ⟨inR_iff.2 (by omega), inR_iff.2 (by omega), by simp [hl], ?_⟩
  unfold rowsOk
  rw [List.all_eq_true]
  intro r hm
  obtain ⟨a, b, c⟩ := hr r hm
  unfold rowOk inAll
  rw [Bool.and_eq_true, Bool.and_eq_true, List.all_eq_true]
  exact ⟨by simp [a], fun x hx => inR_iff.2 (by have := b x hx; omega), by simp [c]⟩
/-- a chain under work -/
structure Box3 (w : World) (b : Nat) (n t : Int) (v : Value) : Prop where
  c : CellsAt w b [.int .i64 n, .int .i64 t, v]
  f : ∀ i, w.frozen? ⟨b, i, none⟩ = false
theorem Box3.fs {S : Nat → Prop} {w w' : World} {b : Nat} {n t : Int} {v : Value} (h : Box3 w b n t v) (hf : Fs S w w') (hS : ¬ S b) : Box3 w' b n t v :=
  ⟨h.c.fs hf hS, fun i => by rw [hf.frozen (p := ⟨b, i, none⟩) h.c.1 hS]; exact h.f i⟩
theorem Box3.new (w : World) (n t : Int) (v : Value) : Box3 (w.alloc (.cells #[.int .i64 n, .int .i64 t, v] 26)) w.heap.size n t v :=
  ⟨CellsAt.new w [.int .i64 n, .int .i64 t, v] 26, fun i => by simp [go_sem]⟩
theorem Box3.set {w : World} {b : Nat} {n t : Int} {v : Value} (h : Box3 w b n t v) (u : Value) : Box3 (w.setCell ⟨b, 2, none⟩ u) b n t u := by
  have c0 := h.c.get 0 _ rfl
  have c1 := h.c.get 1 _ rfl
  have c2 := h.c.get 2 _ rfl
  refine ⟨⟨by simpa using h.c.1, fun i v hv => ?_⟩, fun i => by simpa using h.f i⟩
  match i, hv with
  | 0, hv => simp at hv; subst hv; simp [go_sem, c0]
  | 1, hv => simp at hv; subst hv; simp [go_sem, c1]
  | 2, hv => simp at hv; subst hv; simp [go_sem, c2]
theorem OwnIIB.fsJ {S : Nat → Prop} {w w' : World} {base B : Nat} {v : Value} {xss : List (List Int)} (h : OwnIIB w base B v xss) (hf : Fs S w w') (hS : ∀ k, S k → k < base) : OwnIIB w' base B v xss := by
  obtain ⟨vs, h1, h2, h3⟩ := h
  exact ⟨vs, ownsRow_fs h1 hf hS, ⟨h2.1, fun i u xs hu hx => ownsRow_fs (h2.2.1 i u xs hu hx) hf hS, h2.2.2⟩, h3⟩
theorem OwnII.formJ {w : World} {base : Nat} {v : Value} {xss : List (List Int)} (h : OwnII w base v xss) : ∃ a n c, v = .slice a n c ∧ Hid (n = xss.length) := by
  obtain ⟨a, ca, us, rfl, _⟩ := h.sl
  exact ⟨a, _, ca, rfl, rfl⟩
theorem Fs.set1 (w : World) (r i : Nat) (x : Value) : Fs (fun k => k = r) w (w.setCell ⟨r, i, none⟩ x) := Fs.set (S := fun k => k = r) (Fs.refl _ _) (a := ⟨r, i, none⟩) rfl _
theorem Fs.set3 (w : World) (r : Nat) (x y z : Value) : Fs (fun k => k = r) w (((w.setCell ⟨r, 0, none⟩ x).setCell ⟨r, 1, none⟩ y).setCell ⟨r, 2, none⟩ z) :=
  Fs.set (S := fun k => k = r) (Fs.set (S := fun k => k = r) (Fs.set (S := fun k => k = r) (Fs.refl _ _) (a := ⟨r, 0, none⟩) rfl _) (a := ⟨r, 1, none⟩) rfl _) (a := ⟨r, 2, none⟩) rfl _
theorem Fs.of_belowB {w w' : World} {B : Nat} (h : Below B w w') : Fs (fun k => B ≤ k) w w' := ⟨h.os, h.tape, h.output, h.size, fun k hk hx => h.block k (by omega)⟩
theorem step_appRowJ {ops : Array Oper} {o : Oper} {a : Act} {K : Act → World → Prop} {Q : Exit → Act → World → Prop} {E : Prop} {w w4 : World} (hg : o.guard = none) (s x : Operand)
    (ho : o.op = .call { callee := .builtin .append, args := #[s, x], argTypes := #[24, 24] })
    {base B g : Nat} {v u : Value} {xss : List (List Int)} {xs : List Int} (hs : a.eval s = v) (hown : OwnIIB w4 base B v xss) (hu : OwnI w4 base u xs) (hB : ∀ g, u.ownBlock = some g → B ≤ g) (h4w : Below w4.heap.size w4 w)
    (hx : a.eval x = .slice (some ⟨g, 0, none⟩) 1 1) (hc : w.cell? ⟨g, 0, none⟩ = some u) (hlen : xss.length < 16777216) (hbase : base ≤ w4.heap.size)
    (h : ∀ v' w', OwnII w' base v' (xss ++ [xs]) → Below base w4 w' → K (a.put o.dst v') w') : if Region.wanted o (yielded ops a.tmps) = true then Oper.wp Try.prog o a w K Q else E := by
  have ho4 := hown.below h4w
  have hz := Nat.le_trans hbase h4w.size
  exact stepAppRow w s x hg ho hs ho4 (hu.below h4w) hB hx hc hlen hz (fun v' w' k1 k2 => h v' w' k1 ((h4w.mono hbase).trans ((Below.refl _ _).grown k2 hz (fun k hk => (ho4.lt k hk).1))))

set_option maxRecDepth 100000 in
set_option maxHeartbeats 8000000 in
theorem l01Draw_any (b K mo : Nat) (w : World) (hs : SrcB w b K) (hK : K ≤ 100000) (hm : 1 ≤ mo) (hm2 : mo ≤ 6) :
    Calls Try.prog 37 #[.pointer (some ⟨b, 0, none⟩), .int .i64 mo] w fun e w' => ∃ (n t : Nat) (v : Value) (xss : List (List Int)), e = .returned (.agg #[.int .i64 n, .int .i64 t, v]) ∧ n ≤ mo ∧ chainOk n t xss = true ∧ OwnII w' w.heap.size v xss ∧ SrcB w' b (K + 1000) ∧ Fs (fun k => k = b) w w' := by
  have hbw := hs.lt
  have hA : Below w.heap.size w (w.alloc (.cells #[.int .i64 0, .int .i64 0, .slice none 0 0] 26)) := (Below.refl _ _).alloc (Nat.le_refl _) _
  have S1 := Lib.hid (hs.below hA)
  have FA := Lib.hid (Fs.of_below (S := fun k => k = b) hA)
  have R1 := Lib.hid (Box3.new w 0 0 (.slice none 0 0))
  obtain ⟨W1, hW1⟩ : ∃ W1, W1 = w.alloc (.cells #[.int .i64 0, .int .i64 0, .slice none 0 0] 26) := ⟨_, rfl⟩
  rw [← hW1] at S1 FA R1
  have Z1 := Lib.hid (show W1.heap.size = w.heap.size + 1 by rw [hW1]; simp)
  have HW1 := Lib.hid hW1
  clear hs hA hW1
  go_enter Try.func37, Try.ntmps37
  go_wp2_with fail
  rw [← HW1.out]
  refine (pick_any b K mo _ S1.out (by omega)).mono ?_
  rintro e w1 ⟨y, rfl, hy0, hy1, s1, g1⟩
  obtain ⟨y, rfl⟩ := Int.eq_ofNat_of_zero_le hy0
  obtain ⟨n, hn⟩ : ∃ n, n = y + 1 := ⟨_, rfl⟩
  have hn1 : 1 ≤ n := by omega
  have hn2 : n ≤ mo := by omega
  have r1 : IntKind.i64.wrap (1 + (y : Int)) = (n : Int) := by rw [IntWalk.i64_in _ (by omega)]; omega
  have hzw1 := g1.size
  have F1 := Lib.hid (FA.out.trans g1)
  have R2 := Lib.hid (R1.out.fs g1 (by omega))
  have OL := Lib.hid (show OwnI (w1.alloc (.cells #[.int .i64 1, .int .i64 2, .int .i64 2, .int .i64 3, .int .i64 4, .int .i64 6] 2)) w1.heap.size (.slice (some ⟨w1.heap.size, 0, none⟩) 6 6) [1, 2, 2, 3, 4, 6] from
    World.ownsRow_lit (base := w1.heap.size) (e := 2) (size := 1) w1 #[.int .i64 1, .int .i64 2, .int .i64 2, .int .i64 3, .int .i64 4, .int .i64 6] 6 (Nat.le_refl _) (by simp [maxLen]) (by simp))
  have hA2 : Below w1.heap.size w1 (w1.alloc (.cells #[.int .i64 1, .int .i64 2, .int .i64 2, .int .i64 3, .int .i64 4, .int .i64 6] 2)) := (Below.refl _ _).alloc (Nat.le_refl _) _
  have S2 := Lib.hid (s1.below hA2)
  have F2 := Lib.hid (F1.out.trans (Fs.of_below hA2))
  have R3 := Lib.hid (R2.out.fs (S := fun _ => False) (Fs.of_below hA2) (fun h => h))
  have HB1 := Lib.hid s1.lt
  clear hy0 hy1 hn s1 g1 hA2
  go_wp2_with fail
  refine (among_any b (K + 2) (xs := [1, 2, 2, 3, 4, 6]) _ S2.out (by omega) (fun W hf => (OL.out.fs hf (fun k hk => by have := HB1.out; omega)).sl) (by simp) (by simp)).mono ?_
  rintro e w2 ⟨t, ht, rfl, s2, g2⟩
  obtain ⟨t, rfl, ht1, ht2⟩ : ∃ t' : Nat, t = (t' : Int) ∧ 1 ≤ t' ∧ t' ≤ 6 := by
    simp at ht
    exact ⟨t.toNat, by omega, by omega, by omega⟩
  have F3 := Lib.hid (F2.out.trans g2)
  have R4 := Lib.hid (R3.out.fs g2 (by omega))
  have hA3 : Below w2.heap.size w2 (w2.alloc (.cells #[.int .i64 n, .int .i64 t, .slice none 0 0] 26)) := (Below.refl _ _).alloc (Nat.le_refl _) _
  have HB2 := Lib.hid s2.lt
  have S3 := Lib.hid (s2.below hA3)
  have F4 := Lib.hid (F3.out.trans (Fs.of_below hA3))
  have R5 := Lib.hid (R4.out.fs (S := fun _ => False) (Fs.of_below hA3) (fun h => h))
  have X3 := Lib.hid (Box3.new w2 n t (.slice none 0 0))
  obtain ⟨W3, hW3⟩ : ∃ W3, W3 = w2.alloc (.cells #[.int .i64 n, .int .i64 t, .slice none 0 0] 26) := ⟨_, rfl⟩
  rw [← hW3] at S3 F4 R5 X3
  have HW3 := Lib.hid hW3
  have ZR := Lib.hid (show w.heap.size < w2.heap.size from R4.out.c.1)
  have Z3 := Lib.hid (show W3.heap.size = w2.heap.size + 1 by rw [hW3]; simp)
  clear ht s2 g2 hA3 S1 FA R1 R2 F1 OL S2 F2 R3 HB1 hzw1 hW3
  go_wp2
  rw [← HW3.out]
  go_loopw [6] (fun l wr => ∃ (i : Nat) (v : Value) (xss : List (List Int)), i ≤ n ∧ l = .int .i64 i ∧ xss.length = i ∧ Hid (∀ r ∈ xss, r.length = n ∧ (∀ x ∈ r, 0 ≤ x ∧ x ≤ (t : Int)) ∧ r.sum = (t : Int)) ∧ Box3 wr w2.heap.size n t v ∧ OwnII wr (w2.heap.size + 1) v xss ∧ SrcB wr b (K + 4 + 24 * i) ∧ Fs (fun k => k = b ∨ k = w2.heap.size) W3 wr) (fun l _ => n - (intOf l).toNat)
  case atStart => exact ⟨0, _, [], Nat.zero_le _, rfl, rfl, Lib.hid (by simp), X3.out, OwnII.nil _ _, S3.out, Fs.refl _ _⟩
  case round =>
    obtain ⟨i, v, xss, hi, rfl, hxl, hrows, hbox, hown, hsrc, hf⟩ := hrel
    by_cases hlt : i < n
    · have i1 : (i : Int) < (n : Int) := by omega
      have c0 := hbox.c.get 0 _ rfl
      have c1 := hbox.c.get 1 _ rfl
      have c2 := hbox.c.get 2 _ rfl
      have zb := hbox.c.1
      have HBX := Lib.hid hbox
      have HO := Lib.hid hown.b
      have HS := Lib.hid hsrc
      have HF := Lib.hid hf
      have hbne : ¬ w2.heap.size = b := by have := HB2.out; omega
      have hz3 : w2.heap.size + 1 ≤ wr.heap.size := by omega
      have hxs : xss.length < 16777216 := by omega
      clear hbox hown hsrc hf
      go_wp2_with fail
      go_region_law (first
        | (refine step_appRowJ (w4 := w4) (B := wr.heap.size) rfl (.tmp 22) (.tmp 29) rfl (u := .slice ua n uc) (xs := r) rfl o4 u4 hB4 (by (repeat (first | exact Below.refl _ _ | refine Below.drew ?_ | refine Below.alloc ?_ (by simp) _))) rfl (by first | (simp [go_sem]; done) | fail) hxs hz4 ?_; intro v5 w5 o5 b5; obtain ⟨oa, on, oc, rfl, _⟩ := o5.formJ; have x5 := x4.fs (Fs.of_belowB b5) (by omega); have s5 := s4.fs (Fs.of_belowB b5) (fun k hk => by have := HB2.out; omega); have q0 := x5.c.get 0 _ rfl; have q1 := x5.c.get 1 _ rfl; have q2 := x5.c.get 2 _ rfl; have q3 := x5.f 2)
        | (go_simp; go_at_call 72; refine (l01Row_any b (K + 4 + 24 * i) n t _ (HS.out.below (by (repeat (first | exact Below.refl _ _ | refine Below.drew ?_ | refine Below.alloc ?_ (by simp) _)))) (by omega) (by omega) (by omega) (by omega)).mono ?_; rintro e w4 ⟨u, r, rfl, hrl, hrx, hrs, ou, s4, g4⟩; obtain ⟨ua, uc, rfl, _⟩ := id ou.sl; rw [hrl] at ou ⊢; have G4 : Fs (fun k => k = b) wr w4 := (Fs.of_below (by (repeat (first | exact Below.refl _ _ | refine Below.drew ?_ | refine Below.alloc ?_ (by simp) _)))).trans g4; have o4 := OwnIIB.fsJ HO.out G4 (fun k hk => by have := HB2.out; omega); have hwz : wr.heap.size ≤ w4.heap.size := G4.size; have u4 := ou.lower (base' := w2.heap.size + 1) (by simpa using hz3); have hB4 : ∀ g, (Value.slice ua n uc).ownBlock = some g → wr.heap.size ≤ g := (fun g hg => by have := (ou.lt g hg).1; simpa using this); have x4 := HBX.out.fs G4 hbne; have hz4 : w2.heap.size + 1 ≤ w4.heap.size := Nat.le_trans hz3 hwz; have p2 := x4.c.get 2 _ rfl; have hl4 : w2.heap.size < w4.heap.size := hz4; have hn4 : ¬ w2.heap.size = w4.heap.size := Nat.ne_of_lt hl4; have hn4' : ¬ w4.heap.size = w2.heap.size := Nat.ne_of_gt hl4)
        | fail "no arm")
      all_goals
        have ROW := Lib.hid (show ∀ x ∈ xss ++ [r], x.length = n ∧ (∀ y ∈ x, 0 ≤ y ∧ y ≤ (t : Int)) ∧ x.sum = (t : Int) from fun x hx => by
          simp only [List.mem_append, List.mem_singleton] at hx
          rcases hx with hx | rfl
          · exact hrows.out x hx
          · exact ⟨hrl, hrx, hrs⟩)
        have O5 := Lib.hid o5
        have X5 := Lib.hid x5
        have S5 := Lib.hid s5
        have F5 := Lib.hid (show Fs (fun k => k = b ∨ k = w2.heap.size) W3 w5 from ⟨b5.os.trans (G4.os.trans HF.out.os), b5.tape.trans (G4.tape.trans HF.out.tape), b5.output.trans (G4.output.trans HF.out.output), Nat.le_trans HF.out.size (Nat.le_trans G4.size b5.size), fun k hk hx => (b5.block k (by have := Z3.out; omega)).trans ((G4.block k (Nat.lt_of_lt_of_le hk HF.out.size) (fun e => hx (.inl e))).trans (HF.out.block k hk hx))⟩)
        clear o5 x5 s5 b5
        go_wp2
        go_roundw
        case rel => exact ⟨i + 1, _, xss ++ [r], by omega, by go_num, by simp [hxl], ROW, X5.out.set _, O5.out.setCell (by simp) _, (S5.out.fs (Fs.set1 _ _ _ _) (fun k hk => by have := HB2.out; omega)).more (by omega), F5.out.set (a := ⟨w2.heap.size, 2, none⟩) (.inr rfl) _⟩
        case measure => simp [intOf]; omega
    · obtain rfl : i = n := by omega
      have R6 := R5.out.fs hf (by have := ZR.out; have := Z1.out; omega)
      have c0 := hbox.c.get 0 _ rfl
      have c1 := hbox.c.get 1 _ rfl
      have c2 := hbox.c.get 2 _ rfl
      have q0 := R6.c.get 0 _ rfl
      have q1 := R6.c.get 1 _ rfl
      have q2 := R6.c.get 2 _ rfl
      have f0 := R6.f 0
      have f1 := R6.f 1
      have f2 := R6.f 2
      have zz := R6.c.1
      have HCH := Lib.hid (chain_drawn hn1 (by omega) ht1 (by omega) hxl hrows.out)
      obtain ⟨va, vn, vc, rfl, _⟩ := hown.formJ
      have HO := Lib.hid hown
      have HS := Lib.hid hsrc
      have HF := Lib.hid (show Fs (fun k => k = b) w wr from ⟨hf.os.trans F4.out.os, hf.tape.trans F4.out.tape, hf.output.trans F4.out.output, Nat.le_trans F4.out.size hf.size, fun k hk hx => (hf.block k (Nat.lt_of_lt_of_le hk F4.out.size) (by have := ZR.out; omega)).trans (F4.out.block k hk hx)⟩)
      clear hbox R6 hown hsrc hf hrows
      go_wp2
      refine bodyPost_ret (v := .agg #[.int .i64 i, .int .i64 t, .slice va vn vc]) (by simp [results, Try.results37, go_sem, c0, c1, c2, q0, q1, q2, zz]) rfl ⟨i, t, _, xss, rfl, hn2, HCH.out, ?_, ?_, ?_⟩
      · exact (((HO.out.setCell (by have := ZR.out; simp; omega) _).setCell (by have := ZR.out; simp; omega) _).setCell (by have := ZR.out; simp; omega) _).lower (by have := ZR.out; omega)
      · exact (HS.out.fs (Fs.set3 _ _ _ _ _) (fun k hk => by omega)).more (by omega)
      · have hs3 := Fs.set3 wr w.heap.size (.int .i64 i) (.int .i64 t) (.slice va vn vc)
        exact ⟨hs3.os.trans HF.out.os, hs3.tape.trans HF.out.tape, hs3.output.trans HF.out.output, Nat.le_trans HF.out.size hs3.size, fun k hk hx => (hs3.block k (Nat.lt_of_lt_of_le hk HF.out.size) (by omega)).trans (HF.out.block k hk hx)⟩
end Go.Proofs.Ytghdginjdolgpaa
namespace Go.Proofs.Ytghdginjdolgpaa
open Go.RowKit Go.Sort
theorem OwnII.formN {w : World} {base : Nat} {v : Value} {xss : List (List Int)} (h : OwnII w base v xss) (hn : 0 < xss.length) : ∃ gv c, v = .slice (some ⟨gv, 0, none⟩) xss.length c ∧ gv < w.heap.size ∧ base ≤ gv := by
  obtain ⟨vs, h1, h2⟩ := h
  rcases h1.2 with ⟨_, h0⟩ | ⟨gv, c, cur, hv, _⟩
  · omega
  · exact ⟨gv, c, hv, by rename_i h; exact ⟨(Array.getElem?_eq_some_iff.1 h.2.1).1, h.1⟩⟩
def RowsP (n t : Nat) (xss : List (List Int)) : Prop := ∀ r ∈ xss, r.length = n ∧ (∀ x ∈ r, 0 ≤ x ∧ x ≤ (t : Int)) ∧ r.sum = (t : Int)
theorem le_sumI : ∀ {l : List Int}, (∀ x ∈ l, 0 ≤ x) → 0 ≤ l.sum ∧ ∀ x ∈ l, x ≤ l.sum
  | [], _ => by simp
  | a :: l, h => by
    obtain ⟨h1, h2⟩ := le_sumI (l := l) (fun x hx => h x (by simp [hx]))
    have ha := h a (by simp)
    rw [List.sum_cons]
    refine ⟨by omega, fun x hx => ?_⟩
    simp only [List.mem_cons] at hx
    rcases hx with rfl | hx
    · omega
    · have := h2 x hx; omega
theorem rowsP_of {n t : Nat} {xss : List (List Int)} (h : chainOk n t xss = true) : RowsP n t xss := by
  intro r hr
  obtain ⟨k, hk, rfl⟩ := List.getElem_of_mem hr
  obtain ⟨h1, h2, h3⟩ := rowB_of h hk
  obtain ⟨h4, h5⟩ := le_sumI (l := xss[k]) (fun x hx => (h1.2 x hx).1)
  exact ⟨by omega, fun x hx => ⟨(h1.2 x hx).1, by have := h5 x hx; omega⟩, h3⟩
def moveR (r : List Int) (a b : Nat) : List Int := (r.set b (r.getD b 0 + r.getD a 0)).set a 0
theorem moveR_len (r : List Int) (a b : Nat) : (moveR r a b).length = r.length := by simp [moveR]
theorem moveR_ok {r : List Int} {n t a b : Nat} (h : r.length = n ∧ (∀ x ∈ r, 0 ≤ x ∧ x ≤ (t : Int)) ∧ r.sum = (t : Int)) (ha : a < n) (hb : b < n) (hab : a ≠ b) : (moveR r a b).length = n ∧ (∀ x ∈ moveR r a b, 0 ≤ x ∧ x ≤ (t : Int)) ∧ (moveR r a b).sum = (t : Int) := by
  obtain ⟨h1, h2, h3⟩ := h
  have hal : a < r.length := by omega
  have hbl : b < r.length := by omega
  have hs : (moveR r a b).sum = (t : Int) := by
    unfold moveR
    rw [gD_at hal, gD_at hbl]
    have e1 := sum_set (n := r[a]) hbl
    have hal2 : a < (r.set b (r[b] + r[a])).length := by simpa using hal
    have e2 := sum_set (n := -r[a]) hal2
    rw [List.getElem_set_ne (Ne.symm hab)] at e2
    rw [show r[a] + -r[a] = 0 by omega] at e2
    rw [e2, e1, h3]; omega
  have hp : ∀ x ∈ moveR r a b, 0 ≤ x := by
    intro x hx
    unfold moveR at hx
    rw [gD_at hal, gD_at hbl] at hx
    rcases List.mem_or_eq_of_mem_set hx with hx | rfl
    · rcases List.mem_or_eq_of_mem_set hx with hx | rfl
      · exact (h2 x hx).1
      · have := h2 _ (List.getElem_mem hal); have := h2 _ (List.getElem_mem hbl); omega
    · omega
  obtain ⟨_, h5⟩ := le_sumI hp
  exact ⟨by rw [moveR_len]; exact h1, fun x hx => ⟨hp x hx, by have := h5 x hx; omega⟩, hs⟩
theorem RowsP.set {n t : Nat} {xss : List (List Int)} (h : RowsP n t xss) (i : Nat) {r : List Int} (hr : r.length = n ∧ (∀ x ∈ r, 0 ≤ x ∧ x ≤ (t : Int)) ∧ r.sum = (t : Int)) : RowsP n t (xss.set i r) := by
  intro x hx
  rcases List.mem_or_eq_of_mem_set hx with hx | rfl
  · exact h x hx
  · exact hr

set_option maxRecDepth 100000 in
set_option maxHeartbeats 8000000 in
theorem l02Thin_any (b K mo : Nat) (w : World) (hs : SrcB w b K) (hK : K ≤ 10000) (hm : 1 ≤ mo) (hm2 : mo ≤ 6) :
    Calls Try.prog 38 #[.pointer (some ⟨b, 0, none⟩), .int .i64 mo] w fun e w' => ∃ (n t : Nat) (v : Value) (xss : List (List Int)), e = .returned (.agg #[.int .i64 n, .int .i64 t, v]) ∧ n ≤ mo ∧ chainOk n t xss = true ∧ OwnII w' w.heap.size v xss ∧ SrcB w' b (K + 2000) ∧ Fs (fun k => k = b) w w' := by
  have hbw := hs.lt
  have hA : Below w.heap.size w (w.alloc (.cells #[.int .i64 0, .int .i64 0, .slice none 0 0] 26)) := (Below.refl _ _).alloc (Nat.le_refl _) _
  have S1 := Lib.hid (hs.below hA)
  have FA := Lib.hid (Fs.of_below (S := fun k => k = b) hA)
  have R1 := Lib.hid (Box3.new w 0 0 (.slice none 0 0))
  obtain ⟨W1, hW1⟩ : ∃ W1, W1 = w.alloc (.cells #[.int .i64 0, .int .i64 0, .slice none 0 0] 26) := ⟨_, rfl⟩
  rw [← hW1] at S1 FA R1
  have Z1 := Lib.hid (show W1.heap.size = w.heap.size + 1 by rw [hW1]; simp)
  have HW1 := Lib.hid hW1
  clear hs hA hW1
  go_enter Try.func38, Try.ntmps38
  go_wp2_with fail
  rw [← HW1.out]
  refine (l01Draw_any b K mo _ S1.out (by omega) hm hm2).mono ?_
  rintro e w2 ⟨n, t, v, xs0, rfl, hnm, hch, o2, s2, g2⟩
  obtain ⟨⟨hn1, hn2⟩, ⟨ht1, ht2⟩, hxl, _⟩ := chainOk_parts0 hch
  have hn1' : 1 ≤ n := by omega
  have hn2' : n ≤ 6 := by omega
  have ht1' : 1 ≤ t := by omega
  have ht2' : t ≤ 60 := by omega
  have hxl' : xs0.length = n := by omega
  obtain ⟨gv, c, rfl, hgv, hgb⟩ := o2.formN (by omega)
  rw [hxl'] at o2 ⊢
  have R2 := Lib.hid (R1.out.fs g2 (by omega))
  have hA3 : Below w2.heap.size w2 (w2.alloc (.cells #[.int .i64 n, .int .i64 t, .slice (some ⟨gv, 0, none⟩) n c] 26)) := (Below.refl _ _).alloc (Nat.le_refl _) _
  have X3 := Lib.hid (Box3.new w2 n t (.slice (some ⟨gv, 0, none⟩) n c))
  have S3 := Lib.hid (s2.below hA3)
  have O3 := Lib.hid (o2.b.below hA3)
  have F3 := Lib.hid (show Fs (fun k => k = b) w _ from (FA.out.trans g2).trans (Fs.of_below hA3))
  have R3 := Lib.hid (R2.out.fs (S := fun _ => False) (Fs.of_below hA3) (fun h => h))
  have ZR := Lib.hid (show w.heap.size < w2.heap.size from R2.out.c.1)
  have ZB := Lib.hid (show W1.heap.size ≤ w2.heap.size from g2.size)
  have RP := Lib.hid (rowsP_of hch)
  obtain ⟨W3, hW3⟩ : ∃ W3, W3 = w2.alloc (.cells #[.int .i64 n, .int .i64 t, .slice (some ⟨gv, 0, none⟩) n c] 26) := ⟨_, rfl⟩
  rw [← hW3] at X3 S3 O3 F3 R3
  have Z3 := Lib.hid (show W3.heap.size = w2.heap.size + 1 by rw [hW3]; simp)
  have HW3 := Lib.hid hW3
  clear hW3 hA3 s2 g2 o2 hch S1 FA R1 R2 hn1 hn2 ht1 ht2 hxl
  go_wp2
  rw [← HW3.out]
  go_loopw [6, 7, 8, 9, 10] (fun l _ _ _ _ wr => ∃ (i : Nat) (xss : List (List Int)), i ≤ n ∧ l = .int .i64 i ∧ xss.length = n ∧ Hid (RowsP n t xss) ∧ Box3 wr w2.heap.size n t (.slice (some ⟨gv, 0, none⟩) n c) ∧ OwnIIB wr W1.heap.size w2.heap.size (.slice (some ⟨gv, 0, none⟩) n c) xss ∧ SrcB wr b (K + 1000 + 20 * i) ∧ Fs (fun k => k = b ∨ W1.heap.size ≤ k) W3 wr) (fun l _ _ _ _ _ => n - (intOf l).toNat)
  case atStart => exact ⟨0, xs0, Nat.zero_le _, rfl, hxl', RP.out, X3.out, O3.out, S3.out, Fs.refl _ _⟩
  case round =>
    clear X3 O3 S3
    obtain ⟨i, xss, hi, rfl, hxl, hrows, hbox, hown, hsrc, hf⟩ := hrel
    have c0 := hbox.c.get 0 _ rfl
    by_cases hlt : i < n
    · have i1 : (i : Int) < (n : Int) := by omega
      have HBX := Lib.hid hbox
      have HO := Lib.hid hown
      have HS := Lib.hid hsrc
      have HF := Lib.hid hf
      clear hbox hown hsrc hf
      go_wp2_with fail
      refine (pick_any b _ 3 _ HS.out (by omega)).mono ?_
      rintro e w4 ⟨y, rfl, hy0, hy1, s4, g4⟩
      obtain ⟨y, rfl⟩ := Int.eq_ofNat_of_zero_le hy0
      have hy3 : y ≤ 2 := by omega
      have X4 := Lib.hid (HBX.out.fs g4 (by have := ZR.out; omega))
      have O4 := Lib.hid (OwnIIB.fsJ HO.out g4 (fun k hk => by have := Z1.out; omega))
      have S4 := Lib.hid s4
      have F4 := Lib.hid (show Fs (fun k => k = b ∨ W1.heap.size ≤ k) W3 w4 from HF.out.then g4 (fun _ _ h => h) (fun _ _ h => .inl h))
      clear c0 s4 g4 hy0 hy1 HBX HO HS HF
      go_wp2
      go_loopw [7, 8, 9, 10] (fun l _ _ _ wr => ∃ (q : Nat) (xss : List (List Int)), q ≤ y ∧ l = .int .i64 q ∧ xss.length = n ∧ Hid (RowsP n t xss) ∧ Box3 wr w2.heap.size n t (.slice (some ⟨gv, 0, none⟩) n c) ∧ OwnIIB wr W1.heap.size w2.heap.size (.slice (some ⟨gv, 0, none⟩) n c) xss ∧ SrcB wr b (K + 1000 + 20 * i + 2 + 4 * (y - q)) ∧ Fs (fun k => k = b ∨ W1.heap.size ≤ k) W3 wr) (fun l _ _ _ _ => (intOf l).toNat)
      case atStart => exact ⟨y, xss, Nat.le_refl _, rfl, hxl, hrows, X4.out, O4.out, S4.out.more (by omega), F4.out⟩
      case round =>
        clear X4 O4 S4 F4 hxl hrows
        clear xss
        obtain ⟨q, xss, hq, rfl, hxl, hrows, hbox, hown, hsrc, hf⟩ := hrel
        by_cases hq0 : 0 < q
        · have iq : (0 : Int) < (q : Int) := by omega
          have c0 := hbox.c.get 0 _ rfl
          have HBX := Lib.hid hbox
          have HO := Lib.hid hown
          have HS := Lib.hid hsrc
          have HF := Lib.hid hf
          clear hbox hown hsrc hf
          go_wp2_with fail
          refine (pick_any b _ n _ HS.out (by omega)).mono ?_
          rintro e w5 ⟨x, rfl, hx0, hx1, s5, g5⟩
          obtain ⟨x, rfl⟩ := Int.eq_ofNat_of_zero_le hx0
          have hxn : x < n := by omega
          have X5 := Lib.hid (HBX.out.fs g5 (by have := ZR.out; omega))
          have S5 := Lib.hid s5
          clear c0 s5 hx0 hx1
          have c0 := X5.out.c.get 0 _ rfl
          go_wp2_with fail
          refine (pick_any b _ n _ S5.out (by omega)).mono ?_
          rintro e w6 ⟨z, rfl, hz0, hz1, s6, g6⟩
          obtain ⟨z, rfl⟩ := Int.eq_ofNat_of_zero_le hz0
          have hzn : z < n := by omega
          have X6 := Lib.hid (X5.out.fs g6 (by have := ZR.out; omega))
          have O6 := Lib.hid (OwnIIB.fsJ HO.out (g5.trans g6) (fun k hk => by have := Z1.out; omega))
          have S6 := Lib.hid (s6.more (K' := K + 1000 + 20 * i + 2 + 4 * (y - (q - 1))) (by omega))
          have F6 := Lib.hid (show Fs (fun k => k = b ∨ W1.heap.size ≤ k) W3 w6 from HF.out.then (g5.trans g6) (fun _ _ h => h) (fun _ _ h => .inl h))
          clear c0 s6 g5 g6 hz0 hz1 HBX HO HS HF X5 S5
          have hil : i < xss.length := by omega
          have hri := List.getElem?_eq_getElem hil
          have hrp := hrows.out _ (List.getElem_mem hil)
          have HSET := Lib.hid (fun r' h => RowsP.set (r := r') hrows.out i h)
          generalize xss[i] = r at hri hrp
          obtain ⟨g, rc, k1, k2, k3, k4, k7, k8⟩ := O6.out.rowOf hri hrp.1 (by omega)
          have K8 := Lib.hid k8
          have K2 := Lib.hid k2
          have ga := k2.cell (i := x) (by omega)
          have gb := k2.cell (i := z) (by omega)
          have fa := k2.free x
          have fb := k2.free z
          have hba := hrp.2.1 _ (List.getElem_mem (show x < r.length by omega))
          have hbb := hrp.2.1 _ (List.getElem_mem (show z < r.length by omega))
          have HRP := Lib.hid hrp
          have e1 := gD_at (d := 0) (show x < r.length by omega)
          have e2 := gD_at (d := 0) (show z < r.length by omega)
          rw [← e1] at ga hba
          rw [← e2] at gb hbb
          have c0 := X6.out.c.get 0 _ rfl
          have c2 := X6.out.c.get 2 _ rfl
          have ix0 : (0 : Int) ≤ (x : Int) := by omega
          have ix1 : (x : Int) < (n : Int) := by omega
          have iz0 : (0 : Int) ≤ (z : Int) := by omega
          have iz1 : (z : Int) < (n : Int) := by omega
          have ii0 : (0 : Int) ≤ (i : Int) := by omega
          have hbg : w2.heap.size ≠ g := by omega
          have hbg2 : g ≠ w2.heap.size := by omega
          have k7' : g ≠ gv := fun e => k7 e.symm
          have hgw : g < w6.heap.size := by have := X6.out.c.1; omega
          have f2 : w6.frozen? ⟨g, x, none⟩ = false := fa
          have hrl := hrp.1
          clear k8 k2 hri e1 e2 hrp hil
          by_cases hxz : x = z
          · subst hxz
            have ht : ((x : Int) != (x : Int)) = false := by simp
            go_wp2
            go_roundw
            case rel => exact ⟨q - 1, xss, by omega, by go_num, hxl, hrows, X6.out, O6.out, S6.out, F6.out⟩
            case measure => simp [intOf]; omega
          · have ht : ((x : Int) != (z : Int)) = true := by rw [bne_iff_ne]; omega
            have HXZ := Lib.hid hxz
            generalize hvx : r.getD x 0 = vx at ga hba
            generalize hvz : r.getD z 0 = vz at gb hbb
            have HV1 := Lib.hid hvx
            have HV2 := Lib.hid hvz
            have hvs : vz + vx ≤ 200 := by omega
            have hzx : ¬ z = x := fun e => hxz e.symm
            clear hvx hvz
            go_wp2
            have hfs := (Fs.set1 w6 g z (.int .i64 (vz + vx))).trans (Fs.set1 (w6.setCell ⟨g, z, none⟩ (.int .i64 (vz + vx))) g x (.int .i64 0))
            have hrow := (K2.out.set z (vz + vx)).set x 0
            rw [← HV1.out, ← HV2.out] at hrow hfs
            have HN := Lib.hid (K8.out _ _ hfs (show OwnI _ _ _ (moveR r x z) from hrow))
            have HF := Lib.hid hfs
            clear hrow hfs
            rw [← HV1.out, ← HV2.out]
            go_roundw
            case rel => exact ⟨q - 1, xss.set i (moveR r x z), by omega, by go_num, by simp [hxl], Lib.hid (HSET.out _ (moveR_ok HRP.out hxn hzn HXZ.out)), X6.out.fs HF.out hbg, HN.out, S6.out.fs HF.out (fun k hk => by have := Z1.out; omega), F6.out.then HF.out (fun _ _ h => h) (fun k _ hk => .inr (by rw [hk]; exact k3))⟩
            case measure => simp [intOf]; omega
        · obtain rfl : q = 0 := by omega
          have iq : ¬ (0 : Int) < ((0 : Nat) : Int) := by simp
          have HBX := Lib.hid hbox
          have HO := Lib.hid hown
          have HS := Lib.hid (hsrc.more (K' := K + 1000 + 20 * (i + 1)) (by omega))
          have HF := Lib.hid hf
          clear hbox hown hsrc hf
          go_wp2
          go_roundw
          case rel => exact ⟨i + 1, xss, by omega, by go_num, hxl, hrows, HBX.out, HO.out, HS.out, HF.out⟩
          case measure => simp [intOf]; omega
    · obtain rfl : i = n := by omega
      have hf3 : Fs (fun k => k = b ∨ W1.heap.size ≤ k) w wr := F3.out.then hf (fun _ _ h => .inl h) (fun _ _ h => h)
      have R6 := R3.out.fs hf (by have := ZR.out; have := Z1.out; omega)
      have c1 := hbox.c.get 1 _ rfl
      have c2 := hbox.c.get 2 _ rfl
      have q0 := R6.c.get 0 _ rfl
      have q1 := R6.c.get 1 _ rfl
      have q2 := R6.c.get 2 _ rfl
      have f0 := R6.f 0
      have f1 := R6.f 1
      have f2 := R6.f 2
      have zz := R6.c.1
      have HCH := Lib.hid (chain_drawn hn1' hn2' ht1' ht2' hxl hrows.out)
      have HO := Lib.hid hown.ii
      have HS := Lib.hid hsrc
      have HF := Lib.hid hf3
      clear hbox R6 hown hsrc hf hf3 hrows
      go_wp2
      refine bodyPost_ret (v := .agg #[.int .i64 i, .int .i64 t, .slice (some ⟨gv, 0, none⟩) i c]) (by simp [results, Try.results38, go_sem, c0, c1, c2, q0, q1, q2, zz]) rfl ⟨i, t, _, xss, rfl, hnm, HCH.out, ?_, ?_, ?_⟩
      · exact (((HO.out.setCell (by have := ZR.out; have := Z1.out; simp; omega) _).setCell (by have := ZR.out; have := Z1.out; simp; omega) _).setCell (by have := ZR.out; have := Z1.out; simp; omega) _).lower (by have := Z1.out; omega)
      · exact (HS.out.fs (Fs.set3 _ _ _ _ _) (fun k hk => by omega)).more (by omega)
      · exact HF.out.then (Fs.set3 wr w.heap.size (.int .i64 i) (.int .i64 t) (.slice (some ⟨gv, 0, none⟩) i c)) (fun k hk h => h.elim id (fun h => by have := Z1.out; omega)) (fun k hk h => by omega)
end Go.Proofs.Ytghdginjdolgpaa
namespace Go.Proofs.Ytghdginjdolgpaa
open Go.RowKit Go.Sort

set_option maxHeartbeats 2000000 in
theorem membersOf_any {g n : Nat} {bs : List Bool} (base : Nat) (w : World) (hb : FB.Own w base (.slice (some ⟨g, 0, none⟩) n n) bs) (hl : bs.length = n) (hn : n ≤ 100) :
    Calls Try.prog 68 #[.slice (some ⟨g, 0, none⟩) n n] w fun e w' => ∃ v, e = .returned v ∧ OwnI w' w.heap.size v (memsL bs n) ∧ Below w.heap.size w w' := by
  have HB := Lib.hid (fun W (h : Below w.heap.size w W) => hb.below h)
  have HL := Lib.hid hl
  clear hb hl
  go_enter Try.func68, Try.ntmps68
  go_wp2
  go_loopw [3, 9] (fun v i wr => ∃ k : Nat, k ≤ n ∧ i = .int .i64 k ∧ OwnI wr w.heap.size v (memsL bs k) ∧ Below w.heap.size w wr) (fun _ i _ => n - (intOf i).toNat)
  case atStart => exact ⟨0, Nat.zero_le _, rfl, OwnI.empty _ (Nat.le_refl _), (Below.refl _ _).alloc (Nat.le_refl _) _⟩
  case round =>
    obtain ⟨k, hk, rfl, hown, hbw⟩ := hrel
    by_cases hlt : k < n
    · have hkb : k < bs.length := by rw [HL.out]; exact hlt
      have gc := FB_at (HB.out _ hbw) hkb
      have hm := memsL_len bs k
      have hs : memsL bs (k + 1) = memsL bs k ++ (if bs[k] = true then [(k : Int)] else []) := by rw [← gD_at (d := false) hkb]; rfl
      generalize bs[k] = B at gc hs
      have HS := Lib.hid hs
      have i1 : (k : Int) < (n : Int) := by omega
      have hsz := hbw.size
      have hln : (memsL bs k).length < 16777216 := by omega
      clear hs
      cases B
      · have HO := Lib.hid (show OwnI wr w.heap.size u3 (memsL bs (k + 1)) from by rw [HS.out]; simpa using hown)
        clear hown
        go_wp2
        go_roundw
        case rel => exact ⟨k + 1, by omega, by go_num, HO.out, hbw⟩
        case measure => simp [intOf]; omega
      · go_wp2_with (at_builtin; refine append_i64 _ k _ _ rfl rfl rfl hown rfl hln hsz ?_)
        intro v' w1 hown1 hb1 hsz1
        have HO := Lib.hid (show OwnI w1 w.heap.size v' (memsL bs (k + 1)) from by rw [HS.out]; simpa using hown1)
        have hb2 := (hbw.alloc hsz _).trans hb1
        clear hown hb1 hown1
        go_wp2
        go_roundw
        case rel => exact ⟨k + 1, by omega, by go_num, HO.out, hb2⟩
        case measure => simp [intOf]; omega
    · obtain rfl : k = n := by omega
      go_wp2
      go_ret
      exact ⟨_, rfl, hown, hbw⟩
theorem reachB_len (xss : List (List Int)) (n s : Nat) : (reachB xss n s).length = n := by simp [reachB]
theorem reachB_at {xss : List (List Int)} {n s t : Nat} (h : t < (reachB xss n s).length) : (reachB xss n s)[t] = rB xss n s t := by simp [reachB]

set_option maxRecDepth 100000 in
set_option maxHeartbeats 2000000 in
theorem closClo_any (b bs : Nat) {v : Value} {xss : List (List Int)} {t : Int} (n s x : Nat) (w : World) (hc : ChainAt w b 0 n t v) (hsb : bs < w.heap.size ∧ w.cell? ⟨bs, 0, none⟩ = some (.int .i64 s)) (ha : SlII w v xss) (hv : chainOk n t xss = true) (hs : s < n) (hx : x < n) :
    Calls Try.prog 85 #[.int .i64 x, .pointer (some ⟨b, 0, none⟩), .pointer (some ⟨bs, 0, none⟩)] w fun e w' => e = .returned (.bool (!rB xss n x s)) ∧ Below w.heap.size w w' := by
  have HA := Lib.hid (fun W (h : Below w.heap.size w W) => ha.below h)
  have HC := Lib.hid (fun W (h : Below w.heap.size w W) => hc.below h)
  have HS := Lib.hid (fun W (h : Below w.heap.size w W) => show W.cell? ⟨bs, 0, none⟩ = some (.int .i64 s) from by rw [h.cell (p := ⟨bs, 0, none⟩) hsb.1]; exact hsb.2)
  obtain ⟨va, vc, us, rfl, _, _, _, _, _⟩ := id ha
  obtain ⟨⟨hn1, hn2⟩, _, hnx, _⟩ := chainOk_parts0 hv
  obtain ⟨c00, c0, c1, c2⟩ := hc
  simp only [Nat.zero_add] at c0 c1 c2
  have c3 := hsb.2
  have HV := Lib.hid hv
  have hnx' : xss.length = n := by omega
  rw [hnx'] at HA HC c2
  have k0 := fun d os => cell_regrown c0 d os
  have k1 := fun d os => cell_regrown c1 d os
  have k2 := fun d os => cell_regrown c2 d os
  have k3 := fun d os => cell_regrown c3 d os
  have i0 : (0 : Int) ≤ (s : Int) := by omega
  have i1 : (s : Int) < (n : Int) := by omega
  have hsl : s < (reachB xss n x).length := by rw [reachB_len]; exact hs
  have HRX := Lib.hid (reachB_at (xss := xss) (s := x) hsl)
  have HSL := Lib.hid hsl
  clear ha hv hnx hnx' hsb c00
  go_enter Try.func85, Try.ntmps85
  go_wp2_with fail
  go_region_law (first
    | (go_simp; go_at_call 69; refine (reach_any n x _ (HA.out _ (by (repeat (first | exact Below.refl _ _ | refine Below.drew ?_ | refine Below.alloc ?_ (by simp) _)))) HV.out hx).mono ?_; rintro e w4 ⟨g, rfl, o4, b4⟩; have bw4 := below_of (a := w) (by (repeat (first | exact Below.refl _ _ | refine Below.drew ?_ | refine Below.alloc ?_ (by simp) _))) b4; have y3 := HS.out _ bw4; have gm := FB_at o4 HSL.out; rw [HRX.out] at gm)
    | fail "no arm")
  all_goals
    go_wp2
    go_ret
    exact ⟨rfl, bw4⟩
theorem reachL_in {xss : List (List Int)} {n s : Nat} {x : Int} (h : x ∈ reachL xss n s) : ∃ t : Nat, t < n ∧ x = t := by
  obtain ⟨t, h1, h2, _⟩ := reachL_mem.1 h
  exact ⟨t, h1, h2⟩
theorem closedB_eq {xss : List (List Int)} {n s : Nat} : closedB xss n s = ((!(reachL xss n s).any fun x => !rB xss n x.toNat s) && decide ((reachL xss n s).getD 0 0 = (s : Int))) := by
  unfold closedB
  rw [Bool.and_comm]
  congr 1
  rw [List.any_eq_not_all_not]
  simp
theorem closedN_succ (xss : List (List Int)) (n k : Nat) : closedN xss n (k + 1) = closedN xss n k ++ (if closedB xss n k = true then [reachL xss n k] else []) := rfl

set_option maxRecDepth 100000 in
set_option maxHeartbeats 8000000 in
theorem closed_any {v : Value} {xss : List (List Int)} {t : Int} (n : Nat) (w : World) (ha : SlII w v xss) (hv : chainOk n t xss = true) :
    Calls Try.prog 65 #[.agg #[.int .i64 n, .int .i64 t, v]] w fun e w' => ∃ r, e = .returned r ∧ OwnII w' w.heap.size r (closedN xss n n) ∧ Below w.heap.size w w' := by
  have HA := Lib.hid (fun W (h : Below w.heap.size w W) => ha.below h)
  obtain ⟨a, ca, us, rfl, _, _, _, _, _⟩ := ha
  obtain ⟨⟨hn1, hn2⟩, ⟨ht1, ht2⟩, hnx, _⟩ := chainOk_parts0 hv
  have hnx' : xss.length = n := by omega
  rw [hnx'] at HA ⊢
  have HV := Lib.hid hv
  have BX := Lib.hid (chBelow w n t (.slice a n ca))
  have X := Lib.hid (chBox w n t (.slice a n ca))
  have hmf : ∀ (fn : Fn) (first cap : Array Value) (w : World), (Instr.makeFunc fn first cap).run Try.prog w = .ok (.func fn first cap) w := fun _ _ _ _ => rfl
  obtain ⟨W1, hW1⟩ : ∃ W1, W1 = w.alloc (chObj n t (.slice a n ca)) := ⟨_, rfl⟩
  rw [← hW1] at BX X
  have Z1 := Lib.hid (show W1.heap.size = w.heap.size + 1 by rw [hW1]; simp)
  have HW1 := Lib.hid (show w.alloc (.cells #[.int .i64 n, .int .i64 t, .slice a n ca] 26) = W1 from hW1.symm)
  have E0 := Lib.hid (OwnII.empty W1 (base := W1.heap.size) (Nat.le_refl _))
  have B0 := Lib.hid ((Below.refl W1.heap.size W1).alloc (Nat.le_refl _) (.cells #[] 28))
  have X1 := Lib.hid (X.out.below B0.out)
  obtain ⟨c00, x0, x1, x2⟩ := X1.out
  simp only [Nat.zero_add] at x0 x1 x2
  clear hv hnx hnx' hW1
  go_enter Try.func65, Try.ntmps65
  go_wp2_with fail
  rw [HW1.out]
  go_loopw [3, 10] (fun r i wr => ∃ (k : Nat), k ≤ n ∧ i = .int .i64 k ∧ OwnII wr W1.heap.size r (closedN xss n k) ∧ Below W1.heap.size W1 wr) (fun _ i _ => n - (intOf i).toNat)
  case atStart => exact ⟨0, Nat.zero_le _, rfl, by have h0 := E0.out; rw [Z1.out] at h0 ⊢; exact h0, B0.out⟩
  case round =>
    clear E0 B0 X1 x0 x1 x2 c00
    obtain ⟨k, hk, rfl, hown, hbw⟩ := hrel
    have HBW := Lib.hid hbw
    have HO := Lib.hid hown
    by_cases hkn : k < n
    · have hcs := closedN_succ xss n k
      have hce := closedB_eq (xss := xss) (n := n) (s := k)
      have hcl := closedN_len xss n k
      rw [hce] at hcs
      have hRm : ∀ x ∈ reachL xss n k, ∃ t : Nat, t < n ∧ x = t := fun x hx => reachL_in hx
      have hRl : (reachL xss n k).length ≤ n := memsL_len _ _
      have hR0 : 0 < (reachL xss n k).length := List.length_pos_of_mem (reachL_self hkn)
      have hRe : memsL (reachB xss n k) n = reachL xss n k := rfl
      obtain ⟨R, hR⟩ : ∃ R, R = reachL xss n k := ⟨_, rfl⟩
      rw [← hR] at hcs hRm hRl hR0 hRe
      rw [gD_at hR0] at hcs
      have HCS := Lib.hid hcs
      have HRE := Lib.hid hRe
      have HRM := Lib.hid hRm
      have HCL := Lib.hid hcl
      obtain ⟨c00, x0, x1, x2⟩ := X.out.below hbw
      simp only [Nat.zero_add] at x0 x1 x2
      have bA : Below wr.heap.size wr (wr.alloc (.cells #[.int .i64 k] 2)) := (Below.refl _ _).alloc (Nat.le_refl _) _
      have CI := Lib.hid (CellsAt.new wr [.int .i64 k] 2)
      have XA := Lib.hid ((X.out.below hbw).below bA)
      have BA := Lib.hid bA
      have HAA := Lib.hid (HA.out _ (BX.out.trans ((HBW.out.trans (bA.mono HBW.out.size)).mono BX.out.size)))
      have i0 : (0 : Int) ≤ (k : Int) := by omega
      have i1 : (k : Int) < (n : Int) := by omega
      clear hcs hce hRm hRe hcl hR bA hbw hown
      go_wp2_with fail
      refine (reach_any n k _ HAA.out HV.out hkn).mono ?_
      rintro e w3 ⟨g, rfl, o3, b3⟩
      have B3 := Lib.hid (BA.out.trans (b3.mono BA.out.size))
      have O3 := Lib.hid o3
      have BAB := Lib.hid b3
      clear o3 b3 x0 x1 x2 c00
      go_wp2_with fail
      refine (membersOf_any _ _ O3.out (reachB_len _ _ _) (by omega)).mono ?_
      rintro e w4 ⟨rv, rfl, o4, b4⟩
      rw [HRE.out] at o4
      have B4 := Lib.hid (B3.out.trans (b4.mono B3.out.size))
      have O4 := Lib.hid (show OwnI w4 wr.heap.size rv R from o4.lower B3.out.size)
      have HI4 := Lib.hid (show wr.heap.size < w4.heap.size ∧ w4.cell? ⟨wr.heap.size, 0, none⟩ = some (.int .i64 k) from by
        have hl : wr.heap.size < (wr.alloc (.cells #[.int .i64 k] 2)).heap.size := by simp
        have h9 : Below (wr.alloc (.cells #[.int .i64 k] 2)).heap.size (wr.alloc (.cells #[.int .i64 k] 2)) w4 := BAB.out.trans (b4.mono BAB.out.size)
        exact ⟨Nat.lt_of_lt_of_le hl h9.size, by rw [h9.cell (p := ⟨wr.heap.size, 0, none⟩) hl]; exact CI.out.get 0 _ rfl⟩)
      have BX4 := Lib.hid (HBW.out.trans (B4.out.mono HBW.out.size))
      have BW4 := Lib.hid (BX.out.trans (BX4.out.mono BX.out.size))
      have HF := Lib.hid (show ∀ W x, Below w4.heap.size w4 W → x ∈ R → Calls Try.prog 85 #[.int .i64 x, .pointer (some ⟨w.heap.size, 0, none⟩), .pointer (some ⟨wr.heap.size, 0, none⟩)] W fun e w' => e = .returned (.bool (!rB xss n x.toNat k)) ∧ Below W.heap.size W w' from fun W x hW hx => by
        obtain ⟨t', ht', rfl⟩ := HRM.out x hx
        rw [Int.toNat_natCast]
        exact closClo_any w.heap.size wr.heap.size n k t' W (X.out.below (BX4.out.trans (hW.mono BX4.out.size))) ⟨Nat.lt_of_lt_of_le HI4.out.1 hW.size, by rw [hW.cell (p := ⟨wr.heap.size, 0, none⟩) HI4.out.1]; exact HI4.out.2⟩ (HA.out _ (BW4.out.trans (hW.mono BW4.out.size))) HV.out hkn ht')
      obtain ⟨ra, rc, rfl, _, _, _⟩ := id O4.out.sl
      have HCON := Lib.hid (ContainsFuncClos_any (.pointer (some ⟨w.heap.size, 0, none⟩)) (.pointer (some ⟨wr.heap.size, 0, none⟩)) (fun x => !rB xss n x.toNat k) w4 O4.out.sl HF.out)
      generalize (R.any fun x => !rB xss n x.toNat k) = AN at HCON HCS
      clear o4 b4 HF
      go_wp2_with fail
      refine HCON.out.mono ?_
      rintro e w5 ⟨rfl, b5⟩
      have B5 := Lib.hid (B4.out.trans (b5.mono B4.out.size))
      have O5 := Lib.hid (O4.out.below b5)
      have hi5 : w5.cell? ⟨wr.heap.size, 0, none⟩ = some (.int .i64 k) := by rw [b5.cell (p := ⟨wr.heap.size, 0, none⟩) HI4.out.1]; exact HI4.out.2
      obtain ⟨rb, ro, rfl, _, g0⟩ := O5.out.sl.at_ hR0
      simp only [Nat.add_zero] at g0
      have HR0 := Lib.hid hR0
      have HRL := Lib.hid hRl
      generalize R[0] = r0 at g0 HCS
      have k0 := fun d os => cell_regrown hi5 d os
      have k1 := fun d os => cell_regrown g0 d os
      have hR0' : (0 : Int) < (R.length : Int) := by omega
      clear b5 HCON O4
      cases AN
      · by_cases hrk : r0 = (k : Int)
        · have t1 : (r0 == (k : Int)) = true := by simp [hrk]
          have HRK := Lib.hid hrk
          clear hrk
          go_wp2_with fail
          refine wp_region_quiet_below (by kernel_rfl) (by kernel_rfl) ?_
          repeat (first | go_big_quiet_skip | quiet_step (fail))
          refine wpQuiet_nil ?_
          intro _ hw'
          obtain ⟨⟨dq, osq⟩, hw''⟩ := hw'
          subst hw''
          have bq0 := below_regrown w5 dq osq
          generalize grow (redrawn w5 dq) osq = wq at bq0 ⊢
          have o6 := O5.out.below bq0
          have b6 := B5.out.trans (bq0.mono B5.out.size)
          have HB6 := Lib.hid b6
          have ho := HO.out
          have hcl := HCL.out
          have hzr := HBW.out.size
          have hln : (closedN xss n k).length < 16777216 := by omega
          clear k0 k1 hi5 g0 bq0
          go_wp2_with (at_builtin; refine append_row wr _ _ _ rfl rfl rfl ho b6 o6 rfl hln hzr ?_)
          intro v7 w7 o7 b7 z7
          have hs7 : closedN xss n (k + 1) = closedN xss n k ++ [R] := by rw [HCS.out, HRK.out]; simp
          rw [← hs7] at o7
          have HB7 := Lib.hid (show Below W1.heap.size W1 w7 from (HBW.out.trans (HB6.out.mono HBW.out.size)).trans (((Below.refl _ _).alloc (Nat.le_trans HBW.out.size HB6.out.size) _).trans b7))
          clear hs7 b7 ho o6 b6
          go_wp2
          go_roundw
          case rel => exact ⟨k + 1, by omega, by go_num, o7, HB7.out⟩
          case measure => simp [intOf]; omega
        · have t1 : (r0 == (k : Int)) = false := by simp [hrk]
          have hs7 : closedN xss n (k + 1) = closedN xss n k := by rw [HCS.out]; simp [hrk]
          have HO7 := Lib.hid (show OwnII wr W1.heap.size u3 (closedN xss n (k + 1)) from by rw [hs7]; exact HO.out)
          clear hrk hs7
          go_wp2_with fail
          refine wp_region_quiet_below (by kernel_rfl) (by kernel_rfl) ?_
          repeat (first | go_big_quiet_skip | quiet_step (fail))
          refine wpQuiet_nil ?_
          intro _ hw'
          obtain ⟨⟨dq, osq⟩, hw''⟩ := hw'
          subst hw''
          have bq0 := below_regrown w5 dq osq
          generalize grow (redrawn w5 dq) osq = wq at bq0 ⊢
          have HB6 := Lib.hid (B5.out.trans (bq0.mono B5.out.size))
          clear k0 k1 hi5 g0 bq0
          go_wp2
          go_roundw
          case rel => exact ⟨k + 1, by omega, by go_num, HO7.out.below HB6.out, HBW.out.trans (HB6.out.mono HBW.out.size)⟩
          case measure => simp [intOf]; omega
      · have hs7 : closedN xss n (k + 1) = closedN xss n k := by rw [HCS.out]; simp
        have HO7 := Lib.hid (show OwnII wr W1.heap.size u3 (closedN xss n (k + 1)) from by rw [hs7]; exact HO.out)
        clear hs7
        go_wp2_with fail
        refine wp_region_quiet_below (by kernel_rfl) (by kernel_rfl) ?_
        repeat (first | go_big_quiet_skip | quiet_step (fail))
        refine wpQuiet_nil ?_
        intro _ hw'
        obtain ⟨⟨dq, osq⟩, hw''⟩ := hw'
        subst hw''
        have bq0 := below_regrown w5 dq osq
        generalize grow (redrawn w5 dq) osq = wq at bq0 ⊢
        have HB6 := Lib.hid (B5.out.trans (bq0.mono B5.out.size))
        clear k0 k1 hi5 g0 bq0
        go_wp2
        go_roundw
        case rel => exact ⟨k + 1, by omega, by go_num, HO7.out.below HB6.out, HBW.out.trans (HB6.out.mono HBW.out.size)⟩
        case measure => simp [intOf]; omega
    · obtain rfl : k = n := by omega
      have ho := HO.out
      go_wp2
      go_ret
      exact ⟨_, rfl, ho.lower BX.out.size, BX.out.trans (hbw.mono BX.out.size)⟩
end Go.Proofs.Ytghdginjdolgpaa
namespace Go.Proofs.Ytghdginjdolgpaa
open Go.RowKit Go.Sort

set_option maxRecDepth 100000 in
set_option maxHeartbeats 4000000 in
theorem connected_any {v : Value} {xss : List (List Int)} {t : Int} (n : Nat) (w : World) (ha : SlII w v xss) (hv : chainOk n t xss = true) :
    Calls Try.prog 66 #[.agg #[.int .i64 n, .int .i64 t, v]] w fun e w' => e = .returned (.bool (connB xss n)) ∧ Below w.heap.size w w' := by
  have HA := Lib.hid (fun W (h : Below w.heap.size w W) => ha.below h)
  obtain ⟨a, ca, us, rfl, _, _, _, _, _⟩ := ha
  obtain ⟨⟨hn1, hn2⟩, ⟨ht1, ht2⟩, hnx, _⟩ := chainOk_parts0 hv
  have hnx' : xss.length = n := by omega
  rw [hnx'] at HA ⊢
  have HV := Lib.hid hv
  have BX := Lib.hid (chBelow w n t (.slice a n ca))
  have X := Lib.hid (chBox w n t (.slice a n ca))
  have hcl := closedN_len xss n n
  obtain ⟨C, hC⟩ : ∃ C, C = closedN xss n n := ⟨_, rfl⟩
  have HCB := Lib.hid (show connB xss n = (decide (C.length = 1) && decide ((C.getD 0 []).length = n)) from by rw [hC]; rfl)
  have HCE := Lib.hid hC
  rw [← hC] at hcl
  clear hv hnx hnx' hC
  obtain ⟨c00, x0, x1, x2⟩ := X.out
  simp only [Nat.zero_add] at x0 x1 x2
  go_enter Try.func66, Try.ntmps66
  go_wp2_with fail
  refine (closed_any n _ (HA.out _ BX.out) HV.out).mono ?_
  rintro e w1 ⟨r, rfl, o1, b1⟩
  rw [← HCE.out] at o1
  have B1 := Lib.hid (BX.out.trans (b1.mono BX.out.size))
  have S1 := Lib.hid o1.sl
  obtain ⟨y00, y0, y1, y2⟩ := X.out.below b1
  simp only [Nat.zero_add] at y0 y1 y2
  obtain ⟨ra, rc, rs, rfl, _, _, _, _, _⟩ := id S1.out
  have k0 := fun d os => cell_regrown y0 d os
  clear x0 x1 x2 c00 y1 y2 o1 b1
  by_cases h1 : C.length = 1
  · have h0 : 0 < C.length := by omega
    obtain ⟨b, off, ea, ec, rfl, hb, g0, s0⟩ := S1.out.nthJ h0
    simp only [Nat.add_zero] at g0
    have hgd := gD_at (d := ([] : List Int)) h0
    have HCB2 := Lib.hid (show connB xss n = decide (C[0].length = n) from by rw [HCB.out, hgd, h1]; simp)
    generalize C[0] = E at g0 s0 HCB2
    have k1 := fun d os => cell_regrown g0 d os
    have t1 : ((C.length : Int) == 1) = true := by rw [h1]; rfl
    have i0 : (0 : Int) < (C.length : Int) := by omega
    have t2 : ((E.length : Int) == (n : Int)) = decide (E.length = n) := by
      by_cases h : E.length = n
      · simp [h]
      · have : ¬ ((E.length : Int) = (n : Int)) := by omega
        rw [decide_eq_false h, beq_eq_false_iff_ne]; exact this
    obtain ⟨_, _, he, _, hel, _⟩ := s0
    unfold maxLen at hel
    simp only [Value.slice.injEq] at he
    obtain ⟨rfl, _, rfl⟩ := he
    generalize decide (E.length = n) = D at t2 HCB2
    clear hgd h1
    go_wp2_with fail
    refine wp_region_quiet_below (by kernel_rfl) (by kernel_rfl) ?_
    repeat (first | go_big_quiet_skip | quiet_step (fail))
    refine wpQuiet_nil ?_
    intro _ hw'
    obtain ⟨⟨dq, osq⟩, hw''⟩ := hw'
    subst hw''
    have bq := B1.out.trans ((below_regrown w1 dq osq).mono B1.out.size)
    generalize grow (redrawn w1 dq) osq = wq at bq ⊢
    clear k0 k1
    go_wp2
    go_ret
    exact ⟨rb HCB2.out.symm, bq⟩
  · have t1 : ((C.length : Int) == 1) = false := by rw [beq_eq_false_iff_ne]; omega
    have HCB2 := Lib.hid (show connB xss n = false from by rw [HCB.out]; simp [h1])
    clear h1
    go_wp2_with fail
    refine wp_region_quiet_below (by kernel_rfl) (by kernel_rfl) ?_
    repeat (first | go_big_quiet_skip | quiet_step (fail))
    refine wpQuiet_nil ?_
    intro _ hw'
    obtain ⟨⟨dq, osq⟩, hw''⟩ := hw'
    subst hw''
    have bq := B1.out.trans ((below_regrown w1 dq osq).mono B1.out.size)
    generalize grow (redrawn w1 dq) osq = wq at bq ⊢
    clear k0
    go_wp2
    go_ret
    exact ⟨rbf HCB2.out, bq⟩

set_option maxRecDepth 100000 in
set_option maxHeartbeats 8000000 in
theorem classes_any {v : Value} {xss : List (List Int)} {t : Int} (n : Nat) (w : World) (ha : SlII w v xss) (hv : chainOk n t xss = true) :
    Calls Try.prog 64 #[.agg #[.int .i64 n, .int .i64 t, v]] w fun e w' => ∃ (r : Value) (cs : List Int) (nx : Int), e = .returned r ∧ cs.length = n ∧ ClsI xss n cs nx ∧ OwnI w' w.heap.size r cs ∧ Below w.heap.size w w' := by
  have HA := Lib.hid (fun W (h : Below w.heap.size w W) => ha.below h)
  obtain ⟨a, ca, us, rfl, _, _, _, _, _⟩ := ha
  obtain ⟨⟨hn1, hn2⟩, ⟨ht1, ht2⟩, hnx, _⟩ := chainOk_parts0 hv
  have hnx' : xss.length = n := by omega
  rw [hnx'] at HA ⊢
  have HV := Lib.hid hv
  have BX := Lib.hid (chBelow w n t (.slice a n ca))
  have X := Lib.hid (chBox w n t (.slice a n ca))
  obtain ⟨W1, hW1⟩ : ∃ W1, W1 = w.alloc (chObj n t (.slice a n ca)) := ⟨_, rfl⟩
  rw [← hW1] at BX X
  have Z1 := Lib.hid (show W1.heap.size = w.heap.size + 1 by rw [hW1]; simp)
  have HW1 := Lib.hid (show w.alloc (.cells #[.int .i64 n, .int .i64 t, .slice a n ca] 26) = W1 from hW1.symm)
  have E0 := Lib.hid (OwnI.empty W1 (base := W1.heap.size) (Nat.le_refl _))
  have B0 := Lib.hid ((Below.refl W1.heap.size W1).alloc (Nat.le_refl _) (.cells #[] 2))
  have X1 := Lib.hid (X.out.below B0.out)
  obtain ⟨c00, x0, x1, x2⟩ := X1.out
  simp only [Nat.zero_add] at x0 x1 x2
  clear hv hnx hnx' hW1
  go_enter Try.func64, Try.ntmps64
  go_wp2_with fail
  rw [HW1.out]
  go_loopw [3, 4, 11] (fun r nx i wr => ∃ (s : Nat) (cs : List Int) (NX : Int), s ≤ n ∧ i = .int .i64 s ∧ nx = .int .i64 NX ∧ cs.length = s ∧ Hid (ClsI xss n cs NX) ∧ OwnI wr W1.heap.size r cs ∧ Below W1.heap.size W1 wr) (fun _ _ i _ => n - (intOf i).toNat)
  case atStart => exact ⟨0, [], 0, Nat.zero_le _, rfl, rfl, rfl, Lib.hid (ClsI.nil _ _), by have h0 := E0.out; rw [Z1.out] at h0 ⊢; exact h0, B0.out⟩
  case round =>
    clear E0 B0 X1 x0 x1 x2 c00
    obtain ⟨s, cs, NX, hs, rfl, rfl, hcl, hI, hown, hbw⟩ := hrel
    have HBW := Lib.hid hbw
    have HO := Lib.hid hown
    have HCL := Lib.hid hcl
    obtain ⟨hnx0, hnx1⟩ := hI.out.nx
    clear hown
    by_cases hsn : s < n
    · obtain ⟨wo, rfl⟩ : ∃ wo : World, wo = wr := ⟨_, rfl⟩
      have i1 : (s : Int) < (n : Int) := by omega
      have i0 : (0 : Int) ≤ (s : Int) := by omega
      have hnx2 : NX ≤ 6 := by omega
      clear hbw hcl hnx1
      go_wp2
      go_loopw [6, 16] (fun ow x wr => ∃ (t : Nat), t ≤ s ∧ x = .int .i64 t ∧ ow = .int .i64 NX ∧ Hid (∀ u, u < t → ¬ Mut xss n u s) ∧ Below wo.heap.size wo wr) (fun _ x _ => s - (intOf x).toNat)
      case atStart => exact ⟨0, Nat.zero_le _, rfl, rfl, Lib.hid (fun u hu => absurd hu (by omega)), Below.refl _ _⟩
      case round =>
        obtain ⟨t, ht, rfl, rfl, hno, hbr⟩ := hrel
        have HBR := Lib.hid hbr
        have HBW2 := Lib.hid (HBW.out.trans (hbr.mono HBW.out.size))
        have HBW0 := Lib.hid (BX.out.trans (HBW2.out.mono BX.out.size))
        by_cases hts : t < s
        · have htn : t < n := by omega
          have i2 : (t : Int) < (s : Int) := by omega
          have i3 : (0 : Int) ≤ (t : Int) := by omega
          have i4 : (t : Int) < (n : Int) := by omega
          obtain ⟨c00, x0, x1, x2⟩ := X.out.below HBW2.out
          simp only [Nat.zero_add] at x0 x1 x2
          go_wp2_with fail
          refine (reach_any n s _ (HA.out _ HBW0.out) HV.out hsn).mono ?_
          rintro e w3 ⟨g, rfl, o3, b3⟩
          have B3 := Lib.hid (HBR.out.trans (b3.mono HBR.out.size))
          have B3W := Lib.hid (HBW.out.trans (B3.out.mono HBW.out.size))
          have B3W0 := Lib.hid (BX.out.trans (B3W.out.mono BX.out.size))
          have htl : t < (reachB xss n s).length := by rw [reachB_len]; exact htn
          have gm := FB_at o3 htl
          rw [reachB_at htl] at gm
          generalize hr1 : rB xss n s t = r1 at gm
          have HR1 := Lib.hid hr1
          obtain ⟨y00, y0, y1, y2⟩ := X.out.below B3W.out
          simp only [Nat.zero_add] at y0 y1 y2
          clear x0 x1 x2 c00 o3 b3 hr1 htl
          cases r1
          · have HNO := Lib.hid (show ∀ u, u < t + 1 → ¬ Mut xss n u s from fun u hu hm => by
              by_cases e : u = t
              · subst e; have := (mut_iff.1 hm).2; rw [HR1.out] at this; cases this
              · exact hno.out u (by omega) hm)
            go_wp2
            go_roundw
            case rel => exact ⟨t + 1, by omega, by go_num, rfl, HNO, B3.out⟩
            case measure => simp [intOf]; omega
          · skip
            go_wp2_with fail
            refine (reach_any n t _ (HA.out _ B3W0.out) HV.out htn).mono ?_
            rintro e w4 ⟨g2, rfl, o4, b4⟩
            have B4 := Lib.hid (B3.out.trans (b4.mono B3.out.size))
            have B4W := Lib.hid (HBW.out.trans (B4.out.mono HBW.out.size))
            have hsl : s < (reachB xss n t).length := by rw [reachB_len]; exact hsn
            have gm2 := FB_at o4 hsl
            rw [reachB_at hsl] at gm2
            generalize hr2 : rB xss n t s = r2 at gm2
            have HR2 := Lib.hid hr2
            clear y0 y1 y2 y00 o4 b4 hr2 hsl gm
            cases r2
            · have HNO := Lib.hid (show ∀ u, u < t + 1 → ¬ Mut xss n u s from fun u hu hm => by
                by_cases e : u = t
                · subst e; have := (mut_iff.1 hm).1; rw [HR2.out] at this; cases this
                · exact hno.out u (by omega) hm)
              go_wp2
              go_roundw
              case rel => exact ⟨t + 1, by omega, by go_num, rfl, HNO, B4.out⟩
              case measure => simp [intOf]; omega
            · have htc : t < cs.length := by rw [HCL.out]; exact hts
              have HMT := Lib.hid (show Mut xss n t cs.length from by rw [HCL.out]; exact mut_iff.2 ⟨HR2.out, HR1.out⟩)
              have hI2 := hI.out.old (by rw [HCL.out]; exact hsn) htc HMT.out
              have hrg := hI.out.rng t htc
              have o5 := HO.out.below B4.out
              obtain ⟨ra, rc, rfl, _, _, _⟩ := id o5.sl
              obtain ⟨rb, ro, rfl, _, gc⟩ := o5.sl.at_ htc
              generalize cs[t] = ct at gc hI2 hrg
              have t1 : (ct == NX) = false := by rw [beq_eq_false_iff_ne]; omega
              have HI2 := Lib.hid hI2
              have hz4 := B4W.out.size
              have hln : cs.length < 16777216 := by have := HCL.out; omega
              have i5 : (t : Int) < (cs.length : Int) := by omega
              clear hI2 hrg
              go_wp2_with (at_builtin; refine append_i64 _ ct _ _ rfl rfl rfl o5 rfl hln hz4 ?_)
              intro v6 w6 o6 b6 z6
              have HB6 := Lib.hid ((B4W.out.alloc hz4 (.cells #[.int .i64 ct] 2)).trans b6)
              clear b6 o5 gc
              go_wp2
              go_roundw
              case rel => exact ⟨s + 1, cs ++ [ct], NX, by omega, by go_num, rfl, by simp [HCL.out], HI2, o6, HB6.out⟩
              case measure => simp [intOf]; omega
        · obtain rfl : t = s := by omega
          have HI2 := Lib.hid (hI.out.new (fun u hu hm => hno.out u (by have := HCL.out; omega) (by have := HCL.out; rw [this] at hm; exact hm)))
          have o5 := HO.out.below HBR.out
          have t1 : (NX == NX) = true := by simp
          have r1 : IntKind.i64.wrap (NX + 1) = NX + 1 := IntWalk.i64_in _ (by omega)
          have hz4 := HBW2.out.size
          have hln : cs.length < 16777216 := by have := HCL.out; omega
          clear hbr
          go_wp2_with (at_builtin; refine append_i64 _ NX _ _ rfl rfl rfl o5 rfl hln hz4 ?_)
          intro v6 w6 o6 b6 z6
          have HB6 := Lib.hid ((HBW2.out.alloc hz4 (.cells #[.int .i64 NX] 2)).trans b6)
          clear b6 o5
          go_wp2
          go_roundw
          case rel => exact ⟨t + 1, cs ++ [NX], NX + 1, by omega, by go_num, rfl, by simp [HCL.out], HI2, o6, HB6.out⟩
          case measure => simp [intOf]; omega
    · obtain rfl : s = n := by omega
      have ho := HO.out
      go_wp2
      go_ret
      exact ⟨_, cs, NX, rfl, HCL.out, hI.out, ho.lower BX.out.size, BX.out.trans (hbw.mono BX.out.size)⟩
end Go.Proofs.Ytghdginjdolgpaa
