/-
  P6Maps: the total is at most 9. With it: The chains that the laws draw: l01Draw, P6Chain. The maps that the laws draw: l05Draw, P6Maps. Maps: valid ones and picks, both sides; one step.
-/
import Derived.Test.YtceobhmbnkheiaaZRowFnMaps19
import Derived.Test.YtceobhmbnkheiaaZRowFnMaps16
import Derived.Test.YtceobhmbnkheiaaZRowFnMaps5
import Derived.Test.YtceobhmbnkheiaaZRowFnMaps7
import Derived.Test.YtceobhmbnkheiaaZRowFnMaps8
set_option linter.unusedVariables false
set_option linter.unusedSimpArgs false
namespace Go.Proofs.Ytceobhmbnkheiaa
open Go.RowKit Go.Sort
theorem chain_drawn {n t : Nat} {xss : List (List Int)} (h1 : 1 ≤ n) (h2 : n ≤ 6) (t1 : 1 ≤ t) (t2 : t ≤ 60) (hl : xss.length = n) (hr : ∀ r ∈ xss, r.length = n ∧ (∀ x ∈ r, 0 ≤ x ∧ x ≤ (t : Int)) ∧ r.sum = (t : Int)) : chainOk n t xss = true := by
  unfold chainOk
  rw [Bool.and_eq_true, Bool.and_eq_true, Bool.and_eq_true]
  refine ⟨inR_iff.2 (by omega), inR_iff.2 (by omega), by simp [hl], ?_⟩
  unfold rowsOk
  rw [List.all_eq_true]
  intro r hm
  obtain ⟨a, b, c⟩ := hr r hm
  unfold rowOk inAll
  rw [Bool.and_eq_true, Bool.and_eq_true, List.all_eq_true]
  exact ⟨by simp [a], fun x hx => inR_iff.2 (by have := b x hx; omega), by simp [c]⟩
/-- a chain under work -/
structure Box3 (w : World) (b : Nat) (n t : Int) (v : Value) : Prop where
  c : CellsAt w b [.int .i64 n, .int .i64 t, v]
  f : ∀ i, w.frozen? ⟨b, i, none⟩ = false
theorem Box3.fs {S : Nat → Prop} {w w' : World} {b : Nat} {n t : Int} {v : Value} (h : Box3 w b n t v) (hf : Fs S w w') (hS : ¬ S b) : Box3 w' b n t v :=
  ⟨h.c.fs hf hS, fun i => by rw [hf.frozen (p := ⟨b, i, none⟩) h.c.1 hS]; exact h.f i⟩
theorem Box3.new (w : World) (n t : Int) (v : Value) : Box3 (w.alloc (.cells #[.int .i64 n, .int .i64 t, v] 52)) w.heap.size n t v :=
  ⟨CellsAt.new w [.int .i64 n, .int .i64 t, v] 52, fun i => by simp [go_sem]⟩
theorem Box3.set {w : World} {b : Nat} {n t : Int} {v : Value} (h : Box3 w b n t v) (u : Value) : Box3 (w.setCell ⟨b, 2, none⟩ u) b n t u := by
  have c0 := h.c.get 0 _ rfl
  have c1 := h.c.get 1 _ rfl
  have c2 := h.c.get 2 _ rfl
  refine ⟨⟨by simpa using h.c.1, fun i v hv => ?_⟩, fun i => by simpa using h.f i⟩
  match i, hv with
  | 0, hv => simp at hv; subst hv; simp [go_sem, c0]
  | 1, hv => simp at hv; subst hv; simp [go_sem, c1]
  | 2, hv => simp at hv; subst hv; simp [go_sem, c2]
theorem OwnIIB.fsJ {S : Nat → Prop} {w w' : World} {base B : Nat} {v : Value} {xss : List (List Int)} (h : OwnIIB w base B v xss) (hf : Fs S w w') (hS : ∀ k, S k → k < base) : OwnIIB w' base B v xss := by
  obtain ⟨vs, h1, h2, h3⟩ := h
  exact ⟨vs, ownsRow_fs h1 hf hS, ⟨h2.1, fun i u xs hu hx => ownsRow_fs (h2.2.1 i u xs hu hx) hf hS, h2.2.2⟩, h3⟩
theorem OwnII.formJ {w : World} {base : Nat} {v : Value} {xss : List (List Int)} (h : OwnII w base v xss) : ∃ a n c, v = .slice a n c ∧ Hid (n = xss.length) := by
  obtain ⟨a, ca, us, rfl, _⟩ := h.sl
  exact ⟨a, _, ca, rfl, rfl⟩
theorem Fs.set1 (w : World) (r i : Nat) (x : Value) : Fs (fun k => k = r) w (w.setCell ⟨r, i, none⟩ x) := Fs.set (S := fun k => k = r) (Fs.refl _ _) (a := ⟨r, i, none⟩) rfl _
theorem Fs.set3 (w : World) (r : Nat) (x y z : Value) : Fs (fun k => k = r) w (((w.setCell ⟨r, 0, none⟩ x).setCell ⟨r, 1, none⟩ y).setCell ⟨r, 2, none⟩ z) :=
  Fs.set (S := fun k => k = r) (Fs.set (S := fun k => k = r) (Fs.set (S := fun k => k = r) (Fs.refl _ _) (a := ⟨r, 0, none⟩) rfl _) (a := ⟨r, 1, none⟩) rfl _) (a := ⟨r, 2, none⟩) rfl _
theorem Fs.of_belowB {w w' : World} {B : Nat} (h : Below B w w') : Fs (fun k => B ≤ k) w w' := ⟨h.os, h.tape, h.output, h.size, fun k hk hx => h.block k (by omega)⟩
theorem step_appRowJ {ops : Array Oper} {o : Oper} {a : Act} {K : Act → World → Prop} {Q : Exit → Act → World → Prop} {E : Prop} {w w4 : World} (hg : o.guard = none) (s x : Operand)
    (ho : o.op = .call { callee := .builtin .append, args := #[s, x], argTypes := #[50, 50] })
    {base B g : Nat} {v u : Value} {xss : List (List Int)} {xs : List Int} (hs : a.eval s = v) (hown : OwnIIB w4 base B v xss) (hu : OwnI w4 base u xs) (hB : ∀ g, u.ownBlock = some g → B ≤ g) (h4w : Below w4.heap.size w4 w)
    (hx : a.eval x = .slice (some ⟨g, 0, none⟩) 1 1) (hc : w.cell? ⟨g, 0, none⟩ = some u) (hlen : xss.length < 16777216) (hbase : base ≤ w4.heap.size)
    (h : ∀ v' w', OwnII w' base v' (xss ++ [xs]) → Below base w4 w' → K (a.put o.dst v') w') : if Region.wanted o (yielded ops a.tmps) = true then Oper.wp Try.prog o a w K Q else E := by
  have ho4 := hown.below h4w
  have hz := Nat.le_trans hbase h4w.size
  exact stepAppRow w s x hg ho hs ho4 (hu.below h4w) hB hx hc hlen hz (fun v' w' k1 k2 => h v' w' k1 ((h4w.mono hbase).trans ((Below.refl _ _).grown k2 hz (fun k hk => (ho4.lt k hk).1))))
end Go.Proofs.Ytceobhmbnkheiaa
namespace Go.Proofs.Ytceobhmbnkheiaa
open Go.RowKit Go.Sort

theorem l00Max_any (a b : Int) (w : World) : Calls Try.prog 36 #[.int .i64 a, .int .i64 b] w fun e w' => ∃ z : Int, e = .returned (.int .i64 z) ∧ (z = a ∨ z = b) ∧ w = w' := by
  by_cases h : a > b
  · go_enter Try.func36, Try.ntmps36
    go_wp2
    go_ret
    exact ⟨_, rfl, .inl rfl, rfl⟩
  · go_enter Try.func36, Try.ntmps36
    go_wp2
    go_ret
    exact ⟨_, rfl, .inr rfl, rfl⟩

theorem Box3.newM (w : World) (n t : Int) (v : Value) : Box3 (w.alloc (.cells #[.int .i64 n, .int .i64 t, v] 26)) w.heap.size n t v :=
  ⟨CellsAt.new w [.int .i64 n, .int .i64 t, v] 26, fun i => by simp [go_sem]⟩
theorem Box3.set1 {w : World} {b : Nat} {n t : Int} {v : Value} (h : Box3 w b n t v) (u : Int) : Box3 (w.setCell ⟨b, 1, none⟩ (.int .i64 u)) b n u v := by
  have c0 := h.c.get 0 _ rfl
  have c1 := h.c.get 1 _ rfl
  have c2 := h.c.get 2 _ rfl
  refine ⟨⟨by simpa using h.c.1, fun i v hv => ?_⟩, fun i => by simpa using h.f i⟩
  match i, hv with
  | 0, hv => simp at hv; subst hv; simp [go_sem, c0]
  | 1, hv => simp at hv; subst hv; simp [go_sem, c1]
  | 2, hv => simp at hv; subst hv; simp [go_sem, c2]
theorem OwnM.set {w : World} {base : Nat} {v : Value} {ms : List (Int × List Int)} (h : OwnM w base v ms) {a : Addr} (ha : a.block < base) (u : Value) : OwnM (w.setCell a u) base v ms :=
  h.fs (Fs.set (S := fun k => k = a.block) (Fs.refl _ _) (a := a) rfl u) (fun k hk => by omega)
theorem OwnM.formJ {w : World} {base : Nat} {v : Value} {ms : List (Int × List Int)} (h : OwnM w base v ms) : ∃ a n c, v = .slice a n c ∧ Hid (n = ms.length) := by
  obtain ⟨ad, c, rfl, _⟩ := h.sl.form
  exact ⟨ad, _, c, rfl, rfl⟩
theorem OwnI.formJ {w : World} {base : Nat} {v : Value} {xs : List Int} (h : OwnI w base v xs) : ∃ a n c, v = .slice a n c ∧ Hid (n = xs.length) := by
  obtain ⟨ad, c, rfl, _⟩ := h.sl
  exact ⟨ad, _, c, rfl, rfl⟩

set_option maxRecDepth 100000 in
set_option maxHeartbeats 8000000 in
theorem l05Draw_any (b K mo : Nat) (w : World) (hs : SrcB w b K) (hK : K ≤ 100000) (hm : 1 ≤ mo) (hm2 : mo ≤ 6) :
    Calls Try.prog 37 #[.pointer (some ⟨b, 0, none⟩), .int .i64 mo] w fun e w' => ∃ (n t : Nat) (v : Value) (ms : List (Int × List Int)), e = .returned (.agg #[.int .i64 n, .int .i64 t, v]) ∧ n ≤ mo ∧ mapsOk n t ms ∧ ms.length ≤ 3 ∧ OwnM w' w.heap.size v ms ∧ SrcB w' b (K + 1000) ∧ Fs (fun k => k = b) w w' := by
  have hbw := hs.lt
  have hA : Below w.heap.size w (w.alloc (.cells #[.int .i64 0, .int .i64 0, .slice none 0 0] 26)) := (Below.refl _ _).alloc (Nat.le_refl _) _
  have S1 := Lib.hid (hs.below hA)
  have FA := Lib.hid (Fs.of_below (S := fun k => k = b) hA)
  have R1 := Lib.hid (Box3.newM w 0 0 (.slice none 0 0))
  obtain ⟨W1, hW1⟩ : ∃ W1, W1 = w.alloc (.cells #[.int .i64 0, .int .i64 0, .slice none 0 0] 26) := ⟨_, rfl⟩
  rw [← hW1] at S1 FA R1
  have Z1 := Lib.hid (show W1.heap.size = w.heap.size + 1 by rw [hW1]; simp)
  have HW1 := Lib.hid hW1
  clear hs hA hW1
  go_enter Try.func37, Try.ntmps37
  go_wp2_with fail
  rw [← HW1.out]
  refine (pick_any b K mo _ S1.out (by omega)).mono ?_
  rintro e w1 ⟨y, rfl, hy0, hy1, s1, g1⟩
  obtain ⟨y, rfl⟩ := Int.eq_ofNat_of_zero_le hy0
  obtain ⟨n, hn⟩ : ∃ n, n = y + 1 := ⟨_, rfl⟩
  have hn1 : 1 ≤ n := by omega
  have hn2 : n ≤ mo := by omega
  have r1 : IntKind.i64.wrap (1 + (y : Int)) = (n : Int) := by rw [IntWalk.i64_in _ (by omega)]; omega
  have F1 := Lib.hid (FA.out.trans g1)
  have R2 := Lib.hid (R1.out.fs g1 (by omega))
  have HB1 := Lib.hid s1.lt
  have hA3 : Below w1.heap.size w1 (w1.alloc (.cells #[.int .i64 n, .int .i64 0, .slice none 0 0] 26)) := (Below.refl _ _).alloc (Nat.le_refl _) _
  have S3 := Lib.hid (s1.below hA3)
  have F4 := Lib.hid (F1.out.trans (Fs.of_below hA3))
  have R5 := Lib.hid (R2.out.fs (S := fun _ => False) (Fs.of_below hA3) (fun h => h))
  have X3 := Lib.hid (Box3.newM w1 n 0 (.slice none 0 0))
  obtain ⟨W3, hW3⟩ : ∃ W3, W3 = w1.alloc (.cells #[.int .i64 n, .int .i64 0, .slice none 0 0] 26) := ⟨_, rfl⟩
  rw [← hW3] at S3 F4 R5 X3
  have HW3 := Lib.hid hW3
  have Z3 := Lib.hid (show W3.heap.size = w1.heap.size + 1 by rw [hW3]; simp)
  have ZR := Lib.hid (show w.heap.size < w1.heap.size from R2.out.c.1)
  clear hy0 hy1 hn s1 g1 hA3 S1 FA R1 R2 F1 hW3
  go_wp2_with fail
  rw [← HW3.out]
  refine (one_any b (K + 2) 3 _ S3.out (by omega)).mono ?_
  rintro e w2 ⟨D, rfl, s2, g2⟩
  go_wp2_with fail
  refine (pick_any b (K + 2 + 2) 3 _ s2 (by omega)).mono ?_
  rintro e w3 ⟨y, rfl, hy0, hy1, s3, g3⟩
  obtain ⟨y, rfl⟩ := Int.eq_ofNat_of_zero_le hy0
  obtain ⟨N, hN⟩ : ∃ N, N = y + 1 := ⟨_, rfl⟩
  have hN1 : 1 ≤ N := by omega
  have hN2 : N ≤ 3 := by omega
  have r2 : IntKind.i64.wrap (1 + (y : Int)) = (N : Int) := by rw [IntWalk.i64_in _ (by omega)]; omega
  have G3 := Lib.hid (g2.trans g3)
  have X4 := Lib.hid (X3.out.fs G3.out (by have := HB1.out; omega))
  have FW3 := Lib.hid F4.out
  have Z4 := Lib.hid (show w1.heap.size + 1 ≤ w3.heap.size by have := G3.out.size; have := Z3.out; omega)
  have S4 := Lib.hid s3
  clear hy0 hy1 hN s2 s3 g2 g3 S3 X3 F4
  go_wp2
  go_loopw [7, 8, 9, 10, 11] (fun l _ _ _ _ wr => ∃ (q t : Nat) (v : Value) (ms : List (Int × List Int)), l = .int .i64 q ∧ ms.length + q = N ∧ Hid (∀ m ∈ ms, 1 ≤ m.1 ∧ (m.2.length : Int) = n ∧ ∀ x ∈ m.2, 0 ≤ x ∧ x < (n : Int)) ∧ Hid ((ms.map (·.1)).sum = t) ∧ t ≤ 3 * ms.length ∧ ms.length ≤ t ∧ Box3 wr w1.heap.size n t v ∧ OwnM wr (w1.heap.size + 1) v ms ∧ SrcB wr b (K + 2 + 2 + 2 + 20 * ms.length) ∧ Fs (fun k => k = b ∨ k = w1.heap.size) W3 wr) (fun l _ _ _ _ _ => (intOf l).toNat)
  case atStart => exact ⟨N, 0, _, [], rfl, by simp, Lib.hid (by simp), Lib.hid rfl, Nat.zero_le _, Nat.zero_le _, X4.out, OwnM.nil _ _, S4.out, G3.out.mono (fun k h => .inl h)⟩
  case round =>
    obtain ⟨q, t, v, ms, rfl, hql, hrows, hsum, ht, ht2, hbox, hown, hsrc, hf⟩ := hrel
    have hzr : w1.heap.size + 1 ≤ wr.heap.size := (by have := hf.size; have := Z3.out; omega)
    have hbwr : b < wr.heap.size := hsrc.lt
    have hbne : ¬ w1.heap.size = b := by have := HB1.out; omega
    have hb1 := HB1.out
    have HBX := Lib.hid hbox
    have HO := Lib.hid hown
    have HF := Lib.hid hf
    by_cases hq0 : 0 < q
    · have i0 : (0 : Int) < (q : Int) := by omega
      have own0 := Lib.hid (OwnI.empty wr (base := wr.heap.size) (Nat.le_refl _))
      have bA := (Below.refl wr.heap.size wr).alloc (Nat.le_refl _) (.cells #[] 2)
      have s0 := Lib.hid (hsrc.below bA)
      have f0 := Lib.hid (Fs.of_below (S := fun k => k = b) bA)
      clear hbox hown hsrc hf bA
      obtain ⟨wo, rfl⟩ : ∃ wo : World, wo = wr := ⟨_, rfl⟩
      go_wp2
      go_loopw [8, 9, 10] (fun tv x _ w4 => ∃ (j : Nat) (r : List Int), j ≤ n ∧ x = .int .i64 j ∧ r.length = j ∧ Hid (∀ x ∈ r, 0 ≤ x ∧ x < (n : Int)) ∧ OwnI w4 wo.heap.size tv r ∧ SrcB w4 b (K + 2 + 2 + 2 + 20 * ms.length + 2 * j) ∧ Fs (fun k => k = b) wo w4) (fun _ x _ _ => n - (intOf x).toNat)
      case atStart => exact ⟨0, [], Nat.zero_le _, rfl, rfl, Lib.hid (by simp), own0.out, s0.out, f0.out⟩
      case round =>
        clear own0 s0 f0
        obtain ⟨j, r, hj, rfl, hrl, hrin, ho, hsr, hfr⟩ := hrel
        have hz4 : wo.heap.size ≤ wr.heap.size := hfr.size
        have HRL := Lib.hid hrl
        have HX4 := Lib.hid (HBX.out.fs hfr hbne)
        have c0 := HX4.out.c.get 0 _ rfl
        by_cases hjn : j < n
        · have i1 : (j : Int) < (n : Int) := by omega
          have HOR := Lib.hid ho
          have HFR := Lib.hid hfr
          clear ho hfr hrl
          go_wp2_with fail
          refine (pick_any b _ n _ hsr (by omega)).mono ?_
          rintro e w5 ⟨d, rfl, hd0, hd1, s5, f5⟩
          have hdn : d < n := by omega
          have O5 := Lib.hid (HOR.out.fs f5 (fun k hk => by omega))
          have F5 := Lib.hid (HFR.out.trans f5)
          have S5 := Lib.hid s5
          have hz5 : wo.heap.size ≤ w5.heap.size := F5.out.size
          have hln : r.length < 16777216 := by have := HRL.out; omega
          have r3 : IntKind.i64.wrap ((j : Int) + 1) = ((j + 1 : Nat) : Int) := by rw [IntWalk.i64_in _ (by omega)]; simp
          clear c0 hd1 s5 f5 hsr HX4 HOR HFR
          have key : ∀ z : Int, 0 ≤ z → z < n → ∀ (v' : Value) (w' : World), OwnI w' wo.heap.size v' (r ++ [z]) → Below wo.heap.size (w5.alloc (.cells #[.int .i64 z] 2)) w' → ((r ++ [z]).length = j + 1) ∧ Hid (∀ x ∈ r ++ [z], 0 ≤ x ∧ x < (n : Int)) ∧ SrcB w' b (K + 2 + 2 + 2 + 20 * ms.length + 2 * (j + 1)) ∧ Fs (fun k => k = b) wo w' := by
            intro z hz0 hz1 v' w' o6 b6
            have hb6 : Below wo.heap.size w5 w' := ((Below.refl wo.heap.size w5).alloc hz5 _).trans b6
            refine ⟨by simp [HRL.out], fun x hx => ?_, (S5.out.fs (Fs.of_belowB hb6) (fun k hk => by omega)).more (by omega), ?_⟩
            · simp only [List.mem_append, List.mem_singleton] at hx
              rcases hx with hx | rfl
              · exact hrin.out x hx
              · exact ⟨hz0, hz1⟩
            · exact ⟨hb6.os.trans F5.out.os, hb6.tape.trans F5.out.tape, hb6.output.trans F5.out.output, Nat.le_trans F5.out.size hb6.size, fun k hk hx => (hb6.block k hk).trans (F5.out.block k hk hx)⟩
          have KEY := Lib.hid key
          clear key
          by_cases hD : D = true ∧ 0 < j
          · obtain ⟨rfl, hj0⟩ := hD
            have i2 : (0 : Int) < (j : Int) := by omega
            have r4 : IntKind.i64.wrap ((j : Int) - 1) = ((j - 1 : Nat) : Int) := by rw [IntWalk.i64_in _ (by omega)]; omega
            have hjr : j - 1 < r.length := by have := HRL.out; omega
            obtain ⟨ra, rc, rfl, _, _, rd⟩ := id O5.out.sl
            obtain ⟨rb, ro, rfl, gl⟩ := rd.one (i64s_get hjr)
            have hp := hrin.out _ (List.getElem_mem hjr)
            generalize r[j - 1] = pv at gl hp
            have i3 : ((j - 1 : Nat) : Int) < (r.length : Int) := by omega
            have i4 : (0 : Int) ≤ ((j - 1 : Nat) : Int) := by omega
            clear rd
            go_wp2_with fail
            refine (l00Max_any d pv _).mono ?_
            rintro e w6 ⟨z, rfl, hz, rfl⟩
            have hz0 : 0 ≤ z := by rcases hz with rfl | rfl <;> omega
            have hz1 : z < n := by rcases hz with rfl | rfl <;> omega
            have ho5 := O5.out
            clear hz hp gl
            go_wp2_with (at_builtin; refine append_i64 _ z _ _ rfl rfl rfl ho5 rfl hln hz5 ?_)
            intro v6 w6 o6 b6 z6
            have hk := KEY.out z hz0 hz1 v6 w6 o6 b6
            have HK := Lib.hid hk
            clear hk b6 ho5
            go_wp2
            go_roundw
            case rel => exact ⟨j + 1, r ++ [z], by omega, by go_num, HK.out.1, HK.out.2.1, o6, HK.out.2.2.1, HK.out.2.2.2⟩
            case measure => simp [intOf]; omega
          · have ho5 := O5.out
            have hDj : D = false ∨ (D = true ∧ j = 0) := by
              cases D
              · exact .inl rfl
              · exact .inr ⟨rfl, by simp at hD; omega⟩
            clear hD
            rcases hDj with rfl | ⟨rfl, rfl⟩
            · skip
              go_wp2_with (at_builtin; refine append_i64 _ d _ _ rfl rfl rfl ho5 rfl hln hz5 ?_)
              intro v6 w6 o6 b6 z6
              have HK := Lib.hid (KEY.out d hd0 hdn v6 w6 o6 b6)
              clear b6 ho5
              go_wp2
              go_roundw
              case rel => exact ⟨j + 1, r ++ [d], by omega, by go_num, HK.out.1, HK.out.2.1, o6, HK.out.2.2.1, HK.out.2.2.2⟩
              case measure => simp [intOf]; omega
            · skip
              go_wp2_with (at_builtin; refine append_i64 _ d _ _ rfl rfl rfl ho5 rfl hln hz5 ?_)
              intro v6 w6 o6 b6 z6
              have HK := Lib.hid (KEY.out d hd0 hdn v6 w6 o6 b6)
              clear b6 ho5
              go_wp2
              go_roundw
              case rel => exact ⟨0 + 1, r ++ [d], by omega, by go_num, HK.out.1, HK.out.2.1, o6, HK.out.2.2.1, HK.out.2.2.2⟩
              case measure => simp [intOf]; omega
        · obtain rfl : j = n := by omega
          have S4' := Lib.hid hsr
          have O4 := Lib.hid ho
          have F4 := Lib.hid hfr
          have HM4 := Lib.hid (HO.out.fs (S := fun k => k = b) hfr (fun k hk => by omega))
          clear hsr ho hfr hrl
          go_wp2_with fail
          refine (pick_any b _ 3 _ S4'.out (by omega)).mono ?_
          rintro e w5 ⟨y3, rfl, hy0, hy1, s5, f5⟩
          obtain ⟨y3, rfl⟩ := Int.eq_ofNat_of_zero_le hy0
          obtain ⟨wv, hwv⟩ : ∃ wv, wv = y3 + 1 := ⟨_, rfl⟩
          have hw1 : 1 ≤ wv := by omega
          have hw2 : wv ≤ 3 := by omega
          have r3 : IntKind.i64.wrap (1 + (y3 : Int)) = (wv : Int) := by rw [IntWalk.i64_in _ (by omega)]; omega
          have r4 : IntKind.i64.wrap ((t : Int) + (wv : Int)) = (t : Int) + (wv : Int) := IntWalk.i64_in _ (by omega)
          have r5 : IntKind.i64.wrap ((q : Int) - 1) = ((q - 1 : Nat) : Int) := by rw [IntWalk.i64_in _ (by omega)]; omega
          have x5 := HX4.out.fs f5 hbne
          have d1 := x5.c.get 1 _ rfl
          have x6 := x5.set1 ((t : Int) + (wv : Int))
          have d2 := x5.c.get 2 _ rfl
          have fz1 := x5.f 1
          have hz5 : w1.heap.size + 1 ≤ w5.heap.size := Nat.le_trans hzr (Nat.le_trans F4.out.size f5.size)
          have M6 := Lib.hid ((HM4.out.fs f5 (fun k hk => by omega)).set (a := ⟨w1.heap.size, 1, none⟩) (by simp) (.int .i64 ((t : Int) + (wv : Int))))
          have O6 := Lib.hid (((O4.out.fs f5 (fun k hk => by omega)).fs (Fs.set1 w5 w1.heap.size 1 (.int .i64 ((t : Int) + (wv : Int)))) (fun k hk => by omega)).lower hzr)
          have F6 := Lib.hid (F4.out.trans f5)
          have S6 := Lib.hid (s5.fs (Fs.set1 w5 w1.heap.size 1 (.int .i64 ((t : Int) + (wv : Int)))) (fun k hk => by omega))
          have X6 := Lib.hid x6
          have hmsl : ms.length < 16777216 := by omega
          obtain ⟨tva, tvn, tvc, rfl, _⟩ := O6.out.formJ
          have hz7 : (w5.setCell ⟨w1.heap.size, 1, none⟩ (.int .i64 ((t : Int) + (wv : Int)))).heap.size = w5.heap.size := by simp
          have m6 := M6.out
          have o6 := O6.out
          have hz6 : w1.heap.size + 1 ≤ (w5.setCell ⟨w1.heap.size, 1, none⟩ (.int .i64 ((t : Int) + (wv : Int)))).heap.size := by simpa using hz5
          clear hy0 hy1 hwv s5 f5 x5 x6 c0
          go_wp2_with (at_builtin; refine append_map _ _ _ rfl rfl rfl m6 o6 hz7 rfl hmsl hz6 ?_)
          intro v7 w7 o7 b7 z7
          have hb7 : Below (w1.heap.size + 1) (w5.setCell ⟨w1.heap.size, 1, none⟩ (.int .i64 ((t : Int) + (wv : Int)))) w7 := ((Below.refl _ _).alloc hz6 _).trans b7
          have x7 := X6.out.fs (Fs.of_belowB hb7) (by omega)
          have S7 := Lib.hid (S6.out.fs (Fs.of_belowB hb7) (fun k hk => by omega))
          have F7 := Lib.hid (((HF.out.then F6.out (R := fun k => k = b ∨ k = w1.heap.size) (fun k _ h => h) (fun k _ h => .inl h)).then (Fs.set1 w5 w1.heap.size 1 (.int .i64 ((t : Int) + (wv : Int)))) (R := fun k => k = b ∨ k = w1.heap.size) (fun k _ h => h) (fun k _ h => .inr h)).then (Fs.of_belowB hb7) (R := fun k => k = b ∨ k = w1.heap.size) (fun k _ h => h) (fun k hk h => by have := Z3.out; omega))
          have e2 := x7.c.get 2 _ rfl
          have fz2 := x7.f 2
          obtain ⟨oa7, on7, oc7, rfl, _⟩ := o7.formJ
          have X7 := Lib.hid x7
          have O7 := Lib.hid o7
          have ROW := Lib.hid (show ∀ m ∈ ms ++ [((wv : Int), r)], 1 ≤ m.1 ∧ (m.2.length : Int) = j ∧ ∀ x ∈ m.2, 0 ≤ x ∧ x < (j : Int) from fun m hm => by
            simp only [List.mem_append, List.mem_singleton] at hm
            rcases hm with hm | rfl
            · exact hrows.out m hm
            · exact ⟨by show (1 : Int) ≤ wv; omega, by have := HRL.out; show (r.length : Int) = j; omega, hrin.out⟩)
          have SUM := Lib.hid (show ((ms ++ [((wv : Int), r)]).map (·.1)).sum = ((t + wv : Nat) : Int) by rw [List.map_append, List.sum_append, hsum.out]; simp)
          have hpc : (t : Int) + (wv : Int) = ((t + wv : Nat) : Int) := by omega
          clear hb7 x7 o7 b7 m6 o6 M6 O6 X6 d1 d2 HM4 O4 hrows hsum
          rw [hpc] at X7
          go_wp2
          go_roundw
          case rel => exact ⟨q - 1, t + wv, _, ms ++ [((wv : Int), r)], by go_num, by simp; omega, ROW, SUM, by simp; omega, by simp; omega, X7.out.set _, O7.out.set (by simp) _, (S7.out.fs (Fs.set1 _ _ _ _) (fun k hk => by omega)).more (by simp; omega), F7.out.set (a := ⟨w1.heap.size, 2, none⟩) (.inr rfl) _⟩
          case measure => simp [intOf]; omega
    · obtain rfl : q = 0 := by omega
      have R6 := R5.out.fs hf (by have := ZR.out; have := Z1.out; omega)
      have c0 := hbox.c.get 0 _ rfl
      have c1 := hbox.c.get 1 _ rfl
      have c2 := hbox.c.get 2 _ rfl
      have q0 := R6.c.get 0 _ rfl
      have q1 := R6.c.get 1 _ rfl
      have q2 := R6.c.get 2 _ rfl
      have f0 := R6.f 0
      have f1 := R6.f 1
      have f2 := R6.f 2
      have zz := R6.c.1
      have HOK := Lib.hid (show mapsOk n t ms from ⟨by omega, by omega, by omega, hrows.out, hsum.out⟩)
      obtain ⟨va, vn, vc, rfl, _⟩ := hown.formJ
      have HS := Lib.hid hsrc
      have HFW := Lib.hid ((FW3.out.then hf (R := fun k => k = b ∨ k = w1.heap.size) (fun k _ h => .inl h) (fun k _ h => h)).cut (T := fun k => k = b) (fun k hk h => by have := ZR.out; omega))
      clear hbox R6 hown hsrc hf hrows hsum
      go_wp2
      refine bodyPost_ret (v := .agg #[.int .i64 n, .int .i64 t, .slice va vn vc]) (by simp [results, Try.results37, go_sem, c0, c1, c2, q0, q1, q2, zz]) rfl ⟨n, t, _, ms, rfl, hn2, HOK.out, by omega, ?_, ?_, ?_⟩
      · exact (((HO.out.set (by have := ZR.out; simp; omega) _).set (by have := ZR.out; simp; omega) _).set (by have := ZR.out; simp; omega) _).lower (by have := ZR.out; omega)
      · exact (HS.out.fs (Fs.set3 _ _ _ _ _) (fun k hk => by omega)).more (by omega)
      · have hs3 := Fs.set3 wr w.heap.size (.int .i64 n) (.int .i64 t) (.slice va vn vc)
        exact (HFW.out.then hs3 (R := fun k => k = b ∨ k = w.heap.size) (fun k _ h => .inl h) (fun k _ h => .inr h)).cut (fun k hk h => by omega)
end Go.Proofs.Ytceobhmbnkheiaa
namespace Go.Proofs.Ytceobhmbnkheiaa
open Go.RowKit Go.Sort
def MpAt (w : World) (b : Nat) (s t : Int) (v : Value) : Prop :=
  b < w.heap.size ∧ w.cell? ⟨b, 0, none⟩ = some (.int .i64 s) ∧ w.cell? ⟨b, 1, none⟩ = some (.int .i64 t) ∧ w.cell? ⟨b, 2, none⟩ = some v
theorem MpAt.below {w w' : World} {b : Nat} {s t : Int} {v : Value} (h : MpAt w b s t v) (hb : Below w.heap.size w w') : MpAt w' b s t v :=
  ⟨Nat.lt_of_lt_of_le h.1 hb.size, by rw [hb.cell (p := ⟨b, 0, none⟩) h.1]; exact h.2.1, by rw [hb.cell (p := ⟨b, 1, none⟩) h.1]; exact h.2.2.1, by rw [hb.cell (p := ⟨b, 2, none⟩) h.1]; exact h.2.2.2⟩
theorem inR_ok {x a b : Int} (h : a ≤ x ∧ x ≤ b) : inR x a b = true := inR_iff.2 h

theorem MpAt.new (w : World) (s t : Int) (v : Value) : MpAt (w.alloc (.cells #[.int .i64 s, .int .i64 t, v] 26)) w.heap.size s t v := by
  obtain ⟨c, _⟩ := Box3.newM w s t v
  exact ⟨c.1, c.get 0 _ rfl, c.get 1 _ rfl, c.get 2 _ rfl⟩
def mpObj (s t : Int) (v : Value) : Obj := .cells #[.int .i64 s, .int .i64 t, v] 26
theorem mpBelow (w : World) (s t : Int) (v : Value) : Below w.heap.size w (w.alloc (.cells #[.int .i64 s, .int .i64 t, v] 26)) := (Below.refl _ _).alloc (Nat.le_refl _) _

set_option maxRecDepth 100000 in
set_option maxHeartbeats 400000 in
theorem P6Maps_any {xs : List Int} (ad : Option Addr) (n c mo : Nat) (w : World) (hn : n ≤ 4096) (hx : xs.length = n) (hr : Rd w ad (xs.map (.int .u8))) (hb : ∀ x ∈ xs, 0 ≤ x ∧ x < 256) (hm : 1 ≤ mo) (hm2 : mo ≤ 6) :
    Calls Try.prog 7 #[.slice ad n c, .int .i64 mo] w fun e w' => ∃ (m t : Nat) (v : Value) (ms : List (Int × List Int)), e = .returned (.agg #[.int .i64 m, .int .i64 t, v]) ∧ m ≤ mo ∧ mapsOk m t ms ∧ ms.length ≤ 3 ∧ OwnM w' w.heap.size v ms ∧ Below w.heap.size w w' := by
  have hA : Below w.heap.size w (w.alloc (.cells #[.int .i64 0, .int .i64 0, .slice none 0 0] 26)) := (Below.refl _ _).alloc (Nat.le_refl _) _
  have HR := Lib.hid (hr.below hA)
  have R1 := Lib.hid (Box3.newM w 0 0 (.slice none 0 0))
  have HB := Lib.hid hb
  have HX := Lib.hid hx
  have HA := Lib.hid hA
  obtain ⟨W1, hW1⟩ : ∃ W1, W1 = w.alloc (.cells #[.int .i64 0, .int .i64 0, .slice none 0 0] 26) := ⟨_, rfl⟩
  rw [← hW1] at HR R1 HA
  have HW1 := Lib.hid hW1
  have Z1 := Lib.hid (show W1.heap.size = w.heap.size + 1 by rw [hW1]; simp)
  clear hr hb hx hA hW1
  go_enter Try.func7, Try.ntmps7
  go_wp2_with fail
  rw [← HW1.out]
  refine (l00From_any ad n c _ hn HX.out HR.out HB.out).mono ?_
  rintro e w1 ⟨rfl, s1, b1⟩
  have hz1 := s1.lt
  go_wp2_with fail
  refine (l05Draw_any W1.heap.size 0 mo _ s1 (by omega) hm hm2).mono ?_
  rintro e w2 ⟨m, t, v, ms, rfl, hmm, hok, hl3, o2, _, f2⟩
  have zw := Z1.out
  have b2 := b1.trans (f2.below (B := W1.heap.size) b1.size (fun k hk => by omega))
  have R2 := R1.out.fs (S := fun _ => False) (Fs.of_below b2) (fun h => h)
  have q0 := R2.c.get 0 _ rfl
  have q1 := R2.c.get 1 _ rfl
  have q2 := R2.c.get 2 _ rfl
  have p0 := R2.f 0
  have p1 := R2.f 1
  have p2 := R2.f 2
  have zz := R2.c.1
  obtain ⟨va, vn, vc, rfl, _⟩ := o2.formJ
  have O2 := Lib.hid (o2.lower (base' := w.heap.size + 1) (by omega))
  have B2 := Lib.hid (HA.out.trans (b2.mono HA.out.size))
  clear R2 o2 f2 b1 b2 s1
  go_wp2
  refine bodyPost_ret (v := .agg #[.int .i64 m, .int .i64 t, .slice va vn vc]) (by simp [results, Try.results7, go_sem, q0, q1, q2, zz]) rfl ⟨m, t, _, ms, rfl, hmm, hok, hl3, ?_, ?_⟩
  · exact (((O2.out.set (by simp) _).set (by simp) _).set (by simp) _).lower (by omega)
  · exact ((B2.out.setCell (Nat.le_refl _) _).setCell (Nat.le_refl _) _).setCell (Nat.le_refl _) _

set_option maxRecDepth 100000 in
set_option maxHeartbeats 4000000 in
theorem ValidMaps_ok {v : Value} {ms : List (Int × List Int)} {s t : Int} (w : World) (ha : SlM w v ms) (hv : mapsOk s t ms) :
    Calls Try.prog 26 #[.agg #[.int .i64 s, .int .i64 t, v]] w fun e w' => e = .returned (.bool true) ∧ Below w.heap.size w w' := by
  have HA := Lib.hid (fun W (h : Below w.heap.size w W) => ha.below h)
  obtain ⟨a, ca, rfl, hca, hca'⟩ := ha.form
  obtain ⟨⟨hs1, hs2⟩, ⟨ht1, ht2⟩, ⟨hl1, hl2⟩, hrow, hsum⟩ := id hv
  have BX := Lib.hid (mpBelow w s t (.slice a ms.length ca))
  have X := Lib.hid (MpAt.new w s t (.slice a ms.length ca))
  obtain ⟨W1, hW1⟩ : ∃ W1, W1 = w.alloc (.cells #[.int .i64 s, .int .i64 t, .slice a ms.length ca] 26) := ⟨_, rfl⟩
  rw [← hW1] at BX X
  have HW1 := Lib.hid hW1
  have E1 := Lib.hid (inR_ok (x := s) (a := 1) (b := 6) (by omega))
  have E2 := Lib.hid (inR_ok (x := t) (a := 1) (b := 60) (by omega))
  have E3 := Lib.hid (inR_ok (x := (ms.length : Int)) (a := 1) (b := 60) (by omega))
  have HV := Lib.hid hv
  have HROW := Lib.hid hrow
  have HSUM := Lib.hid (show sumW ms ms.length = t by rw [sumW_all]; exact hsum)
  obtain ⟨x0, x1, x2, x3⟩ := X.out
  clear hv hrow hsum ha hW1
  go_enter Try.func26, Try.ntmps26
  go_wp2_with fail
  rw [← HW1.out]
  go_wp2_with (go_at_call 39; refine (inRange_any _ _ _ _).mono ?_; rintro e w' ⟨rfl, rfl⟩; first | rw [E1.out] | rw [E2.out] | rw [E3.out])
  clear x0 x1 x2 x3
  go_loopw [3, 28] (fun sm i wr => ∃ (k : Nat) (S : Int), k ≤ ms.length ∧ i = .int .i64 k ∧ sm = .int .i64 S ∧ Hid (S = sumW ms k) ∧ Below W1.heap.size W1 wr) (fun _ i _ => ms.length - (intOf i).toNat)
  case atStart => exact ⟨0, 0, Nat.zero_le _, rfl, rfl, Lib.hid rfl, Below.refl _ _⟩
  case round =>
    obtain ⟨k, S, hk, rfl, rfl, hS, hbw⟩ := hrel
    have HBW := Lib.hid hbw
    obtain ⟨x0, x1, x2, x3⟩ := X.out.below hbw
    clear hbw
    by_cases hlt : k < ms.length
    · obtain ⟨b, off, ra, rc, rfl, hb, d0, d1, sr⟩ := (HA.out _ (BX.out.trans (HBW.out.mono BX.out.size))).at_ hlt
      obtain ⟨hm1, hm2, hm3⟩ := HROW.out _ (List.getElem_mem hlt)
      have hwt := HV.out.wt hlt
      have hss := sumW_succ hlt
      have hsb := HV.out.sums (k := k) hk
      rw [← hS.out] at hss hsb
      generalize ms[k] = m at d0 d1 sr hm1 hm2 hm3 hwt hss
      obtain ⟨mw, mr⟩ := m
      simp only at d0 d1 sr hm1 hm2 hm3 hwt hss
      have HSS := Lib.hid hss
      have HM3 := Lib.hid hm3
      have E4 := Lib.hid (inR_ok (x := mw) (a := 1) (b := 60) (by omega))
      have t1 : ((mr.length : Int) != s) = false := by simp [hm2]
      have i1 : (k : Int) < (ms.length : Int) := by omega
      have hmr : mr.length ≤ 6 := by omega
      have r1 : IntKind.i64.wrap (S + mw) = S + mw := IntWalk.i64_in _ (by omega)
      have BA := Lib.hid (show Below wr.heap.size wr (wr.alloc (.cells #[.int .i64 mw, .slice ra mr.length rc] 43)) from (Below.refl _ _).alloc (Nat.le_refl _) _)
      have SR := Lib.hid (sr.below BA.out)
      have CB := Lib.hid (CellsAt.new wr [.int .i64 mw, .slice ra mr.length rc] 43)
      have XB := Lib.hid ((X.out.below HBW.out).below BA.out)
      obtain ⟨W2, hW2⟩ : ∃ W2, W2 = wr.alloc (.cells #[.int .i64 mw, .slice ra mr.length rc] 43) := ⟨_, rfl⟩
      have HW2 := Lib.hid hW2
      clear hss hm3 sr hwt
      have b0 := CB.out.get 0 _ rfl
      have b1 := CB.out.get 1 _ rfl
      obtain ⟨wo, rfl⟩ : ∃ wo : World, wo = wr := ⟨_, rfl⟩
      rw [← hW2] at b0 b1 BA SR XB CB
      have hz2 : W2.heap.size = wo.heap.size + 1 := by rw [hW2]; simp
      obtain ⟨y0, y1, y2, y3⟩ := XB.out
      clear hW2
      go_wp2_with fail
      rw [← HW2.out]
      go_wp2_with (go_at_call 39; refine (inRange_any _ _ _ _).mono ?_; rintro e w' ⟨rfl, rfl⟩; rw [E4.out])
      go_loopw [47] (fun i w4 => ∃ (j : Nat), j ≤ mr.length ∧ i = .int .i64 j ∧ w4 = W2) (fun i _ => mr.length - (intOf i).toNat)
      case atStart => exact ⟨0, Nat.zero_le _, rfl, rfl⟩
      case round =>
        obtain ⟨j, hj, rfl, rfl⟩ := hrel
        by_cases hjt : j < mr.length
        · obtain ⟨_, _, he, _, _, rd⟩ := SR.out
          simp only [Value.slice.injEq] at he
          obtain ⟨rfl, _, rfl⟩ := he
          obtain ⟨rb, ro, rfl, gl⟩ := rd.one (i64s_get hjt)
          have hx := HM3.out _ (List.getElem_mem hjt)
          generalize mr[j] = x at gl hx
          have E5 := Lib.hid (inR_ok (x := x) (a := 0) (b := s - 1) (by omega))
          have i2 : (j : Int) < (mr.length : Int) := by omega
          clear rd hx
          go_wp2_with (go_at_call 39; refine (inRange_any _ _ _ _).mono ?_; rintro e w' ⟨rfl, rfl⟩; rw [E5.out])
          go_roundw
          case rel => exact ⟨j + 1, by omega, by go_num, trivial⟩
          case measure => simp [intOf]; omega
        · have hs9 : Below W1.heap.size W1 wr := HBW.out.trans (BA.out.mono HBW.out.size)
          go_wp2
          go_roundw
          case rel => exact ⟨k + 1, S + mw, by omega, by go_num, rfl, Lib.hid HSS.out.symm, hs9⟩
          case measure => simp [intOf]; omega
    · obtain rfl : k = ms.length := by omega
      have hst : (S == t) = true := by rw [hS.out, HSUM.out]; simp
      go_wp2
      go_ret
      exact ⟨rfl, BX.out.trans (HBW.out.mono BX.out.size)⟩
def PicksB (n : Nat) (ps : List Int) : Prop := ∀ p ∈ ps, 0 ≤ p ∧ p < (n : Int)

theorem hasIdx_any (x n : Int) (w : World) (h0 : 0 ≤ n) (h1 : n ≤ 1000000000) :
    Calls Try.prog 80 #[.int .i64 x, .int .i64 n] w fun e w' => e = .returned (.bool (inR x 0 (n - 1))) ∧ w = w' := by
  go_enter Try.func80, Try.ntmps80
  go_wp2_with (go_at_call 39; refine (inRange_any _ _ _ _).mono ?_; rintro e w' ⟨rfl, rfl⟩)
  go_ret
  exact ⟨rfl, rfl⟩
theorem pickClo_any (b : Nat) {s t : Int} {v : Value} {ms : List (Int × List Int)} (x : Int) (w : World) (hb : MpAt w b s t v) (ha : SlM w v ms) (hl : ms.length ≤ 60) (hx : 0 ≤ x ∧ x < ms.length) :
    Calls Try.prog 79 #[.int .i64 x, .pointer (some ⟨b, 0, none⟩)] w fun e w' => e = .returned (.bool false) ∧ Below w.heap.size w w' := by
  obtain ⟨a, ca, rfl, _, _⟩ := ha.form
  obtain ⟨x0, x1, x2, x3⟩ := hb
  have E1 := Lib.hid (inR_ok (x := x) (a := 0) (b := (ms.length : Int) - 1) (by omega))
  go_enter Try.func79, Try.ntmps79
  go_wp2_with fail
  refine (hasIdx_any x ms.length _ (by omega) (by omega)).mono ?_
  rintro e w' ⟨rfl, rfl⟩
  rw [E1.out]
  go_wp2
  go_ret
  exact ⟨rfl, Below.refl _ _⟩
set_option maxHeartbeats 400000 in
theorem picksCode_ok {v pv : Value} {ms : List (Int × List Int)} {ps : List Int} {s t : Int} (w : World) (ha : SlM w v ms) (hp : SlI w pv ps) (hv : mapsOk s t ms) (hpb : PicksB ms.length ps) (hl : ps.length ≤ 200) :
    Calls Try.prog 47 #[.agg #[.int .i64 s, .int .i64 t, v], pv] w fun e w' => e = .returned (.int .i64 0) ∧ Below w.heap.size w w' := by
  have HA := Lib.hid (fun W (h : Below w.heap.size w W) => ha.below h)
  have HP := Lib.hid (fun W (h : Below w.heap.size w W) => hp.below h)
  obtain ⟨a, ca, rfl, _, _⟩ := ha.form
  obtain ⟨pa, pc, rfl, _, _, _⟩ := id hp
  have BX := Lib.hid (mpBelow w s t (.slice a ms.length ca))
  have X := Lib.hid (MpAt.new w s t (.slice a ms.length ca))
  have hmf : ∀ (fn : Fn) (first cap : Array Value) (w : World), (Instr.makeFunc fn first cap).run Try.prog w = .ok (.func fn first cap) w := fun _ _ _ _ => rfl
  obtain ⟨_, _, ⟨_, hl2⟩, _⟩ := id hv
  have HV := Lib.hid hv
  have HPB := Lib.hid hpb
  clear hv hpb ha hp
  go_enter Try.func47, Try.ntmps47
  go_wp2_with fail
  refine (ValidMaps_ok _ (HA.out _ BX.out) HV.out).mono ?_
  rintro e w1 ⟨rfl, b1⟩
  have X1 := Lib.hid (X.out.below b1)
  have B1 := Lib.hid (BX.out.trans (b1.mono BX.out.size))
  obtain ⟨x0, x1, x2, x3⟩ := X1.out
  clear b1
  go_wp2_with fail
  refine (ContainsFuncPick_any _ (fun _ => false) _ (HP.out _ B1.out) (fun W x hW hx => pickClo_any w.heap.size x W (X1.out.below hW) (HA.out _ (B1.out.trans (hW.mono B1.out.size))) hl2 (HPB.out x hx))).mono ?_
  rintro e w2 ⟨rfl, b2⟩
  have hf : (ps.any fun _ => false) = false := by simp
  rw [hf]
  have b3 := B1.out.trans (b2.mono B1.out.size)
  go_wp2
  go_ret
  exact ⟨rfl, b3⟩
def byP (ms : List (Int × List Int)) (p : Int) (st : List Int) (j : Nat) : List Int := (st.take j).map (goM ms p)
theorem byP_len (ms : List (Int × List Int)) (p : Int) (st : List Int) (j : Nat) : (byP ms p st j).length ≤ st.length := by simp [byP]; omega
theorem byP_all (ms : List (Int × List Int)) (p : Int) (st : List Int) : byP ms p st st.length = byM ms st p := by unfold byP byM; rw [List.take_length]
theorem byM_take {ms : List (Int × List Int)} {st : List Int} {p : Int} {j : Nat} (h : j < st.length) : byP ms p st (j + 1) = byP ms p st j ++ [goM ms p st[j]] := by
  unfold byP
  rw [List.take_succ_eq_append_getElem h, List.map_append]; rfl

set_option maxHeartbeats 1000000 in
theorem goBy_any {v u : Value} {ms : List (Int × List Int)} {st : List Int} {s t : Int} (p : Nat) (w : World) (ha : SlM w v ms) (hu : SlI w u st) (hv : mapsOk s t ms) (hp : p < ms.length) (hst : ∀ x ∈ st, 0 ≤ x ∧ x < s) (hl : st.length ≤ 100) :
    Calls Try.prog 95 #[.agg #[.int .i64 s, .int .i64 t, v], u, .int .i64 p] w fun e w' => ∃ r, e = .returned r ∧ OwnI w' w.heap.size r (byM ms st p) ∧ Below w.heap.size w w' := by
  have HA := Lib.hid (fun W (h : Below w.heap.size w W) => ha.below h)
  have HU := Lib.hid (fun W (h : Below w.heap.size w W) => hu.below h)
  obtain ⟨a, ca, rfl, _, _⟩ := ha.form
  obtain ⟨ua, uc, rfl, _, _, _⟩ := id hu
  have BX := Lib.hid (mpBelow w s t (.slice a ms.length ca))
  have X := Lib.hid (MpAt.new w s t (.slice a ms.length ca))
  obtain ⟨_, _, ⟨_, hl2⟩, hrow, _⟩ := id hv
  have HV := Lib.hid hv
  have HST := Lib.hid hst
  have HROW := Lib.hid hrow
  obtain ⟨W1, hW1⟩ : ∃ W1, W1 = w.alloc (.cells #[.int .i64 s, .int .i64 t, .slice a ms.length ca] 26) := ⟨_, rfl⟩
  rw [← hW1] at BX X
  have HW1 := Lib.hid hW1
  have Z1 := Lib.hid (show W1.heap.size = w.heap.size + 1 by rw [hW1]; simp)
  have own0 := Lib.hid (OwnI.empty W1 (base := W1.heap.size) (Nat.le_refl _))
  have b0 := Lib.hid ((Below.refl W1.heap.size W1).alloc (Nat.le_refl _) (.cells #[] 2))
  clear hv hst hrow ha hu hW1
  go_enter Try.func95, Try.ntmps95
  go_wp2_with fail
  rw [← HW1.out]
  go_loopw [7, 13] (fun o i wr => ∃ (j : Nat), j ≤ st.length ∧ i = .int .i64 j ∧ OwnI wr W1.heap.size o (byP ms p st j) ∧ Below W1.heap.size W1 wr) (fun _ i _ => st.length - (intOf i).toNat)
  case atStart => exact ⟨0, Nat.zero_le _, rfl, by have h0 := own0.out; rw [Z1.out] at h0 ⊢; exact h0, b0.out⟩
  case round =>
    clear own0 b0
    obtain ⟨j, hj, rfl, hown, hbw⟩ := hrel
    have HBW := Lib.hid hbw
    have HO := Lib.hid hown
    clear hown
    by_cases hjt : j < st.length
    · have bw2 := BX.out.trans (hbw.mono BX.out.size)
      obtain ⟨x0, x1, x2, x3⟩ := X.out.below hbw
      obtain ⟨b, off, ra, rc, rfl, hb, d0, d1, sr⟩ := (HA.out _ bw2).at_ hp
      obtain ⟨_, hm2, _⟩ := HROW.out _ (List.getElem_mem hp)
      obtain ⟨_, _, he, _, _, rd⟩ := HU.out _ bw2
      simp only [Value.slice.injEq] at he
      obtain ⟨rfl, _, rfl⟩ := he
      obtain ⟨rb, ro, rfl, gl⟩ := rd.one (i64s_get hjt)
      have hx := HST.out _ (List.getElem_mem hjt)
      have hbt := byM_take (ms := ms) (p := p) hjt
      generalize st[j] = x at gl hx hbt
      obtain ⟨x, rfl⟩ := Int.eq_ofNat_of_zero_le hx.1
      have hxl : x < ms[p].2.length := by omega
      have hg := goM_at hp hxl
      rw [hg] at hbt
      obtain ⟨_, _, he, _, _, rd2⟩ := sr
      simp only [Value.slice.injEq] at he
      obtain ⟨rfl, _, rfl⟩ := he
      obtain ⟨rb2, ro2, rfl, gl2⟩ := rd2.one (i64s_get hxl)
      generalize ms[p].2[x] = y at gl2 hbt hg
      clear hg rd2 rd
      generalize ms[p].2.length = ml at *
      have i1 : (j : Int) < (st.length : Int) := by omega
      have i2 : (p : Int) < (ms.length : Int) := by omega
      have i3 : (0 : Int) ≤ (p : Int) := by omega
      have i4 : (x : Int) < (ml : Int) := by omega
      have i5 : (0 : Int) ≤ (x : Int) := by omega
      have HBT := Lib.hid hbt
      have ho := HO.out
      have hz := HBW.out.size
      have hln : (byP ms p st j).length < 16777216 := by have := byP_len ms p st j; omega
      clear hbt bw2 hbw
      go_wp2_with (at_builtin; refine append_i64 _ y _ _ rfl rfl rfl ho rfl hln hz ?_)
      intro v5 w5 o5 b5 z5
      rw [← HBT.out] at o5
      have hb5 := (HBW.out.alloc hz (.cells #[.int .i64 y] 2)).trans b5
      clear ho b5
      go_wp2
      go_roundw
      case rel => exact ⟨j + 1, by omega, by go_num, o5, hb5⟩
      case measure => simp [intOf]; omega
    · obtain rfl : j = st.length := by omega
      have ho := HO.out
      rw [byP_all] at ho
      go_wp2
      go_ret
      exact ⟨_, rfl, ho.lower BX.out.size, BX.out.trans (HBW.out.mono BX.out.size)⟩
end Go.Proofs.Ytceobhmbnkheiaa
namespace Go.Proofs.Ytceobhmbnkheiaa
open Go.RowKit Go.Sort

set_option maxRecDepth 100000 in
set_option maxHeartbeats 8000000 in
theorem l05Draw_any9 (b K mo : Nat) (w : World) (hs : SrcB w b K) (hK : K ≤ 100000) (hm : 1 ≤ mo) (hm2 : mo ≤ 6) :
    Calls Try.prog 37 #[.pointer (some ⟨b, 0, none⟩), .int .i64 mo] w fun e w' => ∃ (n t : Nat) (v : Value) (ms : List (Int × List Int)), e = .returned (.agg #[.int .i64 n, .int .i64 t, v]) ∧ n ≤ mo ∧ mapsOk n t ms ∧ (ms.length ≤ 3 ∧ t ≤ 9) ∧ OwnM w' w.heap.size v ms ∧ SrcB w' b (K + 1000) ∧ Fs (fun k => k = b) w w' := by
  have hbw := hs.lt
  have hA : Below w.heap.size w (w.alloc (.cells #[.int .i64 0, .int .i64 0, .slice none 0 0] 26)) := (Below.refl _ _).alloc (Nat.le_refl _) _
  have S1 := Lib.hid (hs.below hA)
  have FA := Lib.hid (Fs.of_below (S := fun k => k = b) hA)
  have R1 := Lib.hid (Box3.newM w 0 0 (.slice none 0 0))
  obtain ⟨W1, hW1⟩ : ∃ W1, W1 = w.alloc (.cells #[.int .i64 0, .int .i64 0, .slice none 0 0] 26) := ⟨_, rfl⟩
  rw [← hW1] at S1 FA R1
  have Z1 := Lib.hid (show W1.heap.size = w.heap.size + 1 by rw [hW1]; simp)
  have HW1 := Lib.hid hW1
  clear hs hA hW1
  go_enter Try.func37, Try.ntmps37
  go_wp2_with fail
  rw [← HW1.out]
  refine (pick_any b K mo _ S1.out (by omega)).mono ?_
  rintro e w1 ⟨y, rfl, hy0, hy1, s1, g1⟩
  obtain ⟨y, rfl⟩ := Int.eq_ofNat_of_zero_le hy0
  obtain ⟨n, hn⟩ : ∃ n, n = y + 1 := ⟨_, rfl⟩
  have hn1 : 1 ≤ n := by omega
  have hn2 : n ≤ mo := by omega
  have r1 : IntKind.i64.wrap (1 + (y : Int)) = (n : Int) := by rw [IntWalk.i64_in _ (by omega)]; omega
  have F1 := Lib.hid (FA.out.trans g1)
  have R2 := Lib.hid (R1.out.fs g1 (by omega))
  have HB1 := Lib.hid s1.lt
  have hA3 : Below w1.heap.size w1 (w1.alloc (.cells #[.int .i64 n, .int .i64 0, .slice none 0 0] 26)) := (Below.refl _ _).alloc (Nat.le_refl _) _
  have S3 := Lib.hid (s1.below hA3)
  have F4 := Lib.hid (F1.out.trans (Fs.of_below hA3))
  have R5 := Lib.hid (R2.out.fs (S := fun _ => False) (Fs.of_below hA3) (fun h => h))
  have X3 := Lib.hid (Box3.newM w1 n 0 (.slice none 0 0))
  obtain ⟨W3, hW3⟩ : ∃ W3, W3 = w1.alloc (.cells #[.int .i64 n, .int .i64 0, .slice none 0 0] 26) := ⟨_, rfl⟩
  rw [← hW3] at S3 F4 R5 X3
  have HW3 := Lib.hid hW3
  have Z3 := Lib.hid (show W3.heap.size = w1.heap.size + 1 by rw [hW3]; simp)
  have ZR := Lib.hid (show w.heap.size < w1.heap.size from R2.out.c.1)
  clear hy0 hy1 hn s1 g1 hA3 S1 FA R1 R2 F1 hW3
  go_wp2_with fail
  rw [← HW3.out]
  refine (one_any b (K + 2) 3 _ S3.out (by omega)).mono ?_
  rintro e w2 ⟨D, rfl, s2, g2⟩
  go_wp2_with fail
  refine (pick_any b (K + 2 + 2) 3 _ s2 (by omega)).mono ?_
  rintro e w3 ⟨y, rfl, hy0, hy1, s3, g3⟩
  obtain ⟨y, rfl⟩ := Int.eq_ofNat_of_zero_le hy0
  obtain ⟨N, hN⟩ : ∃ N, N = y + 1 := ⟨_, rfl⟩
  have hN1 : 1 ≤ N := by omega
  have hN2 : N ≤ 3 := by omega
  have r2 : IntKind.i64.wrap (1 + (y : Int)) = (N : Int) := by rw [IntWalk.i64_in _ (by omega)]; omega
  have G3 := Lib.hid (g2.trans g3)
  have X4 := Lib.hid (X3.out.fs G3.out (by have := HB1.out; omega))
  have FW3 := Lib.hid F4.out
  have Z4 := Lib.hid (show w1.heap.size + 1 ≤ w3.heap.size by have := G3.out.size; have := Z3.out; omega)
  have S4 := Lib.hid s3
  clear hy0 hy1 hN s2 s3 g2 g3 S3 X3 F4
  go_wp2
  go_loopw [7, 8, 9, 10, 11] (fun l _ _ _ _ wr => ∃ (q t : Nat) (v : Value) (ms : List (Int × List Int)), l = .int .i64 q ∧ ms.length + q = N ∧ Hid (∀ m ∈ ms, 1 ≤ m.1 ∧ (m.2.length : Int) = n ∧ ∀ x ∈ m.2, 0 ≤ x ∧ x < (n : Int)) ∧ Hid ((ms.map (·.1)).sum = t) ∧ t ≤ 3 * ms.length ∧ ms.length ≤ t ∧ Box3 wr w1.heap.size n t v ∧ OwnM wr (w1.heap.size + 1) v ms ∧ SrcB wr b (K + 2 + 2 + 2 + 20 * ms.length) ∧ Fs (fun k => k = b ∨ k = w1.heap.size) W3 wr) (fun l _ _ _ _ _ => (intOf l).toNat)
  case atStart => exact ⟨N, 0, _, [], rfl, by simp, Lib.hid (by simp), Lib.hid rfl, Nat.zero_le _, Nat.zero_le _, X4.out, OwnM.nil _ _, S4.out, G3.out.mono (fun k h => .inl h)⟩
  case round =>
    obtain ⟨q, t, v, ms, rfl, hql, hrows, hsum, ht, ht2, hbox, hown, hsrc, hf⟩ := hrel
    have hzr : w1.heap.size + 1 ≤ wr.heap.size := (by have := hf.size; have := Z3.out; omega)
    have hbwr : b < wr.heap.size := hsrc.lt
    have hbne : ¬ w1.heap.size = b := by have := HB1.out; omega
    have hb1 := HB1.out
    have HBX := Lib.hid hbox
    have HO := Lib.hid hown
    have HF := Lib.hid hf
    by_cases hq0 : 0 < q
    · have i0 : (0 : Int) < (q : Int) := by omega
      have own0 := Lib.hid (OwnI.empty wr (base := wr.heap.size) (Nat.le_refl _))
      have bA := (Below.refl wr.heap.size wr).alloc (Nat.le_refl _) (.cells #[] 2)
      have s0 := Lib.hid (hsrc.below bA)
      have f0 := Lib.hid (Fs.of_below (S := fun k => k = b) bA)
      clear hbox hown hsrc hf bA
      obtain ⟨wo, rfl⟩ : ∃ wo : World, wo = wr := ⟨_, rfl⟩
      go_wp2
      go_loopw [8, 9, 10] (fun tv x _ w4 => ∃ (j : Nat) (r : List Int), j ≤ n ∧ x = .int .i64 j ∧ r.length = j ∧ Hid (∀ x ∈ r, 0 ≤ x ∧ x < (n : Int)) ∧ OwnI w4 wo.heap.size tv r ∧ SrcB w4 b (K + 2 + 2 + 2 + 20 * ms.length + 2 * j) ∧ Fs (fun k => k = b) wo w4) (fun _ x _ _ => n - (intOf x).toNat)
      case atStart => exact ⟨0, [], Nat.zero_le _, rfl, rfl, Lib.hid (by simp), own0.out, s0.out, f0.out⟩
      case round =>
        clear own0 s0 f0
        obtain ⟨j, r, hj, rfl, hrl, hrin, ho, hsr, hfr⟩ := hrel
        have hz4 : wo.heap.size ≤ wr.heap.size := hfr.size
        have HRL := Lib.hid hrl
        have HX4 := Lib.hid (HBX.out.fs hfr hbne)
        have c0 := HX4.out.c.get 0 _ rfl
        by_cases hjn : j < n
        · have i1 : (j : Int) < (n : Int) := by omega
          have HOR := Lib.hid ho
          have HFR := Lib.hid hfr
          clear ho hfr hrl
          go_wp2_with fail
          refine (pick_any b _ n _ hsr (by omega)).mono ?_
          rintro e w5 ⟨d, rfl, hd0, hd1, s5, f5⟩
          have hdn : d < n := by omega
          have O5 := Lib.hid (HOR.out.fs f5 (fun k hk => by omega))
          have F5 := Lib.hid (HFR.out.trans f5)
          have S5 := Lib.hid s5
          have hz5 : wo.heap.size ≤ w5.heap.size := F5.out.size
          have hln : r.length < 16777216 := by have := HRL.out; omega
          have r3 : IntKind.i64.wrap ((j : Int) + 1) = ((j + 1 : Nat) : Int) := by rw [IntWalk.i64_in _ (by omega)]; simp
          clear c0 hd1 s5 f5 hsr HX4 HOR HFR
          have key : ∀ z : Int, 0 ≤ z → z < n → ∀ (v' : Value) (w' : World), OwnI w' wo.heap.size v' (r ++ [z]) → Below wo.heap.size (w5.alloc (.cells #[.int .i64 z] 2)) w' → ((r ++ [z]).length = j + 1) ∧ Hid (∀ x ∈ r ++ [z], 0 ≤ x ∧ x < (n : Int)) ∧ SrcB w' b (K + 2 + 2 + 2 + 20 * ms.length + 2 * (j + 1)) ∧ Fs (fun k => k = b) wo w' := by
            intro z hz0 hz1 v' w' o6 b6
            have hb6 : Below wo.heap.size w5 w' := ((Below.refl wo.heap.size w5).alloc hz5 _).trans b6
            refine ⟨by simp [HRL.out], fun x hx => ?_, (S5.out.fs (Fs.of_belowB hb6) (fun k hk => by omega)).more (by omega), ?_⟩
            · simp only [List.mem_append, List.mem_singleton] at hx
              rcases hx with hx | rfl
              · exact hrin.out x hx
              · exact ⟨hz0, hz1⟩
            · exact ⟨hb6.os.trans F5.out.os, hb6.tape.trans F5.out.tape, hb6.output.trans F5.out.output, Nat.le_trans F5.out.size hb6.size, fun k hk hx => (hb6.block k hk).trans (F5.out.block k hk hx)⟩
          have KEY := Lib.hid key
          clear key
          by_cases hD : D = true ∧ 0 < j
          · obtain ⟨rfl, hj0⟩ := hD
            have i2 : (0 : Int) < (j : Int) := by omega
            have r4 : IntKind.i64.wrap ((j : Int) - 1) = ((j - 1 : Nat) : Int) := by rw [IntWalk.i64_in _ (by omega)]; omega
            have hjr : j - 1 < r.length := by have := HRL.out; omega
            obtain ⟨ra, rc, rfl, _, _, rd⟩ := id O5.out.sl
            obtain ⟨rb, ro, rfl, gl⟩ := rd.one (i64s_get hjr)
            have hp := hrin.out _ (List.getElem_mem hjr)
            generalize r[j - 1] = pv at gl hp
            have i3 : ((j - 1 : Nat) : Int) < (r.length : Int) := by omega
            have i4 : (0 : Int) ≤ ((j - 1 : Nat) : Int) := by omega
            clear rd
            go_wp2_with fail
            refine (l00Max_any d pv _).mono ?_
            rintro e w6 ⟨z, rfl, hz, rfl⟩
            have hz0 : 0 ≤ z := by rcases hz with rfl | rfl <;> omega
            have hz1 : z < n := by rcases hz with rfl | rfl <;> omega
            have ho5 := O5.out
            clear hz hp gl
            go_wp2_with (at_builtin; refine append_i64 _ z _ _ rfl rfl rfl ho5 rfl hln hz5 ?_)
            intro v6 w6 o6 b6 z6
            have hk := KEY.out z hz0 hz1 v6 w6 o6 b6
            have HK := Lib.hid hk
            clear hk b6 ho5
            go_wp2
            go_roundw
            case rel => exact ⟨j + 1, r ++ [z], by omega, by go_num, HK.out.1, HK.out.2.1, o6, HK.out.2.2.1, HK.out.2.2.2⟩
            case measure => simp [intOf]; omega
          · have ho5 := O5.out
            have hDj : D = false ∨ (D = true ∧ j = 0) := by
              cases D
              · exact .inl rfl
              · exact .inr ⟨rfl, by simp at hD; omega⟩
            clear hD
            rcases hDj with rfl | ⟨rfl, rfl⟩
            · skip
              go_wp2_with (at_builtin; refine append_i64 _ d _ _ rfl rfl rfl ho5 rfl hln hz5 ?_)
              intro v6 w6 o6 b6 z6
              have HK := Lib.hid (KEY.out d hd0 hdn v6 w6 o6 b6)
              clear b6 ho5
              go_wp2
              go_roundw
              case rel => exact ⟨j + 1, r ++ [d], by omega, by go_num, HK.out.1, HK.out.2.1, o6, HK.out.2.2.1, HK.out.2.2.2⟩
              case measure => simp [intOf]; omega
            · skip
              go_wp2_with (at_builtin; refine append_i64 _ d _ _ rfl rfl rfl ho5 rfl hln hz5 ?_)
              intro v6 w6 o6 b6 z6
              have HK := Lib.hid (KEY.out d hd0 hdn v6 w6 o6 b6)
              clear b6 ho5
              go_wp2
              go_roundw
              case rel => exact ⟨0 + 1, r ++ [d], by omega, by go_num, HK.out.1, HK.out.2.1, o6, HK.out.2.2.1, HK.out.2.2.2⟩
              case measure => simp [intOf]; omega
        · obtain rfl : j = n := by omega
          have S4' := Lib.hid hsr
          have O4 := Lib.hid ho
          have F4 := Lib.hid hfr
          have HM4 := Lib.hid (HO.out.fs (S := fun k => k = b) hfr (fun k hk => by omega))
          clear hsr ho hfr hrl
          go_wp2_with fail
          refine (pick_any b _ 3 _ S4'.out (by omega)).mono ?_
          rintro e w5 ⟨y3, rfl, hy0, hy1, s5, f5⟩
          obtain ⟨y3, rfl⟩ := Int.eq_ofNat_of_zero_le hy0
          obtain ⟨wv, hwv⟩ : ∃ wv, wv = y3 + 1 := ⟨_, rfl⟩
          have hw1 : 1 ≤ wv := by omega
          have hw2 : wv ≤ 3 := by omega
          have r3 : IntKind.i64.wrap (1 + (y3 : Int)) = (wv : Int) := by rw [IntWalk.i64_in _ (by omega)]; omega
          have r4 : IntKind.i64.wrap ((t : Int) + (wv : Int)) = (t : Int) + (wv : Int) := IntWalk.i64_in _ (by omega)
          have r5 : IntKind.i64.wrap ((q : Int) - 1) = ((q - 1 : Nat) : Int) := by rw [IntWalk.i64_in _ (by omega)]; omega
          have x5 := HX4.out.fs f5 hbne
          have d1 := x5.c.get 1 _ rfl
          have x6 := x5.set1 ((t : Int) + (wv : Int))
          have d2 := x5.c.get 2 _ rfl
          have fz1 := x5.f 1
          have hz5 : w1.heap.size + 1 ≤ w5.heap.size := Nat.le_trans hzr (Nat.le_trans F4.out.size f5.size)
          have M6 := Lib.hid ((HM4.out.fs f5 (fun k hk => by omega)).set (a := ⟨w1.heap.size, 1, none⟩) (by simp) (.int .i64 ((t : Int) + (wv : Int))))
          have O6 := Lib.hid (((O4.out.fs f5 (fun k hk => by omega)).fs (Fs.set1 w5 w1.heap.size 1 (.int .i64 ((t : Int) + (wv : Int)))) (fun k hk => by omega)).lower hzr)
          have F6 := Lib.hid (F4.out.trans f5)
          have S6 := Lib.hid (s5.fs (Fs.set1 w5 w1.heap.size 1 (.int .i64 ((t : Int) + (wv : Int)))) (fun k hk => by omega))
          have X6 := Lib.hid x6
          have hmsl : ms.length < 16777216 := by omega
          obtain ⟨tva, tvn, tvc, rfl, _⟩ := O6.out.formJ
          have hz7 : (w5.setCell ⟨w1.heap.size, 1, none⟩ (.int .i64 ((t : Int) + (wv : Int)))).heap.size = w5.heap.size := by simp
          have m6 := M6.out
          have o6 := O6.out
          have hz6 : w1.heap.size + 1 ≤ (w5.setCell ⟨w1.heap.size, 1, none⟩ (.int .i64 ((t : Int) + (wv : Int)))).heap.size := by simpa using hz5
          clear hy0 hy1 hwv s5 f5 x5 x6 c0
          go_wp2_with (at_builtin; refine append_map _ _ _ rfl rfl rfl m6 o6 hz7 rfl hmsl hz6 ?_)
          intro v7 w7 o7 b7 z7
          have hb7 : Below (w1.heap.size + 1) (w5.setCell ⟨w1.heap.size, 1, none⟩ (.int .i64 ((t : Int) + (wv : Int)))) w7 := ((Below.refl _ _).alloc hz6 _).trans b7
          have x7 := X6.out.fs (Fs.of_belowB hb7) (by omega)
          have S7 := Lib.hid (S6.out.fs (Fs.of_belowB hb7) (fun k hk => by omega))
          have F7 := Lib.hid (((HF.out.then F6.out (R := fun k => k = b ∨ k = w1.heap.size) (fun k _ h => h) (fun k _ h => .inl h)).then (Fs.set1 w5 w1.heap.size 1 (.int .i64 ((t : Int) + (wv : Int)))) (R := fun k => k = b ∨ k = w1.heap.size) (fun k _ h => h) (fun k _ h => .inr h)).then (Fs.of_belowB hb7) (R := fun k => k = b ∨ k = w1.heap.size) (fun k _ h => h) (fun k hk h => by have := Z3.out; omega))
          have e2 := x7.c.get 2 _ rfl
          have fz2 := x7.f 2
          obtain ⟨oa7, on7, oc7, rfl, _⟩ := o7.formJ
          have X7 := Lib.hid x7
          have O7 := Lib.hid o7
          have ROW := Lib.hid (show ∀ m ∈ ms ++ [((wv : Int), r)], 1 ≤ m.1 ∧ (m.2.length : Int) = j ∧ ∀ x ∈ m.2, 0 ≤ x ∧ x < (j : Int) from fun m hm => by
            simp only [List.mem_append, List.mem_singleton] at hm
            rcases hm with hm | rfl
            · exact hrows.out m hm
            · exact ⟨by show (1 : Int) ≤ wv; omega, by have := HRL.out; show (r.length : Int) = j; omega, hrin.out⟩)
          have SUM := Lib.hid (show ((ms ++ [((wv : Int), r)]).map (·.1)).sum = ((t + wv : Nat) : Int) by rw [List.map_append, List.sum_append, hsum.out]; simp)
          have hpc : (t : Int) + (wv : Int) = ((t + wv : Nat) : Int) := by omega
          clear hb7 x7 o7 b7 m6 o6 M6 O6 X6 d1 d2 HM4 O4 hrows hsum
          rw [hpc] at X7
          go_wp2
          go_roundw
          case rel => exact ⟨q - 1, t + wv, _, ms ++ [((wv : Int), r)], by go_num, by simp; omega, ROW, SUM, by simp; omega, by simp; omega, X7.out.set _, O7.out.set (by simp) _, (S7.out.fs (Fs.set1 _ _ _ _) (fun k hk => by omega)).more (by simp; omega), F7.out.set (a := ⟨w1.heap.size, 2, none⟩) (.inr rfl) _⟩
          case measure => simp [intOf]; omega
    · obtain rfl : q = 0 := by omega
      have R6 := R5.out.fs hf (by have := ZR.out; have := Z1.out; omega)
      have c0 := hbox.c.get 0 _ rfl
      have c1 := hbox.c.get 1 _ rfl
      have c2 := hbox.c.get 2 _ rfl
      have q0 := R6.c.get 0 _ rfl
      have q1 := R6.c.get 1 _ rfl
      have q2 := R6.c.get 2 _ rfl
      have f0 := R6.f 0
      have f1 := R6.f 1
      have f2 := R6.f 2
      have zz := R6.c.1
      have HOK := Lib.hid (show mapsOk n t ms from ⟨by omega, by omega, by omega, hrows.out, hsum.out⟩)
      obtain ⟨va, vn, vc, rfl, _⟩ := hown.formJ
      have HS := Lib.hid hsrc
      have HFW := Lib.hid ((FW3.out.then hf (R := fun k => k = b ∨ k = w1.heap.size) (fun k _ h => .inl h) (fun k _ h => h)).cut (T := fun k => k = b) (fun k hk h => by have := ZR.out; omega))
      clear hbox R6 hown hsrc hf hrows hsum
      go_wp2
      refine bodyPost_ret (v := .agg #[.int .i64 n, .int .i64 t, .slice va vn vc]) (by simp [results, Try.results37, go_sem, c0, c1, c2, q0, q1, q2, zz]) rfl ⟨n, t, _, ms, rfl, hn2, HOK.out, ⟨by omega, by omega⟩, ?_, ?_, ?_⟩
      · exact (((HO.out.set (by have := ZR.out; simp; omega) _).set (by have := ZR.out; simp; omega) _).set (by have := ZR.out; simp; omega) _).lower (by have := ZR.out; omega)
      · exact (HS.out.fs (Fs.set3 _ _ _ _ _) (fun k hk => by omega)).more (by omega)
      · have hs3 := Fs.set3 wr w.heap.size (.int .i64 n) (.int .i64 t) (.slice va vn vc)
        exact (HFW.out.then hs3 (R := fun k => k = b ∨ k = w.heap.size) (fun k _ h => .inl h) (fun k _ h => .inr h)).cut (fun k hk h => by omega)

set_option maxRecDepth 100000 in
set_option maxHeartbeats 400000 in
theorem P6Maps_any9 {xs : List Int} (ad : Option Addr) (n c mo : Nat) (w : World) (hn : n ≤ 4096) (hx : xs.length = n) (hr : Rd w ad (xs.map (.int .u8))) (hb : ∀ x ∈ xs, 0 ≤ x ∧ x < 256) (hm : 1 ≤ mo) (hm2 : mo ≤ 6) :
    Calls Try.prog 7 #[.slice ad n c, .int .i64 mo] w fun e w' => ∃ (m t : Nat) (v : Value) (ms : List (Int × List Int)), e = .returned (.agg #[.int .i64 m, .int .i64 t, v]) ∧ m ≤ mo ∧ mapsOk m t ms ∧ (ms.length ≤ 3 ∧ t ≤ 9) ∧ OwnM w' w.heap.size v ms ∧ Below w.heap.size w w' := by
  have hA : Below w.heap.size w (w.alloc (.cells #[.int .i64 0, .int .i64 0, .slice none 0 0] 26)) := (Below.refl _ _).alloc (Nat.le_refl _) _
  have HR := Lib.hid (hr.below hA)
  have R1 := Lib.hid (Box3.newM w 0 0 (.slice none 0 0))
  have HB := Lib.hid hb
  have HX := Lib.hid hx
  have HA := Lib.hid hA
  obtain ⟨W1, hW1⟩ : ∃ W1, W1 = w.alloc (.cells #[.int .i64 0, .int .i64 0, .slice none 0 0] 26) := ⟨_, rfl⟩
  rw [← hW1] at HR R1 HA
  have HW1 := Lib.hid hW1
  have Z1 := Lib.hid (show W1.heap.size = w.heap.size + 1 by rw [hW1]; simp)
  clear hr hb hx hA hW1
  go_enter Try.func7, Try.ntmps7
  go_wp2_with fail
  rw [← HW1.out]
  refine (l00From_any ad n c _ hn HX.out HR.out HB.out).mono ?_
  rintro e w1 ⟨rfl, s1, b1⟩
  have hz1 := s1.lt
  go_wp2_with fail
  refine (l05Draw_any9 W1.heap.size 0 mo _ s1 (by omega) hm hm2).mono ?_
  rintro e w2 ⟨m, t, v, ms, rfl, hmm, hok, hl3, o2, _, f2⟩
  have zw := Z1.out
  have b2 := b1.trans (f2.below (B := W1.heap.size) b1.size (fun k hk => by omega))
  have R2 := R1.out.fs (S := fun _ => False) (Fs.of_below b2) (fun h => h)
  have q0 := R2.c.get 0 _ rfl
  have q1 := R2.c.get 1 _ rfl
  have q2 := R2.c.get 2 _ rfl
  have p0 := R2.f 0
  have p1 := R2.f 1
  have p2 := R2.f 2
  have zz := R2.c.1
  obtain ⟨va, vn, vc, rfl, _⟩ := o2.formJ
  have O2 := Lib.hid (o2.lower (base' := w.heap.size + 1) (by omega))
  have B2 := Lib.hid (HA.out.trans (b2.mono HA.out.size))
  clear R2 o2 f2 b1 b2 s1
  go_wp2
  refine bodyPost_ret (v := .agg #[.int .i64 m, .int .i64 t, .slice va vn vc]) (by simp [results, Try.results7, go_sem, q0, q1, q2, zz]) rfl ⟨m, t, _, ms, rfl, hmm, hok, hl3, ?_, ?_⟩
  · exact (((O2.out.set (by simp) _).set (by simp) _).set (by simp) _).lower (by omega)
  · exact ((B2.out.setCell (Nat.le_refl _) _).setCell (Nat.le_refl _) _).setCell (Nat.le_refl _) _
end Go.Proofs.Ytceobhmbnkheiaa
