/-
  Runs from the past by maps, both sides. With it: P6MapsOf: maps of so many states. Maps: valid ones and picks, the reference's side; one step. Runs by maps: forward and from the past, both sides; picks applied. Runs by maps: plain facts for the laws.
-/
import Derived.Test.YtceobhmbnkheiaaZRowFnMaps21
import Derived.Test.YtceobhmbnkheiaaZRowFnMaps5
set_option linter.unusedVariables false
set_option linter.unusedSimpArgs false
namespace Go.Proofs.Ytceobhmbnkheiaa
open Go.RowKit Go.Sort

set_option maxRecDepth 100000 in
set_option maxHeartbeats 8000000 in
theorem P6MapsOf_any {xs : List Int} (ad : Option Addr) (n0 c n : Nat) (w : World) (hn0 : n0 ≤ 4096) (hx : xs.length = n0) (hr : Rd w ad (xs.map (.int .u8))) (hb : ∀ x ∈ xs, 0 ≤ x ∧ x < 256) (hn1 : 1 ≤ n) (hn6 : n ≤ 6) :
    Calls Try.prog 18 #[.slice ad n0 c, .int .i64 n] w fun e w' => ∃ (t : Nat) (v : Value) (ms : List (Int × List Int)), e = .returned (.agg #[.int .i64 n, .int .i64 t, v]) ∧ mapsOk n t ms ∧ (ms.length ≤ 2 ∧ t ≤ 4) ∧ OwnM w' w.heap.size v ms ∧ Below w.heap.size w w' := by
  have hA : Below w.heap.size w (w.alloc (.cells #[.int .i64 0, .int .i64 0, .slice none 0 0] 26)) := (Below.refl _ _).alloc (Nat.le_refl _) _
  have HR := Lib.hid (hr.below hA)
  have HBB := Lib.hid hb
  have HX := Lib.hid hx
  have hA' := Lib.hid hA
  have R1 := Lib.hid (Box3.newM w 0 0 (.slice none 0 0))
  obtain ⟨W1, hW1⟩ : ∃ W1, W1 = w.alloc (.cells #[.int .i64 0, .int .i64 0, .slice none 0 0] 26) := ⟨_, rfl⟩
  rw [← hW1] at HR R1 hA'
  have Z1 := Lib.hid (show W1.heap.size = w.heap.size + 1 by rw [hW1]; simp)
  have HW1 := Lib.hid hW1
  clear hr hb hx hA hW1
  go_enter Try.func18, Try.ntmps18
  go_wp2_with fail
  rw [← HW1.out]
  refine (l00From_any ad n0 c _ hn0 HX.out HR.out HBB.out).mono ?_
  rintro e w1 ⟨rfl, s1, b1⟩
  have R2 := Lib.hid (R1.out.fs (Fs.of_below (S := fun _ => False) b1) (fun h => h))
  obtain ⟨b, hb0⟩ : ∃ b, b = W1.heap.size := ⟨_, rfl⟩
  have F1 := Lib.hid ((Fs.of_below (S := fun k => k = b) hA'.out).trans (Fs.of_below (S := fun k => k = b) b1))
  rw [← hb0] at s1 Z1 ⊢
  have HB1 := Lib.hid s1.lt
  have hA3 : Below w1.heap.size w1 (w1.alloc (.cells #[.int .i64 n, .int .i64 0, .slice none 0 0] 26)) := (Below.refl _ _).alloc (Nat.le_refl _) _
  have S3 := Lib.hid (s1.below hA3)
  have F4 := Lib.hid (F1.out.trans (Fs.of_below hA3))
  have R5 := Lib.hid (R2.out.fs (S := fun _ => False) (Fs.of_below hA3) (fun h => h))
  have X3 := Lib.hid (Box3.newM w1 n 0 (.slice none 0 0))
  obtain ⟨W3, hW3⟩ : ∃ W3, W3 = w1.alloc (.cells #[.int .i64 n, .int .i64 0, .slice none 0 0] 26) := ⟨_, rfl⟩
  rw [← hW3] at S3 F4 R5 X3
  have HW3 := Lib.hid hW3
  have Z3 := Lib.hid (show W3.heap.size = w1.heap.size + 1 by rw [hW3]; simp)
  have ZR := Lib.hid (show w.heap.size < w1.heap.size from R2.out.c.1)
  clear s1 b1 hA3 R1 R2 F1 hW3 hA' hb0 HX HR HBB HW1
  go_wp2_with fail
  rw [← HW3.out]
  refine (pick_any b 0 2 _ S3.out (by omega)).mono ?_
  rintro e w3 ⟨y, rfl, hy0, hy1, s3, g3⟩
  obtain ⟨y, rfl⟩ := Int.eq_ofNat_of_zero_le hy0
  obtain ⟨N, hN⟩ : ∃ N, N = y + 1 := ⟨_, rfl⟩
  have hN1 : 1 ≤ N := by omega
  have hN2 : N ≤ 2 := by omega
  have r2 : IntKind.i64.wrap (1 + (y : Int)) = (N : Int) := by rw [IntWalk.i64_in _ (by omega)]; omega
  have G3 := Lib.hid g3
  have X4 := Lib.hid (X3.out.fs G3.out (by have := HB1.out; omega))
  have FW3 := Lib.hid F4.out
  have Z4 := Lib.hid (show w1.heap.size + 1 ≤ w3.heap.size by have := G3.out.size; have := Z3.out; omega)
  have S4 := Lib.hid s3
  clear hy0 hy1 hN s3 g3 S3 X3 F4
  go_wp2
  go_loopw [7, 8, 9, 10] (fun l _ _ _ wr => ∃ (q t : Nat) (v : Value) (ms : List (Int × List Int)), l = .int .i64 q ∧ ms.length + q = N ∧ Hid (∀ m ∈ ms, 1 ≤ m.1 ∧ (m.2.length : Int) = n ∧ ∀ x ∈ m.2, 0 ≤ x ∧ x < (n : Int)) ∧ Hid ((ms.map (·.1)).sum = t) ∧ t ≤ 2 * ms.length ∧ ms.length ≤ t ∧ Box3 wr w1.heap.size n t v ∧ OwnM wr (w1.heap.size + 1) v ms ∧ SrcB wr b (0 + 2 + 20 * ms.length) ∧ Fs (fun k => k = b ∨ k = w1.heap.size) W3 wr) (fun l _ _ _ _ => (intOf l).toNat)
  case atStart => exact ⟨N, 0, _, [], rfl, by simp, Lib.hid (by simp), Lib.hid rfl, Nat.zero_le _, Nat.zero_le _, X4.out, OwnM.nil _ _, S4.out, G3.out.mono (fun k h => .inl h)⟩
  case round =>
    obtain ⟨q, t, v, ms, rfl, hql, hrows, hsum, ht, ht2, hbox, hown, hsrc, hf⟩ := hrel
    have hzr : w1.heap.size + 1 ≤ wr.heap.size := (by have := hf.size; have := Z3.out; omega)
    have hbwr : b < wr.heap.size := hsrc.lt
    have hbne : ¬ w1.heap.size = b := by have := HB1.out; omega
    have hb1 := HB1.out
    have HBX := Lib.hid hbox
    have HO := Lib.hid hown
    have HF := Lib.hid hf
    by_cases hq0 : 0 < q
    · have i0 : (0 : Int) < (q : Int) := by omega
      have own0 := Lib.hid (OwnI.empty wr (base := wr.heap.size) (Nat.le_refl _))
      have bA := (Below.refl wr.heap.size wr).alloc (Nat.le_refl _) (.cells #[] 2)
      have s0 := Lib.hid (hsrc.below bA)
      have f0 := Lib.hid (Fs.of_below (S := fun k => k = b) bA)
      clear hbox hown hsrc hf bA
      obtain ⟨wo, rfl⟩ : ∃ wo : World, wo = wr := ⟨_, rfl⟩
      go_wp2
      go_loopw [8, 9] (fun tv x w4 => ∃ (j : Nat) (r : List Int), j ≤ n ∧ x = .int .i64 j ∧ r.length = j ∧ Hid (∀ x ∈ r, 0 ≤ x ∧ x < (n : Int)) ∧ OwnI w4 wo.heap.size tv r ∧ SrcB w4 b (0 + 2 + 20 * ms.length + 2 * j) ∧ Fs (fun k => k = b) wo w4) (fun _ x _ => n - (intOf x).toNat)
      case atStart => exact ⟨0, [], Nat.zero_le _, rfl, rfl, Lib.hid (by simp), own0.out, s0.out, f0.out⟩
      case round =>
        clear own0 s0 f0
        obtain ⟨j, r, hj, rfl, hrl, hrin, ho, hsr, hfr⟩ := hrel
        have hz4 : wo.heap.size ≤ wr.heap.size := hfr.size
        have HRL := Lib.hid hrl
        have HX4 := Lib.hid (HBX.out.fs hfr hbne)
        have c0 := HX4.out.c.get 0 _ rfl
        by_cases hjn : j < n
        · have i1 : (j : Int) < (n : Int) := by omega
          have HOR := Lib.hid ho
          have HFR := Lib.hid hfr
          clear ho hfr hrl
          go_wp2_with fail
          refine (pick_any b _ n _ hsr (by omega)).mono ?_
          rintro e w5 ⟨d, rfl, hd0, hd1, s5, f5⟩
          have hdn : d < n := by omega
          have O5 := Lib.hid (HOR.out.fs f5 (fun k hk => by omega))
          have F5 := Lib.hid (HFR.out.trans f5)
          have S5 := Lib.hid s5
          have hz5 : wo.heap.size ≤ w5.heap.size := F5.out.size
          have hln : r.length < 16777216 := by have := HRL.out; omega
          have r3 : IntKind.i64.wrap ((j : Int) + 1) = ((j + 1 : Nat) : Int) := by rw [IntWalk.i64_in _ (by omega)]; simp
          clear c0 hd1 s5 f5 hsr HX4 HOR HFR
          have key : ∀ z : Int, 0 ≤ z → z < n → ∀ (v' : Value) (w' : World), OwnI w' wo.heap.size v' (r ++ [z]) → Below wo.heap.size (w5.alloc (.cells #[.int .i64 z] 2)) w' → ((r ++ [z]).length = j + 1) ∧ Hid (∀ x ∈ r ++ [z], 0 ≤ x ∧ x < (n : Int)) ∧ SrcB w' b (0 + 2 + 20 * ms.length + 2 * (j + 1)) ∧ Fs (fun k => k = b) wo w' := by
            intro z hz0 hz1 v' w' o6 b6
            have hb6 : Below wo.heap.size w5 w' := ((Below.refl wo.heap.size w5).alloc hz5 _).trans b6
            refine ⟨by simp [HRL.out], fun x hx => ?_, (S5.out.fs (Fs.of_belowB hb6) (fun k hk => by omega)).more (by omega), ?_⟩
            · simp only [List.mem_append, List.mem_singleton] at hx
              rcases hx with hx | rfl
              · exact hrin.out x hx
              · exact ⟨hz0, hz1⟩
            · exact ⟨hb6.os.trans F5.out.os, hb6.tape.trans F5.out.tape, hb6.output.trans F5.out.output, Nat.le_trans F5.out.size hb6.size, fun k hk hx => (hb6.block k hk).trans (F5.out.block k hk hx)⟩
          have KEY := Lib.hid key
          clear key
          have ho5 := O5.out
          go_wp2_with (at_builtin; refine append_i64 _ d _ _ rfl rfl rfl ho5 rfl hln hz5 ?_)
          intro v6 w6 o6 b6 z6
          have HK := Lib.hid (KEY.out d hd0 hdn v6 w6 o6 b6)
          clear b6 ho5
          go_wp2
          go_roundw
          case rel => exact ⟨j + 1, r ++ [d], by omega, by go_num, HK.out.1, HK.out.2.1, o6, HK.out.2.2.1, HK.out.2.2.2⟩
          case measure => simp [intOf]; omega
        · obtain rfl : j = n := by omega
          have S4' := Lib.hid hsr
          have O4 := Lib.hid ho
          have F4 := Lib.hid hfr
          have HM4 := Lib.hid (HO.out.fs (S := fun k => k = b) hfr (fun k hk => by omega))
          clear hsr ho hfr hrl
          go_wp2_with fail
          refine (pick_any b _ 2 _ S4'.out (by omega)).mono ?_
          rintro e w5 ⟨y3, rfl, hy0, hy1, s5, f5⟩
          obtain ⟨y3, rfl⟩ := Int.eq_ofNat_of_zero_le hy0
          obtain ⟨wv, hwv⟩ : ∃ wv, wv = y3 + 1 := ⟨_, rfl⟩
          have hw1 : 1 ≤ wv := by omega
          have hw2 : wv ≤ 2 := by omega
          have r3 : IntKind.i64.wrap (1 + (y3 : Int)) = (wv : Int) := by rw [IntWalk.i64_in _ (by omega)]; omega
          have r4 : IntKind.i64.wrap ((t : Int) + (wv : Int)) = (t : Int) + (wv : Int) := IntWalk.i64_in _ (by omega)
          have r5 : IntKind.i64.wrap ((q : Int) - 1) = ((q - 1 : Nat) : Int) := by rw [IntWalk.i64_in _ (by omega)]; omega
          have x5 := HX4.out.fs f5 hbne
          have d1 := x5.c.get 1 _ rfl
          have x6 := x5.set1 ((t : Int) + (wv : Int))
          have d2 := x5.c.get 2 _ rfl
          have fz1 := x5.f 1
          have hz5 : w1.heap.size + 1 ≤ w5.heap.size := Nat.le_trans hzr (Nat.le_trans F4.out.size f5.size)
          have M6 := Lib.hid ((HM4.out.fs f5 (fun k hk => by omega)).set (a := ⟨w1.heap.size, 1, none⟩) (by simp) (.int .i64 ((t : Int) + (wv : Int))))
          have O6 := Lib.hid (((O4.out.fs f5 (fun k hk => by omega)).fs (Fs.set1 w5 w1.heap.size 1 (.int .i64 ((t : Int) + (wv : Int)))) (fun k hk => by omega)).lower hzr)
          have F6 := Lib.hid (F4.out.trans f5)
          have S6 := Lib.hid (s5.fs (Fs.set1 w5 w1.heap.size 1 (.int .i64 ((t : Int) + (wv : Int)))) (fun k hk => by omega))
          have X6 := Lib.hid x6
          have hmsl : ms.length < 16777216 := by omega
          obtain ⟨tva, tvn, tvc, rfl, _⟩ := O6.out.formJ
          have hz7 : (w5.setCell ⟨w1.heap.size, 1, none⟩ (.int .i64 ((t : Int) + (wv : Int)))).heap.size = w5.heap.size := by simp
          have m6 := M6.out
          have o6 := O6.out
          have hz6 : w1.heap.size + 1 ≤ (w5.setCell ⟨w1.heap.size, 1, none⟩ (.int .i64 ((t : Int) + (wv : Int)))).heap.size := by simpa using hz5
          clear hy0 hy1 hwv s5 f5 x5 x6 c0
          go_wp2_with (at_builtin; refine append_map _ _ _ rfl rfl rfl m6 o6 hz7 rfl hmsl hz6 ?_)
          intro v7 w7 o7 b7 z7
          have hb7 : Below (w1.heap.size + 1) (w5.setCell ⟨w1.heap.size, 1, none⟩ (.int .i64 ((t : Int) + (wv : Int)))) w7 := ((Below.refl _ _).alloc hz6 _).trans b7
          have x7 := X6.out.fs (Fs.of_belowB hb7) (by omega)
          have S7 := Lib.hid (S6.out.fs (Fs.of_belowB hb7) (fun k hk => by omega))
          have F7 := Lib.hid (((HF.out.then F6.out (R := fun k => k = b ∨ k = w1.heap.size) (fun k _ h => h) (fun k _ h => .inl h)).then (Fs.set1 w5 w1.heap.size 1 (.int .i64 ((t : Int) + (wv : Int)))) (R := fun k => k = b ∨ k = w1.heap.size) (fun k _ h => h) (fun k _ h => .inr h)).then (Fs.of_belowB hb7) (R := fun k => k = b ∨ k = w1.heap.size) (fun k _ h => h) (fun k hk h => by have := Z3.out; omega))
          have e2 := x7.c.get 2 _ rfl
          have fz2 := x7.f 2
          obtain ⟨oa7, on7, oc7, rfl, _⟩ := o7.formJ
          have X7 := Lib.hid x7
          have O7 := Lib.hid o7
          have ROW := Lib.hid (show ∀ m ∈ ms ++ [((wv : Int), r)], 1 ≤ m.1 ∧ (m.2.length : Int) = j ∧ ∀ x ∈ m.2, 0 ≤ x ∧ x < (j : Int) from fun m hm => by
            simp only [List.mem_append, List.mem_singleton] at hm
            rcases hm with hm | rfl
            · exact hrows.out m hm
            · exact ⟨by show (1 : Int) ≤ wv; omega, by have := HRL.out; show (r.length : Int) = j; omega, hrin.out⟩)
          have SUM := Lib.hid (show ((ms ++ [((wv : Int), r)]).map (·.1)).sum = ((t + wv : Nat) : Int) by rw [List.map_append, List.sum_append, hsum.out]; simp)
          have hpc : (t : Int) + (wv : Int) = ((t + wv : Nat) : Int) := by omega
          clear hb7 x7 o7 b7 m6 o6 M6 O6 X6 d1 d2 HM4 O4 hrows hsum
          rw [hpc] at X7
          go_wp2
          go_roundw
          case rel => exact ⟨q - 1, t + wv, _, ms ++ [((wv : Int), r)], by go_num, by simp; omega, ROW, SUM, by simp; omega, by simp; omega, X7.out.set _, O7.out.set (by simp) _, (S7.out.fs (Fs.set1 _ _ _ _) (fun k hk => by omega)).more (by simp; omega), F7.out.set (a := ⟨w1.heap.size, 2, none⟩) (.inr rfl) _⟩
          case measure => simp [intOf]; omega
    · obtain rfl : q = 0 := by omega
      have R6 := R5.out.fs hf (by have := ZR.out; have := Z1.out; omega)
      have c0 := hbox.c.get 0 _ rfl
      have c1 := hbox.c.get 1 _ rfl
      have c2 := hbox.c.get 2 _ rfl
      have q0 := R6.c.get 0 _ rfl
      have q1 := R6.c.get 1 _ rfl
      have q2 := R6.c.get 2 _ rfl
      have f0 := R6.f 0
      have f1 := R6.f 1
      have f2 := R6.f 2
      have zz := R6.c.1
      have HOK := Lib.hid (show mapsOk n t ms from ⟨by omega, by omega, by omega, hrows.out, hsum.out⟩)
      obtain ⟨va, vn, vc, rfl, _⟩ := hown.formJ
      have HS := Lib.hid hsrc
      have HFW := Lib.hid ((FW3.out.then hf (R := fun k => k = b ∨ k = w1.heap.size) (fun k _ h => .inl h) (fun k _ h => h)).cut (T := fun k => k = b) (fun k hk h => by have := ZR.out; omega))
      clear hbox R6 hown hsrc hf hrows hsum
      go_wp2
      refine bodyPost_ret (v := .agg #[.int .i64 n, .int .i64 t, .slice va vn vc]) (by simp [results, Try.results18, go_sem, c0, c1, c2, q0, q1, q2, zz]) rfl ⟨t, _, ms, rfl, HOK.out, ⟨by omega, by omega⟩, ?_, ?_⟩
      · exact (((HO.out.set (by have := ZR.out; simp; omega) _).set (by have := ZR.out; simp; omega) _).set (by have := ZR.out; simp; omega) _).lower (by have := ZR.out; omega)
      · have bw := HFW.out.below (B := w.heap.size) (Nat.le_refl _) (fun k hk => by have := Z1.out; omega)
        exact ((bw.setCell (Nat.le_refl _) _).setCell (Nat.le_refl _) _).setCell (Nat.le_refl _) _
end Go.Proofs.Ytceobhmbnkheiaa
namespace Go.Proofs.Ytceobhmbnkheiaa
open Go.RowKit Go.Sort

set_option maxHeartbeats 400000 in
theorem l05Map_ok {u : Value} {xs : List Int} (s : Int) (w : World) (ha : SlI w u xs) (hl : (xs.length : Int) = s) (hx : ∀ x ∈ xs, 0 ≤ x ∧ x < s) (hs : s ≤ 6) :
    Calls Try.prog 83 #[u, .int .i64 s] w fun e w' => e = .returned (.bool true) ∧ w = w' := by
  obtain ⟨a, ca, rfl, hca, hca', ha⟩ := ha
  have HX := Lib.hid hx
  have t1 : ((xs.length : Int) == s) = true := by simp [hl]
  have hxl : xs.length ≤ 6 := by omega
  clear hx
  go_enter Try.func83, Try.ntmps83
  go_wp2
  go_loopw [5] (fun i wr => ∃ k : Nat, k ≤ xs.length ∧ i = .int .i64 k ∧ wr = w) (fun i _ => xs.length - (intOf i).toNat)
  case atStart => exact ⟨0, Nat.zero_le _, rfl, rfl⟩
  case round =>
    obtain ⟨k, hk, rfl, rfl⟩ := hrel
    by_cases hlt : k < xs.length
    · obtain ⟨b, off, rfl, gc⟩ := ha.one (i64s_get hlt)
      have i1 : (k : Int) < (xs.length : Int) := by omega
      have hx := HX.out _ (List.getElem_mem hlt)
      generalize xs[k] = x at gc hx
      have E1 := Lib.hid (inR_ok (x := x) (a := 0) (b := s - 1) (by omega))
      clear hx
      go_wp2_with (go_at_call 40; refine (l00In_any _ _ _ _).mono ?_; rintro e w' ⟨rfl, rfl⟩; rw [E1.out])
      go_roundw
      case rel => exact ⟨k + 1, by omega, by go_num, trivial⟩
      case measure => simp [intOf]; omega
    · obtain rfl : k = xs.length := by omega
      go_wp2
      go_ret
      exact ⟨rfl, rfl⟩

set_option maxRecDepth 100000 in
set_option maxHeartbeats 4000000 in
theorem l05Ok_ok {v : Value} {ms : List (Int × List Int)} {s t : Int} (b : Nat) (w : World) (hb : MpAt w b s t v) (ha : SlM w v ms) (hv : mapsOk s t ms) :
    Calls Try.prog 52 #[.pointer (some ⟨b, 0, none⟩)] w fun e w' => e = .returned (.bool true) ∧ Below w.heap.size w w' := by
  have HA := Lib.hid (fun W (h : Below w.heap.size w W) => ha.below h)
  have X := Lib.hid hb
  obtain ⟨a, ca, rfl, hca, hca'⟩ := ha.form
  obtain ⟨⟨hs1, hs2⟩, ⟨ht1, ht2⟩, ⟨hl1, hl2⟩, hrow, hsum⟩ := id hv
  have E1 := Lib.hid (inR_ok (x := s) (a := 1) (b := 6) (by omega))
  have E2 := Lib.hid (inR_ok (x := t) (a := 1) (b := 60) (by omega))
  have E3 := Lib.hid (inR_ok (x := (ms.length : Int)) (a := 1) (b := 60) (by omega))
  have HV := Lib.hid hv
  have HROW := Lib.hid hrow
  have HSUM := Lib.hid (show sumW ms ms.length = t by rw [sumW_all]; exact hsum)
  obtain ⟨x0, x1, x2, x3⟩ := hb
  clear hv hrow hsum ha
  go_enter Try.func52, Try.ntmps52
  go_wp2_with (go_at_call 40; refine (l00In_any _ _ _ _).mono ?_; rintro e w' ⟨rfl, rfl⟩; first | rw [E1.out] | rw [E2.out] | rw [E3.out])
  go_loopw [3, 4] (fun sm i wr => ∃ (k : Nat) (S : Int), k ≤ ms.length ∧ i = .int .i64 k ∧ sm = .int .i64 S ∧ Hid (S = sumW ms k) ∧ Below w.heap.size w wr) (fun _ i _ => ms.length - (intOf i).toNat)
  case atStart => exact ⟨0, 0, Nat.zero_le _, rfl, rfl, Lib.hid rfl, Below.refl _ _⟩
  case round =>
    clear x0 x1 x2 x3
    obtain ⟨k, S, hk, rfl, rfl, hS, hbw⟩ := hrel
    have HBW := Lib.hid hbw
    obtain ⟨x0, x1, x2, x3⟩ := X.out.below hbw
    by_cases hlt : k < ms.length
    · obtain ⟨b, off, ra, rc, rfl, hb, d0, d1, sr⟩ := (HA.out _ hbw).at_ hlt
      obtain ⟨hm1, hm2, hm3⟩ := HROW.out _ (List.getElem_mem hlt)
      have hwt := HV.out.wt hlt
      have hss := sumW_succ hlt
      have hsb := HV.out.sums (k := k) hk
      rw [← hS.out] at hss hsb
      have HAT := Lib.hid (fun W (h : Below wr.heap.size wr W) => show W.cell? ⟨b, off + k * 2, none⟩ = some (.int .i64 ms[k].1) from by rw [h.cell (p := ⟨b, off + k * 2, none⟩) hb]; exact d0)
      generalize ms[k] = m at d0 d1 sr hm1 hm2 hm3 hwt hss HAT
      obtain ⟨mw, mr⟩ := m
      simp only at d0 d1 sr hm1 hm2 hm3 hwt hss HAT
      have HSS := Lib.hid hss
      have HM3 := Lib.hid hm3
      have SR := Lib.hid (fun W (h : Below wr.heap.size wr W) => sr.below h)
      have E4 := inR_ok (x := mw) (a := 1) (b := t) (by omega)
      have HM2 := Lib.hid hm2
      have i1 : (k : Int) < (ms.length : Int) := by omega
      have i0 : (0 : Int) ≤ (k : Int) := by omega
      have hmr : mr.length ≤ 6 := by omega
      have r1 : IntKind.i64.wrap (S + mw) = S + mw := IntWalk.i64_in _ (by omega)
      have k1 := fun d os => cell_regrown x1 d os
      have k2 := fun d os => cell_regrown x2 d os
      have k3 := fun d os => cell_regrown x3 d os
      have k4 := fun d os => cell_regrown d0 d os
      have k5 := fun d os => cell_regrown d1 d os
      have D1 := Lib.hid (show ∀ W, Calls Try.prog 40 #[.int .i64 mw, .int .i64 1, .int .i64 t] W fun e w' => e = .returned (.bool true) ∧ Below W.heap.size W w' from fun W => by
        have h := l00In_b mw 1 t W
        rw [E4] at h
        exact h)
      have D2 := Lib.hid (show ∀ W, Below wr.heap.size wr W → Calls Try.prog 83 #[.slice ra mr.length rc, .int .i64 s] W fun e w' => e = .returned (.bool true) ∧ Below W.heap.size W w' from fun W h =>
        (l05Map_ok s W (SR.out W h) HM2.out HM3.out hs2).mono fun _ _ ⟨h1, h2⟩ => ⟨h1, h2 ▸ Below.refl _ _⟩)
      clear hss hm3 sr hwt hm2 E4
      go_wp2_with fail
      refine wp_region_quiet_below (by kernel_rfl) (by kernel_rfl) ?_
      repeat (first | go_big_quiet_skip | quiet_step (first | (with_reducible exact Calls.regrown_of (D1.out _)) | (with_reducible exact Calls.regrown_of (D2.out _ (below_regrown _ _ _)))))
      refine wpQuiet_nil ?_
      intro _ hw'
      obtain ⟨⟨dq, osq⟩, hw''⟩ := hw'
      subst hw''
      have bq0 := below_regrown wr dq osq
      have bq := hbw.trans (bq0.mono hbw.size)
      generalize grow (redrawn wr dq) osq = wq at bq bq0 ⊢
      have z3 := HAT.out _ bq0
      obtain ⟨y0, y1, y2, y3⟩ := X.out.below bq
      clear k1 k2 k3 k4 k5 x0 x1 x2 x3 d0 d1 D1 D2
      go_wp2
      go_roundw
      case rel => exact ⟨k + 1, S + mw, by omega, by go_num, rfl, Lib.hid HSS.out.symm, bq⟩
      case measure => simp [intOf]; omega
    · obtain rfl : k = ms.length := by omega
      have hst : (S == t) = true := by rw [hS.out, HSUM.out]; simp
      go_wp2
      go_ret
      exact ⟨rfl, hbw⟩

set_option maxHeartbeats 400000 in
theorem l05Picks_ok {v pv : Value} {ms : List (Int × List Int)} {ps : List Int} {s t : Int} (b : Nat) (w : World) (hb : MpAt w b s t v) (ha : SlM w v ms) (hp : SlI w pv ps) (hl2 : ms.length ≤ 60) (hpb : PicksB ms.length ps) (hl : ps.length ≤ 200) :
    Calls Try.prog 54 #[.pointer (some ⟨b, 0, none⟩), pv] w fun e w' => e = .returned (.bool true) ∧ Below w.heap.size w w' := by
  obtain ⟨a, ca, rfl, hca, hca'⟩ := ha.form
  have X := Lib.hid hb
  have HP := Lib.hid (fun W (h : Below w.heap.size w W) => hp.below h)
  obtain ⟨pa, pc, rfl, _, _, _⟩ := id hp
  have HPB := Lib.hid hpb
  clear hp hpb ha hb
  go_enter Try.func54, Try.ntmps54
  go_wp2
  go_loopw [5] (fun i wr => ∃ k : Nat, k ≤ ps.length ∧ i = .int .i64 k ∧ Below w.heap.size w wr) (fun i _ => ps.length - (intOf i).toNat)
  case atStart => exact ⟨0, Nat.zero_le _, rfl, Below.refl _ _⟩
  case round =>
    obtain ⟨k, hk, rfl, hbw⟩ := hrel
    by_cases hlt : k < ps.length
    · obtain ⟨x0, x1, x2, x3⟩ := X.out.below hbw
      obtain ⟨_, _, he, _, _, rd⟩ := HP.out _ hbw
      simp only [Value.slice.injEq] at he
      obtain ⟨rfl, _, rfl⟩ := he
      obtain ⟨rb, ro, rfl, gl⟩ := rd.one (i64s_get hlt)
      have hx := HPB.out _ (List.getElem_mem hlt)
      generalize ps[k] = x at gl hx
      have E1 := inR_ok (x := x) (a := 0) (b := (ms.length : Int) - 1) (by omega)
      have D1 := Lib.hid (show ∀ W, Calls Try.prog 40 #[.int .i64 x, .int .i64 0, .int .i64 ((ms.length : Int) - 1)] W fun e w' => e = .returned (.bool true) ∧ Below W.heap.size W w' from fun W => by
        have h := l00In_b x 0 ((ms.length : Int) - 1) W
        rw [E1] at h
        exact h)
      have k3 := fun d os => cell_regrown x3 d os
      have k4 := fun d os => cell_regrown gl d os
      have i1 : (k : Int) < (ps.length : Int) := by omega
      have i0 : (0 : Int) ≤ (k : Int) := by omega
      have r1 : IntKind.i64.wrap ((ms.length : Int) - 1) = (ms.length : Int) - 1 := IntWalk.i64_in _ (by omega)
      clear E1 hx rd
      go_wp2_with fail
      refine wp_region_quiet_below (by kernel_rfl) (by kernel_rfl) ?_
      repeat (first | go_big_quiet_skip | quiet_step (with_reducible exact Calls.regrown_of (D1.out _)))
      refine wpQuiet_nil ?_
      intro _ hw'
      obtain ⟨⟨dq, osq⟩, hw''⟩ := hw'
      subst hw''
      have bq := hbw.trans ((below_regrown wr dq osq).mono hbw.size)
      generalize grow (redrawn wr dq) osq = wq at bq ⊢
      clear k3 k4 x0 x1 x2 x3 gl D1
      go_wp2
      go_roundw
      case rel => exact ⟨k + 1, by omega, by go_num, bq⟩
      case measure => simp [intOf]; omega
    · obtain rfl : k = ps.length := by omega
      have i2 : (ps.length : Int) ≤ 200 := by omega
      go_wp2
      go_ret
      exact ⟨rfl, hbw⟩
theorem allAs_all {l : List Int} : allAs l = true ↔ ∀ (i : Nat) (h : i < l.length), l[i] = l.headD 0 := by
  unfold allAs
  rw [List.all_eq_true]
  simp only [beq_iff_eq, decide_eq_true_eq]
  constructor
  · intro h i hi; exact h _ (List.getElem_mem hi)
  · intro h x hx
    obtain ⟨i, hi, rfl⟩ := List.mem_iff_getElem.1 hx
    exact h i hi
theorem allAs_not {l : List Int} {i : Nat} (h : i < l.length) (hne : l[i] ≠ l.headD 0) : allAs l = false := by
  cases e : allAs l with
  | false => rfl
  | true => exact absurd (allAs_all.1 e i h) hne

set_option maxHeartbeats 1000000 in
theorem l05Equal_any {v : Value} {l : List Int} (w : World) (ha : SlI w v l) :
    Calls Try.prog 86 #[v] w fun e w' => e = .returned (.bool (allAs l)) ∧ Below w.heap.size w w' := by
  have HA := Lib.hid (fun W (h : Below w.heap.size w W) => ha.below h)
  obtain ⟨a, c, rfl, _, hc2, _⟩ := id ha
  unfold maxLen at hc2
  clear ha
  go_enter Try.func86, Try.ntmps86
  go_wp2
  go_loopw [3] (fun i wr => ∃ k : Nat, 1 ≤ k ∧ (k ≤ l.length ∨ k = 1) ∧ i = .int .i64 k ∧ Hid (∀ (j : Nat) (h : j < l.length), j < k → l[j] = l.headD 0) ∧ Below w.heap.size w wr) (fun i _ => l.length - (intOf i).toNat)
  case atStart => exact ⟨1, Nat.le_refl _, .inr rfl, rfl, Lib.hid (fun j h hj => by
    obtain rfl : j = 0 := by omega
    cases l with
    | nil => simp at h
    | cons x l => rfl), Below.refl _ _⟩
  case round =>
    obtain ⟨k, hk1, hk, rfl, hno, hbw⟩ := hrel
    by_cases hlt : k < l.length
    · obtain ⟨_, _, he, _, _, rd⟩ := HA.out _ hbw
      simp only [Value.slice.injEq] at he
      obtain ⟨rfl, _, rfl⟩ := he
      have h0l : 0 < l.length := by omega
      obtain ⟨rb, ro, rfl, gl⟩ := rd.one (i64s_get hlt)
      obtain ⟨_, _, he, g0⟩ := rd.one (i64s_get h0l)
      simp only [Option.some.injEq, Addr.mk.injEq] at he
      obtain ⟨rfl, rfl, _⟩ := he
      simp only [Nat.add_zero] at g0
      have hh : l[0] = l.headD 0 := by
        cases l with
        | nil => simp at h0l
        | cons x l => rfl
      rw [hh] at g0
      have HN := Lib.hid (fun h => allAs_not (l := l) hlt h)
      have HY := Lib.hid (show l[k] = l.headD 0 → ∀ (j : Nat) (h : j < l.length), j < k + 1 → l[j] = l.headD 0 from fun h j hj hjk => by
        by_cases hjk2 : j = k
        · subst hjk2; exact h
        · exact hno.out j hj (by omega))
      generalize l[k] = x at gl HN HY
      obtain ⟨y, hy⟩ : ∃ y, y = l.headD 0 := ⟨_, rfl⟩
      rw [← hy] at g0 HN
      have HYY := Lib.hid hy
      clear hh hy rd
      have k1 := fun d os => cell_regrown gl d os
      have k2 := fun d os => cell_regrown g0 d os
      have i0 : (0 : Int) ≤ (k : Int) := by omega
      have i1 : (k : Int) < (l.length : Int) := by omega
      have i2 : (0 : Int) < (l.length : Int) := by omega
      by_cases hxy : x = y
      · have t1 : (x != y) = false := by simp [hxy]
        have HXY := Lib.hid hxy
        clear hxy
        go_wp2_with fail
        refine wp_region_quiet_below (by kernel_rfl) (by kernel_rfl) ?_
        repeat (first | go_big_quiet_skip | quiet_step (fail))
        refine wpQuiet_nil ?_
        intro _ hw'
        obtain ⟨⟨dq, osq⟩, hw''⟩ := hw'
        subst hw''
        have bq := hbw.trans ((below_regrown wr dq osq).mono hbw.size)
        generalize grow (redrawn wr dq) osq = wq at bq ⊢
        clear k1 k2 gl g0
        go_wp2
        go_roundw
        case rel => exact ⟨k + 1, by omega, .inl (by omega), by go_num, Lib.hid (HY.out (by rw [← HYY.out]; exact HXY.out)), bq⟩
        case measure => simp [intOf]; omega
      · have t1 : (x != y) = true := by simp [hxy]
        have HXY := Lib.hid hxy
        clear hxy
        go_wp2_with fail
        refine wp_region_quiet_below (by kernel_rfl) (by kernel_rfl) ?_
        repeat (first | go_big_quiet_skip | quiet_step (fail))
        refine wpQuiet_nil ?_
        intro _ hw'
        obtain ⟨⟨dq, osq⟩, hw''⟩ := hw'
        subst hw''
        have bq := hbw.trans ((below_regrown wr dq osq).mono hbw.size)
        generalize grow (redrawn wr dq) osq = wq at bq ⊢
        clear k1 k2 gl g0
        go_wp2
        go_ret
        exact ⟨rbf (HN.out HXY.out), bq⟩
    · have hall : allAs l = true := allAs_all.2 (fun i hi => hno.out i hi (by omega))
      have hkl : (l.length : Int) ≤ (k : Int) := by omega
      have HALL := Lib.hid hall
      clear hall
      go_wp2
      go_ret
      exact ⟨rbt HALL.out, hbw⟩

set_option maxRecDepth 100000 in
set_option maxHeartbeats 2000000 in
theorem l05By_any {v u : Value} {ms : List (Int × List Int)} {st : List Int} {s t : Int} (b p : Nat) (w : World) (hb : MpAt w b s t v) (ha : SlM w v ms) (hu : SlI w u st) (hv : mapsOk s t ms) (hp : p < ms.length) (hst : ∀ x ∈ st, 0 ≤ x ∧ x < s) (hl : st.length ≤ 100) :
    Calls Try.prog 96 #[.pointer (some ⟨b, 0, none⟩), u, .int .i64 p] w fun e w' => ∃ r, e = .returned r ∧ OwnI w' w.heap.size r (byM ms st p) ∧ Below w.heap.size w w' := by
  have HA := Lib.hid (fun W (h : Below w.heap.size w W) => ha.below h)
  have HU := Lib.hid (fun W (h : Below w.heap.size w W) => hu.below h)
  have X := Lib.hid hb
  obtain ⟨a, ca, rfl, _, _⟩ := ha.form
  obtain ⟨ua, uc, rfl, _, _, _⟩ := id hu
  obtain ⟨_, _, ⟨_, hl2⟩, hrow, _⟩ := id hv
  have HV := Lib.hid hv
  have HST := Lib.hid hst
  have HROW := Lib.hid hrow
  have own0 := Lib.hid (OwnI.empty w (base := w.heap.size) (Nat.le_refl _))
  have b0 := Lib.hid ((Below.refl w.heap.size w).alloc (Nat.le_refl _) (.cells #[] 2))
  clear hv hst hrow ha hu hb
  go_enter Try.func96, Try.ntmps96
  go_wp2
  go_loopw [7, 8] (fun o i wr => ∃ (j : Nat), j ≤ st.length ∧ i = .int .i64 j ∧ OwnI wr w.heap.size o (byP ms p st j) ∧ Below w.heap.size w wr) (fun _ i _ => st.length - (intOf i).toNat)
  case atStart => exact ⟨0, Nat.zero_le _, rfl, own0.out, b0.out⟩
  case round =>
    clear own0 b0
    obtain ⟨j, hj, rfl, hown, hbw⟩ := hrel
    have HBW := Lib.hid hbw
    have HO := Lib.hid hown
    clear hown
    by_cases hjt : j < st.length
    · obtain ⟨x0, x1, x2, x3⟩ := X.out.below hbw
      obtain ⟨b, off, ra, rc, rfl, hb, d0, d1, sr⟩ := (HA.out _ hbw).at_ hp
      obtain ⟨_, hm2, _⟩ := HROW.out _ (List.getElem_mem hp)
      obtain ⟨_, _, he, _, _, rd⟩ := HU.out _ hbw
      simp only [Value.slice.injEq] at he
      obtain ⟨rfl, _, rfl⟩ := he
      obtain ⟨rb, ro, rfl, gl⟩ := rd.one (i64s_get hjt)
      have hx := HST.out _ (List.getElem_mem hjt)
      have hbt := byM_take (ms := ms) (p := p) hjt
      generalize st[j] = x at gl hx hbt
      obtain ⟨x, rfl⟩ := Int.eq_ofNat_of_zero_le hx.1
      have hxl : x < ms[p].2.length := by omega
      have hg := goM_at hp hxl
      rw [hg] at hbt
      obtain ⟨_, _, he, _, _, rd2⟩ := sr
      simp only [Value.slice.injEq] at he
      obtain ⟨rfl, _, rfl⟩ := he
      obtain ⟨rb2, ro2, rfl, gl2⟩ := rd2.one (i64s_get hxl)
      generalize ms[p].2[x] = y at gl2 hbt hg
      clear hg rd2 rd
      generalize ms[p].2.length = ml at *
      have i1 : (j : Int) < (st.length : Int) := by omega
      have i0 : (0 : Int) ≤ (j : Int) := by omega
      have i2 : (p : Int) < (ms.length : Int) := by omega
      have i3 : (0 : Int) ≤ (p : Int) := by omega
      have i4 : (x : Int) < (ml : Int) := by omega
      have i5 : (0 : Int) ≤ (x : Int) := by omega
      have HBT := Lib.hid hbt
      have hlm : (byP ms p st j).length < 16777216 := by have := byP_len ms p st j; omega
      have k0 := fun d os => cell_regrown x3 d os
      have k1 := fun d os => cell_regrown d1 d os
      have k2 := fun d os => cell_regrown gl d os
      have k3 := fun d os => cell_regrown gl2 d os
      clear hbt
      go_wp2_with fail
      go_region_law (first
        | (refine step_appJ (w0 := w) (w1 := wr) rfl (.tmp 16) (.tmp 31) rfl (y := y) rfl HO.out HBW.out (by (repeat (first | exact Below.refl _ _ | refine Below.drew ?_ | refine Below.alloc ?_ (by simp) _))) rfl (by first | (simp [go_sem]; done) | fail) hlm ?_; intro v5 w5 o5 hb5; rw [← HBT.out] at o5)
        | fail "no arm")
      all_goals
        go_wp2
        go_roundw
        case rel => exact ⟨j + 1, by omega, by go_num, o5, hb5⟩
        case measure => simp [intOf]; omega
    · obtain rfl : j = st.length := by omega
      have ho := HO.out
      rw [byP_all] at ho
      go_wp2
      go_ret
      exact ⟨_, rfl, ho, HBW.out⟩
end Go.Proofs.Ytceobhmbnkheiaa
namespace Go.Proofs.Ytceobhmbnkheiaa
open Go.RowKit Go.Sort
def seqM (ms : List (Int × List Int)) (n : Nat) (ps : List Int) : List Int := ps.foldl (byM ms) (upTo n)
def fwM (ms : List (Int × List Int)) (n : Nat) (ps : List Int) (j : Nat) : List Int := seqM ms n (ps.take j)
theorem fwM_zero (ms : List (Int × List Int)) (n : Nat) (ps : List Int) : fwM ms n ps 0 = upTo n := rfl
theorem fwM_succ {ms : List (Int × List Int)} {n : Nat} {ps : List Int} {j : Nat} (h : j < ps.length) : fwM ms n ps (j + 1) = byM ms (fwM ms n ps j) ps[j] := by
  unfold fwM seqM
  rw [List.take_succ_eq_append_getElem h, List.foldl_append]; rfl
theorem fwM_all (ms : List (Int × List Int)) (n : Nat) (ps : List Int) : fwM ms n ps ps.length = seqM ms n ps := by unfold fwM; rw [List.take_length]
theorem upTo_inM {n : Nat} {x : Int} (h : x ∈ upTo n) : 0 ≤ x ∧ x < n := by
  unfold upTo at h
  rw [List.mem_map] at h
  obtain ⟨i, h, rfl⟩ := h
  have := List.mem_range.1 h; omega
theorem byM_in {s t : Int} {ms : List (Int × List Int)} (hv : mapsOk s t ms) {p : Int} (hp : 0 ≤ p ∧ p < (ms.length : Int)) {st : List Int} (hst : ∀ x ∈ st, 0 ≤ x ∧ x < s) : ∀ x ∈ byM ms st p, 0 ≤ x ∧ x < s := by
  intro x hx
  unfold byM at hx
  rw [List.mem_map] at hx
  obtain ⟨y, hy, rfl⟩ := hx
  exact goM_in hv hp (hst y hy)
theorem foldM_in {s t : Int} {ms : List (Int × List Int)} (hv : mapsOk s t ms) : ∀ {ps : List Int}, PicksB ms.length ps → ∀ {st : List Int}, (∀ x ∈ st, 0 ≤ x ∧ x < s) → (∀ x ∈ ps.foldl (byM ms) st, 0 ≤ x ∧ x < s) ∧ (ps.foldl (byM ms) st).length = st.length
  | [], _, st, h => ⟨h, rfl⟩
  | p :: ps, hp, st, h => by
    rw [List.foldl_cons]
    have h1 := foldM_in hv (ps := ps) (fun q hq => hp q (by simp [hq])) (byM_in hv (hp p (by simp)) h)
    exact ⟨h1.1, by rw [h1.2]; simp [byM]⟩
theorem PicksB.take {n : Nat} {ps : List Int} (h : PicksB n ps) (j : Nat) : PicksB n (ps.take j) := fun p hp => h p (List.mem_of_mem_take hp)
theorem seqM_in {n : Nat} {t : Int} {ms : List (Int × List Int)} (hv : mapsOk n t ms) {ps : List Int} (hp : PicksB ms.length ps) : (∀ x ∈ seqM ms n ps, 0 ≤ x ∧ x < (n : Int)) ∧ (seqM ms n ps).length = n := by
  have h := foldM_in hv hp (st := upTo n) (fun x hx => upTo_inM hx)
  exact ⟨h.1, by have := h.2; rw [upTo_length] at this; exact this⟩
theorem fwM_in {n : Nat} {t : Int} {ms : List (Int × List Int)} (hv : mapsOk n t ms) {ps : List Int} (hp : PicksB ms.length ps) (j : Nat) : (∀ x ∈ fwM ms n ps j, 0 ≤ x ∧ x < (n : Int)) ∧ (fwM ms n ps j).length = n := seqM_in hv (hp.take j)
def hdI (l : List Int) : Int := l.headD 0
/-- the first of the lists whose elements are all the same -/
def firstR (n : Nat) (f : Nat → List Int) : Int × Int × Int :=
  match (List.range (n + 1)).find? (fun k => allAs (f k)) with
  | some k => (hdI (f k), (k : Int), 0)
  | none => (0, 0, 6)
def tupJ (r : Int × Int × Int) : Value := .tuple #[.int .i64 r.1, .int .i64 r.2.1, .int .i64 r.2.2]
theorem firstR_some {n : Nat} {f : Nat → List Int} {k : Nat} (hk : k ≤ n) (h : allAs (f k) = true) (hno : ∀ j, j < k → allAs (f j) = false) : firstR n f = (hdI (f k), (k : Int), 0) := by
  have : (List.range (n + 1)).find? (fun k => allAs (f k)) = some k := by
    rw [List.find?_range_eq_some]
    exact ⟨h, by simp; omega, fun j hj => by simp [hno j hj]⟩
  unfold firstR
  rw [this]
theorem firstR_none {n : Nat} {f : Nat → List Int} (hno : ∀ j, j ≤ n → allAs (f j) = false) : firstR n f = (0, 0, 6) := by
  have : (List.range (n + 1)).find? (fun k => allAs (f k)) = none := by
    rw [List.find?_eq_none]
    intro k hk
    have := List.mem_range.1 hk
    simp [hno k (by omega)]
  unfold firstR
  rw [this]
theorem firstR_spec (n : Nat) (f : Nat → List Int) : (∃ k, k ≤ n ∧ firstR n f = (hdI (f k), (k : Int), 0) ∧ allAs (f k) = true ∧ ∀ j, j < k → allAs (f j) = false) ∨ (firstR n f = (0, 0, 6) ∧ ∀ j, j ≤ n → allAs (f j) = false) := by
  cases hf : (List.range (n + 1)).find? (fun k => allAs (f k)) with
  | none =>
    right
    have h : ∀ j, j ≤ n → allAs (f j) = false := fun j hj => by
      rw [List.find?_eq_none] at hf
      have := hf j (List.mem_range.2 (by omega))
      simpa using this
    exact ⟨firstR_none h, h⟩
  | some k =>
    left
    rw [List.find?_range_eq_some] at hf
    obtain ⟨h1, h2, h3⟩ := hf
    have hk : k ≤ n := by simp at h2; omega
    have hn : ∀ j, j < k → allAs (f j) = false := fun j hj => by simpa using h3 j hj
    exact ⟨k, hk, firstR_some hk h1 hn, h1, hn⟩
theorem headJ {l : List Int} (h : 0 < l.length) : l[0] = hdI l := by
  cases l with
  | nil => simp at h
  | cons x l => rfl
/-- the first element of a list that is not empty -/
theorem SlI.first {w : World} {v : Value} {l : List Int} (h : SlI w v l) (hl : 0 < l.length) : ∃ b off c, v = .slice (some ⟨b, off, none⟩) l.length c ∧ w.cell? ⟨b, off, none⟩ = some (.int .i64 (hdI l)) := by
  obtain ⟨a, c, rfl, _, _, rd⟩ := h
  obtain ⟨b, off, rfl, g⟩ := rd.one (i64s_get hl)
  rw [headJ hl] at g
  exact ⟨b, off, c, rfl, by simpa using g⟩
theorem SlI.nth {w : World} {ad : Option Addr} {n c : Nat} {xs : List Int} (h : SlI w (.slice ad n c) xs) {k : Nat} (hk : k < xs.length) : ∃ b off, ad = some ⟨b, off, none⟩ ∧ w.cell? ⟨b, off + k, none⟩ = some (.int .i64 xs[k]) := by
  obtain ⟨b, off, h1, _, h2⟩ := h.at_ hk
  exact ⟨b, off, h1, h2⟩
end Go.Proofs.Ytceobhmbnkheiaa
namespace Go.Proofs.Ytceobhmbnkheiaa
open Go.RowKit Go.Sort
def sameTo (l : List Int) (x : Nat) : Bool := (l.take x).all (fun y => decide (y = hdI l))
theorem sameTo_one {l : List Int} (h : 0 < l.length) : sameTo l 1 = true := by
  cases l with
  | nil => simp at h
  | cons a l => simp [sameTo, hdI]
theorem sameTo_succ {l : List Int} {x : Nat} (h : x < l.length) : sameTo l (x + 1) = (sameTo l x && decide (l[x] = hdI l)) := by
  unfold sameTo
  rw [List.take_succ_eq_append_getElem h, List.all_append]; simp
theorem sameTo_all (l : List Int) : sameTo l l.length = allAs l := by
  unfold sameTo allAs hdI
  rw [List.take_length]
theorem SlI.takeJ {w : World} {ad : Option Addr} {n c : Nat} {xs : List Int} (h : SlI w (.slice ad n c) xs) {i : Nat} (hi : i ≤ xs.length) : SlI w (.slice ad i c) (xs.take i) := by
  obtain ⟨a, c', he, h2, h3, h4⟩ := h
  simp only [Value.slice.injEq] at he
  obtain ⟨rfl, rfl, rfl⟩ := he
  have hl : (xs.take i).length = i := by rw [List.length_take]; omega
  refine ⟨ad, c, by rw [hl], by omega, h3, fun j u hu => h4 j u ?_⟩
  have hj : j < (xs.take i).length := by rw [← i64s_length]; exact (List.getElem?_eq_some_iff.1 hu).1
  have hjx : j < xs.length := by omega
  rw [i64s_get hj] at hu
  rw [i64s_get hjx, ← hu]; simp
/-- what the law of runs forward looks at -/
theorem firstR_law (n : Nat) (f : Nat → List Int) : ∃ (a b c l : Int), firstR n f = (a, b, c) ∧ ((c = 0 ∧ l = b ∧ 0 ≤ b ∧ b ≤ n) ∨ (c = 6 ∧ l = (n : Int) + 1)) ∧ ∀ i : Nat, i ≤ n → (i : Int) ≤ l → (allAs (f i) = decide ((i : Int) = l)) ∧ (allAs (f i) = true → hdI (f i) = a) := by
  rcases firstR_spec n f with ⟨k, hk, h1, h2, h3⟩ | ⟨h1, h2⟩
  · refine ⟨_, _, _, k, h1, .inl ⟨rfl, rfl, by omega, by omega⟩, fun i hi hik => ?_⟩
    rcases Nat.lt_or_ge i k with h | h
    · rw [h3 i h]
      exact ⟨by symm; rw [decide_eq_false_iff_not]; omega, by intro h; cases h⟩
    · obtain rfl : i = k := by omega
      rw [h2]
      exact ⟨by simp, fun _ => rfl⟩
  · refine ⟨_, _, _, (n : Int) + 1, h1, .inr ⟨rfl, rfl⟩, fun i hi hik => ?_⟩
    rw [h2 i hi]
    exact ⟨by symm; rw [decide_eq_false_iff_not]; omega, by intro h; cases h⟩
end Go.Proofs.Ytceobhmbnkheiaa
namespace Go.Proofs.Ytceobhmbnkheiaa
open Go.RowKit Go.Sort
def pastM (ms : List (Int × List Int)) (n : Nat) (ps : List Int) (k : Nat) : List Int := seqM ms n (ps.take k).reverse
theorem PicksB.rev {n : Nat} {ps : List Int} (h : PicksB n ps) : PicksB n ps.reverse := fun p hp => h p (List.mem_reverse.1 hp)
theorem PicksB.drop {n : Nat} {ps : List Int} (h : PicksB n ps) (j : Nat) : PicksB n (ps.drop j) := fun p hp => h p (List.mem_of_mem_drop hp)
theorem pastM_in {n : Nat} {t : Int} {ms : List (Int × List Int)} (hv : mapsOk n t ms) {ps : List Int} (hp : PicksB ms.length ps) (j : Nat) : (∀ x ∈ pastM ms n ps j, 0 ≤ x ∧ x < (n : Int)) ∧ (pastM ms n ps j).length = n := seqM_in hv (hp.take j).rev
/-- backward from a list of picks -/
def backM (ms : List (Int × List Int)) (st ps : List Int) (j : Nat) : List Int := (ps.drop j).reverse.foldl (byM ms) st
theorem backM_all (ms : List (Int × List Int)) (st ps : List Int) : backM ms st ps ps.length = st := by unfold backM; simp
theorem backM_step {ms : List (Int × List Int)} {st ps : List Int} {j : Nat} (h : j < ps.length) : backM ms st ps j = byM ms (backM ms st ps (j + 1)) ps[j] := by
  unfold backM
  rw [List.drop_eq_getElem_cons h, List.reverse_cons, List.foldl_append]; rfl
theorem backM_past (ms : List (Int × List Int)) (n : Nat) (ps : List Int) (k : Nat) : backM ms (upTo n) (ps.take k) 0 = pastM ms n ps k := rfl
theorem backM_in {s t : Int} {ms : List (Int × List Int)} (hv : mapsOk s t ms) {ps : List Int} (hp : PicksB ms.length ps) {st : List Int} (h : ∀ x ∈ st, 0 ≤ x ∧ x < s) (j : Nat) : (∀ x ∈ backM ms st ps j, 0 ≤ x ∧ x < s) ∧ (backM ms st ps j).length = st.length := foldM_in hv (hp.drop j).rev h
/-- runs that look back farther and farther -/
def runGo (nx : Nat → Nat) (L : Nat) (f : Nat → List Int) : Nat → Nat → Int × Int × Int
  | 0, _ => (0, 0, 6)
  | F + 1, k => if k ≤ L then (if allAs (f k) then (hdI (f k), (k : Int), 0) else runGo nx L f F (nx k)) else (0, 0, 6)
def runR (nx : Nat → Nat) (L : Nat) (f : Nat → List Int) : Int × Int × Int := if allAs (f 0) then (hdI (f 0), 0, 0) else runGo nx L f (L + 1) 1
theorem runGo_out {nx : Nat → Nat} {L : Nat} {f : Nat → List Int} {F k : Nat} (h : L < k) : runGo nx L f F k = (0, 0, 6) := by
  cases F with
  | zero => rfl
  | succ F => unfold runGo; rw [if_neg (by omega)]
theorem runGo_hit {nx : Nat → Nat} {L : Nat} {f : Nat → List Int} {F k : Nat} (h : k ≤ L) (hF : L < k + F) (ha : allAs (f k) = true) : runGo nx L f F k = (hdI (f k), (k : Int), 0) := by
  cases F with
  | zero => omega
  | succ F => unfold runGo; rw [if_pos h, if_pos ha]
theorem runGo_miss {nx : Nat → Nat} {L : Nat} {f : Nat → List Int} {F k : Nat} (h : k ≤ L) (hF : L < k + F) (ha : allAs (f k) = false) : ∃ F', runGo nx L f F k = runGo nx L f F' (nx k) ∧ F = F' + 1 := by
  cases F with
  | zero => omega
  | succ F => refine ⟨F, ?_, rfl⟩; conv => lhs; unfold runGo
              rw [if_pos h, ha]; rfl

set_option maxRecDepth 100000 in
set_option maxHeartbeats 4000000 in
theorem fromPast_any {v u pv : Value} {ms : List (Int × List Int)} {st ps : List Int} {s t : Int} (w : World) (ha : SlM w v ms) (hu : SlI w u st) (hp : SlI w pv ps) (hv : mapsOk s t ms) (hst : ∀ x ∈ st, 0 ≤ x ∧ x < s) (hl : st.length ≤ 100) (hpb : PicksB ms.length ps) (hpl : ps.length ≤ 100) :
    Calls Try.prog 82 #[.agg #[.int .i64 s, .int .i64 t, v], u, pv] w fun e w' => ∃ r, e = .returned r ∧ SlI w' r (backM ms st ps 0) ∧ Below w.heap.size w w' := by
  have HA := Lib.hid (fun W (h : Below w.heap.size w W) => ha.below h)
  have HU := Lib.hid (fun W (h : Below w.heap.size w W) => hu.below h)
  have HP := Lib.hid (fun W (h : Below w.heap.size w W) => hp.below h)
  obtain ⟨a, ca, rfl, _, _⟩ := ha.form
  obtain ⟨pa, pc, rfl, _, _, _⟩ := id hp
  have BX := Lib.hid (mpBelow w s t (.slice a ms.length ca))
  have X := Lib.hid (MpAt.new w s t (.slice a ms.length ca))
  have HV := Lib.hid hv
  have HST := Lib.hid hst
  have HPB := Lib.hid hpb
  clear hv hst ha hu hp hpb
  go_enter Try.func82, Try.ntmps82
  go_wp2
  go_loopw [1, 7] (fun sv i wr => ∃ (j : Nat), j ≤ ps.length ∧ i = .int .i64 ((j : Int) - 1) ∧ SlI wr sv (backM ms st ps j) ∧ Below (w.alloc (.cells #[.int .i64 s, .int .i64 t, .slice a ms.length ca] 26)).heap.size (w.alloc (.cells #[.int .i64 s, .int .i64 t, .slice a ms.length ca] 26)) wr) (fun _ i _ => (intOf i + 1).toNat)
  case atStart => exact ⟨ps.length, Nat.le_refl _, rfl, by rw [backM_all]; exact HU.out _ BX.out, Below.refl _ _⟩
  case round =>
    obtain ⟨j, hj, rfl, hsl, hbw⟩ := hrel
    have HBW := Lib.hid hbw
    by_cases hj0 : 0 < j
    · obtain ⟨q, rfl⟩ : ∃ q, j = q + 1 := ⟨j - 1, by omega⟩
      have e0 : ((q + 1 : Nat) : Int) - 1 = (q : Int) := by omega
      simp only [e0]
      have hq : q < ps.length := by omega
      obtain ⟨hin, hlen⟩ := backM_in HV.out HPB.out HST.out (q + 1)
      have hbs := backM_step (ms := ms) (st := st) hq
      generalize backM ms st ps (q + 1) = R at hsl hin hlen hbs
      have HSL := Lib.hid hsl
      have HIN := Lib.hid hin
      have HLEN := Lib.hid hlen
      obtain ⟨x0, x1, x2, x3⟩ := X.out.below hbw
      have bw2 := BX.out.trans (hbw.mono BX.out.size)
      obtain ⟨rb, ro, rfl, gl⟩ := (HP.out _ bw2).nth hq
      have hx := HPB.out _ (List.getElem_mem hq)
      generalize ps[q] = x at gl hx hbs
      obtain ⟨x, rfl⟩ := Int.eq_ofNat_of_zero_le hx.1
      have hxl : x < ms.length := by omega
      have HBS := Lib.hid hbs
      have BW2 := Lib.hid bw2
      have i0 : (0 : Int) ≤ (q : Int) := by omega
      have i1 : (q : Int) < (ps.length : Int) := by omega
      have k0 := fun d os => cell_regrown x1 d os
      have k1 := fun d os => cell_regrown x2 d os
      have k2 := fun d os => cell_regrown x3 d os
      have k3 := fun d os => cell_regrown gl d os
      obtain ⟨ra, rc, rfl, _, _, _⟩ := id hsl
      clear hx hbs bw2 x0 hbw hsl hin hlen e0
      go_wp2_with fail
      go_region_law (first
        | (go_simp; go_at_call 95; refine (goBy_any x _ ((HA.out _ BW2.out).below (by (repeat (first | exact Below.refl _ _ | refine Below.drew ?_ | refine Below.alloc ?_ (by simp) _)))) (HSL.out.below (by (repeat (first | exact Below.refl _ _ | refine Below.drew ?_ | refine Below.alloc ?_ (by simp) _)))) HV.out hxl HIN.out (by have := HLEN.out; omega)).mono ?_; rintro e w4 ⟨r, rfl, o4, b4⟩; have bw4 := below_of (a := wr) (by (repeat (first | exact Below.refl _ _ | refine Below.drew ?_ | refine Below.alloc ?_ (by simp) _))) b4)
        | fail "no arm")
      all_goals
        have HB9 := Lib.hid (HBW.out.trans (bw4.mono HBW.out.size))
        have HO9 := Lib.hid o4.sl
        clear o4 b4 bw4 k0 k1 k2 k3 x1 x2 x3 gl
        go_wp2
        go_roundw
        case rel => exact ⟨q, by omega, rfl, by rw [HBS.out]; exact HO9.out, HB9.out⟩
        case measure => simp [intOf]
    · obtain rfl : j = 0 := by omega
      go_wp2
      go_ret
      exact ⟨_, rfl, hsl, BX.out.trans (hbw.mono BX.out.size)⟩
-- RUNS

theorem nextPast_any (k : Nat) (w : World) (hk : k ≤ 1000) : Calls Try.prog 49 #[.int .i64 k] w fun e w' => e = .returned (.int .i64 ((k + 1 : Nat) : Int)) ∧ w = w' := by
  have r1 : IntKind.i64.wrap ((k : Int) + 1) = ((k + 1 : Nat) : Int) := by rw [IntWalk.i64_in _ (by omega)]; omega
  go_enter Try.func49, Try.ntmps49
  go_wp2
  go_ret
  exact ⟨ri (by omega), rfl⟩
set_option maxRecDepth 100000 in
set_option maxHeartbeats 4000000 in
theorem runPast_any {v u pv : Value} {ms : List (Int × List Int)} {ps : List Int} {t : Int} (n : Nat) (w : World) (ha : SlM w v ms) (hu : SlI w u (upTo n)) (hp : SlI w pv ps) (hv : mapsOk n t ms) (hpb : PicksB ms.length ps) (hpl : ps.length ≤ 100) :
    Calls Try.prog 48 #[.agg #[.int .i64 n, .int .i64 t, v], u, pv, .int .i64 1, .func (.func 49) #[] #[]] w fun e w' => e = .returned (tupJ (runR (fun k => k + 1) ps.length (pastM ms n ps))) ∧ Below w.heap.size w w' := by
  have HA := Lib.hid (fun W (h : Below w.heap.size w W) => ha.below h)
  have HU := Lib.hid (fun W (h : Below w.heap.size w W) => hu.below h)
  have HP := Lib.hid (fun W (h : Below w.heap.size w W) => hp.below h)
  obtain ⟨a, ca, rfl, _, _⟩ := ha.form
  obtain ⟨pa, pc, rfl, hpc, _, _⟩ := id hp
  have BX := Lib.hid (mpBelow w n t (.slice a ms.length ca))
  have X := Lib.hid (MpAt.new w n t (.slice a ms.length ca))
  obtain ⟨⟨hn1, hn2⟩, _⟩ := id hv
  have HV := Lib.hid hv
  have HPB := Lib.hid hpb
  have hul : 0 < (upTo n).length := by rw [upTo_length]; omega
  obtain ⟨fb, fo, fc, rfl, g0⟩ := (hu.below BX.out).first hul
  have hun : (upTo n).length = n := upTo_length n
  rw [hun] at HU ⊢
  have hn0 : (0 : Int) < (n : Int) := by omega
  have hn0' : 0 < n := by omega
  have HUL := Lib.hid hul
  have hR := Lib.hid (show allAs (upTo n) = true → runR (fun k => k + 1) ps.length (pastM ms n ps) = (hdI (upTo n), 0, 0) from fun h => by unfold runR; rw [show pastM ms n ps 0 = upTo n from rfl, if_pos h])
  have hR2 := Lib.hid (show allAs (upTo n) = false → runR (fun k => k + 1) ps.length (pastM ms n ps) = runGo (fun k => k + 1) ps.length (pastM ms n ps) (ps.length + 1) 1 from fun h => by unfold runR; rw [show pastM ms n ps 0 = upTo n from rfl, h]; rfl)
  generalize runR (fun k => k + 1) ps.length (pastM ms n ps) = RES at hR hR2 ⊢
  generalize hm : allAs (upTo n) = M at hR hR2
  have HM := Lib.hid hm
  clear hm hv ha hu hp hpb hul hun
  cases M
  · have HRES := Lib.hid (hR2.out rfl)
    clear hR hR2 g0
    go_enter Try.func48, Try.ntmps48
    go_wp2_with fail
    refine (allSame_any _ (HU.out _ BX.out) HUL.out).mono ?_
    rintro e w1 ⟨rfl, rfl⟩
    rw [HM.out]
    go_wp2
    go_loopw [13] (fun i wr => ∃ (k F : Nat), 1 ≤ k ∧ k ≤ 2 * ps.length + 1 ∧ i = .int .i64 k ∧ Hid (ps.length < k + F) ∧ Hid (RES = runGo (fun k => k + 1) ps.length (pastM ms n ps) F k) ∧ Below (w.alloc (.cells #[.int .i64 n, .int .i64 t, .slice a ms.length ca] 26)).heap.size (w.alloc (.cells #[.int .i64 n, .int .i64 t, .slice a ms.length ca] 26)) wr) (fun i _ => 2 * ps.length + 2 - (intOf i).toNat)
    case atStart => exact ⟨1, ps.length + 1, Nat.le_refl _, by omega, rfl, Lib.hid (by omega), HRES, Below.refl _ _⟩
    case round =>
      obtain ⟨k, F, hk1, hk2, rfl, hF, hres, hbw⟩ := hrel
      have HBW := Lib.hid hbw
      by_cases hkl : k ≤ ps.length
      · obtain ⟨x0, x1, x2, x3⟩ := X.out.below hbw
        have bw2 := BX.out.trans (hbw.mono BX.out.size)
        have HPT := Lib.hid ((HP.out _ bw2).takeJ (i := k) hkl)
        have HU2 := Lib.hid (HU.out _ bw2)
        have BW2 := Lib.hid bw2
        obtain ⟨hin, hlen⟩ := pastM_in HV.out HPB.out k
        have hhit := runGo_hit (nx := fun k => k + 1) (f := pastM ms n ps) hkl hF.out
        have hmiss := runGo_miss (nx := fun k => k + 1) (f := pastM ms n ps) hkl hF.out
        rw [← hres.out] at hhit hmiss
        have HHIT := Lib.hid hhit
        have HMISS := Lib.hid hmiss
        have i0 : (0 : Int) ≤ (k : Int) := by omega
        have i1 : (k : Int) ≤ (ps.length : Int) := by omega
        have i2 : (k : Int) ≤ (pc : Int) := by omega
        have k0 := fun d os => cell_regrown x1 d os
        have k1 := fun d os => cell_regrown x2 d os
        have k2 := fun d os => cell_regrown x3 d os
        clear x0 hbw bw2 hhit hmiss hin
        go_wp2_with fail
        go_region_law (first
          | (go_simp; go_at_call 82; refine (fromPast_any _ ((HA.out _ BW2.out).below (by (repeat (first | exact Below.refl _ _ | refine Below.drew ?_ | refine Below.alloc ?_ (by simp) _)))) (HU2.out.below (by (repeat (first | exact Below.refl _ _ | refine Below.drew ?_ | refine Below.alloc ?_ (by simp) _)))) (HPT.out.below (by (repeat (first | exact Below.refl _ _ | refine Below.drew ?_ | refine Below.alloc ?_ (by simp) _)))) HV.out (fun x hx => upTo_inM hx) (by rw [upTo_length]; omega) (HPB.out.take k) (by rw [List.length_take]; omega)).mono ?_; rintro e w4 ⟨r, rfl, o4, b4⟩; have bw4 := below_of (a := wr) (by (repeat (first | exact Below.refl _ _ | refine Below.drew ?_ | refine Below.alloc ?_ (by simp) _))) b4)
          | fail "no arm")
        all_goals
          have HB9 := Lib.hid (HBW.out.trans (bw4.mono HBW.out.size))
          rw [backM_past] at o4
          generalize pastM ms n ps k = R at o4 HHIT HMISS hlen
          have hrl : 0 < R.length := by omega
          obtain ⟨rb, ro, rc, rfl, q0⟩ := o4.first hrl
          rw [hlen] at o4 ⊢
          have O4 := Lib.hid o4
          have HRL := Lib.hid hrl
          generalize hm2 : allAs R = M2 at HHIT HMISS
          have HM2 := Lib.hid hm2
          have r0 : IntKind.i64.wrap (k : Int) = (k : Int) := IntWalk.i64_in _ (by omega)
          clear o4 b4 bw4 k0 k1 k2 x1 x2 x3 hlen hrl hm2
          cases M2
          · obtain ⟨F', hF1, hF2⟩ := HMISS.out rfl
            have HF1 := Lib.hid hF1
            have HF2 := Lib.hid hF2
            clear hF1 hF2 q0
            go_wp2_with fail
            refine (allSame_any _ O4.out HRL.out).mono ?_
            rintro e w5 ⟨rfl, rfl⟩
            rw [HM2.out]
            go_wp2_with fail
            refine (nextPast_any k _ (by omega)).mono ?_
            rintro e w5 ⟨rfl, rfl⟩
            go_wp2
            go_roundw
            case rel => exact ⟨k + 1, F', by omega, by omega, by go_num, Lib.hid (by have := hF.out; have := HF2.out; omega), HF1, HB9.out⟩
            case measure => simp [intOf]; omega
          · have HH := Lib.hid (HHIT.out rfl)
            go_wp2_with fail
            refine (allSame_any _ O4.out HRL.out).mono ?_
            rintro e w5 ⟨rfl, rfl⟩
            rw [HM2.out]
            go_wp2
            go_ret3
            exact ⟨by rw [HH.out]; rfl, BX.out.trans (HB9.out.mono BX.out.size)⟩
      · have HH := Lib.hid (hres.out.trans (runGo_out (by omega)))
        have i1 : ¬ (k : Int) ≤ (ps.length : Int) := by omega
        go_wp2
        go_ret3
        exact ⟨by rw [HH.out]; rfl, BX.out.trans (HBW.out.mono BX.out.size)⟩
  · have HRES := Lib.hid (hR.out rfl)
    clear hR hR2
    go_enter Try.func48, Try.ntmps48
    go_wp2_with fail
    refine (allSame_any _ (HU.out _ BX.out) HUL.out).mono ?_
    rintro e w1 ⟨rfl, rfl⟩
    rw [HM.out]
    go_wp2
    go_ret3
    exact ⟨by rw [HRES.out]; rfl, BX.out⟩

set_option maxRecDepth 100000 in
set_option maxHeartbeats 4000000 in
theorem ImplPastRun_any {v pv : Value} {ms : List (Int × List Int)} {ps : List Int} {t : Int} (n : Nat) (w : World) (ha : SlM w v ms) (hp : SlI w pv ps) (hv : mapsOk n t ms) (hpb : PicksB ms.length ps) (hl : ps.length ≤ 100) :
    Calls Try.prog 15 #[.agg #[.int .i64 n, .int .i64 t, v], pv] w fun e w' => e = .returned (tupJ (runR (fun k => k + 1) ps.length (pastM ms n ps))) ∧ Below w.heap.size w w' := by
  have HA := Lib.hid (fun W (h : Below w.heap.size w W) => ha.below h)
  have HP := Lib.hid (fun W (h : Below w.heap.size w W) => hp.below h)
  obtain ⟨a, ca, rfl, _, _⟩ := ha.form
  obtain ⟨pa, pc, rfl, _, _, _⟩ := id hp
  have BX := Lib.hid (mpBelow w n t (.slice a ms.length ca))
  have X := Lib.hid (MpAt.new w n t (.slice a ms.length ca))
  obtain ⟨⟨hn1, hn2⟩, _⟩ := id hv
  have HV := Lib.hid hv
  have HPB := Lib.hid hpb
  clear hv hpb ha hp
  go_enter Try.func15, Try.ntmps15
  go_wp2_with fail
  refine (picksCode_ok _ (HA.out _ BX.out) (HP.out _ BX.out) HV.out HPB.out (by omega)).mono ?_
  rintro e w1 ⟨rfl, b1⟩
  have X1 := Lib.hid (X.out.below b1)
  have B1 := Lib.hid (BX.out.trans (b1.mono BX.out.size))
  obtain ⟨x0, x1, x2, x3⟩ := X1.out
  have k0 := fun d os => cell_regrown x1 d os
  have k1 := fun d os => cell_regrown x2 d os
  have k2 := fun d os => cell_regrown x3 d os
  have HRUN := Lib.hid (fun (W : World) (u : Value) (h : Below w.heap.size w W) (hu : SlI W u (upTo n)) => runPast_any (v := .slice a ms.length ca) (pv := .slice pa ps.length pc) n W (HA.out W h) hu (HP.out W h) HV.out HPB.out hl)
  generalize hR : runR (fun k => k + 1) ps.length (pastM ms n ps) = R at HRUN ⊢
  have HRR := Lib.hid hR
  clear b1 hR
  go_wp2_with fail
  go_region_law (first
    | (go_simp; go_at_call 48; refine (HRUN.out _ _ HB4 O4).mono ?_; rintro e w5 ⟨rfl, b5⟩; have bw5 := below_of (a := w) HB4 b5; obtain ⟨R1, R2, R3⟩ := R; rw [show tupJ (R1, R2, R3) = .tuple #[.int .i64 R1, .int .i64 R2, .int .i64 R3] from rfl])
    | (go_simp; go_at_call 50; refine (everyState_any n _ (by omega)).mono ?_; rintro e w4 ⟨u, rfl, o4, b4⟩; have O4 := o4.sl; have bw4 := below_of (a := w1) (by (repeat (first | exact Below.refl _ _ | refine Below.drew ?_ | refine Below.alloc ?_ (by simp) _))) b4; have X4 := X1.out.below bw4; have y1 := X4.2.1; have y2 := X4.2.2.1; have y3 := X4.2.2.2; have HB4 := B1.out.trans ((below_of (a := w1) (by (repeat (first | exact Below.refl _ _ | refine Below.drew ?_ | refine Below.alloc ?_ (by simp) _))) b4).mono B1.out.size))
    | fail "no arm")
  all_goals
    go_wp2
    go_ret3
    exact ⟨by rw [HRR.out]; simp [tupJ, Act.put, go_sem], bw5⟩
end Go.Proofs.Ytceobhmbnkheiaa
