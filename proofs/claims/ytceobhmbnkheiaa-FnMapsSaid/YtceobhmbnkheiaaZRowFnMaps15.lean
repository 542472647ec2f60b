/-
  The source of drawn numbers: its box, next, pick and one.
-/
import Derived.Test.YtceobhmbnkheiaaZRowFnMaps4
import Derived.Test.YtceobhmbnkheiaaZRowFnMaps7
import Derived.Laws.BitsLemmas
import Derived.Laws.Bits64
import Derived.Laws.BitsAllLaws
set_option linter.unusedVariables false
set_option linter.unusedSimpArgs false
namespace Go.Proofs.Ytceobhmbnkheiaa
open Go.RowKit Go.Sort
/-- a source in its box b, at most K numbers taken -/
structure SrcV (w : World) (b : Nat) (ad : Option Addr) (n c at' : Nat) (seed : Int) : Prop where
  cs : CellsAt w b [.slice ad n c, .int .i64 at', .int .u64 seed]
  fr : ∀ i, w.frozen? ⟨b, i, none⟩ = false
  len : n ≤ 4096
  rd : ∀ i, i < n → ∃ blk off x, ad = some ⟨blk, off, none⟩ ∧ blk < b ∧ w.cell? ⟨blk, off + i, none⟩ = some (.int .u8 x) ∧ 0 ≤ x ∧ x < 256
def SrcB (w : World) (b K : Nat) : Prop := ∃ ad n c at' seed, SrcV w b ad n c at' seed ∧ at' ≤ K
theorem SrcV.fs {S : Nat → Prop} {w w' : World} {b n c at' : Nat} {ad : Option Addr} {seed : Int} (h : SrcV w b ad n c at' seed) (hf : Fs S w w') (hS : ∀ k, S k → b < k) : SrcV w' b ad n c at' seed := by
  have hb := h.cs.1
  refine ⟨h.cs.fs hf (fun hs => by have := hS b hs; omega), fun i => ?_, h.len, fun i hi => ?_⟩
  · have := hf.block b hb (fun hs => by have := hS b hs; omega)
    have h2 := h.fr i
    simpa [World.frozen?, this] using h2
  · obtain ⟨blk, off, x, h1, h2, h3, h4⟩ := h.rd i hi
    exact ⟨blk, off, x, h1, h2, by rw [hf.cell (p := ⟨blk, off + i, none⟩) (show blk < w.heap.size by omega) (fun hs => by have := hS blk hs; omega)]; exact h3, h4⟩
theorem SrcB.fs {S : Nat → Prop} {w w' : World} {b K : Nat} (h : SrcB w b K) (hf : Fs S w w') (hS : ∀ k, S k → b < k) : SrcB w' b K := by
  obtain ⟨ad, n, c, at', seed, h1, h2⟩ := h
  exact ⟨ad, n, c, at', seed, h1.fs hf hS, h2⟩
theorem SrcB.below {w w' : World} {b K : Nat} (h : SrcB w b K) (hb : Below w.heap.size w w') : SrcB w' b K := h.fs (S := fun _ => False) (Fs.of_below hb) (fun _ h => h.elim)
theorem SrcB.lt {w : World} {b K : Nat} (h : SrcB w b K) : b < w.heap.size := by
  obtain ⟨_, _, _, _, _, h1, _⟩ := h
  exact h1.cs.1
theorem SrcB.more {w : World} {b K K' : Nat} (h : SrcB w b K) (hk : K ≤ K') : SrcB w b K' := by
  obtain ⟨ad, n, c, at', seed, h1, h2⟩ := h
  exact ⟨ad, n, c, at', seed, h1, by omega⟩
theorem SrcV.set {w : World} {b n c at' : Nat} {ad : Option Addr} {seed : Int} (h : SrcV w b ad n c at' seed) (at2 : Nat) (seed2 : Int) : SrcV ((w.setCell ⟨b, 1, none⟩ (.int .i64 at2)).setCell ⟨b, 2, none⟩ (.int .u64 seed2)) b ad n c at2 seed2 := by
  have c0 := h.cs.get 0 _ rfl
  have c1 := h.cs.get 1 _ rfl
  have c2 := h.cs.get 2 _ rfl
  refine ⟨⟨by simpa using h.cs.1, fun i v hv => ?_⟩, fun i => by simpa using h.fr i, h.len, fun i hi => ?_⟩
  · match i, hv with
    | 0, hv => simp at hv; subst hv; simp [go_sem, c0]
    | 1, hv => simp at hv; subst hv; simp [go_sem, c1]
    | 2, hv => simp at hv; subst hv; simp [go_sem, c2]
  · obtain ⟨blk, off, x, h1, h2, h3, h4⟩ := h.rd i hi
    refine ⟨blk, off, x, h1, h2, ?_, h4⟩
    have hne : blk ≠ b := by omega
    simp [go_sem, hne, Ne.symm hne, h3]
theorem wraps_u64 (n : Int) (h0 : 0 ≤ n) (h1 : n < 2 ^ 30) : IntKind.u64.wrap n = n := by rw [IntKind.wrap_u64]; omega
theorem and_255 (x : Int) (h0 : 0 ≤ x) (h : x < 2 ^ 30) : bits .and .u64 x 255 = x % 256 := by
  have := bits_mask .u64 30 (by decide) wraps_u64 8 (by decide) x h0 h
  rw [show ((2 : Int) ^ 8 - 1) = 255 from rfl] at this
  rw [this]; rfl

set_option maxRecDepth 100000 in
set_option maxHeartbeats 4000000 in
theorem next_any (b K : Nat) (w : World) (hs : SrcB w b K) (hK : K ≤ 1000000000) :
    Calls Try.prog 77 #[.pointer (some ⟨b, 0, none⟩)] w fun e w' => ∃ x : Int, e = .returned (.int .i64 x) ∧ 0 ≤ x ∧ x < 256 ∧ SrcB w' b (K + 1) ∧ Fs (fun k => k = b) w w' := by
  obtain ⟨ad, n, c, q, seed, hv, hq⟩ := hs
  have HV := Lib.hid hv
  have hn := hv.len
  obtain ⟨Q1, hQ1⟩ : ∃ Q1, Q1 = q + 1 := ⟨_, rfl⟩
  have r1 : IntKind.i64.wrap ((q : Int) + 1) = (Q1 : Int) := by rw [IntWalk.i64_in _ (by omega)]; omega
  have i0 : (0 : Int) ≤ (q : Int) := by omega
  have HQ1 := Lib.hid hQ1
  obtain ⟨s1, hs1⟩ : ∃ s1, IntKind.u64.wrap (seed * 6364136223846793005) = s1 := ⟨_, rfl⟩
  clear hv
  by_cases hlt : q < n
  · obtain ⟨blk, off, x, rfl, hbb, gx, hx0, hx1⟩ := HV.out.rd q hlt
    have kx := fun d os => cell_regrown gx d os
    have i1 : (q : Int) < (n : Int) := by omega
    have i2 : (Q1 : Int) ≤ (n : Int) := by omega
    have rx : IntKind.i64.wrap x = x := IntWalk.i64_in _ (by omega)
    have ru : IntKind.u64.wrap x = x := by rw [IntKind.wrap_u64]; omega
    obtain ⟨s2, hs2⟩ : ∃ s2, IntKind.u64.wrap (s1 + x) = s2 := ⟨_, rfl⟩
    obtain ⟨s3, hs3⟩ : ∃ s3, IntKind.u64.wrap (s2 + 1442695040888963407) = s3 := ⟨_, rfl⟩
    clear hQ1
    have c0 := HV.out.cs.get 0 _ rfl
    have c1 := HV.out.cs.get 1 _ rfl
    have c2 := HV.out.cs.get 2 _ rfl
    have k0 := fun d os => cell_regrown c0 d os
    have k1 := fun d os => cell_regrown c1 d os
    have k2 := fun d os => cell_regrown c2 d os
    go_enter Try.func77, Try.ntmps77
    go_wp2_with fail
    refine wp_region_quiet_below (by kernel_rfl) (by kernel_rfl) ?_
    repeat (first | go_big_quiet_skip | quiet_step (fail))
    refine wpQuiet_nil ?_
    intro _ hw'
    obtain ⟨⟨dq, osq⟩, hw''⟩ := hw'
    subst hw''
    have bq0 := below_regrown w dq osq
    generalize grow (redrawn w dq) osq = w1 at bq0 ⊢
    have B1 := Lib.hid bq0
    have V1 := Lib.hid (HV.out.fs (S := fun _ => False) (Fs.of_below bq0) (fun _ h => h.elim))
    have gx1 := bq0.cell (p := ⟨blk, off + q, none⟩) (cell_lt gx)
    rw [gx] at gx1
    clear c0 c1 c2 k0 k1 k2 kx gx bq0
    have kx := fun d os => cell_regrown gx1 d os
    have c0 := V1.out.cs.get 0 _ rfl
    have c1 := V1.out.cs.get 1 _ rfl
    have c2 := V1.out.cs.get 2 _ rfl
    have k0 := fun d os => cell_regrown c0 d os
    have k1 := fun d os => cell_regrown c1 d os
    have k2 := fun d os => cell_regrown c2 d os
    go_wp2_with fail
    refine wp_region_quiet_below (by kernel_rfl) (by kernel_rfl) ?_
    repeat (first | go_big_quiet_skip | quiet_step (fail))
    refine wpQuiet_nil ?_
    intro _ hw'
    obtain ⟨⟨dq, osq⟩, hw''⟩ := hw'
    subst hw''
    have bq0 := below_regrown w1 dq osq
    generalize grow (redrawn w1 dq) osq = w2 at bq0 ⊢
    have B2 := Lib.hid (B1.out.trans (bq0.mono B1.out.size))
    have V2 := Lib.hid (V1.out.fs (S := fun _ => False) (Fs.of_below bq0) (fun _ h => h.elim))
    clear c0 c1 c2 k0 k1 k2 kx gx1 bq0
    have c0 := V2.out.cs.get 0 _ rfl
    have c1 := V2.out.cs.get 1 _ rfl
    have c2 := V2.out.cs.get 2 _ rfl
    obtain ⟨W3, hW3⟩ : ∃ W3, W3 = (w2.setCell ⟨b, 1, none⟩ (.int .i64 Q1)).setCell ⟨b, 2, none⟩ (.int .u64 s3) := ⟨_, rfl⟩
    have V3 := Lib.hid (show SrcV W3 b (some ⟨blk, off, none⟩) n c Q1 s3 by rw [hW3]; exact V2.out.set Q1 s3)
    have F3 := Lib.hid (show Fs (fun k => k = b) w W3 by rw [hW3]; exact Fs.set (S := fun k => k = b) (a := ⟨b, 2, none⟩) (Fs.set (S := fun k => k = b) (a := ⟨b, 1, none⟩) (Fs.of_below B2.out) rfl _) rfl _)
    have HW3 := Lib.hid hW3
    have f1 := V2.out.fr 1
    have f2 := V2.out.fr 2
    clear hW3
    go_wp2_with fail
    rw [← HW3.out]
    clear c0 c1 c2 f1 f2
    have c0 := V3.out.cs.get 0 _ rfl
    have c1 := V3.out.cs.get 1 _ rfl
    have c2 := V3.out.cs.get 2 _ rfl
    have k0 := fun d os => cell_regrown c0 d os
    have k1 := fun d os => cell_regrown c1 d os
    have k2 := fun d os => cell_regrown c2 d os
    refine wp_region_quiet_below (by kernel_rfl) (by kernel_rfl) ?_
    repeat (first | go_big_quiet_skip | quiet_step (fail))
    refine wpQuiet_nil ?_
    intro _ hw'
    obtain ⟨⟨dq, osq⟩, hw''⟩ := hw'
    subst hw''
    have bq0 := below_regrown W3 dq osq
    generalize grow (redrawn W3 dq) osq = w4 at bq0 ⊢
    have V4 := Lib.hid (V3.out.fs (S := fun _ => False) (Fs.of_below bq0) (fun _ h => h.elim))
    have F4 := Lib.hid (F3.out.trans (Fs.of_below bq0))
    clear c0 c1 c2 k0 k1 k2 bq0
    go_wp2
    go_ret
    exact ⟨x, rfl, hx0, hx1, ⟨_, _, _, _, _, V4.out, by have := HQ1.out; omega⟩, F4.out⟩
  · have i1 : ¬ ((q : Int) < (n : Int)) := by omega
    have i1' : (n : Int) ≤ (q : Int) := by omega
    have i2 : (n : Int) < (Q1 : Int) := by omega
    obtain ⟨s2, hs2⟩ : ∃ s2, IntKind.u64.wrap s1 = s2 := ⟨_, rfl⟩
    have hs2' : IntKind.u64.wrap (s1 + 0) = s2 := by rw [Int.add_zero]; exact hs2
    obtain ⟨s3, hs3⟩ : ∃ s3, IntKind.u64.wrap (s2 + 1442695040888963407) = s3 := ⟨_, rfl⟩
    have hr3 : 0 ≤ s3 ∧ s3 < 18446744073709551616 := by rw [← hs3, IntKind.wrap_u64]; omega
    obtain ⟨T, hT⟩ : ∃ T, s3 / 1099511627776 = T := ⟨_, rfl⟩
    have hT0 : 0 ≤ T ∧ T < 2 ^ 30 := by omega
    have hT' : s3 / 2 ^ 40 = T := by rw [← hT]; rfl
    obtain ⟨R, hR⟩ : ∃ R, T % 256 = R := ⟨_, rfl⟩
    have an : bits .and .u64 T 255 = R := by rw [and_255 T hT0.1 hT0.2, hR]
    have hR0 : 0 ≤ R ∧ R < 256 := by omega
    have rw1 : IntKind.i64.wrap R = R := IntWalk.i64_in _ (by omega)
    have RR := Lib.hid hR0
    clear hQ1 hR hT0 hr3 hR0
    have c0 := HV.out.cs.get 0 _ rfl
    have c1 := HV.out.cs.get 1 _ rfl
    have c2 := HV.out.cs.get 2 _ rfl
    have k0 := fun d os => cell_regrown c0 d os
    have k1 := fun d os => cell_regrown c1 d os
    have k2 := fun d os => cell_regrown c2 d os
    go_enter Try.func77, Try.ntmps77
    go_wp2_with fail
    refine wp_region_quiet_below (by kernel_rfl) (by kernel_rfl) ?_
    repeat (first | go_big_quiet_skip | quiet_step (fail))
    refine wpQuiet_nil ?_
    intro _ hw'
    obtain ⟨⟨dq, osq⟩, hw''⟩ := hw'
    subst hw''
    have bq0 := below_regrown w dq osq
    generalize grow (redrawn w dq) osq = w1 at bq0 ⊢
    have B1 := Lib.hid bq0
    have V1 := Lib.hid (HV.out.fs (S := fun _ => False) (Fs.of_below bq0) (fun _ h => h.elim))
    clear c0 c1 c2 k0 k1 k2 bq0
    have c0 := V1.out.cs.get 0 _ rfl
    have c1 := V1.out.cs.get 1 _ rfl
    have c2 := V1.out.cs.get 2 _ rfl
    obtain ⟨W3, hW3⟩ : ∃ W3, W3 = (w1.setCell ⟨b, 1, none⟩ (.int .i64 Q1)).setCell ⟨b, 2, none⟩ (.int .u64 s3) := ⟨_, rfl⟩
    have V3 := Lib.hid (show SrcV W3 b ad n c Q1 s3 by rw [hW3]; exact V1.out.set Q1 s3)
    have F3 := Lib.hid (show Fs (fun k => k = b) w W3 by rw [hW3]; exact Fs.set (S := fun k => k = b) (a := ⟨b, 2, none⟩) (Fs.set (S := fun k => k = b) (a := ⟨b, 1, none⟩) (Fs.of_below B1.out) rfl _) rfl _)
    have HW3 := Lib.hid hW3
    have f1 := V1.out.fr 1
    have f2 := V1.out.fr 2
    clear hW3
    go_wp2_with fail
    rw [← HW3.out]
    clear c0 c1 c2 f1 f2
    have c0 := V3.out.cs.get 0 _ rfl
    have c1 := V3.out.cs.get 1 _ rfl
    have c2 := V3.out.cs.get 2 _ rfl
    have k0 := fun d os => cell_regrown c0 d os
    have k1 := fun d os => cell_regrown c1 d os
    have k2 := fun d os => cell_regrown c2 d os
    refine wp_region_quiet_below (by kernel_rfl) (by kernel_rfl) ?_
    repeat (first | go_big_quiet_skip | quiet_step (fail))
    refine wpQuiet_nil ?_
    intro _ hw'
    obtain ⟨⟨dq, osq⟩, hw''⟩ := hw'
    subst hw''
    have bq0 := below_regrown W3 dq osq
    generalize grow (redrawn W3 dq) osq = w4 at bq0 ⊢
    have V4 := Lib.hid (V3.out.fs (S := fun _ => False) (Fs.of_below bq0) (fun _ h => h.elim))
    have F4 := Lib.hid (F3.out.trans (Fs.of_below bq0))
    clear c0 c1 c2 k0 k1 k2 bq0
    have c0 := V4.out.cs.get 0 _ rfl
    have c1 := V4.out.cs.get 1 _ rfl
    have c2 := V4.out.cs.get 2 _ rfl
    go_wp2
    go_ret
    exact ⟨R, rfl, RR.out.1, RR.out.2, ⟨_, _, _, _, _, V4.out, by have := HQ1.out; omega⟩, F4.out⟩
set_option maxHeartbeats 2000000 in
theorem pick_any (b K : Nat) (n : Int) (w : World) (hs : SrcB w b K) (hK : K ≤ 900000000) :
    Calls Try.prog 42 #[.pointer (some ⟨b, 0, none⟩), .int .i64 n] w fun e w' => ∃ y : Int, e = .returned (.int .i64 y) ∧ 0 ≤ y ∧ (y = 0 ∨ y < n) ∧ SrcB w' b (K + 2) ∧ Fs (fun k => k = b) w w' := by
  have HS := Lib.hid hs
  clear hs
  by_cases h1 : n ≤ 1
  · go_enter Try.func42, Try.ntmps42
    go_wp2
    go_ret
    exact ⟨0, rfl, by omega, .inl rfl, HS.out.more (by omega), Fs.refl _ _⟩
  · have h1' : 1 < n := by omega
    by_cases h2 : n ≤ 200
    · go_enter Try.func42, Try.ntmps42
      go_wp2_with fail
      refine (next_any b K _ HS.out (by omega)).mono ?_
      rintro e w1 ⟨x, rfl, hx0, hx1, s1, f1⟩
      obtain ⟨R, hR⟩ : ∃ R, Int.tmod x n = R := ⟨_, rfl⟩
      have hR0 : 0 ≤ R ∧ R < n := by rw [← hR, Int.tmod_eq_emod_of_nonneg hx0]; exact ⟨Int.emod_nonneg _ (by omega), Int.emod_lt_of_pos _ (by omega)⟩
      have rw1 : IntKind.i64.wrap R = R := IntWalk.i64_in _ (by omega)
      have hn0 : ¬ n = 0 := by omega
      have RR := Lib.hid hR0
      clear hR0
      go_wp2
      go_ret
      exact ⟨R, rfl, RR.out.1, .inr RR.out.2, s1.more (by omega), f1⟩
    · have h2' : 200 < n := by omega
      go_enter Try.func42, Try.ntmps42
      go_wp2_with fail
      refine (next_any b K _ HS.out (by omega)).mono ?_
      rintro e w1 ⟨x, rfl, hx0, hx1, s1, f1⟩
      have ra : IntKind.i64.wrap (x * 256) = x * 256 := IntWalk.i64_in _ (by omega)
      go_wp2_with fail
      refine (next_any b (K + 1) _ s1 (by omega)).mono ?_
      rintro e w2 ⟨y, rfl, hy0, hy1, s2, f2⟩
      obtain ⟨X, hX⟩ : ∃ X, X = x * 256 + y := ⟨_, rfl⟩
      have rb : IntKind.i64.wrap (x * 256 + y) = X := by rw [hX]; exact IntWalk.i64_in _ (by omega)
      have hX0 : 0 ≤ X := by omega
      obtain ⟨R, hR⟩ : ∃ R, Int.tmod X n = R := ⟨_, rfl⟩
      have hR0 : 0 ≤ R ∧ R < n ∧ R ≤ X := by
        have hh := Int.tmod_eq_emod_of_nonneg (b := n) hX0
        rw [hR] at hh
        have h3 := Int.emod_nonneg X (show n ≠ 0 by omega)
        have h4 := Int.emod_lt_of_pos X (show 0 < n by omega)
        rcases Int.lt_or_le X n with h | h
        · rw [Int.emod_eq_of_lt hX0 h] at hh; omega
        · omega
      have rw1 : IntKind.i64.wrap R = R := IntWalk.i64_in _ (by omega)
      have hn0 : ¬ n = 0 := by omega
      have RR := Lib.hid hR0
      clear hR0 hX
      go_wp2
      go_ret
      exact ⟨R, rfl, RR.out.1, .inr RR.out.2.1, s2, f1.trans f2⟩
set_option maxHeartbeats 1000000 in
theorem one_any (b K : Nat) (n : Int) (w : World) (hs : SrcB w b K) (hK : K ≤ 900000000) :
    Calls Try.prog 76 #[.pointer (some ⟨b, 0, none⟩), .int .i64 n] w fun e w' => ∃ d : Bool, e = .returned (.bool d) ∧ SrcB w' b (K + 2) ∧ Fs (fun k => k = b) w w' := by
  have HS := Lib.hid hs
  clear hs
  go_enter Try.func76, Try.ntmps76
  go_wp2_with fail
  refine (pick_any b K n _ HS.out hK).mono ?_
  rintro e w1 ⟨y, rfl, hy0, _, s1, f1⟩
  generalize hd : (y == 0) = d
  go_wp2
  go_ret
  exact ⟨_, rfl, s1, f1⟩

theorem l00From_any {xs : List Int} (ad : Option Addr) (n c : Nat) (w : World) (hn : n ≤ 4096) (hx : xs.length = n) (hr : Rd w ad (xs.map (.int .u8))) (hb : ∀ x ∈ xs, 0 ≤ x ∧ x < 256) :
    Calls Try.prog 38 #[.slice ad n c] w fun e w' => e = .returned (.pointer (some ⟨w.heap.size, 0, none⟩)) ∧ SrcB w' w.heap.size 0 ∧ Below w.heap.size w w' := by
  have HR := Lib.hid hr
  have HB := Lib.hid hb
  have HX := Lib.hid hx
  have b1 : Below w.heap.size w (w.alloc (.cells #[.slice ad n c, .int .i64 0, .int .u64 0] 107)) := (Below.refl _ _).alloc (Nat.le_refl _) _
  have S1 : SrcB (w.alloc (.cells #[.slice ad n c, .int .i64 0, .int .u64 0] 107)) w.heap.size 0 := by
    refine ⟨ad, n, c, 0, 0, ⟨CellsAt.new w [.slice ad n c, .int .i64 0, .int .u64 0] 107, fun i => by simp [go_sem], hn, fun i hi => ?_⟩, Nat.le_refl _⟩
    have hi2 : i < xs.length := by rw [HX.out]; exact hi
    obtain ⟨blk, off, h1, h2, h3⟩ := HR.out i (.int .u8 xs[i]) (by simp [hi2])
    refine ⟨blk, off, xs[i], h1, h2, ?_, HB.out _ (List.getElem_mem hi2)⟩
    rw [b1.cell (p := ⟨blk, off + i, none⟩) h2]; exact h3
  have S1 := Lib.hid S1
  have B1 := Lib.hid b1
  clear hr hb hx b1
  go_enter Try.func38, Try.ntmps38
  go_wp2
  go_ret
  exact ⟨rfl, S1.out, B1.out⟩
end Go.Proofs.Ytceobhmbnkheiaa
