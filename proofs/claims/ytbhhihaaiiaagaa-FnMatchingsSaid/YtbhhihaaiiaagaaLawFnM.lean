/-
  FnMatchings: the law answers true for all texts of bytes. (with: The laws' own comparisons: f6big, f6ints.; The source of drawn numbers: its box, next, pick and one.; MatchingCounts: sets of edges without a shared node are the independent sets of the line graph. Plain.; FnMatchings: plain part. A list of edges in rising order is a valid graph; the line graph's edges rise; counts of one list of sets by two lengths agree.; MatchingCounts, the program's side.; MatchingCounts, the reference's side.; The graphs that the laws draw: l08Draw, P6Graph.; LineGraph, both sides.)
-/
import Derived.Test.YtbhhihaaiiaagaaStepLaw
import Derived.Test.YtbhhihaaiiaagaaFrame
import Derived.Laws.BitsLemmas
import Derived.Laws.Bits64
import Derived.Laws.BitsAllLaws
import Derived.Test.YtbhhihaaiiaagaaLine
import Derived.Test.YtbhhihaaiiaagaaIndL
import Derived.Test.YtbhhihaaiiaagaaIndI
import Derived.Test.YtbhhihaaiiaagaaBits
import Derived.Test.YtbhhihaaiiaagaaSameGraph
import Derived.Test.YtbhhihaaiiaagaaDelL
namespace Go.Proofs.Ytbhhihaaiiaagaa
open Go.RowKit Go.Sort
theorem f6big_any (ad : Option Addr) (n c : Nat) (w : World) (hn : n ≤ maxLen) :
    Calls Try.prog 17 #[.slice ad n c] w fun e w' => e = .returned (.bool (decide (4096 < n))) ∧ w = w' := by
  unfold maxLen at hn
  by_cases h : 4096 < n
  · have h1 : (4096 : Int) < (n : Int) := by omega
    have hd : decide (4096 < n) = true := by simp [h]
    have HD := Lib.hid hd
    clear hd
    go_enter Try.func17, Try.ntmps17
    go_wp2
    go_ret
    exact ⟨rb (by rw [HD.out] <;> (first | rfl | (simp; done) | (simp; omega))), rfl⟩
  · have h1 : (n : Int) ≤ (4096 : Int) := by omega
    have hd : decide (4096 < n) = false := by simp [h]
    have HD := Lib.hid hd
    clear hd
    go_enter Try.func17, Try.ntmps17
    go_wp2
    go_ret
    exact ⟨rb (by rw [HD.out] <;> (first | rfl | (simp; done) | (simp; omega))), rfl⟩
set_option maxHeartbeats 1000000 in
theorem f6ints_refl {u v : Value} {xs : List Int} (w : World) (ha : SlI w u xs) (hb : SlI w v xs) :
    Calls Try.prog 21 #[u, v] w fun e w' => e = .returned (.bool true) ∧ Below w.heap.size w w' := by
  have HA := Lib.hid (fun W (h : Below w.heap.size w W) => ha.below h)
  have HB := Lib.hid (fun W (h : Below w.heap.size w W) => hb.below h)
  obtain ⟨a, ca, rfl, hca, hca', _⟩ := ha
  obtain ⟨b, cb, rfl, hcb, hcb', _⟩ := hb
  unfold maxLen at hca' hcb'
  have hne : ((xs.length : Int) != (xs.length : Int)) = false := by simp
  go_enter Try.func21, Try.ntmps21
  go_wp2
  go_loopw [5] (fun i wr => ∃ k : Nat, k ≤ xs.length ∧ i = .int .i64 k ∧ Below w.heap.size w wr) (fun i _ => xs.length - (intOf i).toNat)
  case atStart => exact ⟨0, Nat.zero_le _, rfl, Below.refl _ _⟩
  case round =>
    obtain ⟨k, hk, rfl, hbr⟩ := hrel
    by_cases hlt : k < xs.length
    · have i0 : (0 : Int) ≤ (k : Int) := by omega
      have i1 : (k : Int) < (xs.length : Int) := by omega
      obtain ⟨_, _, he, _, _, ra⟩ := HA.out _ hbr
      simp only [Value.slice.injEq] at he
      obtain ⟨rfl, _, rfl⟩ := he
      obtain ⟨_, _, he, _, _, rb⟩ := HB.out _ hbr
      simp only [Value.slice.injEq] at he
      obtain ⟨rfl, _, rfl⟩ := he
      obtain ⟨b1, o1, rfl, g1⟩ := ra.one (i64s_get hlt)
      obtain ⟨b2, o2, rfl, g2⟩ := rb.one (i64s_get hlt)
      generalize xs[k] = x at g1 g2
      have k1 := fun d os => cell_regrown g1 d os
      have k2 := fun d os => cell_regrown g2 d os
      have hxx : (x != x) = false := by simp
      clear ra rb
      go_wp2_with fail
      refine wp_region_quiet_below (by kernel_rfl) (by kernel_rfl) ?_
      repeat (first | go_big_quiet_skip | quiet_step (fail))
      refine wpQuiet_nil ?_
      intro _ hw'
      obtain ⟨⟨dq, osq⟩, hw''⟩ := hw'
      subst hw''
      have bq0 := below_regrown wr dq osq
      generalize grow (redrawn wr dq) osq = wq at bq0 ⊢
      have hb2 := hbr.trans (bq0.mono hbr.size)
      clear k1 k2
      go_wp2
      go_roundw
      case rel => exact ⟨k + 1, by omega, by go_num, hb2⟩
      case measure => simp [intOf]; omega
    · obtain rfl : k = xs.length := by omega
      go_wp2
      go_ret
      exact ⟨rfl, hbr⟩
end Go.Proofs.Ytbhhihaaiiaagaa
namespace Go.Proofs.Ytbhhihaaiiaagaa
open Go.RowKit Go.Sort
/-- a source in its box b, at most K numbers taken -/
structure SrcV (w : World) (b : Nat) (ad : Option Addr) (n c at' : Nat) (seed : Int) : Prop where
  cs : CellsAt w b [.slice ad n c, .int .i64 at', .int .u64 seed]
  fr : ∀ i, w.frozen? ⟨b, i, none⟩ = false
  len : n ≤ 4096
  rd : ∀ i, i < n → ∃ blk off x, ad = some ⟨blk, off, none⟩ ∧ blk < b ∧ w.cell? ⟨blk, off + i, none⟩ = some (.int .u8 x) ∧ 0 ≤ x ∧ x < 256
def SrcB (w : World) (b K : Nat) : Prop := ∃ ad n c at' seed, SrcV w b ad n c at' seed ∧ at' ≤ K
theorem SrcV.fs {S : Nat → Prop} {w w' : World} {b n c at' : Nat} {ad : Option Addr} {seed : Int} (h : SrcV w b ad n c at' seed) (hf : Fs S w w') (hS : ∀ k, S k → b < k) : SrcV w' b ad n c at' seed := by
  have hb := h.cs.1
  refine ⟨h.cs.fs hf (fun hs => by have := hS b hs; omega), fun i => ?_, h.len, fun i hi => ?_⟩
  · have := hf.block b hb (fun hs => by have := hS b hs; omega)
    have h2 := h.fr i
    simpa [World.frozen?, this] using h2
  · obtain ⟨blk, off, x, h1, h2, h3, h4⟩ := h.rd i hi
    exact ⟨blk, off, x, h1, h2, by rw [hf.cell (p := ⟨blk, off + i, none⟩) (show blk < w.heap.size by omega) (fun hs => by have := hS blk hs; omega)]; exact h3, h4⟩
theorem SrcB.fs {S : Nat → Prop} {w w' : World} {b K : Nat} (h : SrcB w b K) (hf : Fs S w w') (hS : ∀ k, S k → b < k) : SrcB w' b K := by
  obtain ⟨ad, n, c, at', seed, h1, h2⟩ := h
  exact ⟨ad, n, c, at', seed, h1.fs hf hS, h2⟩
theorem SrcB.below {w w' : World} {b K : Nat} (h : SrcB w b K) (hb : Below w.heap.size w w') : SrcB w' b K := h.fs (S := fun _ => False) (Fs.of_below hb) (fun _ h => h.elim)
theorem SrcB.lt {w : World} {b K : Nat} (h : SrcB w b K) : b < w.heap.size := by
  obtain ⟨_, _, _, _, _, h1, _⟩ := h
  exact h1.cs.1
theorem SrcB.more {w : World} {b K K' : Nat} (h : SrcB w b K) (hk : K ≤ K') : SrcB w b K' := by
  obtain ⟨ad, n, c, at', seed, h1, h2⟩ := h
  exact ⟨ad, n, c, at', seed, h1, by omega⟩
theorem SrcV.set {w : World} {b n c at' : Nat} {ad : Option Addr} {seed : Int} (h : SrcV w b ad n c at' seed) (at2 : Nat) (seed2 : Int) : SrcV ((w.setCell ⟨b, 1, none⟩ (.int .i64 at2)).setCell ⟨b, 2, none⟩ (.int .u64 seed2)) b ad n c at2 seed2 := by
  have c0 := h.cs.get 0 _ rfl
  have c1 := h.cs.get 1 _ rfl
  have c2 := h.cs.get 2 _ rfl
  refine ⟨⟨by simpa using h.cs.1, fun i v hv => ?_⟩, fun i => by simpa using h.fr i, h.len, fun i hi => ?_⟩
  · match i, hv with
    | 0, hv => simp at hv; subst hv; simp [go_sem, c0]
    | 1, hv => simp at hv; subst hv; simp [go_sem, c1]
    | 2, hv => simp at hv; subst hv; simp [go_sem, c2]
  · obtain ⟨blk, off, x, h1, h2, h3, h4⟩ := h.rd i hi
    refine ⟨blk, off, x, h1, h2, ?_, h4⟩
    have hne : blk ≠ b := by omega
    simp [go_sem, hne, Ne.symm hne, h3]
theorem wraps_u64 (n : Int) (h0 : 0 ≤ n) (h1 : n < 2 ^ 30) : IntKind.u64.wrap n = n := by rw [IntKind.wrap_u64]; omega
theorem and_255 (x : Int) (h0 : 0 ≤ x) (h : x < 2 ^ 30) : bits .and .u64 x 255 = x % 256 := by
  have := bits_mask .u64 30 (by decide) wraps_u64 8 (by decide) x h0 h
  rw [show ((2 : Int) ^ 8 - 1) = 255 from rfl] at this
  rw [this]; rfl

set_option maxRecDepth 100000 in
set_option maxHeartbeats 4000000 in
theorem next_any (b K : Nat) (w : World) (hs : SrcB w b K) (hK : K ≤ 1000000000) :
    Calls Try.prog 57 #[.pointer (some ⟨b, 0, none⟩)] w fun e w' => ∃ x : Int, e = .returned (.int .i64 x) ∧ 0 ≤ x ∧ x < 256 ∧ SrcB w' b (K + 1) ∧ Fs (fun k => k = b) w w' := by
  obtain ⟨ad, n, c, q, seed, hv, hq⟩ := hs
  have HV := Lib.hid hv
  have hn := hv.len
  obtain ⟨Q1, hQ1⟩ : ∃ Q1, Q1 = q + 1 := ⟨_, rfl⟩
  have r1 : IntKind.i64.wrap ((q : Int) + 1) = (Q1 : Int) := by rw [IntWalk.i64_in _ (by omega)]; omega
  have i0 : (0 : Int) ≤ (q : Int) := by omega
  have HQ1 := Lib.hid hQ1
  obtain ⟨s1, hs1⟩ : ∃ s1, IntKind.u64.wrap (seed * 6364136223846793005) = s1 := ⟨_, rfl⟩
  clear hv
  by_cases hlt : q < n
  · obtain ⟨blk, off, x, rfl, hbb, gx, hx0, hx1⟩ := HV.out.rd q hlt
    have kx := fun d os => cell_regrown gx d os
    have i1 : (q : Int) < (n : Int) := by omega
    have i2 : (Q1 : Int) ≤ (n : Int) := by omega
    have rx : IntKind.i64.wrap x = x := IntWalk.i64_in _ (by omega)
    have ru : IntKind.u64.wrap x = x := by rw [IntKind.wrap_u64]; omega
    obtain ⟨s2, hs2⟩ : ∃ s2, IntKind.u64.wrap (s1 + x) = s2 := ⟨_, rfl⟩
    obtain ⟨s3, hs3⟩ : ∃ s3, IntKind.u64.wrap (s2 + 1442695040888963407) = s3 := ⟨_, rfl⟩
    clear hQ1
    have c0 := HV.out.cs.get 0 _ rfl
    have c1 := HV.out.cs.get 1 _ rfl
    have c2 := HV.out.cs.get 2 _ rfl
    have k0 := fun d os => cell_regrown c0 d os
    have k1 := fun d os => cell_regrown c1 d os
    have k2 := fun d os => cell_regrown c2 d os
    go_enter Try.func57, Try.ntmps57
    go_wp2_with fail
    refine wp_region_quiet_below (by kernel_rfl) (by kernel_rfl) ?_
    repeat (first | go_big_quiet_skip | quiet_step (fail))
    refine wpQuiet_nil ?_
    intro _ hw'
    obtain ⟨⟨dq, osq⟩, hw''⟩ := hw'
    subst hw''
    have bq0 := below_regrown w dq osq
    generalize grow (redrawn w dq) osq = w1 at bq0 ⊢
    have B1 := Lib.hid bq0
    have V1 := Lib.hid (HV.out.fs (S := fun _ => False) (Fs.of_below bq0) (fun _ h => h.elim))
    have gx1 := bq0.cell (p := ⟨blk, off + q, none⟩) (cell_lt gx)
    rw [gx] at gx1
    clear c0 c1 c2 k0 k1 k2 kx gx bq0
    have kx := fun d os => cell_regrown gx1 d os
    have c0 := V1.out.cs.get 0 _ rfl
    have c1 := V1.out.cs.get 1 _ rfl
    have c2 := V1.out.cs.get 2 _ rfl
    have k0 := fun d os => cell_regrown c0 d os
    have k1 := fun d os => cell_regrown c1 d os
    have k2 := fun d os => cell_regrown c2 d os
    go_wp2_with fail
    refine wp_region_quiet_below (by kernel_rfl) (by kernel_rfl) ?_
    repeat (first | go_big_quiet_skip | quiet_step (fail))
    refine wpQuiet_nil ?_
    intro _ hw'
    obtain ⟨⟨dq, osq⟩, hw''⟩ := hw'
    subst hw''
    have bq0 := below_regrown w1 dq osq
    generalize grow (redrawn w1 dq) osq = w2 at bq0 ⊢
    have B2 := Lib.hid (B1.out.trans (bq0.mono B1.out.size))
    have V2 := Lib.hid (V1.out.fs (S := fun _ => False) (Fs.of_below bq0) (fun _ h => h.elim))
    clear c0 c1 c2 k0 k1 k2 kx gx1 bq0
    have c0 := V2.out.cs.get 0 _ rfl
    have c1 := V2.out.cs.get 1 _ rfl
    have c2 := V2.out.cs.get 2 _ rfl
    obtain ⟨W3, hW3⟩ : ∃ W3, W3 = (w2.setCell ⟨b, 1, none⟩ (.int .i64 Q1)).setCell ⟨b, 2, none⟩ (.int .u64 s3) := ⟨_, rfl⟩
    have V3 := Lib.hid (show SrcV W3 b (some ⟨blk, off, none⟩) n c Q1 s3 by rw [hW3]; exact V2.out.set Q1 s3)
    have F3 := Lib.hid (show Fs (fun k => k = b) w W3 by rw [hW3]; exact Fs.set (S := fun k => k = b) (a := ⟨b, 2, none⟩) (Fs.set (S := fun k => k = b) (a := ⟨b, 1, none⟩) (Fs.of_below B2.out) rfl _) rfl _)
    have HW3 := Lib.hid hW3
    have f1 := V2.out.fr 1
    have f2 := V2.out.fr 2
    clear hW3
    go_wp2_with fail
    rw [← HW3.out]
    clear c0 c1 c2 f1 f2
    have c0 := V3.out.cs.get 0 _ rfl
    have c1 := V3.out.cs.get 1 _ rfl
    have c2 := V3.out.cs.get 2 _ rfl
    have k0 := fun d os => cell_regrown c0 d os
    have k1 := fun d os => cell_regrown c1 d os
    have k2 := fun d os => cell_regrown c2 d os
    refine wp_region_quiet_below (by kernel_rfl) (by kernel_rfl) ?_
    repeat (first | go_big_quiet_skip | quiet_step (fail))
    refine wpQuiet_nil ?_
    intro _ hw'
    obtain ⟨⟨dq, osq⟩, hw''⟩ := hw'
    subst hw''
    have bq0 := below_regrown W3 dq osq
    generalize grow (redrawn W3 dq) osq = w4 at bq0 ⊢
    have V4 := Lib.hid (V3.out.fs (S := fun _ => False) (Fs.of_below bq0) (fun _ h => h.elim))
    have F4 := Lib.hid (F3.out.trans (Fs.of_below bq0))
    clear c0 c1 c2 k0 k1 k2 bq0
    go_wp2
    go_ret
    exact ⟨x, rfl, hx0, hx1, ⟨_, _, _, _, _, V4.out, by have := HQ1.out; omega⟩, F4.out⟩
  · have i1 : ¬ ((q : Int) < (n : Int)) := by omega
    have i1' : (n : Int) ≤ (q : Int) := by omega
    have i2 : (n : Int) < (Q1 : Int) := by omega
    obtain ⟨s2, hs2⟩ : ∃ s2, IntKind.u64.wrap s1 = s2 := ⟨_, rfl⟩
    have hs2' : IntKind.u64.wrap (s1 + 0) = s2 := by rw [Int.add_zero]; exact hs2
    obtain ⟨s3, hs3⟩ : ∃ s3, IntKind.u64.wrap (s2 + 1442695040888963407) = s3 := ⟨_, rfl⟩
    have hr3 : 0 ≤ s3 ∧ s3 < 18446744073709551616 := by rw [← hs3, IntKind.wrap_u64]; omega
    obtain ⟨T, hT⟩ : ∃ T, s3 / 1099511627776 = T := ⟨_, rfl⟩
    have hT0 : 0 ≤ T ∧ T < 2 ^ 30 := by omega
    have hT' : s3 / 2 ^ 40 = T := by rw [← hT]; rfl
    obtain ⟨R, hR⟩ : ∃ R, T % 256 = R := ⟨_, rfl⟩
    have an : bits .and .u64 T 255 = R := by rw [and_255 T hT0.1 hT0.2, hR]
    have hR0 : 0 ≤ R ∧ R < 256 := by omega
    have rw1 : IntKind.i64.wrap R = R := IntWalk.i64_in _ (by omega)
    have RR := Lib.hid hR0
    clear hQ1 hR hT0 hr3 hR0
    have c0 := HV.out.cs.get 0 _ rfl
    have c1 := HV.out.cs.get 1 _ rfl
    have c2 := HV.out.cs.get 2 _ rfl
    have k0 := fun d os => cell_regrown c0 d os
    have k1 := fun d os => cell_regrown c1 d os
    have k2 := fun d os => cell_regrown c2 d os
    go_enter Try.func57, Try.ntmps57
    go_wp2_with fail
    refine wp_region_quiet_below (by kernel_rfl) (by kernel_rfl) ?_
    repeat (first | go_big_quiet_skip | quiet_step (fail))
    refine wpQuiet_nil ?_
    intro _ hw'
    obtain ⟨⟨dq, osq⟩, hw''⟩ := hw'
    subst hw''
    have bq0 := below_regrown w dq osq
    generalize grow (redrawn w dq) osq = w1 at bq0 ⊢
    have B1 := Lib.hid bq0
    have V1 := Lib.hid (HV.out.fs (S := fun _ => False) (Fs.of_below bq0) (fun _ h => h.elim))
    clear c0 c1 c2 k0 k1 k2 bq0
    have c0 := V1.out.cs.get 0 _ rfl
    have c1 := V1.out.cs.get 1 _ rfl
    have c2 := V1.out.cs.get 2 _ rfl
    obtain ⟨W3, hW3⟩ : ∃ W3, W3 = (w1.setCell ⟨b, 1, none⟩ (.int .i64 Q1)).setCell ⟨b, 2, none⟩ (.int .u64 s3) := ⟨_, rfl⟩
    have V3 := Lib.hid (show SrcV W3 b ad n c Q1 s3 by rw [hW3]; exact V1.out.set Q1 s3)
    have F3 := Lib.hid (show Fs (fun k => k = b) w W3 by rw [hW3]; exact Fs.set (S := fun k => k = b) (a := ⟨b, 2, none⟩) (Fs.set (S := fun k => k = b) (a := ⟨b, 1, none⟩) (Fs.of_below B1.out) rfl _) rfl _)
    have HW3 := Lib.hid hW3
    have f1 := V1.out.fr 1
    have f2 := V1.out.fr 2
    clear hW3
    go_wp2_with fail
    rw [← HW3.out]
    clear c0 c1 c2 f1 f2
    have c0 := V3.out.cs.get 0 _ rfl
    have c1 := V3.out.cs.get 1 _ rfl
    have c2 := V3.out.cs.get 2 _ rfl
    have k0 := fun d os => cell_regrown c0 d os
    have k1 := fun d os => cell_regrown c1 d os
    have k2 := fun d os => cell_regrown c2 d os
    refine wp_region_quiet_below (by kernel_rfl) (by kernel_rfl) ?_
    repeat (first | go_big_quiet_skip | quiet_step (fail))
    refine wpQuiet_nil ?_
    intro _ hw'
    obtain ⟨⟨dq, osq⟩, hw''⟩ := hw'
    subst hw''
    have bq0 := below_regrown W3 dq osq
    generalize grow (redrawn W3 dq) osq = w4 at bq0 ⊢
    have V4 := Lib.hid (V3.out.fs (S := fun _ => False) (Fs.of_below bq0) (fun _ h => h.elim))
    have F4 := Lib.hid (F3.out.trans (Fs.of_below bq0))
    clear c0 c1 c2 k0 k1 k2 bq0
    have c0 := V4.out.cs.get 0 _ rfl
    have c1 := V4.out.cs.get 1 _ rfl
    have c2 := V4.out.cs.get 2 _ rfl
    go_wp2
    go_ret
    exact ⟨R, rfl, RR.out.1, RR.out.2, ⟨_, _, _, _, _, V4.out, by have := HQ1.out; omega⟩, F4.out⟩
set_option maxHeartbeats 2000000 in
theorem pick_any (b K : Nat) (n : Int) (w : World) (hs : SrcB w b K) (hK : K ≤ 900000000) :
    Calls Try.prog 50 #[.pointer (some ⟨b, 0, none⟩), .int .i64 n] w fun e w' => ∃ y : Int, e = .returned (.int .i64 y) ∧ 0 ≤ y ∧ (y = 0 ∨ y < n) ∧ SrcB w' b (K + 2) ∧ Fs (fun k => k = b) w w' := by
  have HS := Lib.hid hs
  clear hs
  by_cases h1 : n ≤ 1
  · go_enter Try.func50, Try.ntmps50
    go_wp2
    go_ret
    exact ⟨0, rfl, by omega, .inl rfl, HS.out.more (by omega), Fs.refl _ _⟩
  · have h1' : 1 < n := by omega
    by_cases h2 : n ≤ 200
    · go_enter Try.func50, Try.ntmps50
      go_wp2_with fail
      refine (next_any b K _ HS.out (by omega)).mono ?_
      rintro e w1 ⟨x, rfl, hx0, hx1, s1, f1⟩
      obtain ⟨R, hR⟩ : ∃ R, Int.tmod x n = R := ⟨_, rfl⟩
      have hR0 : 0 ≤ R ∧ R < n := by rw [← hR, Int.tmod_eq_emod_of_nonneg hx0]; exact ⟨Int.emod_nonneg _ (by omega), Int.emod_lt_of_pos _ (by omega)⟩
      have rw1 : IntKind.i64.wrap R = R := IntWalk.i64_in _ (by omega)
      have hn0 : ¬ n = 0 := by omega
      have RR := Lib.hid hR0
      clear hR0
      go_wp2
      go_ret
      exact ⟨R, rfl, RR.out.1, .inr RR.out.2, s1.more (by omega), f1⟩
    · have h2' : 200 < n := by omega
      go_enter Try.func50, Try.ntmps50
      go_wp2_with fail
      refine (next_any b K _ HS.out (by omega)).mono ?_
      rintro e w1 ⟨x, rfl, hx0, hx1, s1, f1⟩
      have ra : IntKind.i64.wrap (x * 256) = x * 256 := IntWalk.i64_in _ (by omega)
      go_wp2_with fail
      refine (next_any b (K + 1) _ s1 (by omega)).mono ?_
      rintro e w2 ⟨y, rfl, hy0, hy1, s2, f2⟩
      obtain ⟨X, hX⟩ : ∃ X, X = x * 256 + y := ⟨_, rfl⟩
      have rb : IntKind.i64.wrap (x * 256 + y) = X := by rw [hX]; exact IntWalk.i64_in _ (by omega)
      have hX0 : 0 ≤ X := by omega
      obtain ⟨R, hR⟩ : ∃ R, Int.tmod X n = R := ⟨_, rfl⟩
      have hR0 : 0 ≤ R ∧ R < n ∧ R ≤ X := by
        have hh := Int.tmod_eq_emod_of_nonneg (b := n) hX0
        rw [hR] at hh
        have h3 := Int.emod_nonneg X (show n ≠ 0 by omega)
        have h4 := Int.emod_lt_of_pos X (show 0 < n by omega)
        rcases Int.lt_or_le X n with h | h
        · rw [Int.emod_eq_of_lt hX0 h] at hh; omega
        · omega
      have rw1 : IntKind.i64.wrap R = R := IntWalk.i64_in _ (by omega)
      have hn0 : ¬ n = 0 := by omega
      have RR := Lib.hid hR0
      clear hR0 hX
      go_wp2
      go_ret
      exact ⟨R, rfl, RR.out.1, .inr RR.out.2.1, s2, f1.trans f2⟩
set_option maxHeartbeats 1000000 in
theorem one_any (b K : Nat) (n : Int) (w : World) (hs : SrcB w b K) (hK : K ≤ 900000000) :
    Calls Try.prog 51 #[.pointer (some ⟨b, 0, none⟩), .int .i64 n] w fun e w' => ∃ d : Bool, e = .returned (.bool d) ∧ SrcB w' b (K + 2) ∧ Fs (fun k => k = b) w w' := by
  have HS := Lib.hid hs
  clear hs
  go_enter Try.func51, Try.ntmps51
  go_wp2_with fail
  refine (pick_any b K n _ HS.out hK).mono ?_
  rintro e w1 ⟨y, rfl, hy0, _, s1, f1⟩
  generalize hd : (y == 0) = d
  go_wp2
  go_ret
  exact ⟨_, rfl, s1, f1⟩

theorem l00From_any {xs : List Int} (ad : Option Addr) (n c : Nat) (w : World) (hn : n ≤ 4096) (hx : xs.length = n) (hr : Rd w ad (xs.map (.int .u8))) (hb : ∀ x ∈ xs, 0 ≤ x ∧ x < 256) :
    Calls Try.prog 36 #[.slice ad n c] w fun e w' => e = .returned (.pointer (some ⟨w.heap.size, 0, none⟩)) ∧ SrcB w' w.heap.size 0 ∧ Below w.heap.size w w' := by
  have HR := Lib.hid hr
  have HB := Lib.hid hb
  have HX := Lib.hid hx
  have b1 : Below w.heap.size w (w.alloc (.cells #[.slice ad n c, .int .i64 0, .int .u64 0] 68)) := (Below.refl _ _).alloc (Nat.le_refl _) _
  have S1 : SrcB (w.alloc (.cells #[.slice ad n c, .int .i64 0, .int .u64 0] 68)) w.heap.size 0 := by
    refine ⟨ad, n, c, 0, 0, ⟨CellsAt.new w [.slice ad n c, .int .i64 0, .int .u64 0] 68, fun i => by simp [go_sem], hn, fun i hi => ?_⟩, Nat.le_refl _⟩
    have hi2 : i < xs.length := by rw [HX.out]; exact hi
    obtain ⟨blk, off, h1, h2, h3⟩ := HR.out i (.int .u8 xs[i]) (by simp [hi2])
    refine ⟨blk, off, xs[i], h1, h2, ?_, HB.out _ (List.getElem_mem hi2)⟩
    rw [b1.cell (p := ⟨blk, off + i, none⟩) h2]; exact h3
  have S1 := Lib.hid S1
  have B1 := Lib.hid b1
  clear hr hb hx b1
  go_enter Try.func36, Try.ntmps36
  go_wp2
  go_ret
  exact ⟨rfl, S1.out, B1.out⟩
end Go.Proofs.Ytbhhihaaiiaagaa
namespace Go.Proofs.Ytbhhihaaiiaagaa
open Go.RowKit Go.Sort
/-- the nodes of the edges below k whose bits are set -/
def usedM (es : List (List Int)) (x : Nat) : Nat → List Int
  | 0 => []
  | k + 1 => if x / 2 ^ k % 2 = 1 then usedM es x k ++ es.getD k [] else usedM es x k
def okM (es : List (List Int)) (x : Nat) : Nat → Bool
  | 0 => true
  | k + 1 => okM es x k && (if x / 2 ^ k % 2 = 1 then !decide ((es.getD k []).getD 0 0 ∈ usedM es x k) && !decide ((es.getD k []).getD 1 0 ∈ usedM es x k) else true)
def matN (es : List (List Int)) : Nat → List (List Int)
  | 0 => []
  | x + 1 => if okM es x es.length = true then matN es x ++ [setK x es.length] else matN es x
theorem mem_usedM {es : List (List Int)} {x : Nat} {y : Int} : ∀ {k : Nat}, y ∈ usedM es x k ↔ ∃ i, i < k ∧ x / 2 ^ i % 2 = 1 ∧ y ∈ es.getD i []
  | 0 => by simp [usedM]
  | k + 1 => by
    unfold usedM
    have ih := mem_usedM (es := es) (x := x) (y := y) (k := k)
    split
    · rename_i h
      rw [List.mem_append, ih]
      constructor
      · rintro (⟨i, h1, h2⟩ | h1)
        · exact ⟨i, by omega, h2⟩
        · exact ⟨k, by omega, h, h1⟩
      · rintro ⟨i, h1, h2, h3⟩
        by_cases e : i = k
        · subst e; exact .inr h3
        · exact .inl ⟨i, by omega, h2, h3⟩
    · rename_i h
      rw [ih]
      constructor
      · rintro ⟨i, h1, h2⟩; exact ⟨i, by omega, h2⟩
      · rintro ⟨i, h1, h2, h3⟩
        by_cases e : i = k
        · subst e; exact absurd h2 h
        · exact ⟨i, by omega, h2, h3⟩
theorem okM_iff {es : List (List Int)} {x : Nat} : ∀ {k : Nat}, okM es x k = true ↔ ∀ j, j < k → x / 2 ^ j % 2 = 1 → ∀ i, i < j → x / 2 ^ i % 2 = 1 → shareL (es.getD i []) (es.getD j []) = false
  | 0 => by simp [okM]
  | k + 1 => by
    have ih := okM_iff (es := es) (x := x) (k := k)
    unfold okM
    rw [Bool.and_eq_true, ih]
    have hsh : ∀ i, shareL (es.getD i []) (es.getD k []) = false ↔ ((es.getD k []).getD 0 0 ∉ es.getD i [] ∧ (es.getD k []).getD 1 0 ∉ es.getD i []) := by
      intro i; unfold shareL; rw [Bool.or_eq_false_iff, decide_eq_false_iff_not, decide_eq_false_iff_not]
    constructor
    · rintro ⟨h1, h2⟩ j hj hb i hi hbi
      by_cases e : j = k
      · subst e
        rw [if_pos hb, Bool.and_eq_true, Bool.not_eq_true', Bool.not_eq_true', decide_eq_false_iff_not, decide_eq_false_iff_not] at h2
        rw [hsh]
        exact ⟨fun h => h2.1 (mem_usedM.2 ⟨i, hi, hbi, h⟩), fun h => h2.2 (mem_usedM.2 ⟨i, hi, hbi, h⟩)⟩
      · exact h1 j (by omega) hb i hi hbi
    · intro h
      refine ⟨fun j hj => h j (by omega), ?_⟩
      split
      · rename_i hb
        rw [Bool.and_eq_true, Bool.not_eq_true', Bool.not_eq_true', decide_eq_false_iff_not, decide_eq_false_iff_not]
        constructor
        · intro hm
          obtain ⟨i, h1, h2, h3⟩ := mem_usedM.1 hm
          exact ((hsh i).1 (h k (by omega) hb i h1 h2)).1 h3
        · intro hm
          obtain ⟨i, h1, h2, h3⟩ := mem_usedM.1 hm
          exact ((hsh i).1 (h k (by omega) hb i h1 h2)).2 h3
      · rfl
theorem mem_setK {x k : Nat} {v : Int} : v ∈ setK x k ↔ ∃ i : Nat, i < k ∧ v = (i : Int) ∧ x / 2 ^ i % 2 = 1 := by
  unfold setK upTo
  rw [List.mem_filter, List.mem_map]
  constructor
  · rintro ⟨⟨i, h1, rfl⟩, h2⟩
    rw [List.mem_range] at h1
    exact ⟨i, h1, rfl, by simpa using h2⟩
  · rintro ⟨i, h1, rfl, h2⟩
    exact ⟨⟨i, List.mem_range.2 h1, rfl⟩, by simpa using h2⟩
theorem mem_allE {es : List (List Int)} {e : List Int} : e ∈ allE es es.length ↔ ∃ a b : Nat, a < b ∧ b < es.length ∧ e = [(a : Int), (b : Int)] ∧ shareL (es.getD a []) (es.getD b []) = true := by
  unfold allE rowE
  simp only [List.mem_flatMap, List.mem_map, List.mem_filter, List.mem_range, Bool.and_eq_true, decide_eq_true_eq]
  constructor
  · rintro ⟨a, h1, b, ⟨h2, h3, h4⟩, rfl⟩; exact ⟨a, b, h3, h2, rfl, h4⟩
  · rintro ⟨a, b, h1, h2, rfl, h4⟩; exact ⟨a, by omega, b, ⟨h2, h1, h4⟩, rfl⟩
theorem edgesB_line (es : List (List Int)) : EdgesB es.length (allE es es.length) := by
  intro e he
  obtain ⟨a, b, h1, h2, rfl, _⟩ := mem_allE.1 he
  exact ⟨a, b, rfl, h1, h2⟩
theorem indep_line (es : List (List Int)) (x : Nat) : indepB (allE es es.length) (setK x es.length) = okM es x es.length := by
  rw [Bool.eq_iff_iff, okM_iff]
  unfold indepB
  rw [Bool.not_eq_true', List.any_eq_false]
  constructor
  · intro h j hj hb i hi hbi
    cases hs : shareL (es.getD i []) (es.getD j []) with
    | false => rfl
    | true =>
      have := h _ (mem_allE.2 ⟨i, j, hi, hj, rfl, hs⟩)
      exfalso
      apply this
      unfold bothE
      rw [Bool.and_eq_true, decide_eq_true_eq, decide_eq_true_eq]
      exact ⟨mem_setK.2 ⟨i, by omega, rfl, hbi⟩, mem_setK.2 ⟨j, hj, rfl, hb⟩⟩
  · intro h e he hb
    obtain ⟨a, b, h1, h2, rfl, hs⟩ := mem_allE.1 he
    unfold bothE at hb
    rw [Bool.and_eq_true, decide_eq_true_eq, decide_eq_true_eq] at hb
    obtain ⟨i, hi, ea, hbi⟩ := mem_setK.1 hb.1
    obtain ⟨j, hj, eb, hbj⟩ := mem_setK.1 hb.2
    simp only [List.getD_cons_zero, List.getD_cons_succ] at ea eb
    obtain rfl : a = i := by omega
    obtain rfl : b = j := by omega
    rw [h b hj hbj a h1 hbi] at hs
    exact absurd hs (by simp)
theorem matN_eq (es : List (List Int)) : ∀ N, matN es N = indN es.length (allE es es.length) N
  | 0 => rfl
  | N + 1 => by
    unfold matN indN
    rw [indep_line, matN_eq es N]
theorem nodup_len : ∀ (m : Nat) (l : List Int), l.Nodup → (∀ y ∈ l, 0 ≤ y ∧ y < (m : Int)) → l.length ≤ m
  | 0, l, _, h => by
    cases l with
    | nil => simp
    | cons y r => have := h y (by simp); omega
  | m + 1, l, hn, h => by
    by_cases hm : (m : Int) ∈ l
    · have ih := nodup_len m (l.erase (m : Int)) (hn.erase _) (fun y hy => by
        rw [hn.mem_erase_iff] at hy
        have := h y hy.2
        have := hy.1
        omega)
      rw [List.length_erase_of_mem hm] at ih
      omega
    · have ih := nodup_len m l hn (fun y hy => by
        have := h y hy
        have : y ≠ (m : Int) := fun e => hm (e ▸ hy)
        omega)
      omega
theorem usedM_len {m : Nat} {es : List (List Int)} (hE : EdgesB m es) (x : Nat) : ∀ k, k ≤ es.length → (usedM es x k).length = 2 * (setK x k).length
  | 0, _ => rfl
  | k + 1, h => by
    have ih := usedM_len hE x k (by omega)
    obtain ⟨a, b, he, _⟩ := hE es[k] (List.getElem_mem (by omega))
    unfold usedM
    split
    · rename_i hb
      rw [setK_yes hb, List.length_append, List.length_append, ih, getD_at (by omega), he]
      simp; omega
    · rename_i hb
      rw [setK_no (by omega), ih]
theorem usedM_nodup {m : Nat} {es : List (List Int)} (hE : EdgesB m es) (x : Nat) : ∀ k, k ≤ es.length → okM es x k = true → (usedM es x k).Nodup
  | 0, _, _ => by simp [usedM]
  | k + 1, h, hok => by
    obtain ⟨a, b, he, hab, _⟩ := hE es[k] (List.getElem_mem (by omega))
    unfold okM at hok
    rw [Bool.and_eq_true] at hok
    have ih := usedM_nodup hE x k (by omega) hok.1
    have h2 := hok.2
    unfold usedM
    split
    · rename_i hb
      rw [if_pos hb, getD_at (show k < es.length by omega), he, Bool.and_eq_true, Bool.not_eq_true', Bool.not_eq_true', decide_eq_false_iff_not, decide_eq_false_iff_not] at h2
      simp only [List.getD_cons_zero, List.getD_cons_succ] at h2
      rw [getD_at (by omega), he, List.nodup_append]
      refine ⟨ih, ?_, ?_⟩
      · simp; omega
      · intro y hy z hz e
        subst e
        simp only [List.mem_cons, List.not_mem_nil, or_false] at hz
        rcases hz with rfl | rfl
        · exact h2.1 hy
        · exact h2.2 hy
    · exact ih
theorem okM_size {m : Nat} {es : List (List Int)} (hE : EdgesB m es) (x : Nat) (h : okM es x es.length = true) : 2 * (setK x es.length).length ≤ m := by
  rw [← usedM_len hE x _ (Nat.le_refl _)]
  refine nodup_len m _ (usedM_nodup hE x _ (Nat.le_refl _) h) (fun y hy => ?_)
  obtain ⟨i, hi, _, hm⟩ := mem_usedM.1 hy
  obtain ⟨a, b, he, hab, hb⟩ := hE es[i] (List.getElem_mem hi)
  rw [getD_at hi, he] at hm
  simp only [List.mem_cons, List.not_mem_nil, or_false] at hm
  rcases hm with rfl | rfl <;> omega
theorem graphOk_len20 {n : Int} {es : List (List Int)} (h : graphOk n es = true) : es.length ≤ 20 := by
  obtain ⟨m, rfl, h1, h5, _, hk⟩ := graphOk_n h
  by_cases h0 : es.length = 0
  · omega
  · have hr := graphOk_rank h1 h5 hk (es.length - 1) (by omega)
    obtain ⟨a, b, e1, h3, h4⟩ := stepW_edge (by omega) (by omega) (okN_true hk (show es.length - 1 < es.length by omega))
    rw [e1] at hr
    simp [rankE] at hr
    omega
def matR (n : Int) (es : List (List Int)) : List Int × Int := if graphOk n es = true then (cntL (n.toNat / 2 + 1) (matN es (2 ^ es.length)), 0) else ([], 1)
theorem matR_len (n : Int) (es : List (List Int)) : (matR n es).1.length ≤ 6 := by
  unfold matR
  split
  · rename_i h
    obtain ⟨m, rfl, _, hm, _⟩ := graphOk_all h
    rw [cntL_len]; omega
  · simp
end Go.Proofs.Ytbhhihaaiiaagaa
namespace Go.Proofs.Ytbhhihaaiiaagaa
open Go.RowKit Go.Sort
/-- edges below m, each behind the one before it -/
def UpE (m : Nat) : List (List Int) → Prop
  | [] => True
  | [e] => ∃ a b : Nat, e = [(a : Int), (b : Int)] ∧ a < b ∧ b < m
  | e :: f :: r => (∃ a b : Nat, e = [(a : Int), (b : Int)] ∧ a < b ∧ b < m) ∧ lessL e f = true ∧ UpE m (f :: r)
theorem lessL_two (a b c d : Nat) : lessL [(a : Int), (b : Int)] [(c : Int), (d : Int)] = true ↔ (a < c ∨ (a = c ∧ b < d)) := by
  simp [lessL]
  split <;> omega
theorem okN_snoc {hi : Int} {es : List (List Int)} {e : List Int} : ∀ {k : Nat}, k ≤ es.length → okN hi (es ++ [e]) k = okN hi es k
  | 0, _ => rfl
  | k + 1, h => by
    have ih := okN_snoc (hi := hi) (es := es) (e := e) (k := k) (by omega)
    unfold okN
    rw [ih]
    congr 1
    unfold stepW
    have e1 : (es ++ [e]).getD k [] = es.getD k [] := by rw [List.getD_eq_getElem?_getD, List.getD_eq_getElem?_getD, List.getElem?_append_left (by omega)]
    have e2 : (es ++ [e]).getD (k - 1) [] = es.getD (k - 1) [] := by rw [List.getD_eq_getElem?_getD, List.getD_eq_getElem?_getD, List.getElem?_append_left (by omega)]
    rw [e1, e2]
/-- all edges so far are valid, and lie before (p, q) -/
structure Pre (m : Nat) (es : List (List Int)) (p q : Nat) : Prop where
  ok : okN ((m : Int) - 1) es es.length = true
  low : ∀ e ∈ es, ∃ a b : Nat, e = [(a : Int), (b : Int)] ∧ (a < p ∨ (a = p ∧ b < q))
theorem Pre.nil (m p q : Nat) : Pre m [] p q := ⟨rfl, by simp⟩
theorem Pre.next {m p q p' q' : Nat} {es : List (List Int)} (h : Pre m es p q) (hl : p < p' ∨ (p = p' ∧ q ≤ q')) : Pre m es p' q' :=
  ⟨h.ok, fun e he => by
    obtain ⟨a, b, h1, h2⟩ := h.low e he
    exact ⟨a, b, h1, by omega⟩⟩
theorem Pre.snoc {m p q : Nat} {es : List (List Int)} (h : Pre m es p q) (hpq : p < q) (hq : q < m) (hm : m ≤ 1000) : Pre m (es ++ [[(p : Int), (q : Int)]]) p (q + 1) := by
  refine ⟨?_, fun e he => ?_⟩
  · rw [List.length_append, List.length_singleton]
    unfold okN
    rw [okN_snoc (Nat.le_refl _), h.ok, Bool.true_and]
    unfold stepW
    have e1 : (es ++ [[(p : Int), (q : Int)]]).getD es.length [] = [(p : Int), (q : Int)] := by simp [List.getD_eq_getElem?_getD]
    rw [e1, Bool.and_eq_true]
    refine ⟨?_, ?_⟩
    · rw [edgeW_two (q := (p : Int) + 1) (by rw [IntWalk.i64_in _ (by omega)]), Bool.and_eq_true, inR_iff, inR_iff]
      omega
    · by_cases h0 : es.length = 0
      · rw [decide_eq_true h0]; rfl
      · rw [decide_eq_false h0, Bool.false_or]
        have hl : es.length - 1 < es.length := by omega
        have e2 : (es ++ [[(p : Int), (q : Int)]]).getD (es.length - 1) [] = es[es.length - 1] := by rw [List.getD_eq_getElem?_getD, List.getElem?_append_left hl, List.getElem?_eq_getElem hl]; rfl
        rw [e2]
        obtain ⟨a, b, h1, h2⟩ := h.low _ (List.getElem_mem hl)
        rw [h1, lessL_two]
        exact h2
  · simp only [List.mem_append, List.mem_singleton] at he
    rcases he with he | rfl
    · obtain ⟨a, b, h1, h2⟩ := h.low e he
      exact ⟨a, b, h1, by omega⟩
    · exact ⟨p, q, rfl, by omega⟩
theorem Pre.graph {m p q : Nat} {es : List (List Int)} (h : Pre m es p q) (h1 : 1 ≤ m) (h5 : m ≤ 5) : graphOk m es = true := by
  unfold graphOk
  rw [IntWalk.i64_in _ (by omega), h.ok, Bool.and_true, inR_iff]
  omega
theorem pre_row {m : Nat} {es : List (List Int)} (hm : es.length = m) (h5 : m ≤ 1000) (i : Nat) (hi : i < m) : ∀ (j : Nat) (l : List (List Int)), i + 1 ≤ j → j ≤ m → Pre m l i (i + 1) → Pre m (l ++ rowE es i j) i j
  | 0, l, h, _, _ => by omega
  | j + 1, l, h, hj, hl => by
    by_cases e : j = i
    · subst e
      rw [rowE_start, List.append_nil]
      exact hl
    · have ih := pre_row hm h5 i hi j l (by omega) (by omega) hl
      cases hs : shareL (es.getD i []) (es.getD j []) with
      | true =>
        rw [rowE_yes (by omega) hs, ← List.append_assoc]
        exact ih.snoc (by omega) (by omega) h5
      | false =>
        rw [rowE_no hs]
        exact ih.next (.inr ⟨rfl, by omega⟩)
theorem pre_all {m : Nat} {es : List (List Int)} (hm : es.length = m) (h5 : m ≤ 1000) : ∀ i, i ≤ m → Pre m (allE es i) i 0
  | 0, _ => by simpa [allE] using Pre.nil m 0 0
  | i + 1, h => by
    have ih := pre_all hm h5 i (by omega)
    rw [allE_succ, hm]
    have := pre_row hm h5 i (by omega) m (allE es i) (by omega) (Nat.le_refl _) (ih.next (.inr ⟨rfl, by omega⟩))
    exact this.next (.inl (by omega))
theorem line_valid {es : List (List Int)} (h1 : 1 ≤ es.length) (h5 : es.length ≤ 5) : graphOk (es.length : Int) (allE es es.length) = true :=
  (pre_all rfl (by omega) es.length (Nat.le_refl _)).graph h1 h5
theorem foldl_bump_get (g : Nat) : ∀ (ss : List (List Int)) (o : List Int), (∀ s ∈ ss, s.length < o.length) → (ss.foldl bump o).getD g 0 = o.getD g 0 + (if g < o.length then (ss.countP (fun s => s.length == g) : Int) else 0)
  | [], o, _ => by simp
  | s :: r, o, h => by
    rw [List.foldl_cons, foldl_bump_get g r (bump o s) (fun x hx => by simpa [bump] using h x (by simp [hx]))]
    have hs := h s (by simp)
    have hl : (bump o s).length = o.length := by simp [bump]
    rw [hl, List.countP_cons]
    unfold bump
    simp only [List.getD_eq_getElem?_getD, List.getElem?_set]
    by_cases e : s.length = g
    · subst e
      rw [if_pos rfl, if_pos hs, if_pos hs, if_pos hs]
      simp only [Option.getD_some, beq_self_eq_true, if_true, Int.natCast_add]
      omega
    · have e2 : (s.length == g) = false := by rw [beq_eq_false_iff_ne]; exact e
      rw [if_neg e, e2]
      simp
/-- the counts of one list by two lengths that serve it -/
theorem cntL_get {A : Nat} {ss : List (List Int)} (h : ∀ s ∈ ss, s.length < A) (g : Nat) : (cntL A ss).getD g 0 = (ss.countP (fun s => s.length == g) : Int) := by
  unfold cntL
  rw [foldl_bump_get g ss _ (by simpa using h)]
  have h0 : (List.replicate A (0 : Int)).getD g 0 = 0 := by
    rw [List.getD_eq_getElem?_getD, List.getElem?_replicate]
    split <;> rfl
  rw [h0, List.length_replicate]
  split
  · omega
  · rename_i hg
    have : ss.countP (fun s => s.length == g) = 0 := by
      rw [List.countP_eq_zero]
      intro s hs
      have := h s hs
      simp
      omega
    rw [this]; rfl
theorem cntL_two {A B : Nat} {ss : List (List Int)} (hA : ∀ s ∈ ss, s.length < A) (hB : ∀ s ∈ ss, s.length < B) (g : Nat) : (cntL A ss).getD g 0 = (cntL B ss).getD g 0 := by
  rw [cntL_get hA, cntL_get hB]
end Go.Proofs.Ytbhhihaaiiaagaa
namespace Go.Proofs.Ytbhhihaaiiaagaa
open Go.RowKit Go.Sort
set_option maxRecDepth 100000 in
set_option maxHeartbeats 4000000 in
theorem ImplMatchingCounts_any {v : Value} {es : List (List Int)} (n : Int) (w : World) (ha : SlII w v es) :
    Calls Try.prog 16 #[.agg #[.int .i64 n, v]] w (FreshIC w (matR n es)) := by
  have HA := Lib.hid (fun W (h : Below w.heap.size w W) => ha.below h)
  obtain ⟨a, ca, us, rfl, _⟩ := ha
  have b1 : Below w.heap.size w (w.alloc (.cells #[.int .i64 n, .slice a es.length ca] 29)) := (Below.refl _ _).alloc (Nat.le_refl _) _
  have X := Lib.hid (graphAt_new w n (.slice a es.length ca))
  have hR : matR n es = if graphOk n es = true then (cntL (n.toNat / 2 + 1) (matN es (2 ^ es.length)), 0) else ([], 1) := rfl
  generalize hg : graphOk n es = g at hR
  have HR := Lib.hid hR
  have HG := Lib.hid hg
  have B1 := Lib.hid b1
  clear hR hg b1
  cases g
  · go_enter Try.func16, Try.ntmps16
    go_wp2_with fail
    refine (ImplValidGraph_any n _ (HA.out _ B1.out)).mono ?_
    rintro e w2 ⟨rfl, b2⟩
    rw [HG.out]
    have hb2 := B1.out.trans (b2.mono B1.out.size)
    go_wp2
    go_ret2
    rw [HR.out]
    exact ⟨_, rfl, OwnI.nil _ _, hb2⟩
  · obtain ⟨m, rfl, hm1, hm5, hE, _⟩ := graphOk_all HG.out
    have hl := graphOk_len20 HG.out
    have hR2 := HR.out
    rw [if_pos rfl, Int.toNat_natCast, matN_eq] at hR2
    obtain ⟨SS, hSS⟩ : ∃ SS, SS = indN es.length (allE es es.length) (2 ^ es.length) := ⟨_, rfl⟩
    have hSl : SS.length ≤ 1048576 := by rw [hSS]; exact Nat.le_trans (indN_len _ _ _) (Nat.le_trans (Nat.pow_le_pow_right (by decide) hl) (by decide))
    have hSm : ∀ s ∈ SS, s.length < m / 2 + 1 := by
      intro s hs
      rw [hSS] at hs
      obtain ⟨x, _, rfl, hi⟩ := indN_mem _ hs
      rw [indep_line] at hi
      have := okM_size hE x hi
      omega
    rw [← hSS] at hR2
    obtain ⟨M, hM⟩ : ∃ M, M = m / 2 := ⟨_, rfl⟩
    rw [← hM] at hR2 hSm
    have hd1 : Int.tdiv (m : Int) 2 = (M : Int) := by rw [hM, Int.tdiv_eq_ediv_of_nonneg (by omega)]; simp
    have hd2 : (m : Int) / 2 = (M : Int) := by rw [hM]; simp
    have hd3 : IntKind.i64.wrap (M : Int) = (M : Int) := IntWalk.i64_in _ (by omega)
    have hd4 : ¬ ((2 : Int) = 0) := by decide
    have hr : IntKind.i64.wrap ((M : Int) + 1) = ((M + 1 : Nat) : Int) := by rw [IntWalk.i64_in _ (by omega)]; simp
    have hMb : M ≤ 5 := by omega
    have HS := Lib.hid hSS
    have HSM := Lib.hid hSm
    have HR2 := Lib.hid hR2
    have HE := Lib.hid hE
    clear hE hR2 hSS hSm hM
    go_enter Try.func16, Try.ntmps16
    go_wp2_with fail
    refine (ImplValidGraph_any m _ (HA.out _ B1.out)).mono ?_
    rintro e w2 ⟨rfl, b2⟩
    rw [HG.out]
    have X2 := Lib.hid (X.out.below b2)
    have B2 := Lib.hid (B1.out.trans (b2.mono B1.out.size))
    obtain ⟨_, c0, c1⟩ := X2.out
    simp only [Nat.zero_add] at c0 c1
    clear b2
    go_wp2_with (at_make; refine make_i64 w2 _ _ rfl rfl (M + 1) rfl rfl (by first | exact hr | simp [hr]) (by first | exact hr | simp [hr]) (by omega) ?_)
    intro w3 hmk hb3 hz3
    have B3 := Lib.hid hb3
    have B3W := Lib.hid (B2.out.trans (hb3.mono B2.out.size))
    have HMK := Lib.hid hmk
    clear c0 c1
    obtain ⟨_, c0, c1⟩ := X2.out.below hb3
    simp only [Nat.zero_add] at c0 c1
    clear hmk hb3
    go_wp2_with fail
    refine (lineGraph_any m m _ (HA.out _ B3W.out) HE.out (by omega)).mono ?_
    rintro e w4 ⟨lr, rfl, o4, b4⟩
    have L4 := Lib.hid o4.sl
    have B4 := Lib.hid (B3.out.trans (b4.mono (Nat.le_of_lt hz3)))
    have M4 := Lib.hid (HMK.out.below b4)
    have hz4 := Lib.hid (Nat.lt_of_lt_of_le hz3 b4.size)
    obtain ⟨la, ln, lc, rfl, hln⟩ := o4.form
    clear o4 b4 c0 c1
    go_wp2_with fail
    refine (independent_any es.length _ L4.out (edgesB_line es) hl).mono ?_
    rintro e w5 ⟨r, rfl, o5, b5⟩
    rw [← HS.out] at o5
    have O5 := Lib.hid o5
    have B5 := Lib.hid (B4.out.trans (b5.mono (Nat.le_of_lt hz4.out)))
    have M5 := Lib.hid (M4.out.below b5)
    obtain ⟨ra, rn, rc, rfl, hrn⟩ := o5.form
    rw [hrn.out] at O5 ⊢
    clear o5 b5
    go_wp2
    go_loopw [6, 19] (fun _ i wr => ∃ k : Nat, k ≤ SS.length ∧ i = .int .i64 k ∧ OwnI wr w2.heap.size (.slice (some ⟨w2.heap.size, 0, none⟩) (M + 1) (M + 1)) (cntL (M + 1) (SS.take k)) ∧ OwnII wr w4.heap.size (.slice ra SS.length rc) SS ∧ Below w2.heap.size w2 wr) (fun _ i _ => SS.length - (intOf i).toNat)
    case atStart => exact ⟨0, Nat.zero_le _, rfl, M5.out, O5.out, B5.out⟩
    case round =>
      clear M4 O5 B5 HMK M5
      obtain ⟨k, hk, rfl, hcn, hro, hbr⟩ := hrel
      by_cases hlt : k < SS.length
      · obtain ⟨bb, off, u, rfl, gc, ou⟩ := hro.rowAt hlt
        obtain ⟨ua, un, uc, rfl, hun⟩ := ou.form
        rw [hun.out] at ou gc
        have hln2 := HSM.out _ (List.getElem_mem hlt)
        have hstep := cntL_take (L := M + 1) hlt
        have hrng := cntL_rng (M + 1) (SS.take k) SS[k].length
        have hcl := cntL_len (M + 1) (SS.take k)
        obtain ⟨g, hg⟩ : ∃ g, g = SS[k].length := ⟨_, rfl⟩
        unfold bump at hstep
        rw [← hg] at ou gc hln2 hstep hrng
        have hgl : g < (cntL (M + 1) (SS.take k)).length := by omega
        have cc := hcn.cell hgl
        have cf := hcn.free g
        have eg := getD_at (d := 0) hgl
        rw [eg] at hstep hrng
        generalize (cntL (M + 1) (SS.take k))[g] = cv at cc hstep hrng
        have htl : (SS.take k).length ≤ 1048576 := by rw [List.length_take]; omega
        have r3 : IntKind.i64.wrap (cv + 1) = cv + 1 := IntWalk.i64_in _ (by omega)
        have ig : (g : Int) < ((M + 1 : Nat) : Int) := by omega
        have ig2 : (g : Int) < (M : Int) + 1 := by omega
        have ig3 : g < M + 1 := by omega
        have ik : (k : Int) < (SS.length : Int) := by omega
        have OS := Lib.hid (hcn.set g (cv + 1))
        have RS := Lib.hid (hro.setCell (a := ⟨w2.heap.size, g, none⟩) hz4.out (.int .i64 (cv + 1)))
        have BS := Lib.hid (hbr.setCell (p := ⟨w2.heap.size, g, none⟩) (Nat.le_refl _) (.int .i64 (cv + 1)))
        have HST := Lib.hid hstep
        clear hstep hrng hcl hgl eg hcn hro hbr ou hg htl
        go_wp2
        go_roundw
        case rel => exact ⟨k + 1, by omega, by go_num, by rw [HST.out]; exact OS.out, RS.out, BS.out⟩
        case measure => simp [intOf]; omega
      · obtain rfl : k = SS.length := by omega
        have HC := Lib.hid hcn
        have HBR := Lib.hid hbr
        clear hcn hro hbr
        go_wp2
        go_ret2
        have := HC.out
        rw [List.take_length] at this
        rw [HR2.out]
        exact ⟨_, rfl, this.lower B2.out.size, B2.out.trans (HBR.out.mono B2.out.size)⟩
end Go.Proofs.Ytbhhihaaiiaagaa
namespace Go.Proofs.Ytbhhihaaiiaagaa
open Go.RowKit Go.Sort
theorem okM_false {es : List (List Int)} {x k : Nat} (h : okM es x k = false) : ∀ {j : Nat}, k ≤ j → okM es x j = false
  | 0, hj => by obtain rfl : k = 0 := by omega
                exact h
  | j + 1, hj => by
    by_cases e : k = j + 1
    · subst e; exact h
    · unfold okM; rw [okM_false h (show k ≤ j by omega)]; rfl
theorem okM_skip {es : List (List Int)} {x k : Nat} {D : Bool} (h : okM es x k = D) (hb : x / 2 ^ k % 2 = 0) : okM es x (k + 1) = D := by
  unfold okM; rw [h, if_neg (by omega)]; simp
theorem okM_take {es : List (List Int)} {x k : Nat} {a b : Int} {p q : Bool} (h : okM es x k = true) (hb : x / 2 ^ k % 2 = 1) (he : es.getD k [] = [a, b]) (hp : decide (a ∈ usedM es x k) = p) (hq : decide (b ∈ usedM es x k) = q) : okM es x (k + 1) = (!p && !q) := by
  unfold okM; rw [h, if_pos hb, he]; simp only [List.getD_cons_zero, List.getD_cons_succ]; rw [hp, hq]; simp
theorem usedM_skip {es : List (List Int)} {x k : Nat} (hb : x / 2 ^ k % 2 = 0) : usedM es x (k + 1) = usedM es x k := by
  conv => lhs; unfold usedM
  rw [if_neg (by omega)]
theorem usedM_take {es : List (List Int)} {x k : Nat} {a b : Int} (hb : x / 2 ^ k % 2 = 1) (he : es.getD k [] = [a, b]) : usedM es x (k + 1) = usedM es x k ++ [a, b] := by
  conv => lhs; unfold usedM
  rw [if_pos hb, he]
theorem matN_yes {es : List (List Int)} {x : Nat} (h : okM es x es.length = true) : matN es (x + 1) = matN es x ++ [setK x es.length] := by
  conv => lhs; unfold matN
  rw [if_pos h]
theorem matN_no {es : List (List Int)} {x : Nat} (h : okM es x es.length = false) : matN es (x + 1) = matN es x := by
  conv => lhs; unfold matN
  rw [if_neg (by rw [h]; simp)]
theorem matN_len (es : List (List Int)) (N : Nat) : (matN es N).length ≤ N := by rw [matN_eq]; exact indN_len _ _ _
theorem l00Has_w {u : Value} {xs : List Int} {x : Int} {q : Bool} (h : decide (x ∈ xs) = q) (w : World) (ha : SlI w u xs) :
    Calls Try.prog 32 #[u, .int .i64 x] w fun e w' => e = .returned (.bool q) ∧ Below w.heap.size w w' :=
  (l00Has_any x w ha).mono fun e w' ⟨h1, h2⟩ => ⟨by rw [h1, h], by rw [h2]; exact Below.refl _ _⟩
set_option maxRecDepth 100000 in
set_option maxHeartbeats 8000000 in
theorem SpecMatchingCounts_any {v : Value} {es : List (List Int)} (n : Int) (w : World) (ha : SlII w v es) :
    Calls Try.prog 15 #[.agg #[.int .i64 n, v]] w (FreshIC w (matR n es)) := by
  have HA := Lib.hid (fun W (h : Below w.heap.size w W) => ha.below h)
  obtain ⟨a, ca, us, rfl, hca, hca', hul, hrd, hrow⟩ := ha
  unfold maxLen at hca'
  have HG2 := Lib.hid (fun W (h : Below w.heap.size w W) => And.intro (hrd.below h) (fun i hi u hu => (hrow i hi u hu).below h))
  have HU := Lib.hid hul
  have b1 : Below w.heap.size w (w.alloc (.cells #[.int .i64 n, .slice a es.length ca] 29)) := (Below.refl _ _).alloc (Nat.le_refl _) _
  have X := Lib.hid (graphAt_new w n (.slice a es.length ca))
  have e0 := Lib.hid (fun W : World => OwnI.empty W (base := W.heap.size) (Nat.le_refl _))
  have hR : matR n es = if graphOk n es = true then (cntL (n.toNat / 2 + 1) (matN es (2 ^ es.length)), 0) else ([], 1) := rfl
  generalize hg : graphOk n es = g at hR
  have HR := Lib.hid hR
  have HG := Lib.hid hg
  have B1 := Lib.hid b1
  clear hR hg b1 hrd hrow hul
  cases g
  · go_enter Try.func15, Try.ntmps15
    go_wp2_with fail
    refine (l08Ok_any w.heap.size 0 n _ X.out (HA.out _ B1.out)).mono ?_
    rintro e w2 ⟨rfl, b2⟩
    rw [HG.out]
    have hb2 := B1.out.trans (b2.mono B1.out.size)
    go_wp2
    go_ret2
    rw [HR.out]
    exact ⟨_, rfl, (e0.out _).lower hb2.size, hb2.alloc hb2.size _⟩
  · obtain ⟨m, rfl, hm1, hm5, hE, _⟩ := graphOk_all HG.out
    have hl := graphOk_len20 HG.out
    have hR2 := HR.out
    rw [if_pos rfl, Int.toNat_natCast] at hR2
    obtain ⟨N, hN⟩ : ∃ N, N = 2 ^ es.length := ⟨_, rfl⟩
    rw [← hN] at hR2
    have hNc : N ≤ 1048576 := by rw [hN]; exact Nat.le_trans (Nat.pow_le_pow_right (by decide) hl) (by decide)
    have s1 : IntKind.i64.wrap ((2 : Int) ^ es.length) = (N : Int) := by rw [hN]; rw [show ((2 : Int) ^ es.length) = ((2 ^ es.length : Nat) : Int) by simp, ← hN]; exact IntWalk.i64_in _ (by omega)
    have s2 : IntKind.i64.wrap ((2 : Int) ^ min es.length 64) = (N : Int) := by rw [Nat.min_eq_left (by omega)]; exact s1
    have s3 : wrap64 ((2 : Int) ^ es.length) = (N : Int) := by rw [← IntWalk.i64_left]; exact s1
    have s4 : wrap64 ((2 : Int) ^ min es.length 64) = (N : Int) := by rw [← IntWalk.i64_left]; exact s2
    have hcv : IntKind.u64.wrap (es.length : Int) = (es.length : Int) := by rw [IntKind.wrap_u64]; omega
    obtain ⟨M, hM⟩ : ∃ M, M = m / 2 := ⟨_, rfl⟩
    rw [← hM] at hR2
    have hd1 : Int.tdiv (m : Int) 2 = (M : Int) := by rw [hM, Int.tdiv_eq_ediv_of_nonneg (by omega)]; simp
    have hd2 : (m : Int) / 2 = (M : Int) := by rw [hM]; simp
    have hd3 : IntKind.i64.wrap (M : Int) = (M : Int) := IntWalk.i64_in _ (by omega)
    have hd4 : ¬ ((2 : Int) = 0) := by decide
    have hr : IntKind.i64.wrap ((M : Int) + 1) = ((M + 1 : Nat) : Int) := by rw [IntWalk.i64_in _ (by omega)]; simp
    have hMb : M ≤ 5 := by omega
    have hsz : ∀ x, okM es x es.length = true → (setK x es.length).length < M + 1 := fun x h => by have := okM_size hE x h; omega
    have HSZ := Lib.hid hsz
    have HR2 := Lib.hid hR2
    have HE := Lib.hid hE
    have HN := Lib.hid hN
    clear hE hR2 hM hsz hN
    go_enter Try.func15, Try.ntmps15
    go_wp2_with fail
    refine (l08Ok_any w.heap.size 0 m _ X.out (HA.out _ B1.out)).mono ?_
    rintro e w2 ⟨rfl, b2⟩
    rw [HG.out]
    have X2 := Lib.hid (X.out.below b2)
    have B2 := Lib.hid (B1.out.trans (b2.mono B1.out.size))
    obtain ⟨_, c0, c1⟩ := X2.out
    simp only [Nat.zero_add] at c0 c1
    clear b2
    go_wp2_with (at_make; refine make_i64 w2 _ _ rfl rfl (M + 1) rfl rfl (by first | exact hr | simp [hr]) (by first | exact hr | simp [hr]) (by omega) ?_)
    intro w3 hmk hb3 hz3
    have B3 := Lib.hid hb3
    have HMK := Lib.hid hmk
    clear hmk hb3 c0 c1
    go_wp2
    go_loopw [5, 6, 7, 8, 9] (fun i _ _ _ _ wr => ∃ x : Nat, x ≤ N ∧ i = .int .i64 x ∧ OwnI wr w2.heap.size (.slice (some ⟨w2.heap.size, 0, none⟩) (M + 1) (M + 1)) (cntL (M + 1) (matN es x)) ∧ w2.heap.size < wr.heap.size ∧ Below w2.heap.size w2 wr) (fun i _ _ _ _ _ => N - (intOf i).toNat)
    case atStart => exact ⟨0, Nat.zero_le _, rfl, HMK.out, hz3, B3.out⟩
    case round =>
      clear HMK B3 hz3
      obtain ⟨x, hx, rfl, hown, hzr, hbr⟩ := hrel
      have XR := Lib.hid (X2.out.below hbr)
      have BW := Lib.hid (B2.out.trans (hbr.mono B2.out.size))
      obtain ⟨_, c0, c1⟩ := XR.out
      simp only [Nat.zero_add] at c0 c1
      have HO := Lib.hid hown
      have HB := Lib.hid hbr
      clear hown hbr
      by_cases hxt : x < N
      · have hxi : (x : Int) < (N : Int) := by omega
        obtain ⟨wo, hwo⟩ : ∃ wo : World, wo = wr := ⟨_, rfl⟩
        subst hwo
        have own0 := OwnI.empty wo (base := wo.heap.size) (Nat.le_refl _)
        have OE := Lib.hid own0
        clear own0
        go_wp2
        clear c0 c1
        go_loopw [6, 7, 8, 9] (fun us' ok' sz' kk' wr => ∃ (k z : Nat) (D : Bool), k ≤ es.length ∧ kk' = .int .i64 k ∧ ok' = .bool D ∧ Hid (okM es x k = D) ∧ sz' = .int .i64 z ∧ Hid (z = (setK x k).length) ∧ OwnI wr wo.heap.size us' (usedM es x k) ∧ Below wo.heap.size wo wr) (fun _ _ _ kk' _ => es.length - (intOf kk').toNat)
        case atStart => exact ⟨0, 0, true, Nat.zero_le _, rfl, rfl, Lib.hid rfl, rfl, Lib.hid rfl, OE.out, (Below.refl _ _).alloc (Nat.le_refl _) _⟩
        case round =>
          clear OE
          obtain ⟨k, z, D, hk, rfl, rfl, hok, rfl, hzk, hused, hbo⟩ := hrel
          have hbw := BW.out.trans (hbo.mono BW.out.size)
          obtain ⟨_, c0, c1⟩ := XR.out.below hbo
          simp only [Nat.zero_add] at c0 c1
          have hsk : z ≤ k := by rw [hzk.out]; exact setK_len x k
          by_cases hkt : k < es.length
          · have i1 : (k : Int) < (es.length : Int) := by omega
            have i0 : (0 : Int) ≤ (k : Int) := by omega
            cases D
            · have hno := okM_false hok.out hk
              have HNO := Lib.hid hno
              have ho2 := HO.out.below hbo
              have hz2 := Nat.lt_of_lt_of_le hzr hbo.size
              clear hno hused
              go_wp2
              go_roundw
              case rel => exact ⟨x + 1, by omega, by go_num, by rw [matN_no HNO.out]; exact ho2, hz2, HB.out.trans (hbo.mono HB.out.size)⟩
              case measure => simp [intOf]; omega
            · have hcv2 : IntKind.u64.wrap (k : Int) = (k : Int) := by rw [IntKind.wrap_u64]; omega
              obtain ⟨S, hS⟩ : ∃ S, S = x / 2 ^ k := ⟨_, rfl⟩
              have hSx : S ≤ x := by rw [hS]; exact Nat.div_le_self _ _
              have sh1 : (x : Int) / 2 ^ min k 64 = (S : Int) := by rw [shr_nat x k (by omega), hS]
              have sh2 : (x : Int) / 2 ^ k = (S : Int) := by rw [hS]; simp
              obtain ⟨T, hT⟩ : ∃ T, T = S % 2 := ⟨_, rfl⟩
              have an : bits .and .i64 (S : Int) 1 = (T : Int) := by rw [and_one S (by omega), hT]
              have hTT : x / 2 ^ k % 2 = T := by rw [hT, hS]
              have HT := Lib.hid hTT
              have hT2 : T < 2 := by omega
              clear hS hT hTT
              by_cases ht : T = 0
              · have tt : ((T : Int) == 0) = true := by rw [ht]; rfl
                have hx0 := HT.out.trans ht
                have H1 := Lib.hid (okM_skip hok.out hx0)
                have H2 := Lib.hid (usedM_skip (es := es) hx0)
                have H3 := Lib.hid (setK_no hx0)
                clear ht hx0
                go_wp2
                go_roundw
                case rel => exact ⟨k + 1, z, true, by omega, by go_num, rfl, H1, rfl, Lib.hid (by rw [H3.out]; exact hzk.out), by rw [H2.out]; exact hused, hbo⟩
                case measure => simp [intOf]; omega
              · have tt : ((T : Int) == 0) = false := by rw [beq_eq_false_iff_ne]; omega
                have tt2 : ¬ ((T : Int) = 0) := by omega
                have hx1 : x / 2 ^ k % 2 = 1 := by rw [HT.out]; omega
                obtain ⟨y, hy⟩ : ∃ y, us[k]? = some y := ⟨_, List.getElem?_eq_getElem (by rw [HU.out]; exact hkt)⟩
                obtain ⟨eb, eo, rfl, gy⟩ := (HG2.out _ hbw).1.one hy
                obtain ⟨A, B, he, hAB, hBm⟩ := HE.out es[k] (List.getElem_mem hkt)
                have SY := Lib.hid (fun W (h : Below w.heap.size w W) => show SlI W y [(A : Int), (B : Int)] by have := (HG2.out W h).2 k hkt y hy; rw [he] at this; exact this)
                have heg : es.getD k [] = [(A : Int), (B : Int)] := by rw [getD_at hkt, he]
                obtain ⟨ya, yc, hye, _, _, ur⟩ := SY.out _ hbw
                simp only [List.length_cons, List.length_nil, Nat.zero_add] at hye
                subst hye
                obtain ⟨yb, yo, rfl, g0⟩ := ur.one (i64s_get (j := 0) (by simp))
                obtain ⟨yb', yo', he2, g1⟩ := ur.one (i64s_get (j := 1) (by simp))
                simp only [Option.some.injEq, Addr.mk.injEq] at he2
                obtain ⟨rfl, rfl, _⟩ := he2
                simp only [Nat.add_zero, List.getElem_cons_zero, List.getElem_cons_succ] at g0 g1
                generalize hp : decide ((A : Int) ∈ usedM es x k) = p
                generalize hq : decide ((B : Int) ∈ usedM es x k) = q
                have H1 := Lib.hid (okM_take hok.out hx1 heg hp hq)
                have H2 := Lib.hid (usedM_take hx1 heg)
                have H3 := Lib.hid (setK_yes hx1)
                have HP := Lib.hid hp
                have HQ := Lib.hid hq
                have r3 : IntKind.i64.wrap ((z : Int) + 1) = ((z + 1 : Nat) : Int) := by rw [IntWalk.i64_in _ (by omega)]; simp
                have HZ1 := Lib.hid (show z + 1 = (setK x (k + 1)).length by rw [H3.out, List.length_append, ← hzk.out]; rfl)
                have hln : (usedM es x k).length + 2 < 16777216 := by have := usedM_len HE.out x k (by omega); have := setK_len x k; omega
                have HBO := Lib.hid hbo
                have HUS := Lib.hid hused
                obtain ⟨xa, xc, rfl, _⟩ := id hused.sl
                clear hp hq hx1 heg he hy ur hused hbo ht
                cases p
                · go_wp2_with fail
                  refine (l00Has_w HP.out _ HUS.out.sl).mono ?_
                  rintro e w4 ⟨rfl, b4⟩
                  have o4 := HUS.out.below b4
                  have B4 := Lib.hid (b4.mono HBO.out.size)
                  have gy1 := b4.cell (p := ⟨eb, eo + k, none⟩) (cell_lt gy)
                  rw [gy] at gy1
                  have g01 := b4.cell (p := ⟨yb, yo, none⟩) (cell_lt g0)
                  rw [g0] at g01
                  have g11 := b4.cell (p := ⟨yb, yo + 1, none⟩) (cell_lt g1)
                  rw [g1] at g11
                  have c11 := b4.cell (p := ⟨w.heap.size, 1, none⟩) (cell_lt c1)
                  rw [c1] at c11
                  clear gy g0 g1 c1 c0
                  clear b4
                  cases q
                  · go_wp2_with fail
                    refine (l00Has_w HQ.out _ o4.sl).mono ?_
                    rintro e w5 ⟨rfl, b5⟩
                    have o5 := o4.below b5
                    have B5 := Lib.hid (B4.out.trans (b5.mono (Nat.le_trans HBO.out.size B4.out.size)))
                    have gy2 := b5.cell (p := ⟨eb, eo + k, none⟩) (cell_lt gy1)
                    rw [gy1] at gy2
                    have g02 := b5.cell (p := ⟨yb, yo, none⟩) (cell_lt g01)
                    rw [g01] at g02
                    have g12 := b5.cell (p := ⟨yb, yo + 1, none⟩) (cell_lt g11)
                    rw [g11] at g12
                    have c12 := b5.cell (p := ⟨w.heap.size, 1, none⟩) (cell_lt c11)
                    rw [c11] at c12
                    clear gy1 g01 g11 c11
                    clear b5
                    have hzz := (HBO.out.trans B5.out).size
                    go_wp2_with (at_builtin; refine append_SlI _ _ _ rfl rfl rfl o5 rfl (SY.out _ (BW.out.trans ((HBO.out.trans B5.out).mono BW.out.size))) (by simp; omega) hzz ?_)
                    intro v6 w6 o6 g6 b6
                    rw [← H2.out] at o6
                    have hb6 := (HBO.out.trans B5.out).trans b6
                    clear b6 g6
                    go_wp2
                    go_roundw
                    case rel => exact ⟨k + 1, z + 1, true, by omega, by go_num, rfl, Lib.hid (by rw [H1.out]; rfl), by go_num, HZ1, o6, hb6⟩
                    case measure => simp [intOf]; omega
                  · go_wp2_with fail
                    refine (l00Has_w HQ.out _ o4.sl).mono ?_
                    rintro e w5 ⟨rfl, b5⟩
                    have o5 := o4.below b5
                    have B5 := Lib.hid (B4.out.trans (b5.mono (Nat.le_trans HBO.out.size B4.out.size)))
                    have gy2 := b5.cell (p := ⟨eb, eo + k, none⟩) (cell_lt gy1)
                    rw [gy1] at gy2
                    have g02 := b5.cell (p := ⟨yb, yo, none⟩) (cell_lt g01)
                    rw [g01] at g02
                    have g12 := b5.cell (p := ⟨yb, yo + 1, none⟩) (cell_lt g11)
                    rw [g11] at g12
                    have c12 := b5.cell (p := ⟨w.heap.size, 1, none⟩) (cell_lt c11)
                    rw [c11] at c12
                    clear gy1 g01 g11 c11
                    clear b5
                    have hzz := (HBO.out.trans B5.out).size
                    go_wp2_with (at_builtin; refine append_SlI _ _ _ rfl rfl rfl o5 rfl (SY.out _ (BW.out.trans ((HBO.out.trans B5.out).mono BW.out.size))) (by simp; omega) hzz ?_)
                    intro v6 w6 o6 g6 b6
                    rw [← H2.out] at o6
                    have hb6 := (HBO.out.trans B5.out).trans b6
                    clear b6 g6
                    go_wp2
                    go_roundw
                    case rel => exact ⟨k + 1, z + 1, false, by omega, by go_num, rfl, Lib.hid (by rw [H1.out]; rfl), by go_num, HZ1, o6, hb6⟩
                    case measure => simp [intOf]; omega
                · go_wp2_with fail
                  refine (l00Has_w HP.out _ HUS.out.sl).mono ?_
                  rintro e w4 ⟨rfl, b4⟩
                  have o4 := HUS.out.below b4
                  have B4 := Lib.hid (b4.mono HBO.out.size)
                  have gy1 := b4.cell (p := ⟨eb, eo + k, none⟩) (cell_lt gy)
                  rw [gy] at gy1
                  have g01 := b4.cell (p := ⟨yb, yo, none⟩) (cell_lt g0)
                  rw [g0] at g01
                  have g11 := b4.cell (p := ⟨yb, yo + 1, none⟩) (cell_lt g1)
                  rw [g1] at g11
                  have c11 := b4.cell (p := ⟨w.heap.size, 1, none⟩) (cell_lt c1)
                  rw [c1] at c11
                  clear gy g0 g1 c1 c0
                  clear b4
                  have hzz := (HBO.out.trans B4.out).size
                  go_wp2_with (at_builtin; refine append_SlI _ _ _ rfl rfl rfl o4 rfl (SY.out _ (BW.out.trans ((HBO.out.trans B4.out).mono BW.out.size))) (by simp; omega) hzz ?_)
                  intro v6 w6 o6 g6 b6
                  rw [← H2.out] at o6
                  have hb6 := (HBO.out.trans B4.out).trans b6
                  clear b6 g6
                  go_wp2
                  go_roundw
                  case rel => exact ⟨k + 1, z + 1, false, by omega, by go_num, rfl, Lib.hid (by rw [H1.out]; rfl), by go_num, HZ1, o6, hb6⟩
                  case measure => simp [intOf]; omega
          · obtain rfl : k = es.length := by omega
            have ho2 := HO.out.below hbo
            have hz2 := Nat.lt_of_lt_of_le hzr hbo.size
            have hb2 := HB.out.trans (hbo.mono HB.out.size)
            clear hused
            cases D
            · go_wp2
              go_roundw
              case rel => exact ⟨x + 1, by omega, by go_num, by rw [matN_no hok.out]; exact ho2, hz2, hb2⟩
              case measure => simp [intOf]; omega
            · have hstep : cntL (M + 1) (matN es (x + 1)) = bump (cntL (M + 1) (matN es x)) (setK x es.length) := by rw [matN_yes hok.out, cntL_snoc]
              have hrng := cntL_rng (M + 1) (matN es x) (setK x es.length).length
              have hcl := cntL_len (M + 1) (matN es x)
              have hml := matN_len es x
              have hgs := HSZ.out x hok.out
              unfold bump at hstep
              rw [← hzk.out] at hgs hstep hrng
              have hgl : z < (cntL (M + 1) (matN es x)).length := by omega
              have cc := ho2.cell hgl
              have cf := ho2.free z
              have eg := getD_at (d := 0) hgl
              rw [eg] at hstep hrng
              generalize (cntL (M + 1) (matN es x))[z] = cv at cc hstep hrng
              have r3 : IntKind.i64.wrap (cv + 1) = cv + 1 := IntWalk.i64_in _ (by omega)
              have ig : (z : Int) < ((M + 1 : Nat) : Int) := by omega
              have ig2 : (z : Int) < (M : Int) + 1 := by omega
              have ig3 : z < M + 1 := by omega
              have OS := Lib.hid (ho2.set z (cv + 1))
              have BS := Lib.hid (hb2.setCell (p := ⟨w2.heap.size, z, none⟩) (Nat.le_refl _) (.int .i64 (cv + 1)))
              have HST := Lib.hid hstep
              clear hstep hrng hcl hgl eg ho2 hb2 hml
              go_wp2
              go_roundw
              case rel => exact ⟨x + 1, by omega, by go_num, by rw [HST.out]; exact OS.out, by simpa using hz2, BS.out⟩
              case measure => simp [intOf]; omega
      · obtain rfl : x = N := by omega
        go_wp2
        go_ret2
        rw [HR2.out]
        exact ⟨_, rfl, HO.out.lower B2.out.size, B2.out.trans (HB.out.mono B2.out.size)⟩
end Go.Proofs.Ytbhhihaaiiaagaa
namespace Go.Proofs.Ytbhhihaaiiaagaa
open Go.RowKit Go.Sort
theorem LineB.fs {S : Nat → Prop} {w w' : World} {b : Nat} {n : Int} {v : Value} (h : LineB w b n v) (hf : Fs S w w') (hS : ¬ S b) : LineB w' b n v := by
  refine ⟨h.c.fs hf hS, ?_⟩
  have := hf.block b h.c.1 hS
  have h2 := h.f
  simpa [World.frozen?, this] using h2

set_option maxRecDepth 100000 in
set_option maxHeartbeats 8000000 in
theorem l08Draw_any (b : Nat) (most : Nat) (w : World) (hs : SrcB w b 0) (h1 : 1 ≤ most) (h5 : most ≤ 5) :
    Calls Try.prog 35 #[.pointer (some ⟨b, 0, none⟩), .int .i64 most] w fun e w' => ∃ (m : Nat) (es : List (List Int)) (v : Value), e = .returned (.agg #[.int .i64 m, v]) ∧ 1 ≤ m ∧ m ≤ most ∧ graphOk m es = true ∧ OwnII w' w.heap.size v es ∧ Fs (fun k => k = b) w w' := by
  have hbw := hs.lt
  obtain ⟨W1, hW1⟩ : ∃ W1, W1 = w.alloc (.cells #[.int .i64 0, .slice none 0 0] 29) := ⟨_, rfl⟩
  have z1 : W1.heap.size = w.heap.size + 1 := by rw [hW1]; simp
  have b1 : Below w.heap.size w W1 := by rw [hW1]; exact (Below.refl _ _).alloc (Nat.le_refl _) _
  have k1 : LineB W1 w.heap.size 0 (.slice none 0 0) := by rw [hW1]; exact ⟨CellsAt.new' _ _ _ rfl, frozen_new⟩
  have k1f : W1.frozen? ⟨w.heap.size, 0, none⟩ = false := by rw [hW1]; exact frozen_new
  have S1 := Lib.hid (hs.below b1)
  have F1 := Lib.hid (show Fs (fun k => k = b) w W1 from Fs.of_below b1)
  have K1 := Lib.hid (And.intro k1 k1f)
  have Z1 := Lib.hid z1
  have HW1 := Lib.hid hW1
  clear hs b1 k1 k1f hW1 z1
  go_enter Try.func35, Try.ntmps35
  go_wp2_with fail
  rw [← HW1.out]
  refine (pick_any b 0 most _ S1.out (by omega)).mono ?_
  rintro e w2 ⟨y, rfl, hy0, hy1, s2, f2⟩
  obtain ⟨y, rfl⟩ := Int.eq_ofNat_of_zero_le hy0
  obtain ⟨m, hm⟩ : ∃ m, m = y + 1 := ⟨_, rfl⟩
  have hm1 : 1 ≤ m := by omega
  have hmm : m ≤ most := by omega
  have r1 : IntKind.i64.wrap (1 + (y : Int)) = (m : Int) := by rw [IntWalk.i64_in _ (by omega)]; omega
  have z2 : W1.heap.size ≤ w2.heap.size := f2.size
  have hBw : w.heap.size + 1 ≤ w2.heap.size := by have := Z1.out; omega
  obtain ⟨W3, hW3⟩ : ∃ W3, W3 = w2.alloc (.cells #[.int .i64 m, .slice none 0 0] 29) := ⟨_, rfl⟩
  have b3 : Below w2.heap.size w2 W3 := by rw [hW3]; exact (Below.refl _ _).alloc (Nat.le_refl _) _
  have k3 : LineB W3 w2.heap.size m (.slice none 0 0) := by rw [hW3]; exact ⟨CellsAt.new' _ _ _ rfl, frozen_new⟩
  have S3 := Lib.hid (s2.below b3)
  have F3 := Lib.hid (show Fs (fun k => k = b) w2 W3 from Fs.of_below b3)
  have F2 := Lib.hid (F1.out.trans f2)
  have K3 := Lib.hid k3
  have K2 := Lib.hid (And.intro (K1.out.1.fs f2 (by omega)) (show w2.frozen? ⟨w.heap.size, 0, none⟩ = false by
    have := f2.block w.heap.size (by rw [Z1.out]; omega) (by omega)
    have h2 := K1.out.2
    simpa [World.frozen?, this] using h2))
  have HW3 := Lib.hid hW3
  have O3 := Lib.hid (OwnII.nil W3 (w2.heap.size + 1))
  clear hy0 hy1 s2 f2 hm b3 k3 hW3 z2 K1
  go_wp2
  rw [← HW3.out]
  go_loopw [6, 7] (fun i _ wr => ∃ (p : Nat) (es : List (List Int)) (v : Value), p ≤ m ∧ i = .int .i64 p ∧ SrcB wr b (2 + 2 * (p * 5)) ∧ LineB wr w2.heap.size m v ∧ OwnII wr (w2.heap.size + 1) v es ∧ Hid (Pre m es p 0) ∧ es.length ≤ p * 5 ∧ Fs (fun k => k = b) w2 wr) (fun i _ _ => m - (intOf i).toNat)
  case atStart => exact ⟨0, [], _, Nat.zero_le _, rfl, S3.out.more (by omega), K3.out, O3.out, Lib.hid (Pre.nil m 0 0), Nat.le_refl _, F3.out⟩
  case round =>
    clear S3 K3 O3 F3
    obtain ⟨p, es, v, hp, rfl, hsrc, hline, hown, hpre, hlen, hf⟩ := hrel
    have c0 := hline.c.get 0 _ rfl
    have c1 := hline.c.get 1 _ rfl
    by_cases hlt : p < m
    · have HS := Lib.hid hsrc
      have HL := Lib.hid hline
      have HO := Lib.hid hown
      have HF := Lib.hid hf
      have HP := Lib.hid (hpre.out.next (p' := p) (q' := p + 1) (.inr ⟨rfl, by omega⟩))
      clear hsrc hline hown hf hpre
      go_wp2
      clear c0 c1
      go_loopw [7] (fun j wr => ∃ (q : Nat) (es' : List (List Int)) (v' : Value), p + 1 ≤ q ∧ q ≤ m ∧ j = .int .i64 q ∧ SrcB wr b (2 + 2 * (p * 5 + q)) ∧ LineB wr w2.heap.size m v' ∧ OwnII wr (w2.heap.size + 1) v' es' ∧ Hid (Pre m es' p q) ∧ es'.length ≤ p * 5 + q ∧ Fs (fun k => k = b) w2 wr) (fun j _ => m - (intOf j).toNat)
      case atStart => exact ⟨p + 1, es, v, Nat.le_refl _, by omega, by go_num, HS.out.more (by omega), HL.out, HO.out, HP, by omega, HF.out⟩
      case round =>
        clear HS HL HO HF HP
        obtain ⟨q, es', v', hpq, hqm, rfl, hsrc, hline, hown, hpre, hlen2, hf⟩ := hrel
        have c0 := hline.c.get 0 _ rfl
        have c1 := hline.c.get 1 _ rfl
        by_cases hqt : q < m
        · have hbB : b < w2.heap.size := by omega
          have HL := Lib.hid hline
          have HO := Lib.hid hown
          have HF := Lib.hid hf
          clear hline hown hf
          go_wp2_with fail
          refine (one_any b _ 2 _ hsrc (by omega)).mono ?_
          rintro e wq ⟨d, rfl, s4, f4⟩
          have HL2 := Lib.hid (HL.out.fs f4 (by omega))
          have HO2 := Lib.hid (HO.out.fs f4 (fun k hk => by omega))
          have HF2 := Lib.hid (HF.out.trans f4)
          have S4 := Lib.hid (s4.more (show 2 + 2 * (p * 5 + q) + 2 ≤ 2 + 2 * (p * 5 + (q + 1)) by omega))
          clear s4 f4 c0 c1 hsrc
          cases d
          · go_wp2
            go_roundw
            case rel => exact ⟨q + 1, es', v', by omega, by omega, by go_num, S4.out, HL2.out, HO2.out, Lib.hid (hpre.out.next (.inr ⟨rfl, by omega⟩)), by omega, HF2.out⟩
            case measure => simp [intOf]; omega
          · have hzq := HL2.out.c.1
            have p0 := HL2.out.c.get 0 _ rfl
            have p1 := HL2.out.c.get 1 _ rfl
            have HLN := Lib.hid (show es'.length < 16777216 by omega)
            have HPR := Lib.hid (hpre.out.snoc (by omega) hqt (by omega))
            clear hpre
            go_wp2_with (at_builtin; refine append_row wq _ _ _ rfl rfl rfl HO2.out ((Below.refl _ _).alloc (Nat.le_refl _) _) (OwnI.two wq (Nat.le_refl _) (p : Int) (q : Int)) (by simp [go_sem]) HLN.out (by omega) ?_)
            intro v5 w5 o5 b5 z5
            have hb5 : Below (w2.heap.size + 1) wq w5 := ((((Below.refl wq.heap.size wq).alloc (Nat.le_refl _) _).alloc (by simp) _).mono (by omega)).trans b5
            have l5 := HL2.out.below hb5 (by omega)
            have f5 := l5.f
            have r5 := l5.c.get 1 _ rfl
            have s5 := l5.c.1
            obtain ⟨oa, on, oc, rfl, _⟩ := o5.form
            have L5 := Lib.hid l5
            have O5 := Lib.hid o5
            have SS5 := Lib.hid (S4.out.fs (S := fun k => w2.heap.size + 1 ≤ k) (w' := w5) ⟨hb5.os, hb5.tape, hb5.output, hb5.size, fun k hk hx => hb5.block k (by omega)⟩ (fun k hk => by omega))
            have F5 := Lib.hid (show Fs (fun k => k = b) w2 w5 from ⟨hb5.os.trans HF2.out.os, hb5.tape.trans HF2.out.tape, hb5.output.trans HF2.out.output, Nat.le_trans HF2.out.size hb5.size, fun k hk hx => (hb5.block k (by omega)).trans (HF2.out.block k hk hx)⟩)
            clear l5 o5 hb5 b5 p0 p1 z5
            go_wp2
            go_roundw
            case rel => exact ⟨q + 1, es' ++ [[(p : Int), (q : Int)]], _, by omega, by omega, by go_num, SS5.out.fs (Fs.set (S := fun k => k = w2.heap.size) (Fs.refl _ _) (a := ⟨w2.heap.size, 1, none⟩) rfl _) (fun k hk => by omega), L5.out.set _, O5.out.setLow (by simp) _, HPR, by simp; omega, ⟨F5.out.os, F5.out.tape, F5.out.output, by simpa using F5.out.size, fun k hk hx => by
              rw [← F5.out.block k hk hx]
              exact Below.heap_setCell _ _ _ _ (show k ≠ w2.heap.size by omega)⟩⟩
            case measure => simp [intOf]; omega
        · obtain rfl : q = m := by omega
          have HS := Lib.hid hsrc
          have HL := Lib.hid hline
          have HO := Lib.hid hown
          have HF := Lib.hid hf
          clear hsrc hline hown hf
          go_wp2
          go_roundw
          case rel => exact ⟨p + 1, es', v', by omega, by go_num, HS.out.more (by omega), HL.out, HO.out, Lib.hid (hpre.out.next (.inl (by omega))), by omega, HF.out⟩
          case measure => simp [intOf]; omega
    · obtain rfl : p = m := by omega
      have k2r := K2.out.1.fs (w' := wr) hf (by omega)
      have f0 : wr.frozen? ⟨w.heap.size, 0, none⟩ = false := by
        have := hf.block w.heap.size (by omega) (by omega)
        have h2 := K2.out.2
        simpa [World.frozen?, this] using h2
      have f1 := k2r.f
      have q0 := k2r.c.get 0 _ rfl
      have q1 := k2r.c.get 1 _ rfl
      have zr := k2r.c.1
      obtain ⟨oa, on, oc, rfl, _⟩ := hown.form
      have HO := Lib.hid hown
      have HF := Lib.hid (F2.out.trans hf)
      have HG := Lib.hid (hpre.out.graph hm1 (by omega))
      have zw := Lib.hid hline.c.1
      clear hown hf k2r hline hsrc
      go_wp2
      refine bodyPost_ret (v := .agg #[.int .i64 p, .slice oa on oc]) (by simp [results, Try.results35, go_sem, q0, q1, c0, c1, zr]) rfl ⟨p, es, _, rfl, hm1, hmm, HG.out, ?_, ?_⟩
      · exact ((HO.out.setLow (by simp; omega) _).setLow (by simp; omega) _).lower (by omega)
      · exact ⟨HF.out.os, HF.out.tape, HF.out.output, by simpa using HF.out.size, fun k hk hx => by
          rw [← HF.out.block k hk hx, Below.heap_setCell _ _ _ _ (by simp; omega), Below.heap_setCell _ _ _ _ (by simp; omega)]⟩

set_option maxHeartbeats 2000000 in
theorem P6Graph_any {xs : List Int} (ad : Option Addr) (n c : Nat) (w : World) (hn : n ≤ 4096) (hx : xs.length = n) (hr : Rd w ad (xs.map (.int .u8))) (hb : ∀ x ∈ xs, 0 ≤ x ∧ x < 256) :
    Calls Try.prog 18 #[.slice ad n c] w fun e w' => ∃ (m : Nat) (es : List (List Int)) (v : Value), e = .returned (.agg #[.int .i64 m, v]) ∧ 1 ≤ m ∧ m ≤ 4 ∧ graphOk m es = true ∧ OwnII w' w.heap.size v es ∧ Below w.heap.size w w' := by
  have HB := Lib.hid hb
  have HX := Lib.hid hx
  obtain ⟨W1, hW1⟩ : ∃ W1, W1 = w.alloc (.cells #[.int .i64 0, .slice none 0 0] 29) := ⟨_, rfl⟩
  have z1 : W1.heap.size = w.heap.size + 1 := by rw [hW1]; simp
  have b1 : Below w.heap.size w W1 := by rw [hW1]; exact (Below.refl _ _).alloc (Nat.le_refl _) _
  have k1 : LineB W1 w.heap.size 0 (.slice none 0 0) := by rw [hW1]; exact ⟨CellsAt.new' _ _ _ rfl, frozen_new⟩
  have k1f : W1.frozen? ⟨w.heap.size, 0, none⟩ = false := by rw [hW1]; exact frozen_new
  have HR := Lib.hid (hr.below b1)
  have B1 := Lib.hid b1
  have K1 := Lib.hid (And.intro k1 k1f)
  have Z1 := Lib.hid z1
  have HW1 := Lib.hid hW1
  clear b1 k1 k1f hW1 z1 hr hb hx
  go_enter Try.func18, Try.ntmps18
  go_wp2_with fail
  rw [← HW1.out]
  refine (l00From_any ad n c _ hn HX.out HR.out HB.out).mono ?_
  rintro e w2 ⟨rfl, s2, b2⟩
  have hz2 := b2.size
  go_wp2_with fail
  refine (l08Draw_any W1.heap.size 4 _ s2 (by omega) (by omega)).mono ?_
  rintro e w3 ⟨m, es, v, rfl, hm1, hm4, hg, o3, f3⟩
  have hz1 := Z1.out
  have F3 : Fs (fun k => k = W1.heap.size) W1 w3 := Fs.trans (Fs.of_below b2) f3
  have k3 := K1.out.1.fs F3 (by omega)
  have f0 : w3.frozen? ⟨w.heap.size, 0, none⟩ = false := by
    have := F3.block w.heap.size (by omega) (by omega)
    have h2 := K1.out.2
    simpa [World.frozen?, this] using h2
  have f1 := k3.f
  have q0 := k3.c.get 0 _ rfl
  have q1 := k3.c.get 1 _ rfl
  have zr := k3.c.1
  obtain ⟨oa, on, oc, rfl, _⟩ := o3.form
  have HO := Lib.hid o3
  have HBW := Lib.hid (B1.out.trans (F3.below (B := w.heap.size) (by omega) (fun k hk => by omega)))
  have HG := Lib.hid hg
  clear o3 F3 f3 s2 b2 k3 hg
  go_wp2
  refine bodyPost_ret (v := .agg #[.int .i64 m, .slice oa on oc]) (by simp [results, Try.results18, go_sem, q0, q1, zr]) rfl ⟨m, es, _, rfl, hm1, hm4, HG.out, ?_, ?_⟩
  · exact ((HO.out.setLow (by simp; omega) _).setLow (by simp; omega) _).lower (by omega)
  · exact (HBW.out.setCell (by simp) _).setCell (by simp) _
end Go.Proofs.Ytbhhihaaiiaagaa
namespace Go.Proofs.Ytbhhihaaiiaagaa
open Go.RowKit Go.Sort
/-- the box of a graph's copy and the cell of the result -/
structure Two (w : World) (k : Nat) (n : Int) (v r : Value) (m : Int) : Prop where
  a : CellsAt w k [.int .i64 n, v]
  l : LineB w (k + 1) m r
  f0 : w.frozen? ⟨k + 1, 0, none⟩ = false
theorem Two.new (w : World) (n : Int) (v : Value) : Two ((w.alloc (.cells #[.int .i64 n, v] 29)).alloc (.cells #[.int .i64 0, .slice none 0 0] 29)) w.heap.size n v (.slice none 0 0) 0 := by
  have z1 : (w.alloc (.cells #[.int .i64 n, v] 29)).heap.size = w.heap.size + 1 := by simp
  refine ⟨(CellsAt.new w [.int .i64 n, v] 29).below ((Below.refl _ _).alloc (Nat.le_refl _) _), ?_, ?_⟩
  · rw [← z1]; exact ⟨CellsAt.new' _ _ _ rfl, frozen_new⟩
  · rw [← z1]; exact frozen_new
theorem Two.below {w w' : World} {k B : Nat} {n m : Int} {v r : Value} (h : Two w k n v r m) (hb : Below B w w') (hB : k + 2 ≤ B) : Two w' k n v r m :=
  ⟨⟨Nat.lt_of_lt_of_le h.a.1 hb.size, fun i u hu => by rw [hb.cell (p := ⟨k, i, none⟩) (by simp; omega)]; exact h.a.2 i u hu⟩, h.l.below hb (by omega), frozen_of_below (p := ⟨k + 1, 0, none⟩) hb (by simp; omega) h.f0⟩
theorem Two.size {w : World} {k : Nat} {n m : Int} {v r : Value} (h : Two w k n v r m) : k + 2 ≤ w.heap.size := h.l.c.1
theorem graphAt_of {w : World} {b : Nat} {n : Int} {v : Value} (h : CellsAt w b [.int .i64 n, v]) : GraphAt w b 0 n v :=
  ⟨h.1, h.get 0 _ rfl, h.get 1 _ rfl⟩
set_option maxHeartbeats 4000000 in
theorem ImplLineGraph_any {v : Value} {es : List (List Int)} (n : Int) (w : World) (ha : SlII w v es) :
    Calls Try.prog 19 #[.agg #[.int .i64 n, v]] w (FreshGC w (lineR n es)) := by
  have HA := Lib.hid (fun W (h : Below w.heap.size w W) => ha.below h)
  obtain ⟨a, ca, us, rfl, hca, hca', _⟩ := ha
  have T0 := Two.new w n (.slice a es.length ca)
  have b0 : Below w.heap.size w ((w.alloc (.cells #[.int .i64 n, .slice a es.length ca] 29)).alloc (.cells #[.int .i64 0, .slice none 0 0] 29)) := ((Below.refl _ _).alloc (Nat.le_refl _) _).alloc (by simp) _
  generalize hW2 : (w.alloc (.cells #[.int .i64 n, .slice a es.length ca] 29)).alloc (.cells #[.int .i64 0, .slice none 0 0] 29) = W2 at T0 b0
  have HW2 := Lib.hid hW2
  have TT := Lib.hid T0
  have B0 := Lib.hid b0
  generalize hR : lineR n es = R
  have HR := Lib.hid hR
  unfold lineR at hR
  generalize hg : graphOk n es = g at hR
  have HG := Lib.hid hg
  have HRR := Lib.hid hR
  have a0 := T0.a.get 0 _ rfl
  have a1 := T0.a.get 1 _ rfl
  clear hW2 T0 b0 hR hg
  skip
  go_enter Try.func19, Try.ntmps19
  go_upto_region 1 with (fail)
  rw [HW2.out]
  go_wp2_with fail
  refine (ImplValidGraph_any n _ (HA.out _ B0.out)).mono ?_
  rintro e w2 ⟨rfl, b2⟩
  rw [HG.out]
  have T1 := TT.out.below b2 TT.out.size
  have B1 := Lib.hid (B0.out.trans (b2.mono B0.out.size))
  clear a0 a1 b2
  cases g
  · obtain ⟨_, tl, f0⟩ := T1
    have f1 := tl.f
    have q0 := tl.c.get 0 _ rfl
    have q1 := tl.c.get 1 _ rfl
    have zr := tl.c.1
    clear tl
    go_wp2
    refine bodyPost_ret (v := .tuple #[.agg #[.int .i64 0, .slice none 0 0], .int .i64 1]) (by simp [results, Try.results19, go_sem, q0, q1, zr]) rfl ?_
    rw [← HRR.out]
    simp only [Bool.false_eq_true, if_false]
    exact ⟨_, rfl, OwnII.nil _ _, (B1.out.setCell (by simp) _).setCell (by simp) _⟩
  · have a0 := T1.a.get 0 _ rfl
    have a1 := T1.a.get 1 _ rfl
    by_cases h0 : es.length = 0
    · have t0 : ((es.length : Int) == 0) = true := by rw [h0]; rfl
      have H0 := Lib.hid h0
      obtain ⟨_, tl, f0⟩ := T1
      have f1 := tl.f
      have q0 := tl.c.get 0 _ rfl
      have q1 := tl.c.get 1 _ rfl
      have zr := tl.c.1
      clear tl
      go_wp2
      refine bodyPost_ret (v := .tuple #[.agg #[.int .i64 0, .slice none 0 0], .int .i64 4]) (by simp [results, Try.results19, go_sem, q0, q1, zr]) rfl ?_
      rw [← HRR.out]
      simp only [if_true, H0.out]
      exact ⟨_, rfl, OwnII.nil _ _, (B1.out.setCell (by simp) _).setCell (by simp) _⟩
    · have t0 : ((es.length : Int) == 0) = false := by rw [beq_eq_false_iff_ne]; omega
      have H0 := Lib.hid h0
      by_cases h5 : 5 < es.length
      · have t5 : (5 : Int) < (es.length : Int) := by omega
        have H5 := Lib.hid h5
        obtain ⟨_, tl, f0⟩ := T1
        have f1 := tl.f
        have q0 := tl.c.get 0 _ rfl
        have q1 := tl.c.get 1 _ rfl
        have zr := tl.c.1
        clear tl
        go_wp2
        refine bodyPost_ret (v := .tuple #[.agg #[.int .i64 0, .slice none 0 0], .int .i64 3]) (by simp [results, Try.results19, go_sem, q0, q1, zr]) rfl ?_
        rw [← HRR.out]
        simp only [if_true, H0.out, if_false, H5.out]
        exact ⟨_, rfl, OwnII.nil _ _, (B1.out.setCell (by simp) _).setCell (by simp) _⟩
      · have t5 : ¬ (5 : Int) < (es.length : Int) := by omega
        have H5 := Lib.hid h5
        obtain ⟨m, hnm, _, _, hE, hl⟩ := graphOk_all HG.out
        have HE := Lib.hid hE
        have T1H := Lib.hid T1
        clear hE hnm T1
        go_wp2_with fail
        refine (lineGraph_any m n _ (HA.out _ B1.out) HE.out hl).mono ?_
        rintro e w3 ⟨r, rfl, or, b3⟩
        obtain ⟨_, tl, f0⟩ := T1H.out.below b3 T1H.out.size
        have f1 := tl.f
        have q0 := tl.c.get 0 _ rfl
        have q1 := tl.c.get 1 _ rfl
        have zr := tl.c.1
        obtain ⟨oa, on, oc, rfl, _⟩ := or.form
        have B2 := Lib.hid (B1.out.trans (b3.mono B1.out.size))
        have OR := Lib.hid or
        have hz := T1H.out.size
        clear tl or b3 a0 a1
        go_wp2
        refine bodyPost_ret (v := .tuple #[.agg #[.int .i64 es.length, .slice oa on oc], .int .i64 0]) (by simp [results, Try.results19, go_sem, q0, q1, zr]) rfl ?_
        rw [← HRR.out]
        simp only [if_true, H0.out, if_false, H5.out]
        exact ⟨_, rfl, ((OR.out.setLow (by simp; omega) _).setLow (by simp; omega) _).lower B1.out.size, (B2.out.setCell (by simp) _).setCell (by simp) _⟩
theorem l00Has_q {u : Value} {xs : List Int} {x : Int} {q : Bool} (h : decide (x ∈ xs) = q) (w : World) (ha : SlI w u xs) :
    Calls Try.prog 32 #[u, .int .i64 x] w fun e w' => e = .returned (.bool q) ∧ Below w.heap.size w w' :=
  (l00Has_any x w ha).mono fun e w' ⟨h1, h2⟩ => ⟨by rw [h1, h], by rw [h2]; exact Below.refl _ _⟩
set_option maxRecDepth 100000 in
set_option maxHeartbeats 8000000 in
theorem SpecLineGraph_any {v : Value} {es : List (List Int)} (n : Int) (w : World) (ha : SlII w v es) :
    Calls Try.prog 20 #[.agg #[.int .i64 n, v]] w (FreshGC w (lineR n es)) := by
  have HA := Lib.hid (fun W (h : Below w.heap.size w W) => ha.below h)
  obtain ⟨a, ca, us, rfl, hca, hca', hul, hrd, hrow⟩ := ha
  unfold maxLen at hca'
  have HG2 := Lib.hid (fun W (h : Below w.heap.size w W) => And.intro (hrd.below h) (fun i hi u hu => (hrow i hi u hu).below h))
  have HU := Lib.hid hul
  clear hrd hrow hul
  have T0 := Two.new w n (.slice a es.length ca)
  have b0 : Below w.heap.size w ((w.alloc (.cells #[.int .i64 n, .slice a es.length ca] 29)).alloc (.cells #[.int .i64 0, .slice none 0 0] 29)) := ((Below.refl _ _).alloc (Nat.le_refl _) _).alloc (by simp) _
  generalize hW2 : (w.alloc (.cells #[.int .i64 n, .slice a es.length ca] 29)).alloc (.cells #[.int .i64 0, .slice none 0 0] 29) = W2 at T0 b0
  have HW2 := Lib.hid hW2
  have TT := Lib.hid T0
  have B0 := Lib.hid b0
  generalize hR : lineR n es = R
  have HR := Lib.hid hR
  unfold lineR at hR
  generalize hg : graphOk n es = g at hR
  have HG := Lib.hid hg
  have HRR := Lib.hid hR
  have a0 := T0.a.get 0 _ rfl
  have a1 := T0.a.get 1 _ rfl
  clear hW2 T0 b0 hR hg
  go_enter Try.func20, Try.ntmps20
  go_upto_region 1 with (fail)
  rw [HW2.out]
  go_wp2_with fail
  refine (l08Ok_any w.heap.size 0 n _ (graphAt_of TT.out.a) (HA.out _ B0.out)).mono ?_
  rintro e w2 ⟨rfl, b2⟩
  rw [HG.out]
  have T1 := TT.out.below b2 TT.out.size
  have B1 := Lib.hid (B0.out.trans (b2.mono B0.out.size))
  clear a0 a1 b2
  cases g
  · obtain ⟨_, tl, f0⟩ := T1
    have f1 := tl.f
    have q0 := tl.c.get 0 _ rfl
    have q1 := tl.c.get 1 _ rfl
    have zr := tl.c.1
    clear tl
    go_wp2
    refine bodyPost_ret (v := .tuple #[.agg #[.int .i64 0, .slice none 0 0], .int .i64 1]) (by simp [results, Try.results20, go_sem, q0, q1, zr]) rfl ?_
    rw [← HRR.out]
    simp only [Bool.false_eq_true, if_false]
    exact ⟨_, rfl, OwnII.nil _ _, (B1.out.setCell (by simp) _).setCell (by simp) _⟩
  · have a0 := T1.a.get 0 _ rfl
    have a1 := T1.a.get 1 _ rfl
    by_cases h0 : es.length = 0
    · have t0 : ((es.length : Int) == 0) = true := by rw [h0]; rfl
      have H0 := Lib.hid h0
      obtain ⟨_, tl, f0⟩ := T1
      have f1 := tl.f
      have q0 := tl.c.get 0 _ rfl
      have q1 := tl.c.get 1 _ rfl
      have zr := tl.c.1
      clear tl
      go_wp2
      refine bodyPost_ret (v := .tuple #[.agg #[.int .i64 0, .slice none 0 0], .int .i64 4]) (by simp [results, Try.results20, go_sem, q0, q1, zr]) rfl ?_
      rw [← HRR.out]
      simp only [if_true, H0.out]
      exact ⟨_, rfl, OwnII.nil _ _, (B1.out.setCell (by simp) _).setCell (by simp) _⟩
    · have t0 : ((es.length : Int) == 0) = false := by rw [beq_eq_false_iff_ne]; omega
      have H0 := Lib.hid h0
      by_cases h5 : 5 < es.length
      · have t5 : (5 : Int) < (es.length : Int) := by omega
        have H5 := Lib.hid h5
        obtain ⟨_, tl, f0⟩ := T1
        have f1 := tl.f
        have q0 := tl.c.get 0 _ rfl
        have q1 := tl.c.get 1 _ rfl
        have zr := tl.c.1
        clear tl
        go_wp2
        refine bodyPost_ret (v := .tuple #[.agg #[.int .i64 0, .slice none 0 0], .int .i64 3]) (by simp [results, Try.results20, go_sem, q0, q1, zr]) rfl ?_
        rw [← HRR.out]
        simp only [if_true, H0.out, if_false, H5.out]
        exact ⟨_, rfl, OwnII.nil _ _, (B1.out.setCell (by simp) _).setCell (by simp) _⟩
      · have t5 : ¬ (5 : Int) < (es.length : Int) := by omega
        have H5 := Lib.hid h5
        obtain ⟨m, hnm, _, _, hE, hl⟩ := graphOk_all HG.out
        have HE := Lib.hid hE
        have T1H := Lib.hid T1
        have a1f := T1.a
        clear hE hnm T1
        obtain ⟨W3, hW3⟩ : ∃ W3, W3 = w2.alloc (.cells #[.int .i64 es.length, .slice none 0 0] 29) := ⟨_, rfl⟩
        have b3 : Below w2.heap.size w2 W3 := by rw [hW3]; exact (Below.refl _ _).alloc (by omega) _
        have k3 : LineB W3 w2.heap.size es.length (.slice none 0 0) := by rw [hW3]; exact ⟨CellsAt.new' _ _ _ rfl, frozen_new⟩
        have HW3 := Lib.hid hW3
        have B3 := Lib.hid b3
        have K3 := Lib.hid k3
        have O0 := Lib.hid (show OwnII W3 (w2.heap.size + 1) (.slice none 0 0) (allE es 0) from OwnII.nil _ _)
        have hzz := T1H.out.size
        have hz1 := B1.out.size
        clear hW3 b3 k3
        go_wp2
        rw [← HW3.out]
        clear a0 a1 a1f
        go_loopw [5, 6] (fun i _ wr => ∃ (k : Nat) (v : Value), k ≤ es.length ∧ i = .int .i64 k ∧ LineB wr w2.heap.size es.length v ∧ OwnII wr (w2.heap.size + 1) v (allE es k) ∧ Below w2.heap.size W3 wr) (fun i _ _ => es.length - (intOf i).toNat)
        case atStart => exact ⟨0, _, Nat.zero_le _, rfl, K3.out, O0.out, Below.refl _ _⟩
        case round =>
          obtain ⟨k, v, hk, rfl, hline, hown, hbr⟩ := hrel
          have x0 := hline.c.get 0 _ rfl
          have x1 := hline.c.get 1 _ rfl
          have hb2 := B3.out.trans hbr
          by_cases hlt : k < es.length
          · have i1 : (k : Int) < (es.length : Int) := by omega
            have i0 : (0 : Int) ≤ (k : Int) := by omega
            have HL := Lib.hid hline
            have HO := Lib.hid hown
            have HBR := Lib.hid hbr
            have ak := allE_len es k
            have akk : k * es.length ≤ 24 * 25 := Nat.mul_le_mul (by omega) hl
            have AK := Lib.hid (Nat.le_trans ak akk)
            clear hline hown hbr ak akk hb2
            go_wp2
            go_loopw [6] (fun j wr => ∃ (q : Nat) (v' : Value), k + 1 ≤ q ∧ q ≤ es.length ∧ j = .int .i64 q ∧ LineB wr w2.heap.size es.length v' ∧ OwnII wr (w2.heap.size + 1) v' (allE es k ++ rowE es k q) ∧ Below w2.heap.size W3 wr) (fun j _ => es.length - (intOf j).toNat)
            case atStart => exact ⟨k + 1, _, Nat.le_refl _, by omega, by go_num, HL.out, by rw [rowE_start, List.append_nil]; exact HO.out, HBR.out⟩
            case round =>
              clear x0 x1 HL HO HBR
              obtain ⟨q, v', hkq, hql, rfl, hline, hown, hbr⟩ := hrel
              have x0 := hline.c.get 0 _ rfl
              have x1 := hline.c.get 1 _ rfl
              have hb2 := B3.out.trans hbr
              have hbw := B1.out.trans (hb2.mono hz1)
              have k1 := T1H.out.below hb2 hzz
              have c0 := k1.a.get 0 _ rfl
              have c1 := k1.a.get 1 _ rfl
              have HL := Lib.hid hline
              have HO := Lib.hid hown
              have HBR := Lib.hid hbr
              clear k1
              by_cases hqt : q < es.length
              · obtain ⟨x, b, off, rfl, gk, sx⟩ := SlII.row HU.out (HG2.out _ hbw).1 (HG2.out _ hbw).2 hlt
                obtain ⟨y, b', off', he', gq, sy⟩ := SlII.row HU.out (HG2.out _ hbw).1 (HG2.out _ hbw).2 hqt
                simp only [Option.some.injEq, Addr.mk.injEq] at he'
                obtain ⟨rfl, rfl, _⟩ := he'
                obtain ⟨e0, e1, he, _, _⟩ := HE.out es[q] (List.getElem_mem hqt)
                rw [he] at sy
                have hsh : shareL (es.getD k []) (es.getD q []) = (decide ((e0 : Int) ∈ es[k]) || decide ((e1 : Int) ∈ es[k])) := by rw [getD_at hlt, getD_at hqt, he]; rfl
                generalize hd1 : decide ((e0 : Int) ∈ es[k]) = d1 at hsh
                generalize hd2 : decide ((e1 : Int) ∈ es[k]) = d2 at hsh
                have H1 := Lib.hid hd1
                have H2 := Lib.hid hd2
                have HSH := Lib.hid hsh
                have SX := Lib.hid sx
                have i2 : (q : Int) < (es.length : Int) := by omega
                have i3 : (0 : Int) ≤ (q : Int) := by omega
                obtain ⟨xa, xc, rfl, _⟩ := id sx
                obtain ⟨ya, yc, hye, _, _, ur⟩ := sy
                simp only [List.length_cons, List.length_nil, Nat.zero_add] at hye
                subst hye
                obtain ⟨eb, eo, rfl, g0⟩ := ur.one (i64s_get (j := 0) (by simp))
                obtain ⟨eb', eo', he2, g1⟩ := ur.one (i64s_get (j := 1) (by simp))
                simp only [Option.some.injEq, Addr.mk.injEq] at he2
                obtain ⟨rfl, rfl, _⟩ := he2
                simp only [Nat.add_zero, List.getElem_cons_zero, List.getElem_cons_succ] at g0 g1
                have kc0 := fun d os => cell_regrown c0 d os
                have kc1 := fun d os => cell_regrown c1 d os
                have kgk := fun d os => cell_regrown gk d os
                have kgq := fun d os => cell_regrown gq d os
                have kg0 := fun d os => cell_regrown g0 d os
                have kg1 := fun d os => cell_regrown g1 d os
                have hlw := hline.c.1
                have HLW := Lib.hid hlw
                clear hsh hd1 hd2 he hline hown hbr ur sx hb2
                cases d1 <;> cases d2
                all_goals
                  go_wp2_with fail
                  refine wp_region_quiet_below (by kernel_rfl) (by kernel_rfl) ?_
                  repeat (first | go_big_quiet_skip | quiet_step (first | (with_reducible exact Calls.regrown_of (l00Has_q H1.out _ (SX.out.below (below_regrown _ _ _)))) | (with_reducible exact Calls.regrown_of (l00Has_q H2.out _ (SX.out.below (below_regrown _ _ _))))))
                  refine wpQuiet_nil ?_
                  intro _ hw'
                  obtain ⟨⟨dq, osq⟩, hw''⟩ := hw'
                  subst hw''
                  have bq0 := below_regrown wr dq osq
                  generalize grow (redrawn wr dq) osq = wq at bq0 ⊢
                  have HL2 := Lib.hid (HL.out.below bq0 HLW.out)
                  have HO2 := Lib.hid (HO.out.below bq0)
                  have HB2 := Lib.hid (HBR.out.trans (bq0.mono (by have := HLW.out; omega)))
                  have hzq := HL2.out.c.1
                  have p0 := HL2.out.c.get 0 _ rfl
                  have p1 := HL2.out.c.get 1 _ rfl
                  clear kc0 kc1 kgk kgq kg0 kg1 g0 g1 gk gq c0 c1 bq0 hbw x0 x1
                  first
                    | (have hno := Lib.hid (rowE_no (HSH.out.trans (show (false || false) = false from rfl)))
                       go_wp2
                       go_roundw
                       case rel => exact ⟨q + 1, _, by omega, by omega, by go_num, HL2.out, by rw [hno.out]; exact HO2.out, HB2.out⟩
                       case measure => simp [intOf]; omega)
                    | (have hrl := rowE_len es k q
                       have HLN := Lib.hid (show (allE es k ++ rowE es k q).length < 16777216 by have := AK.out; rw [List.length_append]; omega)
                       clear hrl
                       go_wp2_with (at_builtin; refine append_row wq _ _ _ rfl rfl rfl HO2.out ((Below.refl _ _).alloc (Nat.le_refl _) _) (OwnI.two wq (Nat.le_refl _) (k : Int) (q : Int)) (by simp [go_sem]) HLN.out (by omega) ?_)
                       intro v5 w5 o5 b5 z5
                       have hb5 : Below (w2.heap.size + 1) wq w5 := ((((Below.refl wq.heap.size wq).alloc (Nat.le_refl _) _).alloc (by simp) _).mono (by omega)).trans b5
                       have l5 := HL2.out.below hb5 (by omega)
                       have f5 := l5.f
                       have r5 := l5.c.get 1 _ rfl
                       have r50 := l5.c.get 0 _ rfl
                       have s5 := l5.c.1
                       obtain ⟨oa, on, oc, rfl, _⟩ := o5.form
                       rw [← rowE_yes (by omega) (HSH.out.trans (by simp))] at o5
                       have L5 := Lib.hid l5
                       have O5 := Lib.hid o5
                       have B5 := Lib.hid (HB2.out.trans (hb5.mono (by omega)))
                       clear l5 o5 hb5 b5 p0 p1 z5
                       go_wp2
                       go_roundw
                       case rel => exact ⟨q + 1, _, by omega, by omega, by go_num, L5.out.set _, O5.out.setLow (by simp) _, B5.out.setCell (by simp) _⟩
                       case measure => simp [intOf]; omega)
              · obtain rfl : q = es.length := by omega
                rw [← allE_succ] at hown
                have HO2 := Lib.hid hown
                clear hline hown hbr
                go_wp2
                go_roundw
                case rel => exact ⟨k + 1, _, by omega, by go_num, HL.out, HO2.out, HBR.out⟩
                case measure => simp [intOf]; omega
          · obtain rfl : k = es.length := by omega
            obtain ⟨_, tl, f0⟩ := T1H.out.below hb2 hzz
            have f1 := tl.f
            have q0 := tl.c.get 0 _ rfl
            have q1 := tl.c.get 1 _ rfl
            have zr := tl.c.1
            obtain ⟨oa, on, oc, rfl, _⟩ := hown.form
            have HO := Lib.hid hown
            have HB2 := Lib.hid (B1.out.trans (hb2.mono hz1))
            clear tl hown hline hbr hb2
            go_wp2
            refine bodyPost_ret (v := .tuple #[.agg #[.int .i64 es.length, .slice oa on oc], .int .i64 0]) (by simp [results, Try.results20, go_sem, q0, q1, zr]) rfl ?_
            rw [← HRR.out]
            simp only [if_true, H0.out, if_false, H5.out]
            exact ⟨_, rfl, ((HO.out.setLow (by simp; omega) _).setLow (by simp; omega) _).lower (by omega), (HB2.out.setCell (by simp) _).setCell (by simp) _⟩
end Go.Proofs.Ytbhhihaaiiaagaa
namespace Go.Proofs.Ytbhhihaaiiaagaa
open Go.RowKit Go.Sort
theorem matR_ok {n : Int} {es : List (List Int)} (h : graphOk n es = true) : matR n es = (cntL (n.toNat / 2 + 1) (matN es (2 ^ es.length)), 0) := by unfold matR; rw [if_pos h]
theorem cntR_ok {n : Int} {es : List (List Int)} (h : graphOk n es = true) : cntR n es = (cntL (n.toNat + 1) (indN n.toNat es (2 ^ n.toNat)), 0) := by unfold cntR; rw [if_pos h]
theorem lineR_none {n : Int} {es : List (List Int)} (h : graphOk n es = true) (hl : es.length = 0) : lineR n es = ((0, []), 4) := by unfold lineR; rw [if_pos h, if_pos hl]
theorem lineR_many {n : Int} {es : List (List Int)} (h : graphOk n es = true) (hl : 5 < es.length) : lineR n es = ((0, []), 3) := by unfold lineR; rw [if_pos h, if_neg (by omega), if_pos hl]
theorem lineR_few {n : Int} {es : List (List Int)} (h : graphOk n es = true) (h1 : 1 ≤ es.length) (h5 : es.length ≤ 5) : lineR n es = (((es.length : Int), allE es es.length), 0) := by unfold lineR; rw [if_pos h, if_neg (by omega), if_neg (by omega)]
theorem own_lit1 (w : World) (x : Int) : OwnI (w.alloc (.cells #[.int .i64 x] 2)) 0 (.slice (some ⟨w.heap.size, 0, none⟩) 1 1) [x] :=
  World.ownsRow_lit (base := 0) (e := 2) (size := 1) w #[.int .i64 x] 1 (Nat.zero_le _) (by simp [maxLen]) (by simp)
theorem matN_zero {es : List (List Int)} (h : es.length = 0) {A : Nat} (hA : 1 ≤ A) : (cntL A (matN es (2 ^ es.length))).take 1 = [1] := by
  have he : es = [] := List.length_eq_zero_iff.1 h
  subst he
  obtain ⟨B, rfl⟩ : ∃ B, A = B + 1 := ⟨A - 1, by omega⟩
  simp [matN, okM, setK, upTo, cntL, bump, List.replicate_succ]
set_option maxRecDepth 100000 in
set_option maxHeartbeats 16000000 in
theorem FnMatchings_walk {xs : List Int} (a0 a1 : Option Addr) (n0 n1 c0 c1 : Nat) (w : World) (hn0 : n0 ≤ maxLen) (hn1 : n1 ≤ maxLen) (hx : xs.length = n0) (hr : Rd w a0 (xs.map (.int .u8))) (hb : ∀ x ∈ xs, 0 ≤ x ∧ x < 256) :
    Calls Try.prog 5 #[.slice a0 n0 c0, .slice a1 n1 c1] w fun e w' => e = .returned (.bool true) ∧ Below w.heap.size w w' := by
  have HR := Lib.hid hr
  have HB := Lib.hid hb
  have HX := Lib.hid hx
  have HN0 := Lib.hid hn0
  have HN1 := Lib.hid hn1
  clear hr hb hx hn0 hn1
  generalize hd0 : decide (4096 < n0) = d0
  generalize hd1 : decide (4096 < n1) = d1
  have HD0 := Lib.hid hd0
  have HD1 := Lib.hid hd1
  clear hd0 hd1
  cases d0
  case true =>
    go_enter Try.func5, Try.ntmps5
    go_wp2_with fail
    refine (f6big_any a0 n0 c0 _ HN0.out).mono ?_
    rintro e w1 ⟨rfl, rfl⟩
    rw [HD0.out]
    go_wp2
    go_ret
    exact ⟨rfl, Below.refl _ _⟩
  case false =>
    cases d1
    case true =>
      go_enter Try.func5, Try.ntmps5
      go_wp2_with fail
      refine (f6big_any a0 n0 c0 _ HN0.out).mono ?_
      rintro e w1 ⟨rfl, rfl⟩
      rw [HD0.out]
      go_wp2_with fail
      refine (f6big_any a1 n1 c1 _ HN1.out).mono ?_
      rintro e w1 ⟨rfl, rfl⟩
      rw [HD1.out]
      go_wp2
      go_ret
      exact ⟨rfl, Below.refl _ _⟩
    case false =>
      have h4 : n0 ≤ 4096 := by have := HD0.out; rw [decide_eq_false_iff_not] at this; omega
      go_enter Try.func5, Try.ntmps5
      go_wp2_with fail
      refine (f6big_any a0 n0 c0 _ HN0.out).mono ?_
      rintro e w1 ⟨rfl, rfl⟩
      rw [HD0.out]
      go_wp2_with fail
      refine (f6big_any a1 n1 c1 _ HN1.out).mono ?_
      rintro e w1 ⟨rfl, rfl⟩
      rw [HD1.out]
      go_wp2_with fail
      refine (P6Graph_any a0 n0 c0 _ h4 HX.out HR.out HB.out).mono ?_
      rintro e w1 ⟨m, es, v, rfl, hm1, hm4, hg, o1, b1⟩
      have HG := Lib.hid hg
      have S1 := Lib.hid o1.sl
      have B1 := Lib.hid b1
      obtain ⟨va, vn, vc, rfl, hvn⟩ := o1.form
      rw [hvn.out] at S1
      rw [hvn.out]
      obtain ⟨W2, hW2⟩ : ∃ W2, W2 = w1.alloc (.cells #[.int .i64 m, .slice va es.length vc] 29) := ⟨_, rfl⟩
      have b2 : Below w1.heap.size w1 W2 := by rw [hW2]; exact (Below.refl _ _).alloc (Nat.le_refl _) _
      have X2 := Lib.hid (show GraphAt W2 w1.heap.size 0 m (.slice va es.length vc) by rw [hW2]; exact graphAt_new w1 m _)
      have HA := Lib.hid (fun W (h : Below W2.heap.size W2 W) => (S1.out.below b2).below h)
      have B2 := Lib.hid (B1.out.trans (b2.mono B1.out.size))
      have HW2 := Lib.hid hW2
      clear b1 b2 hg o1 hW2 h4
      have hM : m / 2 ≤ 2 := by omega
      obtain ⟨M, hMM⟩ : ∃ M, M = m / 2 := ⟨_, rfl⟩
      have hmat : matR m es = (cntL (M + 1) (matN es (2 ^ es.length)), 0) := by rw [matR_ok HG.out, Int.toNat_natCast, hMM]
      have hd1 : Int.tdiv (m : Int) 2 = (M : Int) := by rw [hMM, Int.tdiv_eq_ediv_of_nonneg (by omega)]; simp
      have hd2 : (m : Int) / 2 = (M : Int) := by rw [hMM]; simp
      have hd3 : IntKind.i64.wrap (M : Int) = (M : Int) := IntWalk.i64_in _ (by omega)
      have hd4 : ¬ ((2 : Int) = 0) := by decide
      have hr1 : IntKind.i64.wrap ((M : Int) + 1) = ((M + 1 : Nat) : Int) := by rw [IntWalk.i64_in _ (by omega)]; simp
      have hr2 : IntKind.i64.wrap ((M + 1 : Nat) : Int) = ((M + 1 : Nat) : Int) := IntWalk.i64_in _ (by omega)
      have hr3 : (((M + 1 : Nat) : Int) != ((M + 1 : Nat) : Int)) = false := by simp
      have hl20 := graphOk_len20 HG.out
      have hE : EdgesB m es := by
        obtain ⟨m', h1, _, _, h4, _⟩ := graphOk_all HG.out
        obtain rfl : m = m' := by omega
        exact h4
      obtain ⟨C, hC⟩ : ∃ C, C = cntL (M + 1) (matN es (2 ^ es.length)) := ⟨_, rfl⟩
      have hCl : C.length = M + 1 := by rw [hC, cntL_len]
      have hC1 : es.length = 0 → C.take 1 = [1] := fun h => by rw [hC]; exact matN_zero h (by omega)
      have hCD : 1 ≤ es.length → es.length ≤ 5 → ∀ g, (cntL (es.length + 1) (indN es.length (allE es es.length) (2 ^ es.length))).getD g 0 = C.getD g 0 := by
        intro h1 h5 g
        rw [hC, matN_eq]
        refine cntL_two (fun s hs => ?_) (fun s hs => ?_) g
        · obtain ⟨x, _, rfl, _⟩ := indN_mem _ hs
          have := setK_len x es.length
          omega
        · obtain ⟨x, _, rfl, hi⟩ := indN_mem _ hs
          rw [indep_line] at hi
          have := okM_size hE x hi
          omega
      rw [← hC] at hmat
      have HMAT := Lib.hid hmat
      have HCL := Lib.hid hCl
      have HC1 := Lib.hid hC1
      have HCD := Lib.hid hCD
      obtain ⟨ln, le, lc, hLR⟩ : ∃ ln le lc, lineR m es = ((ln, le), lc) := ⟨_, _, _, rfl⟩
      have HLR := Lib.hid hLR
      have hne : (lc != lc) = false := by simp
      clear hM hMM hmat hE hC hCl hC1 hCD hLR
      go_wp2_with fail
      rw [← HW2.out]
      refine (ImplMatchingCounts_any m _ (HA.out _ (Below.refl _ _))).mono ?_
      rintro e w3 ⟨v3, rfl, o3, b3⟩
      rw [HMAT.out] at o3 ⊢
      simp only [tupVC]
      have o3 : OwnI w3 W2.heap.size v3 C := o3
      have H3 := Lib.hid (fun W (h : Below w3.heap.size w3 W) => o3.sl.below h)
      have B3 := Lib.hid b3
      obtain ⟨a3, n3, c3, rfl, hn3⟩ := o3.form
      rw [hn3.out, HCL.out] at H3
      rw [hn3.out, HCL.out]
      obtain ⟨_, p0, p1⟩ := X2.out.below b3
      simp only [Nat.zero_add] at p0 p1
      clear o3 b3
      go_wp2_with fail
      refine (SpecMatchingCounts_any m _ (HA.out _ B3.out)).mono ?_
      rintro e w4 ⟨v4, rfl, o4, b4⟩
      rw [HMAT.out] at o4 ⊢
      simp only [tupVC]
      have o4 : OwnI w4 w3.heap.size v4 C := o4
      have O4 := Lib.hid o4
      have B34 := Lib.hid b4
      have B4 := Lib.hid (B3.out.trans (b4.mono B3.out.size))
      rcases o4.forms with ⟨_, he⟩ | ⟨g4, c4, rfl, hg4, hg4', hc4, _⟩
      · exact absurd (congrArg List.length he) (by rw [HCL.out]; simp)
      rw [HCL.out] at O4 ⊢
      have hc41 : 1 ≤ c4 := by have := HCL.out; omega
      clear p0 p1 o4 hc4
      obtain ⟨_, p0, p1⟩ := X2.out.below B4.out
      simp only [Nat.zero_add] at p0 p1
      clear b4
      go_wp2_with fail
      refine (ImplLineGraph_any m _ (HA.out _ B4.out)).mono ?_
      rintro e w5 ⟨v5, rfl, o5, b5⟩
      rw [HLR.out] at o5 ⊢
      have o5 : OwnII w5 w4.heap.size v5 le := o5
      have S5 := Lib.hid o5.sl
      have B45 := Lib.hid b5
      obtain ⟨a5, n5, c5, rfl, hn5⟩ := o5.form
      obtain ⟨W6, hW6⟩ : ∃ W6, W6 = w5.alloc (.cells #[.int .i64 ln, .slice a5 n5 c5] 29) := ⟨_, rfl⟩
      have b6 : Below w5.heap.size w5 W6 := by rw [hW6]; exact (Below.refl _ _).alloc (Nat.le_refl _) _
      have X6 := Lib.hid (show GraphAt W6 w5.heap.size 0 ln (.slice a5 n5 c5) by rw [hW6]; exact graphAt_new w5 ln _)
      have B46 := Lib.hid (B45.out.trans (b6.mono B45.out.size))
      have B6 := Lib.hid (B4.out.trans (B46.out.mono B4.out.size))
      have S6 := Lib.hid (S5.out.below b6)
      have HW6 := Lib.hid hW6
      clear o5 b5 b6 hW6 p0 p1
      obtain ⟨_, p0, p1⟩ := X2.out.below B6.out
      simp only [Nat.zero_add] at p0 p1
      rw [HW6.out] at p0 p1
      go_wp2_with fail
      rw [← HW6.out]
      refine (SpecLineGraph_any m _ (HA.out _ B6.out)).mono ?_
      rintro e w7 ⟨v7, rfl, o7, b7⟩
      rw [HLR.out] at o7 ⊢
      have o7 : OwnII w7 W6.heap.size v7 le := o7
      have S7 := Lib.hid o7.sl
      obtain ⟨a7, n7, c7, rfl, hn7⟩ := o7.form
      obtain ⟨W8, hW8⟩ : ∃ W8, W8 = w7.alloc (.cells #[.int .i64 ln, .slice a7 n7 c7] 29) := ⟨_, rfl⟩
      have b8 : Below w7.heap.size w7 W8 := by rw [hW8]; exact (Below.refl _ _).alloc (Nat.le_refl _) _
      have X8 := Lib.hid (show GraphAt W8 w7.heap.size 0 ln (.slice a7 n7 c7) by rw [hW8]; exact graphAt_new w7 ln _)
      have B68 := Lib.hid (b7.trans (b8.mono b7.size))
      have B8 := Lib.hid (B6.out.trans (B68.out.mono B6.out.size))
      have B48 := Lib.hid (B46.out.trans (B68.out.mono B46.out.size))
      have B38 := Lib.hid (B34.out.trans (B48.out.mono B34.out.size))
      have S8 := Lib.hid (S7.out.below b8)
      have S6' := Lib.hid (S6.out.below B68.out)
      have X6' := Lib.hid (X6.out.below B68.out)
      have X2' := Lib.hid (X2.out.below B8.out)
      have O8 := Lib.hid (O4.out.below B48.out)
      have HW8 := Lib.hid hW8
      clear o7 b7 b8 p0 p1
      obtain ⟨_, p0, p1⟩ := X2'.out
      obtain ⟨_, q0, q1⟩ := X6'.out
      obtain ⟨_, r0, r1⟩ := X8.out
      simp only [Nat.zero_add] at p0 p1 q0 q1 r0 r1
      have hs8 := O8.out.sl
      have H38 := Lib.hid (H3.out _ B38.out)
      rw [hW8] at p0 p1 q0 q1 r0 r1
      clear hW8
      go_wp2_with fail
      rw [← HW8.out]
      refine (f6ints_refl _ H38.out hs8).mono ?_
      rintro e w9 ⟨rfl, b9⟩
      have B9 := Lib.hid b9
      have BW9 := Lib.hid (B2.out.trans ((B8.out.trans (b9.mono B8.out.size)).mono B2.out.size))
      have O9 := Lib.hid (O8.out.below b9)
      have X29 := Lib.hid (X2'.out.below b9)
      have X89 := Lib.hid (X8.out.below b9)
      have S89 := Lib.hid (S8.out.below b9)
      have S69 := Lib.hid (S6'.out.below b9)
      clear p0 p1 q0 q1 r0 r1 hs8
      obtain ⟨_, p0, p1⟩ := X29.out
      obtain ⟨_, q0, q1⟩ := X6'.out.below b9
      obtain ⟨_, r0, r1⟩ := X89.out
      simp only [Nat.zero_add] at p0 p1 q0 q1 r0 r1
      clear b9
      go_wp2_with fail
      refine (SpecSameGraph_any ln ln _ S69.out S89.out).mono ?_
      rintro e w10 ⟨rfl, b10⟩
      rw [show (decide (ln = ln) && decide (le = le)) = true by simp]
      have BW10 := Lib.hid (BW9.out.trans (b10.mono BW9.out.size))
      have O10 := Lib.hid (O9.out.below b10)
      have X210 := Lib.hid (X29.out.below b10)
      have X810 := Lib.hid (X89.out.below b10)
      have S810 := Lib.hid (S89.out.below b10)
      clear p0 p1 q0 q1 r0 r1 b10
      obtain ⟨_, p0, p1⟩ := X210.out
      obtain ⟨_, r0, r1⟩ := X810.out
      simp only [Nat.zero_add] at p0 p1 r0 r1
      by_cases hl0 : es.length = 0
      · have hlr := lineR_none HG.out hl0
        rw [HLR.out] at hlr
        simp only [Prod.mk.injEq] at hlr
        obtain ⟨⟨rfl, rfl⟩, rfl⟩ := hlr
        have hct := HC1.out hl0
        have e1 : ((es.length : Int) == 0) = true := by rw [hl0]; rfl
        have hcut := O10.out.cut (k := 1) (by rw [HCL.out]; omega)
        rw [hct] at hcut
        have HCUT := Lib.hid hcut
        have e2 : (1 : Int) ≤ (c4 : Int) := by omega
        clear hcut hct
        go_wp2_with fail
        refine (f6ints_refl (xs := [1]) _ (HCUT.out.sl.below ((Below.refl _ _).alloc (Nat.le_refl _) _)) (own_lit1 w10 1).sl).mono ?_
        rintro e w11 ⟨rfl, b11⟩
        have hb11 := (BW10.out.alloc BW10.out.size _).trans (b11.mono (by have := BW10.out.size; simp; omega))
        go_wp2
        go_ret
        exact ⟨rfl, hb11⟩
      · by_cases hl5 : 5 < es.length
        · have hlr := lineR_many HG.out hl5
          rw [HLR.out] at hlr
          simp only [Prod.mk.injEq] at hlr
          obtain ⟨⟨rfl, rfl⟩, rfl⟩ := hlr
          have e1 : (5 : Int) < (es.length : Int) := by omega
          go_wp2
          go_ret
          exact ⟨rfl, BW10.out⟩
        · have hlr := lineR_few HG.out (by omega) (by omega)
          rw [HLR.out] at hlr
          simp only [Prod.mk.injEq] at hlr
          obtain ⟨⟨rfl, rfl⟩, rfl⟩ := hlr
          have hv := line_valid (es := es) (by omega) (by omega)
          have hcn : cntR (es.length : Int) (allE es es.length) = (cntL (es.length + 1) (indN es.length (allE es es.length) (2 ^ es.length)), 0) := by rw [cntR_ok hv, Int.toNat_natCast]
          have hcd := HCD.out (by omega) (by omega)
          obtain ⟨D, hD⟩ : ∃ D, D = cntL (es.length + 1) (indN es.length (allE es es.length) (2 ^ es.length)) := ⟨_, rfl⟩
          rw [← hD] at hcn hcd
          have HCN := Lib.hid hcn
          have HDC := Lib.hid hcd
          have HV := Lib.hid hv
          have hDl : D.length ≤ 100 := by rw [hD, cntL_len]; omega
          clear hD hcn hcd hv
          go_wp2_with fail
          refine (ImplIndependentCounts_any (es.length : Int) _ S810.out).mono ?_
          rintro e w11 ⟨v11, rfl, o11, b11⟩
          rw [HCN.out] at o11 ⊢
          simp only [tupVC]
          have o11 : OwnI w11 w10.heap.size v11 D := o11
          have SD := Lib.hid o11.sl
          have BW11 := Lib.hid (BW10.out.trans (b11.mono BW10.out.size))
          have S811 := Lib.hid (S810.out.below b11)
          have SC := Lib.hid (O10.out.sl.below b11)
          have X811 := Lib.hid (X810.out.below b11)
          obtain ⟨a11, n11, c11, rfl, hn11⟩ := o11.form
          rw [hn11.out] at SD ⊢
          clear p0 p1 r0 r1 o11 b11
          obtain ⟨_, r0, r1⟩ := X811.out
          simp only [Nat.zero_add] at r0 r1
          go_wp2_with fail
          refine (ImplValidGraph_any (es.length : Int) _ S811.out).mono ?_
          rintro e w12 ⟨rfl, b12⟩
          rw [HV.out]
          have BW12 := Lib.hid (BW11.out.trans (b12.mono BW11.out.size))
          have HSD := Lib.hid (fun W (h : Below w12.heap.size w12 W) => (SD.out.below b12).below h)
          have HSC := Lib.hid (fun W (h : Below w12.heap.size w12 W) => (SC.out.below b12).below h)
          clear r0 r1 b12
          go_wp2
          go_loopw [16, 17, 18] (fun i _ _ wr => ∃ k : Nat, k ≤ max D.length (M + 1) ∧ i = .int .i64 k ∧ Below w12.heap.size w12 wr) (fun i _ _ _ => max D.length (M + 1) - (intOf i).toNat)
          case atStart => exact ⟨0, Nat.zero_le _, rfl, Below.refl _ _⟩
          case round =>
            obtain ⟨k, hk, rfl, hbr⟩ := hrel
            have i0 : (0 : Int) ≤ (k : Int) := by omega
            have hdc := HDC.out k
            obtain ⟨_, _, he, _, _, rd⟩ := HSD.out _ hbr
            simp only [Value.slice.injEq] at he
            obtain ⟨rfl, _, rfl⟩ := he
            obtain ⟨_, _, he, _, _, rc⟩ := HSC.out _ hbr
            rw [HCL.out] at he
            simp only [Value.slice.injEq] at he
            obtain ⟨rfl, _, rfl⟩ := he
            by_cases h1 : k < D.length
            · have i1 : (k : Int) < (D.length : Int) := by omega
              obtain ⟨b1, o1, rfl, g1⟩ := rd.one (i64s_get h1)
              rw [getD_at h1] at hdc
              by_cases h2 : k < M + 1
              · have i2 : (k : Int) < ((M + 1 : Nat) : Int) := by omega
                have i2' : (k : Int) < (M : Int) + 1 := by omega
                have h2' : k < C.length := by rw [HCL.out]; exact h2
                obtain ⟨b2, o2, he2, g2⟩ := rc.one (i64s_get h2')
                simp only [Option.some.injEq, Addr.mk.injEq] at he2
                obtain ⟨rfl, rfl, _⟩ := he2
                rw [getD_at h2'] at hdc
                rw [← hdc] at g2
                generalize D[k] = x at g1 g2
                have hxx : (x != x) = false := by simp
                simp only [Nat.zero_add] at g2
                clear hdc rd rc
                go_wp2
                go_roundw
                case rel => exact ⟨k + 1, by omega, by go_num, hbr⟩
                case measure => simp [intOf]; omega
              · have i2 : ((M + 1 : Nat) : Int) ≤ (k : Int) := by omega
                have i2' : (M : Int) + 1 ≤ (k : Int) := by omega
                have h0 : C.getD k 0 = 0 := by rw [List.getD_eq_getElem?_getD, List.getElem?_eq_none (by rw [HCL.out]; omega)]; rfl
                rw [h0] at hdc
                rw [hdc] at g1
                have hxx : ((0 : Int) != 0) = false := rfl
                clear hdc rd rc h0
                go_wp2
                go_roundw
                case rel => exact ⟨k + 1, by omega, by go_num, hbr⟩
                case measure => simp [intOf]; omega
            · have i1 : (D.length : Int) ≤ (k : Int) := by omega
              have h0 : D.getD k 0 = 0 := by rw [List.getD_eq_getElem?_getD, List.getElem?_eq_none (by omega)]; rfl
              rw [h0] at hdc
              by_cases h2 : k < M + 1
              · have i2 : (k : Int) < ((M + 1 : Nat) : Int) := by omega
                have i2' : (k : Int) < (M : Int) + 1 := by omega
                have h2' : k < C.length := by rw [HCL.out]; exact h2
                obtain ⟨b2, o2, he2, g2⟩ := rc.one (i64s_get h2')
                simp only [Option.some.injEq, Addr.mk.injEq] at he2
                obtain ⟨rfl, rfl, _⟩ := he2
                rw [getD_at h2'] at hdc
                rw [← hdc] at g2
                simp only [Nat.zero_add] at g2
                have hxx : ((0 : Int) != 0) = false := rfl
                clear hdc rd rc h0
                go_wp2
                go_roundw
                case rel => exact ⟨k + 1, by omega, by go_num, hbr⟩
                case measure => simp [intOf]; omega
              · have i2 : ((M + 1 : Nat) : Int) ≤ (k : Int) := by omega
                have i2' : (M : Int) + 1 ≤ (k : Int) := by omega
                clear hdc rd rc h0
                go_wp2
                go_ret
                exact ⟨rfl, BW12.out.trans (hbr.mono BW12.out.size)⟩
end Go.Proofs.Ytbhhihaaiiaagaa
