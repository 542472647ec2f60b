/-
  The laws' own comparisons: f6big, f6ints.
-/
import Derived.Test.YtipkdbicijibpaaStepLaw
namespace Go.Proofs.Ytipkdbicijibpaa
open Go.RowKit Go.Sort
theorem f6big_any (ad : Option Addr) (n c : Nat) (w : World) (hn : n ≤ maxLen) :
    Calls Try.prog 8 #[.slice ad n c] w fun e w' => e = .returned (.bool (decide (4096 < n))) ∧ w = w' := by
  unfold maxLen at hn
  by_cases h : 4096 < n
  · have h1 : (4096 : Int) < (n : Int) := by omega
    have hd : decide (4096 < n) = true := by simp [h]
    have HD := Lib.hid hd
    clear hd
    go_enter Try.func8, Try.ntmps8
    go_wp2
    go_ret
    exact ⟨rb (by rw [HD.out] <;> (first | rfl | (simp; done) | (simp; omega))), rfl⟩
  · have h1 : (n : Int) ≤ (4096 : Int) := by omega
    have hd : decide (4096 < n) = false := by simp [h]
    have HD := Lib.hid hd
    clear hd
    go_enter Try.func8, Try.ntmps8
    go_wp2
    go_ret
    exact ⟨rb (by rw [HD.out] <;> (first | rfl | (simp; done) | (simp; omega))), rfl⟩
set_option maxHeartbeats 1000000 in
theorem f6ints_refl {u v : Value} {xs : List Int} (w : World) (ha : SlI w u xs) (hb : SlI w v xs) :
    Calls Try.prog 15 #[u, v] w fun e w' => e = .returned (.bool true) ∧ Below w.heap.size w w' := by
  have HA := Lib.hid (fun W (h : Below w.heap.size w W) => ha.below h)
  have HB := Lib.hid (fun W (h : Below w.heap.size w W) => hb.below h)
  obtain ⟨a, ca, rfl, hca, hca', _⟩ := ha
  obtain ⟨b, cb, rfl, hcb, hcb', _⟩ := hb
  unfold maxLen at hca' hcb'
  have hne : ((xs.length : Int) != (xs.length : Int)) = false := by simp
  go_enter Try.func15, Try.ntmps15
  go_wp2
  go_loopw [5] (fun i wr => ∃ k : Nat, k ≤ xs.length ∧ i = .int .i64 k ∧ Below w.heap.size w wr) (fun i _ => xs.length - (intOf i).toNat)
  case atStart => exact ⟨0, Nat.zero_le _, rfl, Below.refl _ _⟩
  case round =>
    obtain ⟨k, hk, rfl, hbr⟩ := hrel
    by_cases hlt : k < xs.length
    · have i0 : (0 : Int) ≤ (k : Int) := by omega
      have i1 : (k : Int) < (xs.length : Int) := by omega
      obtain ⟨_, _, he, _, _, ra⟩ := HA.out _ hbr
      simp only [Value.slice.injEq] at he
      obtain ⟨rfl, _, rfl⟩ := he
      obtain ⟨_, _, he, _, _, rb⟩ := HB.out _ hbr
      simp only [Value.slice.injEq] at he
      obtain ⟨rfl, _, rfl⟩ := he
      obtain ⟨b1, o1, rfl, g1⟩ := ra.one (i64s_get hlt)
      obtain ⟨b2, o2, rfl, g2⟩ := rb.one (i64s_get hlt)
      generalize xs[k] = x at g1 g2
      have k1 := fun d os => cell_regrown g1 d os
      have k2 := fun d os => cell_regrown g2 d os
      have hxx : (x != x) = false := by simp
      clear ra rb
      go_wp2_with fail
      refine wp_region_quiet_below (by kernel_rfl) (by kernel_rfl) ?_
      repeat (first | go_big_quiet_skip | quiet_step (fail))
      refine wpQuiet_nil ?_
      intro _ hw'
      obtain ⟨⟨dq, osq⟩, hw''⟩ := hw'
      subst hw''
      have bq0 := below_regrown wr dq osq
      generalize grow (redrawn wr dq) osq = wq at bq0 ⊢
      have hb2 := hbr.trans (bq0.mono hbr.size)
      clear k1 k2
      go_wp2
      go_roundw
      case rel => exact ⟨k + 1, by omega, by go_num, hb2⟩
      case measure => simp [intOf]; omega
    · obtain rfl : k = xs.length := by omega
      go_wp2
      go_ret
      exact ⟨rfl, hbr⟩
end Go.Proofs.Ytipkdbicijibpaa
