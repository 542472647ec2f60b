/-
  FnExactReadDeed: both read the same deed from each text.
-/
import Derived.Test.YthheijekdpboaaaReadDeedS
namespace Go.Proofs.Ythheijekdpboaaa
open Go.RowKit Go.Sort
set_option maxHeartbeats 1000000 in
theorem eqDeed_refl (a0 a1 : Int) (w : World) :
    Calls Try.prog 22 #[.agg #[.int .i64 a0, .int .i64 a1], .agg #[.int .i64 a0, .int .i64 a1]] w fun e w' => e = .returned (.bool true) ∧ Below w.heap.size w w' := by
  have h0 : (a0 != a0) = false := by simp
  have h1 : (a1 != a1) = false := by simp
  go_enter Try.func22, Try.ntmps22
  go_wp2
  go_ret
  exact ⟨rfl, ((Below.refl _ _).alloc (Nat.le_refl _) _).alloc (by simp) _⟩
set_option maxHeartbeats 2000000 in
theorem FnExactReadDeed_walk (b0 : ByteArray) (w : World) (hb : b0.size ≤ maxLen) :
    Calls Try.prog 4 #[.string b0] w fun e w' => e = .returned (.bool true) ∧ Below w.heap.size w w' := by
  unfold maxLen at hb
  by_cases hlen : 1048576 < b0.size
  · go_enter Try.func4, Try.ntmps4
    go_wp2
    go_ret
    exact ⟨rfl, Below.refl _ _⟩
  generalize hR : deedR b0 = R
  have HR := Lib.hid hR
  clear hR
  obtain ⟨r0, r1, r2⟩ := R
  have hr2 : (r2 != r2) = false := by simp
  go_enter Try.func4, Try.ntmps4
  go_wp2_with fail
  refine (SpecReadDeed_any b0 _ (by omega)).mono ?_
  rintro e w1 ⟨rfl, b1⟩
  rw [HR.out]
  unfold tupD
  have g0 : (w1.alloc (.cells #[.int .i64 r0, .int .i64 r1] 36)).cell? ⟨w1.heap.size, 0, none⟩ = some (.int .i64 r0) := by simp [go_sem]
  have g1 : (w1.alloc (.cells #[.int .i64 r0, .int .i64 r1] 36)).cell? ⟨w1.heap.size, 1, none⟩ = some (.int .i64 r1) := by simp [go_sem]
  have hb1 : Below w.heap.size w (w1.alloc (.cells #[.int .i64 r0, .int .i64 r1] 36)) := b1.alloc b1.size _
  have G := Lib.hid (And.intro g0 g1)
  clear g0 g1 b1
  go_wp2_with fail
  refine (ImplReadDeed_any b0 _ (by omega)).mono ?_
  rintro e w2 ⟨rfl, b2⟩
  rw [HR.out]
  unfold tupD
  have c0 := b2.cell (p := ⟨w1.heap.size, 0, none⟩) (by simp)
  have c1 := b2.cell (p := ⟨w1.heap.size, 1, none⟩) (by simp)
  rw [G.out.1] at c0
  rw [G.out.2] at c1
  have hb2 := hb1.trans (b2.mono hb1.size)
  have z2 : w1.heap.size < w2.heap.size := by have := b2.size; simp at this; omega
  clear b2
  go_wp2_with fail
  refine (eqDeed_refl r0 r1 _).mono ?_
  rintro e w3 ⟨rfl, b3⟩
  go_wp2
  go_ret
  have hb3 : Below w.heap.size w (w2.alloc (.cells #[.int .i64 r0, .int .i64 r1] 36)) := hb2.alloc hb2.size _
  exact ⟨rfl, hb3.trans (b3.mono hb3.size)⟩
end Go.Proofs.Ythheijekdpboaaa
