/-
  Draws from a seed.
-/
import Derived.Test.YthheijekdpboaaaBase
namespace Go.Proofs.Ythheijekdpboaaa
open Go.RowKit

def nextSeed (x : Int) : Int := (1103515245 * x + 12345) % 2147483648
def seedAt (x : Int) : Nat → Int
  | 0 => x
  | n + 1 => nextSeed (seedAt x n)
def drawsL (x total : Int) (n : Nat) : List Int := (List.range n).map fun (i : Nat) => seedAt x (i + 1) / 65536 % total
theorem drawsL_succ (x total : Int) (n : Nat) : drawsL x total (n + 1) = drawsL x total n ++ [seedAt x (n + 1) / 65536 % total] := by
  simp [drawsL, List.range_succ]
theorem drawsL_length (x total : Int) (n : Nat) : (drawsL x total n).length = n := by simp [drawsL]
theorem nextSeed_bd {x : Int} : 0 ≤ nextSeed x ∧ nextSeed x < 2147483648 := by unfold nextSeed; omega
theorem seedAt_bd {x : Int} (h0 : 0 ≤ x) (h1 : x < 2147483648) (n : Nat) : 0 ≤ seedAt x n ∧ seedAt x n < 2147483648 := by
  cases n with
  | zero => exact ⟨h0, h1⟩
  | succ n => exact nextSeed_bd

set_option maxHeartbeats 400000 in
theorem drawsOf_any (seed total : Int) (n : Nat) (w : World) (h0 : 0 ≤ seed) (h1 : seed < 2147483648) (ht0 : 1 ≤ total) (ht1 : total ≤ 1000000) (hn : n ≤ 1000000) :
    Calls Try.prog 101 #[.int .i64 seed, .int .i64 total, .int .i64 n] w fun e w' => ∃ v, e = .returned v ∧ OwnI w' w.heap.size v (drawsL seed total n) ∧ Below w.heap.size w w' := by
  go_enter Try.func101, Try.ntmps101
  go_wp2
  go_loopw [0, 7, 10] (fun s v i wr => ∃ k : Nat, k ≤ n ∧ i = .int .i64 k ∧ s = .int .i64 (seedAt seed k) ∧ OwnI wr w.heap.size v (drawsL seed total k) ∧ Below w.heap.size w wr) (fun _ _ i _ => n - (intOf i).toNat)
  case atStart => exact ⟨0, Nat.zero_le _, rfl, rfl, OwnI.empty _ (Nat.le_refl _), (Below.refl _ _).alloc (Nat.le_refl _) _⟩
  case round =>
    obtain ⟨k, hk, rfl, rfl, hown, hbw⟩ := hrel
    have hsb := seedAt_bd h0 h1 k
    by_cases hlt : k < n
    · have hy : (1103515245 * seedAt seed k + 12345) % 2147483648 = seedAt seed (k + 1) := rfl
      have HY := Lib.hid hy
      clear hy
      have hsz := hbw.size
      have hl := drawsL_length seed total k
      go_wp2_with (at_builtin; refine append_i64 _ _ _ _ rfl rfl rfl hown rfl (by omega) (by omega) ?_)
      intro v' w1 hown1 hb1 hsz1
      rw [HY.out, ← drawsL_succ] at hown1
      have hb2 := (hbw.alloc hsz _).trans hb1
      clear hown hb1
      go_wp2
      go_roundw
      case rel => exact ⟨k + 1, by omega, by go_num, vi HY.out, hown1, hb2⟩
      case measure => simp [intOf]; omega
    · obtain rfl : k = n := by omega
      go_wp2
      go_ret
      exact ⟨_, rfl, hown, hbw⟩
set_option maxHeartbeats 400000 in
theorem l09Draws_any (seed total : Int) (n : Nat) (w : World) (h0 : 0 ≤ seed) (h1 : seed < 2147483648) (ht0 : 1 ≤ total) (ht1 : total ≤ 1000000) (hn : n ≤ 1000000) :
    Calls Try.prog 127 #[.int .i64 seed, .int .i64 total, .int .i64 n] w fun e w' => ∃ v, e = .returned v ∧ OwnI w' w.heap.size v (drawsL seed total n) ∧ Below w.heap.size w w' := by
  go_enter Try.func127, Try.ntmps127
  go_wp2
  go_loopw [7, 8, 9] (fun v s i wr => ∃ k : Nat, k ≤ n ∧ i = .int .i64 k ∧ s = .int .i64 (seedAt seed k) ∧ OwnI wr w.heap.size v (drawsL seed total k) ∧ Below w.heap.size w wr) (fun _ _ i _ => n - (intOf i).toNat)
  case atStart => exact ⟨0, Nat.zero_le _, rfl, rfl, OwnI.empty _ (Nat.le_refl _), (Below.refl _ _).alloc (Nat.le_refl _) _⟩
  case round =>
    obtain ⟨k, hk, rfl, rfl, hown, hbw⟩ := hrel
    have hsb := seedAt_bd h0 h1 k
    by_cases hlt : k < n
    · have hy : (1103515245 * seedAt seed k + 12345) % 2147483648 = seedAt seed (k + 1) := rfl
      have HY := Lib.hid hy
      clear hy
      have hsz := hbw.size
      have hl := drawsL_length seed total k
      go_wp2_with (at_builtin; refine append_i64 _ _ _ _ rfl rfl rfl hown rfl (by omega) (by omega) ?_)
      intro v' w1 hown1 hb1 hsz1
      rw [HY.out, ← drawsL_succ] at hown1
      have hb2 := (hbw.alloc hsz _).trans hb1
      clear hown hb1
      go_wp2
      go_roundw
      case rel => exact ⟨k + 1, by omega, by go_num, vi HY.out, hown1, hb2⟩
      case measure => simp [intOf]; omega
    · obtain rfl : k = n := by omega
      go_wp2
      go_ret
      exact ⟨_, rfl, hown, hbw⟩

def drawsOfB (s t c : Int) : Bool := inR s 0 1000000000 && (inR t 1 60 && inR c 0 64)
def drawsOfR (s t c : Int) : List Int × Int := if drawsOfB s t c = true then (drawsL s t c.toNat, 0) else ([], 2)

set_option maxHeartbeats 400000 in
theorem ImplDrawsOf_any (s t c : Int) (w : World) :
    Calls Try.prog 41 #[.int .i64 s, .int .i64 t, .int .i64 c] w fun e w' => ∃ v, e = .returned (.tuple #[v, .int .i64 (drawsOfR s t c).2]) ∧ OwnI w' w.heap.size v (drawsOfR s t c).1 ∧ Below w.heap.size w w' := by
  by_cases hv : drawsOfB s t c = true
  · have hr : drawsOfR s t c = (drawsL s t c.toNat, 0) := by simp [drawsOfR, hv]
    rw [hr]
    simp only [drawsOfB, Bool.and_eq_true] at hv
    obtain ⟨h1, h2, h3⟩ := hv
    have b1 := inR_iff.1 h1
    have b2 := inR_iff.1 h2
    have b3 := inR_iff.1 h3
    obtain ⟨n, rfl⟩ := Int.eq_ofNat_of_zero_le b3.1
    clear hr
    go_enter Try.func41, Try.ntmps41
    go_wp2_with (first
      | (go_at_call 70; refine (inRange_any _ _ _ _).mono ?_; rintro e w' ⟨rfl, rfl⟩)
      | (go_at_call 101; refine (drawsOf_any s t n _ (by omega) (by omega) (by omega) (by omega) (by omega)).mono ?_; rintro e w' ⟨v, rfl, hown, hb⟩))
    go_ret2
    exact ⟨_, rfl, by simpa using hown, hb⟩
  · have hr : drawsOfR s t c = ([], 2) := by simp [drawsOfR, hv]
    rw [hr]
    have hv' : drawsOfB s t c = false := by simpa using hv
    clear hv hr
    by_cases h1 : inR s 0 1000000000 = true
    · by_cases h2 : inR t 1 60 = true
      · have h3 : inR c 0 64 = false := by simpa [drawsOfB, h1, h2] using hv'
        clear hv'
        go_enter Try.func41, Try.ntmps41
        go_wp2_with (go_at_call 70; refine (inRange_any _ _ _ _).mono ?_; rintro e w' ⟨rfl, rfl⟩)
        go_ret2
        exact ⟨_, rfl, OwnI.nil _ _, Below.refl _ _⟩
      · have h2' : inR t 1 60 = false := by simpa using h2
        clear h2 hv'
        go_enter Try.func41, Try.ntmps41
        go_wp2_with (go_at_call 70; refine (inRange_any _ _ _ _).mono ?_; rintro e w' ⟨rfl, rfl⟩)
        go_ret2
        exact ⟨_, rfl, OwnI.nil _ _, Below.refl _ _⟩
    · have h1' : inR s 0 1000000000 = false := by simpa using h1
      clear h1 hv'
      go_enter Try.func41, Try.ntmps41
      go_wp2_with (go_at_call 70; refine (inRange_any _ _ _ _).mono ?_; rintro e w' ⟨rfl, rfl⟩)
      go_ret2
      exact ⟨_, rfl, OwnI.nil _ _, Below.refl _ _⟩

end Go.Proofs.Ythheijekdpboaaa
