/-
  Numbers in decimal with a text between them.
-/
import Derived.Test.YtbokklbbnaibdaaText
namespace Go.Proofs.Ytbokklbbnaibdaa
open Go.RowKit Go.Sort

def joinFrom (b : ByteArray) : ByteArray → Bool → List ByteArray → ByteArray
  | acc, _, [] => acc
  | acc, f, x :: r => joinFrom b ((if f = true then acc else acc ++ b) ++ x) false r
def joinB (b : ByteArray) (l : List ByteArray) : ByteArray := joinFrom b ⟨#[]⟩ true l
def decsB (xs : List Int) (b : ByteArray) : ByteArray := joinB b (xs.map decIB)
theorem joinFrom_step {b acc : ByteArray} {f : Bool} {l : List ByteArray} {k : Nat} (h : k < l.length) : joinFrom b acc f (l.drop k) = joinFrom b ((if f = true then acc else acc ++ b) ++ l[k]) false (l.drop (k + 1)) := by
  rw [List.drop_eq_getElem_cons h]; rfl
theorem decIB_size {n : Int} (h0 : -9223372036854775808 ≤ n) (h1 : n ≤ 9223372036854775807) : (decIB n).size ≤ 20 := by
  have h : (decIB n).size = (decI n).length := by simp [decIB, ByteArray.size]
  rw [h]
  unfold decI
  have h2 := dec_length_le 18 n.natAbs (by omega)
  split
  · simp only [List.length_cons]; omega
  · omega

set_option maxHeartbeats 1000000 in
theorem joined_any {u : Value} {L : List ByteArray} (b : ByteArray) (w : World) (ha : FS.Sl w u L) (hl : L.length ≤ 100000) (hs : ∀ x ∈ L, x.size ≤ 32) (hb : b.size ≤ 16) :
    Calls Try.prog 126 #[u, .string b] w fun e w' => e = .returned (.string (joinB b L)) ∧ w = w' := by
  have HA := Lib.hid ha
  obtain ⟨a, ca, rfl, hca, hca', _⟩ := ha
  unfold maxLen at hca'
  have HS := Lib.hid hs
  clear hs
  go_enter Try.func126, Try.ntmps126
  go_wp2
  go_loopw [5, 6, 7, 10] (fun o _ _ i wr => ∃ (k : Nat) (acc : ByteArray), k ≤ L.length ∧ i = .int .i64 k ∧ o = .string acc ∧ acc.size ≤ 48 * k ∧ Hid (joinB b L = joinFrom b acc (decide (k = 0)) (L.drop k)) ∧ wr = w) (fun _ _ _ i _ => L.length - (intOf i).toNat)
  case atStart => exact ⟨0, ⟨#[]⟩, Nat.zero_le _, rfl, rfl, Nat.le_refl _, rfl, rfl⟩
  case round =>
    obtain ⟨k, acc, hk, rfl, rfl, hsz, hj, rfl⟩ := hrel
    by_cases hlt : k < L.length
    · obtain ⟨bb, off, rfl, _, gc⟩ := FS_get HA.out hlt
      have i1 : (k : Int) < (L.length : Int) := by omega
      have hx := HS.out _ (List.getElem_mem hlt)
      have hst := joinFrom_step (b := b) (acc := acc) (f := decide (k = 0)) hlt
      generalize L[k] = x at gc hx hst
      have HST := Lib.hid hst
      clear hst
      by_cases h0 : k = 0
      · subst h0
        simp only [Nat.add_zero] at gc
        have z1 : ¬ 9223372036854775807 < acc.size + x.size := by omega
        go_wp2
        go_roundw
        case rel => exact ⟨1, acc ++ x, by omega, by go_num, rfl, by rw [ByteArray.size_append]; omega, by unfold Hid at *; rw [hj, HST]; rfl, trivial⟩
        case measure => simp [intOf]; omega
      · have h0' : 0 < k := by omega
        have h0i : (0 : Int) < (k : Int) := by omega
        have hd : decide (k = 0) = false := by simpa using h0
        have HD := Lib.hid hd
        have z1 : ¬ 9223372036854775807 < acc.size + b.size := by omega
        have z2 : ¬ 9223372036854775807 < acc.size + b.size + x.size := by omega
        clear hd h0
        go_wp2
        go_roundw
        case rel => exact ⟨k + 1, acc ++ b ++ x, by omega, by go_num, rfl, by rw [ByteArray.size_append, ByteArray.size_append]; omega, by unfold Hid at *; rw [hj, HST, HD]; rfl, trivial⟩
        case measure => simp [intOf]; omega
    · obtain rfl : k = L.length := by omega
      go_wp2
      go_ret
      exact ⟨rs (by rw [hj.out]; simp [joinFrom]), rfl⟩
def In64 (xs : List Int) : Prop := ∀ x ∈ xs, -9223372036854775808 ≤ x ∧ x ≤ 9223372036854775807
set_option maxHeartbeats 1000000 in
theorem decimals_any {u : Value} {xs : List Int} (b : ByteArray) (w : World) (ha : SlI w u xs) (hl : xs.length ≤ 100000) (hs : In64 xs) (hb : b.size ≤ 16) :
    Calls Try.prog 108 #[u, .string b] w fun e w' => e = .returned (.string (decsB xs b)) ∧ Below w.heap.size w w' := by
  have HA := Lib.hid (fun W (h : Below w.heap.size w W) => ha.below h)
  obtain ⟨a, ca, rfl, hca, hca', _⟩ := ha
  unfold maxLen at hca'
  have HS := Lib.hid hs
  clear hs
  go_enter Try.func108, Try.ntmps108
  go_wp2
  go_loopw [5, 7, 11] (fun v _ i wr => ∃ (k : Nat) (M : List ByteArray), k ≤ xs.length ∧ i = .int .i64 k ∧ Hid (M = (xs.take k).map decIB) ∧ M.length ≤ k ∧ FS.Own wr w.heap.size v M ∧ Below w.heap.size w wr) (fun _ _ i _ => xs.length - (intOf i).toNat)
  case atStart => exact ⟨0, [], Nat.zero_le _, rfl, rfl, Nat.le_refl _, Flat.Own.empty _ (Nat.le_refl _), (Below.refl _ _).alloc (Nat.le_refl _) _⟩
  case round =>
    obtain ⟨k, M, hk, rfl, hM, hMl, hown, hbw⟩ := hrel
    by_cases hlt : k < xs.length
    · obtain ⟨bb, off, rfl, _, gc⟩ := (HA.out _ hbw).at_ hlt
      have i1 : (k : Int) < (xs.length : Int) := by omega
      have hx := HS.out _ (List.getElem_mem hlt)
      have hz := hbw.size
      go_wp2_with (first
        | (go_at_call 107; refine (decimal_any xs[k] _ hx.1 hx.2).mono ?_; rintro e w2 ⟨rfl, b2⟩; have o2 := hown.below b2; have hb2 := hbw.trans (b2.mono hbw.size); have z2 := hb2.size)
        | (at_builtin; refine Flat.append FS _ _ _ (ys := [decIB xs[k]]) rfl rfl rfl (o2.alloc _) rfl (rd_new _ _ _) (by simp; omega) (by simp; omega) ?_))
      intro v' w3 o3 hg3 hb3
      have hb4 := (hb2.alloc z2 _).trans hb3
      clear hown hb3 hg3 o2 b2
      go_wp2
      go_roundw
      case rel => exact ⟨k + 1, M ++ [decIB xs[k]], by omega, by go_num, by unfold Hid at *; rw [hM, List.take_succ_eq_append_getElem hlt, List.map_append]; rfl, by simp; omega, o3, hb4⟩
      case measure => simp [intOf]; omega
    · obtain rfl : k = xs.length := by omega
      have s1 := hown.sl
      have hsz : ∀ x ∈ M, x.size ≤ 32 := by
        intro x hx
        have h2 := hM.out
        rw [h2] at hx
        simp at hx
        obtain ⟨y, hy, rfl⟩ := hx
        have := HS.out y hy
        have := decIB_size this.1 this.2
        omega
      have HSZ := Lib.hid hsz
      clear hsz
      go_wp2_with (go_at_call 126; refine (joined_any b _ s1 (by omega) HSZ.out hb).mono ?_; rintro e w' ⟨rfl, rfl⟩)
      go_ret
      exact ⟨rs (by unfold decsB; rw [hM.out, List.take_length]), hbw⟩

theorem decsB_two (s v : Nat) (b : ByteArray) : decsB [(s : Int), (v : Int)] b = decB s ++ b ++ decB v := by
  unfold decsB joinB
  simp only [List.map_cons, List.map_nil, joinFrom, if_true]
  rw [decIB_nat, decIB_nat]
  have e : (⟨#[]⟩ : ByteArray) ++ decB s = decB s := by apply ByteArray.ext; simp
  rw [e]; rfl
end Go.Proofs.Ytbokklbbnaibdaa
