/-
  Numbers in decimal with a text between them. With it: Texts of deeds. Texts: cut at a byte, numbers read.
-/
import Derived.Test.YtjbjkfahfjoigaaZRowCanRecolour3
import Derived.Test.YtjbjkfahfjoigaaZRowCanRecolour12
import Derived.Lib.QuietBelow
set_option linter.unusedVariables false
set_option linter.unusedSimpArgs false
namespace Go.Proofs.Ytjbjkfahfjoigaa
open Go.RowKit Go.Sort
def deedTextB (k a : Int) : ByteArray := if deedOk k a = true then (if toldOf k = true then wordOf k ++ ⟨#[32]⟩ ++ decB a.natAbs else wordOf k) else ⟨#[]⟩
theorem deedOk_parts {k a : Int} (h : deedOk k a = true) : inR k 1 10 = true ∧ 0 ≤ a ∧ a ≤ 999 := by
  unfold deedOk at h
  rw [Bool.and_eq_true, Bool.and_eq_true] at h
  have := inR_iff.1 h.2.1
  exact ⟨h.1, this.1, this.2⟩
theorem wordOf_size (k : Int) : (wordOf k).size ≤ 7 := by
  unfold wordOf
  repeat (split; · decide)
  decide
theorem decIB_nat (n : Nat) : decIB n = decB n := by unfold decIB decI decB; rw [if_neg (by omega)]; rfl
theorem app_assoc (a b c : ByteArray) : a ++ (b ++ c) = a ++ b ++ c := by apply ByteArray.ext; simp only [ByteArray.data_append, Array.append_assoc]
end Go.Proofs.Ytjbjkfahfjoigaa
namespace Go.Proofs.Ytjbjkfahfjoigaa
open Go.RowKit

def FStr : Flat ByteArray := ⟨89, 9, .string ⟨#[]⟩, 1, 16, fun x => [.string x], Try.underlying89, by kernel_rfl, rfl, by decide, by decide, fun _ => rfl, by intro x u h; simp at h; subst h; rfl⟩
theorem FS_get {w : World} {ad : Option Addr} {n c : Nat} {xs : List ByteArray} (h : FStr.Sl w (.slice ad n c) xs) {i : Nat} (hi : i < xs.length) :
    ∃ b off, ad = some ⟨b, off, none⟩ ∧ b < w.heap.size ∧ w.cell? ⟨b, off + i, none⟩ = some (.string xs[i]) := by
  obtain ⟨b, off, h1, h2, h3⟩ := h.at_ hi
  refine ⟨b, off, h1, h2, ?_⟩
  have := h3 0 (.string xs[i]) rfl
  have e : off + (i * FStr.size + 0) = off + i := by show off + (i * 1 + 0) = off + i; omega
  rw [e] at this
  exact this

/-- from byte i on, with a word that begins at byte f -/
def cutG (s : ByteArray) (c : UInt8) (f i : Nat) : List ByteArray :=
  if h : i < s.size then (if s[i] = c then s.extract f i :: cutG s c (i + 1) (i + 1) else cutG s c f (i + 1)) else [s.extract f s.size]
termination_by s.size - i
def cuts (s : ByteArray) (c : UInt8) : List ByteArray := cutG s c 0 0
theorem cutG_yes {s : ByteArray} {c : UInt8} {f i : Nat} (h : i < s.size) (e : s[i] = c) : cutG s c f i = s.extract f i :: cutG s c (i + 1) (i + 1) := by
  rw [cutG, dif_pos h, if_pos e]
theorem cutG_no {s : ByteArray} {c : UInt8} {f i : Nat} (h : i < s.size) (e : ¬ s[i] = c) : cutG s c f i = cutG s c f (i + 1) := by
  rw [cutG, dif_pos h, if_neg e]
theorem cutG_end {s : ByteArray} {c : UInt8} {f i : Nat} (h : ¬ i < s.size) : cutG s c f i = [s.extract f s.size] := by
  rw [cutG, dif_neg h]
theorem u8_eq {a b : UInt8} : ((a.toNat : Int) = (b.toNat : Int)) ↔ a = b := by
  constructor
  · intro h; apply UInt8.toNat_inj.1; omega
  · intro h; rw [h]

/-- the value of digits behind a number; -1 if one is none -/
def valG (s : ByteArray) (a : Int) (i : Nat) : Int :=
  if h : i < s.size then (if 48 ≤ s[i].toNat ∧ s[i].toNat ≤ 57 then valG s (a * 10 + ((s[i].toNat : Int) - 48)) (i + 1) else -1) else a
termination_by s.size - i
theorem valG_yes {s : ByteArray} {a : Int} {i : Nat} (h : i < s.size) (e : 48 ≤ s[i].toNat ∧ s[i].toNat ≤ 57) : valG s a i = valG s (a * 10 + ((s[i].toNat : Int) - 48)) (i + 1) := by
  rw [valG, dif_pos h, if_pos e]
theorem valG_no {s : ByteArray} {a : Int} {i : Nat} (h : i < s.size) (e : ¬ (48 ≤ s[i].toNat ∧ s[i].toNat ≤ 57)) : valG s a i = -1 := by
  rw [valG, dif_pos h, if_neg e]
theorem valG_end {s : ByteArray} {a : Int} {i : Nat} (h : ¬ i < s.size) : valG s a i = a := by
  rw [valG, dif_neg h]
/-- the reference's number: one to nine digits, no idle 0 ahead -/
def numN (s : ByteArray) : Int := if h : 1 ≤ s.size ∧ s.size ≤ 9 then (if s[0].toNat = 48 ∧ 1 < s.size then -1 else valG s 0 0) else -1
def Pow10 (a : Int) (k : Nat) : Prop := 0 ≤ a ∧ a < 10 ^ k
theorem Pow10.next {a : Int} {k : Nat} (h : Pow10 a k) {d : Nat} (h1 : 48 ≤ d) (h2 : d ≤ 57) : Pow10 (a * 10 + ((d : Int) - 48)) (k + 1) := by
  obtain ⟨h3, h4⟩ := h
  refine ⟨by omega, ?_⟩
  rw [Int.pow_succ]
  have : a + 1 ≤ 10 ^ k := by omega
  have := Int.mul_le_mul_of_nonneg_right this (by decide : (0 : Int) ≤ 10)
  omega
theorem Pow10.le {a : Int} {k : Nat} (h : Pow10 a k) (hk : k ≤ 17) : 0 ≤ a ∧ a < 100000000000000000 := by
  refine ⟨h.1, Int.lt_of_lt_of_le h.2 ?_⟩
  have : (10 : Int) ^ k ≤ 10 ^ 17 := by
    have := Nat.pow_le_pow_right (by decide : 0 < 10) hk
    exact_mod_cast this
  omega
theorem valG_range {s : ByteArray} : ∀ (n i : Nat) (a : Int), s.size - i = n → Pow10 a i → i ≤ s.size → valG s a i = -1 ∨ Pow10 (valG s a i) s.size := by
  intro n
  induction n with
  | zero => intro i a h0 hp hi; right; rw [valG_end (by omega)]; have : i = s.size := by omega
            rw [← this]; exact hp
  | succ n ih =>
    intro i a h0 hp hi
    have hlt : i < s.size := by omega
    by_cases e : 48 ≤ s[i].toNat ∧ s[i].toNat ≤ 57
    · rw [valG_yes hlt e]; exact ih (i + 1) _ (by omega) (hp.next e.1 e.2) hlt
    · left; exact valG_no hlt e
theorem numN_range (s : ByteArray) : -1 ≤ numN s ∧ numN s < 1000000000 := by
  unfold numN
  split
  · rename_i h
    split
    · omega
    · rcases valG_range (s := s) _ 0 0 rfl ⟨by decide, by decide⟩ (Nat.zero_le _) with h2 | h2
      · rw [h2]; omega
      · have h3 : (10 : Int) ^ s.size ≤ 10 ^ 9 := by
          have := Nat.pow_le_pow_right (by decide : 0 < 10) h.2
          exact_mod_cast this
        have := h2.1
        have := h2.2
        omega
  · omega
/-- numbers of words; false if one is none -/
def numsG : List ByteArray → List Int → List Int × Bool
  | [], acc => (acc, true)
  | x :: r, acc => if numN x < 0 then (acc, false) else numsG r (acc ++ [numN x])
theorem numsG_step {l : List ByteArray} {acc : List Int} {k : Nat} (h : k < l.length) : numsG (l.drop k) acc = if numN l[k] < 0 then (acc, false) else numsG (l.drop (k + 1)) (acc ++ [numN l[k]]) := by
  rw [List.drop_eq_getElem_cons h]; rfl
def tupVB (v : Value) (b : Bool) : Value := .tuple #[v, .bool b]
end Go.Proofs.Ytjbjkfahfjoigaa
namespace Go.Proofs.Ytjbjkfahfjoigaa
open Go.RowKit Go.Sort

def joinFrom (b : ByteArray) : ByteArray → Bool → List ByteArray → ByteArray
  | acc, _, [] => acc
  | acc, f, x :: r => joinFrom b ((if f = true then acc else acc ++ b) ++ x) false r
def joinB (b : ByteArray) (l : List ByteArray) : ByteArray := joinFrom b ⟨#[]⟩ true l
def decsB (xs : List Int) (b : ByteArray) : ByteArray := joinB b (xs.map decIB)
theorem joinFrom_step {b acc : ByteArray} {f : Bool} {l : List ByteArray} {k : Nat} (h : k < l.length) : joinFrom b acc f (l.drop k) = joinFrom b ((if f = true then acc else acc ++ b) ++ l[k]) false (l.drop (k + 1)) := by
  rw [List.drop_eq_getElem_cons h]; rfl
theorem decIB_size {n : Int} (h0 : -9223372036854775808 ≤ n) (h1 : n ≤ 9223372036854775807) : (decIB n).size ≤ 20 := by
  have h : (decIB n).size = (decI n).length := by simp [decIB, ByteArray.size]
  rw [h]
  unfold decI
  have h2 := dec_length_le 18 n.natAbs (by omega)
  split
  · simp only [List.length_cons]; omega
  · omega

set_option maxHeartbeats 1000000 in
theorem joined_any {u : Value} {L : List ByteArray} (b : ByteArray) (w : World) (ha : FStr.Sl w u L) (hl : L.length ≤ 100000) (hs : ∀ x ∈ L, x.size ≤ 32) (hb : b.size ≤ 16) :
    Calls Try.prog 70 #[u, .string b] w fun e w' => e = .returned (.string (joinB b L)) ∧ w = w' := by
  have HA := Lib.hid ha
  obtain ⟨a, ca, rfl, hca, hca', _⟩ := ha
  unfold maxLen at hca'
  have HS := Lib.hid hs
  clear hs
  go_enter Try.func70, Try.ntmps70
  go_wp2
  go_loopw [5, 6, 7, 10] (fun o _ _ i wr => ∃ (k : Nat) (acc : ByteArray), k ≤ L.length ∧ i = .int .i64 k ∧ o = .string acc ∧ acc.size ≤ 48 * k ∧ Hid (joinB b L = joinFrom b acc (decide (k = 0)) (L.drop k)) ∧ wr = w) (fun _ _ _ i _ => L.length - (intOf i).toNat)
  case atStart => exact ⟨0, ⟨#[]⟩, Nat.zero_le _, rfl, rfl, Nat.le_refl _, rfl, rfl⟩
  case round =>
    obtain ⟨k, acc, hk, rfl, rfl, hsz, hj, rfl⟩ := hrel
    by_cases hlt : k < L.length
    · obtain ⟨bb, off, rfl, _, gc⟩ := FS_get HA.out hlt
      have i1 : (k : Int) < (L.length : Int) := by omega
      have hx := HS.out _ (List.getElem_mem hlt)
      have hst := joinFrom_step (b := b) (acc := acc) (f := decide (k = 0)) hlt
      generalize L[k] = x at gc hx hst
      have HST := Lib.hid hst
      clear hst
      by_cases h0 : k = 0
      · subst h0
        simp only [Nat.add_zero] at gc
        have z1 : ¬ 9223372036854775807 < acc.size + x.size := by omega
        go_wp2
        go_roundw
        case rel => exact ⟨1, acc ++ x, by omega, by go_num, rfl, by rw [ByteArray.size_append]; omega, by unfold Hid at *; rw [hj, HST]; rfl, trivial⟩
        case measure => simp [intOf]; omega
      · have h0' : 0 < k := by omega
        have h0i : (0 : Int) < (k : Int) := by omega
        have hd : decide (k = 0) = false := by simpa using h0
        have HD := Lib.hid hd
        have z1 : ¬ 9223372036854775807 < acc.size + b.size := by omega
        have z2 : ¬ 9223372036854775807 < acc.size + b.size + x.size := by omega
        clear hd h0
        go_wp2
        go_roundw
        case rel => exact ⟨k + 1, acc ++ b ++ x, by omega, by go_num, rfl, by rw [ByteArray.size_append, ByteArray.size_append]; omega, by unfold Hid at *; rw [hj, HST, HD]; rfl, trivial⟩
        case measure => simp [intOf]; omega
    · obtain rfl : k = L.length := by omega
      go_wp2
      go_ret
      exact ⟨rs (by rw [hj.out]; simp [joinFrom]), rfl⟩
def In64 (xs : List Int) : Prop := ∀ x ∈ xs, -9223372036854775808 ≤ x ∧ x ≤ 9223372036854775807
set_option maxHeartbeats 1000000 in
theorem decimals_any {u : Value} {xs : List Int} (b : ByteArray) (w : World) (ha : SlI w u xs) (hl : xs.length ≤ 100000) (hs : In64 xs) (hb : b.size ≤ 16) :
    Calls Try.prog 35 #[u, .string b] w fun e w' => e = .returned (.string (decsB xs b)) ∧ Below w.heap.size w w' := by
  have HA := Lib.hid (fun W (h : Below w.heap.size w W) => ha.below h)
  obtain ⟨a, ca, rfl, hca, hca', _⟩ := ha
  unfold maxLen at hca'
  have HS := Lib.hid hs
  clear hs
  go_enter Try.func35, Try.ntmps35
  go_wp2
  go_loopw [5, 7, 11] (fun v _ i wr => ∃ (k : Nat) (M : List ByteArray), k ≤ xs.length ∧ i = .int .i64 k ∧ Hid (M = (xs.take k).map decIB) ∧ M.length ≤ k ∧ FStr.Own wr w.heap.size v M ∧ Below w.heap.size w wr) (fun _ _ i _ => xs.length - (intOf i).toNat)
  case atStart => exact ⟨0, [], Nat.zero_le _, rfl, rfl, Nat.le_refl _, Flat.Own.empty _ (Nat.le_refl _), (Below.refl _ _).alloc (Nat.le_refl _) _⟩
  case round =>
    obtain ⟨k, M, hk, rfl, hM, hMl, hown, hbw⟩ := hrel
    by_cases hlt : k < xs.length
    · obtain ⟨bb, off, rfl, _, gc⟩ := (HA.out _ hbw).at_ hlt
      have i1 : (k : Int) < (xs.length : Int) := by omega
      have hx := HS.out _ (List.getElem_mem hlt)
      have hz := hbw.size
      go_wp2_with (first
        | (go_at_call 69; refine (decimal_any xs[k] _ hx.1 hx.2).mono ?_; rintro e w2 ⟨rfl, b2⟩; have o2 := hown.below b2; have hb2 := hbw.trans (b2.mono hbw.size); have z2 := hb2.size)
        | (at_builtin; refine Flat.append FStr _ _ _ (ys := [decIB xs[k]]) rfl rfl rfl (o2.alloc _) rfl (rd_new _ _ _) (by simp; omega) (by simp; omega) ?_))
      intro v' w3 o3 hg3 hb3
      have hb4 := (hb2.alloc z2 _).trans hb3
      clear hown hb3 hg3 o2 b2
      go_wp2
      go_roundw
      case rel => exact ⟨k + 1, M ++ [decIB xs[k]], by omega, by go_num, by unfold Hid at *; rw [hM, List.take_succ_eq_append_getElem hlt, List.map_append]; rfl, by simp; omega, o3, hb4⟩
      case measure => simp [intOf]; omega
    · obtain rfl : k = xs.length := by omega
      have s1 := hown.sl
      have hsz : ∀ x ∈ M, x.size ≤ 32 := by
        intro x hx
        have h2 := hM.out
        rw [h2] at hx
        simp at hx
        obtain ⟨y, hy, rfl⟩ := hx
        have := HS.out y hy
        have := decIB_size this.1 this.2
        omega
      have HSZ := Lib.hid hsz
      clear hsz
      go_wp2_with (go_at_call 70; refine (joined_any b _ s1 (by omega) HSZ.out hb).mono ?_; rintro e w' ⟨rfl, rfl⟩)
      go_ret
      exact ⟨rs (by unfold decsB; rw [hM.out, List.take_length]), hbw⟩

theorem decsB_two (s v : Nat) (b : ByteArray) : decsB [(s : Int), (v : Int)] b = decB s ++ b ++ decB v := by
  unfold decsB joinB
  simp only [List.map_cons, List.map_nil, joinFrom, if_true]
  rw [decIB_nat, decIB_nat]
  have e : (⟨#[]⟩ : ByteArray) ++ decB s = decB s := by apply ByteArray.ext; simp
  rw [e]; rfl
end Go.Proofs.Ytjbjkfahfjoigaa
