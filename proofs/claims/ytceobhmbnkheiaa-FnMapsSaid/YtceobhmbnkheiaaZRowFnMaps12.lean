/-
  Numbers read behind a word. With it: Texts of deeds. Texts: cut at a byte, numbers read. Numbers in decimal with a text between them. Plain laws: words of a text, digits of a number. The program's reading of numbers and of words.
-/
import Derived.Test.YtceobhmbnkheiaaZRowFnMaps3
import Derived.Test.YtceobhmbnkheiaaZRowFnMaps9
import Derived.Lib.QuietBelow
import Derived.Deep.DeepCutAuto
set_option linter.unusedVariables false
set_option linter.unusedSimpArgs false
namespace Go.Proofs.Ytceobhmbnkheiaa
open Go.RowKit Go.Sort
def deedTextB (k a : Int) : ByteArray := if deedOk k a = true then (if toldOf k = true then wordOf k ++ ⟨#[32]⟩ ++ decB a.natAbs else wordOf k) else ⟨#[]⟩
theorem deedOk_parts {k a : Int} (h : deedOk k a = true) : inR k 1 10 = true ∧ 0 ≤ a ∧ a ≤ 999 := by
  unfold deedOk at h
  rw [Bool.and_eq_true, Bool.and_eq_true] at h
  have := inR_iff.1 h.2.1
  exact ⟨h.1, this.1, this.2⟩
theorem wordOf_size (k : Int) : (wordOf k).size ≤ 7 := by
  unfold wordOf
  repeat (split; · decide)
  decide
theorem decIB_nat (n : Nat) : decIB n = decB n := by unfold decIB decI decB; rw [if_neg (by omega)]; rfl
theorem app_assoc (a b c : ByteArray) : a ++ (b ++ c) = a ++ b ++ c := by apply ByteArray.ext; simp only [ByteArray.data_append, Array.append_assoc]
end Go.Proofs.Ytceobhmbnkheiaa
namespace Go.Proofs.Ytceobhmbnkheiaa
open Go.RowKit

def FStr : Flat ByteArray := ⟨86, 9, .string ⟨#[]⟩, 1, 16, fun x => [.string x], Try.underlying86, by kernel_rfl, rfl, by decide, by decide, fun _ => rfl, by intro x u h; simp at h; subst h; rfl⟩
theorem FS_get {w : World} {ad : Option Addr} {n c : Nat} {xs : List ByteArray} (h : FStr.Sl w (.slice ad n c) xs) {i : Nat} (hi : i < xs.length) :
    ∃ b off, ad = some ⟨b, off, none⟩ ∧ b < w.heap.size ∧ w.cell? ⟨b, off + i, none⟩ = some (.string xs[i]) := by
  obtain ⟨b, off, h1, h2, h3⟩ := h.at_ hi
  refine ⟨b, off, h1, h2, ?_⟩
  have := h3 0 (.string xs[i]) rfl
  have e : off + (i * FStr.size + 0) = off + i := by show off + (i * 1 + 0) = off + i; omega
  rw [e] at this
  exact this

/-- from byte i on, with a word that begins at byte f -/
def cutG (s : ByteArray) (c : UInt8) (f i : Nat) : List ByteArray :=
  if h : i < s.size then (if s[i] = c then s.extract f i :: cutG s c (i + 1) (i + 1) else cutG s c f (i + 1)) else [s.extract f s.size]
termination_by s.size - i
def cuts (s : ByteArray) (c : UInt8) : List ByteArray := cutG s c 0 0
theorem cutG_yes {s : ByteArray} {c : UInt8} {f i : Nat} (h : i < s.size) (e : s[i] = c) : cutG s c f i = s.extract f i :: cutG s c (i + 1) (i + 1) := by
  rw [cutG, dif_pos h, if_pos e]
theorem cutG_no {s : ByteArray} {c : UInt8} {f i : Nat} (h : i < s.size) (e : ¬ s[i] = c) : cutG s c f i = cutG s c f (i + 1) := by
  rw [cutG, dif_pos h, if_neg e]
theorem cutG_end {s : ByteArray} {c : UInt8} {f i : Nat} (h : ¬ i < s.size) : cutG s c f i = [s.extract f s.size] := by
  rw [cutG, dif_neg h]
theorem u8_eq {a b : UInt8} : ((a.toNat : Int) = (b.toNat : Int)) ↔ a = b := by
  constructor
  · intro h; apply UInt8.toNat_inj.1; omega
  · intro h; rw [h]

set_option maxHeartbeats 1000000 in
theorem splitAt_any (s : ByteArray) (c : UInt8) (w : World) (hs : s.size ≤ 1048576) :
    Calls Try.prog 60 #[.string s, .int .u8 c.toNat] w fun e w' => ∃ v, e = .returned v ∧ FStr.Own w' w.heap.size v (cuts s c) ∧ Below w.heap.size w w' := by
  go_enter Try.func60, Try.ntmps60
  go_wp2
  go_loopw [5, 6, 7, 11] (fun v f _ i wr => ∃ (k ff : Nat) (L : List ByteArray), k ≤ s.size ∧ i = .int .i64 k ∧ ff ≤ k ∧ f = .int .i64 ff ∧ L.length ≤ k ∧ Hid (cuts s c = L ++ cutG s c ff k) ∧ FStr.Own wr w.heap.size v L ∧ Below w.heap.size w wr) (fun _ _ _ i _ => s.size - (intOf i).toNat)
  case atStart => exact ⟨0, 0, [], Nat.zero_le _, rfl, Nat.le_refl _, rfl, Nat.le_refl _, rfl, Flat.Own.empty _ (Nat.le_refl _), (Below.refl _ _).alloc (Nat.le_refl _) _⟩
  case round =>
    obtain ⟨k, ff, L, hk, rfl, hff, rfl, hL, hcut, hown, hbw⟩ := hrel
    have hsz := hbw.size
    by_cases hlt : k < s.size
    · have i1 : (k : Int) < (s.size : Int) := by omega
      have i2 : (ff : Int) ≤ (k : Int) := by omega
      by_cases he : s[k] = c
      · have ht : ((s[k].toNat : Int) == (c.toNat : Int)) = true := by rw [he]; simp
        have HE := Lib.hid he
        clear he
        go_wp2_with (at_builtin; refine Flat.append FStr _ _ _ (ys := [s.extract ff k]) rfl rfl rfl (hown.alloc _) rfl (rd_new _ _ _) (by simp; omega) (by simp; omega) ?_)
        intro v' w1 hown1 hg1 hb1
        have hb2 := (hbw.alloc hsz _).trans hb1
        clear hown hb1 hg1
        go_wp2
        go_roundw
        case rel => exact ⟨k + 1, k + 1, L ++ [s.extract ff k], by omega, by go_num, Nat.le_refl _, by go_num, by simp; omega, by unfold Hid at *; rw [hcut, cutG_yes hlt HE]; simp, hown1, hb2⟩
        case measure => simp [intOf]; omega
      · have ht : ((s[k].toNat : Int) == (c.toNat : Int)) = false := by simp only [beq_eq_false_iff_ne, ne_eq]; rw [u8_eq]; exact he
        have HE := Lib.hid he
        clear he
        go_wp2
        go_roundw
        case rel => exact ⟨k + 1, ff, L, by omega, by go_num, by omega, rfl, by omega, by unfold Hid at *; rw [hcut, cutG_no hlt HE], hown, hbw⟩
        case measure => simp [intOf]; omega
    · obtain rfl : k = s.size := by omega
      have i2 : (ff : Int) ≤ (s.size : Int) := by omega
      go_wp2_with (at_builtin; refine Flat.append FStr _ _ _ (ys := [s.extract ff s.size]) rfl rfl rfl (hown.alloc _) rfl (rd_new _ _ _) (by simp; omega) (by simp; omega) ?_)
      intro v' w1 hown1 hg1 hb1
      have hb2 := (hbw.alloc hsz _).trans hb1
      clear hown hb1 hg1
      go_wp2
      go_ret
      exact ⟨_, rfl, by rw [hcut.out, cutG_end (by omega)]; exact hown1, hb2⟩
/-- the value of digits behind a number; -1 if one is none -/
def valG (s : ByteArray) (a : Int) (i : Nat) : Int :=
  if h : i < s.size then (if 48 ≤ s[i].toNat ∧ s[i].toNat ≤ 57 then valG s (a * 10 + ((s[i].toNat : Int) - 48)) (i + 1) else -1) else a
termination_by s.size - i
theorem valG_yes {s : ByteArray} {a : Int} {i : Nat} (h : i < s.size) (e : 48 ≤ s[i].toNat ∧ s[i].toNat ≤ 57) : valG s a i = valG s (a * 10 + ((s[i].toNat : Int) - 48)) (i + 1) := by
  rw [valG, dif_pos h, if_pos e]
theorem valG_no {s : ByteArray} {a : Int} {i : Nat} (h : i < s.size) (e : ¬ (48 ≤ s[i].toNat ∧ s[i].toNat ≤ 57)) : valG s a i = -1 := by
  rw [valG, dif_pos h, if_neg e]
theorem valG_end {s : ByteArray} {a : Int} {i : Nat} (h : ¬ i < s.size) : valG s a i = a := by
  rw [valG, dif_neg h]
/-- the reference's number: one to nine digits, no idle 0 ahead -/
def numN (s : ByteArray) : Int := if h : 1 ≤ s.size ∧ s.size ≤ 9 then (if s[0].toNat = 48 ∧ 1 < s.size then -1 else valG s 0 0) else -1
def Pow10 (a : Int) (k : Nat) : Prop := 0 ≤ a ∧ a < 10 ^ k
theorem Pow10.next {a : Int} {k : Nat} (h : Pow10 a k) {d : Nat} (h1 : 48 ≤ d) (h2 : d ≤ 57) : Pow10 (a * 10 + ((d : Int) - 48)) (k + 1) := by
  obtain ⟨h3, h4⟩ := h
  refine ⟨by omega, ?_⟩
  rw [Int.pow_succ]
  have : a + 1 ≤ 10 ^ k := by omega
  have := Int.mul_le_mul_of_nonneg_right this (by decide : (0 : Int) ≤ 10)
  omega
theorem Pow10.le {a : Int} {k : Nat} (h : Pow10 a k) (hk : k ≤ 17) : 0 ≤ a ∧ a < 100000000000000000 := by
  refine ⟨h.1, Int.lt_of_lt_of_le h.2 ?_⟩
  have : (10 : Int) ^ k ≤ 10 ^ 17 := by
    have := Nat.pow_le_pow_right (by decide : 0 < 10) hk
    exact_mod_cast this
  omega
theorem valG_range {s : ByteArray} : ∀ (n i : Nat) (a : Int), s.size - i = n → Pow10 a i → i ≤ s.size → valG s a i = -1 ∨ Pow10 (valG s a i) s.size := by
  intro n
  induction n with
  | zero => intro i a h0 hp hi; right; rw [valG_end (by omega)]; have : i = s.size := by omega
            rw [← this]; exact hp
  | succ n ih =>
    intro i a h0 hp hi
    have hlt : i < s.size := by omega
    by_cases e : 48 ≤ s[i].toNat ∧ s[i].toNat ≤ 57
    · rw [valG_yes hlt e]; exact ih (i + 1) _ (by omega) (hp.next e.1 e.2) hlt
    · left; exact valG_no hlt e
theorem numN_range (s : ByteArray) : -1 ≤ numN s ∧ numN s < 1000000000 := by
  unfold numN
  split
  · rename_i h
    split
    · omega
    · rcases valG_range (s := s) _ 0 0 rfl ⟨by decide, by decide⟩ (Nat.zero_le _) with h2 | h2
      · rw [h2]; omega
      · have h3 : (10 : Int) ^ s.size ≤ 10 ^ 9 := by
          have := Nat.pow_le_pow_right (by decide : 0 < 10) h.2
          exact_mod_cast this
        have := h2.1
        have := h2.2
        omega
  · omega
/-- numbers of words; false if one is none -/
def numsG : List ByteArray → List Int → List Int × Bool
  | [], acc => (acc, true)
  | x :: r, acc => if numN x < 0 then (acc, false) else numsG r (acc ++ [numN x])
theorem numsG_step {l : List ByteArray} {acc : List Int} {k : Nat} (h : k < l.length) : numsG (l.drop k) acc = if numN l[k] < 0 then (acc, false) else numsG (l.drop (k + 1)) (acc ++ [numN l[k]]) := by
  rw [List.drop_eq_getElem_cons h]; rfl
def tupVB (v : Value) (b : Bool) : Value := .tuple #[v, .bool b]
end Go.Proofs.Ytceobhmbnkheiaa
namespace Go.Proofs.Ytceobhmbnkheiaa
open Go.RowKit Go.Sort

def joinFrom (b : ByteArray) : ByteArray → Bool → List ByteArray → ByteArray
  | acc, _, [] => acc
  | acc, f, x :: r => joinFrom b ((if f = true then acc else acc ++ b) ++ x) false r
def joinB (b : ByteArray) (l : List ByteArray) : ByteArray := joinFrom b ⟨#[]⟩ true l
def decsB (xs : List Int) (b : ByteArray) : ByteArray := joinB b (xs.map decIB)
theorem joinFrom_step {b acc : ByteArray} {f : Bool} {l : List ByteArray} {k : Nat} (h : k < l.length) : joinFrom b acc f (l.drop k) = joinFrom b ((if f = true then acc else acc ++ b) ++ l[k]) false (l.drop (k + 1)) := by
  rw [List.drop_eq_getElem_cons h]; rfl
theorem decIB_size {n : Int} (h0 : -9223372036854775808 ≤ n) (h1 : n ≤ 9223372036854775807) : (decIB n).size ≤ 20 := by
  have h : (decIB n).size = (decI n).length := by simp [decIB, ByteArray.size]
  rw [h]
  unfold decI
  have h2 := dec_length_le 18 n.natAbs (by omega)
  split
  · simp only [List.length_cons]; omega
  · omega

set_option maxHeartbeats 1000000 in
theorem joined_any {u : Value} {L : List ByteArray} (b : ByteArray) (w : World) (ha : FStr.Sl w u L) (hl : L.length ≤ 100000) (hs : ∀ x ∈ L, x.size ≤ 32) (hb : b.size ≤ 16) :
    Calls Try.prog 97 #[u, .string b] w fun e w' => e = .returned (.string (joinB b L)) ∧ w = w' := by
  have HA := Lib.hid ha
  obtain ⟨a, ca, rfl, hca, hca', _⟩ := ha
  unfold maxLen at hca'
  have HS := Lib.hid hs
  clear hs
  go_enter Try.func97, Try.ntmps97
  go_wp2
  go_loopw [5, 6, 7, 10] (fun o _ _ i wr => ∃ (k : Nat) (acc : ByteArray), k ≤ L.length ∧ i = .int .i64 k ∧ o = .string acc ∧ acc.size ≤ 48 * k ∧ Hid (joinB b L = joinFrom b acc (decide (k = 0)) (L.drop k)) ∧ wr = w) (fun _ _ _ i _ => L.length - (intOf i).toNat)
  case atStart => exact ⟨0, ⟨#[]⟩, Nat.zero_le _, rfl, rfl, Nat.le_refl _, rfl, rfl⟩
  case round =>
    obtain ⟨k, acc, hk, rfl, rfl, hsz, hj, rfl⟩ := hrel
    by_cases hlt : k < L.length
    · obtain ⟨bb, off, rfl, _, gc⟩ := FS_get HA.out hlt
      have i1 : (k : Int) < (L.length : Int) := by omega
      have hx := HS.out _ (List.getElem_mem hlt)
      have hst := joinFrom_step (b := b) (acc := acc) (f := decide (k = 0)) hlt
      generalize L[k] = x at gc hx hst
      have HST := Lib.hid hst
      clear hst
      by_cases h0 : k = 0
      · subst h0
        simp only [Nat.add_zero] at gc
        have z1 : ¬ 9223372036854775807 < acc.size + x.size := by omega
        go_wp2
        go_roundw
        case rel => exact ⟨1, acc ++ x, by omega, by go_num, rfl, by rw [ByteArray.size_append]; omega, by unfold Hid at *; rw [hj, HST]; rfl, trivial⟩
        case measure => simp [intOf]; omega
      · have h0' : 0 < k := by omega
        have h0i : (0 : Int) < (k : Int) := by omega
        have hd : decide (k = 0) = false := by simpa using h0
        have HD := Lib.hid hd
        have z1 : ¬ 9223372036854775807 < acc.size + b.size := by omega
        have z2 : ¬ 9223372036854775807 < acc.size + b.size + x.size := by omega
        clear hd h0
        go_wp2
        go_roundw
        case rel => exact ⟨k + 1, acc ++ b ++ x, by omega, by go_num, rfl, by rw [ByteArray.size_append, ByteArray.size_append]; omega, by unfold Hid at *; rw [hj, HST, HD]; rfl, trivial⟩
        case measure => simp [intOf]; omega
    · obtain rfl : k = L.length := by omega
      go_wp2
      go_ret
      exact ⟨rs (by rw [hj.out]; simp [joinFrom]), rfl⟩
def In64 (xs : List Int) : Prop := ∀ x ∈ xs, -9223372036854775808 ≤ x ∧ x ≤ 9223372036854775807
set_option maxHeartbeats 1000000 in
theorem decimals_any {u : Value} {xs : List Int} (b : ByteArray) (w : World) (ha : SlI w u xs) (hl : xs.length ≤ 100000) (hs : In64 xs) (hb : b.size ≤ 16) :
    Calls Try.prog 88 #[u, .string b] w fun e w' => e = .returned (.string (decsB xs b)) ∧ Below w.heap.size w w' := by
  have HA := Lib.hid (fun W (h : Below w.heap.size w W) => ha.below h)
  obtain ⟨a, ca, rfl, hca, hca', _⟩ := ha
  unfold maxLen at hca'
  have HS := Lib.hid hs
  clear hs
  go_enter Try.func88, Try.ntmps88
  go_wp2
  go_loopw [5, 7, 11] (fun v _ i wr => ∃ (k : Nat) (M : List ByteArray), k ≤ xs.length ∧ i = .int .i64 k ∧ Hid (M = (xs.take k).map decIB) ∧ M.length ≤ k ∧ FStr.Own wr w.heap.size v M ∧ Below w.heap.size w wr) (fun _ _ i _ => xs.length - (intOf i).toNat)
  case atStart => exact ⟨0, [], Nat.zero_le _, rfl, rfl, Nat.le_refl _, Flat.Own.empty _ (Nat.le_refl _), (Below.refl _ _).alloc (Nat.le_refl _) _⟩
  case round =>
    obtain ⟨k, M, hk, rfl, hM, hMl, hown, hbw⟩ := hrel
    by_cases hlt : k < xs.length
    · obtain ⟨bb, off, rfl, _, gc⟩ := (HA.out _ hbw).at_ hlt
      have i1 : (k : Int) < (xs.length : Int) := by omega
      have hx := HS.out _ (List.getElem_mem hlt)
      have hz := hbw.size
      go_wp2_with (first
        | (go_at_call 87; refine (decimal_any xs[k] _ hx.1 hx.2).mono ?_; rintro e w2 ⟨rfl, b2⟩; have o2 := hown.below b2; have hb2 := hbw.trans (b2.mono hbw.size); have z2 := hb2.size)
        | (at_builtin; refine Flat.append FStr _ _ _ (ys := [decIB xs[k]]) rfl rfl rfl (o2.alloc _) rfl (rd_new _ _ _) (by simp; omega) (by simp; omega) ?_))
      intro v' w3 o3 hg3 hb3
      have hb4 := (hb2.alloc z2 _).trans hb3
      clear hown hb3 hg3 o2 b2
      go_wp2
      go_roundw
      case rel => exact ⟨k + 1, M ++ [decIB xs[k]], by omega, by go_num, by unfold Hid at *; rw [hM, List.take_succ_eq_append_getElem hlt, List.map_append]; rfl, by simp; omega, o3, hb4⟩
      case measure => simp [intOf]; omega
    · obtain rfl : k = xs.length := by omega
      have s1 := hown.sl
      have hsz : ∀ x ∈ M, x.size ≤ 32 := by
        intro x hx
        have h2 := hM.out
        rw [h2] at hx
        simp at hx
        obtain ⟨y, hy, rfl⟩ := hx
        have := HS.out y hy
        have := decIB_size this.1 this.2
        omega
      have HSZ := Lib.hid hsz
      clear hsz
      go_wp2_with (go_at_call 97; refine (joined_any b _ s1 (by omega) HSZ.out hb).mono ?_; rintro e w' ⟨rfl, rfl⟩)
      go_ret
      exact ⟨rs (by unfold decsB; rw [hM.out, List.take_length]), hbw⟩

theorem decsB_two (s v : Nat) (b : ByteArray) : decsB [(s : Int), (v : Int)] b = decB s ++ b ++ decB v := by
  unfold decsB joinB
  simp only [List.map_cons, List.map_nil, joinFrom, if_true]
  rw [decIB_nat, decIB_nat]
  have e : (⟨#[]⟩ : ByteArray) ++ decB s = decB s := by apply ByteArray.ext; simp
  rw [e]; rfl
end Go.Proofs.Ytceobhmbnkheiaa
namespace Go.Proofs.Ytceobhmbnkheiaa
open Go.RowKit

def mkB (l : List UInt8) : ByteArray := ⟨l.toArray⟩
theorem mkB_toList (s : ByteArray) : mkB s.data.toList = s := by cases s; rfl
theorem mkB_data (l : List UInt8) : (mkB l).data.toList = l := rfl
theorem mkB_inj {a b : List UInt8} (h : mkB a = mkB b) : a = b := by
  have := congrArg (fun s : ByteArray => s.data.toList) h
  simpa [mkB] using this
theorem mkB_append (a b : List UInt8) : mkB (a ++ b) = mkB a ++ mkB b := by apply ByteArray.ext; simp [mkB]
theorem app_list (a b : ByteArray) : (a ++ b).data.toList = a.data.toList ++ b.data.toList := by simp
theorem len_data (s : ByteArray) : s.data.toList.length = s.size := Array.length_toList
theorem head_app {l r : List UInt8} (h : l ≠ []) : (l ++ r).head? = l.head? := by cases l with
  | nil => exact absurd rfl h
  | cons x q => rfl
theorem bext {a b : ByteArray} (h : a.data.toList = b.data.toList) : a = b := by rw [← mkB_toList a, ← mkB_toList b, h]

/-- words of bytes, the first of which begins with pre -/
def wordsL (c : UInt8) (pre : List UInt8) : List UInt8 → List (List UInt8)
  | [] => [pre]
  | x :: r => if x = c then pre :: wordsL c [] r else wordsL c (pre ++ [x]) r
theorem extract_eq (s : ByteArray) (f i : Nat) : s.extract f i = mkB ((s.data.toList.drop f).take (i - f)) := by
  apply bext
  simp [mkB, ByteArray.data_extract, Array.toList_extract, List.extract_eq_take_drop]
theorem cutG_eq (s : ByteArray) (c : UInt8) : ∀ (n f i : Nat), s.size - i = n → f ≤ i → i ≤ s.size →
    cutG s c f i = (wordsL c ((s.data.toList.drop f).take (i - f)) (s.data.toList.drop i)).map mkB := by
  intro n
  induction n with
  | zero =>
    intro f i h0 hf hi
    have h1 : i = s.size := by omega
    subst h1
    have hl := len_data s
    have e : s.data.toList.drop s.size = [] := List.drop_of_length_le (by omega)
    rw [cutG_end (by omega), e, extract_eq]
    rfl
  | succ n ih =>
    intro f i h0 hf hi
    have hlt : i < s.size := by omega
    have hl := len_data s
    have hd : s.data.toList.drop i = s[i] :: s.data.toList.drop (i + 1) := by
      rw [List.drop_eq_getElem_cons (by omega)]; rfl
    by_cases e : s[i] = c
    · rw [cutG_yes hlt e, hd]
      unfold wordsL
      rw [if_pos e, List.map_cons, ih (i + 1) (i + 1) (by omega) (Nat.le_refl _) hlt, extract_eq]
      simp
    · rw [cutG_no hlt e, hd]
      unfold wordsL
      rw [if_neg e, ih f (i + 1) (by omega) (by omega) hlt]
      have h2 : (s.data.toList.drop f).take (i + 1 - f) = (s.data.toList.drop f).take (i - f) ++ [s[i]] := by
        have h3 : i + 1 - f = (i - f) + 1 := by omega
        rw [h3, List.take_succ_eq_append_getElem (by simp; omega)]
        congr 1
        simp
        have : f + (i - f) = i := by omega
        simp [this]; rfl
      rw [h2]
theorem cuts_eq (s : ByteArray) (c : UInt8) : cuts s c = (wordsL c [] s.data.toList).map mkB := by
  unfold cuts
  rw [cutG_eq s c _ 0 0 rfl (Nat.le_refl _) (Nat.zero_le _)]
  simp
theorem wordsL_no {c : UInt8} : ∀ (l pre : List UInt8), c ∉ l → wordsL c pre l = [pre ++ l]
  | [], pre, _ => by simp [wordsL]
  | x :: r, pre, h => by
    unfold wordsL
    rw [if_neg (by intro e; exact h (by simp [e])), wordsL_no r (pre ++ [x]) (fun hr => h (by simp [hr]))]
    simp
theorem wordsL_app {c : UInt8} : ∀ (l pre r : List UInt8), c ∉ l → wordsL c pre (l ++ c :: r) = (pre ++ l) :: wordsL c [] r
  | [], pre, r, _ => by
    show (if c = c then pre :: wordsL c [] r else _) = _
    rw [if_pos rfl, List.append_nil]
  | x :: l, pre, r, h => by
    show (if x = c then pre :: wordsL c [] (l ++ c :: r) else wordsL c (pre ++ [x]) (l ++ c :: r)) = _
    rw [if_neg (by intro e; exact h (by simp [e])), wordsL_app l (pre ++ [x]) r (fun hr => h (by simp [hr]))]
    simp
/-- words put together again -/
def unwords (c : UInt8) : List (List UInt8) → List UInt8
  | [] => []
  | [w] => w
  | w :: v :: r => w ++ c :: unwords c (v :: r)
theorem wordsL_ne (c : UInt8) : ∀ (l pre : List UInt8), wordsL c pre l ≠ []
  | [], pre => by simp [wordsL]
  | x :: r, pre => by
    unfold wordsL
    split
    · simp
    · exact wordsL_ne c r _
theorem unwords_wordsL (c : UInt8) : ∀ (l pre : List UInt8), unwords c (wordsL c pre l) = pre ++ l
  | [], pre => by simp [wordsL, unwords]
  | x :: r, pre => by
    unfold wordsL
    by_cases e : x = c
    · rw [if_pos e]
      have h1 := unwords_wordsL c r []
      have h2 := wordsL_ne c r []
      cases hw : wordsL c [] r with
      | nil => exact absurd hw h2
      | cons v q =>
        rw [hw] at h1
        unfold unwords
        rw [h1, e]; simp
    · rw [if_neg e, unwords_wordsL c r (pre ++ [x])]; simp
theorem cuts_one {s : ByteArray} {c : UInt8} (h : c ∉ s.data.toList) : cuts s c = [s] := by
  rw [cuts_eq, wordsL_no _ _ h]; simp [mkB_toList]
theorem cuts_app {x y : ByteArray} {c : UInt8} (h : c ∉ x.data.toList) : cuts (x ++ (mkB [c] ++ y)) c = x :: cuts y c := by
  rw [cuts_eq, cuts_eq, app_list, app_list, mkB_data, List.singleton_append, wordsL_app _ _ _ h]
  simp [mkB_toList]
theorem cuts_len (s : ByteArray) (c : UInt8) : 1 ≤ (cuts s c).length := by
  rw [cuts_eq, List.length_map]
  have := wordsL_ne c s.data.toList []
  cases hw : wordsL c [] s.data.toList with
  | nil => exact absurd hw this
  | cons v q => simp
theorem wordsL_lens (c : UInt8) : ∀ (l pre : List UInt8), (wordsL c pre l).length ≤ l.length + 1 ∧ ∀ w ∈ wordsL c pre l, w.length ≤ pre.length + l.length
  | [], pre => by simp [wordsL]
  | x :: r, pre => by
    unfold wordsL
    split
    · have h := wordsL_lens c r []
      refine ⟨by simp; omega, fun w hw => ?_⟩
      simp at hw
      rcases hw with rfl | hw
      · omega
      · have := h.2 w hw; simp at this ⊢; omega
    · have h := wordsL_lens c r (pre ++ [x])
      refine ⟨by simp; omega, fun w hw => ?_⟩
      have := h.2 w hw
      simp at this ⊢; omega
theorem cuts_lens (s : ByteArray) (c : UInt8) : (cuts s c).length ≤ s.size + 1 ∧ ∀ w ∈ cuts s c, w.size ≤ s.size := by
  have hl := len_data s
  have h := wordsL_lens c s.data.toList []
  rw [cuts_eq]
  refine ⟨by simp; omega, fun w hw => ?_⟩
  simp at hw
  obtain ⟨l, hl2, rfl⟩ := hw
  have := h.2 l hl2
  have e : (mkB l).size = l.length := by simp [mkB, ByteArray.size]
  simp at this
  omega
/-- what words say of the text -/
theorem cuts_back1 {s x : ByteArray} {c : UInt8} (h : cuts s c = [x]) : s = x := by
  rw [cuts_eq] at h
  have h2 := unwords_wordsL c s.data.toList []
  cases hw : wordsL c [] s.data.toList with
  | nil => rw [hw] at h; simp at h
  | cons v q =>
    rw [hw] at h h2
    simp at h
    obtain ⟨rfl, rfl⟩ := h
    simp [unwords] at h2
    rw [h2, mkB_toList]
theorem cuts_back2 {s x y : ByteArray} {c : UInt8} (h : cuts s c = [x, y]) : s = x ++ (mkB [c] ++ y) := by
  rw [cuts_eq] at h
  have h2 := unwords_wordsL c s.data.toList []
  match hw : wordsL c [] s.data.toList, h, h2 with
  | [v, q], h, h2 =>
    simp at h
    obtain ⟨rfl, rfl⟩ := h
    simp [unwords] at h2
    apply bext
    rw [app_list, app_list, ← h2]; rfl
theorem cuts_back3 {s x y z : ByteArray} {c : UInt8} (h : cuts s c = [x, y, z]) : s = x ++ (mkB [c] ++ (y ++ (mkB [c] ++ z))) := by
  rw [cuts_eq] at h
  have h2 := unwords_wordsL c s.data.toList []
  match hw : wordsL c [] s.data.toList, h, h2 with
  | [v, q, r], h, h2 =>
    simp at h
    obtain ⟨rfl, rfl, rfl⟩ := h
    simp [unwords] at h2
    apply bext
    rw [app_list, app_list, app_list, app_list, ← h2]; simp [mkB]

/-- the value of digits, as a list -/
def valL : List UInt8 → Int → Int
  | [], a => a
  | c :: r, a => if 48 ≤ c.toNat ∧ c.toNat ≤ 57 then valL r (a * 10 + ((c.toNat : Int) - 48)) else -1
theorem valG_eq (s : ByteArray) : ∀ (n i : Nat) (a : Int), s.size - i = n → i ≤ s.size → valG s a i = valL (s.data.toList.drop i) a := by
  have hl := len_data s
  intro n
  induction n with
  | zero => intro i a h0 hi; rw [valG_end (by omega), List.drop_of_length_le (by omega)]; rfl
  | succ n ih =>
    intro i a h0 hi
    have hlt : i < s.size := by omega
    have hd : s.data.toList.drop i = s[i] :: s.data.toList.drop (i + 1) := by
      rw [List.drop_eq_getElem_cons (by omega)]; rfl
    rw [hd]
    unfold valL
    by_cases e : 48 ≤ s[i].toNat ∧ s[i].toNat ≤ 57
    · rw [valG_yes hlt e, if_pos e, ih (i + 1) _ (by omega) hlt]
    · rw [valG_no hlt e, if_neg e]
def AllD (l : List UInt8) : Prop := ∀ c ∈ l, 48 ≤ c.toNat ∧ c.toNat ≤ 57
theorem valL_app : ∀ (l r : List UInt8) (a : Int), AllD l → valL (l ++ r) a = valL r (valL l a)
  | [], r, a, _ => rfl
  | c :: l, r, a, h => by
    have hc := h c (by simp)
    rw [List.cons_append]
    conv => lhs; unfold valL
    conv => rhs; arg 2; unfold valL
    rw [if_pos hc, if_pos hc]
    exact valL_app l r _ (fun x hx => h x (by simp [hx]))
theorem valL_nonneg : ∀ (l : List UInt8) (a : Int), AllD l → 0 ≤ a → 0 ≤ valL l a
  | [], a, _, h => h
  | c :: l, a, h, ha => by
    have hc := h c (by simp)
    unfold valL
    rw [if_pos hc]
    exact valL_nonneg l _ (fun x hx => h x (by simp [hx])) (by omega)
theorem valL_all : ∀ (l : List UInt8) (a : Int), 0 ≤ a → 0 ≤ valL l a → AllD l
  | [], a, _, _ => by intro c hc; simp at hc
  | c :: l, a, ha, h => by
    unfold valL at h
    by_cases hc : 48 ≤ c.toNat ∧ c.toNat ≤ 57
    · rw [if_pos hc] at h
      have := valL_all l _ (by omega) h
      intro x hx
      simp at hx
      rcases hx with rfl | hx
      · exact hc
      · exact this x hx
    · rw [if_neg hc] at h; omega
theorem dig_nat {n : Nat} (h : n < 10) : (dig n).toNat = 48 + n := by
  unfold dig; rw [UInt8.toNat_ofNat']; omega
theorem dec_all (n : Nat) : AllD (dec n) := by
  induction n using Nat.strongRecOn with
  | ind n ih =>
    by_cases h : n < 10
    · rw [dec_lt h]
      intro c hc
      simp at hc
      subst hc
      rw [dig_nat h]; omega
    · rw [dec_ge (by omega)]
      intro c hc
      simp at hc
      rcases hc with hc | hc
      · exact ih (n / 10) (by omega) c hc
      · subst hc; rw [dig_nat (by omega)]; omega
theorem valL_dec (n : Nat) : valL (dec n) 0 = n := by
  induction n using Nat.strongRecOn with
  | ind n ih =>
    by_cases h : n < 10
    · rw [dec_lt h]
      unfold valL
      rw [dig_nat h, if_pos (by omega)]
      unfold valL; omega
    · rw [dec_ge (by omega), valL_app _ _ _ (dec_all _), ih (n / 10) (by omega)]
      unfold valL
      rw [dig_nat (by omega), if_pos (by omega)]
      unfold valL; omega
theorem dec_ne (n : Nat) : dec n ≠ [] := by
  have := dec_pos n
  intro e; rw [e] at this; simp at this
theorem valL_back : ∀ (n : Nat) (l : List UInt8), l.length = n → AllD l → l ≠ [] → (l.head? ≠ some 48 ∨ l.length = 1) → l = dec (valL l 0).toNat := by
  intro n
  induction n using Nat.strongRecOn with
  | ind n ih =>
    intro l hl hd hne hh
    rcases List.eq_nil_or_concat l with h0 | ⟨l', c, rfl⟩
    · exact absurd h0 hne
    · rw [List.concat_eq_append] at hl hd hh ⊢
      have hc := hd c (by simp)
      have hd' : AllD l' := fun x hx => hd x (by simp [hx])
      have hdig : dig (c.toNat - 48) = c := by
        apply UInt8.toNat_inj.1
        rw [dig_nat (by omega)]; omega
      cases l' with
      | nil =>
        simp only [List.nil_append]
        unfold valL
        rw [if_pos hc]
        unfold valL
        have e : ((0 : Int) * 10 + ((c.toNat : Int) - 48)).toNat = c.toNat - 48 := by omega
        rw [e, dec_lt (by omega), hdig]
      | cons x q =>
        have hx : (x :: q).head? ≠ some 48 := by
          rcases hh with h | h
          · simpa using h
          · simp at h
        have h1 := ih (x :: q).length (by simp at hl ⊢; omega) (x :: q) rfl hd' (by simp) (.inl hx)
        have h2 := valL_nonneg (x :: q) 0 hd' (Int.le_refl _)
        have h3 : 1 ≤ (valL (x :: q) 0).toNat := by
          rcases Nat.eq_zero_or_pos (valL (x :: q) 0).toNat with h0 | h0
          · rw [h0, dec_lt (by omega)] at h1
            rw [h1] at hx
            exact absurd rfl hx
          · exact h0
        rw [valL_app _ _ _ hd']
        generalize hv : valL (x :: q) 0 = v at h1 h2 h3
        unfold valL
        rw [if_pos hc]
        unfold valL
        have e1 : (v * 10 + ((c.toNat : Int) - 48)).toNat = v.toNat * 10 + (c.toNat - 48) := by omega
        rw [e1, dec_ge (by omega)]
        have e2 : (v.toNat * 10 + (c.toNat - 48)) / 10 = v.toNat := by omega
        have e3 : (v.toNat * 10 + (c.toNat - 48)) % 10 = c.toNat - 48 := by omega
        rw [e2, e3, hdig, ← h1]
theorem valG_decB (n : Nat) : valG (decB n) 0 0 = n := by
  rw [valG_eq _ _ 0 0 rfl (Nat.zero_le _)]
  have : (decB n).data.toList = dec n := by simp [decB]
  rw [this]
  simpa using valL_dec n
theorem decB_get (n : Nat) (h : 0 < (decB n).size) : (decB n)[0].toNat = 48 → n = 0 := by
  intro h48
  have e : (decB n).data.toList = dec n := by simp [decB]
  have h1 : (dec n).head? = some (decB n)[0] := by
    rw [← e]
    have : (decB n).data.toList[0]? = some (decB n)[0] := by
      rw [List.getElem?_eq_getElem (by rw [len_data]; exact h)]; rfl
    simpa [List.head?_eq_getElem?] using this
  have h3 : (decB n)[0] = 48 := UInt8.toNat_inj.1 (by rw [h48]; rfl)
  rw [h3] at h1
  induction n using Nat.strongRecOn with
  | ind n ih =>
    by_cases h10 : n < 10
    · rw [dec_lt h10] at h1
      simp at h1
      have := dig_nat h10
      rw [h1] at this
      have h4 : (48 : UInt8).toNat = 48 := rfl
      omega
    · rw [dec_ge (by omega)] at h1
      have h5 : (dec (n / 10)).head? = some 48 := by
        rw [head_app (dec_ne _)] at h1; exact h1
      exfalso
      have : ∀ m : Nat, 0 < m → (dec m).head? ≠ some 48 := by
        intro m
        induction m using Nat.strongRecOn with
        | ind m im =>
          intro hm hh
          by_cases h9 : m < 10
          · rw [dec_lt h9] at hh
            simp at hh
            have := dig_nat h9
            rw [hh] at this
            have h4 : (48 : UInt8).toNat = 48 := rfl
            omega
          · rw [dec_ge (by omega), head_app (dec_ne _)] at hh
            exact im (m / 10) (by omega) (by omega) hh
      exact this (n / 10) (by omega) h5
theorem numN_decB {n : Nat} (h : n < 1000000000) : numN (decB n) = n := by
  have h1 := decB_size_le (k := 8) (n := n) h
  have h2 := dec_pos n
  rw [← decB_size] at h2
  unfold numN
  rw [dif_pos (by omega), if_neg, valG_decB]
  rintro ⟨h3, h4⟩
  have := decB_get n (by omega) h3
  subst this
  rw [decB_size, dec_lt (by omega)] at h4
  simp at h4
theorem numN_back {s : ByteArray} (h : 0 ≤ numN s) : s = decB (numN s).toNat := by
  unfold numN at h ⊢
  by_cases h1 : 1 ≤ s.size ∧ s.size ≤ 9
  · rw [dif_pos h1] at h ⊢
    by_cases h2 : s[0].toNat = 48 ∧ 1 < s.size
    · rw [if_pos h2] at h; omega
    · rw [if_neg h2] at h ⊢
      rw [valG_eq _ _ 0 0 rfl (Nat.zero_le _), List.drop_zero] at h ⊢
      have hl := len_data s
      have ha := valL_all _ 0 (Int.le_refl _) h
      have hb := valL_back _ s.data.toList rfl ha (by intro e; rw [e] at hl; simp at hl; omega) (by
        by_cases h3 : 1 < s.size
        · left
          intro h4
          apply h2
          refine ⟨?_, h3⟩
          have h5 : s.data.toList[0]? = some s[0] := by rw [List.getElem?_eq_getElem (by omega)]; rfl
          rw [List.head?_eq_getElem?, h5] at h4
          injection h4 with h4
          rw [h4]; rfl
        · right; omega)
      rw [← mkB_toList s]
      conv => lhs; rw [hb]
      rfl
  · rw [dif_neg h1] at h; omega
/-- the program's number -/
def digsB (s : ByteArray) : ByteArray := if h : 0 < s.size then (if s[0] = 45 then s.extract 1 s.size else s) else s
def sgnB (s : ByteArray) : Int := if (digsB s).size < s.size then - valG (digsB s) 0 0 else valG (digsB s) 0 0
def readG (s : ByteArray) : Int × Bool :=
  if 1 ≤ (digsB s).size ∧ (digsB s).size ≤ 18 then (if valG (digsB s) 0 0 < 0 then (0, false) else (if decIB (sgnB s) = s then (sgnB s, true) else (0, false))) else (0, false)
theorem readG_decB {n : Nat} (h : n < 1000000000000000000) : readG (decB n) = ((n : Int), true) := by
  have h1 := decB_size_le (k := 17) (n := n) h
  have h2 := dec_pos n
  rw [← decB_size] at h2
  have hd : digsB (decB n) = decB n := by
    unfold digsB
    rw [dif_pos h2, if_neg]
    intro e
    have h3 := dec_all n (decB n)[0] (by
      have : (decB n)[0] ∈ (decB n).data.toList := by
        have : (decB n)[0] = (decB n).data.toList[0]'(by rw [len_data]; exact h2) := rfl
        rw [this]; exact List.getElem_mem _
      simpa [decB] using this)
    rw [e] at h3
    have : (45 : UInt8).toNat = 45 := rfl
    omega
  have hs : sgnB (decB n) = n := by unfold sgnB; rw [hd, if_neg (by omega), valG_decB]
  unfold readG
  rw [hd, if_pos (by omega), valG_decB, if_neg (by omega), hs, if_pos (decIB_nat n)]
theorem readG_back {s : ByteArray} (h : (readG s).2 = true) : s = decIB (readG s).1 := by
  unfold readG at h ⊢
  by_cases h1 : 1 ≤ (digsB s).size ∧ (digsB s).size ≤ 18
  · rw [if_pos h1] at h ⊢
    by_cases h2 : valG (digsB s) 0 0 < 0
    · rw [if_pos h2] at h; simp at h
    · rw [if_neg h2] at h ⊢
      by_cases h3 : decIB (sgnB s) = s
      · rw [if_pos h3]; exact h3.symm
      · rw [if_neg h3] at h; simp at h
  · rw [if_neg h1] at h; simp at h
theorem decIB_pos {n : Int} (h : 0 ≤ n) : decIB n = decB n.toNat := by
  obtain ⟨m, rfl⟩ := Int.eq_ofNat_of_zero_le h
  rw [decIB_nat]; rfl
end Go.Proofs.Ytceobhmbnkheiaa
namespace Go.Proofs.Ytceobhmbnkheiaa
open Go.RowKit
theorem beq_yes {a b : ByteArray} (h : a = b) : (a.toList == b.toList) = true := by rw [h]; simp
theorem beq_no {a b : ByteArray} (h : ¬ a = b) : (a.toList == b.toList) = false := by
  simp only [beq_eq_false_iff_ne, ne_eq]
  intro e
  rw [ByteArray.toList_eq, ByteArray.toList_eq] at e
  exact h (bext e)
theorem digsB_size (s : ByteArray) : (digsB s).size ≤ s.size := by
  unfold digsB
  split
  · split
    · simp
    · exact Nat.le_refl _
  · exact Nat.le_refl _
def tupNB (r : Int × Bool) : Value := .tuple #[.int .i64 r.1, .bool r.2]
set_option maxHeartbeats 4000000 in
theorem readDecimal_any (s : ByteArray) (w : World) (hs : s.size ≤ 1048576) :
    Calls Try.prog 61 #[.string s] w fun e w' => e = .returned (tupNB (readG s)) ∧ Below w.heap.size w w' := by
  have hD2 := digsB_size s
  by_cases h0 : 0 < s.size
  · have i0 : (0 : Int) < (s.size : Int) := by omega
    by_cases h45 : s[0] = 45
    · skip
      have ht : ((s[0].toNat : Int) == 45) = true := by rw [h45]; rfl
      have i1 : (1 : Int) ≤ (s.size : Int) := by omega
      have hd : digsB s = s.extract 1 s.size := by unfold digsB; rw [dif_pos h0, if_pos h45]
      have HDX := Lib.hid hd
      clear h45 hd hD2
      go_enter Try.func61, Try.ntmps61
      go_upto_region 4 with (fail)
      have hD := HDX.out
      have hD2 := digsB_size s
      rw [hD] at hD2
      generalize s.extract 1 s.size = D at hD hD2 ⊢
      by_cases h1 : D.size < 1
      · have hr : readG s = (0, false) := by unfold readG; rw [hD, if_neg (by omega)]
        have HR := Lib.hid hr
        clear hD hr
        go_wp2
        go_ret2
        exact ⟨by rw [HR.out]; rfl, Below.refl _ _⟩
      by_cases h18 : 18 < D.size
      · have hr : readG s = (0, false) := by unfold readG; rw [hD, if_neg (by omega)]
        have HR := Lib.hid hr
        clear hD hr
        go_wp2
        go_ret2
        exact ⟨by rw [HR.out]; rfl, Below.refl _ _⟩
      have hr : readG s = (if valG D 0 0 < 0 then (0, false) else (if decIB (sgnB s) = s then (sgnB s, true) else (0, false))) := by unfold readG; rw [hD, if_pos (by omega)]
      have hsg : sgnB s = if D.size < s.size then - valG D 0 0 else valG D 0 0 := by unfold sgnB; rw [hD]
      have HR := Lib.hid hr
      have HSG := Lib.hid hsg
      clear hD hr hsg
      go_wp2
      go_loopw [5, 6, 28] (fun a _ i wr => ∃ (k : Nat) (q : Int), k ≤ D.size ∧ i = .int .i64 k ∧ a = .int .i64 q ∧ Pow10 q k ∧ Hid (valG D 0 0 = valG D q k) ∧ wr = w) (fun _ _ i _ => D.size - (intOf i).toNat)
      case atStart => exact ⟨0, 0, Nat.zero_le _, rfl, rfl, ⟨by decide, by decide⟩, rfl, rfl⟩
      case round =>
        obtain ⟨k, q, hk, rfl, rfl, hq, hval, rfl⟩ := hrel
        have HQ := Lib.hid hq
        clear hq
        by_cases hlt : k < D.size
        · have i1 : (k : Int) < (D.size : Int) := by omega
          have hu : D[k].toNat < 256 := UInt8.toNat_lt _
          have hq3 := (HQ.out.le (by omega)).1
          have hq4 := (HQ.out.le (by omega)).2
          by_cases e : 48 ≤ D[k].toNat ∧ D[k].toNat ≤ 57
          · have e1 : (48 : Int) ≤ (D[k].toNat : Int) := by omega
            have e2 : (D[k].toNat : Int) ≤ 57 := by omega
            have HE := Lib.hid e
            clear e
            go_wp2
            go_roundw
            case rel => exact ⟨k + 1, _, by omega, by go_num, by rw [Int.mul_comm], HQ.out.next HE.out.1 HE.out.2, by unfold Hid at *; rw [hval, valG_yes hlt HE], trivial⟩
            case measure => simp [intOf]; omega
          · have HV := Lib.hid (valG_no (a := q) hlt e)
            by_cases e1 : (D[k].toNat : Int) < 48
            · clear e
              go_wp2
              go_ret2
              exact ⟨by rw [HR.out, hval.out, HV.out]; rfl, Below.refl _ _⟩
            · have e2 : (57 : Int) < (D[k].toNat : Int) := by omega
              clear e
              go_wp2
              go_ret2
              exact ⟨by rw [HR.out, hval.out, HV.out]; rfl, Below.refl _ _⟩
        · obtain rfl : k = D.size := by omega
          have hvq : valG D 0 0 = q := by rw [hval.out, valG_end (by omega)]
          have hq18 : 0 ≤ q ∧ q < 1000000000000000000 := by
            refine ⟨HQ.out.1, Int.lt_of_lt_of_le HQ.out.2 ?_⟩
            have : (10 : Int) ^ D.size ≤ 10 ^ 18 := by
              have := Nat.pow_le_pow_right (by decide : 0 < 10) (show D.size ≤ 18 by omega)
              exact_mod_cast this
            omega
          have hq0 := hq18.1
          have hq1 := hq18.2
          have HVQ := Lib.hid hvq
          clear hvq hq18 hval
          by_cases hneg : D.size < s.size
          · have hsn : sgnB s = - q := by rw [HSG.out, if_pos hneg, HVQ.out]
            have HSN := Lib.hid hsn
            have ineg : (D.size : Int) < (s.size : Int) := by omega
            clear hsn
            by_cases he : decIB (-q) = s
            · have ht := beq_yes he
              have hrr : readG s = (-q, true) := by rw [HR.out, HVQ.out, if_neg (by omega), HSN.out, if_pos he]
              have HRR := Lib.hid hrr
              clear hrr he
              go_wp2_with (go_at_call 87; refine (decimal_any (-q) _ (by omega) (by omega)).mono ?_; rintro e w2 ⟨rfl, b2⟩)
              go_ret2
              exact ⟨by rw [HRR.out]; rfl, b2⟩
            · have ht := beq_no he
              have hrr : readG s = (0, false) := by rw [HR.out, HVQ.out, if_neg (by omega), HSN.out, if_neg he]
              have HRR := Lib.hid hrr
              clear hrr he
              go_wp2_with (go_at_call 87; refine (decimal_any (-q) _ (by omega) (by omega)).mono ?_; rintro e w2 ⟨rfl, b2⟩)
              go_ret2
              exact ⟨by rw [HRR.out]; rfl, b2⟩
          · have hsn : sgnB s = q := by rw [HSG.out, if_neg hneg, HVQ.out]
            have HSN := Lib.hid hsn
            have ineg : (s.size : Int) ≤ (D.size : Int) := by omega
            clear hsn
            by_cases he : decIB q = s
            · have ht := beq_yes he
              have hrr : readG s = (q, true) := by rw [HR.out, HVQ.out, if_neg (by omega), HSN.out, if_pos he]
              have HRR := Lib.hid hrr
              clear hrr he
              go_wp2_with (go_at_call 87; refine (decimal_any q _ (by omega) (by omega)).mono ?_; rintro e w2 ⟨rfl, b2⟩)
              go_ret2
              exact ⟨by rw [HRR.out]; rfl, b2⟩
            · have ht := beq_no he
              have hrr : readG s = (0, false) := by rw [HR.out, HVQ.out, if_neg (by omega), HSN.out, if_neg he]
              have HRR := Lib.hid hrr
              clear hrr he
              go_wp2_with (go_at_call 87; refine (decimal_any q _ (by omega) (by omega)).mono ?_; rintro e w2 ⟨rfl, b2⟩)
              go_ret2
              exact ⟨by rw [HRR.out]; rfl, b2⟩
    · skip
      have ht : ((s[0].toNat : Int) == 45) = false := by
        simp only [beq_eq_false_iff_ne, ne_eq]
        intro e
        apply h45
        apply UInt8.toNat_inj.1
        have : (45 : UInt8).toNat = 45 := rfl
        omega
      have hd : digsB s = s := by unfold digsB; rw [dif_pos h0, if_neg h45]
      have HDX := Lib.hid hd
      clear h45 hd hD2
      go_enter Try.func61, Try.ntmps61
      go_upto_region 4 with (fail)
      have hD := HDX.out
      have h1 : ¬ s.size < 1 := by omega
      by_cases h18 : 18 < s.size
      · have hr : readG s = (0, false) := by unfold readG; rw [hD, if_neg (by omega)]
        have HR := Lib.hid hr
        clear hD hr
        go_wp2
        go_ret2
        exact ⟨by rw [HR.out]; rfl, Below.refl _ _⟩
      have hr : readG s = (if valG s 0 0 < 0 then (0, false) else (if decIB (sgnB s) = s then (sgnB s, true) else (0, false))) := by unfold readG; rw [hD, if_pos (by omega)]
      have hsg : sgnB s = if s.size < s.size then - valG s 0 0 else valG s 0 0 := by unfold sgnB; rw [hD]
      have HR := Lib.hid hr
      have HSG := Lib.hid hsg
      clear hD hr hsg
      go_wp2
      go_loopw [5, 6, 28] (fun a _ i wr => ∃ (k : Nat) (q : Int), k ≤ s.size ∧ i = .int .i64 k ∧ a = .int .i64 q ∧ Pow10 q k ∧ Hid (valG s 0 0 = valG s q k) ∧ wr = w) (fun _ _ i _ => s.size - (intOf i).toNat)
      case atStart => exact ⟨0, 0, Nat.zero_le _, rfl, rfl, ⟨by decide, by decide⟩, rfl, rfl⟩
      case round =>
        obtain ⟨k, q, hk, rfl, rfl, hq, hval, rfl⟩ := hrel
        have HQ := Lib.hid hq
        clear hq
        by_cases hlt : k < s.size
        · have i1 : (k : Int) < (s.size : Int) := by omega
          have hu : s[k].toNat < 256 := UInt8.toNat_lt _
          have hq3 := (HQ.out.le (by omega)).1
          have hq4 := (HQ.out.le (by omega)).2
          by_cases e : 48 ≤ s[k].toNat ∧ s[k].toNat ≤ 57
          · have e1 : (48 : Int) ≤ (s[k].toNat : Int) := by omega
            have e2 : (s[k].toNat : Int) ≤ 57 := by omega
            have HE := Lib.hid e
            clear e
            go_wp2
            go_roundw
            case rel => exact ⟨k + 1, _, by omega, by go_num, by rw [Int.mul_comm], HQ.out.next HE.out.1 HE.out.2, by unfold Hid at *; rw [hval, valG_yes hlt HE], trivial⟩
            case measure => simp [intOf]; omega
          · have HV := Lib.hid (valG_no (a := q) hlt e)
            by_cases e1 : (s[k].toNat : Int) < 48
            · clear e
              go_wp2
              go_ret2
              exact ⟨by rw [HR.out, hval.out, HV.out]; rfl, Below.refl _ _⟩
            · have e2 : (57 : Int) < (s[k].toNat : Int) := by omega
              clear e
              go_wp2
              go_ret2
              exact ⟨by rw [HR.out, hval.out, HV.out]; rfl, Below.refl _ _⟩
        · obtain rfl : k = s.size := by omega
          have hvq : valG s 0 0 = q := by rw [hval.out, valG_end (by omega)]
          have hq18 : 0 ≤ q ∧ q < 1000000000000000000 := by
            refine ⟨HQ.out.1, Int.lt_of_lt_of_le HQ.out.2 ?_⟩
            have : (10 : Int) ^ s.size ≤ 10 ^ 18 := by
              have := Nat.pow_le_pow_right (by decide : 0 < 10) (show s.size ≤ 18 by omega)
              exact_mod_cast this
            omega
          have hq0 := hq18.1
          have hq1 := hq18.2
          have HVQ := Lib.hid hvq
          clear hvq hq18 hval
          have hsn : sgnB s = q := by rw [HSG.out, if_neg (Nat.lt_irrefl _), HVQ.out]
          have HSN := Lib.hid hsn
          clear hsn
          by_cases he : decIB q = s
          · have ht := beq_yes he
            have hrr : readG s = (q, true) := by rw [HR.out, HVQ.out, if_neg (by omega), HSN.out, if_pos he]
            have HRR := Lib.hid hrr
            clear hrr he
            go_wp2_with (go_at_call 87; refine (decimal_any q _ (by omega) (by omega)).mono ?_; rintro e w2 ⟨rfl, b2⟩)
            go_ret2
            exact ⟨by rw [HRR.out]; rfl, b2⟩
          · have ht := beq_no he
            have hrr : readG s = (0, false) := by rw [HR.out, HVQ.out, if_neg (by omega), HSN.out, if_neg he]
            have HRR := Lib.hid hrr
            clear hrr he
            go_wp2_with (go_at_call 87; refine (decimal_any q _ (by omega) (by omega)).mono ?_; rintro e w2 ⟨rfl, b2⟩)
            go_ret2
            exact ⟨by rw [HRR.out]; rfl, b2⟩
  · have hd : digsB s = s := by unfold digsB; rw [dif_neg h0]
    have hz : s.size ≤ 0 := by omega
    have hr : readG s = (0, false) := by unfold readG; rw [hd, if_neg (by omega)]
    have HR := Lib.hid hr
    clear hd h0 hD2 hr
    go_enter Try.func61, Try.ntmps61
    go_wp2
    go_ret2
    exact ⟨by rw [HR.out]; rfl, Below.refl _ _⟩
theorem readG_bd (s : ByteArray) : -1000000000000000000 < (readG s).1 ∧ (readG s).1 < 1000000000000000000 := by
  unfold readG
  split
  · rename_i h
    split
    · simp
    · split
      · have hv : valG (digsB s) 0 0 = -1 ∨ Pow10 (valG (digsB s) 0 0) (digsB s).size := valG_range _ 0 0 rfl ⟨by decide, by decide⟩ (Nat.zero_le _)
        have hb : -1 ≤ valG (digsB s) 0 0 ∧ valG (digsB s) 0 0 < 1000000000000000000 := by
          rcases hv with hv | hv
          · omega
          · have : (10 : Int) ^ (digsB s).size ≤ 10 ^ 18 := by
              have := Nat.pow_le_pow_right (by decide : 0 < 10) h.2
              exact_mod_cast this
            have h1 := hv.1
            have h2 := hv.2
            omega
        unfold sgnB
        split <;> simp <;> omega
      · simp
  · simp
end Go.Proofs.Ytceobhmbnkheiaa
namespace Go.Proofs.Ytceobhmbnkheiaa
open Go.RowKit Go.Sort
def readsG : List ByteArray → List Int → List Int × Bool
  | [], acc => (acc, true)
  | x :: r, acc => if (readG x).2 = true then readsG r (acc ++ [(readG x).1]) else ([], false)
theorem readsG_step {l : List ByteArray} {acc : List Int} {k : Nat} (h : k < l.length) : readsG (l.drop k) acc = if (readG l[k]).2 = true then readsG (l.drop (k + 1)) (acc ++ [(readG l[k]).1]) else ([], false) := by
  rw [List.drop_eq_getElem_cons h]; rfl
theorem readsG_len : ∀ (l : List ByteArray) (acc : List Int), (readsG l acc).1.length ≤ acc.length + l.length
  | [], acc => by simp [readsG]
  | x :: r, acc => by
    unfold readsG
    split
    · have := readsG_len r (acc ++ [(readG x).1]); simp at this ⊢; omega
    · simp
/-- behind a word -/
def behindG (line word : ByteArray) : List Int × Bool := if (cuts line 32).getD 0 ⟨#[]⟩ = word then readsG ((cuts line 32).drop 1) [] else ([], false)
set_option maxHeartbeats 4000000 in
theorem numbersBehind_any (line word : ByteArray) (w : World) (hs : line.size ≤ 1048576) :
    Calls Try.prog 59 #[.string line, .string word] w fun e w' => ∃ v, e = .returned (tupVB v (behindG line word).2) ∧ OwnI w' w.heap.size v (behindG line word).1 ∧ Below w.heap.size w w' := by
  have hcl := cuts_lens line 32
  have hc1 := cuts_len line 32
  have hcs := hcl.2
  have hcl1 := hcl.1
  have hB : behindG line word = if (cuts line 32).getD 0 ⟨#[]⟩ = word then readsG ((cuts line 32).drop 1) [] else ([], false) := rfl
  generalize hL : cuts line 32 = L at hc1 hcs hcl1 hB
  have HL := Lib.hid hL
  have HSZ := Lib.hid hcs
  obtain ⟨m, hm⟩ : ∃ m, L.length = m + 1 := ⟨L.length - 1, by omega⟩
  have h0L : 0 < L.length := by omega
  have hx0 : L.getD 0 ⟨#[]⟩ = L[0]'h0L := by simp [h0L]
  rw [hx0] at hB
  have HM := Lib.hid hm
  clear hL hcl hcs hx0 hm
  by_cases he : L[0]'h0L = word
  · rw [if_pos he] at hB
    have HB := Lib.hid hB
    have ht := beq_yes he
    have htb : ∀ c : Nat, c = 1 ∨ ¬ c = 1 := fun c => Classical.em _
    generalize hx : L[0]'h0L = x at he ht
    have HX := Lib.hid hx
    clear he hB hx
    go_enter Try.func59, Try.ntmps59
    go_wp2_with fail
    refine (splitAt_any line 32 _ hs).mono ?_
    rintro e w1 ⟨v1, rfl, o1, b1⟩
    rw [HL.out] at o1
    rcases o1.forms with ⟨rfl, h0⟩ | ⟨g, c, rfl, hg, hg1, hgc, hgc2⟩
    · rw [h0] at hc1; simp at hc1
    unfold maxLen at hgc2
    have HS := Lib.hid (fun W (h : Below w1.heap.size w1 W) => o1.sl.below h)
    obtain ⟨b, off, hadr, _, gc⟩ := FS_get o1.sl (i := 0) (by omega)
    simp at hadr
    obtain ⟨rfl, rfl⟩ := hadr
    rw [HX.out] at gc
    simp only [Nat.add_zero] at gc
    have hmc := HM.out
    rw [hmc] at hgc HS ⊢
    have hm1 : m + 1 ≤ 1048577 := by omega
    clear o1 hmc hgc2 hcl1
    rcases htb c with hc | hc
    · subst hc
      obtain rfl : m = 0 := by omega
      go_wp2
      refine wp_loop_rounds 1 ?_
      rw [rounds_succ]
      go_wp2
      go_ret2
      have hB2 : behindG line word = ([], true) := by rw [HB.out, List.drop_of_length_le (by have := HM.out; omega)]; rfl
      exact ⟨_, by rw [hB2]; rfl, by rw [hB2]; exact (OwnI.empty _ (Nat.le_refl _)).lower b1.size, b1.alloc b1.size _⟩
    · go_wp2
      go_loopw [7, 9, 10, 11, 23] (fun v _ _ _ i wr => ∃ (k : Nat) (acc : List Int), k ≤ m ∧ i = .int .i64 k ∧ acc.length ≤ k ∧ Hid (readsG (L.drop 1) [] = readsG (L.drop (k + 1)) acc) ∧ OwnI wr w1.heap.size v acc ∧ Below w1.heap.size w1 wr) (fun _ _ _ _ i _ => m - (intOf i).toNat)
      case atStart => exact ⟨0, [], Nat.zero_le _, rfl, Nat.le_refl _, rfl, OwnI.empty _ (Nat.le_refl _), (Below.refl _ _).alloc (Nat.le_refl _) _⟩
      case round =>
        obtain ⟨k, acc, hk, rfl, hacc, hrd, hown, hbr⟩ := hrel
        have hbw := b1.trans (hbr.mono b1.size)
        by_cases hlt : k < m
        · obtain ⟨b, off, hadr, _, gc⟩ := FS_get (HS.out _ hbr) (i := k + 1) (by have := HM.out; omega)
          simp at hadr
          obtain ⟨rfl, rfl⟩ := hadr
          rw [show 0 + (k + 1) = 1 + k by omega] at gc
          have i1 : (k : Int) < (m : Int) := by omega
          have hz := HSZ.out _ (List.getElem_mem (show k + 1 < L.length by have := HM.out; omega))
          have hst := readsG_step (l := L) (acc := acc) (k := k + 1) (by have := HM.out; omega)
          generalize L[k + 1]'(by have := HM.out; omega) = y at gc hz hst
          generalize hry : readG y = R at hst
          obtain ⟨n, ok⟩ := R
          have HRY := Lib.hid hry
          have HST := Lib.hid hst
          have hwz := hbr.size
          clear hst hry
          cases ok
          · go_wp2_with (go_at_call 61; refine (readDecimal_any y _ (by omega)).mono ?_; rintro e w3 ⟨rfl, b3⟩; rw [HRY.out]; unfold tupNB)
            go_ret2
            have hB2 : behindG line word = ([], false) := by rw [HB.out, hrd.out, HST.out]; rfl
            exact ⟨_, by rw [hB2]; rfl, by rw [hB2]; exact OwnI.nil _ _, hbw.trans (b3.mono hbw.size)⟩
          · go_wp2_with (first
              | (go_at_call 61; refine (readDecimal_any y _ (by omega)).mono ?_; rintro e w3 ⟨rfl, b3⟩; rw [HRY.out]; unfold tupNB; have o3 := hown.below b3; have hb3 := hbr.trans (b3.mono hbr.size); have z3 := hb3.size)
              | (at_builtin; refine append_i64 _ _ _ _ rfl rfl rfl o3 rfl (by omega) (by omega) ?_))
            intro v' w4 o4 hb4 z4
            have hb5 : Below w1.heap.size w1 w4 := (hb3.alloc z3 _).trans hb4
            clear hown o3 b3 hb4
            go_wp2
            go_roundw
            case rel => exact ⟨k + 1, acc ++ [n], by omega, by go_num, by simp; omega, by unfold Hid at *; rw [hrd, HST]; rfl, o4, hb5⟩
            case measure => simp [intOf]; omega
        · obtain rfl : k = m := by omega
          go_wp2
          go_ret2
          have hB2 : behindG line word = (acc, true) := by rw [HB.out, hrd.out, List.drop_of_length_le (by have := HM.out; omega)]; rfl
          exact ⟨_, by rw [hB2]; rfl, by rw [hB2]; exact hown.lower b1.size, hbw⟩

  · rw [if_neg he] at hB
    have HB := Lib.hid hB
    have ht := beq_no he
    generalize hx : L[0]'h0L = x at he ht
    have HX := Lib.hid hx
    clear he hB hx
    go_enter Try.func59, Try.ntmps59
    go_wp2_with fail
    refine (splitAt_any line 32 _ hs).mono ?_
    rintro e w1 ⟨v1, rfl, o1, b1⟩
    rw [HL.out] at o1
    obtain ⟨la, lc, rfl, lm1, lm2, _⟩ := id o1.sl
    unfold maxLen at lm2
    obtain ⟨b, off, rfl, _, gc⟩ := FS_get o1.sl (i := 0) (by omega)
    rw [HX.out] at gc
    simp only [Nat.add_zero] at gc
    have i1 : (0 : Int) < (L.length : Int) := by omega
    have i1n : 0 < L.length := by omega
    go_wp2
    go_ret2
    exact ⟨_, by rw [HB.out]; rfl, by rw [HB.out]; exact OwnI.nil _ _, b1⟩
end Go.Proofs.Ytceobhmbnkheiaa
