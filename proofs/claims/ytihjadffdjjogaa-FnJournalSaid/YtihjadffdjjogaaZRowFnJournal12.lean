/-
  Plain laws: words of a text, digits of a number. With it: Texts of deeds. Texts: cut at a byte, numbers read. Numbers in decimal with a text between them. Numbers in decimal with a text between them; the text of a record. The text of a journal, both sides.
-/
import Derived.Test.YtihjadffdjjogaaZRowFnJournal3
import Derived.Test.YtihjadffdjjogaaZRowFnJournal10
import Derived.Lib.QuietBelow
import Derived.Test.YtihjadffdjjogaaZRowFnJournal9
import Derived.Test.YtihjadffdjjogaaZRowFnJournal4
import Derived.Deep.DeepCutAuto
set_option linter.unusedVariables false
set_option linter.unusedSimpArgs false
namespace Go.Proofs.Ytihjadffdjjogaa
open Go.RowKit Go.Sort
def deedTextB (k a : Int) : ByteArray := if deedOk k a = true then (if toldOf k = true then wordOf k ++ ⟨#[32]⟩ ++ decB a.natAbs else wordOf k) else ⟨#[]⟩
theorem deedOk_parts {k a : Int} (h : deedOk k a = true) : inR k 1 10 = true ∧ 0 ≤ a ∧ a ≤ 999 := by
  unfold deedOk at h
  rw [Bool.and_eq_true, Bool.and_eq_true] at h
  have := inR_iff.1 h.2.1
  exact ⟨h.1, this.1, this.2⟩
theorem wordOf_size (k : Int) : (wordOf k).size ≤ 7 := by
  unfold wordOf
  repeat (split; · decide)
  decide
theorem decIB_nat (n : Nat) : decIB n = decB n := by unfold decIB decI decB; rw [if_neg (by omega)]; rfl
theorem app_assoc (a b c : ByteArray) : a ++ (b ++ c) = a ++ b ++ c := by apply ByteArray.ext; simp only [ByteArray.data_append, Array.append_assoc]
end Go.Proofs.Ytihjadffdjjogaa
namespace Go.Proofs.Ytihjadffdjjogaa
open Go.RowKit

def FStr : Flat ByteArray := ⟨57, 9, .string ⟨#[]⟩, 1, 16, fun x => [.string x], Try.underlying57, by kernel_rfl, rfl, by decide, by decide, fun _ => rfl, by intro x u h; simp at h; subst h; rfl⟩
theorem FS_get {w : World} {ad : Option Addr} {n c : Nat} {xs : List ByteArray} (h : FStr.Sl w (.slice ad n c) xs) {i : Nat} (hi : i < xs.length) :
    ∃ b off, ad = some ⟨b, off, none⟩ ∧ b < w.heap.size ∧ w.cell? ⟨b, off + i, none⟩ = some (.string xs[i]) := by
  obtain ⟨b, off, h1, h2, h3⟩ := h.at_ hi
  refine ⟨b, off, h1, h2, ?_⟩
  have := h3 0 (.string xs[i]) rfl
  have e : off + (i * FStr.size + 0) = off + i := by show off + (i * 1 + 0) = off + i; omega
  rw [e] at this
  exact this

/-- from byte i on, with a word that begins at byte f -/
def cutG (s : ByteArray) (c : UInt8) (f i : Nat) : List ByteArray :=
  if h : i < s.size then (if s[i] = c then s.extract f i :: cutG s c (i + 1) (i + 1) else cutG s c f (i + 1)) else [s.extract f s.size]
termination_by s.size - i
def cuts (s : ByteArray) (c : UInt8) : List ByteArray := cutG s c 0 0
theorem cutG_yes {s : ByteArray} {c : UInt8} {f i : Nat} (h : i < s.size) (e : s[i] = c) : cutG s c f i = s.extract f i :: cutG s c (i + 1) (i + 1) := by
  rw [cutG, dif_pos h, if_pos e]
theorem cutG_no {s : ByteArray} {c : UInt8} {f i : Nat} (h : i < s.size) (e : ¬ s[i] = c) : cutG s c f i = cutG s c f (i + 1) := by
  rw [cutG, dif_pos h, if_neg e]
theorem cutG_end {s : ByteArray} {c : UInt8} {f i : Nat} (h : ¬ i < s.size) : cutG s c f i = [s.extract f s.size] := by
  rw [cutG, dif_neg h]
theorem u8_eq {a b : UInt8} : ((a.toNat : Int) = (b.toNat : Int)) ↔ a = b := by
  constructor
  · intro h; apply UInt8.toNat_inj.1; omega
  · intro h; rw [h]

set_option maxHeartbeats 1000000 in
theorem splitAt_any (s : ByteArray) (c : UInt8) (w : World) (hs : s.size ≤ 1048576) :
    Calls Try.prog 23 #[.string s, .int .u8 c.toNat] w fun e w' => ∃ v, e = .returned v ∧ FStr.Own w' w.heap.size v (cuts s c) ∧ Below w.heap.size w w' := by
  go_enter Try.func23, Try.ntmps23
  go_wp2
  go_loopw [5, 6, 7, 11] (fun v f _ i wr => ∃ (k ff : Nat) (L : List ByteArray), k ≤ s.size ∧ i = .int .i64 k ∧ ff ≤ k ∧ f = .int .i64 ff ∧ L.length ≤ k ∧ Hid (cuts s c = L ++ cutG s c ff k) ∧ FStr.Own wr w.heap.size v L ∧ Below w.heap.size w wr) (fun _ _ _ i _ => s.size - (intOf i).toNat)
  case atStart => exact ⟨0, 0, [], Nat.zero_le _, rfl, Nat.le_refl _, rfl, Nat.le_refl _, rfl, Flat.Own.empty _ (Nat.le_refl _), (Below.refl _ _).alloc (Nat.le_refl _) _⟩
  case round =>
    obtain ⟨k, ff, L, hk, rfl, hff, rfl, hL, hcut, hown, hbw⟩ := hrel
    have hsz := hbw.size
    by_cases hlt : k < s.size
    · have i1 : (k : Int) < (s.size : Int) := by omega
      have i2 : (ff : Int) ≤ (k : Int) := by omega
      by_cases he : s[k] = c
      · have ht : ((s[k].toNat : Int) == (c.toNat : Int)) = true := by rw [he]; simp
        have HE := Lib.hid he
        clear he
        go_wp2_with (at_builtin; refine Flat.append FStr _ _ _ (ys := [s.extract ff k]) rfl rfl rfl (hown.alloc _) rfl (rd_new _ _ _) (by simp; omega) (by simp; omega) ?_)
        intro v' w1 hown1 hg1 hb1
        have hb2 := (hbw.alloc hsz _).trans hb1
        clear hown hb1 hg1
        go_wp2
        go_roundw
        case rel => exact ⟨k + 1, k + 1, L ++ [s.extract ff k], by omega, by go_num, Nat.le_refl _, by go_num, by simp; omega, by unfold Hid at *; rw [hcut, cutG_yes hlt HE]; simp, hown1, hb2⟩
        case measure => simp [intOf]; omega
      · have ht : ((s[k].toNat : Int) == (c.toNat : Int)) = false := by simp only [beq_eq_false_iff_ne, ne_eq]; rw [u8_eq]; exact he
        have HE := Lib.hid he
        clear he
        go_wp2
        go_roundw
        case rel => exact ⟨k + 1, ff, L, by omega, by go_num, by omega, rfl, by omega, by unfold Hid at *; rw [hcut, cutG_no hlt HE], hown, hbw⟩
        case measure => simp [intOf]; omega
    · obtain rfl : k = s.size := by omega
      have i2 : (ff : Int) ≤ (s.size : Int) := by omega
      go_wp2_with (at_builtin; refine Flat.append FStr _ _ _ (ys := [s.extract ff s.size]) rfl rfl rfl (hown.alloc _) rfl (rd_new _ _ _) (by simp; omega) (by simp; omega) ?_)
      intro v' w1 hown1 hg1 hb1
      have hb2 := (hbw.alloc hsz _).trans hb1
      clear hown hb1 hg1
      go_wp2
      go_ret
      exact ⟨_, rfl, by rw [hcut.out, cutG_end (by omega)]; exact hown1, hb2⟩
/-- the value of digits behind a number; -1 if one is none -/
def valG (s : ByteArray) (a : Int) (i : Nat) : Int :=
  if h : i < s.size then (if 48 ≤ s[i].toNat ∧ s[i].toNat ≤ 57 then valG s (a * 10 + ((s[i].toNat : Int) - 48)) (i + 1) else -1) else a
termination_by s.size - i
theorem valG_yes {s : ByteArray} {a : Int} {i : Nat} (h : i < s.size) (e : 48 ≤ s[i].toNat ∧ s[i].toNat ≤ 57) : valG s a i = valG s (a * 10 + ((s[i].toNat : Int) - 48)) (i + 1) := by
  rw [valG, dif_pos h, if_pos e]
theorem valG_no {s : ByteArray} {a : Int} {i : Nat} (h : i < s.size) (e : ¬ (48 ≤ s[i].toNat ∧ s[i].toNat ≤ 57)) : valG s a i = -1 := by
  rw [valG, dif_pos h, if_neg e]
theorem valG_end {s : ByteArray} {a : Int} {i : Nat} (h : ¬ i < s.size) : valG s a i = a := by
  rw [valG, dif_neg h]
/-- the reference's number: one to nine digits, no idle 0 ahead -/
def numN (s : ByteArray) : Int := if h : 1 ≤ s.size ∧ s.size ≤ 9 then (if s[0].toNat = 48 ∧ 1 < s.size then -1 else valG s 0 0) else -1
def Pow10 (a : Int) (k : Nat) : Prop := 0 ≤ a ∧ a < 10 ^ k
theorem Pow10.next {a : Int} {k : Nat} (h : Pow10 a k) {d : Nat} (h1 : 48 ≤ d) (h2 : d ≤ 57) : Pow10 (a * 10 + ((d : Int) - 48)) (k + 1) := by
  obtain ⟨h3, h4⟩ := h
  refine ⟨by omega, ?_⟩
  rw [Int.pow_succ]
  have : a + 1 ≤ 10 ^ k := by omega
  have := Int.mul_le_mul_of_nonneg_right this (by decide : (0 : Int) ≤ 10)
  omega
theorem Pow10.le {a : Int} {k : Nat} (h : Pow10 a k) (hk : k ≤ 17) : 0 ≤ a ∧ a < 100000000000000000 := by
  refine ⟨h.1, Int.lt_of_lt_of_le h.2 ?_⟩
  have : (10 : Int) ^ k ≤ 10 ^ 17 := by
    have := Nat.pow_le_pow_right (by decide : 0 < 10) hk
    exact_mod_cast this
  omega
theorem valG_range {s : ByteArray} : ∀ (n i : Nat) (a : Int), s.size - i = n → Pow10 a i → i ≤ s.size → valG s a i = -1 ∨ Pow10 (valG s a i) s.size := by
  intro n
  induction n with
  | zero => intro i a h0 hp hi; right; rw [valG_end (by omega)]; have : i = s.size := by omega
            rw [← this]; exact hp
  | succ n ih =>
    intro i a h0 hp hi
    have hlt : i < s.size := by omega
    by_cases e : 48 ≤ s[i].toNat ∧ s[i].toNat ≤ 57
    · rw [valG_yes hlt e]; exact ih (i + 1) _ (by omega) (hp.next e.1 e.2) hlt
    · left; exact valG_no hlt e
theorem numN_range (s : ByteArray) : -1 ≤ numN s ∧ numN s < 1000000000 := by
  unfold numN
  split
  · rename_i h
    split
    · omega
    · rcases valG_range (s := s) _ 0 0 rfl ⟨by decide, by decide⟩ (Nat.zero_le _) with h2 | h2
      · rw [h2]; omega
      · have h3 : (10 : Int) ^ s.size ≤ 10 ^ 9 := by
          have := Nat.pow_le_pow_right (by decide : 0 < 10) h.2
          exact_mod_cast this
        have := h2.1
        have := h2.2
        omega
  · omega
/-- numbers of words; false if one is none -/
def numsG : List ByteArray → List Int → List Int × Bool
  | [], acc => (acc, true)
  | x :: r, acc => if numN x < 0 then (acc, false) else numsG r (acc ++ [numN x])
theorem numsG_step {l : List ByteArray} {acc : List Int} {k : Nat} (h : k < l.length) : numsG (l.drop k) acc = if numN l[k] < 0 then (acc, false) else numsG (l.drop (k + 1)) (acc ++ [numN l[k]]) := by
  rw [List.drop_eq_getElem_cons h]; rfl
def tupVB (v : Value) (b : Bool) : Value := .tuple #[v, .bool b]
end Go.Proofs.Ytihjadffdjjogaa
namespace Go.Proofs.Ytihjadffdjjogaa
open Go.RowKit Go.Sort

def joinFrom (b : ByteArray) : ByteArray → Bool → List ByteArray → ByteArray
  | acc, _, [] => acc
  | acc, f, x :: r => joinFrom b ((if f = true then acc else acc ++ b) ++ x) false r
def joinB (b : ByteArray) (l : List ByteArray) : ByteArray := joinFrom b ⟨#[]⟩ true l
def decsB (xs : List Int) (b : ByteArray) : ByteArray := joinB b (xs.map decIB)
theorem joinFrom_step {b acc : ByteArray} {f : Bool} {l : List ByteArray} {k : Nat} (h : k < l.length) : joinFrom b acc f (l.drop k) = joinFrom b ((if f = true then acc else acc ++ b) ++ l[k]) false (l.drop (k + 1)) := by
  rw [List.drop_eq_getElem_cons h]; rfl
theorem decIB_size {n : Int} (h0 : -9223372036854775808 ≤ n) (h1 : n ≤ 9223372036854775807) : (decIB n).size ≤ 20 := by
  have h : (decIB n).size = (decI n).length := by simp [decIB, ByteArray.size]
  rw [h]
  unfold decI
  have h2 := dec_length_le 18 n.natAbs (by omega)
  split
  · simp only [List.length_cons]; omega
  · omega

set_option maxHeartbeats 1000000 in
theorem joined_any {u : Value} {L : List ByteArray} (b : ByteArray) (w : World) (ha : FStr.Sl w u L) (hl : L.length ≤ 100000) (hs : ∀ x ∈ L, x.size ≤ 32) (hb : b.size ≤ 16) :
    Calls Try.prog 53 #[u, .string b] w fun e w' => e = .returned (.string (joinB b L)) ∧ w = w' := by
  have HA := Lib.hid ha
  obtain ⟨a, ca, rfl, hca, hca', _⟩ := ha
  unfold maxLen at hca'
  have HS := Lib.hid hs
  clear hs
  go_enter Try.func53, Try.ntmps53
  go_wp2
  go_loopw [5, 6, 7, 10] (fun o _ _ i wr => ∃ (k : Nat) (acc : ByteArray), k ≤ L.length ∧ i = .int .i64 k ∧ o = .string acc ∧ acc.size ≤ 48 * k ∧ Hid (joinB b L = joinFrom b acc (decide (k = 0)) (L.drop k)) ∧ wr = w) (fun _ _ _ i _ => L.length - (intOf i).toNat)
  case atStart => exact ⟨0, ⟨#[]⟩, Nat.zero_le _, rfl, rfl, Nat.le_refl _, rfl, rfl⟩
  case round =>
    obtain ⟨k, acc, hk, rfl, rfl, hsz, hj, rfl⟩ := hrel
    by_cases hlt : k < L.length
    · obtain ⟨bb, off, rfl, _, gc⟩ := FS_get HA.out hlt
      have i1 : (k : Int) < (L.length : Int) := by omega
      have hx := HS.out _ (List.getElem_mem hlt)
      have hst := joinFrom_step (b := b) (acc := acc) (f := decide (k = 0)) hlt
      generalize L[k] = x at gc hx hst
      have HST := Lib.hid hst
      clear hst
      by_cases h0 : k = 0
      · subst h0
        simp only [Nat.add_zero] at gc
        have z1 : ¬ 9223372036854775807 < acc.size + x.size := by omega
        go_wp2
        go_roundw
        case rel => exact ⟨1, acc ++ x, by omega, by go_num, rfl, by rw [ByteArray.size_append]; omega, by unfold Hid at *; rw [hj, HST]; rfl, trivial⟩
        case measure => simp [intOf]; omega
      · have h0' : 0 < k := by omega
        have h0i : (0 : Int) < (k : Int) := by omega
        have hd : decide (k = 0) = false := by simpa using h0
        have HD := Lib.hid hd
        have z1 : ¬ 9223372036854775807 < acc.size + b.size := by omega
        have z2 : ¬ 9223372036854775807 < acc.size + b.size + x.size := by omega
        clear hd h0
        go_wp2
        go_roundw
        case rel => exact ⟨k + 1, acc ++ b ++ x, by omega, by go_num, rfl, by rw [ByteArray.size_append, ByteArray.size_append]; omega, by unfold Hid at *; rw [hj, HST, HD]; rfl, trivial⟩
        case measure => simp [intOf]; omega
    · obtain rfl : k = L.length := by omega
      go_wp2
      go_ret
      exact ⟨rs (by rw [hj.out]; simp [joinFrom]), rfl⟩
def In64 (xs : List Int) : Prop := ∀ x ∈ xs, -9223372036854775808 ≤ x ∧ x ≤ 9223372036854775807
set_option maxHeartbeats 1000000 in
theorem decimals_any {u : Value} {xs : List Int} (b : ByteArray) (w : World) (ha : SlI w u xs) (hl : xs.length ≤ 100000) (hs : In64 xs) (hb : b.size ≤ 16) :
    Calls Try.prog 38 #[u, .string b] w fun e w' => e = .returned (.string (decsB xs b)) ∧ Below w.heap.size w w' := by
  have HA := Lib.hid (fun W (h : Below w.heap.size w W) => ha.below h)
  obtain ⟨a, ca, rfl, hca, hca', _⟩ := ha
  unfold maxLen at hca'
  have HS := Lib.hid hs
  clear hs
  go_enter Try.func38, Try.ntmps38
  go_wp2
  go_loopw [5, 7, 11] (fun v _ i wr => ∃ (k : Nat) (M : List ByteArray), k ≤ xs.length ∧ i = .int .i64 k ∧ Hid (M = (xs.take k).map decIB) ∧ M.length ≤ k ∧ FStr.Own wr w.heap.size v M ∧ Below w.heap.size w wr) (fun _ _ i _ => xs.length - (intOf i).toNat)
  case atStart => exact ⟨0, [], Nat.zero_le _, rfl, rfl, Nat.le_refl _, Flat.Own.empty _ (Nat.le_refl _), (Below.refl _ _).alloc (Nat.le_refl _) _⟩
  case round =>
    obtain ⟨k, M, hk, rfl, hM, hMl, hown, hbw⟩ := hrel
    by_cases hlt : k < xs.length
    · obtain ⟨bb, off, rfl, _, gc⟩ := (HA.out _ hbw).at_ hlt
      have i1 : (k : Int) < (xs.length : Int) := by omega
      have hx := HS.out _ (List.getElem_mem hlt)
      have hz := hbw.size
      go_wp2_with (first
        | (go_at_call 39; refine (decimal_any xs[k] _ hx.1 hx.2).mono ?_; rintro e w2 ⟨rfl, b2⟩; have o2 := hown.below b2; have hb2 := hbw.trans (b2.mono hbw.size); have z2 := hb2.size)
        | (at_builtin; refine Flat.append FStr _ _ _ (ys := [decIB xs[k]]) rfl rfl rfl (o2.alloc _) rfl (rd_new _ _ _) (by simp; omega) (by simp; omega) ?_))
      intro v' w3 o3 hg3 hb3
      have hb4 := (hb2.alloc z2 _).trans hb3
      clear hown hb3 hg3 o2 b2
      go_wp2
      go_roundw
      case rel => exact ⟨k + 1, M ++ [decIB xs[k]], by omega, by go_num, by unfold Hid at *; rw [hM, List.take_succ_eq_append_getElem hlt, List.map_append]; rfl, by simp; omega, o3, hb4⟩
      case measure => simp [intOf]; omega
    · obtain rfl : k = xs.length := by omega
      have s1 := hown.sl
      have hsz : ∀ x ∈ M, x.size ≤ 32 := by
        intro x hx
        have h2 := hM.out
        rw [h2] at hx
        simp at hx
        obtain ⟨y, hy, rfl⟩ := hx
        have := HS.out y hy
        have := decIB_size this.1 this.2
        omega
      have HSZ := Lib.hid hsz
      clear hsz
      go_wp2_with (go_at_call 53; refine (joined_any b _ s1 (by omega) HSZ.out hb).mono ?_; rintro e w' ⟨rfl, rfl⟩)
      go_ret
      exact ⟨rs (by unfold decsB; rw [hM.out, List.take_length]), hbw⟩

theorem decsB_two (s v : Nat) (b : ByteArray) : decsB [(s : Int), (v : Int)] b = decB s ++ b ++ decB v := by
  unfold decsB joinB
  simp only [List.map_cons, List.map_nil, joinFrom, if_true]
  rw [decIB_nat, decIB_nat]
  have e : (⟨#[]⟩ : ByteArray) ++ decB s = decB s := by apply ByteArray.ext; simp
  rw [e]; rfl
end Go.Proofs.Ytihjadffdjjogaa
namespace Go.Proofs.Ytihjadffdjjogaa
open Go.RowKit Go.Sort

/-- the line of a record, without its end -/
def recB (k : Int) (s v : Nat) : ByteArray :=
  if k = 1 then ⟨#[117, 112, 32]⟩ ++ (decB s ++ ⟨#[32]⟩ ++ decB v) else if k = 2 then ⟨#[103, 111, 116, 32]⟩ ++ (decB s ++ ⟨#[32]⟩ ++ decB v) else ⟨#[111, 117, 116, 32]⟩ ++ decB s
theorem recB_size {k : Int} {s v : Nat} (hs : s < 1000) (hv : v < 1000) : (recB k s v).size ≤ 16 := by
  have h1 := decB_size_le (k := 2) (n := s) hs
  have h2 := decB_size_le (k := 2) (n := v) hv
  unfold recB
  split
  · simp only [ByteArray.size_append]; show 3 + (_ + 1 + _) ≤ _; omega
  · split
    · simp only [ByteArray.size_append]; show 4 + (_ + 1 + _) ≤ _; omega
    · simp only [ByteArray.size_append]; show 4 + _ ≤ _; omega
theorem slI_lit (w : World) (cs : List Int) (t : Nat) (hl : cs.length ≤ maxLen) : SlI (w.alloc (.cells (i64s cs).toArray t)) (.slice (some ⟨w.heap.size, 0, none⟩) cs.length cs.length) cs := by
  refine ⟨_, _, rfl, Nat.le_refl _, hl, ?_⟩
  have := rd_new w (i64s cs).toArray t
  simpa using this
set_option maxHeartbeats 1000000 in
theorem recordText_any (k : Int) (s v : Nat) (w : World) (hk : k = 1 ∨ k = 2 ∨ k = 3) (hs : s < 1000) (hv : v < 1000) :
    Calls Try.prog 21 #[.agg #[.int .i64 k, .int .i64 s, .int .i64 v]] w fun e w' => e = .returned (.string (recB k s v)) ∧ Below w.heap.size w w' := by
  have h1 := decB_size_le (k := 2) (n := s) hs
  have h2 := decB_size_le (k := 2) (n := v) hv
  have hd : (decsB [(s : Int), (v : Int)] ⟨#[32]⟩).size ≤ 7 := by rw [decsB_two]; simp only [ByteArray.size_append]; show _ + 1 + _ ≤ _; omega
  have hin : In64 [(s : Int), (v : Int)] := by intro x hx; simp at hx; omega
  have hdi : (decIB (s : Int)).size ≤ 3 := by rw [decIB_nat]; omega
  have HIN := Lib.hid hin
  clear hin h1 h2
  rcases hk with rfl | rfl | rfl
  · have bx : Below w.heap.size w ((w.alloc (.cells #[.int .i64 1, .int .i64 s, .int .i64 v] 42)).alloc (.cells (i64s [(s : Int), (v : Int)]).toArray 2)) := ((Below.refl _ _).alloc (Nat.le_refl _) _).alloc (by simp) _
    have sl := slI_lit (w.alloc (.cells #[.int .i64 1, .int .i64 s, .int .i64 v] 42)) [(s : Int), (v : Int)] 2 (by simp [maxLen])
    simp only [World.size_alloc] at sl
    go_enter Try.func21, Try.ntmps21
    generalize hR : decsB [(s : Int), (v : Int)] ⟨#[32]⟩ = R at hd
    have HR := Lib.hid hR
    have z1 : ¬ 9223372036854775807 < 3 + R.size := by omega
    clear hR
    go_wp2_with fail
    refine (decimals_any _ _ sl (by simp) HIN.out (by decide)).mono ?_
    rintro e w2 ⟨rfl, b2⟩
    rw [HR.out]
    go_wp2
    go_ret
    exact ⟨rs (by rw [← HR.out, decsB_two]; rfl), bx.trans (b2.mono bx.size)⟩
  · have bx : Below w.heap.size w ((w.alloc (.cells #[.int .i64 2, .int .i64 s, .int .i64 v] 42)).alloc (.cells (i64s [(s : Int), (v : Int)]).toArray 2)) := ((Below.refl _ _).alloc (Nat.le_refl _) _).alloc (by simp) _
    have sl := slI_lit (w.alloc (.cells #[.int .i64 2, .int .i64 s, .int .i64 v] 42)) [(s : Int), (v : Int)] 2 (by simp [maxLen])
    simp only [World.size_alloc] at sl
    go_enter Try.func21, Try.ntmps21
    generalize hR : decsB [(s : Int), (v : Int)] ⟨#[32]⟩ = R at hd
    have HR := Lib.hid hR
    have z1 : ¬ 9223372036854775807 < 4 + R.size := by omega
    clear hR
    go_wp2_with fail
    refine (decimals_any _ _ sl (by simp) HIN.out (by decide)).mono ?_
    rintro e w2 ⟨rfl, b2⟩
    rw [HR.out]
    go_wp2
    go_ret
    exact ⟨rs (by rw [← HR.out, decsB_two]; rfl), bx.trans (b2.mono bx.size)⟩
  · have bx : Below w.heap.size w (w.alloc (.cells #[.int .i64 3, .int .i64 s, .int .i64 v] 42)) := (Below.refl _ _).alloc (Nat.le_refl _) _
    go_enter Try.func21, Try.ntmps21
    generalize hR : decIB (s : Int) = R at hdi
    have HR := Lib.hid hR
    have z1 : ¬ 9223372036854775807 < 4 + R.size := by omega
    clear hR
    go_wp2_with fail
    refine (decimal_any _ _ (by omega) (by omega)).mono ?_
    rintro e w2 ⟨rfl, b2⟩
    rw [HR.out]
    go_wp2
    go_ret
    exact ⟨rs (by rw [← HR.out, decIB_nat]; rfl), bx.trans (b2.mono bx.size)⟩
end Go.Proofs.Ytihjadffdjjogaa
namespace Go.Proofs.Ytihjadffdjjogaa
open Go.RowKit Go.Sort
def ixR (p : Int × Int × Int → Bool) : List (Int × Int × Int) → Nat → Int
  | [], _ => -1
  | x :: r, k => if p x = true then (k : Int) else ixR p r (k + 1)
theorem ixR_any (p : Int × Int × Int → Bool) : ∀ (l : List (Int × Int × Int)) (k : Nat), decide (0 ≤ ixR p l k) = l.any p
  | [], k => by simp [ixR]
  | x :: r, k => by
    unfold ixR
    by_cases h : p x = true
    · rw [if_pos h]; simp [h]
    · rw [if_neg h, ixR_any p r (k + 1)]; simp [h]
theorem ixR_step {p : Int × Int × Int → Bool} {l : List (Int × Int × Int)} {k : Nat} (h : k < l.length) : ixR p (l.drop k) k = if p l[k] = true then (k : Int) else ixR p (l.drop (k + 1)) (k + 1) := by
  rw [List.drop_eq_getElem_cons h]; rfl
theorem ixR_bd (p : Int × Int × Int → Bool) : ∀ (l : List (Int × Int × Int)) (k : Nat), -1 ≤ ixR p l k ∧ ixR p l k < k + l.length
  | [], k => by simp [ixR]; omega
  | x :: r, k => by
    unfold ixR
    have := ixR_bd p r (k + 1)
    split
    · simp; omega
    · simp at this ⊢; omega
set_option maxHeartbeats 1000000 in
theorem IndexFuncR_any {u : Value} {xs : List (Int × Int × Int)} (cap : Value) (p : Int × Int × Int → Bool) (w : World) (ha : FRecord.Sl w u xs)
    (hf : ∀ W (x : Int × Int × Int), Below w.heap.size w W → x ∈ xs → Calls Try.prog 37 #[.agg #[.int .i64 x.1, .int .i64 x.2.1, .int .i64 x.2.2], cap] W fun e w' => e = .returned (.bool (p x)) ∧ Below W.heap.size W w') :
    Calls Try.prog 52 #[u, .func (.func 37) #[] #[cap]] w fun e w' => e = .returned (.int .i64 (ixR p xs 0)) ∧ Below w.heap.size w w' := by
  have HA := Lib.hid (fun W (h : Below w.heap.size w W) => ha.below h)
  obtain ⟨a, ca, rfl, hca, hca', _⟩ := ha
  unfold maxLen at hca'
  have HF := Lib.hid hf
  clear hf
  go_enter Try.func52, Try.ntmps52
  go_wp2
  go_loopw [5, 8] (fun _ i wr => ∃ k : Nat, k ≤ xs.length ∧ i = .int .i64 k ∧ Hid (ixR p xs 0 = ixR p (xs.drop k) k) ∧ Below w.heap.size w wr) (fun _ i _ => xs.length - (intOf i).toNat)
  case atStart => exact ⟨0, Nat.zero_le _, rfl, rfl, Below.refl _ _⟩
  case round =>
    obtain ⟨k, hk, rfl, hno, hbw⟩ := hrel
    by_cases hlt : k < xs.length
    · obtain ⟨b, off, rfl, _, c0, c1, c2⟩ := FRecord_at (HA.out _ hbw) hlt
      have i1 : (k : Int) < (xs.length : Int) := by omega
      have hst := ixR_step (p := p) hlt
      have HS := Lib.hid hst
      clear hst
      generalize hp : p xs[k] = P
      have HP := Lib.hid hp
      clear hp
      cases P
      · go_wp2_with fail
        refine (HF.out _ xs[k] hbw (List.getElem_mem hlt)).mono ?_
        rintro e w2 ⟨rfl, b2⟩
        rw [HP.out]
        have bq := hbw.trans (b2.mono hbw.size)
        go_wp2
        go_roundw
        case rel => exact ⟨k + 1, by omega, by go_num, by unfold Hid at *; rw [hno, HS, HP]; rfl, bq⟩
        case measure => simp [intOf]; omega
      · go_wp2_with fail
        refine (HF.out _ xs[k] hbw (List.getElem_mem hlt)).mono ?_
        rintro e w2 ⟨rfl, b2⟩
        rw [HP.out]
        have bq := hbw.trans (b2.mono hbw.size)
        go_wp2
        go_ret
        exact ⟨ri (by rw [hno.out, HS.out, HP.out]; rfl), bq⟩
    · obtain rfl : k = xs.length := by omega
      go_wp2
      go_ret
      exact ⟨ri (by rw [hno.out]; simp [ixR]), hbw⟩
set_option maxHeartbeats 400000 in
theorem ContainsFuncR_any {u : Value} {xs : List (Int × Int × Int)} (cap : Value) (p : Int × Int × Int → Bool) (w : World) (ha : FRecord.Sl w u xs)
    (hf : ∀ W (x : Int × Int × Int), Below w.heap.size w W → x ∈ xs → Calls Try.prog 37 #[.agg #[.int .i64 x.1, .int .i64 x.2.1, .int .i64 x.2.2], cap] W fun e w' => e = .returned (.bool (p x)) ∧ Below W.heap.size W w') :
    Calls Try.prog 36 #[u, .func (.func 37) #[] #[cap]] w fun e w' => e = .returned (.bool (xs.any p)) ∧ Below w.heap.size w w' := by
  have hx := ixR_any p xs 0
  obtain ⟨hb0, hb1⟩ := ixR_bd p xs 0
  obtain ⟨a, ca, rfl, hca, hca', _⟩ := id ha
  unfold maxLen at hca'
  have HF := Lib.hid hf
  have HX := Lib.hid hx
  clear hf hx
  go_enter Try.func36, Try.ntmps36
  go_wp2_with fail
  refine (IndexFuncR_any cap p _ ha HF.out).mono ?_
  rintro e w2 ⟨rfl, b2⟩
  go_wp2
  go_ret
  exact ⟨rb HX.out, b2⟩

set_option maxHeartbeats 1000000 in
theorem recClosure_any {v : Value} {xss : List (List Int)} (b : Nat) (s t bs sm wk : Int) (x : Int × Int × Int) (w : World) (hc : ServAt w b 0 s t v bs sm wk) (ha : SlII w v xss) (h1 : 1 ≤ sm) (h2 : sm ≤ 8) (h3 : 1 ≤ s) (h4 : s ≤ 6) :
    Calls Try.prog 37 #[.agg #[.int .i64 x.1, .int .i64 x.2.1, .int .i64 x.2.2], .pointer (some ⟨b, 0, none⟩)] w fun e w' => e = .returned (.bool (!recOk s sm x.1 x.2.1 x.2.2)) ∧ Below w.heap.size w w' := by
  obtain ⟨a, ca, us, rfl, _⟩ := id ha
  have bx : Below w.heap.size w (w.alloc (.cells #[.int .i64 x.1, .int .i64 x.2.1, .int .i64 x.2.2] 42)) := (Below.refl _ _).alloc (Nat.le_refl _) _
  obtain ⟨⟨_, c0, c1, c2⟩, c3, c4, c5⟩ := hc.below bx
  simp only [Nat.zero_add] at c0 c1 c2 c3 c4 c5
  clear ha hc
  go_enter Try.func37, Try.ntmps37
  go_wp2_with fail
  refine (validRecord_any s t bs sm wk x.1 x.2.1 x.2.2 _ h1 h2 h3 h4).mono ?_
  rintro e w2 ⟨rfl, b2⟩
  go_wp2
  go_ret
  exact ⟨rfl, bx.trans (b2.mono bx.size)⟩

def recsOk (s sm : Int) (xs : List (Int × Int × Int)) : Bool := !(xs.any fun x => !recOk s sm x.1 x.2.1 x.2.2)
def validRecsB (s t : Int) (xss : List (List Int)) (bs sm wk : Int) (xs : List (Int × Int × Int)) : Bool := serviceOk s t xss bs sm wk && recsOk s sm xs
theorem service_bds {s t : Int} {xss : List (List Int)} {bs sm wk : Int} (h : serviceOk s t xss bs sm wk = true) : 1 ≤ s ∧ s ≤ 6 ∧ 1 ≤ sm ∧ sm ≤ 8 ∧ 1 ≤ wk ∧ wk ≤ 4 ∧ 0 ≤ bs ∧ bs ≤ 999999992 := by
  unfold serviceOk at h
  rw [Bool.and_eq_true, Bool.and_eq_true, Bool.and_eq_true] at h
  have h1 := (chainOk_parts h.1).1
  have h2 := inR_iff.1 h.2.1
  have h3 := inR_iff.1 h.2.2.1
  have h4 := inR_iff.1 h.2.2.2
  omega
set_option maxHeartbeats 2000000 in
theorem validRecords_any {v rv : Value} {xss : List (List Int)} {xs : List (Int × Int × Int)} (s t bs sm wk : Int) (w : World) (ha : SlII w v xss) (hr : FRecord.Sl w rv xs) :
    Calls Try.prog 20 #[.agg #[.int .i64 s, .int .i64 t, v, .int .i64 bs, .int .i64 sm, .int .i64 wk], rv] w fun e w' => e = .returned (.bool (validRecsB s t xss bs sm wk xs)) ∧ Below w.heap.size w w' := by
  have hmf : ∀ (fn : Fn) (first cap : Array Value) (w : World), (Instr.makeFunc fn first cap).run Try.prog w = .ok (.func fn first cap) w := fun _ _ _ _ => rfl
  have HA := Lib.hid (fun W (h : Below w.heap.size w W) => ha.below h)
  have HR := Lib.hid (fun W (h : Below w.heap.size w W) => hr.below h)
  obtain ⟨a, ca, us, rfl, _, _, _, _, _⟩ := ha
  obtain ⟨ra, rc, rfl, _⟩ := hr
  have bx : Below w.heap.size w (w.alloc (svObj s t (.slice a xss.length ca) bs sm wk)) := (Below.refl _ _).alloc (Nat.le_refl _) _
  have X := Lib.hid (svBox w s t (.slice a xss.length ca) bs sm wk)
  generalize hv : serviceOk s t xss bs sm wk = V
  have HV := Lib.hid hv
  cases V
  · clear hv
    go_enter Try.func20, Try.ntmps20
    go_wp2_with fail
    refine (ImplValidService_any s t bs sm wk _ (HA.out _ bx)).mono ?_
    rintro e w1 ⟨rfl, b1⟩
    rw [HV.out]
    go_wp2
    go_ret
    exact ⟨rb (by unfold validRecsB; rw [HV.out]; rfl), bx.trans (b1.mono bx.size)⟩
  · obtain ⟨h1, h2, h3, h4, _⟩ := service_bds hv
    clear hv
    go_enter Try.func20, Try.ntmps20
    go_wp2_with fail
    refine (ImplValidService_any s t bs sm wk _ (HA.out _ bx)).mono ?_
    rintro e w1 ⟨rfl, b1⟩
    rw [HV.out]
    have hb1 := bx.trans (b1.mono bx.size)
    have X1 := Lib.hid (X.out.below b1)
    clear b1
    go_wp2_with fail
    refine (ContainsFuncR_any _ (fun x => !recOk s sm x.1 x.2.1 x.2.2) _ (HR.out _ hb1) (fun W x hW _ => recClosure_any w.heap.size s t bs sm wk x W (X1.out.below hW) (HA.out _ (hb1.trans (hW.mono hb1.size))) h3 h4 h1 h2)).mono ?_
    rintro e w2 ⟨rfl, b2⟩
    go_wp2
    go_ret
    exact ⟨rb (by unfold validRecsB recsOk; rw [HV.out]; rfl), hb1.trans (b2.mono hb1.size)⟩

/-- a right record is one of three kinds, with small numbers -/
theorem recOk_nat {s sm k x v : Int} (h : recOk s sm k x v = true) (h2 : sm ≤ 8) (h4 : s ≤ 6) : (k = 1 ∨ k = 2 ∨ k = 3) ∧ ∃ a b : Nat, x = (a : Int) ∧ v = (b : Int) ∧ a < 1000 ∧ b < 1000 := by
  unfold recOk at h
  rw [Bool.and_eq_true] at h
  obtain ⟨ha, hb⟩ := h
  have hx := inR_iff.1 ha
  obtain ⟨a, rfl⟩ := Int.eq_ofNat_of_zero_le hx.1
  have hv : (k = 1 ∨ k = 2 ∨ k = 3) ∧ 0 ≤ v ∧ v ≤ 7 := by
    split at hb
    · rename_i hk; have := inR_iff.1 hb; omega
    · split at hb
      · rename_i hk; have := inR_iff.1 hb; omega
      · split at hb
        · rename_i hk; have := of_decide_eq_true hb; omega
        · simp at hb
  obtain ⟨b, rfl⟩ := Int.eq_ofNat_of_zero_le hv.2.1
  exact ⟨hv.1, a, b, rfl, rfl, by omega, by omega⟩
/-- lines behind a text -/
def linesR (acc : ByteArray) : List (Int × Int × Int) → ByteArray
  | [] => acc
  | x :: r => linesR (acc ++ (recB x.1 x.2.1.toNat x.2.2.toNat ++ ⟨#[10]⟩)) r
theorem linesR_step {acc : ByteArray} {l : List (Int × Int × Int)} {k : Nat} (h : k < l.length) : linesR acc (l.drop k) = linesR (acc ++ (recB l[k].1 l[k].2.1.toNat l[k].2.2.toNat ++ ⟨#[10]⟩)) (l.drop (k + 1)) := by
  rw [List.drop_eq_getElem_cons h]; rfl
def jTextB (s t : Int) (xss : List (List Int)) (bs sm wk : Int) (xs : List (Int × Int × Int)) : ByteArray := if validRecsB s t xss bs sm wk xs = true then linesR ⟨#[]⟩ xs else ⟨#[]⟩
theorem recsOk_at {s sm : Int} {xs : List (Int × Int × Int)} (h : recsOk s sm xs = true) {k : Nat} (hk : k < xs.length) : recOk s sm xs[k].1 xs[k].2.1 xs[k].2.2 = true := by
  unfold recsOk at h
  simp at h
  exact h _ _ _ (List.getElem_mem hk)
set_option maxHeartbeats 2000000 in
theorem ImplJournalText_any {v rv : Value} {xss : List (List Int)} {xs : List (Int × Int × Int)} (s t bs sm wk : Int) (w : World) (ha : SlII w v xss) (hr : FRecord.Sl w rv xs) (hl : xs.length ≤ 1048576) :
    Calls Try.prog 7 #[.agg #[.int .i64 s, .int .i64 t, v, .int .i64 bs, .int .i64 sm, .int .i64 wk], rv] w fun e w' => e = .returned (.string (jTextB s t xss bs sm wk xs)) ∧ Below w.heap.size w w' := by
  have HA := Lib.hid (fun W (h : Below w.heap.size w W) => ha.below h)
  have HR := Lib.hid (fun W (h : Below w.heap.size w W) => hr.below h)
  obtain ⟨a, ca, us, rfl, _, _, _, _, _⟩ := ha
  obtain ⟨ra, rc, rfl, _⟩ := hr
  have bx : Below w.heap.size w (w.alloc (svObj s t (.slice a xss.length ca) bs sm wk)) := (Below.refl _ _).alloc (Nat.le_refl _) _
  generalize hv : validRecsB s t xss bs sm wk xs = V
  have HV := Lib.hid hv
  cases V
  · clear hv
    go_enter Try.func7, Try.ntmps7
    go_wp2_with fail
    refine (validRecords_any s t bs sm wk _ (HA.out _ bx) (HR.out _ bx)).mono ?_
    rintro e w1 ⟨rfl, b1⟩
    rw [HV.out]
    go_wp2
    go_ret
    exact ⟨rs (by unfold jTextB; rw [HV.out]; rfl), bx.trans (b1.mono bx.size)⟩
  · have hv2 := hv
    unfold validRecsB at hv2
    rw [Bool.and_eq_true] at hv2
    obtain ⟨h1, h2, h3, h4, _⟩ := service_bds hv2.1
    have HOK := Lib.hid hv2.2
    have hj : jTextB s t xss bs sm wk xs = linesR ⟨#[]⟩ xs := by unfold jTextB; rw [hv]; rfl
    have HJ := Lib.hid hj
    clear hv hv2 hj
    go_enter Try.func7, Try.ntmps7
    go_wp2_with fail
    refine (validRecords_any s t bs sm wk _ (HA.out _ bx) (HR.out _ bx)).mono ?_
    rintro e w1 ⟨rfl, b1⟩
    rw [HV.out]
    have hb1 := bx.trans (b1.mono bx.size)
    clear b1
    go_wp2
    go_loopw [5, 7, 14] (fun o _ i wr => ∃ (k : Nat) (acc : ByteArray), k ≤ xs.length ∧ i = .int .i64 k ∧ o = .string acc ∧ acc.size ≤ 32 * k ∧ Hid (linesR ⟨#[]⟩ xs = linesR acc (xs.drop k)) ∧ Below w.heap.size w wr) (fun _ _ i _ => xs.length - (intOf i).toNat)
    case atStart => exact ⟨0, ⟨#[]⟩, Nat.zero_le _, rfl, rfl, Nat.le_refl _, rfl, hb1⟩
    case round =>
      obtain ⟨k, acc, hk, rfl, rfl, hsz, hln, hbw⟩ := hrel
      by_cases hlt : k < xs.length
      · obtain ⟨b, off, rfl, _, c0, c1, c2⟩ := FRecord_at (HR.out _ hbw) hlt
        have i1 : (k : Int) < (xs.length : Int) := by omega
        obtain ⟨hkk, x, y, hx, hy, hx1, hy1⟩ := recOk_nat (recsOk_at HOK.out hlt) h4 h2
        have hst := linesR_step (acc := acc) hlt
        rw [hx, hy] at hst
        simp only [Int.toNat_natCast] at hst
        rw [hx] at c1
        rw [hy] at c2
        generalize xs[k].1 = kd at hst hkk c0
        have hrz := recB_size (k := kd) hx1 hy1
        have HST := Lib.hid hst
        have HKK := Lib.hid hkk
        have z1 : ¬ 9223372036854775807 < (recB kd x y).size + 1 := by omega
        have z2 : ¬ 9223372036854775807 < acc.size + ((recB kd x y).size + 1) := by omega
        have hbx : Below w.heap.size w (wr.alloc (.cells #[.int .i64 kd, .int .i64 x, .int .i64 y] 42)) := hbw.alloc hbw.size _
        clear hst hkk hx hy
        go_wp2_with (go_at_call 21; refine (recordText_any kd x y _ HKK.out hx1 hy1).mono ?_; rintro e w3 ⟨rfl, b3⟩)
        go_roundw
        case rel => exact ⟨k + 1, _, by omega, by go_num, rfl, by rw [ByteArray.size_append, ByteArray.size_append]; show _ + (_ + 1) ≤ _; omega, by unfold Hid at *; rw [hln, HST], hbx.trans (b3.mono hbx.size)⟩
        case measure => simp [intOf]; omega
      · obtain rfl : k = xs.length := by omega
        go_wp2
        go_ret
        exact ⟨rs (by rw [HJ.out, hln.out]; simp [linesR]), hbw⟩

theorem any_atR {p : Int × Int × Int → Bool} {l : List (Int × Int × Int)} {k : Nat} (hk : k < l.length) (he : p l[k] = true) : l.any p = true := by
  rw [List.any_eq_true]; exact ⟨_, List.getElem_mem hk, he⟩
theorem any_takeR {p : Int × Int × Int → Bool} {l : List (Int × Int × Int)} {k : Nat} (h : (l.take k).any p = false) (hk : k < l.length) (he : p l[k] = false) : (l.take (k + 1)).any p = false := by
  rw [List.take_succ_eq_append_getElem hk, List.any_append, h]; simp [he]
end Go.Proofs.Ytihjadffdjjogaa
namespace Go.Proofs.Ytihjadffdjjogaa
open Go.RowKit

def mkB (l : List UInt8) : ByteArray := ⟨l.toArray⟩
theorem mkB_toList (s : ByteArray) : mkB s.data.toList = s := by cases s; rfl
theorem mkB_data (l : List UInt8) : (mkB l).data.toList = l := rfl
theorem mkB_inj {a b : List UInt8} (h : mkB a = mkB b) : a = b := by
  have := congrArg (fun s : ByteArray => s.data.toList) h
  simpa [mkB] using this
theorem mkB_append (a b : List UInt8) : mkB (a ++ b) = mkB a ++ mkB b := by apply ByteArray.ext; simp [mkB]
theorem app_list (a b : ByteArray) : (a ++ b).data.toList = a.data.toList ++ b.data.toList := by simp
theorem len_data (s : ByteArray) : s.data.toList.length = s.size := Array.length_toList
theorem head_app {l r : List UInt8} (h : l ≠ []) : (l ++ r).head? = l.head? := by cases l with
  | nil => exact absurd rfl h
  | cons x q => rfl
theorem bext {a b : ByteArray} (h : a.data.toList = b.data.toList) : a = b := by rw [← mkB_toList a, ← mkB_toList b, h]

/-- words of bytes, the first of which begins with pre -/
def wordsL (c : UInt8) (pre : List UInt8) : List UInt8 → List (List UInt8)
  | [] => [pre]
  | x :: r => if x = c then pre :: wordsL c [] r else wordsL c (pre ++ [x]) r
theorem extract_eq (s : ByteArray) (f i : Nat) : s.extract f i = mkB ((s.data.toList.drop f).take (i - f)) := by
  apply bext
  simp [mkB, ByteArray.data_extract, Array.toList_extract, List.extract_eq_take_drop]
theorem cutG_eq (s : ByteArray) (c : UInt8) : ∀ (n f i : Nat), s.size - i = n → f ≤ i → i ≤ s.size →
    cutG s c f i = (wordsL c ((s.data.toList.drop f).take (i - f)) (s.data.toList.drop i)).map mkB := by
  intro n
  induction n with
  | zero =>
    intro f i h0 hf hi
    have h1 : i = s.size := by omega
    subst h1
    have hl := len_data s
    have e : s.data.toList.drop s.size = [] := List.drop_of_length_le (by omega)
    rw [cutG_end (by omega), e, extract_eq]
    rfl
  | succ n ih =>
    intro f i h0 hf hi
    have hlt : i < s.size := by omega
    have hl := len_data s
    have hd : s.data.toList.drop i = s[i] :: s.data.toList.drop (i + 1) := by
      rw [List.drop_eq_getElem_cons (by omega)]; rfl
    by_cases e : s[i] = c
    · rw [cutG_yes hlt e, hd]
      unfold wordsL
      rw [if_pos e, List.map_cons, ih (i + 1) (i + 1) (by omega) (Nat.le_refl _) hlt, extract_eq]
      simp
    · rw [cutG_no hlt e, hd]
      unfold wordsL
      rw [if_neg e, ih f (i + 1) (by omega) (by omega) hlt]
      have h2 : (s.data.toList.drop f).take (i + 1 - f) = (s.data.toList.drop f).take (i - f) ++ [s[i]] := by
        have h3 : i + 1 - f = (i - f) + 1 := by omega
        rw [h3, List.take_succ_eq_append_getElem (by simp; omega)]
        congr 1
        simp
        have : f + (i - f) = i := by omega
        simp [this]; rfl
      rw [h2]
theorem cuts_eq (s : ByteArray) (c : UInt8) : cuts s c = (wordsL c [] s.data.toList).map mkB := by
  unfold cuts
  rw [cutG_eq s c _ 0 0 rfl (Nat.le_refl _) (Nat.zero_le _)]
  simp
theorem wordsL_no {c : UInt8} : ∀ (l pre : List UInt8), c ∉ l → wordsL c pre l = [pre ++ l]
  | [], pre, _ => by simp [wordsL]
  | x :: r, pre, h => by
    unfold wordsL
    rw [if_neg (by intro e; exact h (by simp [e])), wordsL_no r (pre ++ [x]) (fun hr => h (by simp [hr]))]
    simp
theorem wordsL_app {c : UInt8} : ∀ (l pre r : List UInt8), c ∉ l → wordsL c pre (l ++ c :: r) = (pre ++ l) :: wordsL c [] r
  | [], pre, r, _ => by
    show (if c = c then pre :: wordsL c [] r else _) = _
    rw [if_pos rfl, List.append_nil]
  | x :: l, pre, r, h => by
    show (if x = c then pre :: wordsL c [] (l ++ c :: r) else wordsL c (pre ++ [x]) (l ++ c :: r)) = _
    rw [if_neg (by intro e; exact h (by simp [e])), wordsL_app l (pre ++ [x]) r (fun hr => h (by simp [hr]))]
    simp
/-- words put together again -/
def unwords (c : UInt8) : List (List UInt8) → List UInt8
  | [] => []
  | [w] => w
  | w :: v :: r => w ++ c :: unwords c (v :: r)
theorem wordsL_ne (c : UInt8) : ∀ (l pre : List UInt8), wordsL c pre l ≠ []
  | [], pre => by simp [wordsL]
  | x :: r, pre => by
    unfold wordsL
    split
    · simp
    · exact wordsL_ne c r _
theorem unwords_wordsL (c : UInt8) : ∀ (l pre : List UInt8), unwords c (wordsL c pre l) = pre ++ l
  | [], pre => by simp [wordsL, unwords]
  | x :: r, pre => by
    unfold wordsL
    by_cases e : x = c
    · rw [if_pos e]
      have h1 := unwords_wordsL c r []
      have h2 := wordsL_ne c r []
      cases hw : wordsL c [] r with
      | nil => exact absurd hw h2
      | cons v q =>
        rw [hw] at h1
        unfold unwords
        rw [h1, e]; simp
    · rw [if_neg e, unwords_wordsL c r (pre ++ [x])]; simp
theorem cuts_one {s : ByteArray} {c : UInt8} (h : c ∉ s.data.toList) : cuts s c = [s] := by
  rw [cuts_eq, wordsL_no _ _ h]; simp [mkB_toList]
theorem cuts_app {x y : ByteArray} {c : UInt8} (h : c ∉ x.data.toList) : cuts (x ++ (mkB [c] ++ y)) c = x :: cuts y c := by
  rw [cuts_eq, cuts_eq, app_list, app_list, mkB_data, List.singleton_append, wordsL_app _ _ _ h]
  simp [mkB_toList]
theorem cuts_len (s : ByteArray) (c : UInt8) : 1 ≤ (cuts s c).length := by
  rw [cuts_eq, List.length_map]
  have := wordsL_ne c s.data.toList []
  cases hw : wordsL c [] s.data.toList with
  | nil => exact absurd hw this
  | cons v q => simp
theorem wordsL_lens (c : UInt8) : ∀ (l pre : List UInt8), (wordsL c pre l).length ≤ l.length + 1 ∧ ∀ w ∈ wordsL c pre l, w.length ≤ pre.length + l.length
  | [], pre => by simp [wordsL]
  | x :: r, pre => by
    unfold wordsL
    split
    · have h := wordsL_lens c r []
      refine ⟨by simp; omega, fun w hw => ?_⟩
      simp at hw
      rcases hw with rfl | hw
      · omega
      · have := h.2 w hw; simp at this ⊢; omega
    · have h := wordsL_lens c r (pre ++ [x])
      refine ⟨by simp; omega, fun w hw => ?_⟩
      have := h.2 w hw
      simp at this ⊢; omega
theorem cuts_lens (s : ByteArray) (c : UInt8) : (cuts s c).length ≤ s.size + 1 ∧ ∀ w ∈ cuts s c, w.size ≤ s.size := by
  have hl := len_data s
  have h := wordsL_lens c s.data.toList []
  rw [cuts_eq]
  refine ⟨by simp; omega, fun w hw => ?_⟩
  simp at hw
  obtain ⟨l, hl2, rfl⟩ := hw
  have := h.2 l hl2
  have e : (mkB l).size = l.length := by simp [mkB, ByteArray.size]
  simp at this
  omega
/-- what words say of the text -/
theorem cuts_back1 {s x : ByteArray} {c : UInt8} (h : cuts s c = [x]) : s = x := by
  rw [cuts_eq] at h
  have h2 := unwords_wordsL c s.data.toList []
  cases hw : wordsL c [] s.data.toList with
  | nil => rw [hw] at h; simp at h
  | cons v q =>
    rw [hw] at h h2
    simp at h
    obtain ⟨rfl, rfl⟩ := h
    simp [unwords] at h2
    rw [h2, mkB_toList]
theorem cuts_back2 {s x y : ByteArray} {c : UInt8} (h : cuts s c = [x, y]) : s = x ++ (mkB [c] ++ y) := by
  rw [cuts_eq] at h
  have h2 := unwords_wordsL c s.data.toList []
  match hw : wordsL c [] s.data.toList, h, h2 with
  | [v, q], h, h2 =>
    simp at h
    obtain ⟨rfl, rfl⟩ := h
    simp [unwords] at h2
    apply bext
    rw [app_list, app_list, ← h2]; rfl
theorem cuts_back3 {s x y z : ByteArray} {c : UInt8} (h : cuts s c = [x, y, z]) : s = x ++ (mkB [c] ++ (y ++ (mkB [c] ++ z))) := by
  rw [cuts_eq] at h
  have h2 := unwords_wordsL c s.data.toList []
  match hw : wordsL c [] s.data.toList, h, h2 with
  | [v, q, r], h, h2 =>
    simp at h
    obtain ⟨rfl, rfl, rfl⟩ := h
    simp [unwords] at h2
    apply bext
    rw [app_list, app_list, app_list, app_list, ← h2]; simp [mkB]

/-- the value of digits, as a list -/
def valL : List UInt8 → Int → Int
  | [], a => a
  | c :: r, a => if 48 ≤ c.toNat ∧ c.toNat ≤ 57 then valL r (a * 10 + ((c.toNat : Int) - 48)) else -1
theorem valG_eq (s : ByteArray) : ∀ (n i : Nat) (a : Int), s.size - i = n → i ≤ s.size → valG s a i = valL (s.data.toList.drop i) a := by
  have hl := len_data s
  intro n
  induction n with
  | zero => intro i a h0 hi; rw [valG_end (by omega), List.drop_of_length_le (by omega)]; rfl
  | succ n ih =>
    intro i a h0 hi
    have hlt : i < s.size := by omega
    have hd : s.data.toList.drop i = s[i] :: s.data.toList.drop (i + 1) := by
      rw [List.drop_eq_getElem_cons (by omega)]; rfl
    rw [hd]
    unfold valL
    by_cases e : 48 ≤ s[i].toNat ∧ s[i].toNat ≤ 57
    · rw [valG_yes hlt e, if_pos e, ih (i + 1) _ (by omega) hlt]
    · rw [valG_no hlt e, if_neg e]
def AllD (l : List UInt8) : Prop := ∀ c ∈ l, 48 ≤ c.toNat ∧ c.toNat ≤ 57
theorem valL_app : ∀ (l r : List UInt8) (a : Int), AllD l → valL (l ++ r) a = valL r (valL l a)
  | [], r, a, _ => rfl
  | c :: l, r, a, h => by
    have hc := h c (by simp)
    rw [List.cons_append]
    conv => lhs; unfold valL
    conv => rhs; arg 2; unfold valL
    rw [if_pos hc, if_pos hc]
    exact valL_app l r _ (fun x hx => h x (by simp [hx]))
theorem valL_nonneg : ∀ (l : List UInt8) (a : Int), AllD l → 0 ≤ a → 0 ≤ valL l a
  | [], a, _, h => h
  | c :: l, a, h, ha => by
    have hc := h c (by simp)
    unfold valL
    rw [if_pos hc]
    exact valL_nonneg l _ (fun x hx => h x (by simp [hx])) (by omega)
theorem valL_all : ∀ (l : List UInt8) (a : Int), 0 ≤ a → 0 ≤ valL l a → AllD l
  | [], a, _, _ => by intro c hc; simp at hc
  | c :: l, a, ha, h => by
    unfold valL at h
    by_cases hc : 48 ≤ c.toNat ∧ c.toNat ≤ 57
    · rw [if_pos hc] at h
      have := valL_all l _ (by omega) h
      intro x hx
      simp at hx
      rcases hx with rfl | hx
      · exact hc
      · exact this x hx
    · rw [if_neg hc] at h; omega
theorem dig_nat {n : Nat} (h : n < 10) : (dig n).toNat = 48 + n := by
  unfold dig; rw [UInt8.toNat_ofNat']; omega
theorem dec_all (n : Nat) : AllD (dec n) := by
  induction n using Nat.strongRecOn with
  | ind n ih =>
    by_cases h : n < 10
    · rw [dec_lt h]
      intro c hc
      simp at hc
      subst hc
      rw [dig_nat h]; omega
    · rw [dec_ge (by omega)]
      intro c hc
      simp at hc
      rcases hc with hc | hc
      · exact ih (n / 10) (by omega) c hc
      · subst hc; rw [dig_nat (by omega)]; omega
theorem valL_dec (n : Nat) : valL (dec n) 0 = n := by
  induction n using Nat.strongRecOn with
  | ind n ih =>
    by_cases h : n < 10
    · rw [dec_lt h]
      unfold valL
      rw [dig_nat h, if_pos (by omega)]
      unfold valL; omega
    · rw [dec_ge (by omega), valL_app _ _ _ (dec_all _), ih (n / 10) (by omega)]
      unfold valL
      rw [dig_nat (by omega), if_pos (by omega)]
      unfold valL; omega
theorem dec_ne (n : Nat) : dec n ≠ [] := by
  have := dec_pos n
  intro e; rw [e] at this; simp at this
theorem valL_back : ∀ (n : Nat) (l : List UInt8), l.length = n → AllD l → l ≠ [] → (l.head? ≠ some 48 ∨ l.length = 1) → l = dec (valL l 0).toNat := by
  intro n
  induction n using Nat.strongRecOn with
  | ind n ih =>
    intro l hl hd hne hh
    rcases List.eq_nil_or_concat l with h0 | ⟨l', c, rfl⟩
    · exact absurd h0 hne
    · rw [List.concat_eq_append] at hl hd hh ⊢
      have hc := hd c (by simp)
      have hd' : AllD l' := fun x hx => hd x (by simp [hx])
      have hdig : dig (c.toNat - 48) = c := by
        apply UInt8.toNat_inj.1
        rw [dig_nat (by omega)]; omega
      cases l' with
      | nil =>
        simp only [List.nil_append]
        unfold valL
        rw [if_pos hc]
        unfold valL
        have e : ((0 : Int) * 10 + ((c.toNat : Int) - 48)).toNat = c.toNat - 48 := by omega
        rw [e, dec_lt (by omega), hdig]
      | cons x q =>
        have hx : (x :: q).head? ≠ some 48 := by
          rcases hh with h | h
          · simpa using h
          · simp at h
        have h1 := ih (x :: q).length (by simp at hl ⊢; omega) (x :: q) rfl hd' (by simp) (.inl hx)
        have h2 := valL_nonneg (x :: q) 0 hd' (Int.le_refl _)
        have h3 : 1 ≤ (valL (x :: q) 0).toNat := by
          rcases Nat.eq_zero_or_pos (valL (x :: q) 0).toNat with h0 | h0
          · rw [h0, dec_lt (by omega)] at h1
            rw [h1] at hx
            exact absurd rfl hx
          · exact h0
        rw [valL_app _ _ _ hd']
        generalize hv : valL (x :: q) 0 = v at h1 h2 h3
        unfold valL
        rw [if_pos hc]
        unfold valL
        have e1 : (v * 10 + ((c.toNat : Int) - 48)).toNat = v.toNat * 10 + (c.toNat - 48) := by omega
        rw [e1, dec_ge (by omega)]
        have e2 : (v.toNat * 10 + (c.toNat - 48)) / 10 = v.toNat := by omega
        have e3 : (v.toNat * 10 + (c.toNat - 48)) % 10 = c.toNat - 48 := by omega
        rw [e2, e3, hdig, ← h1]
theorem valG_decB (n : Nat) : valG (decB n) 0 0 = n := by
  rw [valG_eq _ _ 0 0 rfl (Nat.zero_le _)]
  have : (decB n).data.toList = dec n := by simp [decB]
  rw [this]
  simpa using valL_dec n
theorem decB_get (n : Nat) (h : 0 < (decB n).size) : (decB n)[0].toNat = 48 → n = 0 := by
  intro h48
  have e : (decB n).data.toList = dec n := by simp [decB]
  have h1 : (dec n).head? = some (decB n)[0] := by
    rw [← e]
    have : (decB n).data.toList[0]? = some (decB n)[0] := by
      rw [List.getElem?_eq_getElem (by rw [len_data]; exact h)]; rfl
    simpa [List.head?_eq_getElem?] using this
  have h3 : (decB n)[0] = 48 := UInt8.toNat_inj.1 (by rw [h48]; rfl)
  rw [h3] at h1
  induction n using Nat.strongRecOn with
  | ind n ih =>
    by_cases h10 : n < 10
    · rw [dec_lt h10] at h1
      simp at h1
      have := dig_nat h10
      rw [h1] at this
      have h4 : (48 : UInt8).toNat = 48 := rfl
      omega
    · rw [dec_ge (by omega)] at h1
      have h5 : (dec (n / 10)).head? = some 48 := by
        rw [head_app (dec_ne _)] at h1; exact h1
      exfalso
      have : ∀ m : Nat, 0 < m → (dec m).head? ≠ some 48 := by
        intro m
        induction m using Nat.strongRecOn with
        | ind m im =>
          intro hm hh
          by_cases h9 : m < 10
          · rw [dec_lt h9] at hh
            simp at hh
            have := dig_nat h9
            rw [hh] at this
            have h4 : (48 : UInt8).toNat = 48 := rfl
            omega
          · rw [dec_ge (by omega), head_app (dec_ne _)] at hh
            exact im (m / 10) (by omega) (by omega) hh
      exact this (n / 10) (by omega) h5
theorem numN_decB {n : Nat} (h : n < 1000000000) : numN (decB n) = n := by
  have h1 := decB_size_le (k := 8) (n := n) h
  have h2 := dec_pos n
  rw [← decB_size] at h2
  unfold numN
  rw [dif_pos (by omega), if_neg, valG_decB]
  rintro ⟨h3, h4⟩
  have := decB_get n (by omega) h3
  subst this
  rw [decB_size, dec_lt (by omega)] at h4
  simp at h4
theorem numN_back {s : ByteArray} (h : 0 ≤ numN s) : s = decB (numN s).toNat := by
  unfold numN at h ⊢
  by_cases h1 : 1 ≤ s.size ∧ s.size ≤ 9
  · rw [dif_pos h1] at h ⊢
    by_cases h2 : s[0].toNat = 48 ∧ 1 < s.size
    · rw [if_pos h2] at h; omega
    · rw [if_neg h2] at h ⊢
      rw [valG_eq _ _ 0 0 rfl (Nat.zero_le _), List.drop_zero] at h ⊢
      have hl := len_data s
      have ha := valL_all _ 0 (Int.le_refl _) h
      have hb := valL_back _ s.data.toList rfl ha (by intro e; rw [e] at hl; simp at hl; omega) (by
        by_cases h3 : 1 < s.size
        · left
          intro h4
          apply h2
          refine ⟨?_, h3⟩
          have h5 : s.data.toList[0]? = some s[0] := by rw [List.getElem?_eq_getElem (by omega)]; rfl
          rw [List.head?_eq_getElem?, h5] at h4
          injection h4 with h4
          rw [h4]; rfl
        · right; omega)
      rw [← mkB_toList s]
      conv => lhs; rw [hb]
      rfl
  · rw [dif_neg h1] at h; omega
/-- the program's number -/
def digsB (s : ByteArray) : ByteArray := if h : 0 < s.size then (if s[0] = 45 then s.extract 1 s.size else s) else s
def sgnB (s : ByteArray) : Int := if (digsB s).size < s.size then - valG (digsB s) 0 0 else valG (digsB s) 0 0
def readG (s : ByteArray) : Int × Bool :=
  if 1 ≤ (digsB s).size ∧ (digsB s).size ≤ 18 then (if valG (digsB s) 0 0 < 0 then (0, false) else (if decIB (sgnB s) = s then (sgnB s, true) else (0, false))) else (0, false)
theorem readG_decB {n : Nat} (h : n < 1000000000000000000) : readG (decB n) = ((n : Int), true) := by
  have h1 := decB_size_le (k := 17) (n := n) h
  have h2 := dec_pos n
  rw [← decB_size] at h2
  have hd : digsB (decB n) = decB n := by
    unfold digsB
    rw [dif_pos h2, if_neg]
    intro e
    have h3 := dec_all n (decB n)[0] (by
      have : (decB n)[0] ∈ (decB n).data.toList := by
        have : (decB n)[0] = (decB n).data.toList[0]'(by rw [len_data]; exact h2) := rfl
        rw [this]; exact List.getElem_mem _
      simpa [decB] using this)
    rw [e] at h3
    have : (45 : UInt8).toNat = 45 := rfl
    omega
  have hs : sgnB (decB n) = n := by unfold sgnB; rw [hd, if_neg (by omega), valG_decB]
  unfold readG
  rw [hd, if_pos (by omega), valG_decB, if_neg (by omega), hs, if_pos (decIB_nat n)]
theorem readG_back {s : ByteArray} (h : (readG s).2 = true) : s = decIB (readG s).1 := by
  unfold readG at h ⊢
  by_cases h1 : 1 ≤ (digsB s).size ∧ (digsB s).size ≤ 18
  · rw [if_pos h1] at h ⊢
    by_cases h2 : valG (digsB s) 0 0 < 0
    · rw [if_pos h2] at h; simp at h
    · rw [if_neg h2] at h ⊢
      by_cases h3 : decIB (sgnB s) = s
      · rw [if_pos h3]; exact h3.symm
      · rw [if_neg h3] at h; simp at h
  · rw [if_neg h1] at h; simp at h
theorem decIB_pos {n : Int} (h : 0 ≤ n) : decIB n = decB n.toNat := by
  obtain ⟨m, rfl⟩ := Int.eq_ofNat_of_zero_le h
  rw [decIB_nat]; rfl
end Go.Proofs.Ytihjadffdjjogaa
