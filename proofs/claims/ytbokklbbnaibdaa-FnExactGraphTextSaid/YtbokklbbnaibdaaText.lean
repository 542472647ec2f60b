/-
  Texts: cut at a byte, numbers read.
-/
import Derived.Test.YtbokklbbnaibdaaFlat
import Derived.Test.YtbokklbbnaibdaaDecImpl
import Derived.Test.YtbokklbbnaibdaaDeedText
namespace Go.Proofs.Ytbokklbbnaibdaa
open Go.RowKit

def FS : Flat ByteArray := ⟨108, 9, .string ⟨#[]⟩, 1, 16, fun x => [.string x], Try.underlying108, by kernel_rfl, rfl, by decide, by decide, fun _ => rfl, by intro x u h; simp at h; subst h; rfl⟩
theorem FS_get {w : World} {ad : Option Addr} {n c : Nat} {xs : List ByteArray} (h : FS.Sl w (.slice ad n c) xs) {i : Nat} (hi : i < xs.length) :
    ∃ b off, ad = some ⟨b, off, none⟩ ∧ b < w.heap.size ∧ w.cell? ⟨b, off + i, none⟩ = some (.string xs[i]) := by
  obtain ⟨b, off, h1, h2, h3⟩ := h.at_ hi
  refine ⟨b, off, h1, h2, ?_⟩
  have := h3 0 (.string xs[i]) rfl
  have e : off + (i * FS.size + 0) = off + i := by show off + (i * 1 + 0) = off + i; omega
  rw [e] at this
  exact this

/-- from byte i on, with a word that begins at byte f -/
def cutG (s : ByteArray) (c : UInt8) (f i : Nat) : List ByteArray :=
  if h : i < s.size then (if s[i] = c then s.extract f i :: cutG s c (i + 1) (i + 1) else cutG s c f (i + 1)) else [s.extract f s.size]
termination_by s.size - i
def cuts (s : ByteArray) (c : UInt8) : List ByteArray := cutG s c 0 0
theorem cutG_yes {s : ByteArray} {c : UInt8} {f i : Nat} (h : i < s.size) (e : s[i] = c) : cutG s c f i = s.extract f i :: cutG s c (i + 1) (i + 1) := by
  rw [cutG, dif_pos h, if_pos e]
theorem cutG_no {s : ByteArray} {c : UInt8} {f i : Nat} (h : i < s.size) (e : ¬ s[i] = c) : cutG s c f i = cutG s c f (i + 1) := by
  rw [cutG, dif_pos h, if_neg e]
theorem cutG_end {s : ByteArray} {c : UInt8} {f i : Nat} (h : ¬ i < s.size) : cutG s c f i = [s.extract f s.size] := by
  rw [cutG, dif_neg h]
theorem u8_eq {a b : UInt8} : ((a.toNat : Int) = (b.toNat : Int)) ↔ a = b := by
  constructor
  · intro h; apply UInt8.toNat_inj.1; omega
  · intro h; rw [h]

/-- the value of digits behind a number; -1 if one is none -/
def valG (s : ByteArray) (a : Int) (i : Nat) : Int :=
  if h : i < s.size then (if 48 ≤ s[i].toNat ∧ s[i].toNat ≤ 57 then valG s (a * 10 + ((s[i].toNat : Int) - 48)) (i + 1) else -1) else a
termination_by s.size - i
theorem valG_yes {s : ByteArray} {a : Int} {i : Nat} (h : i < s.size) (e : 48 ≤ s[i].toNat ∧ s[i].toNat ≤ 57) : valG s a i = valG s (a * 10 + ((s[i].toNat : Int) - 48)) (i + 1) := by
  rw [valG, dif_pos h, if_pos e]
theorem valG_no {s : ByteArray} {a : Int} {i : Nat} (h : i < s.size) (e : ¬ (48 ≤ s[i].toNat ∧ s[i].toNat ≤ 57)) : valG s a i = -1 := by
  rw [valG, dif_pos h, if_neg e]
theorem valG_end {s : ByteArray} {a : Int} {i : Nat} (h : ¬ i < s.size) : valG s a i = a := by
  rw [valG, dif_neg h]
/-- the reference's number: one to nine digits, no idle 0 ahead -/
def numN (s : ByteArray) : Int := if h : 1 ≤ s.size ∧ s.size ≤ 9 then (if s[0].toNat = 48 ∧ 1 < s.size then -1 else valG s 0 0) else -1
def Pow10 (a : Int) (k : Nat) : Prop := 0 ≤ a ∧ a < 10 ^ k
theorem Pow10.next {a : Int} {k : Nat} (h : Pow10 a k) {d : Nat} (h1 : 48 ≤ d) (h2 : d ≤ 57) : Pow10 (a * 10 + ((d : Int) - 48)) (k + 1) := by
  obtain ⟨h3, h4⟩ := h
  refine ⟨by omega, ?_⟩
  rw [Int.pow_succ]
  have : a + 1 ≤ 10 ^ k := by omega
  have := Int.mul_le_mul_of_nonneg_right this (by decide : (0 : Int) ≤ 10)
  omega
theorem Pow10.le {a : Int} {k : Nat} (h : Pow10 a k) (hk : k ≤ 17) : 0 ≤ a ∧ a < 100000000000000000 := by
  refine ⟨h.1, Int.lt_of_lt_of_le h.2 ?_⟩
  have : (10 : Int) ^ k ≤ 10 ^ 17 := by
    have := Nat.pow_le_pow_right (by decide : 0 < 10) hk
    exact_mod_cast this
  omega
theorem valG_range {s : ByteArray} : ∀ (n i : Nat) (a : Int), s.size - i = n → Pow10 a i → i ≤ s.size → valG s a i = -1 ∨ Pow10 (valG s a i) s.size := by
  intro n
  induction n with
  | zero => intro i a h0 hp hi; right; rw [valG_end (by omega)]; have : i = s.size := by omega
            rw [← this]; exact hp
  | succ n ih =>
    intro i a h0 hp hi
    have hlt : i < s.size := by omega
    by_cases e : 48 ≤ s[i].toNat ∧ s[i].toNat ≤ 57
    · rw [valG_yes hlt e]; exact ih (i + 1) _ (by omega) (hp.next e.1 e.2) hlt
    · left; exact valG_no hlt e
theorem numN_range (s : ByteArray) : -1 ≤ numN s ∧ numN s < 1000000000 := by
  unfold numN
  split
  · rename_i h
    split
    · omega
    · rcases valG_range (s := s) _ 0 0 rfl ⟨by decide, by decide⟩ (Nat.zero_le _) with h2 | h2
      · rw [h2]; omega
      · have h3 : (10 : Int) ^ s.size ≤ 10 ^ 9 := by
          have := Nat.pow_le_pow_right (by decide : 0 < 10) h.2
          exact_mod_cast this
        have := h2.1
        have := h2.2
        omega
  · omega
/-- numbers of words; false if one is none -/
def numsG : List ByteArray → List Int → List Int × Bool
  | [], acc => (acc, true)
  | x :: r, acc => if numN x < 0 then (acc, false) else numsG r (acc ++ [numN x])
theorem numsG_step {l : List ByteArray} {acc : List Int} {k : Nat} (h : k < l.length) : numsG (l.drop k) acc = if numN l[k] < 0 then (acc, false) else numsG (l.drop (k + 1)) (acc ++ [numN l[k]]) := by
  rw [List.drop_eq_getElem_cons h]; rfl
def tupVB (v : Value) (b : Bool) : Value := .tuple #[v, .bool b]
end Go.Proofs.Ytbokklbbnaibdaa
