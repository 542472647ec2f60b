/-
  Texts: cut at a byte, numbers read.
-/
import Derived.Test.YthbbnjpadmcbmaaFlat
import Derived.Test.YthbbnjpadmcbmaaDecImpl
import Derived.Test.YthbbnjpadmcbmaaDeedText
namespace Go.Proofs.Ythbbnjpadmcbmaa
open Go.RowKit

def FS : Flat ByteArray := ⟨123, 9, .string ⟨#[]⟩, 1, 16, fun x => [.string x], Try.underlying123, by kernel_rfl, rfl, by decide, by decide, fun _ => rfl, by intro x u h; simp at h; subst h; rfl⟩
theorem FS_get {w : World} {ad : Option Addr} {n c : Nat} {xs : List ByteArray} (h : FS.Sl w (.slice ad n c) xs) {i : Nat} (hi : i < xs.length) :
    ∃ b off, ad = some ⟨b, off, none⟩ ∧ b < w.heap.size ∧ w.cell? ⟨b, off + i, none⟩ = some (.string xs[i]) := by
  obtain ⟨b, off, h1, h2, h3⟩ := h.at_ hi
  refine ⟨b, off, h1, h2, ?_⟩
  have := h3 0 (.string xs[i]) rfl
  have e : off + (i * FS.size + 0) = off + i := by show off + (i * 1 + 0) = off + i; omega
  rw [e] at this
  exact this

/-- from byte i on, with a word that begins at byte f -/
def cutG (s : ByteArray) (c : UInt8) (f i : Nat) : List ByteArray :=
  if h : i < s.size then (if s[i] = c then s.extract f i :: cutG s c (i + 1) (i + 1) else cutG s c f (i + 1)) else [s.extract f s.size]
termination_by s.size - i
def cuts (s : ByteArray) (c : UInt8) : List ByteArray := cutG s c 0 0
theorem cutG_yes {s : ByteArray} {c : UInt8} {f i : Nat} (h : i < s.size) (e : s[i] = c) : cutG s c f i = s.extract f i :: cutG s c (i + 1) (i + 1) := by
  rw [cutG, dif_pos h, if_pos e]
theorem cutG_no {s : ByteArray} {c : UInt8} {f i : Nat} (h : i < s.size) (e : ¬ s[i] = c) : cutG s c f i = cutG s c f (i + 1) := by
  rw [cutG, dif_pos h, if_neg e]
theorem cutG_end {s : ByteArray} {c : UInt8} {f i : Nat} (h : ¬ i < s.size) : cutG s c f i = [s.extract f s.size] := by
  rw [cutG, dif_neg h]
theorem u8_eq {a b : UInt8} : ((a.toNat : Int) = (b.toNat : Int)) ↔ a = b := by
  constructor
  · intro h; apply UInt8.toNat_inj.1; omega
  · intro h; rw [h]

set_option maxHeartbeats 1000000 in
theorem splitAt_any (s : ByteArray) (c : UInt8) (w : World) (hs : s.size ≤ 1048576) :
    Calls Try.prog 82 #[.string s, .int .u8 c.toNat] w fun e w' => ∃ v, e = .returned v ∧ FS.Own w' w.heap.size v (cuts s c) ∧ Below w.heap.size w w' := by
  go_enter Try.func82, Try.ntmps82
  go_wp2
  go_loopw [5, 6, 7, 11] (fun v f _ i wr => ∃ (k ff : Nat) (L : List ByteArray), k ≤ s.size ∧ i = .int .i64 k ∧ ff ≤ k ∧ f = .int .i64 ff ∧ L.length ≤ k ∧ Hid (cuts s c = L ++ cutG s c ff k) ∧ FS.Own wr w.heap.size v L ∧ Below w.heap.size w wr) (fun _ _ _ i _ => s.size - (intOf i).toNat)
  case atStart => exact ⟨0, 0, [], Nat.zero_le _, rfl, Nat.le_refl _, rfl, Nat.le_refl _, rfl, Flat.Own.empty _ (Nat.le_refl _), (Below.refl _ _).alloc (Nat.le_refl _) _⟩
  case round =>
    obtain ⟨k, ff, L, hk, rfl, hff, rfl, hL, hcut, hown, hbw⟩ := hrel
    have hsz := hbw.size
    by_cases hlt : k < s.size
    · have i1 : (k : Int) < (s.size : Int) := by omega
      have i2 : (ff : Int) ≤ (k : Int) := by omega
      by_cases he : s[k] = c
      · have ht : ((s[k].toNat : Int) == (c.toNat : Int)) = true := by rw [he]; simp
        have HE := Lib.hid he
        clear he
        go_wp2_with (at_builtin; refine Flat.append FS _ _ _ (ys := [s.extract ff k]) rfl rfl rfl (hown.alloc _) rfl (rd_new _ _ _) (by simp; omega) (by simp; omega) ?_)
        intro v' w1 hown1 hg1 hb1
        have hb2 := (hbw.alloc hsz _).trans hb1
        clear hown hb1 hg1
        go_wp2
        go_roundw
        case rel => exact ⟨k + 1, k + 1, L ++ [s.extract ff k], by omega, by go_num, Nat.le_refl _, by go_num, by simp; omega, by unfold Hid at *; rw [hcut, cutG_yes hlt HE]; simp, hown1, hb2⟩
        case measure => simp [intOf]; omega
      · have ht : ((s[k].toNat : Int) == (c.toNat : Int)) = false := by simp only [beq_eq_false_iff_ne, ne_eq]; rw [u8_eq]; exact he
        have HE := Lib.hid he
        clear he
        go_wp2
        go_roundw
        case rel => exact ⟨k + 1, ff, L, by omega, by go_num, by omega, rfl, by omega, by unfold Hid at *; rw [hcut, cutG_no hlt HE], hown, hbw⟩
        case measure => simp [intOf]; omega
    · obtain rfl : k = s.size := by omega
      have i2 : (ff : Int) ≤ (s.size : Int) := by omega
      go_wp2_with (at_builtin; refine Flat.append FS _ _ _ (ys := [s.extract ff s.size]) rfl rfl rfl (hown.alloc _) rfl (rd_new _ _ _) (by simp; omega) (by simp; omega) ?_)
      intro v' w1 hown1 hg1 hb1
      have hb2 := (hbw.alloc hsz _).trans hb1
      clear hown hb1 hg1
      go_wp2
      go_ret
      exact ⟨_, rfl, by rw [hcut.out, cutG_end (by omega)]; exact hown1, hb2⟩
set_option maxHeartbeats 1000000 in
theorem l01Words_any (s : ByteArray) (c : UInt8) (w : World) (hs : s.size ≤ 1048576) :
    Calls Try.prog 114 #[.string s, .int .u8 c.toNat] w fun e w' => ∃ v, e = .returned v ∧ FS.Own w' w.heap.size v (cuts s c) ∧ Below w.heap.size w w' := by
  go_enter Try.func114, Try.ntmps114
  go_wp2
  go_loopw [5, 6, 7] (fun v f i wr => ∃ (k ff : Nat) (L : List ByteArray), k ≤ s.size ∧ i = .int .i64 k ∧ ff ≤ k ∧ f = .int .i64 ff ∧ L.length ≤ k ∧ Hid (cuts s c = L ++ cutG s c ff k) ∧ FS.Own wr w.heap.size v L ∧ Below w.heap.size w wr) (fun _ _ i _ => s.size - (intOf i).toNat)
  case atStart => exact ⟨0, 0, [], Nat.zero_le _, rfl, Nat.le_refl _, rfl, Nat.le_refl _, rfl, Flat.Own.empty _ (Nat.le_refl _), (Below.refl _ _).alloc (Nat.le_refl _) _⟩
  case round =>
    obtain ⟨k, ff, L, hk, rfl, hff, rfl, hL, hcut, hown, hbw⟩ := hrel
    have hsz := hbw.size
    by_cases hlt : k < s.size
    · have i1 : (k : Int) < (s.size : Int) := by omega
      have i2 : (ff : Int) ≤ (k : Int) := by omega
      by_cases he : s[k] = c
      · have ht : ((s[k].toNat : Int) == (c.toNat : Int)) = true := by rw [he]; simp
        have HE := Lib.hid he
        clear he
        go_wp2_with (at_builtin; refine Flat.append FS _ _ _ (ys := [s.extract ff k]) rfl rfl rfl (hown.alloc _) rfl (rd_new _ _ _) (by simp; omega) (by simp; omega) ?_)
        intro v' w1 hown1 hg1 hb1
        have hb2 := (hbw.alloc hsz _).trans hb1
        clear hown hb1 hg1
        go_wp2
        go_roundw
        case rel => exact ⟨k + 1, k + 1, L ++ [s.extract ff k], by omega, by go_num, Nat.le_refl _, by go_num, by simp; omega, by unfold Hid at *; rw [hcut, cutG_yes hlt HE]; simp, hown1, hb2⟩
        case measure => simp [intOf]; omega
      · have ht : ((s[k].toNat : Int) == (c.toNat : Int)) = false := by simp only [beq_eq_false_iff_ne, ne_eq]; rw [u8_eq]; exact he
        have HE := Lib.hid he
        clear he
        go_wp2
        go_roundw
        case rel => exact ⟨k + 1, ff, L, by omega, by go_num, by omega, rfl, by omega, by unfold Hid at *; rw [hcut, cutG_no hlt HE], hown, hbw⟩
        case measure => simp [intOf]; omega
    · obtain rfl : k = s.size := by omega
      have i2 : (ff : Int) ≤ (s.size : Int) := by omega
      go_wp2_with (at_builtin; refine Flat.append FS _ _ _ (ys := [s.extract ff s.size]) rfl rfl rfl (hown.alloc _) rfl (rd_new _ _ _) (by simp; omega) (by simp; omega) ?_)
      intro v' w1 hown1 hg1 hb1
      have hb2 := (hbw.alloc hsz _).trans hb1
      clear hown hb1 hg1
      go_wp2
      go_ret
      exact ⟨_, rfl, by rw [hcut.out, cutG_end (by omega)]; exact hown1, hb2⟩

/-- the value of digits behind a number; -1 if one is none -/
def valG (s : ByteArray) (a : Int) (i : Nat) : Int :=
  if h : i < s.size then (if 48 ≤ s[i].toNat ∧ s[i].toNat ≤ 57 then valG s (a * 10 + ((s[i].toNat : Int) - 48)) (i + 1) else -1) else a
termination_by s.size - i
theorem valG_yes {s : ByteArray} {a : Int} {i : Nat} (h : i < s.size) (e : 48 ≤ s[i].toNat ∧ s[i].toNat ≤ 57) : valG s a i = valG s (a * 10 + ((s[i].toNat : Int) - 48)) (i + 1) := by
  rw [valG, dif_pos h, if_pos e]
theorem valG_no {s : ByteArray} {a : Int} {i : Nat} (h : i < s.size) (e : ¬ (48 ≤ s[i].toNat ∧ s[i].toNat ≤ 57)) : valG s a i = -1 := by
  rw [valG, dif_pos h, if_neg e]
theorem valG_end {s : ByteArray} {a : Int} {i : Nat} (h : ¬ i < s.size) : valG s a i = a := by
  rw [valG, dif_neg h]
/-- the reference's number: one to nine digits, no idle 0 ahead -/
def numN (s : ByteArray) : Int := if h : 1 ≤ s.size ∧ s.size ≤ 9 then (if s[0].toNat = 48 ∧ 1 < s.size then -1 else valG s 0 0) else -1
def Pow10 (a : Int) (k : Nat) : Prop := 0 ≤ a ∧ a < 10 ^ k
theorem Pow10.next {a : Int} {k : Nat} (h : Pow10 a k) {d : Nat} (h1 : 48 ≤ d) (h2 : d ≤ 57) : Pow10 (a * 10 + ((d : Int) - 48)) (k + 1) := by
  obtain ⟨h3, h4⟩ := h
  refine ⟨by omega, ?_⟩
  rw [Int.pow_succ]
  have : a + 1 ≤ 10 ^ k := by omega
  have := Int.mul_le_mul_of_nonneg_right this (by decide : (0 : Int) ≤ 10)
  omega
theorem Pow10.le {a : Int} {k : Nat} (h : Pow10 a k) (hk : k ≤ 17) : 0 ≤ a ∧ a < 100000000000000000 := by
  refine ⟨h.1, Int.lt_of_lt_of_le h.2 ?_⟩
  have : (10 : Int) ^ k ≤ 10 ^ 17 := by
    have := Nat.pow_le_pow_right (by decide : 0 < 10) hk
    exact_mod_cast this
  omega
theorem valG_range {s : ByteArray} : ∀ (n i : Nat) (a : Int), s.size - i = n → Pow10 a i → i ≤ s.size → valG s a i = -1 ∨ Pow10 (valG s a i) s.size := by
  intro n
  induction n with
  | zero => intro i a h0 hp hi; right; rw [valG_end (by omega)]; have : i = s.size := by omega
            rw [← this]; exact hp
  | succ n ih =>
    intro i a h0 hp hi
    have hlt : i < s.size := by omega
    by_cases e : 48 ≤ s[i].toNat ∧ s[i].toNat ≤ 57
    · rw [valG_yes hlt e]; exact ih (i + 1) _ (by omega) (hp.next e.1 e.2) hlt
    · left; exact valG_no hlt e
theorem numN_range (s : ByteArray) : -1 ≤ numN s ∧ numN s < 1000000000 := by
  unfold numN
  split
  · rename_i h
    split
    · omega
    · rcases valG_range (s := s) _ 0 0 rfl ⟨by decide, by decide⟩ (Nat.zero_le _) with h2 | h2
      · rw [h2]; omega
      · have h3 : (10 : Int) ^ s.size ≤ 10 ^ 9 := by
          have := Nat.pow_le_pow_right (by decide : 0 < 10) h.2
          exact_mod_cast this
        have := h2.1
        have := h2.2
        omega
  · omega
set_option maxHeartbeats 2000000 in
theorem l09Number_any (s : ByteArray) (w : World) (hs : s.size ≤ 1048576) :
    Calls Try.prog 177 #[.string s] w fun e w' => e = .returned (.int .i64 (numN s)) ∧ w = w' := by
  by_cases h1 : s.size < 1
  · have hn : numN s = -1 := by unfold numN; rw [dif_neg (by omega)]
    have HN := Lib.hid hn
    clear hn
    go_enter Try.func177, Try.ntmps177
    go_wp2
    go_ret
    exact ⟨ri HN.out.symm, rfl⟩
  by_cases h9 : 9 < s.size
  · have hn : numN s = -1 := by unfold numN; rw [dif_neg (by omega)]
    have HN := Lib.hid hn
    clear hn
    go_enter Try.func177, Try.ntmps177
    go_wp2
    go_ret
    exact ⟨ri HN.out.symm, rfl⟩
  have hlt0 : 0 < s.size := by omega
  have i00 : (0 : Int) < (s.size : Int) := by omega
  by_cases hz : s[0].toNat = 48 ∧ 1 < s.size
  · have hn : numN s = -1 := by unfold numN; rw [dif_pos (by omega), if_pos hz]
    have HN := Lib.hid hn
    have ht : ((s[0].toNat : Int) == 48) = true := by rw [hz.1]; rfl
    have h2 := hz.2
    clear hn hz
    go_enter Try.func177, Try.ntmps177
    go_wp2
    go_ret
    exact ⟨ri HN.out.symm, rfl⟩
  have hn : numN s = valG s 0 0 := by unfold numN; rw [dif_pos (by omega), if_neg hz]
  have HN := Lib.hid hn
  have main : ∀ b : Bool, ((s[0].toNat : Int) == 48) = b → (b = true → s.size ≤ 1) → Calls Try.prog 177 #[.string s] w fun e w' => e = .returned (.int .i64 (numN s)) ∧ w = w' := by
    intro b hb hb1
    cases b
    all_goals
      first
        | (have hsz1 : s.size ≤ 1 := hb1 rfl; clear hb1 hz hn)
        | (clear hb1 hz hn)
      go_enter Try.func177, Try.ntmps177
      go_wp2
      go_loopw [3, 4] (fun a i wr => ∃ (k : Nat) (q : Int), k ≤ s.size ∧ i = .int .i64 k ∧ a = .int .i64 q ∧ Pow10 q k ∧ Hid (numN s = valG s q k) ∧ wr = w) (fun _ i _ => s.size - (intOf i).toNat)
      case atStart => exact ⟨0, 0, Nat.zero_le _, rfl, rfl, ⟨by decide, by decide⟩, HN.out, rfl⟩
      case round =>
        obtain ⟨k, q, hk, rfl, rfl, hq, hval, rfl⟩ := hrel
        have HQ := Lib.hid hq
        clear hq
        by_cases hlt : k < s.size
        · have i1 : (k : Int) < (s.size : Int) := by omega
          have hu : s[k].toNat < 256 := UInt8.toNat_lt _
          have hq3 := (HQ.out.le (by omega)).1
          have hq4 := (HQ.out.le (by omega)).2
          by_cases e : 48 ≤ s[k].toNat ∧ s[k].toNat ≤ 57
          · have e1 : (48 : Int) ≤ (s[k].toNat : Int) := by omega
            have e2 : (s[k].toNat : Int) ≤ 57 := by omega
            have HE := Lib.hid e
            clear e
            go_wp2
            go_roundw
            case rel => exact ⟨k + 1, _, by omega, by go_num, rfl, HQ.out.next HE.out.1 HE.out.2, by unfold Hid at *; rw [hval, valG_yes hlt HE], trivial⟩
            case measure => simp [intOf]; omega
          · have HV := Lib.hid (valG_no (a := q) hlt e)
            by_cases e1 : (s[k].toNat : Int) < 48
            · clear e
              go_wp2
              go_ret
              exact ⟨ri (by rw [hval.out, HV.out]), rfl⟩
            · have e2 : (57 : Int) < (s[k].toNat : Int) := by omega
              clear e
              go_wp2
              go_ret
              exact ⟨ri (by rw [hval.out, HV.out]), rfl⟩
        · obtain rfl : k = s.size := by omega
          go_wp2
          go_ret
          exact ⟨ri (by rw [hval.out, valG_end (by omega)]), rfl⟩
  exact main _ rfl (fun h => by
    have : (s[0].toNat : Int) = 48 := by simpa using h
    by_cases h2 : s.size ≤ 1
    · exact h2
    · exact absurd ⟨by omega, by omega⟩ hz)

/-- numbers of words; false if one is none -/
def numsG : List ByteArray → List Int → List Int × Bool
  | [], acc => (acc, true)
  | x :: r, acc => if numN x < 0 then (acc, false) else numsG r (acc ++ [numN x])
theorem numsG_step {l : List ByteArray} {acc : List Int} {k : Nat} (h : k < l.length) : numsG (l.drop k) acc = if numN l[k] < 0 then (acc, false) else numsG (l.drop (k + 1)) (acc ++ [numN l[k]]) := by
  rw [List.drop_eq_getElem_cons h]; rfl
def tupVB (v : Value) (b : Bool) : Value := .tuple #[v, .bool b]
set_option maxHeartbeats 2000000 in
theorem l09Numbers_any {u : Value} {xs : List ByteArray} (f : Nat) (w : World) (ha : FS.Sl w u xs) (hl : xs.length ≤ 1048577) (hf : f ≤ xs.length) (hsz : ∀ x ∈ xs, x.size ≤ 1048576) :
    Calls Try.prog 159 #[u, .int .i64 f] w fun e w' => ∃ v, e = .returned (tupVB v (numsG (xs.drop f) []).2) ∧ OwnI w' w.heap.size v (numsG (xs.drop f) []).1 ∧ Below w.heap.size w w' := by
  obtain ⟨a, ca, rfl, hca, hca', _⟩ := id ha
  unfold maxLen at hca'
  have HA := Lib.hid (fun W (h : Below w.heap.size w W) => ha.below h)
  have HZ := Lib.hid hsz
  clear ha hsz
  go_enter Try.func159, Try.ntmps159
  go_wp2
  go_loopw [6, 7, 8] (fun v i _ wr => ∃ (k : Nat) (L : List Int), k ≤ xs.length ∧ i = .int .i64 k ∧ L.length ≤ k ∧ Hid (numsG (xs.drop f) [] = numsG (xs.drop k) L) ∧ OwnI wr w.heap.size v L ∧ Below w.heap.size w wr) (fun _ i _ _ => xs.length - (intOf i).toNat)
  case atStart => exact ⟨f, [], hf, rfl, Nat.zero_le _, rfl, OwnI.empty _ (Nat.le_refl _), (Below.refl _ _).alloc (Nat.le_refl _) _⟩
  case round =>
    obtain ⟨k, L, hk, rfl, hL, hn, hown, hbw⟩ := hrel
    by_cases hlt : k < xs.length
    · obtain ⟨b, off, rfl, _, gc⟩ := FS_get (HA.out _ hbw) hlt
      have i1 : (k : Int) < (xs.length : Int) := by omega
      have hz := HZ.out _ (List.getElem_mem hlt)
      have hst := numsG_step (acc := L) hlt
      have hr := numN_range xs[k]
      generalize hq : numN xs[k] = q at hst hr
      have HQ := Lib.hid hq
      have HS := Lib.hid hst
      have hr1 := hr.1
      have hr2 := hr.2
      clear hq hst hr
      by_cases hneg : q < 0
      · go_wp2_with (go_at_call 177; refine (l09Number_any _ _ hz).mono ?_; rintro e w' ⟨rfl, rfl⟩; rw [HQ.out])
        go_ret2
        exact ⟨_, by rw [hn.out, HS.out, if_pos hneg]; rfl, by rw [hn.out, HS.out, if_pos hneg]; exact hown, hbw⟩
      · have hs1 := hbw.size
        go_wp2_with (first
          | (go_at_call 177; refine (l09Number_any _ _ hz).mono ?_; rintro e w' ⟨rfl, rfl⟩; rw [HQ.out])
          | (at_builtin; refine append_i64 _ _ _ _ rfl rfl rfl hown rfl (by omega) (by omega) ?_))
        intro v' w1 hown1 hb1 hz1
        have hb2 := (hbw.alloc hs1 _).trans hb1
        clear hown hb1
        go_wp2
        go_roundw
        case rel => exact ⟨k + 1, L ++ [q], by omega, by go_num, by simp; omega, by unfold Hid at *; rw [hn, HS, if_neg (by omega)], hown1, hb2⟩
        case measure => simp [intOf]; omega
    · obtain rfl : k = xs.length := by omega
      go_wp2
      go_ret2
      exact ⟨_, by rw [hn.out]; simp [numsG]; rfl, by rw [hn.out]; simpa [numsG] using hown, hbw⟩
end Go.Proofs.Ythbbnjpadmcbmaa
