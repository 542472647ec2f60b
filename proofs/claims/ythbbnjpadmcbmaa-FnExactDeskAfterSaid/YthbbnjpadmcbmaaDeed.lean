/-
  Words of deeds, and which deeds are valid.
-/
import Derived.Test.YthbbnjpadmcbmaaBase
namespace Go.Proofs.Ythbbnjpadmcbmaa
open Go.RowKit

def wordOf (k : Int) : ByteArray :=
  if k = 1 then ⟨#[103, 105, 118, 101]⟩ else
  if k = 2 then ⟨#[119, 111, 114, 107]⟩ else
  if k = 3 then ⟨#[100, 101, 108, 105, 118, 101, 114]⟩ else
  if k = 4 then ⟨#[99, 111, 112, 121]⟩ else
  if k = 5 then ⟨#[100, 114, 111, 112]⟩ else
  if k = 6 then ⟨#[115, 121, 110, 99]⟩ else
  if k = 7 then ⟨#[111, 117, 116]⟩ else
  if k = 8 then ⟨#[99, 114, 97, 115, 104]⟩ else
  if k = 9 then ⟨#[116, 101, 97, 114]⟩ else
  if k = 10 then ⟨#[113, 117, 105, 116]⟩ else
  ⟨#[]⟩
def toldOf (k : Int) : Bool := decide (k = 1) || decide (k = 2) || decide (k = 3) || decide (k = 4) || decide (k = 5) || decide (k = 10)
def deedOk (k a : Int) : Bool := inR k 1 10 && (inR a 0 999 && (toldOf k || decide (a = 0)))
theorem kind_cases {k : Int} (h : inR k 1 10 = true) : k = 1 ∨ k = 2 ∨ k = 3 ∨ k = 4 ∨ k = 5 ∨ k = 6 ∨ k = 7 ∨ k = 8 ∨ k = 9 ∨ k = 10 := by
  have := inR_iff.1 h; omega
theorem wordOf_out {k : Int} (h : inR k 1 10 = false) : wordOf k = ⟨#[]⟩ ∧ toldOf k = false := by
  have := inR_false.1 h
  constructor
  · unfold wordOf
    repeat (rw [if_neg (by omega)])
  · simp [toldOf]; omega

theorem deedWord_in {k : Int} (w : World) (hk : inR k 1 10 = true) :
    Calls Try.prog 125 #[.int .i64 k] w fun e w' => e = .returned (.tuple #[.string (wordOf k), .bool (toldOf k)]) ∧ w = w' := by
  rcases kind_cases hk with rfl | rfl | rfl | rfl | rfl | rfl | rfl | rfl | rfl | rfl
  all_goals
    clear hk
    go_enter Try.func125, Try.ntmps125
    go_wp2
    go_ret2
    exact ⟨rfl, rfl⟩
theorem deedWord_out {k : Int} (w : World) (hk : inR k 1 10 = false) :
    Calls Try.prog 125 #[.int .i64 k] w fun e w' => e = .returned (.tuple #[.string ⟨#[]⟩, .bool false]) ∧ w = w' := by
  have h := inR_false.1 hk
  clear hk
  have h1 : (k == 1) = false := by simp; omega
  have h2 : (k == 2) = false := by simp; omega
  have h3 : (k == 3) = false := by simp; omega
  have h4 : (k == 4) = false := by simp; omega
  have h5 : (k == 5) = false := by simp; omega
  have h6 : (k == 6) = false := by simp; omega
  have h7 : (k == 7) = false := by simp; omega
  have h8 : (k == 8) = false := by simp; omega
  have h9 : (k == 9) = false := by simp; omega
  have h10 : (k == 10) = false := by simp; omega
  clear h
  go_enter Try.func125, Try.ntmps125
  go_wp2
  go_ret2
  exact ⟨rfl, rfl⟩

theorem wordOf_ne {k : Int} (h : inR k 1 10 = true) : (wordOf k).toList.isEmpty = false ∧ (!(wordOf k).toList.isEmpty) = true := by
  rcases kind_cases h with rfl | rfl | rfl | rfl | rfl | rfl | rfl | rfl | rfl | rfl <;> simp [wordOf, ByteArray.toList_eq]
set_option maxHeartbeats 400000 in
theorem ImplValidDeed_any (k a : Int) (w : World) :
    Calls Try.prog 64 #[.agg #[.int .i64 k, .int .i64 a]] w fun e w' => e = .returned (.bool (deedOk k a)) ∧ Below w.heap.size w w' := by
  by_cases hk : inR k 1 10 = true
  · obtain ⟨hn1, hn2⟩ := wordOf_ne hk
    generalize hr : inR a 0 999 = r
    have HR := Lib.hid hr
    generalize hs : wordOf k = s at hn1 hn2
    have HS := Lib.hid hs
    generalize ht : toldOf k = t
    have HT := Lib.hid ht
    have ha : (a == 0) = decide (a = 0) := by by_cases h : a = 0 <;> simp [h]
    generalize hz : decide (a = 0) = z at ha
    have HZ := Lib.hid hz
    have HD : Hid (deedOk k a = (r && (t || z))) := by unfold Hid deedOk; rw [HR.out, HT.out, HZ.out, hk]; rfl
    clear hr hz ht hs
    go_enter Try.func64, Try.ntmps64
    go_wp2_with (first
      | (go_at_call 125; refine (deedWord_in _ hk).mono ?_; rintro e w' ⟨rfl, rfl⟩; rw [HS.out, HT.out])
      | (go_at_call 98; refine (inRange_any _ _ _ _).mono ?_; rintro e w' ⟨rfl, rfl⟩; rw [HR.out]))
    all_goals
      go_ret
      refine ⟨rb ?_, (Below.refl _ _).alloc (Nat.le_refl _) _⟩
      rw [HD.out]
      first
        | (rw [show r = true by assumption, show t = true by assumption]; rfl)
        | (rw [show r = true by assumption, Bool.not_eq_true _ |>.mp (show ¬ t = true by assumption)]; simp)
        | (rw [Bool.not_eq_true _ |>.mp (show ¬ r = true by assumption)]; rfl)
  · have hk' : inR k 1 10 = false := by simpa using hk
    clear hk
    go_enter Try.func64, Try.ntmps64
    go_wp2_with (go_at_call 125; refine (deedWord_out _ hk').mono ?_; rintro e w' ⟨rfl, rfl⟩)
    go_ret
    exact ⟨rb (by simp [deedOk, hk']), (Below.refl _ _).alloc (Nat.le_refl _) _⟩

/-- the tables that the reference makes anew at each call -/
def TabS (w : World) (b : Nat) : Prop := ∀ j : Nat, 1 ≤ j → j ≤ 10 → w.cell? ⟨b, j, none⟩ = some (.string (wordOf j))
def TabB (w : World) (b : Nat) : Prop := ∀ j : Nat, 1 ≤ j → j ≤ 10 → w.cell? ⟨b, j, none⟩ = some (.bool (toldOf j))
theorem nat_cases {j : Nat} (h1 : 1 ≤ j) (h2 : j ≤ 10) : j = 1 ∨ j = 2 ∨ j = 3 ∨ j = 4 ∨ j = 5 ∨ j = 6 ∨ j = 7 ∨ j = 8 ∨ j = 9 ∨ j = 10 := by omega
set_option maxHeartbeats 400000 in
theorem l09Words_any (w : World) :
    Calls Try.prog 158 #[] w fun e w' => e = .returned (.tuple #[.slice (some ⟨w.heap.size, 0, none⟩) 11 11, .slice (some ⟨w.heap.size + 1, 0, none⟩) 11 11]) ∧
      TabS w' w.heap.size ∧ TabB w' (w.heap.size + 1) ∧ Below w.heap.size w w' ∧ w.heap.size + 1 < w'.heap.size := by
  go_enter Try.func158, Try.ntmps158
  go_wp2
  go_ret2
  refine ⟨rfl, ?_, ?_, ((Below.refl _ _).alloc (Nat.le_refl _) _).alloc (by simp) _, by simp⟩
  · intro j h1 h2
    rcases nat_cases h1 h2 with rfl | rfl | rfl | rfl | rfl | rfl | rfl | rfl | rfl | rfl <;> (go_simp; rfl)
  · intro j h1 h2
    rcases nat_cases h1 h2 with rfl | rfl | rfl | rfl | rfl | rfl | rfl | rfl | rfl | rfl <;> (go_simp; rfl)

set_option maxHeartbeats 400000 in
theorem l09Deed_any (k a : Int) (w : World) :
    Calls Try.prog 148 #[.agg #[.int .i64 k, .int .i64 a]] w fun e w' => e = .returned (.bool (deedOk k a)) ∧ Below w.heap.size w w' := by
  by_cases hk : inR k 1 10 = true
  · have hkb := inR_iff.1 hk
    obtain ⟨j, rfl⟩ := Int.eq_ofNat_of_zero_le (show 0 ≤ k by omega)
    by_cases hr : inR a 0 999 = true
    · generalize ht : toldOf j = t
      have HT := Lib.hid ht
      have ha : (a == 0) = decide (a = 0) := by by_cases h : a = 0 <;> simp [h]
      generalize hz : decide (a = 0) = z at ha
      have HZ := Lib.hid hz
      have HD : Hid (deedOk j a = (t || z)) := by unfold Hid deedOk; rw [hr, HT.out, HZ.out, hk]; rfl
      clear hz ht
      go_enter Try.func148, Try.ntmps148
      go_wp2_with (first
        | (go_at_call 129; refine (l00In_any _ _ _ _).mono ?_; rintro e w' ⟨rfl, rfl⟩)
        | (go_at_call 158; refine (l09Words_any _).mono ?_; rintro e w1 ⟨rfl, tS, tB, b1, z1⟩; have g1 := tB j (by omega) (by omega); rw [HT.out] at g1; simp only [World.size_alloc] at g1; have g0 := b1.cell (p := ⟨w.heap.size, 0, none⟩) (by simp); have g2 := b1.cell (p := ⟨w.heap.size, 1, none⟩) (by simp); clear tS tB))
      all_goals
        go_ret
        refine ⟨rb ?_, ((Below.refl _ _).alloc (Nat.le_refl _) _).trans (b1.mono (by simp))⟩
        rw [HD.out]
        first
          | (rw [show t = true by assumption]; rfl)
          | (rw [Bool.not_eq_true _ |>.mp (show ¬ t = true by assumption)]; rfl)
    · have hr' : inR a 0 999 = false := by simpa using hr
      clear hr
      go_enter Try.func148, Try.ntmps148
      go_wp2_with (go_at_call 129; refine (l00In_any _ _ _ _).mono ?_; rintro e w' ⟨rfl, rfl⟩)
      go_ret
      exact ⟨rb (by simp [deedOk, hr']), (Below.refl _ _).alloc (Nat.le_refl _) _⟩
  · have hk' : inR k 1 10 = false := by simpa using hk
    clear hk
    go_enter Try.func148, Try.ntmps148
    go_wp2_with (go_at_call 129; refine (l00In_any _ _ _ _).mono ?_; rintro e w' ⟨rfl, rfl⟩)
    go_ret
    exact ⟨rb (by simp [deedOk, hk']), (Below.refl _ _).alloc (Nat.le_refl _) _⟩

theorem toDeed_any (k a : Int) (w : World) :
    Calls Try.prog 103 #[.agg #[.int .i64 k, .int .i64 a]] w fun e w' => e = .returned (.agg #[.int .i64 k, .int .i64 a]) ∧ Below w.heap.size w w' := by
  go_enter Try.func103, Try.ntmps103
  go_wp2
  refine bodyPost_ret (v := .agg #[.int .i64 k, .int .i64 a]) (by simp [results, Try.results103, go_sem]) rfl ⟨rfl, ?_⟩
  exact (((Below.refl _ _).alloc (Nat.le_refl _) _).alloc (by simp) _).alloc (by simp; omega) _
end Go.Proofs.Ythbbnjpadmcbmaa
