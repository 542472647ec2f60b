/-
  Rising runs: a deck's place among all, its runs, both sides.
-/
import Derived.Test.YtmhpbkckmjdojaaDeck
import Derived.Test.YtmhpbkckmjdojaaSameGraph
namespace Go.Proofs.Ytmhpbkckmjdojaa
open Go.RowKit

def findFrom : List (List Int) → List Int → Nat → Int
  | [], _, _ => -1
  | d :: ds, x, k => if d = x then (k : Int) else findFrom ds x (k + 1)
def findD (x : List Int) : Int := if inR x.length 1 3 = true then findFrom (decksL x.length x.length) x 0 else -1
def lastIx (l : List Int) (x : Int) : Nat → Int
  | 0 => -1
  | i + 1 => if l.getD i 0 = x then (i : Int) else lastIx l x i
def runsN (l : List Int) : Nat → Int
  | 0 => 1
  | k + 1 => if lastIx l ((k : Int) + 1) l.length < lastIx l k l.length then runsN l k + 1 else runsN l k
def ixFrom : List Int → Int → Nat → Int
  | [], _, _ => -1
  | y :: r, x, k => if x = y then (k : Int) else ixFrom r x (k + 1)
def runsM (l : List Int) : Nat → Int
  | 0 => 1
  | k + 1 => if ixFrom l ((k : Int) + 1) 0 < ixFrom l k 0 then runsM l k + 1 else runsM l k
theorem findFrom_ge : ∀ (D : List (List Int)) (x : List Int) (k : Nat), 0 ≤ findFrom D x k ↔ x ∈ D
  | [], x, k => by simp [findFrom]
  | d :: ds, x, k => by
    unfold findFrom
    by_cases h : d = x
    · rw [if_pos h]; simp [h]
    · rw [if_neg h, findFrom_ge ds x (k + 1)]; simp [Ne.symm h]
theorem findFrom_step {D : List (List Int)} {x : List Int} {k : Nat} (h : k < D.length) : findFrom (D.drop k) x k = if D[k] = x then (k : Int) else findFrom (D.drop (k + 1)) x (k + 1) := by
  rw [List.drop_eq_getElem_cons h]; rfl
theorem ixFrom_step {l : List Int} {x : Int} {k : Nat} (h : k < l.length) : ixFrom (l.drop k) x k = if x = l[k] then (k : Int) else ixFrom (l.drop (k + 1)) x (k + 1) := by
  rw [List.drop_eq_getElem_cons h]; rfl
theorem lastIx_bd (l : List Int) (x : Int) : ∀ i, -1 ≤ lastIx l x i ∧ lastIx l x i < i
  | 0 => by simp [lastIx]
  | i + 1 => by
    unfold lastIx
    have := lastIx_bd l x i
    split <;> omega
theorem ixFrom_bd : ∀ (l : List Int) (x : Int) (k : Nat), -1 ≤ ixFrom l x k ∧ ixFrom l x k < k + l.length
  | [], x, k => by simp [ixFrom] <;> omega
  | y :: r, x, k => by
    unfold ixFrom
    have := ixFrom_bd r x (k + 1)
    split
    · simp; omega
    · simp at this ⊢; omega
theorem runsN_bd (l : List Int) : ∀ k, 1 ≤ runsN l k ∧ runsN l k ≤ 1 + k
  | 0 => by simp [runsN]
  | k + 1 => by have := runsN_bd l k; unfold runsN; split <;> omega
theorem runsM_bd (l : List Int) : ∀ k, 1 ≤ runsM l k ∧ runsM l k ≤ 1 + k
  | 0 => by simp [runsM]
  | k + 1 => by have := runsM_bd l k; unfold runsM; split <;> omega
def ordTail (n : Int) : List Int → List Int → Bool
  | _, [] => true
  | s, x :: r => inR x 0 (n - 1) && (!decide (x ∈ s) && ordTail n (s ++ [x]) r)
def ordOk (n : Nat) (l : List Int) : Bool := ordTail n [] l && decide (l.length = n)
def seenL (s : List Int) (n : Nat) : List Bool := (List.range n).map fun (j : Nat) => decide ((j : Int) ∈ s)
theorem seenL_length (s : List Int) (n : Nat) : (seenL s n).length = n := by simp [seenL]
theorem seenL_get {s : List Int} {n j : Nat} (h : j < n) : (seenL s n)[j]'(by simp [seenL]; exact h) = decide ((j : Int) ∈ s) := by simp [seenL]
theorem seenL_nil (n : Nat) : seenL [] n = List.replicate n false := by
  apply List.ext_getElem <;> simp [seenL]
theorem seenL_set {s : List Int} {n j : Nat} : (seenL s n).set j true = seenL (s ++ [(j : Int)]) n := by
  apply List.ext_getElem
  · simp [seenL]
  · intro i h1 h2
    simp [seenL] at h1
    rw [List.getElem_set]
    simp [seenL]
    by_cases h : j = i
    · simp [h]
    · simp [h]; omega
theorem ordTail_step {n : Int} {l : List Int} {k : Nat} (h : k < l.length) : ordTail n (l.take k) (l.drop k) = (inR l[k] 0 (n - 1) && (!decide (l[k] ∈ l.take k) && ordTail n (l.take (k + 1)) (l.drop (k + 1)))) := by
  rw [List.drop_eq_getElem_cons h, List.take_succ_eq_append_getElem h]; rfl

def runsR (x : List Int) : Int × Int := if 0 ≤ findD x then (runsN x (x.length - 1), 0) else (0, 2)
def tupII (r : Int × Int) : Value := .tuple #[.int .i64 r.1, .int .i64 r.2]
theorem findD_len {x : List Int} (h : 0 ≤ findD x) : 1 ≤ x.length ∧ x.length ≤ 3 := by
  unfold findD at h
  split at h
  · rename_i hi; have := inR_iff.1 hi; omega
  · omega
set_option maxHeartbeats 400000 in
theorem Index_any {u : Value} {xs : List Int} (x : Int) (w : World) (ha : SlI w u xs) :
    Calls Try.prog 77 #[u, .int .i64 x] w fun e w' => e = .returned (.int .i64 (ixFrom xs x 0)) ∧ w = w' := by
  obtain ⟨a, ca, rfl, hca, hca', ha⟩ := ha
  unfold maxLen at hca'
  go_enter Try.func77, Try.ntmps77
  go_wp2
  go_loopw [5, 8] (fun _ i wr => ∃ k : Nat, k ≤ xs.length ∧ i = .int .i64 k ∧ Hid (ixFrom xs x 0 = ixFrom (xs.drop k) x k) ∧ wr = w) (fun _ i _ => xs.length - (intOf i).toNat)
  case atStart => exact ⟨0, Nat.zero_le _, rfl, rfl, rfl⟩
  case round =>
    obtain ⟨k, hk, rfl, hno, rfl⟩ := hrel
    by_cases hlt : k < xs.length
    · obtain ⟨b, off, rfl, gc⟩ := ha.one (i64s_get hlt)
      have i1 : (k : Int) < (xs.length : Int) := by omega
      have hst := ixFrom_step (x := x) hlt
      have HS := Lib.hid hst
      clear hst
      by_cases he : x = xs[k]
      · have HE := Lib.hid he
        have ht : (x == xs[k]) = true := by simpa using he
        clear he
        go_wp2
        go_ret
        exact ⟨ri (by rw [hno.out, HS.out, if_pos HE.out]), rfl⟩
      · have HE := Lib.hid he
        have ht : (x == xs[k]) = false := by simpa using he
        clear he
        go_wp2
        go_roundw
        case rel => exact ⟨k + 1, by omega, by go_num, by unfold Hid at *; rw [hno, HS, if_neg HE], trivial⟩
        case measure => simp [intOf]; omega
    · obtain rfl : k = xs.length := by omega
      go_wp2
      go_ret
      exact ⟨ri (by rw [hno.out]; simp [ixFrom]), rfl⟩

def isDeckB (x : List Int) : Bool := inR x.length 1 3 && ordOk x.length x
/-- the same decks are right on both sides, and have the same runs -/
theorem deck_law : ∀ x : List Int, (0 ≤ findD x ↔ isDeckB x = true) ∧ (0 ≤ findD x → runsN x (x.length - 1) = runsM x (x.length - 1)) := by
  have all : ∀ n, n ≤ 3 → ∀ d ∈ decksL n n, runsN d (d.length - 1) = runsM d (d.length - 1) ∧ isDeckB d = decide (1 ≤ n) := by decide
  have key : ∀ x : List Int, isDeckB x = true → x ∈ decksL x.length x.length := by
    intro x hx
    unfold isDeckB at hx
    rw [Bool.and_eq_true] at hx
    have hl := inR_iff.1 hx.1
    have ho := hx.2
    unfold ordOk at ho
    rw [Bool.and_eq_true] at ho
    have ho := ho.1
    have c1 : ∀ y : Int, inR y 0 0 = true → y = 0 := by intro y h; have := inR_iff.1 h; omega
    have c2 : ∀ y : Int, inR y 0 1 = true → y = 0 ∨ y = 1 := by intro y h; have := inR_iff.1 h; omega
    have c3 : ∀ y : Int, inR y 0 2 = true → y = 0 ∨ y = 1 ∨ y = 2 := by intro y h; have := inR_iff.1 h; omega
    match x, hl, ho with
    | [a], _, ho =>
      simp [ordTail] at ho
      obtain rfl := c1 a ho
      decide
    | [a, b], _, ho =>
      simp [ordTail] at ho
      obtain ⟨h1, h2, h3⟩ := ho
      rcases c2 a h1 with rfl | rfl <;> rcases c2 b h2 with rfl | rfl <;> first | decide | (exact absurd rfl h3)
    | [a, b, c], _, ho =>
      simp [ordTail] at ho
      obtain ⟨h1, h2, h3, h4, h5, h6⟩ := ho
      rcases c3 a h1 with rfl | rfl | rfl <;> rcases c3 b h2 with rfl | rfl | rfl <;> rcases c3 c h4 with rfl | rfl | rfl <;> first | decide | (exact absurd rfl h3) | (exact absurd rfl h5) | (exact absurd rfl h6)
    | [], hl, _ => simp at hl
    | a :: b :: c :: d :: r, hl, _ => simp at hl; omega
  intro x
  have hf : 0 ≤ findD x ↔ (1 ≤ x.length ∧ x.length ≤ 3) ∧ x ∈ decksL x.length x.length := by
    unfold findD
    by_cases h : inR x.length 1 3 = true
    · rw [if_pos h, findFrom_ge]
      have := inR_iff.1 h
      constructor
      · intro h; exact ⟨by omega, h⟩
      · intro h; exact h.2
    · rw [if_neg h]
      constructor
      · intro h; omega
      · intro h2; exact absurd (inR_iff.2 (by omega)) h
  refine ⟨⟨fun h => ?_, fun h => ?_⟩, fun h => ?_⟩
  · have h2 := hf.1 h
    have := (all _ h2.1.2 _ h2.2).2
    rw [this]; simp; omega
  · have h2 := h
    unfold isDeckB at h2
    rw [Bool.and_eq_true] at h2
    have := inR_iff.1 h2.1
    exact hf.2 ⟨by omega, key x h⟩
  · have h2 := hf.1 h
    exact (all _ h2.1.2 _ h2.2).1
end Go.Proofs.Ytmhpbkckmjdojaa
