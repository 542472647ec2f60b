/-
  Which chains are valid: the reference's look and the program's.
-/
import Derived.Test.YtmhpbkckmjdojaaBaseII
namespace Go.Proofs.Ytmhpbkckmjdojaa
open Go.RowKit Go.Sort

theorem l00In_b (x a b : Int) (w : World) :
    Calls Try.prog 36 #[.int .i64 x, .int .i64 a, .int .i64 b] w fun e w' => e = .returned (.bool (inR x a b)) ∧ Below w.heap.size w w' :=
  (l00In_any x a b w).mono fun _ _ ⟨h, hw⟩ => ⟨h, hw ▸ Below.refl _ _⟩
theorem inRange_b (x a b : Int) (w : World) :
    Calls Try.prog 41 #[.int .i64 x, .int .i64 a, .int .i64 b] w fun e w' => e = .returned (.bool (inR x a b)) ∧ Below w.heap.size w w' :=
  (inRange_any x a b w).mono fun _ _ ⟨h, hw⟩ => ⟨h, hw ▸ Below.refl _ _⟩

theorem rbf {b : Bool} (h : b = false) : Ending.returned (.bool false) = .returned (.bool b) := by rw [h]
theorem rbt {b : Bool} (h : b = true) : Ending.returned (.bool true) = .returned (.bool b) := by rw [h]
def inAll (r : List Int) (t : Int) : Bool := r.all fun x => inR x 0 t
def rowOk (s t : Int) (r : List Int) : Bool := decide ((r.length : Int) = s) && (inAll r t && decide (r.sum = t))
def rowsOk (s t : Int) (xss : List (List Int)) : Bool := xss.all (rowOk s t)
def chainOk (s t : Int) (xss : List (List Int)) : Bool := inR s 1 6 && (inR t 1 60 && (decide ((xss.length : Int) = s) && rowsOk s t xss))
theorem inAll_succ {r : List Int} {t : Int} {j : Nat} (h : inAll (r.take j) t = true) (hj : j < r.length) (hx : inR r[j] 0 t = true) : inAll (r.take (j + 1)) t = true := by
  unfold inAll at *
  rw [List.take_succ_eq_append_getElem hj, List.all_append, h]
  simp [hx]
theorem inAll_false {r : List Int} {t : Int} {j : Nat} (hj : j < r.length) (hx : inR r[j] 0 t = false) : inAll r t = false := by
  unfold inAll
  rw [List.all_eq_false]
  exact ⟨r[j], List.getElem_mem hj, by simp [hx]⟩
theorem sum_succ {r : List Int} {j : Nat} (hj : j < r.length) : (r.take (j + 1)).sum = (r.take j).sum + r[j] := by
  rw [List.take_succ_eq_append_getElem hj, List.sum_append]; simp
theorem inAll_sum {t : Int} (ht : t ≤ 60) : ∀ {r : List Int}, inAll r t = true → 0 ≤ r.sum ∧ r.sum ≤ 60 * (r.length : Int)
  | [], _ => by simp
  | x :: r, h => by
    unfold inAll at h
    rw [List.all_cons, Bool.and_eq_true] at h
    have h1 := inR_iff.1 h.1
    have h2 := inAll_sum ht (r := r) h.2
    simp only [List.sum_cons, List.length_cons]
    omega
theorem rowsOk_succ {s t : Int} {xss : List (List Int)} {k : Nat} (h : rowsOk s t (xss.take k) = true) (hk : k < xss.length) (hx : rowOk s t xss[k] = true) : rowsOk s t (xss.take (k + 1)) = true := by
  unfold rowsOk at *
  rw [List.take_succ_eq_append_getElem hk, List.all_append, h]
  simp [hx]
theorem rowsOk_false {s t : Int} {xss : List (List Int)} {k : Nat} (hk : k < xss.length) (hx : rowOk s t xss[k] = false) : rowsOk s t xss = false := by
  unfold rowsOk
  rw [List.all_eq_false]
  exact ⟨xss[k], List.getElem_mem hk, by simp [hx]⟩
theorem rowOk_len {s t : Int} {r : List Int} (h : ¬ (r.length : Int) = s) : rowOk s t r = false := by simp [rowOk, h]
theorem rowOk_in {s t : Int} {r : List Int} (h : inAll r t = false) : rowOk s t r = false := by simp [rowOk, h]
theorem rowOk_sum {s t : Int} {r : List Int} (h : ¬ r.sum = t) : rowOk s t r = false := by simp [rowOk, h]
theorem rowOk_yes {s t : Int} {r : List Int} (h1 : (r.length : Int) = s) (h2 : inAll r t = true) (h3 : r.sum = t) : rowOk s t r = true := by simp [rowOk, h1, h2, h3]

/-- three cells: a chain -/
def ChainAt (w : World) (b o : Nat) (s t : Int) (v : Value) : Prop :=
  b < w.heap.size ∧ w.cell? ⟨b, o, none⟩ = some (.int .i64 s) ∧ w.cell? ⟨b, o + 1, none⟩ = some (.int .i64 t) ∧ w.cell? ⟨b, o + 2, none⟩ = some v
theorem ChainAt.below {w w' : World} {b o : Nat} {s t : Int} {v : Value} (h : ChainAt w b o s t v) (hb : Below w.heap.size w w') : ChainAt w' b o s t v :=
  ⟨Nat.lt_of_lt_of_le h.1 hb.size, by rw [hb.cell (p := ⟨b, o, none⟩) h.1]; exact h.2.1, by rw [hb.cell (p := ⟨b, o + 1, none⟩) h.1]; exact h.2.2.1, by rw [hb.cell (p := ⟨b, o + 2, none⟩) h.1]; exact h.2.2.2⟩

/-- a row at its place -/
def RowAt (w : World) (b off k : Nat) (u : Value) (r : List Int) : Prop := b < w.heap.size ∧ w.cell? ⟨b, off + k, none⟩ = some u ∧ SlI w u r
theorem RowAt.below {w w' : World} {b off k : Nat} {u : Value} {r : List Int} (h : RowAt w b off k u r) (hb : Below w.heap.size w w') : RowAt w' b off k u r :=
  ⟨Nat.lt_of_lt_of_le h.1 hb.size, by rw [hb.cell (p := ⟨b, off + k, none⟩) h.1]; exact h.2.1, h.2.2.below hb⟩
theorem SlII.rowAt {w : World} {ad : Option Addr} {vs : List Value} {xss : List (List Int)} (hl : vs.length = xss.length) (h : Rd w ad vs) (hr : ∀ (i : Nat) (hi : i < xss.length) u, vs[i]? = some u → SlI w u xss[i]) {k : Nat} (hk : k < xss.length) :
    ∃ u b off, ad = some ⟨b, off, none⟩ ∧ RowAt w b off k u xss[k] := by
  obtain ⟨b, off, h1, h2, h3⟩ := h k _ (List.getElem?_eq_getElem (by omega : k < vs.length))
  exact ⟨_, b, off, h1, h2, h3, hr k hk _ (List.getElem?_eq_getElem (by omega))⟩
end Go.Proofs.Ytmhpbkckmjdojaa
