/-
  Windows: all states run through draws from the last to the first.
-/
import Derived.Test.YtipkdbicijibpaaStep
import Derived.Test.YtipkdbicijibpaaQuietTail
namespace Go.Proofs.Ytipkdbicijibpaa
open Go.RowKit Go.Sort
def nxt (xss : List (List Int)) (d x : Int) : Int := (((toOf (xss.getD x.toNat []) d).getD 0 : Nat) : Int)
def stepAll (xss : List (List Int)) (d : Int) (at' : List Int) : List Int := at'.map (nxt xss d)
def runAll (xss : List (List Int)) (draws : List Int) (n : Nat) : List Int := draws.foldr (stepAll xss) (upTo n)
def DrawsB (t : Int) (draws : List Int) : Prop := ∀ d ∈ draws, 0 ≤ d ∧ d < t
def InN (n : Nat) (l : List Int) : Prop := ∀ x ∈ l, 0 ≤ x ∧ x < n
theorem upTo_in (n : Nat) : InN n (upTo n) := by
  intro x hx
  simp [upTo] at hx
  obtain ⟨i, hi, rfl⟩ := hx
  omega
theorem nxt_spec {s t : Int} {xss : List (List Int)} (h : chainOk s t xss = true) {d : Int} (hd : 0 ≤ d ∧ d < t) {k : Nat} (hk : k < xss.length) :
    ∃ i, toOf xss[k] d = some i ∧ nxt xss d k = (i : Int) ∧ i < xss.length := by
  obtain ⟨hB, hl, hs⟩ := rowB_of h hk
  obtain ⟨h1, h2, h3, h4⟩ := chainOk_parts0 h
  have hne : xss[k] ≠ [] := by intro e; rw [e] at hl; simp at hl; omega
  obtain ⟨i, e1, _, e3⟩ := toFrom_lt xss[k] d 0 0 (by omega) hne (fun x hx => (hB.2 x hx).1)
  refine ⟨i, e1, ?_, by omega⟩
  unfold nxt
  have : xss.getD (k : Int).toNat [] = xss[k] := by simp [hk]
  rw [this]
  unfold toOf
  rw [e1]; rfl
theorem stepAll_in {s t : Int} {xss : List (List Int)} (h : chainOk s t xss = true) {d : Int} (hd : 0 ≤ d ∧ d < t) {l : List Int} (hl : InN xss.length l) : InN xss.length (stepAll xss d l) := by
  intro x hx
  simp [stepAll] at hx
  obtain ⟨y, hy, rfl⟩ := hx
  have hy2 := hl y hy
  obtain ⟨k, rfl⟩ := Int.eq_ofNat_of_zero_le hy2.1
  obtain ⟨i, _, e2, e3⟩ := nxt_spec h hd (k := k) (by omega)
  rw [e2]; omega
theorem runAll_in {s t : Int} {xss : List (List Int)} (h : chainOk s t xss = true) : ∀ {draws : List Int}, DrawsB t draws → InN xss.length (runAll xss draws xss.length)
  | [], _ => upTo_in _
  | d :: ds, hd => stepAll_in h (hd d (by simp)) (runAll_in h (fun x hx => hd x (by simp [hx])))
theorem runAll_length (xss : List (List Int)) (n : Nat) : ∀ draws : List Int, (runAll xss draws n).length = n
  | [] => by simp [runAll, upTo]
  | d :: ds => by
    have := runAll_length xss n ds
    unfold runAll at this ⊢
    simp [stepAll, this]
theorem runAll_drop {xss : List (List Int)} {draws : List Int} {n k : Nat} (hk : k < draws.length) : runAll xss (draws.drop k) n = stepAll xss draws[k] (runAll xss (draws.drop (k + 1)) n) := by
  rw [List.drop_eq_getElem_cons hk]; rfl
theorem mixStep {xss : List (List Int)} {d : Int} {l : List Int} {i : Nat} (hi : i < l.length) :
    ((stepAll xss d l).take i ++ l.drop i).set i (nxt xss d l[i]) = (stepAll xss d l).take (i + 1) ++ l.drop (i + 1) := by
  have h1 : i < (stepAll xss d l).length := by simp [stepAll]; exact hi
  rw [List.set_append_right _ _ (by simp; omega), List.take_succ_eq_append_getElem h1, List.drop_eq_getElem_cons hi, List.append_assoc]
  have e2 : i - ((stepAll xss d l).take i).length = 0 := by simp [stepAll]; omega
  rw [e2, List.set_cons_zero]
  simp [stepAll]
theorem mixGet {xss : List (List Int)} {d : Int} {l : List Int} {i : Nat} (hi : i < l.length) :
    ((stepAll xss d l).take i ++ l.drop i)[i]'(by simp [stepAll]; omega) = l[i] := by
  rw [List.getElem_append_right (by rw [List.length_take]; omega)]
  simp [stepAll, Nat.min_eq_left (Nat.le_of_lt hi)]
theorem mixLen {xss : List (List Int)} {d : Int} {l : List Int} {i : Nat} (hi : i ≤ l.length) : ((stepAll xss d l).take i ++ l.drop i).length = l.length := by
  simp [stepAll]; omega
def allAs (l : List Int) : Bool := l.all fun x => decide (x = l.headD 0)
def winMet (l : List Int) : Bool := allAs l
def winState (l : List Int) : Int := if allAs l = true then l.headD 0 else 0

theorem head_get {l : List Int} (h : 0 < l.length) : l[0] = l.headD 0 := by
  cases l with
  | nil => simp at h
  | cons x l => rfl
theorem head_one {l : List Int} (h : 0 < l.length) : (l.take 1).all (fun x => decide (x = l.headD 0)) = true := by
  cases l with
  | nil => simp at h
  | cons x l => simp
theorem all_succ {l : List Int} {j : Nat} {c : Int} (h : (l.take j).all (fun x => decide (x = c)) = true) (hj : j < l.length) (he : l[j] = c) : (l.take (j + 1)).all (fun x => decide (x = c)) = true := by
  rw [List.take_succ_eq_append_getElem hj, List.all_append, h]; simp [he]
theorem allAs_no {l : List Int} {j : Nat} (hj : j < l.length) (he : ¬ l[j] = l.headD 0) : allAs l = false := by
  unfold allAs
  rw [List.all_eq_false]
  exact ⟨l[j], List.getElem_mem hj, by simpa using he⟩
theorem ret_win {l : List Int} (h : allAs l = false) : Ending.returned (.tuple #[.bool false, .int .i64 0]) = .returned (.tuple #[.bool (winMet l), .int .i64 (winState l)]) := by
  unfold winMet winState; rw [h]; rfl
theorem ret_win2 {l : List Int} (h : allAs l = true) : Ending.returned (.tuple #[.bool true, .int .i64 (l.headD 0)]) = .returned (.tuple #[.bool (winMet l), .int .i64 (winState l)]) := by
  unfold winMet winState; rw [h]; rfl
/-- the class form of the contract of l01To -/
theorem l01To_b {v : Value} {xss : List (List Int)} (b o : Nat) (s t d : Int) (k : Nat) (w : World) (hc : ChainAt w b o s t v) (ha : SlII w v xss) (hv : chainOk s t xss = true) (hd : 0 ≤ d ∧ d < t) (hk : k < xss.length) :
    Calls Try.prog 53 #[.pointer (some ⟨b, o, none⟩), .int .i64 k, .int .i64 d] w fun e w' => e = .returned (.int .i64 (nxt xss d k)) ∧ Below w.heap.size w w' := by
  obtain ⟨hB, hl, _⟩ := rowB_of hv hk
  obtain ⟨i, e1, e2, _⟩ := nxt_spec hv hd hk
  refine (l01To_any b o s t d k w hc ha hk hB hl).mono fun e w' ⟨h1, h2⟩ => ?_
  subst h2
  exact ⟨by rw [h1, e1, e2]; rfl, Below.refl _ _⟩
theorem stepByDraw_b {v : Value} {xss : List (List Int)} (s t d : Int) (k : Nat) (w : World) (ha : SlII w v xss) (hv : chainOk s t xss = true) (hd : 0 ≤ d ∧ d < t) (hk : k < xss.length) :
    Calls Try.prog 48 #[.agg #[.int .i64 s, .int .i64 t, v], .int .i64 k, .int .i64 d] w fun e w' => e = .returned (.int .i64 (nxt xss d k)) ∧ Below w.heap.size w w' := by
  obtain ⟨hB, hl, _⟩ := rowB_of hv hk
  obtain ⟨i, e1, e2, _⟩ := nxt_spec hv hd hk
  refine (stepByDraw_any s t d k w ha hk hB).mono fun e w' ⟨h1, h2⟩ => ?_
  exact ⟨by rw [h1, e1, e2]; rfl, h2⟩
end Go.Proofs.Ytipkdbicijibpaa
