/-
  FnDraws: plain part: how many draws lead to each state, and a run by draws.
-/
import Derived.Test.YtipkdbicijibpaaWindow
namespace Go.Proofs.Ytipkdbicijibpaa
open Go.RowKit Go.Sort
theorem gD_at {α : Type} {l : List α} {k : Nat} {d : α} (h : k < l.length) : l.getD k d = l[k] := by
  rw [List.getD_eq_getElem?_getD, List.getElem?_eq_getElem h]; rfl
theorem toFrom_at : ∀ (r : List Int) (d q : Int) (k i : Nat), q ≤ d → toFrom r d q k = some i → k ≤ i ∧ i - k < r.length ∧ q + (r.take (i - k)).sum ≤ d ∧ d < q + (r.take (i - k + 1)).sum
  | [], _, _, _, _, _, h => by simp [toFrom] at h
  | x :: r, d, q, k, i, hq, h => by
    unfold toFrom at h
    split at h
    · rename_i hlt
      simp at h
      subst h
      simp
      omega
    · rename_i hge
      obtain ⟨h1, h2, h3, h4⟩ := toFrom_at r d (q + x) (k + 1) i (by omega) h
      obtain ⟨j, rfl⟩ : ∃ j, i = k + 1 + j := ⟨i - (k + 1), by omega⟩
      have e1 : k + 1 + j - (k + 1) = j := by omega
      have e2 : k + 1 + j - k = j + 1 := by omega
      rw [e1] at h2 h3 h4
      rw [e2]
      simp only [List.take_succ_cons, List.sum_cons, List.length_cons]
      omega
theorem take_mono {r : List Int} (h : ∀ x ∈ r, 0 ≤ x) : ∀ {a b : Nat}, a ≤ b → (r.take a).sum ≤ (r.take b).sum := by
  intro a b hab
  obtain ⟨c, rfl⟩ : ∃ c, b = a + c := ⟨b - a, by omega⟩
  clear hab
  induction c with
  | zero => exact Int.le_refl _
  | succ c ih =>
    by_cases hl : a + c < r.length
    · have := sum_succ (r := r) hl
      have h2 := h _ (List.getElem_mem hl)
      rw [show a + (c + 1) = a + c + 1 by omega, this]
      omega
    · rw [List.take_of_length_le (show r.length ≤ a + (c + 1) by omega)]
      rw [List.take_of_length_le (show r.length ≤ a + c by omega)] at ih
      exact ih
/-- how many of the first n draws lead to each state -/
def cntD (r : List Int) : Nat → List Int
  | 0 => List.replicate r.length 0
  | n + 1 => (cntD r n).set ((toOf r n).getD 0) ((cntD r n).getD ((toOf r n).getD 0) 0 + 1)
theorem cntD_len (r : List Int) : ∀ n, (cntD r n).length = r.length
  | 0 => by simp [cntD]
  | n + 1 => by unfold cntD; rw [List.length_set, cntD_len r n]
theorem cntD_get {r : List Int} (h : ∀ x ∈ r, 0 ≤ x) (hne : r ≠ []) : ∀ (n : Nat), (n : Int) ≤ r.sum → ∀ j (hj : j < r.length), (cntD r n).getD j 0 = max 0 (min ((n : Int) - (r.take j).sum) r[j])
  | 0, _, j, hj => by
    have hz : (cntD r 0).getD j 0 = 0 := by
      unfold cntD
      rw [List.getD_eq_getElem?_getD, List.getElem?_replicate]
      split <;> rfl
    rw [hz]
    have := take_mono h (Nat.zero_le j)
    simp at this
    simp
    omega
  | n + 1, hs, j, hj => by
    have ih := cntD_get h hne n (by omega) j hj
    obtain ⟨i, hi, _, hil⟩ := toFrom_lt r (n : Int) 0 0 (by omega) hne h
    have hto : toOf r n = some i := hi
    obtain ⟨_, _, h3, h4⟩ := toFrom_at r n 0 0 i (by omega) hi
    simp only [Nat.sub_zero, Int.zero_add] at h3 h4
    have hil2 : i < r.length := by omega
    have hsi := sum_succ (r := r) hil2
    have hsj := sum_succ (r := r) hj
    unfold cntD
    rw [hto, Option.getD_some]
    by_cases e : j = i
    · subst e
      rw [List.getD_eq_getElem?_getD, List.getElem?_set, if_pos rfl, if_pos (by rw [cntD_len]; exact hj)]
      simp only [Option.getD_some]
      rw [ih]
      simp only [Int.natCast_add]
      omega
    · have hset : ((cntD r n).set i ((cntD r n).getD i 0 + 1)).getD j 0 = (cntD r n).getD j 0 := by
        rw [List.getD_eq_getElem?_getD, List.getElem?_set, if_neg (by omega), List.getD_eq_getElem?_getD]
      rw [hset, ih]
      simp only [Int.natCast_add]
      rcases Nat.lt_or_gt_of_ne e with hlt | hgt
      · have := take_mono h (show j + 1 ≤ i by omega)
        omega
      · have := take_mono h (show i + 1 ≤ j by omega)
        omega
theorem cntD_all {r : List Int} (h : ∀ x ∈ r, 0 ≤ x) (hne : r ≠ []) {t : Nat} (ht : r.sum = (t : Int)) : cntD r t = r := by
  refine List.ext_getElem (cntD_len r t) (fun j h1 h2 => ?_)
  have := cntD_get h hne t (by omega) j h2
  rw [gD_at (show j < (cntD r t).length from h1)] at this
  rw [this]
  have hsj := sum_succ (r := r) h2
  have hm := take_mono h (show j + 1 ≤ r.length by omega)
  rw [List.take_length] at hm
  have h0 := h _ (List.getElem_mem h2)
  omega
/-- a run by the first k draws -/
def runN (xss : List (List Int)) (s : Int) (ds : List Int) : Nat → List Int
  | 0 => [s]
  | k + 1 => runN xss s ds k ++ [nxt xss (ds.getD k 0) ((runN xss s ds k).getD k 0)]
theorem runN_len (xss : List (List Int)) (s : Int) (ds : List Int) : ∀ k, (runN xss s ds k).length = k + 1
  | 0 => rfl
  | k + 1 => by unfold runN; rw [List.length_append, runN_len xss s ds k]; rfl
theorem runN_get {xss : List (List Int)} {s : Int} {ds : List Int} {j : Nat} : ∀ {k : Nat}, j ≤ k → (runN xss s ds k).getD j 0 = (runN xss s ds j).getD j 0
  | 0, h => by obtain rfl : j = 0 := by omega
               rfl
  | k + 1, h => by
    by_cases e : j = k + 1
    · subst e; rfl
    · rw [← runN_get (show j ≤ k by omega)]
      conv => lhs; unfold runN
      rw [List.getD_eq_getElem?_getD, List.getElem?_append_left (by rw [runN_len]; omega), List.getD_eq_getElem?_getD]
theorem runN_next {xss : List (List Int)} {s : Int} {ds : List Int} {j k : Nat} (h : j < k) : (runN xss s ds k).getD (j + 1) 0 = nxt xss (ds.getD j 0) ((runN xss s ds k).getD j 0) := by
  rw [runN_get (show j + 1 ≤ k by omega), runN_get (show j ≤ k by omega)]
  conv => lhs; unfold runN
  rw [List.getD_eq_getElem?_getD, List.getElem?_append_right (by rw [runN_len]; omega), runN_len]
  simp
theorem runN_zero {xss : List (List Int)} {s : Int} {ds : List Int} {k : Nat} : (runN xss s ds k).getD 0 0 = s := by rw [runN_get (Nat.zero_le k)]; rfl
theorem runN_in {s t : Int} {xss : List (List Int)} (h : chainOk s t xss = true) {x : Int} (hx : 0 ≤ x ∧ x < xss.length) {ds : List Int} (hd : DrawsB t ds) : ∀ k, k ≤ ds.length → InN xss.length (runN xss x ds k)
  | 0, _ => by intro y hy; simp [runN] at hy; subst hy; exact hx
  | k + 1, hk => by
    have ih := runN_in h hx hd k (by omega)
    intro y hy
    unfold runN at hy
    simp only [List.mem_append, List.mem_singleton] at hy
    rcases hy with hy | rfl
    · exact ih y hy
    · have hkl : k < (runN xss x ds k).length := by rw [runN_len]; omega
      have hm := ih _ (List.getElem_mem hkl)
      have hdk := hd _ (List.getElem_mem (show k < ds.length by omega))
      rw [gD_at hkl, gD_at (show k < ds.length by omega)]
      obtain ⟨z, hz⟩ := Int.eq_ofNat_of_zero_le hm.1
      rw [hz] at hm ⊢
      have := stepAll_in h hdk (l := [(z : Int)]) (fun y hy => by simp at hy; subst hy; exact hm)
      exact this _ (by simp [stepAll])
end Go.Proofs.Ytipkdbicijibpaa
