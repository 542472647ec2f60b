/-
  FnClasses: plain part. With it: Windows: all states run through draws from the last to the first. FnDraws: plain part: how many draws lead to each state, and a run by draws. slices.Max, slices.Min, allSame. Reachable states of a chain: plain part. Classes of states: plain part.
-/
import Derived.Test.YtghdginjdolgpaaZRowFnClasses4
import Derived.Test.YtghdginjdolgpaaZRowFnClasses2
set_option linter.unusedVariables false
set_option linter.unusedSimpArgs false
namespace Go.Proofs.Ytghdginjdolgpaa
open Go.RowKit Go.Sort
def nxt (xss : List (List Int)) (d x : Int) : Int := (((toOf (xss.getD x.toNat []) d).getD 0 : Nat) : Int)
def stepAll (xss : List (List Int)) (d : Int) (at' : List Int) : List Int := at'.map (nxt xss d)
def runAll (xss : List (List Int)) (draws : List Int) (n : Nat) : List Int := draws.foldr (stepAll xss) (upTo n)
def DrawsB (t : Int) (draws : List Int) : Prop := ∀ d ∈ draws, 0 ≤ d ∧ d < t
def InN (n : Nat) (l : List Int) : Prop := ∀ x ∈ l, 0 ≤ x ∧ x < n
theorem upTo_in (n : Nat) : InN n (upTo n) := by
  intro x hx
  simp [upTo] at hx
  obtain ⟨i, hi, rfl⟩ := hx
  omega
theorem nxt_spec {s t : Int} {xss : List (List Int)} (h : chainOk s t xss = true) {d : Int} (hd : 0 ≤ d ∧ d < t) {k : Nat} (hk : k < xss.length) :
    ∃ i, toOf xss[k] d = some i ∧ nxt xss d k = (i : Int) ∧ i < xss.length := by
  obtain ⟨hB, hl, hs⟩ := rowB_of h hk
  obtain ⟨h1, h2, h3, h4⟩ := chainOk_parts0 h
  have hne : xss[k] ≠ [] := by intro e; rw [e] at hl; simp at hl; omega
  obtain ⟨i, e1, _, e3⟩ := toFrom_lt xss[k] d 0 0 (by omega) hne (fun x hx => (hB.2 x hx).1)
  refine ⟨i, e1, ?_, by omega⟩
  unfold nxt
  have : xss.getD (k : Int).toNat [] = xss[k] := by simp [hk]
  rw [this]
  unfold toOf
  rw [e1]; rfl
theorem stepAll_in {s t : Int} {xss : List (List Int)} (h : chainOk s t xss = true) {d : Int} (hd : 0 ≤ d ∧ d < t) {l : List Int} (hl : InN xss.length l) : InN xss.length (stepAll xss d l) := by
  intro x hx
  simp [stepAll] at hx
  obtain ⟨y, hy, rfl⟩ := hx
  have hy2 := hl y hy
  obtain ⟨k, rfl⟩ := Int.eq_ofNat_of_zero_le hy2.1
  obtain ⟨i, _, e2, e3⟩ := nxt_spec h hd (k := k) (by omega)
  rw [e2]; omega
theorem runAll_in {s t : Int} {xss : List (List Int)} (h : chainOk s t xss = true) : ∀ {draws : List Int}, DrawsB t draws → InN xss.length (runAll xss draws xss.length)
  | [], _ => upTo_in _
  | d :: ds, hd => stepAll_in h (hd d (by simp)) (runAll_in h (fun x hx => hd x (by simp [hx])))
theorem runAll_length (xss : List (List Int)) (n : Nat) : ∀ draws : List Int, (runAll xss draws n).length = n
  | [] => by simp [runAll, upTo]
  | d :: ds => by
    have := runAll_length xss n ds
    unfold runAll at this ⊢
    simp [stepAll, this]
theorem runAll_drop {xss : List (List Int)} {draws : List Int} {n k : Nat} (hk : k < draws.length) : runAll xss (draws.drop k) n = stepAll xss draws[k] (runAll xss (draws.drop (k + 1)) n) := by
  rw [List.drop_eq_getElem_cons hk]; rfl
theorem mixStep {xss : List (List Int)} {d : Int} {l : List Int} {i : Nat} (hi : i < l.length) :
    ((stepAll xss d l).take i ++ l.drop i).set i (nxt xss d l[i]) = (stepAll xss d l).take (i + 1) ++ l.drop (i + 1) := by
  have h1 : i < (stepAll xss d l).length := by simp [stepAll]; exact hi
  rw [List.set_append_right _ _ (by simp; omega), List.take_succ_eq_append_getElem h1, List.drop_eq_getElem_cons hi, List.append_assoc]
  have e2 : i - ((stepAll xss d l).take i).length = 0 := by simp [stepAll]; omega
  rw [e2, List.set_cons_zero]
  simp [stepAll]
theorem mixGet {xss : List (List Int)} {d : Int} {l : List Int} {i : Nat} (hi : i < l.length) :
    ((stepAll xss d l).take i ++ l.drop i)[i]'(by simp [stepAll]; omega) = l[i] := by
  rw [List.getElem_append_right (by rw [List.length_take]; omega)]
  simp [stepAll, Nat.min_eq_left (Nat.le_of_lt hi)]
theorem mixLen {xss : List (List Int)} {d : Int} {l : List Int} {i : Nat} (hi : i ≤ l.length) : ((stepAll xss d l).take i ++ l.drop i).length = l.length := by
  simp [stepAll]; omega
def allAs (l : List Int) : Bool := l.all fun x => decide (x = l.headD 0)
def winMet (l : List Int) : Bool := allAs l
def winState (l : List Int) : Int := if allAs l = true then l.headD 0 else 0

theorem head_get {l : List Int} (h : 0 < l.length) : l[0] = l.headD 0 := by
  cases l with
  | nil => simp at h
  | cons x l => rfl
theorem head_one {l : List Int} (h : 0 < l.length) : (l.take 1).all (fun x => decide (x = l.headD 0)) = true := by
  cases l with
  | nil => simp at h
  | cons x l => simp
theorem all_succ {l : List Int} {j : Nat} {c : Int} (h : (l.take j).all (fun x => decide (x = c)) = true) (hj : j < l.length) (he : l[j] = c) : (l.take (j + 1)).all (fun x => decide (x = c)) = true := by
  rw [List.take_succ_eq_append_getElem hj, List.all_append, h]; simp [he]
theorem allAs_no {l : List Int} {j : Nat} (hj : j < l.length) (he : ¬ l[j] = l.headD 0) : allAs l = false := by
  unfold allAs
  rw [List.all_eq_false]
  exact ⟨l[j], List.getElem_mem hj, by simpa using he⟩
theorem ret_win {l : List Int} (h : allAs l = false) : Ending.returned (.tuple #[.bool false, .int .i64 0]) = .returned (.tuple #[.bool (winMet l), .int .i64 (winState l)]) := by
  unfold winMet winState; rw [h]; rfl
theorem ret_win2 {l : List Int} (h : allAs l = true) : Ending.returned (.tuple #[.bool true, .int .i64 (l.headD 0)]) = .returned (.tuple #[.bool (winMet l), .int .i64 (winState l)]) := by
  unfold winMet winState; rw [h]; rfl
theorem stepByDraw_b {v : Value} {xss : List (List Int)} (s t d : Int) (k : Nat) (w : World) (ha : SlII w v xss) (hv : chainOk s t xss = true) (hd : 0 ≤ d ∧ d < t) (hk : k < xss.length) :
    Calls Try.prog 46 #[.agg #[.int .i64 s, .int .i64 t, v], .int .i64 k, .int .i64 d] w fun e w' => e = .returned (.int .i64 (nxt xss d k)) ∧ Below w.heap.size w w' := by
  obtain ⟨hB, hl, _⟩ := rowB_of hv hk
  obtain ⟨i, e1, e2, _⟩ := nxt_spec hv hd hk
  refine (stepByDraw_any s t d k w ha hk hB).mono fun e w' ⟨h1, h2⟩ => ?_
  exact ⟨by rw [h1, e1, e2]; rfl, h2⟩
end Go.Proofs.Ytghdginjdolgpaa
namespace Go.Proofs.Ytghdginjdolgpaa
open Go.RowKit Go.Sort
theorem gD_at {α : Type} {l : List α} {k : Nat} {d : α} (h : k < l.length) : l.getD k d = l[k] := by
  rw [List.getD_eq_getElem?_getD, List.getElem?_eq_getElem h]; rfl
theorem toFrom_at : ∀ (r : List Int) (d q : Int) (k i : Nat), q ≤ d → toFrom r d q k = some i → k ≤ i ∧ i - k < r.length ∧ q + (r.take (i - k)).sum ≤ d ∧ d < q + (r.take (i - k + 1)).sum
  | [], _, _, _, _, _, h => by simp [toFrom] at h
  | x :: r, d, q, k, i, hq, h => by
    unfold toFrom at h
    split at h
    · rename_i hlt
      simp at h
      subst h
      simp
      omega
    · rename_i hge
      obtain ⟨h1, h2, h3, h4⟩ := toFrom_at r d (q + x) (k + 1) i (by omega) h
      obtain ⟨j, rfl⟩ : ∃ j, i = k + 1 + j := ⟨i - (k + 1), by omega⟩
      have e1 : k + 1 + j - (k + 1) = j := by omega
      have e2 : k + 1 + j - k = j + 1 := by omega
      rw [e1] at h2 h3 h4
      rw [e2]
      simp only [List.take_succ_cons, List.sum_cons, List.length_cons]
      omega
theorem take_mono {r : List Int} (h : ∀ x ∈ r, 0 ≤ x) : ∀ {a b : Nat}, a ≤ b → (r.take a).sum ≤ (r.take b).sum := by
  intro a b hab
  obtain ⟨c, rfl⟩ : ∃ c, b = a + c := ⟨b - a, by omega⟩
  clear hab
  induction c with
  | zero => exact Int.le_refl _
  | succ c ih =>
    by_cases hl : a + c < r.length
    · have := sum_succ (r := r) hl
      have h2 := h _ (List.getElem_mem hl)
      rw [show a + (c + 1) = a + c + 1 by omega, this]
      omega
    · rw [List.take_of_length_le (show r.length ≤ a + (c + 1) by omega)]
      rw [List.take_of_length_le (show r.length ≤ a + c by omega)] at ih
      exact ih
/-- how many of the first n draws lead to each state -/
def cntD (r : List Int) : Nat → List Int
  | 0 => List.replicate r.length 0
  | n + 1 => (cntD r n).set ((toOf r n).getD 0) ((cntD r n).getD ((toOf r n).getD 0) 0 + 1)
theorem cntD_len (r : List Int) : ∀ n, (cntD r n).length = r.length
  | 0 => by simp [cntD]
  | n + 1 => by unfold cntD; rw [List.length_set, cntD_len r n]
theorem cntD_get {r : List Int} (h : ∀ x ∈ r, 0 ≤ x) (hne : r ≠ []) : ∀ (n : Nat), (n : Int) ≤ r.sum → ∀ j (hj : j < r.length), (cntD r n).getD j 0 = max 0 (min ((n : Int) - (r.take j).sum) r[j])
  | 0, _, j, hj => by
    have hz : (cntD r 0).getD j 0 = 0 := by
      unfold cntD
      rw [List.getD_eq_getElem?_getD, List.getElem?_replicate]
      split <;> rfl
    rw [hz]
    have := take_mono h (Nat.zero_le j)
    simp at this
    simp
    omega
  | n + 1, hs, j, hj => by
    have ih := cntD_get h hne n (by omega) j hj
    obtain ⟨i, hi, _, hil⟩ := toFrom_lt r (n : Int) 0 0 (by omega) hne h
    have hto : toOf r n = some i := hi
    obtain ⟨_, _, h3, h4⟩ := toFrom_at r n 0 0 i (by omega) hi
    simp only [Nat.sub_zero, Int.zero_add] at h3 h4
    have hil2 : i < r.length := by omega
    have hsi := sum_succ (r := r) hil2
    have hsj := sum_succ (r := r) hj
    unfold cntD
    rw [hto, Option.getD_some]
    by_cases e : j = i
    · subst e
      rw [List.getD_eq_getElem?_getD, List.getElem?_set, if_pos rfl, if_pos (by rw [cntD_len]; exact hj)]
      simp only [Option.getD_some]
      rw [ih]
      simp only [Int.natCast_add]
      omega
    · have hset : ((cntD r n).set i ((cntD r n).getD i 0 + 1)).getD j 0 = (cntD r n).getD j 0 := by
        rw [List.getD_eq_getElem?_getD, List.getElem?_set, if_neg (by omega), List.getD_eq_getElem?_getD]
      rw [hset, ih]
      simp only [Int.natCast_add]
      rcases Nat.lt_or_gt_of_ne e with hlt | hgt
      · have := take_mono h (show j + 1 ≤ i by omega)
        omega
      · have := take_mono h (show i + 1 ≤ j by omega)
        omega
theorem cntD_all {r : List Int} (h : ∀ x ∈ r, 0 ≤ x) (hne : r ≠ []) {t : Nat} (ht : r.sum = (t : Int)) : cntD r t = r := by
  refine List.ext_getElem (cntD_len r t) (fun j h1 h2 => ?_)
  have := cntD_get h hne t (by omega) j h2
  rw [gD_at (show j < (cntD r t).length from h1)] at this
  rw [this]
  have hsj := sum_succ (r := r) h2
  have hm := take_mono h (show j + 1 ≤ r.length by omega)
  rw [List.take_length] at hm
  have h0 := h _ (List.getElem_mem h2)
  omega
/-- a run by the first k draws -/
def runN (xss : List (List Int)) (s : Int) (ds : List Int) : Nat → List Int
  | 0 => [s]
  | k + 1 => runN xss s ds k ++ [nxt xss (ds.getD k 0) ((runN xss s ds k).getD k 0)]
theorem runN_len (xss : List (List Int)) (s : Int) (ds : List Int) : ∀ k, (runN xss s ds k).length = k + 1
  | 0 => rfl
  | k + 1 => by unfold runN; rw [List.length_append, runN_len xss s ds k]; rfl
theorem runN_get {xss : List (List Int)} {s : Int} {ds : List Int} {j : Nat} : ∀ {k : Nat}, j ≤ k → (runN xss s ds k).getD j 0 = (runN xss s ds j).getD j 0
  | 0, h => by obtain rfl : j = 0 := by omega
               rfl
  | k + 1, h => by
    by_cases e : j = k + 1
    · subst e; rfl
    · rw [← runN_get (show j ≤ k by omega)]
      conv => lhs; unfold runN
      rw [List.getD_eq_getElem?_getD, List.getElem?_append_left (by rw [runN_len]; omega), List.getD_eq_getElem?_getD]
theorem runN_next {xss : List (List Int)} {s : Int} {ds : List Int} {j k : Nat} (h : j < k) : (runN xss s ds k).getD (j + 1) 0 = nxt xss (ds.getD j 0) ((runN xss s ds k).getD j 0) := by
  rw [runN_get (show j + 1 ≤ k by omega), runN_get (show j ≤ k by omega)]
  conv => lhs; unfold runN
  rw [List.getD_eq_getElem?_getD, List.getElem?_append_right (by rw [runN_len]; omega), runN_len]
  simp
theorem runN_zero {xss : List (List Int)} {s : Int} {ds : List Int} {k : Nat} : (runN xss s ds k).getD 0 0 = s := by rw [runN_get (Nat.zero_le k)]; rfl
theorem runN_in {s t : Int} {xss : List (List Int)} (h : chainOk s t xss = true) {x : Int} (hx : 0 ≤ x ∧ x < xss.length) {ds : List Int} (hd : DrawsB t ds) : ∀ k, k ≤ ds.length → InN xss.length (runN xss x ds k)
  | 0, _ => by intro y hy; simp [runN] at hy; subst hy; exact hx
  | k + 1, hk => by
    have ih := runN_in h hx hd k (by omega)
    intro y hy
    unfold runN at hy
    simp only [List.mem_append, List.mem_singleton] at hy
    rcases hy with hy | rfl
    · exact ih y hy
    · have hkl : k < (runN xss x ds k).length := by rw [runN_len]; omega
      have hm := ih _ (List.getElem_mem hkl)
      have hdk := hd _ (List.getElem_mem (show k < ds.length by omega))
      rw [gD_at hkl, gD_at (show k < ds.length by omega)]
      obtain ⟨z, hz⟩ := Int.eq_ofNat_of_zero_le hm.1
      rw [hz] at hm ⊢
      have := stepAll_in h hdk (l := [(z : Int)]) (fun y hy => by simp at hy; subst hy; exact hm)
      exact this _ (by simp [stepAll])
end Go.Proofs.Ytghdginjdolgpaa
namespace Go.Proofs.Ytghdginjdolgpaa
open Go.RowKit Go.Sort
def mxTo (l : List Int) (j : Nat) : Int := (l.take j).foldl max (l.headD 0)
def mnTo (l : List Int) (j : Nat) : Int := (l.take j).foldl min (l.headD 0)
theorem mxTo_succ {l : List Int} {j : Nat} (hj : j < l.length) : mxTo l (j + 1) = max (mxTo l j) l[j] := by
  unfold mxTo; rw [List.take_succ_eq_append_getElem hj, List.foldl_append]; rfl
theorem mnTo_succ {l : List Int} {j : Nat} (hj : j < l.length) : mnTo l (j + 1) = min (mnTo l j) l[j] := by
  unfold mnTo; rw [List.take_succ_eq_append_getElem hj, List.foldl_append]; rfl
theorem foldl_max_ge : ∀ (l : List Int) (a : Int), a ≤ l.foldl max a ∧ ∀ x ∈ l, x ≤ l.foldl max a
  | [], a => ⟨Int.le_refl _, by simp⟩
  | y :: l, a => by
    obtain ⟨h1, h2⟩ := foldl_max_ge l (max a y)
    rw [List.foldl_cons]
    refine ⟨by omega, fun x hx => ?_⟩
    simp at hx
    rcases hx with rfl | hx
    · omega
    · exact h2 x hx
theorem foldl_min_le : ∀ (l : List Int) (a : Int), l.foldl min a ≤ a ∧ ∀ x ∈ l, l.foldl min a ≤ x
  | [], a => ⟨Int.le_refl _, by simp⟩
  | y :: l, a => by
    obtain ⟨h1, h2⟩ := foldl_min_le l (min a y)
    rw [List.foldl_cons]
    refine ⟨by omega, fun x hx => ?_⟩
    simp at hx
    rcases hx with rfl | hx
    · omega
    · exact h2 x hx
theorem foldl_same : ∀ (l : List Int) (a : Int), (∀ x ∈ l, x = a) → l.foldl max a = a ∧ l.foldl min a = a
  | [], _, _ => ⟨rfl, rfl⟩
  | y :: l, a, h => by
    have hy : y = a := h y (by simp)
    subst hy
    have := foldl_same l y (fun x hx => h x (by simp [hx]))
    simpa using this
theorem allAs_mm (l : List Int) : decide (mxTo l l.length = mnTo l l.length) = allAs l := by
  unfold mxTo mnTo
  rw [List.take_length]
  by_cases h : allAs l = true
  · rw [h]
    have h2 : ∀ x ∈ l, x = l.headD 0 := by
      intro x hx
      unfold allAs at h
      rw [List.all_eq_true] at h
      simpa using h x hx
    obtain ⟨h3, h4⟩ := foldl_same l _ h2
    rw [h3, h4]; simp
  · have h' : allAs l = false := by simpa using h
    rw [h']
    simp only [decide_eq_false_iff_not]
    intro e
    apply h
    unfold allAs
    rw [List.all_eq_true]
    intro x hx
    have h1 := (foldl_max_ge l (l.headD 0))
    have h2 := (foldl_min_le l (l.headD 0))
    have h3 := h1.2 x hx
    have h4 := h2.2 x hx
    exact decide_eq_true (by omega)
set_option maxHeartbeats 400000 in
theorem Max_any {v : Value} {l : List Int} (w : World) (ha : SlI w v l) (hne : 0 < l.length) :
    Calls Try.prog 79 #[v] w fun e w' => e = .returned (.int .i64 (mxTo l l.length)) ∧ w = w' := by
  obtain ⟨a, c, rfl, hc, hc', hrd⟩ := ha
  unfold maxLen at hc'
  have hm : l.length ≤ 9223372036854775807 := by omega
  have hm1 : ¬ ((l.length : Int) < 1) := by omega
  obtain ⟨b, off, rfl, g0⟩ := hrd.one (i64s_get hne)
  have hh := head_get hne
  rw [hh, Nat.add_zero] at g0
  have e1 : mxTo l 1 = l.headD 0 := by
    cases l with
    | nil => simp at hne
    | cons x l => simp [mxTo]
  obtain ⟨h, hq⟩ : ∃ h : Int, h = l.headD 0 := ⟨_, rfl⟩
  rw [← hq] at g0 e1
  have E1 := Lib.hid e1
  clear hh hc hc' hq e1
  go_enter Try.func79, Try.ntmps79
  go_wp2
  go_loopw [3, 4] (fun m i wr => ∃ j : Nat, 1 ≤ j ∧ j ≤ l.length ∧ i = .int .i64 j ∧ m = .int .i64 (mxTo l j) ∧ wr = w) (fun _ i _ => l.length - (intOf i).toNat)
  case atStart => exact ⟨1, by omega, by omega, rfl, vi E1.out.symm, rfl⟩
  case round =>
    obtain ⟨j, hj1, hj, rfl, rfl, rfl⟩ := hrel
    clear g0
    by_cases hjt : j < l.length
    · have hs := mxTo_succ hjt
      have HS := Lib.hid hs
      obtain ⟨b', off', he, gj⟩ := hrd.one (i64s_get hjt)
      simp at he
      obtain ⟨rfl, rfl⟩ := he
      clear hs
      go_wp2
      go_roundw
      case rel => exact ⟨j + 1, by omega, by omega, by go_num, vi (by rw [HS.out]; split <;> omega), trivial⟩
      case measure => simp [intOf]; omega
    · obtain rfl : j = l.length := by omega
      go_wp2
      go_ret
      exact ⟨rfl, rfl⟩
set_option maxHeartbeats 400000 in
theorem Min_any {v : Value} {l : List Int} (w : World) (ha : SlI w v l) (hne : 0 < l.length) :
    Calls Try.prog 80 #[v] w fun e w' => e = .returned (.int .i64 (mnTo l l.length)) ∧ w = w' := by
  obtain ⟨a, c, rfl, hc, hc', hrd⟩ := ha
  unfold maxLen at hc'
  have hm : l.length ≤ 9223372036854775807 := by omega
  have hm1 : ¬ ((l.length : Int) < 1) := by omega
  obtain ⟨b, off, rfl, g0⟩ := hrd.one (i64s_get hne)
  have hh := head_get hne
  rw [hh, Nat.add_zero] at g0
  have e1 : mnTo l 1 = l.headD 0 := by
    cases l with
    | nil => simp at hne
    | cons x l => simp [mnTo]
  obtain ⟨h, hq⟩ : ∃ h : Int, h = l.headD 0 := ⟨_, rfl⟩
  rw [← hq] at g0 e1
  have E1 := Lib.hid e1
  clear hh hc hc' hq e1
  go_enter Try.func80, Try.ntmps80
  go_wp2
  go_loopw [3, 4] (fun m i wr => ∃ j : Nat, 1 ≤ j ∧ j ≤ l.length ∧ i = .int .i64 j ∧ m = .int .i64 (mnTo l j) ∧ wr = w) (fun _ i _ => l.length - (intOf i).toNat)
  case atStart => exact ⟨1, by omega, by omega, rfl, vi E1.out.symm, rfl⟩
  case round =>
    obtain ⟨j, hj1, hj, rfl, rfl, rfl⟩ := hrel
    clear g0
    by_cases hjt : j < l.length
    · have hs := mnTo_succ hjt
      have HS := Lib.hid hs
      obtain ⟨b', off', he, gj⟩ := hrd.one (i64s_get hjt)
      simp at he
      obtain ⟨rfl, rfl⟩ := he
      clear hs
      go_wp2
      go_roundw
      case rel => exact ⟨j + 1, by omega, by omega, by go_num, vi (by rw [HS.out]; split <;> omega), trivial⟩
      case measure => simp [intOf]; omega
    · obtain rfl : j = l.length := by omega
      go_wp2
      go_ret
      exact ⟨rfl, rfl⟩

theorem allSame_any {v : Value} {l : List Int} (w : World) (ha : SlI w v l) (hne : 0 < l.length) :
    Calls Try.prog 53 #[v] w fun e w' => e = .returned (.bool (allAs l)) ∧ w = w' := by
  have K1 := Lib.hid (Max_any w ha hne)
  have K2 := Lib.hid (Min_any w ha hne)
  obtain ⟨a, c, rfl, _, _, _⟩ := ha
  have hm := allAs_mm l
  have HM := Lib.hid hm
  generalize mxTo l l.length = m1 at K1 HM
  generalize mnTo l l.length = m2 at K2 HM
  have ht : (m1 == m2) = decide (m1 = m2) := by by_cases h : m1 = m2 <;> simp [h]
  have HT := Lib.hid ht
  clear hm ht
  go_enter Try.func53, Try.ntmps53
  go_wp2_with fail
  refine (K1.out).mono ?_
  rintro e w' ⟨rfl, rfl⟩
  go_wp2_with fail
  refine (K2.out).mono ?_
  rintro e w' ⟨rfl, rfl⟩
  go_wp2
  go_ret
  exact ⟨rb (by rw [← HM.out]; exact HT.out), rfl⟩

set_option maxHeartbeats 2000000 in
theorem window_any {v dv : Value} {xss : List (List Int)} {draws : List Int} (s t : Int) (w : World) (ha : SlII w v xss) (hdr : SlI w dv draws) (hv : chainOk s t xss = true) (hdb : DrawsB t draws) :
    Calls Try.prog 43 #[.agg #[.int .i64 s, .int .i64 t, v], dv] w fun e w' => e = .returned (.tuple #[.bool (winMet (runAll xss draws xss.length)), .int .i64 (winState (runAll xss draws xss.length))]) ∧ Below w.heap.size w w' := by
  obtain ⟨⟨hs1, hs2⟩, ht, hls, _⟩ := chainOk_parts0 hv
  obtain ⟨da, dc, rfl, hdc, hdc', hdd⟩ := hdr
  unfold maxLen at hdc'
  have HA := Lib.hid ha
  have HD := Lib.hid hdb
  obtain ⟨a, ca, us, rfl, _, _, _, _, _⟩ := ha
  have bb := chBelow w s t (.slice a xss.length ca)
  have hcb := chBox w s t (.slice a xss.length ca)
  have HC := Lib.hid hcb
  have HBB := Lib.hid bb
  have hn6 : xss.length ≤ 6 := by omega
  have hn1 : 1 ≤ xss.length := by omega
  have hls' : ∃ n : Nat, s = (n : Int) := ⟨xss.length, hls.symm⟩
  have HL := Lib.hid hls
  obtain ⟨n, rfl⟩ : ∃ n : Nat, s = (n : Int) := hls'
  have hnn : n = xss.length := by omega
  have HN := Lib.hid hnn
  clear hls hs1 hs2 hdb hcb bb hnn
  go_enter Try.func43, Try.ntmps43
  go_wp2_with fail
  refine (everyState_any n _ (by have := HN.out; omega)).mono ?_
  rintro e w1 ⟨av, rfl, hown, hb1⟩
  rw [HN.out] at hown
  have hbx := hb1
  rcases hown.forms with ⟨_, h0⟩ | ⟨g, gc, rfl, hg, hg1, hgc, hgc2⟩
  · have := upTo_length xss.length; rw [h0] at this; simp at this; omega
  rw [upTo_length] at hown hgc ⊢
  unfold maxLen at hgc2
  have hg' : w.heap.size + 1 ≤ g := by simpa using hg
  clear hg1 hg hbx
  have hown2 : OwnI w1 (w.heap.size + 1) (.slice (some ⟨g, 0, none⟩) xss.length gc) (upTo xss.length) := hown.lower (by simp)
  have hb2 : Below (w.heap.size + 1) (w.alloc (chObj n t (.slice a xss.length ca))) w1 := hb1.mono (by simp)
  clear hown hb1
  go_wp2
  go_loopw [7] (fun i wr => ∃ k : Nat, k ≤ draws.length ∧ i = .int .i64 ((k : Int) - 1) ∧ OwnI wr (w.heap.size + 1) (.slice (some ⟨g, 0, none⟩) xss.length gc) (runAll xss (draws.drop k) xss.length) ∧ Below (w.heap.size + 1) (w.alloc (chObj n t (.slice a xss.length ca))) wr) (fun i _ => (intOf i + 1).toNat)
  case atStart => exact ⟨draws.length, Nat.le_refl _, by go_num, by simpa [runAll] using hown2, hb2⟩
  case round =>
    clear hown2 hb2
    obtain ⟨k, hk, rfl, hown, hbx⟩ := hrel
    have hbw := (HBB.out).trans (hbx.mono (by omega))
    have hsz1 : w.heap.size + 1 ≤ wr.heap.size := by have := hbx.size; simpa using this
    cases k with
    | zero =>
      rw [show ((0 : Nat) : Int) - 1 = -1 from rfl]
      rw [List.drop_zero] at hown
      have hll := runAll_length xss xss.length draws
      generalize hrun : runAll xss draws xss.length = l at hown hll
      have HRUN := Lib.hid hrun
      clear hrun
      obtain ⟨wo, rfl⟩ : ∃ wo : World, wo = wr := ⟨_, rfl⟩
      have HLL := Lib.hid hll
      have hl0 : 0 < l.length := by omega
      have K := Lib.hid (allSame_any _ hown.sl hl0)
      have g0 := hown.cell (i := 0) hl0
      rw [head_get hl0] at g0
      obtain ⟨h, hq⟩ : ∃ h : Int, h = l.headD 0 := ⟨_, rfl⟩
      rw [← hq] at g0
      have HQ := Lib.hid hq
      have k0 := fun d os => cell_regrown g0 d os
      have i2 : 0 < xss.length := by omega
      clear hown hll hq g0 hl0
      go_wp2_with fail
      refine (K.out).mono ?_
      rintro e w2 ⟨rfl, rfl⟩
      generalize hA : allAs l = A
      have HAA := Lib.hid hA
      clear hA
      cases A
      · clear k0
        go_wp2
        go_ret2
        exact ⟨by rw [HRUN.out]; exact ret_win HAA.out, hbw⟩
      · go_wp2_with fail
        refine wp_region_quiet_below (by kernel_rfl) (by kernel_rfl) ?_
        repeat (first | go_big_quiet_skip | quiet_step (fail))
        refine wpQuiet_nil ?_
        intro _ hw'
        obtain ⟨⟨dq, osq⟩, hw''⟩ := hw'
        subst hw''
        have bq := hbw.trans ((below_regrown wo dq osq).mono hbw.size)
        generalize grow (redrawn wo dq) osq = wq at bq ⊢
        clear k0
        go_wp2
        go_ret2
        rw [HQ.out]
        exact ⟨by rw [HRUN.out]; exact ret_win2 HAA.out, bq⟩
    | succ k =>
      have hkd : ((k + 1 : Nat) : Int) - 1 = (k : Int) := by omega
      rw [hkd]
      have hlk := runAll_length xss xss.length (draws.drop (k + 1))
      have hin := runAll_in hv (draws := draws.drop (k + 1)) (fun x hx => HD.out x (List.mem_of_mem_drop hx))
      have hstep := runAll_drop (xss := xss) (n := xss.length) (k := k) (draws := draws) (by omega)
      have hdk := HD.out draws[k] (List.getElem_mem (by omega))
      generalize runAll xss (draws.drop (k + 1)) xss.length = l at hown hlk hin hstep
      generalize hdd2 : draws[k] = d at hstep hdk
      have HDD := Lib.hid hdd2
      have HS := Lib.hid hstep
      have HLK := Lib.hid hlk
      clear hstep hdd2 hkd
      go_wp2
      go_loopw [22] (fun i wr => ∃ j : Nat, j ≤ xss.length ∧ i = .int .i64 j ∧ OwnI wr (w.heap.size + 1) (.slice (some ⟨g, 0, none⟩) xss.length gc) ((stepAll xss d l).take j ++ l.drop j) ∧ Below (w.heap.size + 1) (w.alloc (chObj n t (.slice a xss.length ca))) wr) (fun i _ => xss.length - (intOf i).toNat)
      case atStart => exact ⟨0, Nat.zero_le _, rfl, by simpa using hown, hbx⟩
      case round =>
        clear hown hbx hbw hsz1
        obtain ⟨j, hj, rfl, hown, hby⟩ := hrel
        have hbr := (HBB.out).trans (hby.mono (by omega))
        have hsz1 : w.heap.size + 1 ≤ wr.heap.size := by have := hby.size; simpa using this
        obtain ⟨_, c0, c1, c2⟩ := (HC.out).below (by simpa using hby)
        simp only [Nat.zero_add] at c0 c1 c2
        have kc0 := fun d os => cell_regrown c0 d os
        have kc1 := fun d os => cell_regrown c1 d os
        have kc2 := fun d os => cell_regrown c2 d os
        clear c0 c1 c2
        by_cases hjt : j < xss.length
        · have hjl : j < l.length := by rw [HLK.out]; exact hjt
          have gc0 := hown.cell (i := j) (by rw [mixLen (by omega)]; exact hjl)
          rw [mixGet hjl] at gc0
          have hx := hin l[j] (List.getElem_mem hjl)
          obtain ⟨y, hy⟩ := Int.eq_ofNat_of_zero_le hx.1
          rw [hy] at gc0 hx
          have HY := Lib.hid hy
          have HO := Lib.hid hown
          have hyl : y < xss.length := by omega
          obtain ⟨db, doff, rfl, gd⟩ := (hdd.below hbr).one (i64s_get (show k < draws.length by omega))
          rw [HDD.out] at gd
          have k1 := fun d os => cell_regrown gc0 d os
          have k2 := fun d os => cell_regrown gd d os
          have i0 : (0 : Int) ≤ (j : Int) := by omega
          have i1 : (j : Int) < (xss.length : Int) := by omega
          have i2 : (0 : Int) ≤ (k : Int) := by omega
          have i3 : (k : Int) < (draws.length : Int) := by omega
          clear hy hown gd
          go_wp2_with fail
          refine wp_region_below_tail 10 (by kernel_rfl) (by kernel_rfl) ?_
          simp only [List.take_succ_cons, List.take_zero, List.drop_succ_cons, List.drop_zero]
          repeat (first | go_big_quiet_skip | quiet_step (exact Calls.regrown_of (stepByDraw_b n t d y _ (((HA.out).below hbr).below (below_regrown _ _ _)) hv hdk hyl)))
          refine wpQuiet_nil ?_
          intro _ hw'
          obtain ⟨⟨dq, osq⟩, hw''⟩ := hw'
          subst hw''
          have bq0 := below_regrown wr dq osq
          have bq := hby.trans (bq0.mono hsz1)
          have howq := (HO.out).below bq0
          clear k1 k2 kc0 kc1 kc2
          generalize grow (redrawn wr dq) osq = wq at bq0 bq howq ⊢
          have gc1 := howq.cell (i := j) (by rw [mixLen (by omega)]; exact hjl)
          have gf := howq.free j
          have own' := howq.set j (nxt xss d l[j])
          rw [mixStep hjl, HY.out] at own'
          have HOwn := Lib.hid own'
          clear own' howq gc0
          go_wp2
          go_roundw
          case rel => exact ⟨j + 1, by omega, by go_num, HOwn.out, bq.setCell hg' _⟩
          case measure => simp [intOf]; omega
        · obtain rfl : j = xss.length := by omega
          have hT : (stepAll xss d l).take xss.length ++ l.drop xss.length = runAll xss (draws.drop k) xss.length := by
            rw [HS.out, List.take_of_length_le (by simp [stepAll]; rw [HLK.out]; exact Nat.le_refl _), List.drop_eq_nil_of_le (by rw [HLK.out]; exact Nat.le_refl _), List.append_nil]
          rw [hT] at hown
          clear hT kc0 kc1 kc2
          go_wp2
          go_roundw
          case rel => exact ⟨k, by omega, by go_num, hown, hby⟩
          case measure => simp [intOf]
end Go.Proofs.Ytghdginjdolgpaa
namespace Go.Proofs.Ytghdginjdolgpaa
open Go.RowKit Go.Sort
def wtN (xss : List (List Int)) (s t : Nat) : Int := (xss.getD s []).getD t 0
/-- t is k steps behind s -/
def walkN (xss : List (List Int)) (n s : Nat) : Nat → Nat → Prop
  | 0, t => t = s
  | k + 1, t => ∃ u, u < n ∧ walkN xss n s k u ∧ t < n ∧ 0 < wtN xss u t
def Rch (xss : List (List Int)) (n s t : Nat) : Prop := ∃ k, walkN xss n s k t
noncomputable def rB (xss : List (List Int)) (n s t : Nat) : Bool := @decide (Rch xss n s t) (Classical.propDecidable _)
theorem rB_iff {xss : List (List Int)} {n s t : Nat} : rB xss n s t = true ↔ Rch xss n s t := by
  unfold rB; rw [@decide_eq_true_iff _ (Classical.propDecidable _)]
theorem Rch.refl (xss : List (List Int)) (n s : Nat) : Rch xss n s s := ⟨0, rfl⟩
theorem Rch.lt {xss : List (List Int)} {n s t : Nat} (h : Rch xss n s t) (hs : s < n) : t < n := by
  obtain ⟨k, hk⟩ := h
  cases k with
  | zero => have : t = s := hk; omega
  | succ k => obtain ⟨_, _, _, h, _⟩ := hk; exact h
theorem Rch.step {xss : List (List Int)} {n s u t : Nat} (h : Rch xss n s u) (hs : s < n) (ht : t < n) (hw : 0 < wtN xss u t) : Rch xss n s t := by
  have hu := h.lt hs
  obtain ⟨k, hk⟩ := h
  exact ⟨k + 1, u, hu, hk, ht, hw⟩
theorem Rch.trans {xss : List (List Int)} {n s t u : Nat} (hs : s < n) (h : Rch xss n s t) (h2 : Rch xss n t u) : Rch xss n s u := by
  obtain ⟨k, hk⟩ := h2
  induction k generalizing u with
  | zero => have : u = t := hk; subst this; exact h
  | succ k ih =>
    obtain ⟨v, hv, hw, hu, hp⟩ := hk
    exact (ih hw).step hs hu hp
/-- what is closed under steps has all that is reached -/
theorem Rch.mem {xss : List (List Int)} {n s t : Nat} {P : Nat → Prop} (h0 : P s) (hs : ∀ u t, u < n → P u → t < n → 0 < wtN xss u t → P t) (h : Rch xss n s t) : P t := by
  obtain ⟨k, hk⟩ := h
  induction k generalizing t with
  | zero => have : t = s := hk; subst this; exact h0
  | succ k ih =>
    obtain ⟨v, hv, hw, hu, hp⟩ := hk
    exact hs v t hv (ih hw) hu hp
/-- a search that has gone through the first k states of its list, and through the first j steps of the next one -/
structure BfsI (xss : List (List Int)) (n s : Nat) (L : List Nat) (k j : Nat) : Prop where
  nd : L.Nodup
  all : ∀ t ∈ L, t < n ∧ Rch xss n s t
  start : s ∈ L
  done : ∀ i (h : i < L.length), i < k → ∀ t, t < n → 0 < wtN xss L[i] t → t ∈ L
  now : ∀ (h : k < L.length), ∀ t, t < j → t < n → 0 < wtN xss L[k] t → t ∈ L
theorem BfsI.first {xss : List (List Int)} {n s : Nat} (hs : s < n) : BfsI xss n s [s] 0 0 := ⟨by simp, fun t ht => by simp at ht; subst ht; exact ⟨hs, Rch.refl _ _ _⟩, by simp, fun i _ h => by omega, fun _ t h => by omega⟩
theorem BfsI.skip {xss : List (List Int)} {n s : Nat} {L : List Nat} {k j : Nat} (h : BfsI xss n s L k j) (hk : k < L.length) (hj : ¬ 0 < wtN xss L[k] j ∨ j ∈ L) : BfsI xss n s L k (j + 1) :=
  ⟨h.nd, h.all, h.start, h.done, fun hk2 t ht htn hw => by
    by_cases e : t = j
    · subst e; rcases hj with hj | hj
      · exact absurd hw hj
      · exact hj
    · exact h.now hk2 t (by omega) htn hw⟩
theorem BfsI.add {xss : List (List Int)} {n s : Nat} {L : List Nat} {k j : Nat} (h : BfsI xss n s L k j) (hs : s < n) (hk : k < L.length) (hn : j < n) (hw : 0 < wtN xss L[k] j) (hj : j ∉ L) : BfsI xss n s (L ++ [j]) k (j + 1) := by
  refine ⟨?_, ?_, by simp [h.start], ?_, ?_⟩
  · rw [List.nodup_append]
    exact ⟨h.nd, by simp, fun a ha b hb => by simp at hb; subst hb; intro e; subst e; exact hj ha⟩
  · intro t ht
    simp only [List.mem_append, List.mem_singleton] at ht
    rcases ht with ht | rfl
    · exact h.all t ht
    · exact ⟨hn, (h.all _ (List.getElem_mem hk)).2.step hs hn hw⟩
  · intro i hi hik t htn hwt
    have hil : i < L.length := by omega
    rw [List.getElem_append_left hil] at hwt
    simp [h.done i hil hik t htn hwt]
  · intro hk2 t ht htn hwt
    rw [List.getElem_append_left hk] at hwt
    by_cases e : t = j
    · subst e; simp
    · simp [h.now hk t (by omega) htn hwt]
theorem BfsI.next {xss : List (List Int)} {n s : Nat} {L : List Nat} {k : Nat} (h : BfsI xss n s L k n) : BfsI xss n s L (k + 1) 0 :=
  ⟨h.nd, h.all, h.start, fun i hi hik t htn hw => by
    by_cases e : i = k
    · subst e; exact h.now hi t htn htn hw
    · exact h.done i hi (by omega) t htn hw, fun _ t ht => by omega⟩
theorem nodup_len {n : Nat} {L : List Nat} (h : L.Nodup) (hl : ∀ t ∈ L, t < n) : L.length ≤ n := by
  have := List.Nodup.length_le_of_subset (l₁ := L) (l₂ := List.range n) h (fun t ht => List.mem_range.2 (hl t ht))
  simpa using this
theorem BfsI.len {xss : List (List Int)} {n s : Nat} {L : List Nat} {k j : Nat} (h : BfsI xss n s L k j) : L.length ≤ n := nodup_len h.nd (fun t ht => (h.all t ht).1)
theorem BfsI.room {xss : List (List Int)} {n s : Nat} {L : List Nat} {k j : Nat} (h : BfsI xss n s L k j) (hn : j < n) (hj : j ∉ L) : L.length < n := by
  have : (j :: L).length ≤ n := nodup_len (List.nodup_cons.2 ⟨hj, h.nd⟩) (fun t ht => by
    simp only [List.mem_cons] at ht
    rcases ht with rfl | ht
    · exact hn
    · exact (h.all t ht).1)
  simp at this
  omega
theorem BfsI.last {xss : List (List Int)} {n s : Nat} {L : List Nat} {j : Nat} (h : BfsI xss n s L L.length j) {t : Nat} : t ∈ L ↔ rB xss n s t = true := by
  rw [rB_iff]
  refine ⟨fun ht => (h.all t ht).2, fun hr => hr.mem (P := fun t => t ∈ L) h.start (fun u t hu hm ht hw => ?_)⟩
  obtain ⟨i, hi, rfl⟩ := List.getElem_of_mem hm
  exact h.done i hi hi t ht hw
/-- marks of a list -/
def marksL (n : Nat) (L : List Nat) : List Bool := (List.range n).map fun t => decide (t ∈ L)
theorem marksL_len (n : Nat) (L : List Nat) : (marksL n L).length = n := by simp [marksL]
theorem marksL_get {n : Nat} {L : List Nat} {t : Nat} (h : t < (marksL n L).length) : (marksL n L)[t] = decide (t ∈ L) := by simp [marksL]
theorem marksL_nil (n : Nat) : marksL n [] = List.replicate n false := by
  refine List.ext_getElem (by simp [marksL]) (fun i h1 h2 => by rw [marksL_get h1]; simp)
theorem marksL_add {n : Nat} {L : List Nat} {j : Nat} : (marksL n L).set j true = marksL n (L ++ [j]) := by
  refine List.ext_getElem (by simp [marksL]) (fun i h1 h2 => ?_)
  rw [List.getElem_set, marksL_get h2, marksL_get (by simpa using h1)]
  by_cases e : j = i
  · subst e; simp
  · rw [if_neg e]
    have : ¬ i = j := fun h => e h.symm
    simp [this]
noncomputable def reachB (xss : List (List Int)) (n s : Nat) : List Bool := (List.range n).map (rB xss n s)
theorem BfsI.marks {xss : List (List Int)} {n s : Nat} {L : List Nat} {j : Nat} (h : BfsI xss n s L L.length j) : marksL n L = reachB xss n s := by
  unfold marksL reachB
  refine List.map_congr_left (fun t _ => ?_)
  rw [Bool.eq_iff_iff, decide_eq_true_iff]
  exact h.last
/-- the members of some marks -/
def memsL (m : List Bool) : Nat → List Int
  | 0 => []
  | k + 1 => memsL m k ++ (if m.getD k false = true then [(k : Int)] else [])
theorem memsL_mem {m : List Bool} {x : Int} : ∀ {k : Nat}, x ∈ memsL m k ↔ ∃ t : Nat, t < k ∧ x = t ∧ m.getD t false = true
  | 0 => by simp [memsL]
  | k + 1 => by
    unfold memsL
    rw [List.mem_append, memsL_mem]
    constructor
    · rintro (⟨t, h1, h2, h3⟩ | h)
      · exact ⟨t, by omega, h2, h3⟩
      · split at h
        · simp at h; exact ⟨k, by omega, h, ‹_›⟩
        · simp at h
    · rintro ⟨t, h1, h2, h3⟩
      by_cases e : t = k
      · subst e; right; rw [if_pos h3]; simp [h2]
      · left; exact ⟨t, by omega, h2, h3⟩
theorem memsL_pair (m : List Bool) : ∀ k, (memsL m k).Pairwise (· < ·)
  | 0 => by simp [memsL]
  | k + 1 => by
    unfold memsL
    rw [List.pairwise_append]
    refine ⟨memsL_pair m k, by split <;> simp, fun a ha b hb => ?_⟩
    obtain ⟨t, ht, rfl, _⟩ := memsL_mem.1 ha
    split at hb
    · simp at hb; omega
    · simp at hb
theorem memsL_len (m : List Bool) : ∀ k, (memsL m k).length ≤ k
  | 0 => by simp [memsL]
  | k + 1 => by
    have := memsL_len m k
    unfold memsL
    rw [List.length_append]
    split <;> simp <;> omega
theorem pair_ext : ∀ {a b : List Int}, a.Pairwise (· < ·) → b.Pairwise (· < ·) → (∀ x, x ∈ a ↔ x ∈ b) → a = b
  | [], [], _, _, _ => rfl
  | [], y :: b, _, _, h => by have := (h y).2 (by simp); simp at this
  | x :: a, [], _, _, h => by have := (h x).1 (by simp); simp at this
  | x :: a, y :: b, ha, hb, h => by
    rw [List.pairwise_cons] at ha hb
    have hxy : x = y := by
      have h1 := (h x).1 (by simp)
      have h2 := (h y).2 (by simp)
      simp only [List.mem_cons] at h1 h2
      rcases h1 with h1 | h1
      · exact h1
      · rcases h2 with h2 | h2
        · exact h2.symm
        · have := ha.1 y h2; have := hb.1 x h1; omega
    subst hxy
    rw [pair_ext ha.2 hb.2 (fun z => ?_)]
    have hz := h z
    simp only [List.mem_cons] at hz
    constructor
    · intro hm
      rcases hz.1 (.inr hm) with e | e
      · subst e; have := ha.1 z hm; omega
      · exact e
    · intro hm
      rcases hz.2 (.inr hm) with e | e
      · subst e; have := hb.1 z hm; omega
      · exact e
noncomputable def reachL (xss : List (List Int)) (n s : Nat) : List Int := memsL (reachB xss n s) n
theorem reachB_get {xss : List (List Int)} {n s t : Nat} (h : t < n) : (reachB xss n s).getD t false = rB xss n s t := by
  have hl : t < (reachB xss n s).length := by simp [reachB]; exact h
  rw [gD_at hl]; simp [reachB]
theorem reachL_mem {xss : List (List Int)} {n s : Nat} {x : Int} : x ∈ reachL xss n s ↔ ∃ t : Nat, t < n ∧ x = t ∧ Rch xss n s t := by
  unfold reachL
  rw [memsL_mem]
  constructor
  · rintro ⟨t, h1, h2, h3⟩; rw [reachB_get h1] at h3; exact ⟨t, h1, h2, rB_iff.1 h3⟩
  · rintro ⟨t, h1, h2, h3⟩; exact ⟨t, h1, h2, by rw [reachB_get h1]; exact rB_iff.2 h3⟩
theorem reachL_self {xss : List (List Int)} {n s : Nat} (h : s < n) : (s : Int) ∈ reachL xss n s := reachL_mem.2 ⟨s, h, rfl, Rch.refl _ _ _⟩
/-- a rising list with the same members is that of the states that are reached -/
theorem BfsI.rising {xss : List (List Int)} {n s : Nat} {L : List Nat} {j : Nat} (h : BfsI xss n s L L.length j) {a : List Int} (ha : a.Pairwise (· < ·)) (hm : ∀ x : Int, x ∈ a ↔ ∃ t : Nat, t ∈ L ∧ x = t) : a = reachL xss n s := by
  refine pair_ext ha (memsL_pair _ _) (fun x => ?_)
  rw [hm x]
  show _ ↔ x ∈ reachL xss n s
  rw [reachL_mem]
  constructor
  · rintro ⟨t, h1, h2⟩; exact ⟨t, (h.all t h1).1, h2, (h.all t h1).2⟩
  · rintro ⟨t, h1, h2, h3⟩; exact ⟨t, h.last.2 (rB_iff.2 h3), h2⟩
/-- the state is the first one of a closed class -/
noncomputable def closedB (xss : List (List Int)) (n s : Nat) : Bool := decide ((reachL xss n s).getD 0 0 = (s : Int)) && (reachL xss n s).all fun t => rB xss n t.toNat s
noncomputable def closedN (xss : List (List Int)) (n : Nat) : Nat → List (List Int)
  | 0 => []
  | k + 1 => closedN xss n k ++ (if closedB xss n k = true then [reachL xss n k] else [])
theorem closedN_mem {xss : List (List Int)} {n : Nat} {e : List Int} : ∀ {k : Nat}, e ∈ closedN xss n k → ∃ s, s < k ∧ closedB xss n s = true ∧ e = reachL xss n s
  | 0, h => by simp [closedN] at h
  | k + 1, h => by
    unfold closedN at h
    rw [List.mem_append] at h
    rcases h with h | h
    · obtain ⟨s, h1, h2, h3⟩ := closedN_mem h; exact ⟨s, by omega, h2, h3⟩
    · split at h
      · simp at h; exact ⟨k, by omega, ‹_›, h⟩
      · simp at h
theorem closedN_len (xss : List (List Int)) (n : Nat) : ∀ k, (closedN xss n k).length ≤ k
  | 0 => by simp [closedN]
  | k + 1 => by
    have := closedN_len xss n k
    unfold closedN
    rw [List.length_append]
    split <;> simp <;> omega
noncomputable def connB (xss : List (List Int)) (n : Nat) : Bool := decide ((closedN xss n n).length = 1) && decide (((closedN xss n n).getD 0 []).length = n)
/-- in a connected chain each state is reached from each one -/
theorem conn_all {xss : List (List Int)} {n : Nat} (h : connB xss n = true) {s t : Nat} (hs : s < n) (ht : t < n) : Rch xss n s t := by
  unfold connB at h
  rw [Bool.and_eq_true, decide_eq_true_eq, decide_eq_true_eq] at h
  obtain ⟨h1, h2⟩ := h
  have hm : (closedN xss n n).getD 0 [] ∈ closedN xss n n := by
    rw [gD_at (by omega)]; exact List.getElem_mem _
  generalize (closedN xss n n).getD 0 [] = e at h2 hm
  obtain ⟨r, hr, hc, rfl⟩ := closedN_mem hm
  have key : ∀ u, u < n → Rch xss n r u := by
    intro u hu
    have hsub : ∀ x ∈ reachL xss n r, 0 ≤ x ∧ x < n := by
      intro x hx
      obtain ⟨t, h1, rfl, _⟩ := reachL_mem.1 hx
      omega
    have hp : (reachL xss n r).Pairwise (· < ·) := memsL_pair _ _
    have : ((u : Int)) ∈ reachL xss n r := by
      by_cases hu2 : (u : Int) ∈ reachL xss n r
      · exact hu2
      · exfalso
        have hnd : ((u : Int) :: reachL xss n r).Nodup := List.nodup_cons.2 ⟨hu2, hp.imp (fun h => by omega)⟩
        have hsub2 : ((u : Int) :: reachL xss n r) ⊆ (List.range n).map (fun t : Nat => (t : Int)) := by
          intro x hx
          simp only [List.mem_cons] at hx
          rw [List.mem_map]
          rcases hx with rfl | hx
          · exact ⟨u, List.mem_range.2 hu, rfl⟩
          · have := hsub x hx
            exact ⟨x.toNat, List.mem_range.2 (by omega), by omega⟩
        have := List.Nodup.length_le_of_subset hnd hsub2
        simp at this
        omega
    obtain ⟨t, _, ht, h⟩ := reachL_mem.1 this
    have : u = t := by omega
    subst this; exact h
  have back : Rch xss n s r := by
    unfold closedB at hc
    rw [Bool.and_eq_true, List.all_eq_true] at hc
    have := hc.2 (s : Int) (reachL_mem.2 ⟨s, hs, rfl, key s hs⟩)
    rw [Int.toNat_natCast] at this
    exact rB_iff.1 this
  exact back.trans hs (key t ht)
end Go.Proofs.Ytghdginjdolgpaa
namespace Go.Proofs.Ytghdginjdolgpaa
open Go.RowKit Go.Sort
def Mut (xss : List (List Int)) (n i j : Nat) : Prop := Rch xss n i j ∧ Rch xss n j i
theorem Mut.refl (xss : List (List Int)) (n i : Nat) : Mut xss n i i := ⟨Rch.refl _ _ _, Rch.refl _ _ _⟩
theorem Mut.symm {xss : List (List Int)} {n i j : Nat} (h : Mut xss n i j) : Mut xss n j i := ⟨h.2, h.1⟩
theorem Mut.trans {xss : List (List Int)} {n i j k : Nat} (hi : i < n) (hk : k < n) (h : Mut xss n i j) (h2 : Mut xss n j k) : Mut xss n i k := ⟨h.1.trans hi h2.1, h2.2.trans hk h.2⟩
structure ClsI (xss : List (List Int)) (n : Nat) (cs : List Int) (next : Int) : Prop where
  rng : ∀ (i : Nat) (h : i < cs.length), 0 ≤ cs[i] ∧ cs[i] < next
  iff : ∀ (i j : Nat) (hi : i < cs.length) (hj : j < cs.length), cs[i] = cs[j] ↔ Mut xss n i j
  zero : ∀ h : 0 < cs.length, cs[0] = 0
  nx : 0 ≤ next ∧ next ≤ cs.length
theorem ClsI.nil (xss : List (List Int)) (n : Nat) : ClsI xss n [] 0 := ⟨fun i h => by simp at h, fun i j h => by simp at h, fun h => by simp at h, by simp⟩
theorem snoc_cases {cs : List Int} {x : Int} {i : Nat} (h : i < (cs ++ [x]).length) : (∃ h : i < cs.length, (cs ++ [x])[i] = cs[i]) ∨ (i = cs.length ∧ (cs ++ [x])[i] = x) := by
  by_cases hi : i < cs.length
  · exact .inl ⟨hi, List.getElem_append_left hi⟩
  · have : i = cs.length := by simp at h; omega
    subst this
    exact .inr ⟨rfl, by simp⟩
theorem ClsI.old {xss : List (List Int)} {n : Nat} {cs : List Int} {next : Int} (h : ClsI xss n cs next) (hs : cs.length < n) {t : Nat} (ht : t < cs.length) (hm : Mut xss n t cs.length) : ClsI xss n (cs ++ [cs[t]]) next := by
  refine ⟨fun i hi => ?_, fun i j hi hj => ?_, fun h0 => ?_, ⟨h.nx.1, by have := h.nx.2; simp; omega⟩⟩
  · rcases snoc_cases hi with ⟨h1, e⟩ | ⟨_, e⟩ <;> rw [e]
    · exact h.rng i h1
    · exact h.rng t ht
  · rcases snoc_cases hi with ⟨h1, e1⟩ | ⟨h1, e1⟩ <;> rcases snoc_cases hj with ⟨h2, e2⟩ | ⟨h2, e2⟩ <;> rw [e1, e2]
    · exact h.iff i j h1 h2
    · rw [h.iff i t h1 ht, h2]
      exact ⟨fun q => q.trans (by omega) hs hm, fun q => q.trans (by omega) (by omega) hm.symm⟩
    · rw [h.iff t j ht h2, h1]
      exact ⟨fun q => hm.symm.trans hs (by omega) q, fun q => hm.trans (by omega) (by omega) q⟩
    · rw [h1, h2]; exact ⟨fun _ => Mut.refl _ _ _, fun _ => rfl⟩
  · rcases snoc_cases h0 with ⟨h1, e⟩ | ⟨h1, e⟩ <;> rw [e]
    · exact h.zero h1
    · omega
theorem ClsI.new {xss : List (List Int)} {n : Nat} {cs : List Int} {next : Int} (h : ClsI xss n cs next) (hno : ∀ t, t < cs.length → ¬ Mut xss n t cs.length) : ClsI xss n (cs ++ [next]) (next + 1) := by
  obtain ⟨hx0, hx1⟩ := h.nx
  refine ⟨fun i hi => ?_, fun i j hi hj => ?_, fun h0 => ?_, ⟨by omega, by simp; omega⟩⟩
  · rcases snoc_cases hi with ⟨h1, e⟩ | ⟨_, e⟩ <;> rw [e]
    · have := h.rng i h1; omega
    · omega
  · rcases snoc_cases hi with ⟨h1, e1⟩ | ⟨h1, e1⟩ <;> rcases snoc_cases hj with ⟨h2, e2⟩ | ⟨h2, e2⟩ <;> rw [e1, e2]
    · exact h.iff i j h1 h2
    · have := h.rng i h1
      exact ⟨fun q => by omega, fun q => absurd (by rw [h2] at q; exact q) (hno i h1)⟩
    · have := h.rng j h2
      exact ⟨fun q => by omega, fun q => absurd (by rw [h1] at q; exact q.symm) (hno j h2)⟩
    · rw [h1, h2]; exact ⟨fun _ => Mut.refl _ _ _, fun _ => rfl⟩
  · rcases snoc_cases h0 with ⟨h1, e⟩ | ⟨h1, e⟩ <;> rw [e]
    · exact h.zero h1
    · omega
theorem mut_iff {xss : List (List Int)} {n i j : Nat} : Mut xss n i j ↔ (rB xss n i j = true ∧ rB xss n j i = true) := by
  unfold Mut; rw [rB_iff, rB_iff]
end Go.Proofs.Ytghdginjdolgpaa
namespace Go.Proofs.Ytghdginjdolgpaa
open Go.RowKit Go.Sort
theorem reachL_pair (xss : List (List Int)) (n s : Nat) : (reachL xss n s).Pairwise (· < ·) := memsL_pair _ _
theorem reachL_has {xss : List (List Int)} {n s t : Nat} (ht : t < n) : decide ((t : Int) ∈ reachL xss n s) = rB xss n s t := by
  rw [Bool.eq_iff_iff, decide_eq_true_eq, reachL_mem, rB_iff]
  constructor
  · rintro ⟨u, _, h2, h3⟩
    have : t = u := by omega
    subst this; exact h3
  · intro h; exact ⟨t, ht, rfl, h⟩
theorem reachL_mut {xss : List (List Int)} {n r s : Nat} (hr : r < n) (hs : s < n) (h : Mut xss n r s) : reachL xss n r = reachL xss n s := by
  refine pair_ext (reachL_pair _ _ _) (reachL_pair _ _ _) (fun x => ?_)
  rw [reachL_mem, reachL_mem]
  constructor
  · rintro ⟨t, h1, h2, h3⟩; exact ⟨t, h1, h2, h.2.trans hs h3⟩
  · rintro ⟨t, h1, h2, h3⟩; exact ⟨t, h1, h2, h.1.trans hr h3⟩
def Stay (xss : List (List Int)) (n s : Nat) : Prop := ∀ u, u < n → Rch xss n s u → Rch xss n u s
theorem head_mem {l : List Int} (h : 0 < l.length) : l.getD 0 0 ∈ l := by rw [gD_at h]; exact List.getElem_mem h
theorem reachL_pos {xss : List (List Int)} {n s : Nat} (h : s < n) : 0 < (reachL xss n s).length := List.length_pos_of_mem (reachL_self h)
theorem closed_key {xss : List (List Int)} {n k s : Nat} (hk : k < n) (hs : s < n) : (closedB xss n k = true ∧ (s : Int) ∈ reachL xss n k) ↔ (Stay xss n s ∧ (reachL xss n s).getD 0 0 = (k : Int)) := by
  constructor
  · rintro ⟨h1, h2⟩
    unfold closedB at h1
    rw [Bool.and_eq_true, decide_eq_true_eq, List.all_eq_true] at h1
    obtain ⟨h1, h3⟩ := h1
    have hback : ∀ t, t < n → Rch xss n k t → Rch xss n t k := fun t ht h => by
      have := h3 (t : Int) (reachL_mem.2 ⟨t, ht, rfl, h⟩)
      rw [Int.toNat_natCast] at this
      exact rB_iff.1 this
    obtain ⟨s', _, e, hks⟩ := reachL_mem.1 h2
    have : s = s' := by omega
    subst this
    have hsk := hback s hs hks
    refine ⟨fun u hu hsu => ?_, ?_⟩
    · exact (hback u hu (hks.trans hk hsu)).trans hu hks
    · rw [← reachL_mut hk hs ⟨hks, hsk⟩]; exact h1
  · rintro ⟨h1, h2⟩
    have hm := head_mem (reachL_pos (xss := xss) hs)
    rw [h2] at hm
    obtain ⟨k', _, e, hsk⟩ := reachL_mem.1 hm
    have : k = k' := by omega
    subst this
    have hks := h1 k hk hsk
    have he := reachL_mut hk hs ⟨hks, hsk⟩
    refine ⟨?_, reachL_mem.2 ⟨s, hs, rfl, hks⟩⟩
    unfold closedB
    rw [Bool.and_eq_true, decide_eq_true_eq, List.all_eq_true, he]
    refine ⟨h2, fun x hx => ?_⟩
    obtain ⟨t, ht, rfl, hst⟩ := reachL_mem.1 hx
    rw [Int.toNat_natCast, rB_iff]
    exact (h1 t ht hst).trans ht hsk
theorem closedN_succ' (xss : List (List Int)) (n k : Nat) : closedN xss n (k + 1) = closedN xss n k ++ (if closedB xss n k = true then [reachL xss n k] else []) := rfl
noncomputable def stayB (xss : List (List Int)) (n s : Nat) : Bool := @decide (Stay xss n s) (Classical.propDecidable _)
theorem stayB_iff {xss : List (List Int)} {n s : Nat} : stayB xss n s = true ↔ Stay xss n s := by
  unfold stayB; rw [@decide_eq_true_iff _ (Classical.propDecidable _)]
theorem cnt_closed {xss : List (List Int)} {n s : Nat} (hs : s < n) : ∀ k, k ≤ n → ((closedN xss n k).filter (fun e => decide ((s : Int) ∈ e))).length = if stayB xss n s = true ∧ (reachL xss n s).getD 0 0 < (k : Int) then 1 else 0
  | 0, _ => by
    have hm := head_mem (reachL_pos (xss := xss) hs)
    obtain ⟨t, _, e, _⟩ := reachL_mem.1 hm
    rw [if_neg (by rw [e]; omega)]; rfl
  | k + 1, hk => by
    have ih := cnt_closed (xss := xss) hs k (by omega)
    have key := closed_key (xss := xss) (k := k) (by omega) hs
    rw [closedN_succ', List.filter_append, List.length_append, ih]
    by_cases h1 : stayB xss n s = true
    · by_cases h2 : (reachL xss n s).getD 0 0 = (k : Int)
      · obtain ⟨q1, q2⟩ := key.2 ⟨stayB_iff.1 h1, h2⟩
        rw [if_neg (by omega), if_pos q1, if_pos (by exact ⟨h1, by omega⟩)]
        simp [q2]
      · have hno : ¬ (closedB xss n k = true ∧ (s : Int) ∈ reachL xss n k) := fun h => h2 (key.1 h).2
        have h0 : ((if closedB xss n k = true then [reachL xss n k] else []).filter (fun e => decide ((s : Int) ∈ e))).length = 0 := by
          split
          · rename_i h
            have : ¬ (s : Int) ∈ reachL xss n k := fun q => hno ⟨h, q⟩
            simp [this]
          · simp
        rw [h0]
        by_cases h3 : (reachL xss n s).getD 0 0 < (k : Int)
        · rw [if_pos ⟨h1, h3⟩, if_pos ⟨h1, by omega⟩]
        · rw [if_neg (by omega), if_neg (by omega)]
    · have hno : ¬ (closedB xss n k = true ∧ (s : Int) ∈ reachL xss n k) := fun h => h1 (stayB_iff.2 (key.1 h).1)
      have h0 : ((if closedB xss n k = true then [reachL xss n k] else []).filter (fun e => decide ((s : Int) ∈ e))).length = 0 := by
        split
        · rename_i h
          have : ¬ (s : Int) ∈ reachL xss n k := fun q => hno ⟨h, q⟩
          simp [this]
        · simp
      rw [h0, if_neg (fun h => h1 h.1), if_neg (fun h => h1 h.1)]
/-- how many of the first k lists have s -/
def cntE (E : List (List Int)) (s k : Nat) : Nat := ((E.take k).filter (fun e => decide ((s : Int) ∈ e))).length
theorem cntE_succ {E : List (List Int)} {s k : Nat} (h : k < E.length) : cntE E s (k + 1) = cntE E s k + (if decide ((s : Int) ∈ E[k]) = true then 1 else 0) := by
  unfold cntE
  rw [List.take_succ_eq_append_getElem h, List.filter_append, List.length_append]
  congr 1
  by_cases hm : (s : Int) ∈ E[k] <;> simp [hm]
theorem cntE_all {xss : List (List Int)} {n s : Nat} (hs : s < n) : cntE (closedN xss n n) s (closedN xss n n).length = if stayB xss n s = true then 1 else 0 := by
  unfold cntE
  rw [List.take_length, cnt_closed hs n (Nat.le_refl _)]
  have hm := head_mem (reachL_pos (xss := xss) hs)
  obtain ⟨t, ht, e, _⟩ := reachL_mem.1 hm
  by_cases h : stayB xss n s = true
  · rw [if_pos h, if_pos ⟨h, by rw [e]; omega⟩]
  · rw [if_neg h, if_neg (fun q => h q.1)]
theorem closed_has {xss : List (List Int)} {n s : Nat} (hs : s < n) {k : Nat} (hk : k < (closedN xss n n).length) (hm : (s : Int) ∈ (closedN xss n n)[k]) : (closedN xss n n)[k] = reachL xss n s := by
  obtain ⟨r, hr, hc, he⟩ := closedN_mem (List.getElem_mem hk)
  rw [he] at hm ⊢
  obtain ⟨h1, h2⟩ := (closed_key hr hs).1 ⟨hc, hm⟩
  obtain ⟨t, _, e, hrs⟩ := reachL_mem.1 hm
  have : s = t := by omega
  subst this
  have hh := head_mem (reachL_pos (xss := xss) hs)
  rw [h2] at hh
  obtain ⟨t, _, e, hsr⟩ := reachL_mem.1 hh
  have : r = t := by omega
  subst this
  exact reachL_mut hr hs ⟨hrs, hsr⟩
theorem stay_ex {xss : List (List Int)} {n : Nat} : ∀ (N s : Nat), s < n → (reachL xss n s).length ≤ N → ∃ s', s' < n ∧ Stay xss n s' := by
  intro N
  induction N with
  | zero => intro s hs h; have := reachL_pos (xss := xss) hs; omega
  | succ N ih =>
    intro s hs h
    by_cases hst : Stay xss n s
    · exact ⟨s, hs, hst⟩
    · unfold Stay at hst
      have : ∃ u, u < n ∧ Rch xss n s u ∧ ¬ Rch xss n u s := by
        apply Classical.byContradiction
        intro hc
        exact hst (fun u hu hsu => Classical.byContradiction (fun hus => hc ⟨u, hu, hsu, hus⟩))
      obtain ⟨u, hu, hsu, hus⟩ := this
      have hnm : ¬ (s : Int) ∈ reachL xss n u := by
        intro hm
        obtain ⟨t, _, e, h3⟩ := reachL_mem.1 hm
        have : s = t := by omega
        subst this; exact hus h3
      have hlen : ((s : Int) :: reachL xss n u).length ≤ (reachL xss n s).length := by
        refine List.Nodup.length_le_of_subset (List.nodup_cons.2 ⟨hnm, (reachL_pair xss n u).imp (fun h => by omega)⟩) (fun x hx => ?_)
        simp only [List.mem_cons] at hx
        rcases hx with rfl | hx
        · exact reachL_self hs
        · obtain ⟨t, ht, rfl, hut⟩ := reachL_mem.1 hx
          exact reachL_mem.2 ⟨t, ht, rfl, hsu.trans hs hut⟩
      simp only [List.length_cons] at hlen
      exact ih u hu (by omega)
theorem closedN_pos {xss : List (List Int)} {n : Nat} (hn : 0 < n) : 1 ≤ (closedN xss n n).length := by
  obtain ⟨s, hs, hst⟩ := stay_ex (xss := xss) (n := n) _ 0 hn (Nat.le_refl _)
  have h := cntE_all (xss := xss) hs
  rw [if_pos (stayB_iff.2 hst)] at h
  unfold cntE at h
  have := List.length_filter_le (fun e => decide ((s : Int) ∈ e)) ((closedN xss n n).take (closedN xss n n).length)
  rw [List.take_length] at this h
  omega
theorem memsL_full {m : List Bool} : ∀ {k : Nat}, (∀ t, t < k → m.getD t false = true) → (memsL m k).length = k
  | 0, _ => rfl
  | k + 1, h => by
    unfold memsL
    rw [List.length_append, memsL_full (fun t ht => h t (by omega)), if_pos (h k (by omega))]; rfl
def zeroTo (cs : List Int) (k : Nat) : Bool := (cs.take k).all (fun x => decide (x = 0))
theorem zeroTo_succ {cs : List Int} {k : Nat} (h : k < cs.length) : zeroTo cs (k + 1) = (zeroTo cs k && decide (cs[k] = 0)) := by
  unfold zeroTo
  rw [List.take_succ_eq_append_getElem h, List.all_append]; simp
theorem conn_zero {xss : List (List Int)} {n : Nat} {cs : List Int} {nx : Int} (hn : 0 < n) (hl : cs.length = n) (h : ClsI xss n cs nx) : connB xss n = zeroTo cs n := by
  have h0 := h.zero (by omega)
  rw [Bool.eq_iff_iff]
  constructor
  · intro hc
    unfold zeroTo
    rw [List.all_eq_true]
    intro x hx
    obtain ⟨i, hi, rfl⟩ := List.mem_iff_getElem.1 (List.mem_of_mem_take hx)
    rw [decide_eq_true_eq, ← h0]
    exact (h.iff i 0 hi (by omega)).2 ⟨conn_all hc (by omega) hn, conn_all hc hn (by omega)⟩
  · intro hz
    unfold zeroTo at hz
    rw [List.take_of_length_le (by omega), List.all_eq_true] at hz
    have hall : ∀ i, i < n → Mut xss n i 0 := fun i hi => by
      have hic : i < cs.length := by omega
      have := hz _ (List.getElem_mem hic)
      rw [decide_eq_true_eq] at this
      exact (h.iff i 0 hic (by omega)).1 (by rw [this, h0])
    have hst : Stay xss n 0 := fun u hu _ => (hall u hu).1
    have hlen : (reachL xss n 0).length = n := memsL_full (fun t ht => by rw [reachB_get ht]; exact rB_iff.2 (hall t ht).2)
    have hhd : (reachL xss n 0).getD 0 0 = ((0 : Nat) : Int) := by
      have hm := head_mem (reachL_pos (xss := xss) hn)
      have hp := reachL_pair xss n 0
      have h00 : ((0 : Nat) : Int) ∈ reachL xss n 0 := reachL_self hn
      obtain ⟨t, _, e, _⟩ := reachL_mem.1 hm
      cases hR : reachL xss n 0 with
      | nil => rw [hR] at h00; simp at h00
      | cons x l =>
        rw [hR] at h00 hp e
        rw [List.pairwise_cons] at hp
        simp only [List.mem_cons] at h00
        rcases h00 with h00 | h00
        · simpa using h00.symm
        · have := hp.1 _ h00
          simp at e
          omega
    have hcl : ∀ k, k < n → (closedB xss n k = true ↔ k = 0) := fun k hk => by
      constructor
      · intro hc
        have := (closed_key hk hn).1 ⟨hc, reachL_mem.2 ⟨0, hn, rfl, (hall k hk).1⟩⟩
        rw [hhd] at this
        omega
      · rintro rfl
        exact ((closed_key hn hn).2 ⟨hst, hhd⟩).1
    have hN : ∀ k, k < n → closedN xss n (k + 1) = [reachL xss n 0] := by
      intro k
      induction k with
      | zero => intro hk; rw [closedN_succ', if_pos ((hcl 0 hn).2 rfl)]; rfl
      | succ k ih => intro hk; rw [closedN_succ', ih (by omega), if_neg (fun q => by have := (hcl (k + 1) hk).1 q; omega)]; rfl
    have hE : closedN xss n n = [reachL xss n 0] := by
      have := hN (n - 1) (by omega)
      rwa [show n - 1 + 1 = n by omega] at this
    unfold connB
    rw [hE]
    simp [hlen]
def stTo (r : Nat → Bool) (cs : List Int) (s t : Nat) : Bool := (List.range t).all (fun u => !r u || decide (cs.getD u 0 = cs.getD s 0))
theorem stTo_succ (r : Nat → Bool) (cs : List Int) (s t : Nat) : stTo r cs s (t + 1) = (stTo r cs s t && (!r t || decide (cs.getD t 0 = cs.getD s 0))) := by
  unfold stTo
  rw [List.range_succ, List.all_append]; simp
theorem stTo_stay {xss : List (List Int)} {n s : Nat} {cs : List Int} {nx : Int} (hs : s < n) (hl : cs.length = n) (h : ClsI xss n cs nx) : stTo (rB xss n s) cs s n = stayB xss n s := by
  rw [Bool.eq_iff_iff, stayB_iff]
  unfold stTo Stay
  rw [List.all_eq_true]
  constructor
  · intro ha u hu hsu
    have := ha u (List.mem_range.2 hu)
    rw [rB_iff.2 hsu, gD_at (by omega : u < cs.length), gD_at (by omega : s < cs.length)] at this
    simp at this
    exact ((h.iff u s (by omega) (by omega)).1 this).1
  · intro ha u hu
    have hun := List.mem_range.1 hu
    cases hr : rB xss n s u with
    | false => rfl
    | true =>
      rw [gD_at (by omega : u < cs.length), gD_at (by omega : s < cs.length)]
      simp
      exact (h.iff u s (by omega) (by omega)).2 ⟨ha u hun (rB_iff.1 hr), rB_iff.1 hr⟩
theorem step_reach {xss : List (List Int)} {n s t : Nat} (hs : s < n) (ht : t < n) (hx : 0 < wtN xss s t) : rB xss n s t = true := rB_iff.2 ((Rch.refl _ _ _).step hs ht hx)
theorem cls_eq {xss : List (List Int)} {n s t : Nat} {cs : List Int} {nx : Int} (h : ClsI xss n cs nx) (hs : s < cs.length) (ht : t < cs.length) : (cs[s] == cs[t]) = (rB xss n s t && rB xss n t s) := by
  rw [Bool.eq_iff_iff, beq_iff_eq, Bool.and_eq_true, h.iff s t hs ht, mut_iff]
end Go.Proofs.Ytghdginjdolgpaa
