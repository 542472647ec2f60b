/-
  Reachable states of a chain: plain part. With it: Windows: all states run through draws from the last to the first. FnDraws: plain part: how many draws lead to each state, and a run by draws. slices.Max, slices.Min, allSame.
-/
import Derived.Test.YtceobhmbnkheiaaZRowFnMaps4
import Derived.Test.YtceobhmbnkheiaaZRowFnMaps2
set_option linter.unusedVariables false
set_option linter.unusedSimpArgs false
namespace Go.Proofs.Ytceobhmbnkheiaa
open Go.RowKit Go.Sort
def nxt (xss : List (List Int)) (d x : Int) : Int := (((toOf (xss.getD x.toNat []) d).getD 0 : Nat) : Int)
def stepAll (xss : List (List Int)) (d : Int) (at' : List Int) : List Int := at'.map (nxt xss d)
def runAll (xss : List (List Int)) (draws : List Int) (n : Nat) : List Int := draws.foldr (stepAll xss) (upTo n)
def DrawsB (t : Int) (draws : List Int) : Prop := ∀ d ∈ draws, 0 ≤ d ∧ d < t
def InN (n : Nat) (l : List Int) : Prop := ∀ x ∈ l, 0 ≤ x ∧ x < n
theorem upTo_in (n : Nat) : InN n (upTo n) := by
  intro x hx
  simp [upTo] at hx
  obtain ⟨i, hi, rfl⟩ := hx
  omega
theorem nxt_spec {s t : Int} {xss : List (List Int)} (h : chainOk s t xss = true) {d : Int} (hd : 0 ≤ d ∧ d < t) {k : Nat} (hk : k < xss.length) :
    ∃ i, toOf xss[k] d = some i ∧ nxt xss d k = (i : Int) ∧ i < xss.length := by
  obtain ⟨hB, hl, hs⟩ := rowB_of h hk
  obtain ⟨h1, h2, h3, h4⟩ := chainOk_parts0 h
  have hne : xss[k] ≠ [] := by intro e; rw [e] at hl; simp at hl; omega
  obtain ⟨i, e1, _, e3⟩ := toFrom_lt xss[k] d 0 0 (by omega) hne (fun x hx => (hB.2 x hx).1)
  refine ⟨i, e1, ?_, by omega⟩
  unfold nxt
  have : xss.getD (k : Int).toNat [] = xss[k] := by simp [hk]
  rw [this]
  unfold toOf
  rw [e1]; rfl
theorem stepAll_in {s t : Int} {xss : List (List Int)} (h : chainOk s t xss = true) {d : Int} (hd : 0 ≤ d ∧ d < t) {l : List Int} (hl : InN xss.length l) : InN xss.length (stepAll xss d l) := by
  intro x hx
  simp [stepAll] at hx
  obtain ⟨y, hy, rfl⟩ := hx
  have hy2 := hl y hy
  obtain ⟨k, rfl⟩ := Int.eq_ofNat_of_zero_le hy2.1
  obtain ⟨i, _, e2, e3⟩ := nxt_spec h hd (k := k) (by omega)
  rw [e2]; omega
theorem runAll_in {s t : Int} {xss : List (List Int)} (h : chainOk s t xss = true) : ∀ {draws : List Int}, DrawsB t draws → InN xss.length (runAll xss draws xss.length)
  | [], _ => upTo_in _
  | d :: ds, hd => stepAll_in h (hd d (by simp)) (runAll_in h (fun x hx => hd x (by simp [hx])))
theorem runAll_length (xss : List (List Int)) (n : Nat) : ∀ draws : List Int, (runAll xss draws n).length = n
  | [] => by simp [runAll, upTo]
  | d :: ds => by
    have := runAll_length xss n ds
    unfold runAll at this ⊢
    simp [stepAll, this]
theorem runAll_drop {xss : List (List Int)} {draws : List Int} {n k : Nat} (hk : k < draws.length) : runAll xss (draws.drop k) n = stepAll xss draws[k] (runAll xss (draws.drop (k + 1)) n) := by
  rw [List.drop_eq_getElem_cons hk]; rfl
theorem mixStep {xss : List (List Int)} {d : Int} {l : List Int} {i : Nat} (hi : i < l.length) :
    ((stepAll xss d l).take i ++ l.drop i).set i (nxt xss d l[i]) = (stepAll xss d l).take (i + 1) ++ l.drop (i + 1) := by
  have h1 : i < (stepAll xss d l).length := by simp [stepAll]; exact hi
  rw [List.set_append_right _ _ (by simp; omega), List.take_succ_eq_append_getElem h1, List.drop_eq_getElem_cons hi, List.append_assoc]
  have e2 : i - ((stepAll xss d l).take i).length = 0 := by simp [stepAll]; omega
  rw [e2, List.set_cons_zero]
  simp [stepAll]
theorem mixGet {xss : List (List Int)} {d : Int} {l : List Int} {i : Nat} (hi : i < l.length) :
    ((stepAll xss d l).take i ++ l.drop i)[i]'(by simp [stepAll]; omega) = l[i] := by
  rw [List.getElem_append_right (by rw [List.length_take]; omega)]
  simp [stepAll, Nat.min_eq_left (Nat.le_of_lt hi)]
theorem mixLen {xss : List (List Int)} {d : Int} {l : List Int} {i : Nat} (hi : i ≤ l.length) : ((stepAll xss d l).take i ++ l.drop i).length = l.length := by
  simp [stepAll]; omega
def allAs (l : List Int) : Bool := l.all fun x => decide (x = l.headD 0)
def winMet (l : List Int) : Bool := allAs l
def winState (l : List Int) : Int := if allAs l = true then l.headD 0 else 0

theorem head_get {l : List Int} (h : 0 < l.length) : l[0] = l.headD 0 := by
  cases l with
  | nil => simp at h
  | cons x l => rfl
theorem head_one {l : List Int} (h : 0 < l.length) : (l.take 1).all (fun x => decide (x = l.headD 0)) = true := by
  cases l with
  | nil => simp at h
  | cons x l => simp
theorem all_succ {l : List Int} {j : Nat} {c : Int} (h : (l.take j).all (fun x => decide (x = c)) = true) (hj : j < l.length) (he : l[j] = c) : (l.take (j + 1)).all (fun x => decide (x = c)) = true := by
  rw [List.take_succ_eq_append_getElem hj, List.all_append, h]; simp [he]
theorem allAs_no {l : List Int} {j : Nat} (hj : j < l.length) (he : ¬ l[j] = l.headD 0) : allAs l = false := by
  unfold allAs
  rw [List.all_eq_false]
  exact ⟨l[j], List.getElem_mem hj, by simpa using he⟩
theorem ret_win {l : List Int} (h : allAs l = false) : Ending.returned (.tuple #[.bool false, .int .i64 0]) = .returned (.tuple #[.bool (winMet l), .int .i64 (winState l)]) := by
  unfold winMet winState; rw [h]; rfl
theorem ret_win2 {l : List Int} (h : allAs l = true) : Ending.returned (.tuple #[.bool true, .int .i64 (l.headD 0)]) = .returned (.tuple #[.bool (winMet l), .int .i64 (winState l)]) := by
  unfold winMet winState; rw [h]; rfl
/-- the class form of the contract of l01To -/
theorem l01To_b {v : Value} {xss : List (List Int)} (b o : Nat) (s t d : Int) (k : Nat) (w : World) (hc : ChainAt w b o s t v) (ha : SlII w v xss) (hv : chainOk s t xss = true) (hd : 0 ≤ d ∧ d < t) (hk : k < xss.length) :
    Calls Try.prog 75 #[.pointer (some ⟨b, o, none⟩), .int .i64 k, .int .i64 d] w fun e w' => e = .returned (.int .i64 (nxt xss d k)) ∧ Below w.heap.size w w' := by
  obtain ⟨hB, hl, _⟩ := rowB_of hv hk
  obtain ⟨i, e1, e2, _⟩ := nxt_spec hv hd hk
  refine (l01To_any b o s t d k w hc ha hk hB hl).mono fun e w' ⟨h1, h2⟩ => ?_
  subst h2
  exact ⟨by rw [h1, e1, e2]; rfl, Below.refl _ _⟩
theorem stepByDraw_b {v : Value} {xss : List (List Int)} (s t d : Int) (k : Nat) (w : World) (ha : SlII w v xss) (hv : chainOk s t xss = true) (hd : 0 ≤ d ∧ d < t) (hk : k < xss.length) :
    Calls Try.prog 73 #[.agg #[.int .i64 s, .int .i64 t, v], .int .i64 k, .int .i64 d] w fun e w' => e = .returned (.int .i64 (nxt xss d k)) ∧ Below w.heap.size w w' := by
  obtain ⟨hB, hl, _⟩ := rowB_of hv hk
  obtain ⟨i, e1, e2, _⟩ := nxt_spec hv hd hk
  refine (stepByDraw_any s t d k w ha hk hB).mono fun e w' ⟨h1, h2⟩ => ?_
  exact ⟨by rw [h1, e1, e2]; rfl, h2⟩
end Go.Proofs.Ytceobhmbnkheiaa
namespace Go.Proofs.Ytceobhmbnkheiaa
open Go.RowKit Go.Sort
theorem gD_at {α : Type} {l : List α} {k : Nat} {d : α} (h : k < l.length) : l.getD k d = l[k] := by
  rw [List.getD_eq_getElem?_getD, List.getElem?_eq_getElem h]; rfl
theorem toFrom_at : ∀ (r : List Int) (d q : Int) (k i : Nat), q ≤ d → toFrom r d q k = some i → k ≤ i ∧ i - k < r.length ∧ q + (r.take (i - k)).sum ≤ d ∧ d < q + (r.take (i - k + 1)).sum
  | [], _, _, _, _, _, h => by simp [toFrom] at h
  | x :: r, d, q, k, i, hq, h => by
    unfold toFrom at h
    split at h
    · rename_i hlt
      simp at h
      subst h
      simp
      omega
    · rename_i hge
      obtain ⟨h1, h2, h3, h4⟩ := toFrom_at r d (q + x) (k + 1) i (by omega) h
      obtain ⟨j, rfl⟩ : ∃ j, i = k + 1 + j := ⟨i - (k + 1), by omega⟩
      have e1 : k + 1 + j - (k + 1) = j := by omega
      have e2 : k + 1 + j - k = j + 1 := by omega
      rw [e1] at h2 h3 h4
      rw [e2]
      simp only [List.take_succ_cons, List.sum_cons, List.length_cons]
      omega
theorem take_mono {r : List Int} (h : ∀ x ∈ r, 0 ≤ x) : ∀ {a b : Nat}, a ≤ b → (r.take a).sum ≤ (r.take b).sum := by
  intro a b hab
  obtain ⟨c, rfl⟩ : ∃ c, b = a + c := ⟨b - a, by omega⟩
  clear hab
  induction c with
  | zero => exact Int.le_refl _
  | succ c ih =>
    by_cases hl : a + c < r.length
    · have := sum_succ (r := r) hl
      have h2 := h _ (List.getElem_mem hl)
      rw [show a + (c + 1) = a + c + 1 by omega, this]
      omega
    · rw [List.take_of_length_le (show r.length ≤ a + (c + 1) by omega)]
      rw [List.take_of_length_le (show r.length ≤ a + c by omega)] at ih
      exact ih
/-- how many of the first n draws lead to each state -/
def cntD (r : List Int) : Nat → List Int
  | 0 => List.replicate r.length 0
  | n + 1 => (cntD r n).set ((toOf r n).getD 0) ((cntD r n).getD ((toOf r n).getD 0) 0 + 1)
theorem cntD_len (r : List Int) : ∀ n, (cntD r n).length = r.length
  | 0 => by simp [cntD]
  | n + 1 => by unfold cntD; rw [List.length_set, cntD_len r n]
theorem cntD_get {r : List Int} (h : ∀ x ∈ r, 0 ≤ x) (hne : r ≠ []) : ∀ (n : Nat), (n : Int) ≤ r.sum → ∀ j (hj : j < r.length), (cntD r n).getD j 0 = max 0 (min ((n : Int) - (r.take j).sum) r[j])
  | 0, _, j, hj => by
    have hz : (cntD r 0).getD j 0 = 0 := by
      unfold cntD
      rw [List.getD_eq_getElem?_getD, List.getElem?_replicate]
      split <;> rfl
    rw [hz]
    have := take_mono h (Nat.zero_le j)
    simp at this
    simp
    omega
  | n + 1, hs, j, hj => by
    have ih := cntD_get h hne n (by omega) j hj
    obtain ⟨i, hi, _, hil⟩ := toFrom_lt r (n : Int) 0 0 (by omega) hne h
    have hto : toOf r n = some i := hi
    obtain ⟨_, _, h3, h4⟩ := toFrom_at r n 0 0 i (by omega) hi
    simp only [Nat.sub_zero, Int.zero_add] at h3 h4
    have hil2 : i < r.length := by omega
    have hsi := sum_succ (r := r) hil2
    have hsj := sum_succ (r := r) hj
    unfold cntD
    rw [hto, Option.getD_some]
    by_cases e : j = i
    · subst e
      rw [List.getD_eq_getElem?_getD, List.getElem?_set, if_pos rfl, if_pos (by rw [cntD_len]; exact hj)]
      simp only [Option.getD_some]
      rw [ih]
      simp only [Int.natCast_add]
      omega
    · have hset : ((cntD r n).set i ((cntD r n).getD i 0 + 1)).getD j 0 = (cntD r n).getD j 0 := by
        rw [List.getD_eq_getElem?_getD, List.getElem?_set, if_neg (by omega), List.getD_eq_getElem?_getD]
      rw [hset, ih]
      simp only [Int.natCast_add]
      rcases Nat.lt_or_gt_of_ne e with hlt | hgt
      · have := take_mono h (show j + 1 ≤ i by omega)
        omega
      · have := take_mono h (show i + 1 ≤ j by omega)
        omega
theorem cntD_all {r : List Int} (h : ∀ x ∈ r, 0 ≤ x) (hne : r ≠ []) {t : Nat} (ht : r.sum = (t : Int)) : cntD r t = r := by
  refine List.ext_getElem (cntD_len r t) (fun j h1 h2 => ?_)
  have := cntD_get h hne t (by omega) j h2
  rw [gD_at (show j < (cntD r t).length from h1)] at this
  rw [this]
  have hsj := sum_succ (r := r) h2
  have hm := take_mono h (show j + 1 ≤ r.length by omega)
  rw [List.take_length] at hm
  have h0 := h _ (List.getElem_mem h2)
  omega
/-- a run by the first k draws -/
def runN (xss : List (List Int)) (s : Int) (ds : List Int) : Nat → List Int
  | 0 => [s]
  | k + 1 => runN xss s ds k ++ [nxt xss (ds.getD k 0) ((runN xss s ds k).getD k 0)]
theorem runN_len (xss : List (List Int)) (s : Int) (ds : List Int) : ∀ k, (runN xss s ds k).length = k + 1
  | 0 => rfl
  | k + 1 => by unfold runN; rw [List.length_append, runN_len xss s ds k]; rfl
theorem runN_get {xss : List (List Int)} {s : Int} {ds : List Int} {j : Nat} : ∀ {k : Nat}, j ≤ k → (runN xss s ds k).getD j 0 = (runN xss s ds j).getD j 0
  | 0, h => by obtain rfl : j = 0 := by omega
               rfl
  | k + 1, h => by
    by_cases e : j = k + 1
    · subst e; rfl
    · rw [← runN_get (show j ≤ k by omega)]
      conv => lhs; unfold runN
      rw [List.getD_eq_getElem?_getD, List.getElem?_append_left (by rw [runN_len]; omega), List.getD_eq_getElem?_getD]
theorem runN_next {xss : List (List Int)} {s : Int} {ds : List Int} {j k : Nat} (h : j < k) : (runN xss s ds k).getD (j + 1) 0 = nxt xss (ds.getD j 0) ((runN xss s ds k).getD j 0) := by
  rw [runN_get (show j + 1 ≤ k by omega), runN_get (show j ≤ k by omega)]
  conv => lhs; unfold runN
  rw [List.getD_eq_getElem?_getD, List.getElem?_append_right (by rw [runN_len]; omega), runN_len]
  simp
theorem runN_zero {xss : List (List Int)} {s : Int} {ds : List Int} {k : Nat} : (runN xss s ds k).getD 0 0 = s := by rw [runN_get (Nat.zero_le k)]; rfl
theorem runN_in {s t : Int} {xss : List (List Int)} (h : chainOk s t xss = true) {x : Int} (hx : 0 ≤ x ∧ x < xss.length) {ds : List Int} (hd : DrawsB t ds) : ∀ k, k ≤ ds.length → InN xss.length (runN xss x ds k)
  | 0, _ => by intro y hy; simp [runN] at hy; subst hy; exact hx
  | k + 1, hk => by
    have ih := runN_in h hx hd k (by omega)
    intro y hy
    unfold runN at hy
    simp only [List.mem_append, List.mem_singleton] at hy
    rcases hy with hy | rfl
    · exact ih y hy
    · have hkl : k < (runN xss x ds k).length := by rw [runN_len]; omega
      have hm := ih _ (List.getElem_mem hkl)
      have hdk := hd _ (List.getElem_mem (show k < ds.length by omega))
      rw [gD_at hkl, gD_at (show k < ds.length by omega)]
      obtain ⟨z, hz⟩ := Int.eq_ofNat_of_zero_le hm.1
      rw [hz] at hm ⊢
      have := stepAll_in h hdk (l := [(z : Int)]) (fun y hy => by simp at hy; subst hy; exact hm)
      exact this _ (by simp [stepAll])
end Go.Proofs.Ytceobhmbnkheiaa
namespace Go.Proofs.Ytceobhmbnkheiaa
open Go.RowKit Go.Sort
def mxTo (l : List Int) (j : Nat) : Int := (l.take j).foldl max (l.headD 0)
def mnTo (l : List Int) (j : Nat) : Int := (l.take j).foldl min (l.headD 0)
theorem mxTo_succ {l : List Int} {j : Nat} (hj : j < l.length) : mxTo l (j + 1) = max (mxTo l j) l[j] := by
  unfold mxTo; rw [List.take_succ_eq_append_getElem hj, List.foldl_append]; rfl
theorem mnTo_succ {l : List Int} {j : Nat} (hj : j < l.length) : mnTo l (j + 1) = min (mnTo l j) l[j] := by
  unfold mnTo; rw [List.take_succ_eq_append_getElem hj, List.foldl_append]; rfl
theorem foldl_max_ge : ∀ (l : List Int) (a : Int), a ≤ l.foldl max a ∧ ∀ x ∈ l, x ≤ l.foldl max a
  | [], a => ⟨Int.le_refl _, by simp⟩
  | y :: l, a => by
    obtain ⟨h1, h2⟩ := foldl_max_ge l (max a y)
    rw [List.foldl_cons]
    refine ⟨by omega, fun x hx => ?_⟩
    simp at hx
    rcases hx with rfl | hx
    · omega
    · exact h2 x hx
theorem foldl_min_le : ∀ (l : List Int) (a : Int), l.foldl min a ≤ a ∧ ∀ x ∈ l, l.foldl min a ≤ x
  | [], a => ⟨Int.le_refl _, by simp⟩
  | y :: l, a => by
    obtain ⟨h1, h2⟩ := foldl_min_le l (min a y)
    rw [List.foldl_cons]
    refine ⟨by omega, fun x hx => ?_⟩
    simp at hx
    rcases hx with rfl | hx
    · omega
    · exact h2 x hx
theorem foldl_same : ∀ (l : List Int) (a : Int), (∀ x ∈ l, x = a) → l.foldl max a = a ∧ l.foldl min a = a
  | [], _, _ => ⟨rfl, rfl⟩
  | y :: l, a, h => by
    have hy : y = a := h y (by simp)
    subst hy
    have := foldl_same l y (fun x hx => h x (by simp [hx]))
    simpa using this
theorem allAs_mm (l : List Int) : decide (mxTo l l.length = mnTo l l.length) = allAs l := by
  unfold mxTo mnTo
  rw [List.take_length]
  by_cases h : allAs l = true
  · rw [h]
    have h2 : ∀ x ∈ l, x = l.headD 0 := by
      intro x hx
      unfold allAs at h
      rw [List.all_eq_true] at h
      simpa using h x hx
    obtain ⟨h3, h4⟩ := foldl_same l _ h2
    rw [h3, h4]; simp
  · have h' : allAs l = false := by simpa using h
    rw [h']
    simp only [decide_eq_false_iff_not]
    intro e
    apply h
    unfold allAs
    rw [List.all_eq_true]
    intro x hx
    have h1 := (foldl_max_ge l (l.headD 0))
    have h2 := (foldl_min_le l (l.headD 0))
    have h3 := h1.2 x hx
    have h4 := h2.2 x hx
    exact decide_eq_true (by omega)
set_option maxHeartbeats 400000 in
theorem Max_any {v : Value} {l : List Int} (w : World) (ha : SlI w v l) (hne : 0 < l.length) :
    Calls Try.prog 93 #[v] w fun e w' => e = .returned (.int .i64 (mxTo l l.length)) ∧ w = w' := by
  obtain ⟨a, c, rfl, hc, hc', hrd⟩ := ha
  unfold maxLen at hc'
  have hm : l.length ≤ 9223372036854775807 := by omega
  have hm1 : ¬ ((l.length : Int) < 1) := by omega
  obtain ⟨b, off, rfl, g0⟩ := hrd.one (i64s_get hne)
  have hh := head_get hne
  rw [hh, Nat.add_zero] at g0
  have e1 : mxTo l 1 = l.headD 0 := by
    cases l with
    | nil => simp at hne
    | cons x l => simp [mxTo]
  obtain ⟨h, hq⟩ : ∃ h : Int, h = l.headD 0 := ⟨_, rfl⟩
  rw [← hq] at g0 e1
  have E1 := Lib.hid e1
  clear hh hc hc' hq e1
  go_enter Try.func93, Try.ntmps93
  go_wp2
  go_loopw [3, 4] (fun m i wr => ∃ j : Nat, 1 ≤ j ∧ j ≤ l.length ∧ i = .int .i64 j ∧ m = .int .i64 (mxTo l j) ∧ wr = w) (fun _ i _ => l.length - (intOf i).toNat)
  case atStart => exact ⟨1, by omega, by omega, rfl, vi E1.out.symm, rfl⟩
  case round =>
    obtain ⟨j, hj1, hj, rfl, rfl, rfl⟩ := hrel
    clear g0
    by_cases hjt : j < l.length
    · have hs := mxTo_succ hjt
      have HS := Lib.hid hs
      obtain ⟨b', off', he, gj⟩ := hrd.one (i64s_get hjt)
      simp at he
      obtain ⟨rfl, rfl⟩ := he
      clear hs
      go_wp2
      go_roundw
      case rel => exact ⟨j + 1, by omega, by omega, by go_num, vi (by rw [HS.out]; split <;> omega), trivial⟩
      case measure => simp [intOf]; omega
    · obtain rfl : j = l.length := by omega
      go_wp2
      go_ret
      exact ⟨rfl, rfl⟩
set_option maxHeartbeats 400000 in
theorem Min_any {v : Value} {l : List Int} (w : World) (ha : SlI w v l) (hne : 0 < l.length) :
    Calls Try.prog 94 #[v] w fun e w' => e = .returned (.int .i64 (mnTo l l.length)) ∧ w = w' := by
  obtain ⟨a, c, rfl, hc, hc', hrd⟩ := ha
  unfold maxLen at hc'
  have hm : l.length ≤ 9223372036854775807 := by omega
  have hm1 : ¬ ((l.length : Int) < 1) := by omega
  obtain ⟨b, off, rfl, g0⟩ := hrd.one (i64s_get hne)
  have hh := head_get hne
  rw [hh, Nat.add_zero] at g0
  have e1 : mnTo l 1 = l.headD 0 := by
    cases l with
    | nil => simp at hne
    | cons x l => simp [mnTo]
  obtain ⟨h, hq⟩ : ∃ h : Int, h = l.headD 0 := ⟨_, rfl⟩
  rw [← hq] at g0 e1
  have E1 := Lib.hid e1
  clear hh hc hc' hq e1
  go_enter Try.func94, Try.ntmps94
  go_wp2
  go_loopw [3, 4] (fun m i wr => ∃ j : Nat, 1 ≤ j ∧ j ≤ l.length ∧ i = .int .i64 j ∧ m = .int .i64 (mnTo l j) ∧ wr = w) (fun _ i _ => l.length - (intOf i).toNat)
  case atStart => exact ⟨1, by omega, by omega, rfl, vi E1.out.symm, rfl⟩
  case round =>
    obtain ⟨j, hj1, hj, rfl, rfl, rfl⟩ := hrel
    clear g0
    by_cases hjt : j < l.length
    · have hs := mnTo_succ hjt
      have HS := Lib.hid hs
      obtain ⟨b', off', he, gj⟩ := hrd.one (i64s_get hjt)
      simp at he
      obtain ⟨rfl, rfl⟩ := he
      clear hs
      go_wp2
      go_roundw
      case rel => exact ⟨j + 1, by omega, by omega, by go_num, vi (by rw [HS.out]; split <;> omega), trivial⟩
      case measure => simp [intOf]; omega
    · obtain rfl : j = l.length := by omega
      go_wp2
      go_ret
      exact ⟨rfl, rfl⟩

theorem allSame_any {v : Value} {l : List Int} (w : World) (ha : SlI w v l) (hne : 0 < l.length) :
    Calls Try.prog 81 #[v] w fun e w' => e = .returned (.bool (allAs l)) ∧ w = w' := by
  have K1 := Lib.hid (Max_any w ha hne)
  have K2 := Lib.hid (Min_any w ha hne)
  obtain ⟨a, c, rfl, _, _, _⟩ := ha
  have hm := allAs_mm l
  have HM := Lib.hid hm
  generalize mxTo l l.length = m1 at K1 HM
  generalize mnTo l l.length = m2 at K2 HM
  have ht : (m1 == m2) = decide (m1 = m2) := by by_cases h : m1 = m2 <;> simp [h]
  have HT := Lib.hid ht
  clear hm ht
  go_enter Try.func81, Try.ntmps81
  go_wp2_with fail
  refine (K1.out).mono ?_
  rintro e w' ⟨rfl, rfl⟩
  go_wp2_with fail
  refine (K2.out).mono ?_
  rintro e w' ⟨rfl, rfl⟩
  go_wp2
  go_ret
  exact ⟨rb (by rw [← HM.out]; exact HT.out), rfl⟩

end Go.Proofs.Ytceobhmbnkheiaa
namespace Go.Proofs.Ytceobhmbnkheiaa
open Go.RowKit Go.Sort
def wtN (xss : List (List Int)) (s t : Nat) : Int := (xss.getD s []).getD t 0
/-- t is k steps behind s -/
def walkN (xss : List (List Int)) (n s : Nat) : Nat → Nat → Prop
  | 0, t => t = s
  | k + 1, t => ∃ u, u < n ∧ walkN xss n s k u ∧ t < n ∧ 0 < wtN xss u t
def Rch (xss : List (List Int)) (n s t : Nat) : Prop := ∃ k, walkN xss n s k t
noncomputable def rB (xss : List (List Int)) (n s t : Nat) : Bool := @decide (Rch xss n s t) (Classical.propDecidable _)
theorem rB_iff {xss : List (List Int)} {n s t : Nat} : rB xss n s t = true ↔ Rch xss n s t := by
  unfold rB; rw [@decide_eq_true_iff _ (Classical.propDecidable _)]
theorem Rch.refl (xss : List (List Int)) (n s : Nat) : Rch xss n s s := ⟨0, rfl⟩
theorem Rch.lt {xss : List (List Int)} {n s t : Nat} (h : Rch xss n s t) (hs : s < n) : t < n := by
  obtain ⟨k, hk⟩ := h
  cases k with
  | zero => have : t = s := hk; omega
  | succ k => obtain ⟨_, _, _, h, _⟩ := hk; exact h
theorem Rch.step {xss : List (List Int)} {n s u t : Nat} (h : Rch xss n s u) (hs : s < n) (ht : t < n) (hw : 0 < wtN xss u t) : Rch xss n s t := by
  have hu := h.lt hs
  obtain ⟨k, hk⟩ := h
  exact ⟨k + 1, u, hu, hk, ht, hw⟩
theorem Rch.trans {xss : List (List Int)} {n s t u : Nat} (hs : s < n) (h : Rch xss n s t) (h2 : Rch xss n t u) : Rch xss n s u := by
  obtain ⟨k, hk⟩ := h2
  induction k generalizing u with
  | zero => have : u = t := hk; subst this; exact h
  | succ k ih =>
    obtain ⟨v, hv, hw, hu, hp⟩ := hk
    exact (ih hw).step hs hu hp
/-- what is closed under steps has all that is reached -/
theorem Rch.mem {xss : List (List Int)} {n s t : Nat} {P : Nat → Prop} (h0 : P s) (hs : ∀ u t, u < n → P u → t < n → 0 < wtN xss u t → P t) (h : Rch xss n s t) : P t := by
  obtain ⟨k, hk⟩ := h
  induction k generalizing t with
  | zero => have : t = s := hk; subst this; exact h0
  | succ k ih =>
    obtain ⟨v, hv, hw, hu, hp⟩ := hk
    exact hs v t hv (ih hw) hu hp
/-- a search that has gone through the first k states of its list, and through the first j steps of the next one -/
structure BfsI (xss : List (List Int)) (n s : Nat) (L : List Nat) (k j : Nat) : Prop where
  nd : L.Nodup
  all : ∀ t ∈ L, t < n ∧ Rch xss n s t
  start : s ∈ L
  done : ∀ i (h : i < L.length), i < k → ∀ t, t < n → 0 < wtN xss L[i] t → t ∈ L
  now : ∀ (h : k < L.length), ∀ t, t < j → t < n → 0 < wtN xss L[k] t → t ∈ L
theorem BfsI.first {xss : List (List Int)} {n s : Nat} (hs : s < n) : BfsI xss n s [s] 0 0 := ⟨by simp, fun t ht => by simp at ht; subst ht; exact ⟨hs, Rch.refl _ _ _⟩, by simp, fun i _ h => by omega, fun _ t h => by omega⟩
theorem BfsI.skip {xss : List (List Int)} {n s : Nat} {L : List Nat} {k j : Nat} (h : BfsI xss n s L k j) (hk : k < L.length) (hj : ¬ 0 < wtN xss L[k] j ∨ j ∈ L) : BfsI xss n s L k (j + 1) :=
  ⟨h.nd, h.all, h.start, h.done, fun hk2 t ht htn hw => by
    by_cases e : t = j
    · subst e; rcases hj with hj | hj
      · exact absurd hw hj
      · exact hj
    · exact h.now hk2 t (by omega) htn hw⟩
theorem BfsI.add {xss : List (List Int)} {n s : Nat} {L : List Nat} {k j : Nat} (h : BfsI xss n s L k j) (hs : s < n) (hk : k < L.length) (hn : j < n) (hw : 0 < wtN xss L[k] j) (hj : j ∉ L) : BfsI xss n s (L ++ [j]) k (j + 1) := by
  refine ⟨?_, ?_, by simp [h.start], ?_, ?_⟩
  · rw [List.nodup_append]
    exact ⟨h.nd, by simp, fun a ha b hb => by simp at hb; subst hb; intro e; subst e; exact hj ha⟩
  · intro t ht
    simp only [List.mem_append, List.mem_singleton] at ht
    rcases ht with ht | rfl
    · exact h.all t ht
    · exact ⟨hn, (h.all _ (List.getElem_mem hk)).2.step hs hn hw⟩
  · intro i hi hik t htn hwt
    have hil : i < L.length := by omega
    rw [List.getElem_append_left hil] at hwt
    simp [h.done i hil hik t htn hwt]
  · intro hk2 t ht htn hwt
    rw [List.getElem_append_left hk] at hwt
    by_cases e : t = j
    · subst e; simp
    · simp [h.now hk t (by omega) htn hwt]
theorem BfsI.next {xss : List (List Int)} {n s : Nat} {L : List Nat} {k : Nat} (h : BfsI xss n s L k n) : BfsI xss n s L (k + 1) 0 :=
  ⟨h.nd, h.all, h.start, fun i hi hik t htn hw => by
    by_cases e : i = k
    · subst e; exact h.now hi t htn htn hw
    · exact h.done i hi (by omega) t htn hw, fun _ t ht => by omega⟩
theorem nodup_len {n : Nat} {L : List Nat} (h : L.Nodup) (hl : ∀ t ∈ L, t < n) : L.length ≤ n := by
  have := List.Nodup.length_le_of_subset (l₁ := L) (l₂ := List.range n) h (fun t ht => List.mem_range.2 (hl t ht))
  simpa using this
theorem BfsI.len {xss : List (List Int)} {n s : Nat} {L : List Nat} {k j : Nat} (h : BfsI xss n s L k j) : L.length ≤ n := nodup_len h.nd (fun t ht => (h.all t ht).1)
theorem BfsI.room {xss : List (List Int)} {n s : Nat} {L : List Nat} {k j : Nat} (h : BfsI xss n s L k j) (hn : j < n) (hj : j ∉ L) : L.length < n := by
  have : (j :: L).length ≤ n := nodup_len (List.nodup_cons.2 ⟨hj, h.nd⟩) (fun t ht => by
    simp only [List.mem_cons] at ht
    rcases ht with rfl | ht
    · exact hn
    · exact (h.all t ht).1)
  simp at this
  omega
theorem BfsI.last {xss : List (List Int)} {n s : Nat} {L : List Nat} {j : Nat} (h : BfsI xss n s L L.length j) {t : Nat} : t ∈ L ↔ rB xss n s t = true := by
  rw [rB_iff]
  refine ⟨fun ht => (h.all t ht).2, fun hr => hr.mem (P := fun t => t ∈ L) h.start (fun u t hu hm ht hw => ?_)⟩
  obtain ⟨i, hi, rfl⟩ := List.getElem_of_mem hm
  exact h.done i hi hi t ht hw
/-- marks of a list -/
def marksL (n : Nat) (L : List Nat) : List Bool := (List.range n).map fun t => decide (t ∈ L)
theorem marksL_len (n : Nat) (L : List Nat) : (marksL n L).length = n := by simp [marksL]
theorem marksL_get {n : Nat} {L : List Nat} {t : Nat} (h : t < (marksL n L).length) : (marksL n L)[t] = decide (t ∈ L) := by simp [marksL]
theorem marksL_nil (n : Nat) : marksL n [] = List.replicate n false := by
  refine List.ext_getElem (by simp [marksL]) (fun i h1 h2 => by rw [marksL_get h1]; simp)
theorem marksL_add {n : Nat} {L : List Nat} {j : Nat} : (marksL n L).set j true = marksL n (L ++ [j]) := by
  refine List.ext_getElem (by simp [marksL]) (fun i h1 h2 => ?_)
  rw [List.getElem_set, marksL_get h2, marksL_get (by simpa using h1)]
  by_cases e : j = i
  · subst e; simp
  · rw [if_neg e]
    have : ¬ i = j := fun h => e h.symm
    simp [this]
noncomputable def reachB (xss : List (List Int)) (n s : Nat) : List Bool := (List.range n).map (rB xss n s)
theorem BfsI.marks {xss : List (List Int)} {n s : Nat} {L : List Nat} {j : Nat} (h : BfsI xss n s L L.length j) : marksL n L = reachB xss n s := by
  unfold marksL reachB
  refine List.map_congr_left (fun t _ => ?_)
  rw [Bool.eq_iff_iff, decide_eq_true_iff]
  exact h.last
/-- the members of some marks -/
def memsL (m : List Bool) : Nat → List Int
  | 0 => []
  | k + 1 => memsL m k ++ (if m.getD k false = true then [(k : Int)] else [])
theorem memsL_mem {m : List Bool} {x : Int} : ∀ {k : Nat}, x ∈ memsL m k ↔ ∃ t : Nat, t < k ∧ x = t ∧ m.getD t false = true
  | 0 => by simp [memsL]
  | k + 1 => by
    unfold memsL
    rw [List.mem_append, memsL_mem]
    constructor
    · rintro (⟨t, h1, h2, h3⟩ | h)
      · exact ⟨t, by omega, h2, h3⟩
      · split at h
        · simp at h; exact ⟨k, by omega, h, ‹_›⟩
        · simp at h
    · rintro ⟨t, h1, h2, h3⟩
      by_cases e : t = k
      · subst e; right; rw [if_pos h3]; simp [h2]
      · left; exact ⟨t, by omega, h2, h3⟩
theorem memsL_pair (m : List Bool) : ∀ k, (memsL m k).Pairwise (· < ·)
  | 0 => by simp [memsL]
  | k + 1 => by
    unfold memsL
    rw [List.pairwise_append]
    refine ⟨memsL_pair m k, by split <;> simp, fun a ha b hb => ?_⟩
    obtain ⟨t, ht, rfl, _⟩ := memsL_mem.1 ha
    split at hb
    · simp at hb; omega
    · simp at hb
theorem memsL_len (m : List Bool) : ∀ k, (memsL m k).length ≤ k
  | 0 => by simp [memsL]
  | k + 1 => by
    have := memsL_len m k
    unfold memsL
    rw [List.length_append]
    split <;> simp <;> omega
theorem pair_ext : ∀ {a b : List Int}, a.Pairwise (· < ·) → b.Pairwise (· < ·) → (∀ x, x ∈ a ↔ x ∈ b) → a = b
  | [], [], _, _, _ => rfl
  | [], y :: b, _, _, h => by have := (h y).2 (by simp); simp at this
  | x :: a, [], _, _, h => by have := (h x).1 (by simp); simp at this
  | x :: a, y :: b, ha, hb, h => by
    rw [List.pairwise_cons] at ha hb
    have hxy : x = y := by
      have h1 := (h x).1 (by simp)
      have h2 := (h y).2 (by simp)
      simp only [List.mem_cons] at h1 h2
      rcases h1 with h1 | h1
      · exact h1
      · rcases h2 with h2 | h2
        · exact h2.symm
        · have := ha.1 y h2; have := hb.1 x h1; omega
    subst hxy
    rw [pair_ext ha.2 hb.2 (fun z => ?_)]
    have hz := h z
    simp only [List.mem_cons] at hz
    constructor
    · intro hm
      rcases hz.1 (.inr hm) with e | e
      · subst e; have := ha.1 z hm; omega
      · exact e
    · intro hm
      rcases hz.2 (.inr hm) with e | e
      · subst e; have := hb.1 z hm; omega
      · exact e
noncomputable def reachL (xss : List (List Int)) (n s : Nat) : List Int := memsL (reachB xss n s) n
theorem reachB_get {xss : List (List Int)} {n s t : Nat} (h : t < n) : (reachB xss n s).getD t false = rB xss n s t := by
  have hl : t < (reachB xss n s).length := by simp [reachB]; exact h
  rw [gD_at hl]; simp [reachB]
theorem reachL_mem {xss : List (List Int)} {n s : Nat} {x : Int} : x ∈ reachL xss n s ↔ ∃ t : Nat, t < n ∧ x = t ∧ Rch xss n s t := by
  unfold reachL
  rw [memsL_mem]
  constructor
  · rintro ⟨t, h1, h2, h3⟩; rw [reachB_get h1] at h3; exact ⟨t, h1, h2, rB_iff.1 h3⟩
  · rintro ⟨t, h1, h2, h3⟩; exact ⟨t, h1, h2, by rw [reachB_get h1]; exact rB_iff.2 h3⟩
theorem reachL_self {xss : List (List Int)} {n s : Nat} (h : s < n) : (s : Int) ∈ reachL xss n s := reachL_mem.2 ⟨s, h, rfl, Rch.refl _ _ _⟩
/-- a rising list with the same members is that of the states that are reached -/
theorem BfsI.rising {xss : List (List Int)} {n s : Nat} {L : List Nat} {j : Nat} (h : BfsI xss n s L L.length j) {a : List Int} (ha : a.Pairwise (· < ·)) (hm : ∀ x : Int, x ∈ a ↔ ∃ t : Nat, t ∈ L ∧ x = t) : a = reachL xss n s := by
  refine pair_ext ha (memsL_pair _ _) (fun x => ?_)
  rw [hm x]
  show _ ↔ x ∈ reachL xss n s
  rw [reachL_mem]
  constructor
  · rintro ⟨t, h1, h2⟩; exact ⟨t, (h.all t h1).1, h2, (h.all t h1).2⟩
  · rintro ⟨t, h1, h2, h3⟩; exact ⟨t, h.last.2 (rB_iff.2 h3), h2⟩
/-- the state is the first one of a closed class -/
noncomputable def closedB (xss : List (List Int)) (n s : Nat) : Bool := decide ((reachL xss n s).getD 0 0 = (s : Int)) && (reachL xss n s).all fun t => rB xss n t.toNat s
noncomputable def closedN (xss : List (List Int)) (n : Nat) : Nat → List (List Int)
  | 0 => []
  | k + 1 => closedN xss n k ++ (if closedB xss n k = true then [reachL xss n k] else [])
theorem closedN_mem {xss : List (List Int)} {n : Nat} {e : List Int} : ∀ {k : Nat}, e ∈ closedN xss n k → ∃ s, s < k ∧ closedB xss n s = true ∧ e = reachL xss n s
  | 0, h => by simp [closedN] at h
  | k + 1, h => by
    unfold closedN at h
    rw [List.mem_append] at h
    rcases h with h | h
    · obtain ⟨s, h1, h2, h3⟩ := closedN_mem h; exact ⟨s, by omega, h2, h3⟩
    · split at h
      · simp at h; exact ⟨k, by omega, ‹_›, h⟩
      · simp at h
theorem closedN_len (xss : List (List Int)) (n : Nat) : ∀ k, (closedN xss n k).length ≤ k
  | 0 => by simp [closedN]
  | k + 1 => by
    have := closedN_len xss n k
    unfold closedN
    rw [List.length_append]
    split <;> simp <;> omega
noncomputable def connB (xss : List (List Int)) (n : Nat) : Bool := decide ((closedN xss n n).length = 1) && decide (((closedN xss n n).getD 0 []).length = n)
/-- in a connected chain each state is reached from each one -/
theorem conn_all {xss : List (List Int)} {n : Nat} (h : connB xss n = true) {s t : Nat} (hs : s < n) (ht : t < n) : Rch xss n s t := by
  unfold connB at h
  rw [Bool.and_eq_true, decide_eq_true_eq, decide_eq_true_eq] at h
  obtain ⟨h1, h2⟩ := h
  have hm : (closedN xss n n).getD 0 [] ∈ closedN xss n n := by
    rw [gD_at (by omega)]; exact List.getElem_mem _
  generalize (closedN xss n n).getD 0 [] = e at h2 hm
  obtain ⟨r, hr, hc, rfl⟩ := closedN_mem hm
  have key : ∀ u, u < n → Rch xss n r u := by
    intro u hu
    have hsub : ∀ x ∈ reachL xss n r, 0 ≤ x ∧ x < n := by
      intro x hx
      obtain ⟨t, h1, rfl, _⟩ := reachL_mem.1 hx
      omega
    have hp : (reachL xss n r).Pairwise (· < ·) := memsL_pair _ _
    have : ((u : Int)) ∈ reachL xss n r := by
      by_cases hu2 : (u : Int) ∈ reachL xss n r
      · exact hu2
      · exfalso
        have hnd : ((u : Int) :: reachL xss n r).Nodup := List.nodup_cons.2 ⟨hu2, hp.imp (fun h => by omega)⟩
        have hsub2 : ((u : Int) :: reachL xss n r) ⊆ (List.range n).map (fun t : Nat => (t : Int)) := by
          intro x hx
          simp only [List.mem_cons] at hx
          rw [List.mem_map]
          rcases hx with rfl | hx
          · exact ⟨u, List.mem_range.2 hu, rfl⟩
          · have := hsub x hx
            exact ⟨x.toNat, List.mem_range.2 (by omega), by omega⟩
        have := List.Nodup.length_le_of_subset hnd hsub2
        simp at this
        omega
    obtain ⟨t, _, ht, h⟩ := reachL_mem.1 this
    have : u = t := by omega
    subst this; exact h
  have back : Rch xss n s r := by
    unfold closedB at hc
    rw [Bool.and_eq_true, List.all_eq_true] at hc
    have := hc.2 (s : Int) (reachL_mem.2 ⟨s, hs, rfl, key s hs⟩)
    rw [Int.toNat_natCast] at this
    exact rB_iff.1 this
  exact back.trans hs (key t ht)
end Go.Proofs.Ytceobhmbnkheiaa
