/-
  Ends of orders, maps that keep them: the program's side. With it: Orders of states as rows of bools; maps that rise: the plain part. Orders in memory: rows of bools read, owned apart, made. Orders looked at: the program's side.
-/
import Derived.Test.YtceobhmbnkheiaaZRowFnSandwich14
import Derived.Test.YtceobhmbnkheiaaZRowFnSandwich5
import Derived.Test.YtceobhmbnkheiaaZRowFnSandwich11
import Derived.Lib.QuietBelow
set_option linter.unusedVariables false
set_option linter.unusedSimpArgs false
namespace Go.Proofs.Ytceobhmbnkheiaa
open Go.RowKit Go.Sort
def leB (b : List (List Bool)) (s t : Nat) : Bool := (b.getD s []).getD t false
/-- an order of n states -/
structure OrdB (n : Nat) (b : List (List Bool)) : Prop where
  n1 : 1 ≤ n
  n6 : n ≤ 6
  len : b.length = n
  rows : ∀ r ∈ b, r.length = n
  refl : ∀ s, s < n → leB b s s = true
  anti : ∀ s t, s < n → t < n → s ≠ t → ¬ (leB b s t = true ∧ leB b t s = true)
  trans : ∀ s t u, s < n → t < n → u < n → leB b s t = true → leB b t u = true → leB b s u = true
theorem OrdB.at_ {n : Nat} {b : List (List Bool)} (h : OrdB n b) {s t : Nat} (hs : s < n) (ht : t < n) : ∃ (h1 : s < b.length) (h2 : t < b[s].length), leB b s t = b[s][t] := by
  have h1 : s < b.length := by rw [h.len]; exact hs
  have h2 : t < b[s].length := by rw [h.rows _ (List.getElem_mem h1)]; exact ht
  refine ⟨h1, h2, ?_⟩
  unfold leB
  rw [List.getD_eq_getElem?_getD, List.getD_eq_getElem?_getD, List.getElem?_eq_getElem h1]
  show (b[s][t]?).getD false = _
  rw [List.getElem?_eq_getElem h2]; rfl
def ordC (n : Nat) (b : List (List Bool)) : Bool :=
  decide (b.length = n) && b.all (fun r => decide (r.length = n)) && (List.range n).all fun s => leB b s s && (List.range n).all fun t => (decide (s = t) || !(leB b s t && leB b t s)) && (List.range n).all fun u => !(leB b s t && leB b t u) || leB b s u
theorem ordC_ok {n : Nat} {b : List (List Bool)} (h1 : 1 ≤ n) (h6 : n ≤ 6) (h : ordC n b = true) : OrdB n b := by
  unfold ordC at h
  simp only [Bool.and_eq_true, List.all_eq_true, List.mem_range, decide_eq_true_eq, Bool.or_eq_true, Bool.not_eq_true'] at h
  obtain ⟨⟨hl, hr⟩, hx⟩ := h
  refine ⟨h1, h6, hl, hr, fun s hs => (hx s hs).1, ?_, ?_⟩
  · intro s t hs ht hne hh
    rcases ((hx s hs).2 t ht).1 with e | e
    · exact hne e
    · rw [hh.1, hh.2] at e; cases e
  · intro s t u hs ht hu a1 a2
    rcases ((hx s hs).2 t ht).2 u hu with e | e
    · rw [a1, a2] at e; cases e
    · exact e
def lineB (n : Nat) : List (List Bool) := (List.range n).map fun s => (List.range n).map fun t => decide (s ≤ t)
/-- an order as it is drawn: c is the one free choice of four states -/
def midB (n : Nat) (c : Bool) : List (List Bool) := (List.range n).map fun s => (List.range n).map fun t => decide (s ≤ t) && (c || !(decide (n = 4) && decide (s = 1) && decide (t = 2)))
/-- .. with the first j pairs of the first state taken away -/
def topB (n : Nat) (c : Bool) (j : Nat) : List (List Bool) := (List.range n).map fun s => (List.range n).map fun t => (decide (s ≤ t) && (c || !(decide (n = 4) && decide (s = 1) && decide (t = 2)))) && !(decide (s = 0) && decide (1 ≤ t) && decide (t < j))
def setB (b : List (List Bool)) (s t : Nat) (v : Bool) : List (List Bool) := b.set s ((b.getD s []).set t v)
theorem line_ok : ∀ n, n < 4 → ordC (n + 1) (lineB (n + 1)) = true := by decide
theorem top_ok : ∀ n, n < 4 → ∀ c : Bool, ordC (n + 1) (topB (n + 1) c (n + 1)) = true := by decide
theorem mid_ok : ∀ n, n < 4 → ∀ c : Bool, ordC (n + 1) (midB (n + 1) c) = true := by decide
theorem line_mid : ∀ n, n < 4 → lineB (n + 1) = midB (n + 1) true := by decide
theorem mid_top : ∀ n, n < 4 → ∀ c : Bool, topB (n + 1) c 1 = midB (n + 1) c := by decide
def chk1 : Bool := (List.range 4).all fun n => [true, false].all fun c => (List.range 4).all fun a => (List.range 4).all fun b => !(decide (a < b) && decide (b < n + 1) && (decide (a = 0) || decide (b = n))) || decide (setB (midB (n + 1) c) a b true = midB (n + 1) c)
def chk2 : Bool := (List.range 4).all fun n => [true, false].all fun c => (List.range 4).all fun a => (List.range 4).all fun b => [true, false].all fun v => !(decide (a < b) && decide (b < n + 1) && !(decide (a = 0) || decide (b = n))) || decide (setB (midB (n + 1) c) a b v = midB (n + 1) v)
def chk3 : Bool := (List.range 4).all fun n => [true, false].all fun c => (List.range (n + 1)).all fun k => (List.range (n + 1)).all fun a => (List.range (n + 1)).all fun b => decide (setB (midB (n + 1) c) a b (leB (midB (n + 1) c) a b || (leB (midB (n + 1) c) a k && leB (midB (n + 1) c) k b)) = midB (n + 1) c)
def chk4 : Bool := (List.range 4).all fun n => [true, false].all fun c => (List.range (n + 1)).all fun j => !(decide (1 ≤ j)) || decide (setB (topB (n + 1) c j) 0 j false = topB (n + 1) c (j + 1))
theorem chk1_ok : chk1 = true := by decide
theorem chk2_ok : chk2 = true := by decide
theorem chk3_ok : chk3 = true := by decide
theorem chk4_ok : chk4 = true := by decide
theorem bool_in (c : Bool) : c ∈ [true, false] := by cases c <;> simp
theorem mid_set {n a b : Nat} (hn : n < 4) (c : Bool) (hab : a < b) (hb : b < n + 1) (h : (decide (a = 0) || decide (b = n)) = true) : setB (midB (n + 1) c) a b true = midB (n + 1) c := by
  have k := chk1_ok
  unfold chk1 at k
  simp only [List.all_eq_true, List.mem_range] at k
  have := k n hn c (bool_in c) a (by omega) b (by omega)
  rw [h] at this
  simpa [hab, hb] using this
theorem mid_set2 {n a b : Nat} (hn : n < 4) (c : Bool) (hab : a < b) (hb : b < n + 1) (h : (decide (a = 0) || decide (b = n)) = false) (v : Bool) : setB (midB (n + 1) c) a b v = midB (n + 1) v := by
  have k := chk2_ok
  unfold chk2 at k
  simp only [List.all_eq_true, List.mem_range] at k
  have := k n hn c (bool_in c) a (by omega) b (by omega) v (bool_in v)
  rw [h] at this
  simpa [hab, hb] using this
theorem mid_clo {n k a b : Nat} (hn : n < 4) (c : Bool) (hk : k < n + 1) (ha : a < n + 1) (hb : b < n + 1) : setB (midB (n + 1) c) a b (leB (midB (n + 1) c) a b || (leB (midB (n + 1) c) a k && leB (midB (n + 1) c) k b)) = midB (n + 1) c := by
  have h := chk3_ok
  unfold chk3 at h
  simp only [List.all_eq_true, List.mem_range] at h
  exact of_decide_eq_true (h n hn c (bool_in c) k hk a ha b hb)
theorem top_set {n j : Nat} (hn : n < 4) (c : Bool) (h1 : 1 ≤ j) (hj : j < n + 1) : setB (topB (n + 1) c j) 0 j false = topB (n + 1) c (j + 1) := by
  have h := chk4_ok
  unfold chk4 at h
  simp only [List.all_eq_true, List.mem_range] at h
  have := h n hn c (bool_in c) j hj
  simpa [h1] using this
/-- the ends of an order, as they are found -/
def lowB (b : List (List Bool)) (n s : Nat) : Bool := (List.range n).all fun t => leB b s t
def highB (b : List (List Bool)) (n s : Nat) : Bool := (List.range n).all fun t => leB b t s
def lastP (p : Nat → Bool) : Nat → Int
  | 0 => -1
  | k + 1 => if p k = true then (k : Int) else lastP p k
def endsB (b : List (List Bool)) (n : Nat) : Int × Int := (lastP (lowB b n) n, lastP (highB b n) n)
theorem ends_line : ∀ n, n < 4 → endsB (lineB (n + 1)) (n + 1) = (0, (n : Int)) := by decide
theorem lastP_in (p : Nat → Bool) : ∀ k, lastP p k = -1 ∨ (0 ≤ lastP p k ∧ lastP p k < (k : Int))
  | 0 => .inl rfl
  | k + 1 => by
    unfold lastP
    split
    · exact .inr ⟨by omega, by omega⟩
    · rcases lastP_in p k with h | h
      · exact .inl h
      · exact .inr ⟨h.1, by omega⟩
/-- all maps keep an order -/
def keepB (b : List (List Bool)) (n : Nat) (tl : List Int) (s t : Nat) : Bool := !leB b s t || leB b (tl.getD s 0).toNat (tl.getD t 0).toNat
def rowK1 (b : List (List Bool)) (n : Nat) (tl : List Int) (s : Nat) : Bool := (List.range n).all fun t => keepB b n tl s t
def mapK (b : List (List Bool)) (n : Nat) (tl : List Int) : Bool := (List.range n).all fun s => rowK1 b n tl s
def monB (b : List (List Bool)) (n : Nat) (ms : List (Int × List Int)) : Bool := ms.all fun m => mapK b n m.2
theorem all_no {p : Nat → Bool} {n k : Nat} (h : k < n) (hp : p k = false) : (List.range n).all p = false := by
  rw [List.all_eq_false]
  exact ⟨k, by rw [List.mem_range]; exact h, by rw [hp]; simp⟩
theorem all_yes {p : Nat → Bool} {n : Nat} (h : ∀ k, k < n → p k = true) : (List.range n).all p = true := by
  rw [List.all_eq_true]
  intro k hk
  rw [List.mem_range] at hk
  exact h k hk
/-- rising maps -/
def riseL : List Int → Int → List Int
  | [], _ => []
  | x :: r, m => max x m :: riseL r (max x m)
def riseR : List Int → List Int
  | [] => []
  | x :: r => x :: riseL r x
def riseM (ms : List (Int × List Int)) : List (Int × List Int) := ms.map fun m => (m.1, riseR m.2)
theorem riseL_len : ∀ (l : List Int) (m : Int), (riseL l m).length = l.length
  | [], _ => rfl
  | x :: r, m => by simp [riseL, riseL_len r]
theorem riseR_len (l : List Int) : (riseR l).length = l.length := by
  cases l with
  | nil => rfl
  | cons x r => simp [riseR, riseL_len]
theorem riseL_in {s : Int} : ∀ {l : List Int} {m : Int}, (∀ x ∈ l, 0 ≤ x ∧ x < s) → 0 ≤ m ∧ m < s → ∀ x ∈ riseL l m, 0 ≤ x ∧ x < s
  | [], _, _, _, x, hx => by simp [riseL] at hx
  | y :: r, m, h, hm, x, hx => by
    unfold riseL at hx
    have hy := h y (by simp)
    have hmx : 0 ≤ max y m ∧ max y m < s := by omega
    rcases List.mem_cons.1 hx with rfl | hx
    · exact hmx
    · exact riseL_in (fun z hz => h z (by simp [hz])) hmx x hx
theorem riseR_in {s : Int} {l : List Int} (h : ∀ x ∈ l, 0 ≤ x ∧ x < s) : ∀ x ∈ riseR l, 0 ≤ x ∧ x < s := by
  cases l with
  | nil => intro x hx; simp [riseR] at hx
  | cons y r =>
    intro x hx
    unfold riseR at hx
    rcases List.mem_cons.1 hx with rfl | hx
    · exact h _ (by simp)
    · exact riseL_in (fun z hz => h z (by simp [hz])) (h y (by simp)) x hx
theorem riseL_ge : ∀ {l : List Int} {m : Int}, ∀ x ∈ riseL l m, m ≤ x
  | [], _, x, hx => by simp [riseL] at hx
  | y :: r, m, x, hx => by
    unfold riseL at hx
    rcases List.mem_cons.1 hx with rfl | hx
    · omega
    · have := riseL_ge (l := r) (m := max y m) x hx
      omega
theorem riseL_mono : ∀ (l : List Int) (m : Int), (riseL l m).Pairwise (· ≤ ·)
  | [], _ => List.Pairwise.nil
  | y :: r, m => by
    unfold riseL
    exact List.Pairwise.cons (fun x hx => riseL_ge x hx) (riseL_mono r _)
theorem riseR_mono (l : List Int) : (riseR l).Pairwise (· ≤ ·) := by
  cases l with
  | nil => exact List.Pairwise.nil
  | cons y r => exact List.Pairwise.cons (fun x hx => riseL_ge x hx) (riseL_mono r _)
theorem riseR_le {l : List Int} {i j : Nat} (hij : i ≤ j) (hj : j < (riseR l).length) : (riseR l)[i]'(by omega) ≤ (riseR l)[j] := by
  by_cases e : i = j
  · subst e; exact Int.le_refl _
  · exact List.pairwise_iff_getElem.1 (riseR_mono l) i j (by omega) hj (by omega)
theorem rise_ok {s t : Int} {ms : List (Int × List Int)} (h : mapsOk s t ms) : mapsOk s t (riseM ms) := by
  obtain ⟨h1, h2, h3, h4, h5⟩ := h
  refine ⟨h1, h2, by unfold riseM; rw [List.length_map]; exact h3, ?_, ?_⟩
  · intro m hm
    unfold riseM at hm
    rw [List.mem_map] at hm
    obtain ⟨m0, hm0, rfl⟩ := hm
    obtain ⟨a, b, c⟩ := h4 m0 hm0
    exact ⟨a, by rw [riseR_len]; exact b, riseR_in c⟩
  · unfold riseM
    rw [List.map_map]
    exact h5
theorem leB_line {n s t : Nat} (hs : s < n) (ht : t < n) : leB (lineB n) s t = decide (s ≤ t) := by
  unfold leB lineB
  simp [List.getD_eq_getElem?_getD, hs, ht]
theorem rise_mon {n : Nat} {t : Int} {ms : List (Int × List Int)} (h : mapsOk n t ms) : monB (lineB n) n (riseM ms) = true := by
  unfold monB
  rw [List.all_eq_true]
  intro m hm
  have hok := rise_ok h
  obtain ⟨_, _, _, h4, _⟩ := hok
  obtain ⟨_, hl, hx⟩ := h4 m hm
  have hl2 : m.2.length = n := by omega
  unfold riseM at hm
  rw [List.mem_map] at hm
  obtain ⟨m0, _, rfl⟩ := hm
  unfold mapK rowK1
  refine all_yes (fun s hs => all_yes (fun u hu => ?_))
  unfold keepB
  rw [leB_line hs hu]
  by_cases hsu : s ≤ u
  · have hs2 : s < (riseR m0.2).length := by show s < _; rw [hl2]; exact hs
    have hu2 : u < (riseR m0.2).length := by rw [hl2]; exact hu
    have e1 : (riseR m0.2).getD s 0 = (riseR m0.2)[s] := gD_at hs2
    have e2 : (riseR m0.2).getD u 0 = (riseR m0.2)[u] := gD_at hu2
    have r1 := hx _ (List.getElem_mem hs2)
    have r2 := hx _ (List.getElem_mem hu2)
    have r3 := riseR_le hsu hu2
    show (!decide (s ≤ u) || leB (lineB n) ((riseR m0.2).getD s 0).toNat ((riseR m0.2).getD u 0).toNat) = true
    rw [e1, e2, leB_line (by omega) (by omega)]
    have : ((riseR m0.2)[s]).toNat ≤ ((riseR m0.2)[u]).toNat := by omega
    simp [this]
  · simp [hsu]
/-- a run of rising maps, told by one function -/
theorem back_fun {n : Nat} {t : Int} {ms : List (Int × List Int)} (h : mapsOk n t ms) : ∀ {ps : List Int}, PicksB (riseM ms).length ps →
    ∃ f : Int → Int, (∀ st, ps.foldl (byM (riseM ms)) st = st.map f) ∧ ∀ x y, 0 ≤ x → x ≤ y → y < (n : Int) → 0 ≤ f x ∧ f x ≤ f y ∧ f y < (n : Int)
  | [], _ => ⟨id, fun st => by simp, fun x y h1 h2 h3 => ⟨h1, h2, h3⟩⟩
  | p :: ps, hp => by
    obtain ⟨f, h1, h2⟩ := back_fun h (ps := ps) (fun q hq => hp q (by simp [hq]))
    refine ⟨fun x => f (goM (riseM ms) p x), fun st => ?_, fun x y hx hxy hy => ?_⟩
    · rw [List.foldl_cons, h1]
      unfold byM
      rw [List.map_map]; rfl
    · have hpp := hp p (by simp)
      have g1 := goM_in (rise_ok h) hpp (x := x) ⟨hx, by omega⟩
      have g2 := goM_in (rise_ok h) hpp (x := y) ⟨by omega, hy⟩
      have g3 : goM (riseM ms) p x ≤ goM (riseM ms) p y := by
        obtain ⟨q, rfl⟩ := Int.eq_ofNat_of_zero_le hpp.1
        obtain ⟨a, rfl⟩ := Int.eq_ofNat_of_zero_le hx
        obtain ⟨b, rfl⟩ := Int.eq_ofNat_of_zero_le (show 0 ≤ y by omega)
        have hql : q < (riseM ms).length := by omega
        obtain ⟨_, _, _, h4, _⟩ := rise_ok h
        obtain ⟨_, hl, _⟩ := h4 _ (List.getElem_mem hql)
        rw [goM_at hql (show a < _ by omega), goM_at hql (show b < _ by omega)]
        have hq2 : q < ms.length := by unfold riseM at hql; rwa [List.length_map] at hql
        have e : (riseM ms)[q].2 = riseR (ms[q].2) := by simp only [riseM, List.getElem_map]
        simp only [e]
        exact riseR_le (by omega) (by rw [riseR_len]; rw [e, riseR_len] at hl; omega)
      exact h2 _ _ g1.1 g3 g2.2
theorem runGo_congr {nx : Nat → Nat} {L : Nat} {f g : Nat → List Int} (h : ∀ k, allAs (f k) = allAs (g k) ∧ (allAs (f k) = true → hdI (f k) = hdI (g k))) : ∀ F k, runGo nx L f F k = runGo nx L g F k
  | 0, _ => rfl
  | F + 1, k => by
    unfold runGo
    rw [runGo_congr h F (nx k), (h k).1]
    by_cases ha : allAs (g k) = true
    · rw [if_pos ha, if_pos ha, (h k).2 (by rw [(h k).1]; exact ha)]
    · rw [if_neg ha, if_neg ha]
theorem runR_congr {nx : Nat → Nat} {L : Nat} {f g : Nat → List Int} (h : ∀ k, allAs (f k) = allAs (g k) ∧ (allAs (f k) = true → hdI (f k) = hdI (g k))) : runR nx L f = runR nx L g := by
  unfold runR
  rw [(h 0).1, runGo_congr h]
  by_cases ha : allAs (g 0) = true
  · rw [if_pos ha, if_pos ha, (h 0).2 (by rw [(h 0).1]; exact ha)]
  · rw [if_neg ha, if_neg ha]
theorem ends_all {n : Nat} (hn : 1 ≤ n) (f : Int → Int) (hf : ∀ x y, 0 ≤ x → x ≤ y → y < (n : Int) → 0 ≤ f x ∧ f x ≤ f y ∧ f y < (n : Int)) :
    allAs ([(0 : Int), ((n - 1 : Nat) : Int)].map f) = allAs ((upTo n).map f) ∧ (allAs ([(0 : Int), ((n - 1 : Nat) : Int)].map f) = true → hdI ([(0 : Int), ((n - 1 : Nat) : Int)].map f) = hdI ((upTo n).map f)) := by
  have hu : ∃ r, upTo n = 0 :: r ∧ (∀ x ∈ r, 0 ≤ x ∧ x ≤ ((n - 1 : Nat) : Int)) ∧ ((n - 1 : Nat) : Int) ∈ (0 : Int) :: r := by
    obtain ⟨m, rfl⟩ : ∃ m, n = m + 1 := ⟨n - 1, by omega⟩
    unfold upTo
    rw [List.range_succ_eq_map]
    refine ⟨_, rfl, ?_, ?_⟩
    · intro x hx
      simp only [List.map_map, List.mem_map, List.mem_range] at hx
      obtain ⟨a, ha, rfl⟩ := hx
      simp
      omega
    · have e : ((m + 1 - 1 : Nat) : Int) = (m : Int) := by omega
      rw [e]
      cases m with
      | zero => simp
      | succ m =>
        refine List.mem_cons_of_mem _ ?_
        simp only [List.map_map, List.mem_map, List.mem_range]
        exact ⟨m, by omega, by simp⟩
  obtain ⟨r, hr, h1, h2⟩ := hu
  rw [hr]
  refine ⟨?_, fun _ => rfl⟩
  rw [Bool.eq_iff_iff, allAs_all, allAs_all]
  constructor
  · intro h i hi
    have e := h 1 (by simp)
    have e : f ((n - 1 : Nat) : Int) = f 0 := by simpa using e
    have hm : (List.map f (0 :: r))[i] ∈ List.map f (0 :: r) := List.getElem_mem hi
    rw [List.mem_map] at hm
    obtain ⟨x, hx, hxe⟩ := hm
    rw [← hxe]
    show f x = f 0
    rcases List.mem_cons.1 hx with rfl | hx
    · rfl
    · have hb := h1 x hx
      have a1 := hf 0 x (by omega) hb.1 (by omega)
      have a2 := hf x ((n - 1 : Nat) : Int) hb.1 hb.2 (by omega)
      omega
  · intro h
    have hl : ∀ x ∈ (0 : Int) :: r, f x = f 0 := by
      intro x hx
      obtain ⟨i, hi, he⟩ := List.getElem_of_mem (List.mem_map_of_mem (f := f) hx)
      have := h i hi
      rw [he] at this
      simpa using this
    intro i hi
    match i, hi with
    | 0, _ => rfl
    | 1, _ => exact hl _ h2
    | i + 2, hi => simp at hi; omega
/-- a run by the ends is the run of all -/
theorem sand_law {n : Nat} {t : Int} {ms : List (Int × List Int)} (h : mapsOk n t ms) {ps : List Int} (hp : PicksB (riseM ms).length ps) (nx : Nat → Nat) (L : Nat) :
    runR nx L (pastS (riseM ms) [(0 : Int), ((n - 1 : Nat) : Int)] ps) = runR nx L (pastM (riseM ms) n ps) := by
  have hn : 1 ≤ n := by obtain ⟨⟨h1, _⟩, _⟩ := h; omega
  refine runR_congr (fun k => ?_)
  obtain ⟨f, h1, h2⟩ := back_fun h (ps := (ps.take k).reverse) (fun q hq => hp q (List.mem_of_mem_take (List.mem_reverse.1 hq)))
  have e1 : ∀ st, pastS (riseM ms) st ps k = st.map f := fun st => by
    unfold pastS backM
    rw [List.drop_zero, h1]
  rw [← pastS_all, e1, e1]
  exact ends_all hn f h2
end Go.Proofs.Ytceobhmbnkheiaa
namespace Go.Proofs.Ytceobhmbnkheiaa
open Go.RowKit Go.Sort
def GB : FRow Bool := ⟨FB, ⟨29, 44, .slice none 0 0, 1, 24, encR, Try.underlying29, by kernel_rfl, rfl, by decide, by decide, fun _ => rfl, encR_one⟩, rfl, rfl, by decide⟩
theorem FB_slat {w : World} {ad : Option Addr} {n c : Nat} {xs : List Bool} (h : FB.Sl w (.slice ad n c) xs) {i : Nat} (hi : i < xs.length) : ∃ b off, ad = some ⟨b, off, none⟩ ∧ b < w.heap.size ∧ w.cell? ⟨b, off + i, none⟩ = some (.bool xs[i]) := by
  obtain ⟨b, off, h1, h2, h3⟩ := h.at_ hi
  have := h3 0 (.bool xs[i]) rfl
  rw [show off + (i * FB.size + 0) = off + i from by show off + (i * 1 + 0) = _; omega] at this
  exact ⟨b, off, h1, h2, this⟩
/-- an order as it lies in memory -/
structure RdB (w : World) (n : Nat) (b : List (List Bool)) (bb off : Nat) (rb ro rc : Nat → Nat) : Prop where
  row : ∀ s, s < n → w.cell? ⟨bb, off + s, none⟩ = some (.slice (some ⟨rb s, ro s, none⟩) n (rc s))
  bit : ∀ s t, s < n → t < n → w.cell? ⟨rb s, ro s + t, none⟩ = some (.bool (leB b s t))
theorem RdB.below {w w' : World} {n : Nat} {b : List (List Bool)} {bb off : Nat} {rb ro rc : Nat → Nat} (h : RdB w n b bb off rb ro rc) (hb : Below w.heap.size w w') : RdB w' n b bb off rb ro rc :=
  ⟨fun s hs => by rw [hb.cell (p := ⟨bb, off + s, none⟩) (cell_lt (h.row s hs))]; exact h.row s hs, fun s t hs ht => by rw [hb.cell (p := ⟨rb s, ro s + t, none⟩) (cell_lt (h.bit s t hs ht))]; exact h.bit s t hs ht⟩
theorem GB_rd {w : World} {v : Value} {n : Nat} {b : List (List Bool)} (h : GB.Sl w v b) (hO : OrdB n b) : ∃ bb off c rb ro rc, v = .slice (some ⟨bb, off, none⟩) n c ∧ n ≤ c ∧ c ≤ maxLen ∧ RdB w n b bb off rb ro rc := by
  obtain ⟨ad, c, rfl, hc, hm⟩ := h.form
  have h1 := hO.n1
  have hlen := hO.len
  obtain ⟨bb, off, _, _, hae, _, _, _⟩ := h.at_ (i := 0) (by omega)
  subst hae
  have key : ∀ s : Nat, ∃ p : Nat × Nat × Nat, s < n → w.cell? ⟨bb, off + s, none⟩ = some (.slice (some ⟨p.1, p.2.1, none⟩) n p.2.2) ∧ ∀ t, t < n → w.cell? ⟨p.1, p.2.1 + t, none⟩ = some (.bool (leB b s t)) := by
    intro s
    by_cases hs : s < n
    · have hsl : s < b.length := by omega
      obtain ⟨bb', off', ra, rc, hae, _, h2, h3⟩ := h.at_ hsl
      simp only [Option.some.injEq, Addr.mk.injEq, and_true] at hae
      obtain ⟨rfl, rfl⟩ := hae
      have hrl := hO.rows _ (List.getElem_mem hsl)
      rw [hrl] at h2 h3
      obtain ⟨rb, ro, hre, _, _⟩ := FB_slat h3 (i := 0) (by omega)
      subst hre
      refine ⟨(rb, ro, rc), fun _ => ⟨h2, fun t ht => ?_⟩⟩
      obtain ⟨rb', ro', hre, _, h4⟩ := FB_slat h3 (i := t) (by omega)
      simp only [Option.some.injEq, Addr.mk.injEq, and_true] at hre
      obtain ⟨rfl, rfl⟩ := hre
      obtain ⟨_, _, e⟩ := hO.at_ hs ht
      rw [e]; exact h4
    · exact ⟨(0, 0, 0), fun h => absurd h hs⟩
  refine ⟨bb, off, c, fun s => (Classical.choose (key s)).1, fun s => (Classical.choose (key s)).2.1, fun s => (Classical.choose (key s)).2.2, by rw [hlen], by omega, hm, ?_, ?_⟩
  · intro s hs; exact (Classical.choose_spec (key s) hs).1
  · intro s t hs ht; exact (Classical.choose_spec (key s) hs).2 t ht
namespace FRow
variable {α : Type} {G : FRow α}
/-- rows that lie apart -/
def OwnD (G : FRow α) (w : World) (base : Nat) (v : Value) (xss : List (List α)) : Prop :=
  ∃ us, G.R.Own w base v us ∧ PairR (G.F.Own w base) us xss ∧ ∀ (i j : Nat) (ui uj : CellV) (g : Nat), us[i]? = some ui → us[j]? = some uj → ui.1.ownBlock = some g → uj.1.ownBlock = some g → i = j
theorem OwnD.own {w : World} {base : Nat} {v : Value} {ms : List (List α)} (h : G.OwnD w base v ms) : G.Own w base v ms := by
  obtain ⟨us, h1, h2, _⟩ := h; exact ⟨us, h1, h2⟩
theorem OwnD.below {w w' : World} {base : Nat} {v : Value} {ms : List (List α)} (h : G.OwnD w base v ms) (hb : Below w.heap.size w w') : G.OwnD w' base v ms := by
  obtain ⟨us, h1, h2, h3⟩ := h
  exact ⟨us, h1.below hb, h2.imp (fun v xs h => h.below hb), h3⟩
theorem OwnD.lower {w : World} {base base' : Nat} {v : Value} {ms : List (List α)} (h : G.OwnD w base v ms) (hb : base' ≤ base) : G.OwnD w base' v ms := by
  obtain ⟨us, h1, h2, h3⟩ := h
  exact ⟨us, h1.lower hb, h2.imp (fun v xs h => h.lower hb), h3⟩
theorem OwnD.empty (w : World) {base : Nat} (hb : base ≤ w.heap.size) : G.OwnD (w.alloc (.cells #[] G.R.E)) base (.slice (some ⟨w.heap.size, 0, none⟩) 0 0) [] :=
  ⟨[], Flat.Own.empty w hb, ⟨rfl, by intro i u m h; simp at h⟩, by intro i j ui uj g h; simp at h⟩
theorem OwnD.form {w : World} {base : Nat} {v : Value} {ms : List (List α)} (h : G.OwnD w base v ms) : ∃ ad c, v = .slice ad ms.length c ∧ ms.length ≤ c ∧ c ≤ maxLen := h.own.sl.form
theorem appendD {ops : Array Oper} {rest : List Oper} {o : Oper} {a : Act} {Q : Exit → Act → World → Prop} (G : FRow α) (w0 w : World) (s x : Operand) (hg : o.guard = none)
    (ho : o.op = .call { callee := .builtin .append, args := #[s, x], argTypes := #[G.R.T, G.R.T] })
    {base : Nat} {v u : Value} {ms : List (List α)} {xs : List α} (hs : a.eval s = v) (hown0 : G.OwnD w0 base v ms) (hb : Below w0.heap.size w0 w) (hu : G.F.Own w w0.heap.size u xs) {t : Nat} (hx : a.eval x = .slice (some ⟨w.heap.size, 0, none⟩) 1 1)
    (hlen : ms.length < 16777216) (hbase : base ≤ w0.heap.size)
    (h : ∀ v' w', G.OwnD w' base v' (ms ++ [xs]) → Below base (w.alloc (.cells #[u] t)) w' → wpList Try.prog ops Q rest (a.put o.dst v') w') : wpList Try.prog ops Q (o :: rest) a (w.alloc (.cells #[u] t)) := by
  obtain ⟨us, h1, h2, hd⟩ := hown0
  have hlt0 : ∀ (i : Nat) (ui : CellV) (g : Nat), us[i]? = some ui → ui.1.ownBlock = some g → g < w0.heap.size := by
    intro i ui g hi hg
    have hil : i < us.length := (List.getElem?_eq_some_iff.1 hi).1
    have := (h2.2 i ui (ms[i]'(by rw [← h2.1]; exact hil)) hi (List.getElem?_eq_getElem (by rw [← h2.1]; exact hil)))
    exact (this.lt g hg).2
  have h1' := h1.below hb
  have h2' := h2.imp (fun v xs h => h.below hb)
  have bx : Below w.heap.size w (w.alloc (.cells #[u] t)) := (Below.refl _ _).alloc (Nat.le_refl _) _
  have h1A := h1'.below bx
  have huA := (hu.lower hbase).below bx
  obtain ⟨c, hc⟩ : ∃ c : CellV, c.1 = u := ⟨⟨u, hu.one⟩, rfl⟩
  refine Flat.append G.R _ s x hg ho (ys := [c]) hs h1A hx (by
    have := rd_new w #[u] t
    have e : G.R.encs [c] = [u] := by
      unfold Flat.encs
      rw [G.enc]
      show [c.1] ++ [] = [u]
      rw [hc]; rfl
    rw [e]; exact this) (by rw [h2.1]; simp; omega) (by have := hb.size; simp; omega) (fun v' w' k1 k2 k3 => ?_)
  have key : ∀ (v0 : Value) (zs : List α), G.F.Own (w.alloc (.cells #[u] t)) base v0 zs → G.F.Own w' base v0 zs := fun v0 zs ho => flat_kept ho k2 (by
    cases hb : v0.ownBlock with
    | none => exact .inl rfl
    | some g => exact .inr (Ne.symm (flat_apart G.ne ho h1A hb)))
  have hul := h2.1
  refine h v' w' ⟨_, k1, ⟨by simp [h2.1], fun i u0 m hi hm => ?_⟩, ?_⟩ k3
  · by_cases hlt : i < us.length
    · rw [List.getElem?_append_left hlt] at hi
      rw [List.getElem?_append_left (by rw [← h2.1]; exact hlt)] at hm
      exact key _ _ ((h2'.2 i u0 m hi hm).below bx)
    · rw [List.getElem?_append_right (by omega)] at hi hm
      have h0 : i - us.length = 0 := by
        rcases Nat.eq_zero_or_pos (i - us.length) with e | e
        · exact e
        · rw [List.getElem?_eq_none (by simp; omega)] at hi; simp at hi
      rw [h0] at hi
      rw [← h2.1, h0] at hm
      simp at hi hm
      subst hi hm
      rw [hc]
      exact key _ _ huA
  · have last : ∀ (i : Nat) (ui : CellV), (us ++ [c])[i]? = some ui → i < us.length ∧ us[i]? = some ui ∨ i = us.length ∧ ui = c := by
      intro i ui hi
      by_cases hlt : i < us.length
      · rw [List.getElem?_append_left hlt] at hi; exact .inl ⟨hlt, hi⟩
      · rw [List.getElem?_append_right (by omega)] at hi
        have h0 : i - us.length = 0 := by
          rcases Nat.eq_zero_or_pos (i - us.length) with e | e
          · exact e
          · rw [List.getElem?_eq_none (by simp; omega)] at hi; simp at hi
        rw [h0] at hi
        simp at hi
        exact .inr ⟨by omega, hi.symm⟩
    have hug : ∀ g, u.ownBlock = some g → w0.heap.size ≤ g := fun g hg => (hu.lt g hg).1
    intro i j ui uj g hi hj gi gj
    rcases last i ui hi with ⟨_, a1⟩ | ⟨a1, a2⟩ <;> rcases last j uj hj with ⟨_, b1⟩ | ⟨b1, b2⟩
    · exact hd i j ui uj g a1 b1 gi gj
    · subst b2
      rw [hc] at gj
      have e1 := hlt0 i ui g a1 gi
      have e2 := hug g gj
      omega
    · subst a2
      rw [hc] at gi
      have e1 := hlt0 j uj g b1 gj
      have e2 := hug g gi
      omega
    · omega
end FRow
theorem append_bool {ops : Array Oper} {rest : List Oper} {o : Oper} {a : Act} {Q : Exit → Act → World → Prop} (w : World) (y : Bool) (s x : Operand) (hg : o.guard = none)
    (ho : o.op = .call { callee := .builtin .append, args := #[s, x], argTypes := #[44, 44] })
    {base : Nat} {v : Value} {xs : List Bool} (hs : a.eval s = v) (hown : FB.Own w base v xs) {t g0 : Nat} (hg0 : w.heap.size = g0) (hx : a.eval x = .slice (some ⟨g0, 0, none⟩) 1 1)
    (hlen : xs.length < 16777216) (hbase : base ≤ w.heap.size)
    (h : ∀ v' w', FB.Own w' base v' (xs ++ [y]) → Below base (w.alloc (.cells #[.bool y] t)) w' → wpList Try.prog ops Q rest (a.put o.dst v') w') : wpList Try.prog ops Q (o :: rest) a (w.alloc (.cells #[.bool y] t)) := by
  subst hg0
  have bx : Below w.heap.size w (w.alloc (.cells #[.bool y] t)) := (Below.refl _ _).alloc (Nat.le_refl _) _
  refine Flat.append FB _ s x hg ho (ys := [y]) hs (hown.below bx) hx (rd_new w #[.bool y] t) (by simp; omega) (by simp; omega) (fun v' w' k1 k2 k3 => ?_)
  exact h v' w' k1 k3
theorem FB_form {w : World} {base : Nat} {v : Value} {xs : List Bool} (h : FB.Own w base v xs) : ∃ a n c, v = .slice a n c ∧ Hid (n = xs.length) := by
  obtain ⟨a, c, rfl, _⟩ := h.sl
  exact ⟨a, _, c, rfl, rfl⟩
/-! the order of numbers -/
def lrow (s j : Nat) : List Bool := (List.range j).map fun t => decide (s ≤ t)
theorem lrow_succ (s j : Nat) : lrow s (j + 1) = lrow s j ++ [decide (s ≤ j)] := by unfold lrow; rw [List.range_succ, List.map_append]; rfl
theorem lrow_len (s j : Nat) : (lrow s j).length = j := by simp [lrow]
def linP (n k : Nat) : List (List Bool) := (List.range k).map fun s => lrow s n
theorem linP_succ (n k : Nat) : linP n (k + 1) = linP n k ++ [lrow k n] := by unfold linP; rw [List.range_succ, List.map_append]; rfl
theorem linP_len (n k : Nat) : (linP n k).length = k := by simp [linP]
theorem linP_all (n : Nat) : linP n n = lineB n := rfl

set_option maxRecDepth 100000 in
set_option maxHeartbeats 4000000 in
theorem ImplLineOrder_any (n : Nat) (w : World) (h1 : 1 ≤ n) (h6 : n ≤ 6) :
    Calls Try.prog 8 #[.int .i64 n] w fun e w' => ∃ r, e = .returned (.tuple #[r, .int .i64 0]) ∧ GB.OwnD w' w.heap.size r (lineB n) ∧ Below w.heap.size w w' := by
  have E0 := Lib.hid (FRow.OwnD.empty (G := GB) w (base := w.heap.size) (Nat.le_refl _))
  have B0 := Lib.hid ((Below.refl w.heap.size w).alloc (Nat.le_refl _) (.cells #[] 44))
  have hq1 := inR_ok (x := (n : Int)) (a := 1) (b := 6) (by omega)
  go_enter Try.func8, Try.ntmps8
  go_wp2_with fail
  refine (inRange_any (n : Int) 1 6 w).mono ?_
  rintro e w1 ⟨rfl, rfl⟩
  rw [hq1]
  go_wp2
  go_loopw [4, 13] (fun ov iv wr => ∃ k : Nat, k ≤ n ∧ iv = .int .i64 k ∧ GB.OwnD wr w.heap.size ov (linP n k) ∧ Below w.heap.size w wr) (fun _ iv _ => n - (intOf iv).toNat)
  case atStart => exact ⟨0, Nat.zero_le _, rfl, E0.out, B0.out⟩
  case round =>
    clear E0 B0
    obtain ⟨k, hk, rfl, hown, hbw⟩ := hrel
    obtain ⟨wo, hwo⟩ : ∃ wo : World, wo = wr := ⟨_, rfl⟩
    subst hwo
    have HO := Lib.hid hown
    have HBW := Lib.hid hbw
    have HLP := Lib.hid (linP_len n k)
    obtain ⟨oa, oc, rfl, _⟩ := hown.form
    clear hown
    by_cases hlt : k < n
    · have i1 : (k : Int) < (n : Int) := by omega
      have R0 := Lib.hid (Flat.Own.empty (F := FB) wo (base := wo.heap.size) (Nat.le_refl _))
      have BR := Lib.hid ((Below.refl wo.heap.size wo).alloc (Nat.le_refl _) (.cells #[] 4))
      have hz0 := hbw.size
      clear hbw
      go_wp2
      go_loopw [6, 18] (fun rv jv wi => ∃ j : Nat, j ≤ n ∧ jv = .int .i64 j ∧ FB.Own wi wo.heap.size rv (lrow k j) ∧ Below wo.heap.size wo wi) (fun _ jv _ => n - (intOf jv).toNat)
      case atStart => exact ⟨0, Nat.zero_le _, rfl, R0.out, BR.out⟩
      case round =>
        clear R0 BR
        obtain ⟨j, hj, rfl, hrow, hbi⟩ := hrel
        have HBI := Lib.hid hbi
        have hz := hbi.size
        by_cases hjn : j < n
        · have i2 : (j : Int) < (n : Int) := by omega
          have HS := Lib.hid (lrow_succ k j)
          have hl := lrow_len k j
          have hln : (lrow k j).length < 16777216 := by omega
          clear hbi hl
          go_wp2_with (at_builtin; refine append_bool _ _ _ _ rfl rfl rfl hrow rfl rfl hln hz ?_)
          intro v7 w7 o7 b7
          have o7 : FB.Own w7 wo.heap.size v7 (lrow k (j + 1)) := by rw [HS.out]; simpa using o7
          have B7 := Lib.hid ((HBI.out.alloc hz _).trans b7)
          clear b7 hrow
          go_wp2
          go_roundw
          case rel => exact ⟨j + 1, by omega, by go_num, o7, B7.out⟩
          case measure => simp [intOf]; omega
        · obtain rfl : j = n := by omega
          have HS1 := Lib.hid (linP_succ j k)
          have hln : (linP j k).length < 16777216 := by have := HLP.out; omega
          have ho := HO.out
          have hb := HBI.out
          obtain ⟨ra, rn, rc, rfl, hrn⟩ := FB_form hrow
          clear hrn
          go_wp2_with (at_builtin; refine FRow.appendD GB wo wr _ _ rfl rfl rfl ho hb hrow rfl hln hz0 ?_)
          intro v7 w7 o7 b7
          rw [← HS1.out] at o7
          have B7 := Lib.hid (((HBW.out.trans (HBI.out.mono HBW.out.size)).alloc (Nat.le_trans HBW.out.size hz) _).trans b7)
          clear b7 ho hb hrow
          go_wp2
          go_roundw
          case rel => exact ⟨k + 1, by omega, by go_num, o7, B7.out⟩
          case measure => simp [intOf]; omega
    · obtain rfl : k = n := by omega
      go_wp2
      go_ret2
      exact ⟨_, rfl, HO.out, HBW.out⟩

set_option maxRecDepth 100000 in
set_option maxHeartbeats 4000000 in
theorem l05Line_any (n : Nat) (w : World) (h1 : 1 ≤ n) (h6 : n ≤ 6) :
    Calls Try.prog 41 #[.int .i64 n] w fun e w' => ∃ r, e = .returned r ∧ GB.OwnD w' w.heap.size r (lineB n) ∧ Below w.heap.size w w' := by
  have E0 := Lib.hid (FRow.OwnD.empty (G := GB) w (base := w.heap.size) (Nat.le_refl _))
  have B0 := Lib.hid ((Below.refl w.heap.size w).alloc (Nat.le_refl _) (.cells #[] 44))
  go_enter Try.func41, Try.ntmps41
  go_wp2
  go_loopw [3, 4] (fun ov iv wr => ∃ k : Nat, k ≤ n ∧ iv = .int .i64 k ∧ GB.OwnD wr w.heap.size ov (linP n k) ∧ Below w.heap.size w wr) (fun _ iv _ => n - (intOf iv).toNat)
  case atStart => exact ⟨0, Nat.zero_le _, rfl, E0.out, B0.out⟩
  case round =>
    clear E0 B0
    obtain ⟨k, hk, rfl, hown, hbw⟩ := hrel
    obtain ⟨wo, hwo⟩ : ∃ wo : World, wo = wr := ⟨_, rfl⟩
    subst hwo
    have HO := Lib.hid hown
    have HBW := Lib.hid hbw
    have HLP := Lib.hid (linP_len n k)
    obtain ⟨oa, oc, rfl, _⟩ := hown.form
    clear hown
    by_cases hlt : k < n
    · have i1 : (k : Int) < (n : Int) := by omega
      have R0 := Lib.hid (Flat.Own.empty (F := FB) wo (base := wo.heap.size) (Nat.le_refl _))
      have BR := Lib.hid ((Below.refl wo.heap.size wo).alloc (Nat.le_refl _) (.cells #[] 4))
      have hz0 := hbw.size
      clear hbw
      go_wp2
      go_loopw [5, 6] (fun rv jv wi => ∃ j : Nat, j ≤ n ∧ jv = .int .i64 j ∧ FB.Own wi wo.heap.size rv (lrow k j) ∧ Below wo.heap.size wo wi) (fun _ jv _ => n - (intOf jv).toNat)
      case atStart => exact ⟨0, Nat.zero_le _, rfl, R0.out, BR.out⟩
      case round =>
        clear R0 BR
        obtain ⟨j, hj, rfl, hrow, hbi⟩ := hrel
        have HBI := Lib.hid hbi
        have hz := hbi.size
        by_cases hjn : j < n
        · have i2 : (j : Int) < (n : Int) := by omega
          have HS := Lib.hid (lrow_succ k j)
          have hl := lrow_len k j
          have hln : (lrow k j).length < 16777216 := by omega
          clear hbi hl
          go_wp2_with (at_builtin; refine append_bool _ _ _ _ rfl rfl rfl hrow rfl rfl hln hz ?_)
          intro v7 w7 o7 b7
          have o7 : FB.Own w7 wo.heap.size v7 (lrow k (j + 1)) := by rw [HS.out]; simpa using o7
          have B7 := Lib.hid ((HBI.out.alloc hz _).trans b7)
          clear b7 hrow
          go_wp2
          go_roundw
          case rel => exact ⟨j + 1, by omega, by go_num, o7, B7.out⟩
          case measure => simp [intOf]; omega
        · obtain rfl : j = n := by omega
          have HS1 := Lib.hid (linP_succ j k)
          have hln : (linP j k).length < 16777216 := by have := HLP.out; omega
          have ho := HO.out
          have hb := HBI.out
          obtain ⟨ra, rn, rc, rfl, hrn⟩ := FB_form hrow
          clear hrn
          go_wp2_with (at_builtin; refine FRow.appendD GB wo wr _ _ rfl rfl rfl ho hb hrow rfl hln hz0 ?_)
          intro v7 w7 o7 b7
          rw [← HS1.out] at o7
          have B7 := Lib.hid (((HBW.out.trans (HBI.out.mono HBW.out.size)).alloc (Nat.le_trans HBW.out.size hz) _).trans b7)
          clear b7 ho hb hrow
          go_wp2
          go_roundw
          case rel => exact ⟨k + 1, by omega, by go_num, o7, B7.out⟩
          case measure => simp [intOf]; omega
    · obtain rfl : k = n := by omega
      go_wp2
      go_ret
      exact ⟨_, rfl, HO.out, HBW.out⟩

theorem SpecLineOrder_any (n : Nat) (w : World) (h1 : 1 ≤ n) (h6 : n ≤ 6) :
    Calls Try.prog 9 #[.int .i64 n] w fun e w' => ∃ r, e = .returned (.tuple #[r, .int .i64 0]) ∧ GB.OwnD w' w.heap.size r (lineB n) ∧ Below w.heap.size w w' := by
  have hq1 := inR_ok (x := (n : Int)) (a := 1) (b := 6) (by omega)
  go_enter Try.func9, Try.ntmps9
  go_wp2_with fail
  refine (l00In_any (n : Int) 1 6 w).mono ?_
  rintro e w1 ⟨rfl, rfl⟩
  rw [hq1]
  go_wp2_with fail
  refine (l05Line_any n w h1 h6).mono ?_
  rintro e w2 ⟨r, rfl, o2, b2⟩
  obtain ⟨ra, rc, rfl, _⟩ := o2.form
  have O2 := Lib.hid o2
  have B2 := Lib.hid b2
  clear o2 b2
  go_wp2
  go_ret2
  exact ⟨_, rfl, O2.out, B2.out⟩
end Go.Proofs.Ytceobhmbnkheiaa
namespace Go.Proofs.Ytceobhmbnkheiaa
open Go.RowKit Go.Sort

set_option maxRecDepth 100000 in
set_option maxHeartbeats 4000000 in
theorem ImplValidOrder_ok {v : Value} {b : List (List Bool)} (n : Nat) (w : World) (ha : GB.Sl w v b) (hO : OrdB n b) :
    Calls Try.prog 11 #[.int .i64 n, v] w fun e w' => e = .returned (.bool true) ∧ w = w' := by
  obtain ⟨bb, off, c, rb, ro, rc, rfl, hnc, hcm, hrd⟩ := GB_rd ha hO
  have HRD := Lib.hid hrd
  have HO := Lib.hid hO
  have hn1 := hO.n1
  have hn6 := hO.n6
  have hq1 := inR_ok (x := (n : Int)) (a := 1) (b := 6) (by omega)
  clear ha hO hrd
  go_enter Try.func11, Try.ntmps11
  go_wp2_with fail
  refine (inRange_any (n : Int) 1 6 w).mono ?_
  rintro e w1 ⟨rfl, rfl⟩
  rw [hq1]
  go_wp2
  go_loopw [21] (fun iv wr => ∃ k : Nat, k ≤ n ∧ iv = .int .i64 k ∧ wr = w) (fun iv _ => n - (intOf iv).toNat)
  case atStart => exact ⟨0, Nat.zero_le _, rfl, rfl⟩
  case round =>
    obtain ⟨k, hk, rfl, rfl⟩ := hrel
    by_cases hlt : k < n
    · have i1 : (k : Int) < (n : Int) := by omega
      have i0 : (0 : Int) ≤ (k : Int) := by omega
      have g1 := HRD.out.row k hlt
      go_wp2
      go_roundw
      case rel => exact ⟨k + 1, by omega, by go_num, trivial⟩
      case measure => simp [intOf]; omega
    · obtain rfl : k = n := by omega
      go_wp2
      go_loopw [32] (fun iv wi => ∃ s : Nat, s ≤ k ∧ iv = .int .i64 s ∧ wi = wr) (fun iv _ => k - (intOf iv).toNat)
      case atStart => exact ⟨0, Nat.zero_le _, rfl, rfl⟩
      case round =>
        obtain ⟨s, hs, rfl, rfl⟩ := hrel
        by_cases hsk : s < k
        · have i2 : (s : Int) < (k : Int) := by omega
          have i3 : (0 : Int) ≤ (s : Int) := by omega
          have g1 := HRD.out.row s hsk
          go_wp2
          go_loopw [37] (fun iv wi => ∃ t : Nat, t ≤ k ∧ iv = .int .i64 t ∧ wi = wr) (fun iv _ => k - (intOf iv).toNat)
          case atStart => exact ⟨0, Nat.zero_le _, rfl, rfl⟩
          case round =>
            obtain ⟨t, ht, rfl, rfl⟩ := hrel
            by_cases htk : t < k
            · have i4 : (t : Int) < (k : Int) := by omega
              have i5 : (0 : Int) ≤ (t : Int) := by omega
              have g2 := HRD.out.row t htk
              have g3 := HRD.out.bit s t hsk htk
              have g4 := HRD.out.bit t s htk hsk
              have hloop : ∀ (X : Bool), leB b s t = X → ∀ u, u < k → ∀ y, leB b t u = y → ∀ z, leB b s u = z → X = true → y = true → z = true := fun X hX u hu y hy z hz h1 h2 => by
                rw [← hz]
                exact HO.out.trans s t u hsk htk hu (by rw [hX]; exact h1) (by rw [hy]; exact h2)
              have hfirst : (s = t → leB b s t = true) ∧ (s ≠ t → ¬ (leB b s t = true ∧ leB b t s = true)) := ⟨fun e => by subst e; exact HO.out.refl s hsk, fun e => HO.out.anti s t hsk htk e⟩
              have HLP := Lib.hid hloop
              have HFI := Lib.hid hfirst
              obtain ⟨X, hX⟩ : ∃ X, X = leB b s t := ⟨_, rfl⟩
              obtain ⟨Y, hY⟩ : ∃ Y, Y = leB b t s := ⟨_, rfl⟩
              rw [← hX] at g3 HFI
              rw [← hY] at g4 HFI
              have HXX := Lib.hid hX
              clear hloop hfirst hX hY
              have fin : ∀ (W : Prop), W → W := fun W h => h
              by_cases hst : s = t
              · subst hst
                have hXt := HFI.out.1 rfl
                subst hXt
                clear g4 g2
                have e1 : ((s : Int) == (s : Int)) = true := by simp
                have e2 : ((s : Int) != (s : Int)) = false := by simp
                go_wp2
                go_loopw [78] (fun iv wi => ∃ u : Nat, u ≤ k ∧ iv = .int .i64 u ∧ wi = wr) (fun iv _ => k - (intOf iv).toNat)
                case atStart => exact ⟨0, Nat.zero_le _, rfl, rfl⟩
                case round =>
                  obtain ⟨u, hu, rfl, rfl⟩ := hrel
                  by_cases huk : u < k
                  · have i6 : (u : Int) < (k : Int) := by omega
                    have i7 : (0 : Int) ≤ (u : Int) := by omega
                    have g5 := HRD.out.bit s u hsk huk
                    obtain ⟨Z, hZ⟩ : ∃ Z, Z = leB b s u := ⟨_, rfl⟩
                    rw [← hZ] at g5
                    clear hZ
                    cases Z
                    · go_wp2
                      go_roundw
                      case rel => exact ⟨u + 1, by omega, by go_num, trivial⟩
                      case measure => simp [intOf]; omega
                    · go_wp2
                      go_roundw
                      case rel => exact ⟨u + 1, by omega, by go_num, trivial⟩
                      case measure => simp [intOf]; omega
                  · obtain rfl : u = k := by omega
                    go_wp2
                    go_roundw
                    case rel => exact ⟨s + 1, by omega, by go_num, trivial⟩
                    case measure => simp [intOf]; omega
              · have hne := HFI.out.2 hst
                have HNE := Lib.hid hne
                have HST := Lib.hid hst
                have e1 : ((s : Int) == (t : Int)) = false := by rw [beq_eq_false_iff_ne]; omega
                have e2 : ((s : Int) != (t : Int)) = true := by rw [bne_iff_ne]; omega
                clear hne hst
                cases X
                · go_wp2
                  go_loopw [78] (fun iv wi => ∃ u : Nat, u ≤ k ∧ iv = .int .i64 u ∧ wi = wr) (fun iv _ => k - (intOf iv).toNat)
                  case atStart => exact ⟨0, Nat.zero_le _, rfl, rfl⟩
                  case round =>
                    obtain ⟨u, hu, rfl, rfl⟩ := hrel
                    by_cases huk : u < k
                    · have i6 : (u : Int) < (k : Int) := by omega
                      have i7 : (0 : Int) ≤ (u : Int) := by omega
                      go_wp2
                      go_roundw
                      case rel => exact ⟨u + 1, by omega, by go_num, trivial⟩
                      case measure => simp [intOf]; omega
                    · obtain rfl : u = k := by omega
                      go_wp2
                      go_roundw
                      case rel => exact ⟨t + 1, by omega, by go_num, trivial⟩
                      case measure => simp [intOf]; omega
                · have hYf : Y = false := by
                    cases Y
                    · rfl
                    · exact absurd ⟨rfl, rfl⟩ HNE.out
                  subst hYf
                  go_wp2
                  go_loopw [78] (fun iv wi => ∃ u : Nat, u ≤ k ∧ iv = .int .i64 u ∧ wi = wr) (fun iv _ => k - (intOf iv).toNat)
                  case atStart => exact ⟨0, Nat.zero_le _, rfl, rfl⟩
                  case round =>
                    obtain ⟨u, hu, rfl, rfl⟩ := hrel
                    by_cases huk : u < k
                    · have i6 : (u : Int) < (k : Int) := by omega
                      have i7 : (0 : Int) ≤ (u : Int) := by omega
                      have g5 := HRD.out.bit t u htk huk
                      have g6 := HRD.out.bit s u hsk huk
                      have htr := HLP.out true HXX.out.symm u huk _ rfl _ rfl rfl
                      obtain ⟨Z, hZ⟩ : ∃ Z, Z = leB b t u := ⟨_, rfl⟩
                      obtain ⟨V, hV⟩ : ∃ V, V = leB b s u := ⟨_, rfl⟩
                      rw [← hZ] at g5 htr
                      rw [← hV] at g6 htr
                      have HTR := Lib.hid htr
                      clear hZ hV htr
                      cases Z
                      · go_wp2
                        go_roundw
                        case rel => exact ⟨u + 1, by omega, by go_num, trivial⟩
                        case measure => simp [intOf]; omega
                      · have hVt := HTR.out rfl
                        subst hVt
                        go_wp2
                        go_roundw
                        case rel => exact ⟨u + 1, by omega, by go_num, trivial⟩
                        case measure => simp [intOf]; omega
                    · obtain rfl : u = k := by omega
                      go_wp2
                      go_roundw
                      case rel => exact ⟨t + 1, by omega, by go_num, trivial⟩
                      case measure => simp [intOf]; omega
            · obtain rfl : t = k := by omega
              go_wp2
              go_roundw
              case rel => exact ⟨s + 1, by omega, by go_num, trivial⟩
              case measure => simp [intOf]; omega
        · obtain rfl : s = k := by omega
          go_wp2
          go_ret
          exact ⟨rfl, rfl⟩

theorem isAnOrder_ok {v : Value} {b : List (List Bool)} (n : Nat) (w : World) (ha : GB.Sl w v b) (hO : OrdB n b) :
    Calls Try.prog 45 #[v] w fun e w' => e = .returned (.bool true) ∧ w = w' := by
  have HV := Lib.hid (ImplValidOrder_ok n w ha hO)
  obtain ⟨bb, off, c, rb, ro, rc, rfl, _⟩ := GB_rd ha hO
  go_enter Try.func45, Try.ntmps45
  go_wp2_with fail
  refine HV.out.mono ?_
  rintro e w1 ⟨rfl, rfl⟩
  go_wp2
  go_ret
  exact ⟨rfl, rfl⟩
end Go.Proofs.Ytceobhmbnkheiaa
namespace Go.Proofs.Ytceobhmbnkheiaa
open Go.RowKit Go.Sort
def allT (p : Nat → Bool) (t : Nat) : Bool := (List.range t).all p
theorem allT_succ (p : Nat → Bool) (t : Nat) : allT p (t + 1) = (allT p t && p t) := by unfold allT; rw [List.range_succ, List.all_append]; simp
theorem lastP_yes {p : Nat → Bool} {k : Nat} (h : p k = true) : lastP p (k + 1) = (k : Int) := by unfold lastP; rw [if_pos h]
theorem lastP_no {p : Nat → Bool} {k : Nat} (h : p k = false) : lastP p (k + 1) = lastP p k := by
  show (if p k = true then (k : Int) else lastP p k) = _
  rw [h]; rfl

set_option maxRecDepth 100000 in
set_option maxHeartbeats 4000000 in
theorem endsOf_ok {v : Value} {b : List (List Bool)} (n : Nat) (w : World) (ha : GB.Sl w v b) (hO : OrdB n b) :
    Calls Try.prog 46 #[v] w fun e w' => e = .returned (.tuple #[.int .i64 (endsB b n).1, .int .i64 (endsB b n).2]) ∧ Below w.heap.size w w' := by
  obtain ⟨bb, off, c, rb, ro, rc, rfl, hnc, hcm, hrd⟩ := GB_rd ha hO
  have HRD := Lib.hid hrd
  have hn1 := hO.n1
  have hn6 := hO.n6
  have HE := Lib.hid (show endsB b n = (lastP (lowB b n) n, lastP (highB b n) n) from rfl)
  clear ha hO hrd
  go_enter Try.func46, Try.ntmps46
  go_wp2
  go_loopw [4, 5, 12] (fun lv hv iv wr => ∃ s : Nat, s ≤ n ∧ iv = .int .i64 s ∧ lv = .int .i64 (lastP (lowB b n) s) ∧ hv = .int .i64 (lastP (highB b n) s) ∧ Below w.heap.size w wr) (fun _ _ iv _ => n - (intOf iv).toNat)
  case atStart => exact ⟨0, Nat.zero_le _, rfl, rfl, rfl, Below.refl _ _⟩
  case round =>
    obtain ⟨s, hs, rfl, rfl, rfl, hbw⟩ := hrel
    have HBW := Lib.hid hbw
    clear hbw
    by_cases hsn : s < n
    · have i1 : (s : Int) < (n : Int) := by omega
      have i0 : (0 : Int) ≤ (s : Int) := by omega
      have HL1 := Lib.hid (fun h => lastP_yes (p := lowB b n) (k := s) h)
      have HL0 := Lib.hid (fun h => lastP_no (p := lowB b n) (k := s) h)
      have HH1 := Lib.hid (fun h => lastP_yes (p := highB b n) (k := s) h)
      have HH0 := Lib.hid (fun h => lastP_no (p := highB b n) (k := s) h)
      generalize lastP (lowB b n) s = LO at HL0
      generalize lastP (highB b n) s = HI at HH0
      go_wp2
      go_loopw [7, 8, 17] (fun av mv jv wi => ∃ t : Nat, t ≤ n ∧ jv = .int .i64 t ∧ av = .bool (allT (fun t => leB b s t) t) ∧ mv = .bool (allT (fun t => leB b t s) t) ∧ Below w.heap.size w wi) (fun _ _ jv _ => n - (intOf jv).toNat)
      case atStart => exact ⟨0, Nat.zero_le _, rfl, rfl, rfl, HBW.out⟩
      case round =>
        obtain ⟨t, ht, rfl, rfl, rfl, hbi⟩ := hrel
        have HBI := Lib.hid hbi
        have RD := HRD.out.below hbi
        by_cases htn : t < n
        · have i2 : (t : Int) < (n : Int) := by omega
          have i3 : (0 : Int) ≤ (t : Int) := by omega
          have g1 := RD.row s hsn
          have g2 := RD.row t htn
          have g3 := RD.bit s t hsn htn
          have g4 := RD.bit t s htn hsn
          have HA1 := Lib.hid (allT_succ (fun t => leB b s t) t)
          have HA2 := Lib.hid (allT_succ (fun t => leB b t s) t)
          generalize allT (fun t => leB b s t) t = A at HA1
          generalize allT (fun t => leB b t s) t = M at HA2
          obtain ⟨X, hX⟩ : ∃ X, X = leB b s t := ⟨_, rfl⟩
          obtain ⟨Y, hY⟩ : ∃ Y, Y = leB b t s := ⟨_, rfl⟩
          have HA1 := Lib.hid (show allT (fun t => leB b s t) (t + 1) = (A && X) from by rw [HA1.out, hX])
          have HA2 := Lib.hid (show allT (fun t => leB b t s) (t + 1) = (M && Y) from by rw [HA2.out, hY])
          rw [← hX] at g3
          rw [← hY] at g4
          have k1 := fun d os => cell_regrown g1 d os
          have k2 := fun d os => cell_regrown g2 d os
          have k3 := fun d os => cell_regrown g3 d os
          have k4 := fun d os => cell_regrown g4 d os
          clear hX hY RD g1 g2 g3 g4 hbi
          go_wp2_with fail
          cases A <;> cases M
          all_goals
            refine wp_region_quiet_below (by kernel_rfl) (by kernel_rfl) ?_
            repeat (first | go_big_quiet_skip | quiet_step (fail))
            refine wpQuiet_nil ?_
            intro _ hw'
            obtain ⟨⟨dq, osq⟩, hw''⟩ := hw'
            subst hw''
            have bq0 := below_regrown wr dq osq
            generalize grow (redrawn wr dq) osq = wq at bq0 ⊢
            have B2 := Lib.hid (HBI.out.trans (bq0.mono HBI.out.size))
            clear k1 k2 k3 k4 bq0
            go_wp2
            go_roundw
            case rel => exact ⟨t + 1, by omega, by go_num, by rw [HA1.out]; simp, by rw [HA2.out]; simp, B2.out⟩
            case measure => simp [intOf]; omega
        · obtain rfl : t = n := by omega
          have HLW := Lib.hid (show lowB b t s = allT (fun u => leB b s u) t from rfl)
          have HHG := Lib.hid (show highB b t s = allT (fun u => leB b u s) t from rfl)
          generalize allT (fun u => leB b s u) t = A at HLW
          generalize allT (fun u => leB b u s) t = M at HHG
          clear hbi RD
          cases A <;> cases M
          · have e1 := Lib.hid (HL0.out HLW.out)
            have e2 := Lib.hid (HH0.out HHG.out)
            go_wp2
            go_roundw
            case rel => exact ⟨s + 1, by omega, by go_num, by rw [e1.out], by rw [e2.out], HBI.out⟩
            case measure => simp [intOf]; omega
          · have e1 := Lib.hid (HL0.out HLW.out)
            have e2 := Lib.hid (HH1.out HHG.out)
            go_wp2
            go_roundw
            case rel => exact ⟨s + 1, by omega, by go_num, by rw [e1.out], by rw [e2.out], HBI.out⟩
            case measure => simp [intOf]; omega
          · have e1 := Lib.hid (HL1.out HLW.out)
            have e2 := Lib.hid (HH0.out HHG.out)
            go_wp2
            go_roundw
            case rel => exact ⟨s + 1, by omega, by go_num, by rw [e1.out], by rw [e2.out], HBI.out⟩
            case measure => simp [intOf]; omega
          · have e1 := Lib.hid (HL1.out HLW.out)
            have e2 := Lib.hid (HH1.out HHG.out)
            go_wp2
            go_roundw
            case rel => exact ⟨s + 1, by omega, by go_num, by rw [e1.out], by rw [e2.out], HBI.out⟩
            case measure => simp [intOf]; omega
    · obtain rfl : s = n := by omega
      go_wp2
      go_ret2
      exact ⟨by rw [HE.out]; rfl, HBW.out⟩

theorem EndsOf_line {v : Value} (n : Nat) (w : World) (h1 : 1 ≤ n) (h4 : n ≤ 4) (ha : GB.Sl w v (lineB n)) (hO : OrdB n (lineB n)) :
    Calls Try.prog 13 #[v] w fun e w' => e = .returned (.tuple #[.int .i64 0, .int .i64 ((n : Int) - 1), .int .i64 0]) ∧ Below w.heap.size w w' := by
  have hen : endsB (lineB n) n = (0, (n : Int) - 1) := by
    obtain ⟨m, rfl⟩ : ∃ m, n = m + 1 := ⟨n - 1, by omega⟩
    rw [ends_line m (by omega)]
    congr 1; omega
  have K1 := Lib.hid (isAnOrder_ok n w ha hO)
  have K2 := endsOf_ok n w ha hO
  rw [hen] at K2
  have K2 := Lib.hid K2
  obtain ⟨bb, off, c, rb, ro, rc, rfl, _⟩ := GB_rd ha hO
  have e1 : ¬ ((n : Int) - 1 < 0) := by omega
  clear ha hO hen
  go_enter Try.func13, Try.ntmps13
  go_wp2_with fail
  refine K1.out.mono ?_
  rintro e w1 ⟨rfl, rfl⟩
  go_wp2_with fail
  refine K2.out.mono ?_
  rintro e w2 ⟨rfl, b2⟩
  go_wp2
  go_ret3
  exact ⟨rfl, b2⟩
end Go.Proofs.Ytceobhmbnkheiaa
