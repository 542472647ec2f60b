/-
  FnClasses: plain part. With it: First shortest paths: the rounds of the search, and what is found does not depend on how. Classes of states: plain part.
-/
import Derived.Test.YtpmabnohdabbdaaZRowStepPaths7
set_option linter.unusedVariables false
set_option linter.unusedSimpArgs false
namespace Go.Proofs.Ytpmabnohdabbdaa
section
variable {E : Nat → Nat → Bool} {n t : Nat}
theorem BfsF.mono {far : List Int} {L : List Nat} {a b : Int} (h : BfsF E n t far L a) (hab : a ≤ b) : BfsF E n t far L b :=
  ⟨h.flen, h.inn, h.nd, h.mem, h.neg, h.t0, h.tm, h.par, h.srt, fun u hu => Int.le_trans (h.top u hu) hab⟩
/-- the search before round i -/
structure BfsO (E : Nat → Nat → Bool) (n t : Nat) (far : List Int) (L : List Nat) (i : Nat) : Prop where
  b : ∃ top, BfsF E n t far L top ∧ ∀ _ : i < L.length, top ≤ far.getD (L.getD i 0) 0 + 1
  done : DoneF E n far L (L.take i)
  bd : ∀ u ∈ L, far.getD u 0 < L.length
/-- the search in round i, before state j -/
structure BfsW (E : Nat → Nat → Bool) (n t : Nat) (far : List Int) (L : List Nat) (i j : Nat) : Prop where
  b : BfsF E n t far L (far.getD (L.getD i 0) 0 + 1)
  hi : i < L.length
  done : DoneF E n far L (L.take i)
  bd : ∀ u ∈ L, far.getD u 0 < L.length
  cur : ∀ u, u < j → E u (L.getD i 0) = true → u ∈ L ∧ far.getD u 0 ≤ far.getD (L.getD i 0) 0 + 1
theorem getD_mem {L : List Nat} {i : Nat} (h : i < L.length) : L.getD i 0 ∈ L := by
  rw [List.getD_eq_getElem?_getD, List.getElem?_eq_getElem h]; exact List.getElem_mem h
theorem getD_snoc {L : List Nat} {i x : Nat} (h : i < L.length) : (L ++ [x]).getD i 0 = L.getD i 0 := by
  simp [List.getD_eq_getElem?_getD, List.getElem?_append_left h]
theorem BfsO.first (ht : t < n) : BfsO E n t ((List.replicate n (-1)).set t 0) [t] 0 := by
  have hs : ((List.replicate n (-1 : Int)).set t 0).getD t 0 = 0 := setD_self (by simpa using ht)
  refine ⟨⟨1, BfsF.first ht, fun _ => ?_⟩, fun v hv => by simp at hv, fun u hu => ?_⟩
  · show (1 : Int) ≤ ((List.replicate n (-1 : Int)).set t 0).getD t 0 + 1
    rw [hs]; omega
  · simp at hu; subst hu; rw [hs]; simp
theorem BfsO.len {far : List Int} {L : List Nat} {i : Nat} (h : BfsO E n t far L i) : L.length ≤ n := by
  obtain ⟨top, hb, _⟩ := h.b
  exact nodup_len hb.nd hb.inn
theorem BfsW.len {far : List Int} {L : List Nat} {i j : Nat} (h : BfsW E n t far L i j) : L.length ≤ n := nodup_len h.b.nd h.b.inn
theorem BfsO.inner {far : List Int} {L : List Nat} {i : Nat} (h : BfsO E n t far L i) (hi : i < L.length) : BfsW E n t far L i 0 := by
  obtain ⟨top, hb, ht⟩ := h.b
  exact ⟨hb.mono (ht hi), hi, h.done, h.bd, fun u hu => absurd hu (by omega)⟩
theorem BfsW.skip {far : List Int} {L : List Nat} {i j : Nat} (h : BfsW E n t far L i j) (hj : E j (L.getD i 0) = false ∨ j ∈ L) : BfsW E n t far L i (j + 1) := by
  refine ⟨h.b, h.hi, h.done, h.bd, fun u hu hE => ?_⟩
  by_cases e : u = j
  · subst e
    rcases hj with hj | hj
    · rw [hj] at hE; cases hE
    · exact ⟨hj, h.b.top u hj⟩
  · exact h.cur u (by omega) hE
theorem BfsW.add {far : List Int} {L : List Nat} {i j : Nat} (h : BfsW E n t far L i j) (hj : j < n) (hn : j ∉ L) (hE : E j (L.getD i 0) = true) :
    BfsW E n t (far.set j (far.getD (L.getD i 0) 0 + 1)) (L ++ [j]) i (j + 1) := by
  have hv := getD_mem h.hi
  have hg := getD_snoc (x := j) h.hi
  have hne : ∀ x ∈ L, ∀ y : Int, (far.set j y).getD x 0 = far.getD x 0 := fun x hx y => setD_ne (fun e => hn (e ▸ hx))
  have hself : ∀ y : Int, (far.set j y).getD j 0 = y := fun y => setD_self (by rw [h.b.flen]; exact hj)
  have hvn : far.getD (L.getD i 0) 0 < L.length := h.bd _ hv
  refine ⟨?_, by simp; have := h.hi; omega, ?_, ?_, ?_⟩
  · rw [hg, hne _ hv]
    exact h.b.add hj hn hv hE rfl
  · rw [List.take_append_of_le_length (by have := h.hi; omega)]
    exact h.done.add hn (fun x hx => List.mem_of_mem_take hx)
  · intro u hu
    rcases List.mem_append.1 hu with hu | hu
    · rw [hne u hu, List.length_append]; have := h.bd u hu; show _ < ((L.length + 1 : Nat) : Int); omega
    · rw [List.mem_singleton.1 hu, hself, List.length_append]; show _ < ((L.length + 1 : Nat) : Int); omega
  · intro u hu hE2
    rw [hg] at hE2 ⊢
    rw [hne _ hv]
    by_cases e : u = j
    · subst e; exact ⟨by simp, by rw [hself]; exact Int.le_refl _⟩
    · obtain ⟨h1, h2⟩ := h.cur u (by omega) hE2
      exact ⟨by simp [h1], by rw [hne u h1]; exact h2⟩
theorem BfsW.next {far : List Int} {L : List Nat} {i : Nat} (h : BfsW E n t far L i n) : BfsO E n t far L (i + 1) := by
  refine ⟨⟨_, h.b, fun h2 => ?_⟩, ?_, h.bd⟩
  · have hp := List.pairwise_iff_getElem.1 h.b.srt i (i + 1) h.hi h2 (by omega)
    have g1 : L.getD i 0 = L[i]'h.hi := by rw [List.getD_eq_getElem?_getD, List.getElem?_eq_getElem h.hi]; rfl
    have g2 : L.getD (i + 1) 0 = L[i + 1] := by rw [List.getD_eq_getElem?_getD, List.getElem?_eq_getElem h2]; rfl
    rw [g1, g2]
    omega
  · intro v hv u hu hE
    rw [List.take_succ_eq_append_getElem h.hi] at hv
    rcases List.mem_append.1 hv with hv | hv
    · exact h.done v hv u hu hE
    · have e : v = L.getD i 0 := by rw [List.mem_singleton.1 hv, List.getD_eq_getElem?_getD, List.getElem?_eq_getElem h.hi]; rfl
      rw [e] at hE ⊢
      exact h.cur u hu hE
theorem BfsO.fin {far : List Int} {L : List Nat} (h : BfsO E n t far L L.length) (hc : ∀ u, u < n → ∀ P : Nat → Prop, P t → (∀ a b, a < n → b < n → E a b = true → P b → P a) → P u) :
    IsFar E n t (fun u => (far.getD u 0).toNat) ∧ far.length = n ∧ ∀ u, u < n → 0 ≤ far.getD u 0 := by
  obtain ⟨top, hb, _⟩ := h.b
  have hd := h.done
  rw [List.take_length] at hd
  obtain ⟨h1, h2⟩ := bfs_far hb hd hc
  exact ⟨h1, hb.flen, h2⟩
/-- distances are the same ones -/
theorem far_le {f g : Nat → Nat} (hf : IsFar E n t f) (hg : IsFar E n t g) : ∀ k u, u < n → g u = k → f u ≤ k
  | 0, u, hu, e => by
    have := (f_zero hg hu).1 e
    rw [this, hf.zero]; exact Nat.le_refl _
  | k + 1, u, hu, e => by
    by_cases hne : u = t
    · rw [hne, hf.zero]; omega
    · obtain ⟨v, hv, hE, he⟩ := hg.step u hu hne
      have h1 := far_le hf hg k v hv (by omega)
      have h2 := hf.tri u v hu hv hE
      omega
theorem far_eq {f g : Nat → Nat} (hf : IsFar E n t f) (hg : IsFar E n t g) {u : Nat} (hu : u < n) : f u = g u :=
  Nat.le_antisymm (far_le hf hg _ u hu rfl) (far_le hg hf _ u hu rfl)
theorem find_congr {p q : Nat → Bool} : ∀ l : List Nat, (∀ v ∈ l, p v = q v) → l.find? p = l.find? q
  | [], _ => rfl
  | a :: r, h => by
    rw [List.find?_cons, List.find?_cons, h a (by simp), find_congr r (fun v hv => h v (by simp [hv]))]
theorem nextG_congr {f g : Nat → Nat} (hf : IsFar E n t f) (hg : IsFar E n t g) {u : Nat} (hu : u < n) : nextG E n f u = nextG E n g u := by
  unfold nextG
  congr 1
  refine find_congr _ (fun v hv => ?_)
  rw [far_eq hf hg hu, far_eq hf hg (List.mem_range.1 hv)]
theorem gPath_congr {f g : Nat → Nat} (hf : IsFar E n t f) (hg : IsFar E n t g) : ∀ (k u : Nat), u < n → k ≤ f u → gPath E n f k u = gPath E n g k u
  | 0, _, _, _ => rfl
  | k + 1, u, hu, hk => by
    have hne : u ≠ t := fun e => by rw [e, hf.zero] at hk; omega
    obtain ⟨h1, _, h3, _⟩ := nextG_spec hf hu hne
    show u :: gPath E n f k (nextG E n f u) = u :: gPath E n g k (nextG E n g u)
    rw [gPath_congr hf hg k _ h1 (by omega), nextG_congr hf hg hu]
open Classical in
noncomputable def farC (E : Nat → Nat → Bool) (n t : Nat) : Nat → Nat := if h : ∃ f, IsFar E n t f then Classical.choose h else fun _ => 0
theorem farC_far {f : Nat → Nat} (hf : IsFar E n t f) : IsFar E n t (farC E n t) := by
  have h : ∃ f, IsFar E n t f := ⟨f, hf⟩
  unfold farC
  rw [dif_pos h]
  exact Classical.choose_spec h
/-- the first shortest path -/
noncomputable def firstG (E : Nat → Nat → Bool) (n s t : Nat) : List Nat := gPath E n (farC E n t) (farC E n t s) s
theorem firstG_eq {f : Nat → Nat} (hf : IsFar E n t f) {s : Nat} (hs : s < n) : gPath E n f (f s) s = firstG E n s t := by
  unfold firstG
  rw [gPath_congr hf (farC_far hf) _ _ hs (Nat.le_refl _), far_eq hf (farC_far hf) hs]
theorem nextG_eq {f : Nat → Nat} {u j : Nat} (hj : j < n) (h : (E u j && decide (f j + 1 = f u)) = true) (hno : ∀ x, x < j → (E u x && decide (f x + 1 = f u)) = false) : nextG E n f u = j := by
  unfold nextG
  have : (List.range n).find? (fun v => E u v && decide (f v + 1 = f u)) = some j := by
    rw [List.find?_range_eq_some]
    exact ⟨h, List.mem_range.2 hj, fun x hx => by rw [hno x hx]; rfl⟩
  rw [this]; rfl
theorem nextG_some {f : Nat → Nat} (hf : IsFar E n t f) {u : Nat} (hu : u < n) (hne : u ≠ t) (hno : ∀ x, x < n → (E u x && decide (f x + 1 = f u)) = false) : False := by
  obtain ⟨h1, h2, h3, _⟩ := nextG_spec hf hu hne
  have := hno _ h1
  rw [h2, decide_eq_true h3] at this
  cases this
theorem gEnd_at {f : Nat → Nat} (hf : IsFar E n t f) {s k : Nat} (hs : s < n) (hk : k ≤ f s) : gEnd E n f k s = t ↔ k = f s := by
  obtain ⟨h1, h2⟩ := gEnd_f hf hs k hk
  rw [← f_zero hf h1]
  omega
/-- walks of k steps to t -/
def Wk (E : Nat → Nat → Bool) (n t : Nat) : Nat → Nat → Prop
  | 0, u => u = t
  | k + 1, u => ∃ v, v < n ∧ E u v = true ∧ Wk E n t k v
theorem least_exists {P : Nat → Prop} : ∀ k, P k → ∃ m, P m ∧ ∀ x, P x → m ≤ x
  | k, h => by
    induction k using Nat.strongRecOn with
    | ind k ih =>
      by_cases hx : ∃ x, x < k ∧ P x
      · obtain ⟨x, h1, h2⟩ := hx
        exact ih x h1 h2
      · exact ⟨k, h, fun x hp => Nat.le_of_not_lt fun hlt => hx ⟨x, hlt, hp⟩⟩
open Classical in
noncomputable def distC (E : Nat → Nat → Bool) (n t u : Nat) : Nat := if h : ∃ m, Wk E n t m u ∧ ∀ x, Wk E n t x u → m ≤ x then Classical.choose h else 0
theorem distC_spec {u : Nat} (h : ∃ k, Wk E n t k u) : Wk E n t (distC E n t u) u ∧ ∀ x, Wk E n t x u → distC E n t u ≤ x := by
  obtain ⟨k, hk⟩ := h
  have h2 := least_exists (P := fun k => Wk E n t k u) k hk
  unfold distC
  rw [dif_pos h2]
  exact Classical.choose_spec h2
theorem far_exists (ht : t < n) (hc : ∀ u, u < n → ∀ P : Nat → Prop, P t → (∀ a b, a < n → b < n → E a b = true → P b → P a) → P u) : IsFar E n t (farC E n t) := by
  have hw : ∀ u, u < n → ∃ k, Wk E n t k u := fun u hu => hc u hu (fun u => ∃ k, Wk E n t k u) ⟨0, rfl⟩ (fun a b _ hb hE ⟨k, hk⟩ => ⟨k + 1, b, hb, hE, hk⟩)
  refine farC_far (f := distC E n t) ⟨?_, fun u v hu hv hE => ?_, fun u hu hne => ?_⟩
  · exact Nat.le_zero.1 ((distC_spec (hw t ht)).2 0 rfl)
  · exact (distC_spec (hw u hu)).2 (distC E n t v + 1) ⟨v, hv, hE, (distC_spec (hw v hv)).1⟩
  · obtain ⟨hsp, hmin⟩ := distC_spec (hw u hu)
    cases hk : distC E n t u with
    | zero => rw [hk] at hsp; exact absurd hsp hne
    | succ k =>
      rw [hk] at hsp
      obtain ⟨v, hv, hE, hwv⟩ := hsp
      have h3 := (distC_spec (hw v hv)).2 k hwv
      have h4 := hmin (distC E n t v + 1) ⟨v, hv, hE, (distC_spec (hw v hv)).1⟩
      exact ⟨v, hv, hE, by omega⟩
theorem found_aux {lv pre post : List (List Nat)} {g : List Nat} {i t : Nat} (e : lv = pre ++ g :: post) (h2 : ∀ p ∈ pre, lastP p ≠ t) (hg : lastP g = t) (hi : i < lv.length) (he : lastP lv[i] = t) (hno : ∀ x, (h : x < i) → lastP (lv[x]'(by omega)) ≠ t) : lv[i] = g := by
  subst e
  rcases Nat.lt_trichotomy i pre.length with h | h | h
  · rw [List.getElem_append_left h] at he
    exact absurd he (h2 _ (List.getElem_mem h))
  · subst h; simp
  · have := hno pre.length h
    simp [hg] at this
theorem more_aux {lv pre post : List (List Nat)} {g : List Nat} {t : Nat} (e : lv = pre ++ g :: post) (hg : lastP g = t) (hno : ∀ x, (h : x < lv.length) → lastP (lv[x]) ≠ t) : False := by
  subst e
  have := hno pre.length (by simp)
  simp [hg] at this
/-- in a level, a path that ends at t behind others that do not is the first one -/
theorem lvl_found {f : Nat → Nat} (hf : IsFar E n t f) {s k i : Nat} (hs : s < n) (hk : k ≤ f s) (hi : i < (lvl E n s k).length) (he : lastP (lvl E n s k)[i] = t) (hno : ∀ x, (h : x < i) → lastP ((lvl E n s k)[x]'(by omega)) ≠ t) :
    (lvl E n s k)[i] = firstG E n s t := by
  have hm := lvl_all hf hs k _ (List.getElem_mem hi)
  rw [he, hf.zero] at hm
  have hkk : k = f s := by omega
  obtain ⟨pre, post, h1, h2⟩ := lvl_first hf hs k hk
  have hg : lastP (gPath E n f k s) = t := by
    rw [show lastP (gPath E n f k s) = gEnd E n f k s from gPath_last k s]
    exact (gEnd_at hf hs hk).2 hkk
  rw [← firstG_eq hf hs, ← hkk]
  exact found_aux h1 (fun p hp e => by have := h2 p hp; rw [e, hf.zero] at this; omega) hg hi he hno
theorem lvl_more {f : Nat → Nat} (hf : IsFar E n t f) {s k : Nat} (hs : s < n) (hk : k ≤ f s) (hno : ∀ x, (h : x < (lvl E n s k).length) → lastP ((lvl E n s k)[x]) ≠ t) : k + 1 ≤ f s := by
  by_cases hkk : k = f s
  · exfalso
    obtain ⟨pre, post, h1, _⟩ := lvl_first hf hs k hk
    have hg : lastP (gPath E n f k s) = t := by
      rw [show lastP (gPath E n f k s) = gEnd E n f k s from gPath_last k s]
      exact (gEnd_at hf hs hk).2 hkk
    exact more_aux h1 hg hno
  · omega
end
theorem conn_back {xss : List (List Int)} {n t : Nat} (h : connB xss n = true) (ht : t < n) : ∀ u, u < n → ∀ P : Nat → Prop, P t → (∀ a b, a < n → b < n → edgeP xss a b = true → P b → P a) → P u :=
  fun u hu _ h0 hs => rch_back (conn_all h hu ht) h0 hs
end Go.Proofs.Ytpmabnohdabbdaa
namespace Go.Proofs.Ytpmabnohdabbdaa
open Go.RowKit Go.Sort
def Mut (xss : List (List Int)) (n i j : Nat) : Prop := Rch xss n i j ∧ Rch xss n j i
theorem Mut.refl (xss : List (List Int)) (n i : Nat) : Mut xss n i i := ⟨Rch.refl _ _ _, Rch.refl _ _ _⟩
theorem Mut.symm {xss : List (List Int)} {n i j : Nat} (h : Mut xss n i j) : Mut xss n j i := ⟨h.2, h.1⟩
theorem Mut.trans {xss : List (List Int)} {n i j k : Nat} (hi : i < n) (hk : k < n) (h : Mut xss n i j) (h2 : Mut xss n j k) : Mut xss n i k := ⟨h.1.trans hi h2.1, h2.2.trans hk h.2⟩
structure ClsI (xss : List (List Int)) (n : Nat) (cs : List Int) (next : Int) : Prop where
  rng : ∀ (i : Nat) (h : i < cs.length), 0 ≤ cs[i] ∧ cs[i] < next
  iff : ∀ (i j : Nat) (hi : i < cs.length) (hj : j < cs.length), cs[i] = cs[j] ↔ Mut xss n i j
  zero : ∀ h : 0 < cs.length, cs[0] = 0
  nx : 0 ≤ next ∧ next ≤ cs.length
theorem ClsI.nil (xss : List (List Int)) (n : Nat) : ClsI xss n [] 0 := ⟨fun i h => by simp at h, fun i j h => by simp at h, fun h => by simp at h, by simp⟩
theorem snoc_cases {cs : List Int} {x : Int} {i : Nat} (h : i < (cs ++ [x]).length) : (∃ h : i < cs.length, (cs ++ [x])[i] = cs[i]) ∨ (i = cs.length ∧ (cs ++ [x])[i] = x) := by
  by_cases hi : i < cs.length
  · exact .inl ⟨hi, List.getElem_append_left hi⟩
  · have : i = cs.length := by simp at h; omega
    subst this
    exact .inr ⟨rfl, by simp⟩
theorem ClsI.old {xss : List (List Int)} {n : Nat} {cs : List Int} {next : Int} (h : ClsI xss n cs next) (hs : cs.length < n) {t : Nat} (ht : t < cs.length) (hm : Mut xss n t cs.length) : ClsI xss n (cs ++ [cs[t]]) next := by
  refine ⟨fun i hi => ?_, fun i j hi hj => ?_, fun h0 => ?_, ⟨h.nx.1, by have := h.nx.2; simp; omega⟩⟩
  · rcases snoc_cases hi with ⟨h1, e⟩ | ⟨_, e⟩ <;> rw [e]
    · exact h.rng i h1
    · exact h.rng t ht
  · rcases snoc_cases hi with ⟨h1, e1⟩ | ⟨h1, e1⟩ <;> rcases snoc_cases hj with ⟨h2, e2⟩ | ⟨h2, e2⟩ <;> rw [e1, e2]
    · exact h.iff i j h1 h2
    · rw [h.iff i t h1 ht, h2]
      exact ⟨fun q => q.trans (by omega) hs hm, fun q => q.trans (by omega) (by omega) hm.symm⟩
    · rw [h.iff t j ht h2, h1]
      exact ⟨fun q => hm.symm.trans hs (by omega) q, fun q => hm.trans (by omega) (by omega) q⟩
    · rw [h1, h2]; exact ⟨fun _ => Mut.refl _ _ _, fun _ => rfl⟩
  · rcases snoc_cases h0 with ⟨h1, e⟩ | ⟨h1, e⟩ <;> rw [e]
    · exact h.zero h1
    · omega
theorem ClsI.new {xss : List (List Int)} {n : Nat} {cs : List Int} {next : Int} (h : ClsI xss n cs next) (hno : ∀ t, t < cs.length → ¬ Mut xss n t cs.length) : ClsI xss n (cs ++ [next]) (next + 1) := by
  obtain ⟨hx0, hx1⟩ := h.nx
  refine ⟨fun i hi => ?_, fun i j hi hj => ?_, fun h0 => ?_, ⟨by omega, by simp; omega⟩⟩
  · rcases snoc_cases hi with ⟨h1, e⟩ | ⟨_, e⟩ <;> rw [e]
    · have := h.rng i h1; omega
    · omega
  · rcases snoc_cases hi with ⟨h1, e1⟩ | ⟨h1, e1⟩ <;> rcases snoc_cases hj with ⟨h2, e2⟩ | ⟨h2, e2⟩ <;> rw [e1, e2]
    · exact h.iff i j h1 h2
    · have := h.rng i h1
      exact ⟨fun q => by omega, fun q => absurd (by rw [h2] at q; exact q) (hno i h1)⟩
    · have := h.rng j h2
      exact ⟨fun q => by omega, fun q => absurd (by rw [h1] at q; exact q.symm) (hno j h2)⟩
    · rw [h1, h2]; exact ⟨fun _ => Mut.refl _ _ _, fun _ => rfl⟩
  · rcases snoc_cases h0 with ⟨h1, e⟩ | ⟨h1, e⟩ <;> rw [e]
    · exact h.zero h1
    · omega
theorem mut_iff {xss : List (List Int)} {n i j : Nat} : Mut xss n i j ↔ (rB xss n i j = true ∧ rB xss n j i = true) := by
  unfold Mut; rw [rB_iff, rB_iff]
end Go.Proofs.Ytpmabnohdabbdaa
namespace Go.Proofs.Ytpmabnohdabbdaa
open Go.RowKit Go.Sort
theorem reachL_pair (xss : List (List Int)) (n s : Nat) : (reachL xss n s).Pairwise (· < ·) := memsL_pair _ _
theorem reachL_has {xss : List (List Int)} {n s t : Nat} (ht : t < n) : decide ((t : Int) ∈ reachL xss n s) = rB xss n s t := by
  rw [Bool.eq_iff_iff, decide_eq_true_eq, reachL_mem, rB_iff]
  constructor
  · rintro ⟨u, _, h2, h3⟩
    have : t = u := by omega
    subst this; exact h3
  · intro h; exact ⟨t, ht, rfl, h⟩
theorem reachL_mut {xss : List (List Int)} {n r s : Nat} (hr : r < n) (hs : s < n) (h : Mut xss n r s) : reachL xss n r = reachL xss n s := by
  refine pair_ext (reachL_pair _ _ _) (reachL_pair _ _ _) (fun x => ?_)
  rw [reachL_mem, reachL_mem]
  constructor
  · rintro ⟨t, h1, h2, h3⟩; exact ⟨t, h1, h2, h.2.trans hs h3⟩
  · rintro ⟨t, h1, h2, h3⟩; exact ⟨t, h1, h2, h.1.trans hr h3⟩
def Stay (xss : List (List Int)) (n s : Nat) : Prop := ∀ u, u < n → Rch xss n s u → Rch xss n u s
theorem head_mem {l : List Int} (h : 0 < l.length) : l.getD 0 0 ∈ l := by rw [gD_at h]; exact List.getElem_mem h
theorem reachL_pos {xss : List (List Int)} {n s : Nat} (h : s < n) : 0 < (reachL xss n s).length := List.length_pos_of_mem (reachL_self h)
theorem closed_key {xss : List (List Int)} {n k s : Nat} (hk : k < n) (hs : s < n) : (closedB xss n k = true ∧ (s : Int) ∈ reachL xss n k) ↔ (Stay xss n s ∧ (reachL xss n s).getD 0 0 = (k : Int)) := by
  constructor
  · rintro ⟨h1, h2⟩
    unfold closedB at h1
    rw [Bool.and_eq_true, decide_eq_true_eq, List.all_eq_true] at h1
    obtain ⟨h1, h3⟩ := h1
    have hback : ∀ t, t < n → Rch xss n k t → Rch xss n t k := fun t ht h => by
      have := h3 (t : Int) (reachL_mem.2 ⟨t, ht, rfl, h⟩)
      rw [Int.toNat_natCast] at this
      exact rB_iff.1 this
    obtain ⟨s', _, e, hks⟩ := reachL_mem.1 h2
    have : s = s' := by omega
    subst this
    have hsk := hback s hs hks
    refine ⟨fun u hu hsu => ?_, ?_⟩
    · exact (hback u hu (hks.trans hk hsu)).trans hu hks
    · rw [← reachL_mut hk hs ⟨hks, hsk⟩]; exact h1
  · rintro ⟨h1, h2⟩
    have hm := head_mem (reachL_pos (xss := xss) hs)
    rw [h2] at hm
    obtain ⟨k', _, e, hsk⟩ := reachL_mem.1 hm
    have : k = k' := by omega
    subst this
    have hks := h1 k hk hsk
    have he := reachL_mut hk hs ⟨hks, hsk⟩
    refine ⟨?_, reachL_mem.2 ⟨s, hs, rfl, hks⟩⟩
    unfold closedB
    rw [Bool.and_eq_true, decide_eq_true_eq, List.all_eq_true, he]
    refine ⟨h2, fun x hx => ?_⟩
    obtain ⟨t, ht, rfl, hst⟩ := reachL_mem.1 hx
    rw [Int.toNat_natCast, rB_iff]
    exact (h1 t ht hst).trans ht hsk
theorem closedN_succ' (xss : List (List Int)) (n k : Nat) : closedN xss n (k + 1) = closedN xss n k ++ (if closedB xss n k = true then [reachL xss n k] else []) := rfl
noncomputable def stayB (xss : List (List Int)) (n s : Nat) : Bool := @decide (Stay xss n s) (Classical.propDecidable _)
theorem stayB_iff {xss : List (List Int)} {n s : Nat} : stayB xss n s = true ↔ Stay xss n s := by
  unfold stayB; rw [@decide_eq_true_iff _ (Classical.propDecidable _)]
theorem cnt_closed {xss : List (List Int)} {n s : Nat} (hs : s < n) : ∀ k, k ≤ n → ((closedN xss n k).filter (fun e => decide ((s : Int) ∈ e))).length = if stayB xss n s = true ∧ (reachL xss n s).getD 0 0 < (k : Int) then 1 else 0
  | 0, _ => by
    have hm := head_mem (reachL_pos (xss := xss) hs)
    obtain ⟨t, _, e, _⟩ := reachL_mem.1 hm
    rw [if_neg (by rw [e]; omega)]; rfl
  | k + 1, hk => by
    have ih := cnt_closed (xss := xss) hs k (by omega)
    have key := closed_key (xss := xss) (k := k) (by omega) hs
    rw [closedN_succ', List.filter_append, List.length_append, ih]
    by_cases h1 : stayB xss n s = true
    · by_cases h2 : (reachL xss n s).getD 0 0 = (k : Int)
      · obtain ⟨q1, q2⟩ := key.2 ⟨stayB_iff.1 h1, h2⟩
        rw [if_neg (by omega), if_pos q1, if_pos (by exact ⟨h1, by omega⟩)]
        simp [q2]
      · have hno : ¬ (closedB xss n k = true ∧ (s : Int) ∈ reachL xss n k) := fun h => h2 (key.1 h).2
        have h0 : ((if closedB xss n k = true then [reachL xss n k] else []).filter (fun e => decide ((s : Int) ∈ e))).length = 0 := by
          split
          · rename_i h
            have : ¬ (s : Int) ∈ reachL xss n k := fun q => hno ⟨h, q⟩
            simp [this]
          · simp
        rw [h0]
        by_cases h3 : (reachL xss n s).getD 0 0 < (k : Int)
        · rw [if_pos ⟨h1, h3⟩, if_pos ⟨h1, by omega⟩]
        · rw [if_neg (by omega), if_neg (by omega)]
    · have hno : ¬ (closedB xss n k = true ∧ (s : Int) ∈ reachL xss n k) := fun h => h1 (stayB_iff.2 (key.1 h).1)
      have h0 : ((if closedB xss n k = true then [reachL xss n k] else []).filter (fun e => decide ((s : Int) ∈ e))).length = 0 := by
        split
        · rename_i h
          have : ¬ (s : Int) ∈ reachL xss n k := fun q => hno ⟨h, q⟩
          simp [this]
        · simp
      rw [h0, if_neg (fun h => h1 h.1), if_neg (fun h => h1 h.1)]
/-- how many of the first k lists have s -/
def cntE (E : List (List Int)) (s k : Nat) : Nat := ((E.take k).filter (fun e => decide ((s : Int) ∈ e))).length
theorem cntE_succ {E : List (List Int)} {s k : Nat} (h : k < E.length) : cntE E s (k + 1) = cntE E s k + (if decide ((s : Int) ∈ E[k]) = true then 1 else 0) := by
  unfold cntE
  rw [List.take_succ_eq_append_getElem h, List.filter_append, List.length_append]
  congr 1
  by_cases hm : (s : Int) ∈ E[k] <;> simp [hm]
theorem cntE_all {xss : List (List Int)} {n s : Nat} (hs : s < n) : cntE (closedN xss n n) s (closedN xss n n).length = if stayB xss n s = true then 1 else 0 := by
  unfold cntE
  rw [List.take_length, cnt_closed hs n (Nat.le_refl _)]
  have hm := head_mem (reachL_pos (xss := xss) hs)
  obtain ⟨t, ht, e, _⟩ := reachL_mem.1 hm
  by_cases h : stayB xss n s = true
  · rw [if_pos h, if_pos ⟨h, by rw [e]; omega⟩]
  · rw [if_neg h, if_neg (fun q => h q.1)]
theorem closed_has {xss : List (List Int)} {n s : Nat} (hs : s < n) {k : Nat} (hk : k < (closedN xss n n).length) (hm : (s : Int) ∈ (closedN xss n n)[k]) : (closedN xss n n)[k] = reachL xss n s := by
  obtain ⟨r, hr, hc, he⟩ := closedN_mem (List.getElem_mem hk)
  rw [he] at hm ⊢
  obtain ⟨h1, h2⟩ := (closed_key hr hs).1 ⟨hc, hm⟩
  obtain ⟨t, _, e, hrs⟩ := reachL_mem.1 hm
  have : s = t := by omega
  subst this
  have hh := head_mem (reachL_pos (xss := xss) hs)
  rw [h2] at hh
  obtain ⟨t, _, e, hsr⟩ := reachL_mem.1 hh
  have : r = t := by omega
  subst this
  exact reachL_mut hr hs ⟨hrs, hsr⟩
theorem stay_ex {xss : List (List Int)} {n : Nat} : ∀ (N s : Nat), s < n → (reachL xss n s).length ≤ N → ∃ s', s' < n ∧ Stay xss n s' := by
  intro N
  induction N with
  | zero => intro s hs h; have := reachL_pos (xss := xss) hs; omega
  | succ N ih =>
    intro s hs h
    by_cases hst : Stay xss n s
    · exact ⟨s, hs, hst⟩
    · unfold Stay at hst
      have : ∃ u, u < n ∧ Rch xss n s u ∧ ¬ Rch xss n u s := by
        apply Classical.byContradiction
        intro hc
        exact hst (fun u hu hsu => Classical.byContradiction (fun hus => hc ⟨u, hu, hsu, hus⟩))
      obtain ⟨u, hu, hsu, hus⟩ := this
      have hnm : ¬ (s : Int) ∈ reachL xss n u := by
        intro hm
        obtain ⟨t, _, e, h3⟩ := reachL_mem.1 hm
        have : s = t := by omega
        subst this; exact hus h3
      have hlen : ((s : Int) :: reachL xss n u).length ≤ (reachL xss n s).length := by
        refine List.Nodup.length_le_of_subset (List.nodup_cons.2 ⟨hnm, (reachL_pair xss n u).imp (fun h => by omega)⟩) (fun x hx => ?_)
        simp only [List.mem_cons] at hx
        rcases hx with rfl | hx
        · exact reachL_self hs
        · obtain ⟨t, ht, rfl, hut⟩ := reachL_mem.1 hx
          exact reachL_mem.2 ⟨t, ht, rfl, hsu.trans hs hut⟩
      simp only [List.length_cons] at hlen
      exact ih u hu (by omega)
theorem closedN_pos {xss : List (List Int)} {n : Nat} (hn : 0 < n) : 1 ≤ (closedN xss n n).length := by
  obtain ⟨s, hs, hst⟩ := stay_ex (xss := xss) (n := n) _ 0 hn (Nat.le_refl _)
  have h := cntE_all (xss := xss) hs
  rw [if_pos (stayB_iff.2 hst)] at h
  unfold cntE at h
  have := List.length_filter_le (fun e => decide ((s : Int) ∈ e)) ((closedN xss n n).take (closedN xss n n).length)
  rw [List.take_length] at this h
  omega
theorem memsL_full {m : List Bool} : ∀ {k : Nat}, (∀ t, t < k → m.getD t false = true) → (memsL m k).length = k
  | 0, _ => rfl
  | k + 1, h => by
    unfold memsL
    rw [List.length_append, memsL_full (fun t ht => h t (by omega)), if_pos (h k (by omega))]; rfl
def zeroTo (cs : List Int) (k : Nat) : Bool := (cs.take k).all (fun x => decide (x = 0))
theorem zeroTo_succ {cs : List Int} {k : Nat} (h : k < cs.length) : zeroTo cs (k + 1) = (zeroTo cs k && decide (cs[k] = 0)) := by
  unfold zeroTo
  rw [List.take_succ_eq_append_getElem h, List.all_append]; simp
theorem conn_zero {xss : List (List Int)} {n : Nat} {cs : List Int} {nx : Int} (hn : 0 < n) (hl : cs.length = n) (h : ClsI xss n cs nx) : connB xss n = zeroTo cs n := by
  have h0 := h.zero (by omega)
  rw [Bool.eq_iff_iff]
  constructor
  · intro hc
    unfold zeroTo
    rw [List.all_eq_true]
    intro x hx
    obtain ⟨i, hi, rfl⟩ := List.mem_iff_getElem.1 (List.mem_of_mem_take hx)
    rw [decide_eq_true_eq, ← h0]
    exact (h.iff i 0 hi (by omega)).2 ⟨conn_all hc (by omega) hn, conn_all hc hn (by omega)⟩
  · intro hz
    unfold zeroTo at hz
    rw [List.take_of_length_le (by omega), List.all_eq_true] at hz
    have hall : ∀ i, i < n → Mut xss n i 0 := fun i hi => by
      have hic : i < cs.length := by omega
      have := hz _ (List.getElem_mem hic)
      rw [decide_eq_true_eq] at this
      exact (h.iff i 0 hic (by omega)).1 (by rw [this, h0])
    have hst : Stay xss n 0 := fun u hu _ => (hall u hu).1
    have hlen : (reachL xss n 0).length = n := memsL_full (fun t ht => by rw [reachB_get ht]; exact rB_iff.2 (hall t ht).2)
    have hhd : (reachL xss n 0).getD 0 0 = ((0 : Nat) : Int) := by
      have hm := head_mem (reachL_pos (xss := xss) hn)
      have hp := reachL_pair xss n 0
      have h00 : ((0 : Nat) : Int) ∈ reachL xss n 0 := reachL_self hn
      obtain ⟨t, _, e, _⟩ := reachL_mem.1 hm
      cases hR : reachL xss n 0 with
      | nil => rw [hR] at h00; simp at h00
      | cons x l =>
        rw [hR] at h00 hp e
        rw [List.pairwise_cons] at hp
        simp only [List.mem_cons] at h00
        rcases h00 with h00 | h00
        · simpa using h00.symm
        · have := hp.1 _ h00
          simp at e
          omega
    have hcl : ∀ k, k < n → (closedB xss n k = true ↔ k = 0) := fun k hk => by
      constructor
      · intro hc
        have := (closed_key hk hn).1 ⟨hc, reachL_mem.2 ⟨0, hn, rfl, (hall k hk).1⟩⟩
        rw [hhd] at this
        omega
      · rintro rfl
        exact ((closed_key hn hn).2 ⟨hst, hhd⟩).1
    have hN : ∀ k, k < n → closedN xss n (k + 1) = [reachL xss n 0] := by
      intro k
      induction k with
      | zero => intro hk; rw [closedN_succ', if_pos ((hcl 0 hn).2 rfl)]; rfl
      | succ k ih => intro hk; rw [closedN_succ', ih (by omega), if_neg (fun q => by have := (hcl (k + 1) hk).1 q; omega)]; rfl
    have hE : closedN xss n n = [reachL xss n 0] := by
      have := hN (n - 1) (by omega)
      rwa [show n - 1 + 1 = n by omega] at this
    unfold connB
    rw [hE]
    simp [hlen]
def stTo (r : Nat → Bool) (cs : List Int) (s t : Nat) : Bool := (List.range t).all (fun u => !r u || decide (cs.getD u 0 = cs.getD s 0))
theorem stTo_succ (r : Nat → Bool) (cs : List Int) (s t : Nat) : stTo r cs s (t + 1) = (stTo r cs s t && (!r t || decide (cs.getD t 0 = cs.getD s 0))) := by
  unfold stTo
  rw [List.range_succ, List.all_append]; simp
theorem stTo_stay {xss : List (List Int)} {n s : Nat} {cs : List Int} {nx : Int} (hs : s < n) (hl : cs.length = n) (h : ClsI xss n cs nx) : stTo (rB xss n s) cs s n = stayB xss n s := by
  rw [Bool.eq_iff_iff, stayB_iff]
  unfold stTo Stay
  rw [List.all_eq_true]
  constructor
  · intro ha u hu hsu
    have := ha u (List.mem_range.2 hu)
    rw [rB_iff.2 hsu, gD_at (by omega : u < cs.length), gD_at (by omega : s < cs.length)] at this
    simp at this
    exact ((h.iff u s (by omega) (by omega)).1 this).1
  · intro ha u hu
    have hun := List.mem_range.1 hu
    cases hr : rB xss n s u with
    | false => rfl
    | true =>
      rw [gD_at (by omega : u < cs.length), gD_at (by omega : s < cs.length)]
      simp
      exact (h.iff u s (by omega) (by omega)).2 ⟨ha u hun (rB_iff.1 hr), rB_iff.1 hr⟩
theorem step_reach {xss : List (List Int)} {n s t : Nat} (hs : s < n) (ht : t < n) (hx : 0 < wtN xss s t) : rB xss n s t = true := rB_iff.2 ((Rch.refl _ _ _).step hs ht hx)
theorem cls_eq {xss : List (List Int)} {n s t : Nat} {cs : List Int} {nx : Int} (h : ClsI xss n cs nx) (hs : s < cs.length) (ht : t < cs.length) : (cs[s] == cs[t]) = (rB xss n s t && rB xss n t s) := by
  rw [Bool.eq_iff_iff, beq_iff_eq, Bool.and_eq_true, h.iff s t hs ht, mut_iff]
end Go.Proofs.Ytpmabnohdabbdaa
