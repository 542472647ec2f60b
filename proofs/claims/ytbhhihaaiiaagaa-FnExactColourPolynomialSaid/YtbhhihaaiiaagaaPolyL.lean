/-
  Parts of a graph by relabelling, and signs by bits; plain.
-/
import Derived.Test.YtbhhihaaiiaagaaLineS
namespace Go.Proofs.Ytbhhihaaiiaagaa
open Go.RowKit Go.Sort
def relab (p : List Int) (a b : Int) : List Int := p.map fun x => if x = b then a else x
theorem relab_len (p : List Int) (a b : Int) : (relab p a b).length = p.length := by simp [relab]
theorem relab_getD {p : List Int} {a b : Int} {i : Nat} (h : i < p.length) : (relab p a b).getD i 0 = if p.getD i 0 = b then a else p.getD i 0 := by
  have h2 : i < (relab p a b).length := by rw [relab_len]; exact h
  rw [getD_at h2, getD_at h]
  simp [relab]
theorem countP_change {f g : Nat → Bool} {b : Nat} (hf : f b = true) (hg : g b = false) (he : ∀ i, i ≠ b → f i = g i) : ∀ n, (List.range n).countP f = (List.range n).countP g + (if b < n then 1 else 0)
  | 0 => by simp
  | n + 1 => by
    rw [List.range_succ, List.countP_append, List.countP_append, countP_change hf hg he n]
    by_cases h : n = b
    · subst h
      simp [List.countP_cons, hf, hg]
    · have e := he n h
      simp only [List.countP_cons, List.countP_nil, e]
      by_cases h1 : b < n
      · rw [if_pos h1, if_pos (show b < n + 1 by omega)]; omega
      · rw [if_neg h1, if_neg (show ¬ b < n + 1 by omega)]; omega
/-- labels: each label's own node bears it; g of them -/
structure PartOk (m : Nat) (p : List Int) (g : Int) : Prop where
  len : p.length = m
  val : ∀ i, i < m → ∃ k : Nat, k < m ∧ p.getD i 0 = (k : Int) ∧ p.getD k 0 = (k : Int)
  cnt : g = ((List.range m).countP fun i => decide (p.getD i 0 = (i : Int)) : Nat)
theorem PartOk.rng {m : Nat} {p : List Int} {g : Int} (h : PartOk m p g) : 0 ≤ g ∧ g ≤ m := by
  have h1 := h.cnt
  have h2 : (List.range m).countP (fun i => decide (p.getD i 0 = (i : Int))) ≤ (List.range m).length := List.countP_le_length
  rw [List.length_range] at h2
  omega
theorem PartOk.relab {m : Nat} {p : List Int} {g : Int} (h : PartOk m p g) {i j : Nat} (hi : i < m) (hj : j < m) (hn : p.getD i 0 ≠ p.getD j 0) : PartOk m (relab p (p.getD i 0) (p.getD j 0)) (g - 1) := by
  obtain ⟨x, hx, ei, ex⟩ := h.val i hi
  obtain ⟨y, hy, ej, ey⟩ := h.val j hj
  rw [ei, ej] at hn ⊢
  have hl := h.len
  refine ⟨by rw [relab_len]; exact hl, fun k hk => ?_, ?_⟩
  · obtain ⟨z, hz, ek, ez⟩ := h.val k hk
    rw [relab_getD (by omega), ek]
    by_cases hzy : (z : Int) = y
    · rw [if_pos hzy]
      refine ⟨x, hx, rfl, ?_⟩
      rw [relab_getD (by omega), ex, if_neg hn]
    · rw [if_neg hzy]
      refine ⟨z, hz, rfl, ?_⟩
      rw [relab_getD (by omega), ez, if_neg hzy]
  · have hc := countP_change (f := fun i => decide (i < m) && decide (p.getD i 0 = (i : Int))) (g := fun i => decide (i < m) && decide ((Go.Proofs.Ytbhhihaaiiaagaa.relab p (x : Int) (y : Int)).getD i 0 = (i : Int))) (b := y) (by simp only [decide_eq_true hy, decide_eq_true ey]; rfl) (by
      rw [relab_getD (by omega), ey, if_pos rfl, decide_eq_false hn]; simp) (fun k hk => by
      by_cases hkm : k < m
      · rw [relab_getD (by omega)]
        by_cases h1 : p.getD k 0 = (y : Int)
        · rw [if_pos h1, h1]
          have e1 : ¬ (y : Int) = (k : Int) := by omega
          have e2 : ¬ (x : Int) = (k : Int) := by
            intro e
            have : x = k := by omega
            subst this
            rw [ex] at h1
            exact hn h1
          rw [decide_eq_false e1, decide_eq_false e2]
        · rw [if_neg h1]
      · rw [decide_eq_false hkm]; rfl) m
    rw [if_pos hy] at hc
    have key : ∀ q : List Int, (List.range m).countP (fun i => decide (i < m) && decide (q.getD i 0 = (i : Int))) = (List.range m).countP fun i => decide (q.getD i 0 = (i : Int)) := fun q => by
      refine List.countP_congr (fun i hi => ?_)
      rw [List.mem_range] at hi
      simp [hi]
    rw [key, key] at hc
    have := h.cnt
    omega
theorem PartOk.start (m : Nat) : PartOk m (upTo m) m := by
  have hg : ∀ i, i < m → (upTo m).getD i 0 = (i : Int) := fun i hi => by
    rw [getD_at (by rw [upTo_length]; exact hi)]
    simp [upTo]
  refine ⟨upTo_length m, fun i hi => ⟨i, hi, hg i hi, hg i hi⟩, ?_⟩
  have : (List.range m).countP (fun i => decide ((upTo m).getD i 0 = (i : Int))) = (List.range m).length := by
    rw [List.countP_eq_length]
    intro i hi
    rw [List.mem_range] at hi
    rw [hg i hi]; simp
  rw [this, List.length_range]
/-- the sign of the bits below L -/
def sgnL : Nat → Nat → Int
  | 0, _ => 1
  | L + 1, x => (if x % 2 = 0 then 1 else -1) * sgnL L (x / 2)
theorem sgnL_zero : ∀ L, sgnL L 0 = 1
  | 0 => rfl
  | L + 1 => by simp [sgnL, sgnL_zero L]
theorem sgnL_top : ∀ (i x : Nat), sgnL (i + 1) x = (if x / 2 ^ i % 2 = 0 then 1 else -1) * sgnL i x
  | 0, x => by simp [sgnL]
  | i + 1, x => by
    have e : x / 2 / 2 ^ i = x / 2 ^ (i + 1) := by rw [Nat.div_div_eq_div_mul, Nat.pow_succ, Nat.mul_comm]
    show (if x % 2 = 0 then (1 : Int) else -1) * sgnL (i + 1) (x / 2) = _
    rw [sgnL_top i (x / 2), e]
    show _ = (if x / 2 ^ (i + 1) % 2 = 0 then (1 : Int) else -1) * ((if x % 2 = 0 then (1 : Int) else -1) * sgnL i (x / 2))
    rw [← Int.mul_assoc, ← Int.mul_assoc, Int.mul_comm (if x % 2 = 0 then (1 : Int) else -1)]
theorem clear_lt {x : Nat} (h : 0 < x) : x &&& (x - 1) < x := Nat.lt_of_le_of_lt Nat.and_le_right (by omega)
theorem clear_sgn : ∀ (L x : Nat), 0 < x → x < 2 ^ L → sgnL L (x &&& (x - 1)) = - sgnL L x
  | 0, x, h0, h1 => by simp at h1; omega
  | L + 1, x, h0, h1 => by
    have hd : (x &&& (x - 1)) / 2 = x / 2 &&& (x - 1) / 2 := Nat.and_div_two
    have hm : (x &&& (x - 1)) % 2 = 0 := by
      have := Nat.and_mod_two_eq_one (a := x) (b := x - 1)
      by_cases h : (x &&& (x - 1)) % 2 = 1
      · have := this.1 h; omega
      · omega
    unfold sgnL
    rw [hd, if_pos hm]
    by_cases hx : x % 2 = 0
    · rw [if_pos hx, show (x - 1) / 2 = x / 2 - 1 by omega, clear_sgn L (x / 2) (by omega) (by rw [Nat.pow_succ] at h1; omega)]
      omega
    · rw [if_neg hx, show (x - 1) / 2 = x / 2 by omega, Nat.and_self]
      omega
theorem sgnL_one : ∀ (L x : Nat), sgnL L x = 1 ∨ sgnL L x = -1
  | 0, _ => .inl rfl
  | L + 1, x => by
    unfold sgnL
    have := sgnL_one L (x / 2)
    split <;> omega
/-- parts and signs behind i edges -/
def partS (m : Nat) (es : List (List Int)) (x : Nat) : Nat → List Int × Int
  | 0 => (upTo m, m)
  | i + 1 =>
    let st := partS m es x i
    let a := st.1.getD ((es.getD i []).getD 0 0).toNat 0
    let b := st.1.getD ((es.getD i []).getD 1 0).toNat 0
    if x / 2 ^ i % 2 = 0 then st else if a = b then st else (relab st.1 a b, st.2 - 1)
theorem partS_ok {m : Nat} {es : List (List Int)} (hE : EdgesB m es) (x : Nat) : ∀ i, i ≤ es.length → PartOk m (partS m es x i).1 (partS m es x i).2
  | 0, _ => PartOk.start m
  | i + 1, h => by
    have ih := partS_ok hE x i (by omega)
    obtain ⟨a, b, he, hab, hb⟩ := hE es[i] (List.getElem_mem (by omega))
    have hg : es.getD i [] = [(a : Int), (b : Int)] := by rw [getD_at (by omega), he]
    unfold partS
    simp only [hg, List.getD_cons_zero, List.getD_cons_succ, Int.toNat_natCast]
    split
    · exact ih
    · split
      · exact ih
      · exact ih.relab (by omega) hb (by assumption)
/-- the coefficients behind N sets of edges -/
def polyN (m : Nat) (es : List (List Int)) : Nat → List Int
  | 0 => List.replicate (m + 1) 0
  | N + 1 =>
    let g := (partS m es N es.length).2.toNat
    (polyN m es N).set g ((polyN m es N).getD g 0 + sgnL es.length N)
theorem polyN_len (m : Nat) (es : List (List Int)) : ∀ N, (polyN m es N).length = m + 1
  | 0 => by simp [polyN]
  | N + 1 => by simp [polyN, polyN_len m es N]
theorem polyN_rng (m : Nat) (es : List (List Int)) : ∀ N g : Nat, -(N : Int) ≤ (polyN m es N).getD g 0 ∧ (polyN m es N).getD g 0 ≤ N
  | 0, g => by
    have : (polyN m es 0).getD g 0 = 0 := by
      unfold polyN
      rw [List.getD_eq_getElem?_getD, List.getElem?_replicate]
      split <;> rfl
    rw [this]; omega
  | N + 1, g => by
    have ih := polyN_rng m es N
    have hs := sgnL_one es.length N
    unfold polyN
    dsimp only
    generalize (partS m es N es.length).2.toNat = q
    rw [List.getD_eq_getElem?_getD, List.getElem?_set]
    split
    · split
      · have := ih q
        simp only [Option.getD_some]
        omega
      · simp; omega
    · have := ih g
      rw [List.getD_eq_getElem?_getD] at this
      omega
end Go.Proofs.Ytbhhihaaiiaagaa
