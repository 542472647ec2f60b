/-
  ChangeSet: the pieces of the program. With it: slices.DeleteFunc over []int64: plain part, and what is owned under it. ChangeSet: plain part. slices.Sort over a rising list with one number behind it. A search by impl.changed$1. slices.DeleteFunc with impl.changed$1. A search by impl.weightCode$1. A search by (impl.Graph).blocked$1. Free colours, the reference's; FreeColours, both sides.
-/
import Derived.Test.YtenemohjmemoiaaZRowChangeSet3
import Derived.Test.YtenemohjmemoiaaZRowChangeSet2
import Derived.Laws.IdiomCopy
import Derived.Lib.SliceRun
import Derived.Test.YtenemohjmemoiaaZRowChangeSet4
import Derived.RegionTactic
import Derived.BigRegion
import Derived.Laws.Bits64
set_option linter.unusedVariables false
set_option linter.unusedSimpArgs false
namespace Go.Proofs.Ytenemohjmemoiaa
open Go.RowKit Go.Sort
theorem zero_i64 (w : World) : (zeroValue 2).run Try.prog w = .ok (.int .i64 0) w := by kernel_rfl
/-- what stays of the first j -/
def keepN (p : Int → Bool) (xs : List Int) (j : Nat) : List Int := (xs.take j).filter fun x => !p x
theorem keepN_yes {p : Int → Bool} {xs : List Int} {j : Nat} (h : j < xs.length) (hp : p xs[j] = true) : keepN p xs (j + 1) = keepN p xs j := by
  unfold keepN; rw [List.take_succ_eq_append_getElem h, List.filter_append]; simp [hp]
theorem keepN_no {p : Int → Bool} {xs : List Int} {j : Nat} (h : j < xs.length) (hp : p xs[j] = false) : keepN p xs (j + 1) = keepN p xs j ++ [xs[j]] := by
  unfold keepN; rw [List.take_succ_eq_append_getElem h, List.filter_append]; simp [hp]
theorem keepN_all {p : Int → Bool} {xs : List Int} : keepN p xs xs.length = xs.filter fun x => !p x := by unfold keepN; rw [List.take_length]
theorem ixP_none {p : Int → Bool} : ∀ {l : List Int} {k : Nat}, ixP p l k = -1 → l.filter (fun x => !p x) = l
  | [], _, _ => rfl
  | x :: r, k, h => by
    unfold ixP at h
    split at h
    · omega
    · rename_i hx
      have hx : p x = false := by simpa using hx
      rw [List.filter_cons, if_pos (by simp [hx]), ixP_none h]
theorem ixP_at {p : Int → Bool} : ∀ {l : List Int} {k i : Nat}, ixP p l k = (i : Int) → k ≤ i ∧ ∃ h : i - k < l.length, p l[i - k] = true ∧ (l.take (i - k)).filter (fun x => !p x) = l.take (i - k)
  | [], _, _, h => by unfold ixP at h; omega
  | x :: r, k, i, h => by
    unfold ixP at h
    split at h
    · rename_i hx
      obtain rfl : k = i := by omega
      simp [hx]
    · rename_i hx
      have hx : p x = false := by simpa using hx
      obtain ⟨h1, h2, h3, h4⟩ := ixP_at h
      obtain ⟨q, rfl⟩ : ∃ q, i = k + 1 + q := ⟨i - (k + 1), by omega⟩
      have e1 : k + 1 + q - (k + 1) = q := by omega
      have e2 : k + 1 + q - k = q + 1 := by omega
      simp only [e1] at h2 h3 h4
      refine ⟨by omega, by simp [e2]; exact h2, ?_, ?_⟩
      · simp only [e2, List.getElem_cons_succ]; exact h3
      · simp only [e2, List.take_succ_cons, List.filter_cons, hx, Bool.not_false, if_true, h4]
/-- the row behind the first j, of which k stay -/
structure DelI (p : Int → Bool) (xs : List Int) (j k : Nat) (ys : List Int) : Prop where
  len : ys.length = xs.length
  k_eq : k = (keepN p xs j).length
  lt : k < j
  jle : j ≤ xs.length
  head : ys.take k = keepN p xs j
  tail : ys.drop j = xs.drop j
theorem DelI.start {p : Int → Bool} {xs : List Int} {i : Nat} (h : ixP p xs 0 = (i : Int)) : DelI p xs (i + 1) i xs := by
  obtain ⟨_, h2, h3, h4⟩ := ixP_at h
  simp only [Nat.sub_zero] at h2 h3 h4
  have hk : keepN p xs (i + 1) = xs.take i := by rw [keepN_yes h2 h3]; exact h4
  exact ⟨rfl, by rw [hk]; simp; omega, by omega, by omega, hk.symm, rfl⟩
theorem DelI.get {p : Int → Bool} {xs ys : List Int} {j k : Nat} (h : DelI p xs j k ys) (hj : j < xs.length) : ys[j]? = some xs[j] := by
  have := congrArg (fun l => l[0]?) h.tail
  simp only [List.getElem?_drop, Nat.add_zero] at this
  rw [this, List.getElem?_eq_getElem hj]
theorem DelI.skip {p : Int → Bool} {xs ys : List Int} {j k : Nat} (h : DelI p xs j k ys) (hj : j < xs.length) (hp : p xs[j] = true) : DelI p xs (j + 1) k ys := by
  refine ⟨h.len, by rw [keepN_yes hj hp]; exact h.k_eq, by have := h.lt; omega, by omega, by rw [keepN_yes hj hp]; exact h.head, ?_⟩
  have := congrArg (List.drop 1) h.tail
  simpa [List.drop_drop, Nat.add_comm] using this
theorem DelI.keep {p : Int → Bool} {xs ys : List Int} {j k : Nat} (h : DelI p xs j k ys) (hj : j < xs.length) (hp : p xs[j] = false) : DelI p xs (j + 1) (k + 1) (ys.set k xs[j]) := by
  have hk := h.lt
  have hl := h.len
  refine ⟨by simp [hl], by rw [keepN_no hj hp]; simp [h.k_eq], by omega, by omega, ?_, ?_⟩
  · rw [keepN_no hj hp, ← h.head, List.take_succ_eq_append_getElem (by simp; omega), List.take_set_of_le (by omega)]
    simp
  · rw [List.drop_set_of_lt (by omega)]
    have := congrArg (List.drop 1) h.tail
    simpa [List.drop_drop, Nat.add_comm] using this
theorem DelI.done {p : Int → Bool} {xs ys : List Int} {k : Nat} (h : DelI p xs xs.length k ys) : ys.take k = xs.filter (fun x => !p x) ∧ k < xs.length ∧ k = (xs.filter (fun x => !p x)).length := by
  have := h.head
  have h2 := h.k_eq
  rw [keepN_all] at this h2
  exact ⟨this, h.lt, h2⟩
theorem OwnI.cut {w : World} {base g n c : Nat} {ys : List Int} (h : OwnI w base (.slice (some ⟨g, 0, none⟩) n c) ys) {k : Nat} (hk : k ≤ ys.length) : OwnI w base (.slice (some ⟨g, 0, none⟩) k c) (ys.take k) := by
  have hl : (ys.take k).length = k := by simp; omega
  rcases h.2 with ⟨h1, _⟩ | ⟨g', cap, cur, h1, h2, h3, h4, h5, h6, h7⟩
  · simp at h1
  · simp only [Value.slice.injEq, Option.some.injEq, Addr.mk.injEq] at h1
    obtain ⟨⟨rfl, _, _⟩, hn, rfl⟩ := h1
    refine ⟨by simp [i64s], .inr ⟨g, c, cur, by rw [hl], h2, h3, by rw [hl]; omega, h5, h6, ?_⟩⟩
    have := congrArg (List.take k) h7
    rw [hl]
    rw [List.take_take] at this
    simp only [Nat.mul_one] at this ⊢
    rw [Nat.min_eq_left hk] at this
    rw [this]
    simp [i64s, List.map_take]
theorem OwnI.fill {base g n c : Nat} : ∀ (zs : List Int) (o : Nat) (w : World) (ys : List Int), OwnI w base (.slice (some ⟨g, 0, none⟩) n c) ys → ∃ ys', OwnI (w.setCells g o (i64s zs)) base (.slice (some ⟨g, 0, none⟩) n c) ys' ∧ ys'.length = ys.length ∧ ys'.take o = ys.take o
  | [], _, w, ys, h => ⟨ys, h, rfl, rfl⟩
  | z :: r, o, w, ys, h => by
    obtain ⟨ys', h1, h2, h3⟩ := OwnI.fill r (o + 1) _ _ (h.set o z)
    refine ⟨ys', h1, by simpa using h2, ?_⟩
    have := congrArg (List.take o) h3
    rw [List.take_take, List.take_take, Nat.min_eq_left (by omega)] at this
    rw [this, List.take_set_of_le (Nat.le_refl _)]
theorem below_setCells {B g : Nat} (hg : B ≤ g) : ∀ (vs : List Value) (o : Nat) (a w : World), Below B a w → Below B a (w.setCells g o vs)
  | [], _, _, _, h => h
  | v :: r, o, a, w, h => below_setCells hg r (o + 1) a _ (h.setCell hg _)
end Go.Proofs.Ytenemohjmemoiaa
namespace Go.Proofs.Ytenemohjmemoiaa
open Go.RowKit Go.Sort
/-- a number put into a list that rises -/
def putL (n : Int) : List Int → List Int
  | [] => [n]
  | x :: r => if x < n then x :: putL n r else if x = n then x :: r else n :: x :: r
theorem putL_low {n : Int} : ∀ {l : List Int}, (∀ y ∈ l, y < n) → putL n l = l ++ [n]
  | [], _ => rfl
  | x :: r, h => by
    unfold putL
    rw [if_pos (h x (by simp)), putL_low (fun y hy => h y (by simp [hy]))]; rfl
theorem putL_at {n : Int} : ∀ {a b : List Int}, (∀ y ∈ a, y < n) → (∀ y ∈ b, n < y) → putL n (a ++ b) = a ++ n :: b
  | [], [], _, _ => rfl
  | [], x :: r, _, h => by
    have := h x (by simp)
    simp only [List.nil_append]
    unfold putL
    rw [if_neg (by omega), if_neg (by omega)]
  | x :: r, b, h, hb => by
    rw [List.cons_append]
    unfold putL
    rw [if_pos (h x (by simp)), putL_at (fun y hy => h y (by simp [hy])) hb]; rfl
theorem putL_more {n x : Int} : ∀ {l : List Int}, (∃ y ∈ l, n ≤ y) → putL n (l ++ [x]) = putL n l ++ [x]
  | [], h => by obtain ⟨y, hy, _⟩ := h; simp at hy
  | z :: r, h => by
    rw [List.cons_append]
    unfold putL
    by_cases hz : z < n
    · rw [if_pos hz, if_pos hz, putL_more (by
        obtain ⟨y, hy, hn⟩ := h
        simp only [List.mem_cons] at hy
        rcases hy with rfl | hy
        · omega
        · exact ⟨y, hy, hn⟩)]; rfl
    · rw [if_neg hz, if_neg hz]
      split <;> rfl
theorem putL_gt {n x : Int} {l : List Int} (h : ∀ y ∈ l, y < n) (hx : n < x) : putL n (l ++ [x]) = l ++ [n, x] := by
  rw [putL_at h (by simpa using hx)]
theorem putL_eq {n : Int} : ∀ {l : List Int}, (∀ y ∈ l, y < n) → putL n (l ++ [n]) = l ++ [n]
  | [], _ => by simp [putL]
  | z :: r, h => by
    rw [List.cons_append]
    unfold putL
    rw [if_pos (h z (by simp)), putL_eq (fun y hy => h y (by simp [hy]))]
theorem putL_len (n : Int) : ∀ l : List Int, (putL n l).length ≤ l.length + 1
  | [] => by simp [putL]
  | x :: r => by
    have := putL_len n r
    unfold putL
    split
    · simp; omega
    · split <;> simp
theorem riseN_pair {lo hi : Int} {e : List Int} : ∀ {k : Nat}, k ≤ e.length → riseN lo hi e k = true → (e.take k).Pairwise (· < ·) ∧ (∀ y ∈ e.take k, lo ≤ y ∧ y ≤ hi) ∧ (∀ y ∈ e.take k, k ≠ 0 → y ≤ e.getD (k - 1) 0)
  | 0, _, _ => by simp
  | k + 1, hk, h => by
    unfold riseN at h
    rw [Bool.and_eq_true, Bool.and_eq_true] at h
    obtain ⟨h1, h2, h3⟩ := riseN_pair (by omega) h.1
    have hr := inR_iff.1 h.2.1
    have ht : e.take (k + 1) = e.take k ++ [e.getD k 0] := by rw [List.take_succ_eq_append_getElem (by omega), getD_at (by omega)]
    have hlt : ∀ y ∈ e.take k, y < e.getD k 0 := by
      intro y hy
      have hk0 : k ≠ 0 := by intro h; subst h; simp at hy
      have := h3 y hy hk0
      have h4 := h.2.2
      rw [decide_eq_false hk0, Bool.false_or, decide_eq_true_eq] at h4
      omega
    rw [ht]
    refine ⟨?_, ?_, ?_⟩
    · rw [List.pairwise_append]
      refine ⟨h1, by simp, fun y hy z hz => ?_⟩
      simp only [List.mem_singleton] at hz
      subst hz
      exact hlt y hy
    · intro y hy
      simp only [List.mem_append, List.mem_singleton] at hy
      rcases hy with hy | rfl
      · exact h2 y hy
      · exact hr
    · intro y hy _
      rw [Nat.add_sub_cancel]
      simp only [List.mem_append, List.mem_singleton] at hy
      rcases hy with hy | rfl
      · have := hlt y hy; omega
      · omega
theorem rise_all {lo hi : Int} {e : List Int} (h : riseN lo hi e e.length = true) : e.Pairwise (· < ·) ∧ ∀ y ∈ e, lo ≤ y ∧ y ≤ hi := by
  have := riseN_pair (Nat.le_refl _) h
  rw [List.take_length] at this
  exact ⟨this.1, this.2.1⟩
theorem rise_len {m : Nat} {e : List Int} (h : riseN 0 ((m : Int) - 1) e e.length = true) : e.length ≤ m := by
  have ⟨h1, h2⟩ := rise_all h
  have key : ∀ (l : List Int) (lo : Nat), l.Pairwise (· < ·) → (∀ y ∈ l, (lo : Int) ≤ y ∧ y < m) → lo + l.length ≤ max lo m := by
    intro l
    induction l with
    | nil => intro lo _ _; simp; omega
    | cons x r ih =>
      intro lo hp hb
      rw [List.pairwise_cons] at hp
      have hx := hb x (by simp)
      obtain ⟨a, rfl⟩ := Int.eq_ofNat_of_zero_le (show 0 ≤ x by omega)
      have := ih (a + 1) hp.2 (fun y hy => by
        have := hp.1 y hy
        have := hb y (by simp [hy])
        omega)
      simp only [List.length_cons]
      omega
  have := key e 0 h1 (fun y hy => by have := h2 y hy; omega)
  omega
/-- a rising list parted by a number that is not in it -/
theorem rise_cut {n : Int} {l : List Int} (h : l.Pairwise (· < ·)) {k : Nat} (hk : k < l.length) (hn : n < l[k]) : ∀ y ∈ l.drop k, n < y := by
  intro y hy
  rw [List.drop_eq_getElem_cons hk, List.mem_cons] at hy
  rcases hy with rfl | hy
  · exact hn
  · obtain ⟨i, hi, rfl⟩ := List.getElem_of_mem hy
    rw [List.getElem_drop]
    have := List.pairwise_iff_getElem.1 h k (k + 1 + i) hk (by simp at hi; omega) (by omega)
    omega
theorem rise_low {n : Int} {l : List Int} (h : l.Pairwise (· < ·)) {k : Nat} (hk : k < l.length) (hn : l[k] < n) : ∀ y ∈ l.take (k + 1), y < n := by
  intro y hy
  obtain ⟨i, hi, rfl⟩ := List.getElem_of_mem hy
  rw [List.getElem_take]
  simp only [List.length_take] at hi
  by_cases e : i = k
  · subst e; exact hn
  · have := List.pairwise_iff_getElem.1 h i k (by omega) hk (by omega)
    omega
def dropN (set : List Int) (node : Int) : List Int := set.filter fun x => !decide (x = node)
/-- a neighbour of the node is in the set -/
def blockB (es : List (List Int)) (set : List Int) (node : Int) : Bool := (neighL es node).any fun o => decide (o ∈ set)
def nearAny (es : List (List Int)) (l : List Int) (node : Int) : Bool := l.any fun o => nearB es node o
theorem block_law {m : Nat} {es : List (List Int)} {set : List Int} {node : Int} (hE : EdgesB m es) : blockB es set node = nearAny es (dropN set node) node := by
  have hmem : ∀ o, o ∈ neighL es node ↔ nearB es node o = true := by
    intro o
    unfold neighL nearB
    rw [List.mem_flatMap, List.any_eq_true]
    constructor
    · rintro ⟨e, he, ho⟩
      obtain ⟨p, q, rfl, hpq, _⟩ := hE e he
      exact ⟨_, he, (neighE_mem hpq).1 ho⟩
    · rintro ⟨e, he, ho⟩
      obtain ⟨p, q, rfl, hpq, _⟩ := hE e he
      exact ⟨_, he, (neighE_mem hpq).2 ho⟩
  have hself : nearB es node node = false := by
    unfold nearB
    rw [List.any_eq_false]
    intro e he h
    obtain ⟨p, q, rfl, hpq, _⟩ := hE e he
    rw [nearE_two] at h
    simp at h
    omega
  unfold blockB nearAny dropN
  rw [Bool.eq_iff_iff, List.any_eq_true, List.any_eq_true]
  constructor
  · rintro ⟨o, h1, h2⟩
    have h3 := (hmem o).1 h1
    refine ⟨o, ?_, h3⟩
    rw [List.mem_filter]
    refine ⟨of_decide_eq_true h2, ?_⟩
    rw [Bool.not_eq_true', decide_eq_false_iff_not]
    intro e; subst e; rw [hself] at h3; exact absurd h3 (by simp)
  · rintro ⟨o, h1, h2⟩
    rw [List.mem_filter] at h1
    exact ⟨o, (hmem o).2 h2, decide_eq_true h1.1⟩
def chgL (es : List (List Int)) (set : List Int) (node draw : Int) : List Int :=
  if draw = 0 then dropN set node else if nearAny es (dropN set node) node = true then dropN set node else putL node (dropN set node)
theorem dropN_pair {set : List Int} {node : Int} (h : set.Pairwise (· < ·)) : (dropN set node).Pairwise (· < ·) := h.filter _
theorem dropN_not (set : List Int) (node : Int) : node ∉ dropN set node := by unfold dropN; rw [List.mem_filter]; simp
end Go.Proofs.Ytenemohjmemoiaa
namespace Go.Proofs.Ytenemohjmemoiaa
open Go.RowKit Go.Sort

theorem Less_q {x y : Int} {q : Bool} (h : decide (x < y) = q) (w : World) : Calls Try.prog 161 #[.int .i64 x, .int .i64 y] w fun e w' => e = .returned (.bool q) ∧ Below w.heap.size w w' := by
  have H := Lib.hid h
  clear h
  go_enter Try.func161, Try.ntmps161
  go_wp2_with (go_at_call 154; refine (isNaN_any _ _).mono ?_; rintro e w' ⟨rfl, rfl⟩)
  go_ret
  exact ⟨rb H.out, Below.refl _ _⟩
set_option maxRecDepth 100000 in
theorem bitsLen64_any (n : Nat) (w : World) (hn : n ≤ 12) : Calls Try.prog 165 #[.int .u64 n] w fun e w' => ∃ L : Int, e = .returned (.int .i64 L) ∧ w = w' := by
  obtain h | h | h | h | h | h | h | h | h | h | h | h | h : n = 0 ∨ n = 1 ∨ n = 2 ∨ n = 3 ∨ n = 4 ∨ n = 5 ∨ n = 6 ∨ n = 7 ∨ n = 8 ∨ n = 9 ∨ n = 10 ∨ n = 11 ∨ n = 12 := by omega
  all_goals subst h
  all_goals clear hn
  all_goals
    go_enter Try.func165, Try.ntmps165
    go_wp2
    go_ret
    exact ⟨_, rfl, rfl⟩
theorem bitsLen_any (n : Nat) (w : World) (hn : n ≤ 12) : Calls Try.prog 152 #[.int .u64 n] w fun e w' => ∃ L : Int, e = .returned (.int .i64 L) ∧ w = w' := by
  go_enter Try.func152, Try.ntmps152
  go_wp2_with fail
  refine (bitsLen64_any n w hn).mono ?_
  rintro e w' ⟨L, rfl, rfl⟩
  go_wp2
  go_ret
  exact ⟨L, rfl, rfl⟩
theorem putL_split {out : List Int} {n : Int} {q : Nat} (h1 : ∀ y ∈ out.take q, y < n) (h2 : ∀ y ∈ out.drop q, n < y) : out.take q ++ n :: out.drop q = putL n out := by
  rw [← putL_at h1 h2, List.take_append_drop]
theorem swap_ins {out : List Int} {n : Int} {z : Nat} (h : z < out.length) : ((out.take (z + 1) ++ n :: out.drop (z + 1)).set (z + 1) out[z]).set z n = out.take z ++ n :: out.drop z := by
  rw [List.take_succ_eq_append_getElem h, List.drop_eq_getElem_cons h, List.append_assoc]
  have l1 : (out.take z).length = z := by rw [List.length_take]; omega
  rw [List.set_append_right _ _ (by omega), List.set_append_right _ _ (by omega), l1]
  simp
theorem ins_len {out : List Int} {n : Int} {j : Nat} (h : j ≤ out.length) : (out.take j ++ n :: out.drop j).length = out.length + 1 := by simp; omega
theorem ins_at {out : List Int} {n : Int} {j : Nat} (h : j ≤ out.length) : (out.take j ++ n :: out.drop j)[j]? = some n := by
  rw [List.getElem?_append_right (by simp; omega)]
  simp [Nat.min_eq_left h]
theorem ins_pre {out : List Int} {n : Int} {z : Nat} (h : z < out.length) : (out.take (z + 1) ++ n :: out.drop (z + 1))[z]? = some out[z] := by
  rw [List.getElem?_append_left (by simp; omega), List.getElem?_take_of_lt (by omega), List.getElem?_eq_getElem h]
theorem OwnI.base_le {w : World} {base g n c : Nat} {xs : List Int} (h : OwnI w base (.slice (some ⟨g, 0, none⟩) n c) xs) : base ≤ w.heap.size := by
  have := h.lt g rfl
  omega
theorem OwnI.cell' {w : World} {base g n c : Nat} {xs : List Int} (h : OwnI w base (.slice (some ⟨g, 0, none⟩) n c) xs) {i : Nat} {x : Int} (hi : xs[i]? = some x) : w.cell? ⟨g, i, none⟩ = some (.int .i64 x) := by
  obtain ⟨hl, he⟩ := List.getElem?_eq_some_iff.1 hi
  rw [h.cell hl, he]
set_option maxRecDepth 100000 in
set_option maxHeartbeats 4000000 in
theorem insert_any {out : List Int} {n : Int} {g c : Nat} (base L : Nat) (w : World) (ho : OwnI w base (.slice (some ⟨g, 0, none⟩) L c) (out ++ [n])) (hL : L = out.length + 1) (hp : out.Pairwise (· < ·)) (hn : n ∉ out) (hl : out.length ≤ 11) (hg : base ≤ g) :
    Calls Try.prog 155 #[.slice (some ⟨g, 0, none⟩) L c, .int .i64 0, .int .i64 L] w fun e w' => e = .returned (.tuple #[]) ∧ OwnI w' base (.slice (some ⟨g, 0, none⟩) L c) (putL n out) ∧ Below base w w' := by
  have HP := Lib.hid hp
  have HNO := Lib.hid hn
  have HO := Lib.hid ho
  have hL1 : L ≤ out.length + 1 := by omega
  have hL2 : out.length + 1 ≤ L := by omega
  clear hp hn ho hL
  go_enter Try.func155, Try.ntmps155
  go_wp2
  go_loopw [6, 7] (fun i _ wr => ∃ (k : Nat) (ys : List Int), 1 ≤ k ∧ k ≤ L ∧ i = .int .i64 k ∧ Hid (k ≤ out.length → ys = out ++ [n]) ∧ Hid (k = L → ys = putL n out) ∧ OwnI wr base (.slice (some ⟨g, 0, none⟩) L c) ys ∧ Below base w wr) (fun i _ _ => L - (intOf i).toNat)
  case atStart => exact ⟨1, out ++ [n], Nat.le_refl _, by omega, rfl, Lib.hid (fun _ => rfl), Lib.hid (fun h => by
    have : out = [] := by rw [← List.length_eq_zero_iff]; omega
    subst this; rfl), HO.out, Below.refl _ _⟩
  case round =>
    obtain ⟨k, ys, hk1, hkL, rfl, hy1, hy2, hown, hbw⟩ := hrel
    obtain ⟨wo, hwo⟩ : ∃ wo : World, wo = wr := ⟨_, rfl⟩
    subst hwo
    by_cases hlt : k < L
    · have hkl : k ≤ out.length := by omega
      have hys := hy1.out hkl
      subst hys
      have HOW := Lib.hid hown
      have HBW := Lib.hid hbw
      clear hown hbw hy1 hy2
      by_cases hin : k < out.length
      · go_wp2
        go_loopw [7] (fun j wr => j = .int .i64 k ∧ OwnI wr base (.slice (some ⟨g, 0, none⟩) L c) (out ++ [n]) ∧ Below base w wr) (fun _ _ => 0)
        case atStart => exact ⟨rfl, HOW.out, HBW.out⟩
        case round =>
          obtain ⟨rfl, hown, hbw⟩ := hrel
          obtain ⟨z, hz⟩ : ∃ z, k = z + 1 := ⟨k - 1, by omega⟩
          have hzl : z < out.length := by omega
          have gz : (out ++ [n])[z]? = some out[z] := by rw [List.getElem?_append_left hzl, List.getElem?_eq_getElem hzl]
          have gk : (out ++ [n])[k]? = some out[k] := by rw [List.getElem?_append_left hin, List.getElem?_eq_getElem hin]
          have hlt2 : out[z] < out[k] := List.pairwise_iff_getElem.1 HP.out z k hzl hin (by omega)
          have cz := hown.cell' gz
          have ck := hown.cell' gk
          have hd : decide (out[k] < out[z]) = false := by rw [decide_eq_false_iff_not]; omega
          generalize out[z] = Z at cz hd
          generalize out[k] = K at ck hd
          have HD := Lib.hid hd
          have kz := fun d os => cell_regrown cz d os
          have kk := fun d os => cell_regrown ck d os
          have r1 : IntKind.i64.wrap ((k : Int) - 1) = (z : Int) := by rw [IntWalk.i64_in _ (by omega)]; omega
          have i1 : (0 : Int) < (k : Int) := by omega
          have j1 : 0 < k := by omega
          have i2 : (0 : Int) ≤ (k : Int) := by omega
          have i3 : (k : Int) < (L : Int) := by omega
          have i4 : (0 : Int) ≤ (z : Int) := by omega
          have i5 : (z : Int) < (L : Int) := by omega
          have HB := Lib.hid hbw
          have HO2 := Lib.hid hown
          clear hlt2 hd hz hown hbw gz gk HOW HBW
          go_wp2_with fail
          refine wp_region_quiet_below (by kernel_rfl) (by kernel_rfl) ?_
          repeat (first | go_big_quiet_skip | quiet_step (first | (with_reducible exact Calls.regrown_of (Less_q HD.out _))))
          refine wpQuiet_nil ?_
          intro _ hw'
          obtain ⟨⟨dq, osq⟩, hw''⟩ := hw'
          subst hw''
          have bq0 := below_regrown wr dq osq
          generalize grow (redrawn wr dq) osq = wq at bq0 ⊢
          have bz := HB.out.size
          clear kz kk cz ck
          go_wp2
          go_roundw
          case rel => exact ⟨k + 1, out ++ [n], by omega, by omega, by go_num, Lib.hid (fun _ => rfl), Lib.hid (fun h => by omega), HO2.out.below bq0, HB.out.trans (bq0.mono HO2.out.base_le)⟩
          case measure => simp [intOf]; omega
      · obtain rfl : k = out.length := by omega
        go_wp2
        go_loopw [7] (fun j wr => ∃ q : Nat, q ≤ out.length ∧ j = .int .i64 q ∧ Hid (∀ y ∈ out.drop q, n < y) ∧ OwnI wr base (.slice (some ⟨g, 0, none⟩) L c) (out.take q ++ n :: out.drop q) ∧ Below base w wr) (fun j _ => (intOf j).toNat)
        case atStart => exact ⟨out.length, Nat.le_refl _, rfl, Lib.hid (by rw [List.drop_length]; simp), by rw [List.take_length, List.drop_length]; exact HOW.out, HBW.out⟩
        case round =>
          clear HOW HBW
          obtain ⟨q, hq, rfl, hgt, hown, hbw⟩ := hrel
          by_cases hq0 : 0 < q
          · obtain ⟨z, hz⟩ : ∃ z, q = z + 1 := ⟨q - 1, by omega⟩
            have hzl : z < out.length := by omega
            have gz := ins_pre (n := n) hzl
            have gk := ins_at (out := out) (n := n) hq
            have hsw := swap_ins (n := n) hzl
            rw [← hz] at gz hsw
            have cz := hown.cell' gz
            have ck := hown.cell' gk
            have hne : out[z] ≠ n := fun h => HNO.out (h ▸ List.getElem_mem hzl)
            have hlow : out[z] < n → ∀ y ∈ out.take (z + 1), y < n := rise_low HP.out hzl
            have hcut : n < out[z] → ∀ y ∈ out.drop z, n < y := rise_cut HP.out hzl
            generalize out[z] = Z at cz hsw hne hlow hcut
            generalize hd : decide (n < Z) = d
            have HD := Lib.hid hd
            have kz := fun d os => cell_regrown cz d os
            have kk := fun d os => cell_regrown ck d os
            have r1 : IntKind.i64.wrap ((q : Int) - 1) = (z : Int) := by rw [IntWalk.i64_in _ (by omega)]; omega
            have i1 : (0 : Int) < (q : Int) := by omega
            have i2 : (0 : Int) ≤ (q : Int) := by omega
            have i3 : (q : Int) < (L : Int) := by omega
            have i4 : (0 : Int) ≤ (z : Int) := by omega
            have i5 : (z : Int) < (L : Int) := by omega
            have HB := Lib.hid hbw
            have HO2 := Lib.hid hown
            have HZ := Lib.hid hz
            have HSW := Lib.hid hsw
            have HLOW := Lib.hid hlow
            have HCUT := Lib.hid hcut
            have HNE := Lib.hid hne
            clear hd hz hown hbw gz gk hsw hlow hcut hne
            cases d
            · go_wp2_with fail
              refine wp_region_quiet_below (by kernel_rfl) (by kernel_rfl) ?_
              repeat (first | go_big_quiet_skip | quiet_step (first | (with_reducible exact Calls.regrown_of (Less_q HD.out _))))
              refine wpQuiet_nil ?_
              intro _ hw'
              obtain ⟨⟨dq, osq⟩, hw''⟩ := hw'
              subst hw''
              have bq0 := below_regrown wr dq osq
              generalize grow (redrawn wr dq) osq = wq at bq0 ⊢
              clear kz kk cz ck
              go_wp2
              go_roundw
              case rel => exact ⟨out.length + 1, out.take q ++ n :: out.drop q, by omega, by omega, by go_num, Lib.hid (fun h => by omega), Lib.hid (fun _ => by
                have hlt3 : Z < n := by
                  have h1 := HD.out
                  rw [decide_eq_false_iff_not] at h1
                  have h2 := HNE.out
                  omega
                exact putL_split (by rw [HZ.out]; exact HLOW.out hlt3) hgt.out), HO2.out.below bq0, HB.out.trans (bq0.mono HO2.out.base_le)⟩
              case measure => simp [intOf]; omega
            · go_wp2_with fail
              refine wp_region_quiet_below (by kernel_rfl) (by kernel_rfl) ?_
              repeat (first | go_big_quiet_skip | quiet_step (first | (with_reducible exact Calls.regrown_of (Less_q HD.out _))))
              refine wpQuiet_nil ?_
              intro _ hw'
              obtain ⟨⟨dq, osq⟩, hw''⟩ := hw'
              subst hw''
              have bq0 := below_regrown wr dq osq
              generalize grow (redrawn wr dq) osq = wq at bq0 ⊢
              have HO3 := Lib.hid (HO2.out.below bq0)
              have HB3 := Lib.hid (HB.out.trans (bq0.mono HO2.out.base_le))
              have cz' := bq0.cell (p := ⟨g, z, none⟩) (cell_lt cz)
              have ck' := bq0.cell (p := ⟨g, q, none⟩) (cell_lt ck)
              rw [cz] at cz'
              rw [ck] at ck'
              clear kz kk cz ck bq0 HO2 HB
              have fq := HO3.out.free q
              have fz := HO3.out.free z
              have OS := Lib.hid ((HO3.out.set q Z).set z n)
              have BS := Lib.hid ((HB3.out.setCell (p := ⟨g, q, none⟩) hg (.int .i64 Z)).setCell (p := ⟨g, z, none⟩) hg (.int .i64 n))
              have hzq : z ≠ q := by have := HZ.out; omega
              go_wp2_with fail
              go_region
              go_wp2
              go_roundw
              case rel => exact ⟨z, by omega, by go_num, Lib.hid (HCUT.out (of_decide_eq_true HD.out)), by rw [← HSW.out]; exact OS.out.below (Below.drew (Below.refl _ _)), Below.drew BS.out⟩
              case measure => have := HZ.out; simp [intOf]; omega
          · obtain rfl : q = 0 := by omega
            have HO2 := Lib.hid hown
            have HB := Lib.hid hbw
            clear hown hbw
            go_wp2_with fail
            refine wp_region_quiet_below (by kernel_rfl) (by kernel_rfl) ?_
            repeat (first | go_big_quiet_skip | quiet_step (fail))
            refine wpQuiet_nil ?_
            intro _ hw'
            obtain ⟨⟨dq, osq⟩, hw''⟩ := hw'
            subst hw''
            have bq0 := below_regrown wr dq osq
            generalize grow (redrawn wr dq) osq = wq at bq0 ⊢
            go_wp2
            go_roundw
            case rel => exact ⟨out.length + 1, out.take 0 ++ n :: out.drop 0, by omega, by omega, by go_num, Lib.hid (fun h => by omega), Lib.hid (fun _ => putL_split (by simp) hgt.out), HO2.out.below bq0, HB.out.trans (bq0.mono HO2.out.base_le)⟩
            case measure => simp [intOf]; omega
    · obtain rfl : k = L := by omega
      have hys := hy2.out rfl
      subst hys
      go_wp2
      go_end0
      exact ⟨rfl, hown, hbw⟩
set_option maxRecDepth 100000 in
set_option maxHeartbeats 1000000 in
theorem pdq_any {out : List Int} {n : Int} {g c : Nat} (base L : Nat) (b : Int) (w : World) (ho : OwnI w base (.slice (some ⟨g, 0, none⟩) L c) (out ++ [n])) (hL : L = out.length + 1) (hp : out.Pairwise (· < ·)) (hn : n ∉ out) (hl : out.length ≤ 11) (hg : base ≤ g) :
    Calls Try.prog 151 #[.slice (some ⟨g, 0, none⟩) L c, .int .i64 0, .int .i64 L, .int .i64 b] w fun e w' => e = .returned (.tuple #[]) ∧ OwnI w' base (.slice (some ⟨g, 0, none⟩) L c) (putL n out) ∧ Below base w w' := by
  have HP := Lib.hid hp
  have HNO := Lib.hid hn
  have HO := Lib.hid ho
  have r1 : IntKind.i64.wrap ((L : Int) - 0) = (L : Int) := by rw [IntWalk.i64_in _ (by omega)]; omega
  have i1 : (L : Int) ≤ 12 := by omega
  have HL := Lib.hid hL
  clear hp hn ho hL
  go_enter Try.func151, Try.ntmps151
  go_wp2
  go_loopw [1, 2, 3, 8, 9, 10, 11, 12, 13, 14, 15, 16, 17, 18] (fun a b _ bal par _ _ _ _ _ _ _ _ _ wr => a = .int .i64 0 ∧ b = .int .i64 L ∧ wr = w) (fun _ _ _ _ _ _ _ _ _ _ _ _ _ _ _ => 0)
  case atStart => exact ⟨rfl, rfl, rfl⟩
  case round =>
    obtain ⟨rfl, rfl, rfl⟩ := hrel
    go_wp2_with fail
    refine (insert_any base L _ HO.out HL.out HP.out HNO.out hl hg).mono ?_
    rintro e w2 ⟨rfl, o2, b2⟩
    go_wp2
    refine bodyPost_ret (results_none (by exact Try.results151) _ _ _) rfl ?_
    exact ⟨rfl, o2, b2⟩
set_option maxRecDepth 100000 in
set_option maxHeartbeats 1000000 in
theorem Sort_any {out : List Int} {n : Int} {g c : Nat} (base L : Nat) (w : World) (ho : OwnI w base (.slice (some ⟨g, 0, none⟩) L c) (out ++ [n])) (hL : L = out.length + 1) (hp : out.Pairwise (· < ·)) (hn : n ∉ out) (hl : out.length ≤ 11) (hg : base ≤ g) :
    Calls Try.prog 128 #[.slice (some ⟨g, 0, none⟩) L c] w fun e w' => e = .returned (.tuple #[]) ∧ OwnI w' base (.slice (some ⟨g, 0, none⟩) L c) (putL n out) ∧ Below base w w' := by
  have HP := Lib.hid hp
  have HNO := Lib.hid hn
  have HO := Lib.hid ho
  have hcv : IntKind.u64.wrap (L : Int) = (L : Int) := by rw [IntKind.wrap_u64]; omega
  have hL12 : L ≤ 12 := by omega
  have HL := Lib.hid hL
  clear hp hn ho hL
  go_enter Try.func128, Try.ntmps128
  go_wp2_with fail
  refine (bitsLen_any L _ hL12).mono ?_
  rintro e w2 ⟨b, rfl, rfl⟩
  go_wp2_with fail
  refine (pdq_any base L b _ HO.out HL.out HP.out HNO.out hl hg).mono ?_
  rintro e w2 ⟨rfl, o2, b2⟩
  go_wp2
  go_end0
  exact ⟨rfl, o2, b2⟩
end Go.Proofs.Ytenemohjmemoiaa
namespace Go.Proofs.Ytenemohjmemoiaa
open Go.RowKit Go.Sort
set_option maxHeartbeats 1000000 in
theorem IndexFuncChg_any {u : Value} {xs : List Int} (cap0 : Value) (p : Int → Bool) (w : World) (ha : SlI w u xs)
    (hf : ∀ W x, Below w.heap.size w W → x ∈ xs → Calls Try.prog 127 #[.int .i64 x, cap0] W fun e w' => e = .returned (.bool (p x)) ∧ Below W.heap.size W w') :
    Calls Try.prog 146 #[u, .func (.func 127) #[] #[cap0]] w fun e w' => e = .returned (.int .i64 (ixP p xs 0)) ∧ Below w.heap.size w w' := by
  obtain ⟨a, ca, rfl, hca, hca', ha⟩ := ha
  unfold maxLen at hca'
  have HF := Lib.hid hf
  clear hf
  go_enter Try.func146, Try.ntmps146
  go_wp2
  go_loopw [5, 8] (fun _ i wr => ∃ k : Nat, k ≤ xs.length ∧ i = .int .i64 k ∧ Hid (ixP p xs 0 = ixP p (xs.drop k) k) ∧ Below w.heap.size w wr) (fun _ i _ => xs.length - (intOf i).toNat)
  case atStart => exact ⟨0, Nat.zero_le _, rfl, rfl, Below.refl _ _⟩
  case round =>
    obtain ⟨k, hk, rfl, hno, hbw⟩ := hrel
    by_cases hlt : k < xs.length
    · obtain ⟨b, off, rfl, gc⟩ := (ha.below hbw).one (i64s_get hlt)
      have i1 : (k : Int) < (xs.length : Int) := by omega
      have hst := ixP_step (p := p) hlt
      have HS := Lib.hid hst
      clear hst
      generalize hp : p xs[k] = P
      have HP := Lib.hid hp
      clear hp
      cases P
      · go_wp2_with fail
        refine (HF.out _ xs[k] hbw (List.getElem_mem hlt)).mono ?_
        rintro e w2 ⟨rfl, b2⟩
        rw [HP.out]
        have bq := hbw.trans (b2.mono hbw.size)
        go_wp2
        go_roundw
        case rel => exact ⟨k + 1, by omega, by go_num, by unfold Hid at *; rw [hno, HS, HP]; rfl, bq⟩
        case measure => simp [intOf]; omega
      · go_wp2_with fail
        refine (HF.out _ xs[k] hbw (List.getElem_mem hlt)).mono ?_
        rintro e w2 ⟨rfl, b2⟩
        rw [HP.out]
        have bq := hbw.trans (b2.mono hbw.size)
        go_wp2
        go_ret
        exact ⟨ri (by rw [hno.out, HS.out, HP.out]; rfl), bq⟩
    · obtain rfl : k = xs.length := by omega
      go_wp2
      go_ret
      exact ⟨ri (by rw [hno.out]; simp [ixP]), hbw⟩
end Go.Proofs.Ytenemohjmemoiaa
namespace Go.Proofs.Ytenemohjmemoiaa
open Go.RowKit Go.Sort

set_option maxRecDepth 100000 in
set_option maxHeartbeats 4000000 in
theorem DeleteFuncChg_any {u : Value} {xs : List Int} (cap0 : Value) (p : Int → Bool) (base : Nat) (w : World) (hb : base ≤ w.heap.size) (ho : OwnI w base u xs)
    (hf : ∀ W x, Below base w W → x ∈ xs → Calls Try.prog 127 #[.int .i64 x, cap0] W fun e w' => e = .returned (.bool (p x)) ∧ Below W.heap.size W w') :
    Calls Try.prog 125 #[u, .func (.func 127) #[] #[cap0]] w fun e w' => ∃ v, e = .returned v ∧ OwnI w' base v (xs.filter fun x => !p x) ∧ Below base w w' := by
  have HF := Lib.hid hf
  have HO := Lib.hid ho
  have hbd := ixP_bd p xs 0
  obtain ⟨a, c, rfl, _⟩ := id ho.sl
  generalize hi : ixP p xs 0 = i at hbd
  have HI := Lib.hid hi
  have HS := Lib.hid ho.sl
  clear hf hi ho
  by_cases h1 : i = -1
  · subst h1
    have ht : ((-1 : Int) == -1) = true := rfl
    go_enter Try.func125, Try.ntmps125
    go_wp2_with fail
    refine (IndexFuncChg_any cap0 p w HS.out (fun W x hW hx => HF.out W x (hW.mono hb) hx)).mono ?_
    rintro e w1 ⟨rfl, b1⟩
    rw [HI.out]
    go_wp2
    go_ret
    exact ⟨_, rfl, by rw [ixP_none HI.out]; exact HO.out.below b1, b1.mono hb⟩
  · obtain ⟨k0, rfl⟩ := Int.eq_ofNat_of_zero_le (show 0 ≤ i by omega)
    have hst := DelI.start HI.out
    have hk0 : k0 < xs.length := by have := hbd.2; omega
    rcases HO.out.forms with ⟨he, he2⟩ | ⟨g, c', he, hg, hg2, hc1, hc2⟩
    · rw [he2] at hk0; simp at hk0
    · simp only [Value.slice.injEq] at he
      obtain ⟨rfl, _, rfl⟩ := he
      have hbn : ¬ ((k0 : Int) = -1) := by omega
      have hbq : ((k0 : Int) == -1) = false := by rw [beq_eq_false_iff_ne]; omega
      have hmx : xs.length ≤ 9223372036854775807 := by unfold maxLen at hc2; omega
      have HST := Lib.hid hst
      clear hst hbd h1
      go_enter Try.func125, Try.ntmps125
      go_wp2_with fail
      refine (IndexFuncChg_any cap0 p w HS.out (fun W x hW hx => HF.out W x (hW.mono hb) hx)).mono ?_
      rintro e w1 ⟨rfl, b1⟩
      rw [HI.out]
      have HO1 := Lib.hid (HO.out.below b1)
      have HB1 := Lib.hid (b1.mono hb)
      clear b1
      go_wp2
      go_loopw [5, 6, 7] (fun i j _ wr => ∃ (k q : Nat) (ys : List Int), i = .int .i64 k ∧ j = .int .i64 q ∧ Hid (DelI p xs q k ys) ∧ OwnI wr base (.slice (some ⟨g, 0, none⟩) xs.length c) ys ∧ Below base w wr) (fun _ j _ _ => xs.length - (intOf j).toNat)
      case atStart => exact ⟨k0, k0 + 1, xs, rfl, by go_num, HST, HO1.out, HB1.out⟩
      case round =>
        obtain ⟨k, q, ys, rfl, rfl, hd, hown, hbw⟩ := hrel
        have hlen := hd.out.len
        have hkq := hd.out.lt
        have hqx := hd.out.jle
        by_cases hlt : q < xs.length
        · have iq : (q : Int) < (xs.length : Int) := by omega
          have ik : (k : Int) < (xs.length : Int) := by omega
          have hg1 := hd.out.get hlt
          have hql : q < ys.length := by omega
          have hyq : ys[q] = xs[q] := by rw [List.getElem?_eq_getElem hql] at hg1; exact Option.some.inj hg1
          have cq := hown.cell hql
          rw [hyq] at cq
          have hskip := fun h => hd.out.skip hlt h
          have hkeep := fun h => hd.out.keep hlt h
          have hm := List.getElem_mem hlt
          generalize xs[q] = x at cq hskip hkeep hm
          generalize hp : p x = P at hskip hkeep
          have HP := Lib.hid hp
          have HSK := Lib.hid hskip
          have HKE := Lib.hid hkeep
          have HOW := Lib.hid hown
          have HBW := Lib.hid hbw
          clear hp hskip hkeep hg1 hyq hown hbw hd
          go_wp2_with fail
          refine (HF.out _ x HBW.out hm).mono ?_
          rintro e w2 ⟨rfl, b2⟩
          rw [HP.out]
          have ho2 := HOW.out.below b2
          have hb2 := HBW.out.trans (b2.mono (Nat.le_trans hb HBW.out.size))
          cases P
          · have hkl : k < ys.length := by omega
            have ck := ho2.cell hkl
            have fk := ho2.free k
            have HS2 := Lib.hid (ho2.set k x)
            have HB2 := Lib.hid (hb2.setCell (p := ⟨g, k, none⟩) hg (.int .i64 x))
            clear b2 cq ho2 hb2
            go_wp2
            go_roundw
            case rel => exact ⟨k + 1, q + 1, ys.set k x, by go_num, by go_num, Lib.hid (HKE.out (by simp)), HS2.out, HB2.out⟩
            case measure => simp [intOf]; omega
          · clear b2 cq
            go_wp2
            go_roundw
            case rel => exact ⟨k, q + 1, ys, rfl, by go_num, Lib.hid (HSK.out (by simp)), ho2, hb2⟩
            case measure => simp [intOf]; omega
        · obtain rfl : q = xs.length := by omega
          have hdone := hd.out.done
          have hkl : k < xs.length := by omega
          have hk1 : k ≤ xs.length := by omega
          have hk2 : (k : Int) ≤ (xs.length : Int) := by omega
          have hkc : k ≤ c := by omega
          have hkc2 : (k : Int) ≤ (c : Int) := by omega
          obtain ⟨ys', o', l', t'⟩ := hown.fill (List.replicate (xs.length - k) 0) k
          have hcut := o'.cut (k := k) (by omega)
          have bz := below_setCells hg (i64s (List.replicate (xs.length - k) 0)) k _ _ hbw
          have hrp : i64s (List.replicate (xs.length - k) 0) = List.replicate (xs.length - k) (.int .i64 0) := by simp [i64s]
          rw [hrp] at hcut bz
          rw [t', hdone.1] at hcut
          have hcl : ∀ ty, (Builtin.clear_ #[31] ty #[.slice (some ⟨g, k, none⟩) (xs.length - k) (c - k)]).run Try.prog wr = .ok (.tuple #[]) (wr.setCells g k (List.replicate (xs.length - k) (.int .i64 0))) :=
            fun ty => Lib.run_clear_slice wr 31 2 ty (.int .i64 0) Try.underlying31 zero_i64 rfl rfl g k _ _ (by omega) (fun j hj => by rw [hown.cell (i := k + j) (by omega)]; rfl) (fun j hj => hown.free (k + j))
          have HC := Lib.hid hcut
          have BZ := Lib.hid bz
          clear hcut bz o' hown hbw hdone t' l' hd
          go_wp2_with (simp only [hcl])
          go_ret
          exact ⟨_, rfl, HC.out, BZ.out⟩
end Go.Proofs.Ytenemohjmemoiaa
namespace Go.Proofs.Ytenemohjmemoiaa
open Go.RowKit Go.Sort
set_option maxHeartbeats 1000000 in
theorem IndexFuncWeight_any {u : Value} {xs : List (List Int)} (cap0 : Value) (p : List Int → Bool) (w : World) (ha : SlII w u xs)
    (hf : ∀ W x u, Below w.heap.size w W → x ∈ xs → SlI W u x → Calls Try.prog 121 #[u, cap0] W fun e w' => e = .returned (.bool (p x)) ∧ Below W.heap.size W w') :
    Calls Try.prog 149 #[u, .func (.func 121) #[] #[cap0]] w fun e w' => e = .returned (.int .i64 (ixRow p xs 0)) ∧ Below w.heap.size w w' := by
  obtain ⟨a, ca, us, rfl, hca, hca', hul, hrd, hrow⟩ := ha
  have HU := Lib.hid hul
  have HR := Lib.hid hrow
  clear hul hrow
  unfold maxLen at hca'
  have HF := Lib.hid hf
  clear hf
  go_enter Try.func149, Try.ntmps149
  go_wp2
  go_loopw [5, 8] (fun _ i wr => ∃ k : Nat, k ≤ xs.length ∧ i = .int .i64 k ∧ Hid (ixRow p xs 0 = ixRow p (xs.drop k) k) ∧ Below w.heap.size w wr) (fun _ i _ => xs.length - (intOf i).toNat)
  case atStart => exact ⟨0, Nat.zero_le _, rfl, rfl, Below.refl _ _⟩
  case round =>
    obtain ⟨k, hk, rfl, hno, hbw⟩ := hrel
    by_cases hlt : k < xs.length
    · obtain ⟨x, b, off, rfl, gc, sx⟩ := SlII.row HU.out (hrd.below hbw) (fun i hi u hu => (HR.out i hi u hu).below hbw) hlt
      obtain ⟨xa, xc, rfl, _⟩ := id sx
      have i1 : (k : Int) < (xs.length : Int) := by omega
      have hst := ixRow_step (p := p) hlt
      have HS := Lib.hid hst
      clear hst
      generalize hp : p xs[k] = P
      have HP := Lib.hid hp
      clear hp
      cases P
      · go_wp2_with fail
        refine (HF.out _ xs[k] _ hbw (List.getElem_mem hlt) sx).mono ?_
        rintro e w2 ⟨rfl, b2⟩
        rw [HP.out]
        have bq := hbw.trans (b2.mono hbw.size)
        go_wp2
        go_roundw
        case rel => exact ⟨k + 1, by omega, by go_num, by unfold Hid at *; rw [hno, HS, HP]; rfl, bq⟩
        case measure => simp [intOf]; omega
      · go_wp2_with fail
        refine (HF.out _ xs[k] _ hbw (List.getElem_mem hlt) sx).mono ?_
        rintro e w2 ⟨rfl, b2⟩
        rw [HP.out]
        have bq := hbw.trans (b2.mono hbw.size)
        go_wp2
        go_ret
        exact ⟨ri (by rw [hno.out, HS.out, HP.out]; rfl), bq⟩
    · obtain rfl : k = xs.length := by omega
      go_wp2
      go_ret
      exact ⟨ri (by rw [hno.out]; simp [ixRow]), hbw⟩
set_option maxHeartbeats 400000 in
theorem ContainsFuncWeight_any {u : Value} {xs : List (List Int)} (cap0 : Value) (p : List Int → Bool) (w : World) (ha : SlII w u xs)
    (hf : ∀ W x u, Below w.heap.size w W → x ∈ xs → SlI W u x → Calls Try.prog 121 #[u, cap0] W fun e w' => e = .returned (.bool (p x)) ∧ Below W.heap.size W w') :
    Calls Try.prog 120 #[u, .func (.func 121) #[] #[cap0]] w fun e w' => e = .returned (.bool (xs.any p)) ∧ Below w.heap.size w w' := by
  have hx := ixRow_any p xs 0
  obtain ⟨hb0, hb1⟩ := ixRow_bd p xs 0
  obtain ⟨a, ca, us, rfl, hca, hca', _⟩ := id ha
  unfold maxLen at hca'
  have HF := Lib.hid hf
  have HX := Lib.hid hx
  clear hf hx
  go_enter Try.func120, Try.ntmps120
  go_wp2_with fail
  refine (IndexFuncWeight_any cap0 p _ ha HF.out).mono ?_
  rintro e w2 ⟨rfl, b2⟩
  go_wp2
  go_ret
  exact ⟨rb HX.out, b2⟩
end Go.Proofs.Ytenemohjmemoiaa
namespace Go.Proofs.Ytenemohjmemoiaa
open Go.RowKit Go.Sort
set_option maxHeartbeats 1000000 in
theorem IndexFuncBlock_any {u : Value} {xs : List Int} (cap0 : Value) (p : Int → Bool) (w : World) (ha : SlI w u xs)
    (hf : ∀ W x, Below w.heap.size w W → x ∈ xs → Calls Try.prog 130 #[.int .i64 x, cap0] W fun e w' => e = .returned (.bool (p x)) ∧ Below W.heap.size W w') :
    Calls Try.prog 146 #[u, .func (.func 130) #[] #[cap0]] w fun e w' => e = .returned (.int .i64 (ixP p xs 0)) ∧ Below w.heap.size w w' := by
  obtain ⟨a, ca, rfl, hca, hca', ha⟩ := ha
  unfold maxLen at hca'
  have HF := Lib.hid hf
  clear hf
  go_enter Try.func146, Try.ntmps146
  go_wp2
  go_loopw [5, 8] (fun _ i wr => ∃ k : Nat, k ≤ xs.length ∧ i = .int .i64 k ∧ Hid (ixP p xs 0 = ixP p (xs.drop k) k) ∧ Below w.heap.size w wr) (fun _ i _ => xs.length - (intOf i).toNat)
  case atStart => exact ⟨0, Nat.zero_le _, rfl, rfl, Below.refl _ _⟩
  case round =>
    obtain ⟨k, hk, rfl, hno, hbw⟩ := hrel
    by_cases hlt : k < xs.length
    · obtain ⟨b, off, rfl, gc⟩ := (ha.below hbw).one (i64s_get hlt)
      have i1 : (k : Int) < (xs.length : Int) := by omega
      have hst := ixP_step (p := p) hlt
      have HS := Lib.hid hst
      clear hst
      generalize hp : p xs[k] = P
      have HP := Lib.hid hp
      clear hp
      cases P
      · go_wp2_with fail
        refine (HF.out _ xs[k] hbw (List.getElem_mem hlt)).mono ?_
        rintro e w2 ⟨rfl, b2⟩
        rw [HP.out]
        have bq := hbw.trans (b2.mono hbw.size)
        go_wp2
        go_roundw
        case rel => exact ⟨k + 1, by omega, by go_num, by unfold Hid at *; rw [hno, HS, HP]; rfl, bq⟩
        case measure => simp [intOf]; omega
      · go_wp2_with fail
        refine (HF.out _ xs[k] hbw (List.getElem_mem hlt)).mono ?_
        rintro e w2 ⟨rfl, b2⟩
        rw [HP.out]
        have bq := hbw.trans (b2.mono hbw.size)
        go_wp2
        go_ret
        exact ⟨ri (by rw [hno.out, HS.out, HP.out]; rfl), bq⟩
    · obtain rfl : k = xs.length := by omega
      go_wp2
      go_ret
      exact ⟨ri (by rw [hno.out]; simp [ixP]), hbw⟩
set_option maxHeartbeats 400000 in
theorem ContainsFuncBlock_any {u : Value} {xs : List Int} (cap0 : Value) (p : Int → Bool) (w : World) (ha : SlI w u xs)
    (hf : ∀ W x, Below w.heap.size w W → x ∈ xs → Calls Try.prog 130 #[.int .i64 x, cap0] W fun e w' => e = .returned (.bool (p x)) ∧ Below W.heap.size W w') :
    Calls Try.prog 99 #[u, .func (.func 130) #[] #[cap0]] w fun e w' => e = .returned (.bool (xs.any p)) ∧ Below w.heap.size w w' := by
  have hx := ixP_any p xs 0
  obtain ⟨hb0, hb1⟩ := ixP_bd p xs 0
  obtain ⟨a, ca, rfl, hca, hca', _⟩ := id ha
  unfold maxLen at hca'
  have HF := Lib.hid hf
  have HX := Lib.hid hx
  clear hf hx
  go_enter Try.func99, Try.ntmps99
  go_wp2_with fail
  refine (IndexFuncBlock_any cap0 p _ ha HF.out).mono ?_
  rintro e w2 ⟨rfl, b2⟩
  go_wp2
  go_ret
  exact ⟨rb HX.out, b2⟩
end Go.Proofs.Ytenemohjmemoiaa
namespace Go.Proofs.Ytenemohjmemoiaa
open Go.RowKit Go.Sort
theorem freeS_succ (es : List (List Int)) (cs : List Int) (node c : Int) (k : Nat) : freeS es cs node c (k + 1) = (freeS es cs node c k && ((!decide (cs.getD k 0 = c)) || !nearB es node (k : Int))) := by
  unfold freeS; rw [List.range_succ, List.all_append]; simp
def freeR (n : Int) (es : List (List Int)) (q : Int) (cs : List Int) (node : Int) : List Int × Int :=
  let code := askedC n es q (colsOk n 0 (IntKind.i64.wrap (q - 1)) cs && inR node 0 (IntKind.i64.wrap (n - 1)))
  if code = 0 then (freeL es cs node q.toNat, 0) else ([], code)
theorem freeR_len (n : Int) (es : List (List Int)) (q : Int) (cs : List Int) (node : Int) : (freeR n es q cs node).1.length ≤ 4 := by
  unfold freeR
  dsimp only
  split
  · rename_i h
    obtain ⟨_, h1, h2, _⟩ := askedC_ok h
    have := freeL_length es cs node q.toNat
    dsimp only; omega
  · simp
def nodeC (n : Int) (es : List (List Int)) (q : Int) (cs : List Int) (node : Int) : Int := askedC n es q (colsOk n 0 (IntKind.i64.wrap (q - 1)) cs && inR node 0 (IntKind.i64.wrap (n - 1)))
theorem nodeC_ok {n q node : Int} {es : List (List Int)} {cs : List Int} (h : nodeC n es q cs node = 0) : ∃ m k : Nat, n = (m : Int) ∧ q = (k : Int) ∧ 1 ≤ m ∧ m ≤ 5 ∧ 1 ≤ k ∧ k ≤ 4 ∧ EdgesB m es ∧ es.length ≤ 25 ∧ cs.length = m ∧ 0 ≤ node ∧ node < m ∧ (∀ c ∈ cs, 0 ≤ c ∧ c < k) ∧ colsOk (m : Int) 0 ((k : Int) - 1) cs = true ∧ inR node 0 ((m : Int) - 1) = true ∧ askedC m es k true = 0 := by
  obtain ⟨hg, h1, h2, h3⟩ := askedC_ok h
  rw [Bool.and_eq_true] at h3
  obtain ⟨m, rfl, hm1, hm5, hE, hl⟩ := graphOk_all hg
  obtain ⟨k, rfl⟩ := Int.eq_ofNat_of_zero_le (show 0 ≤ q by omega)
  have hc := colsOk_len h3.1
  have hn := inR_iff.1 h3.2
  rw [IntWalk.i64_in _ (by omega)] at hn hc
  have h31 := h3.1
  have h32 := h3.2
  rw [IntWalk.i64_in _ (by omega)] at h31 h32
  exact ⟨m, k, rfl, rfl, hm1, hm5, by omega, by omega, hE, hl, by omega, hn.1, by omega, fun c hx => by have := hc.2 c hx; omega, h31, h32, by unfold askedC; rw [hg, inR_iff.2 ⟨h1, h2⟩]; rfl⟩
theorem nodeC_code {n q node : Int} {es : List (List Int)} {cs : List Int} (h : codeC n es q [cs] ≠ 0) : nodeC n es q cs node = codeC n es q [cs] := by
  rw [codeC_one] at h ⊢
  unfold nodeC askedC at *
  split
  · rfl
  · rename_i h1
    rw [if_neg h1] at h
    split
    · rfl
    · rename_i h2
      rw [if_neg h2] at h
      split at h
      · rename_i h3; rw [h3]; simp
      · simp at h
theorem nodeC_node {n q node : Int} {es : List (List Int)} {cs : List Int} (h : codeC n es q [cs] = 0) : nodeC n es q cs node = if inR node 0 (IntKind.i64.wrap (n - 1)) = true then 0 else 2 := by
  rw [codeC_one] at h
  obtain ⟨hg, h1, h2, h3⟩ := askedC_ok h
  unfold nodeC askedC
  rw [hg, h3, inR_iff.2 ⟨h1, h2⟩]
  cases inR node 0 (IntKind.i64.wrap (n - 1)) <;> rfl
end Go.Proofs.Ytenemohjmemoiaa
namespace Go.Proofs.Ytenemohjmemoiaa
open Go.RowKit Go.Sort
def weightC (n : Int) (es : List (List Int)) (wt : Int) (set : List Int) : Int := if graphOk n es = true then (if (inR wt 1 60 && riseN 0 (IntKind.i64.wrap (n - 1)) set set.length) = true then 0 else 2) else 1
theorem weightClosure_any {v u : Value} {s : List Int} (bb m : Nat) (w : World) (hc : GraphAt w bb 0 m v) (hv : ∃ a l c, v = .slice a l c) (hu : SlI w u s) (h1 : 1 ≤ m) (h5 : m ≤ 100) :
    Calls Try.prog 121 #[u, .pointer (some ⟨bb, 0, none⟩)] w fun e w' => e = .returned (.bool (!riseN 0 ((m : Int) - 1) s s.length)) ∧ Below w.heap.size w w' := by
  obtain ⟨_, c0, c1⟩ := hc
  simp only [Nat.zero_add] at c0 c1
  obtain ⟨va, vl, vc, rfl⟩ := hv
  obtain ⟨ua, uc, rfl, _⟩ := id hu
  have HU := Lib.hid hu
  generalize hq : riseN 0 ((m : Int) - 1) s s.length = q
  have HQ := Lib.hid hq
  clear hu hq
  go_enter Try.func121, Try.ntmps121
  go_wp2_with fail
  refine (isNodes_any m w ⟨_, _, _, rfl⟩ HU.out h1 h5).mono ?_
  rintro e w' ⟨rfl, b⟩
  rw [HQ.out]
  go_wp2
  go_ret
  exact ⟨rfl, b⟩
set_option maxHeartbeats 2000000 in
theorem weightCode_any {v u : Value} {es : List (List Int)} {s : List Int} (n wt : Int) (w : World) (ha : SlII w v es) (hu : SlII w u [s]) :
    Calls Try.prog 67 #[.agg #[.int .i64 n, v], .int .i64 wt, u] w fun e w' => e = .returned (.int .i64 (weightC n es wt s)) ∧ Below w.heap.size w w' := by
  have hmf : ∀ (fn : Fn) (first cap : Array Value) (w : World), (Instr.makeFunc fn first cap).run Try.prog w = .ok (.func fn first cap) w := fun _ _ _ _ => rfl
  have HA := Lib.hid (fun W (h : Below w.heap.size w W) => ha.below h)
  have HV := Lib.hid (fun W (h : Below w.heap.size w W) => hu.below h)
  obtain ⟨a, ca, us, rfl, _⟩ := ha
  obtain ⟨va, vc, vs, rfl, _⟩ := hu
  have b1 : Below w.heap.size w (w.alloc (.cells #[.int .i64 n, .slice a es.length ca] 24)) := (Below.refl _ _).alloc (Nat.le_refl _) _
  have X := Lib.hid (graphAt_new w n (.slice a es.length ca))
  have hR : weightC n es wt s = if graphOk n es = true then (if (inR wt 1 60 && riseN 0 (IntKind.i64.wrap (n - 1)) s s.length) = true then 0 else 2) else 1 := rfl
  generalize hg : graphOk n es = g at hR
  generalize hp : inR wt 1 60 = p at hR
  have HR := Lib.hid hR
  have HG := Lib.hid hg
  have HP := Lib.hid hp
  have B1 := Lib.hid b1
  clear hR hg hp b1
  cases g
  · go_enter Try.func67, Try.ntmps67
    go_wp2_with fail
    refine (ImplValidGraph_any n _ (HA.out _ B1.out)).mono ?_
    rintro e w2 ⟨rfl, b2⟩
    rw [HG.out]
    have hb2 := B1.out.trans (b2.mono B1.out.size)
    go_wp2
    go_ret
    exact ⟨ri (by rw [HR.out]; rfl), hb2⟩
  · obtain ⟨m, rfl, hm1, hm5, hE, hl⟩ := graphOk_all HG.out
    have hw : IntKind.i64.wrap ((m : Int) - 1) = (m : Int) - 1 := IntWalk.i64_in _ (by omega)
    have hR2 := HR.out
    rw [hw] at hR2
    generalize hq : riseN 0 ((m : Int) - 1) s s.length = q at hR2
    have HQ := Lib.hid hq
    have HR2 := Lib.hid hR2
    clear hw hR2 hq hE
    cases p
    · go_enter Try.func67, Try.ntmps67
      go_wp2_with fail
      refine (ImplValidGraph_any m _ (HA.out _ B1.out)).mono ?_
      rintro e w2 ⟨rfl, b2⟩
      rw [HG.out]
      have hb2 := B1.out.trans (b2.mono B1.out.size)
      go_wp2_with fail
      refine (inRange_any _ _ _ _).mono ?_
      rintro e w' ⟨rfl, rfl⟩
      rw [HP.out]
      go_wp2
      go_ret
      exact ⟨ri (by rw [HR2.out]; rfl), hb2⟩
    · go_enter Try.func67, Try.ntmps67
      go_wp2_with fail
      refine (ImplValidGraph_any m _ (HA.out _ B1.out)).mono ?_
      rintro e w2 ⟨rfl, b2⟩
      rw [HG.out]
      have hb2 := B1.out.trans (b2.mono B1.out.size)
      have X2 := Lib.hid (X.out.below b2)
      clear b2
      go_wp2_with fail
      refine (inRange_any _ _ _ _).mono ?_
      rintro e w' ⟨rfl, rfl⟩
      rw [HP.out]
      go_wp2_with fail
      refine (ContainsFuncWeight_any _ (fun y => !riseN 0 ((m : Int) - 1) y y.length) _ (HV.out _ hb2) (fun W x u hW hx hu => weightClosure_any w.heap.size m W (X2.out.below hW) ⟨_, _, _, rfl⟩ hu hm1 (by omega))).mono ?_
      rintro e w3 ⟨rfl, b3⟩
      have hany : ([s].any fun y => !riseN 0 ((m : Int) - 1) y y.length) = !q := by simp [HQ.out]
      rw [hany]
      have hb3 := hb2.trans (b3.mono hb2.size)
      clear hany b3
      cases q
      · go_wp2
        go_ret
        exact ⟨ri (by rw [HR2.out]; rfl), hb3⟩
      · go_wp2
        go_ret
        exact ⟨ri (by rw [HR2.out]; rfl), hb3⟩
set_option maxHeartbeats 1000000 in
theorem blockClosure_any {cv : Value} {set : List Int} (bb : Nat) (o : Int) (w : World) (hc : CellsAt w bb [cv]) (hs : SlI w cv set) :
    Calls Try.prog 130 #[.int .i64 o, .pointer (some ⟨bb, 0, none⟩)] w fun e w' => e = .returned (.bool (decide (o ∈ set))) ∧ Below w.heap.size w w' := by
  have c0 := hc.get 0 _ rfl
  obtain ⟨ua, uc, rfl, _⟩ := id hs
  have HS := Lib.hid hs
  clear hs
  go_enter Try.func130, Try.ntmps130
  go_wp2_with fail
  refine (Contains_q (q := decide (o ∈ set)) rfl w HS.out).mono ?_
  rintro e w' ⟨rfl, b⟩
  go_wp2
  go_ret
  exact ⟨rfl, b⟩
set_option maxHeartbeats 1000000 in
theorem blocked_any {v u : Value} {es : List (List Int)} {set : List Int} (m : Nat) (n node : Int) (w : World) (ha : SlII w v es) (hu : SlI w u set) (hE : EdgesB m es) (hl : es.length ≤ 100) :
    Calls Try.prog 72 #[.agg #[.int .i64 n, v], u, .int .i64 node] w fun e w' => e = .returned (.bool (blockB es set node)) ∧ Below w.heap.size w w' := by
  have hmf : ∀ (fn : Fn) (first cap : Array Value) (w : World), (Instr.makeFunc fn first cap).run Try.prog w = .ok (.func fn first cap) w := fun _ _ _ _ => rfl
  have HA := Lib.hid (fun W (h : Below w.heap.size w W) => ha.below h)
  have HV := Lib.hid (fun W (h : Below w.heap.size w W) => hu.below h)
  have HE := Lib.hid hE
  obtain ⟨a, ca, us, rfl, _⟩ := ha
  obtain ⟨va, vc, rfl, _⟩ := hu
  have b1 : Below w.heap.size w (w.alloc (.cells #[.int .i64 n, .slice a es.length ca] 24)) := (Below.refl _ _).alloc (Nat.le_refl _) _
  have b2 := b1.alloc (by simp) (.cells #[.slice va set.length vc] 31)
  have X := Lib.hid (CellsAt.new' (w.alloc (.cells #[.int .i64 n, .slice a es.length ca] 24)) [.slice va set.length vc] 31 (b := w.heap.size + 1) (by simp))
  clear hE
  go_enter Try.func72, Try.ntmps72
  go_wp2_with fail
  refine (neighbours_any m n node _ (HA.out _ b2) HE.out hl).mono ?_
  rintro e w3 ⟨r, rfl, o3, b3⟩
  have hs3 := Lib.hid o3.sl
  have X3 := Lib.hid (X.out.below b3)
  have hb3 := b2.trans (b3.mono b2.size)
  obtain ⟨ra, rn, rc, rfl, hrn⟩ := o3.form
  clear o3 b3
  go_wp2_with fail
  refine (ContainsFuncBlock_any _ (fun o => decide (o ∈ set)) _ hs3.out (fun W x hW hx => blockClosure_any (w.heap.size + 1) x W (X3.out.below hW) (HV.out _ (hb3.trans (hW.mono hb3.size))))).mono ?_
  rintro e w4 ⟨rfl, b4⟩
  go_wp2
  go_ret
  exact ⟨rfl, hb3.trans (b4.mono hb3.size)⟩
theorem chgClosure_any (bb : Nat) (x node : Int) (w : World) (hc : CellsAt w bb [.int .i64 node]) :
    Calls Try.prog 127 #[.int .i64 x, .pointer (some ⟨bb, 0, none⟩)] w fun e w' => e = .returned (.bool (decide (x = node))) ∧ Below w.heap.size w w' := by
  have c0 := hc.get 0 _ rfl
  by_cases h : x = node
  · have ht : (x == node) = true := by simp [h]
    have H := Lib.hid h
    clear h
    go_enter Try.func127, Try.ntmps127
    go_wp2
    go_ret
    exact ⟨rb (by simp [H.out]), Below.refl _ _⟩
  · have ht : (x == node) = false := by simp [h]
    have H := Lib.hid h
    clear h
    go_enter Try.func127, Try.ntmps127
    go_wp2
    go_ret
    exact ⟨rb (by simp [H.out]), Below.refl _ _⟩
set_option maxHeartbeats 2000000 in
theorem changed_any {u : Value} {set : List Int} (node : Int) (inb : Bool) (w : World) (hu : SlI w u set) (hp : set.Pairwise (· < ·)) (hl : set.length ≤ 11) :
    Calls Try.prog 71 #[u, .int .i64 node, .bool inb] w fun e w' => ∃ v, e = .returned v ∧ OwnI w' w.heap.size v (if inb = true then putL node (dropN set node) else dropN set node) ∧ Below w.heap.size w w' := by
  have hmf : ∀ (fn : Fn) (first cap : Array Value) (w : World), (Instr.makeFunc fn first cap).run Try.prog w = .ok (.func fn first cap) w := fun _ _ _ _ => rfl
  have HV := Lib.hid (fun W (h : Below w.heap.size w W) => hu.below h)
  have HP := Lib.hid hp
  obtain ⟨va, vc, rfl, _⟩ := hu
  have b1 : Below w.heap.size w (w.alloc (.cells #[.int .i64 node] 2)) := (Below.refl _ _).alloc (Nat.le_refl _) _
  have X := Lib.hid (CellsAt.new' w [.int .i64 node] 2 (b := w.heap.size) rfl)
  clear hp
  go_enter Try.func71, Try.ntmps71
  go_wp2_with fail
  refine (Clone_any _ (HV.out _ b1) (by omega)).mono ?_
  rintro e w2 ⟨cv, rfl, o2, b2⟩
  simp only [World.size_alloc] at o2 b2
  have X2 := Lib.hid (X.out.belowB (B := w.heap.size + 1) (by omega) b2)
  have hz2 := b2.size
  simp only [World.size_alloc] at hz2
  have hb2 := b1.trans (b2.mono (by omega))
  clear b2
  go_wp2_with fail
  refine (DeleteFuncChg_any (.pointer (some ⟨w.heap.size, 0, none⟩)) (fun y => decide (y = node)) (w.heap.size + 1) _ hz2 o2 (fun W y hW hy => chgClosure_any w.heap.size y node W (X2.out.belowB (B := w.heap.size + 1) (by omega) hW))).mono ?_
  rintro e w3 ⟨dv, rfl, o3, b3⟩
  have X3 := Lib.hid (X2.out.belowB (B := w.heap.size + 1) (by omega) b3)
  have hb3 := hb2.trans (b3.mono (by omega))
  have o3 : OwnI w3 (w.heap.size + 1) dv (dropN set node) := o3
  have hdl : (dropN set node).length ≤ set.length := List.length_filter_le _ _
  have hz3 : w.heap.size + 1 ≤ w3.heap.size := Nat.le_trans hz2 b3.size
  cases inb
  · clear b3
    go_wp2
    go_ret
    exact ⟨_, rfl, by simpa using o3.lower (show w.heap.size ≤ w.heap.size + 1 by omega), hb3⟩
  · have c0 := X3.out.get 0 _ rfl
    have hpd := Lib.hid (dropN_pair (node := node) HP.out)
    have hnn := Lib.hid (dropN_not set node)
    have hln : (dropN set node).length < 16777216 := by omega
    have hl11 : (dropN set node).length ≤ 11 := by omega
    clear b3
    go_wp2_with (at_builtin; refine append_i64 _ node _ _ rfl rfl rfl o3 rfl hln hz3 ?_)
    intro v4 w4 o4 b4 z4
    have hb4 := (hb3.alloc hb3.size _).trans (b4.mono (by omega))
    rcases o4.forms with ⟨_, he⟩ | ⟨g, c, rfl, hg, hg2, _, _⟩
    · exact absurd he (by simp)
    · obtain ⟨L, hL⟩ : ∃ L, L = (dropN set node ++ [node]).length := ⟨_, rfl⟩
      rw [← hL] at o4 ⊢
      have HL := Lib.hid (show L = (dropN set node).length + 1 by rw [hL]; simp)
      clear b4 o3 c0 hL
      go_wp2_with fail
      refine (Sort_any (w.heap.size + 1) L _ o4 HL.out hpd.out hnn.out hl11 hg).mono ?_
      rintro e w5 ⟨rfl, o5, b5⟩
      go_wp2
      go_ret
      exact ⟨_, rfl, by simpa using o5.lower (show w.heap.size ≤ w.heap.size + 1 by omega), hb4.trans (b5.mono (by omega))⟩
end Go.Proofs.Ytenemohjmemoiaa
