/-
  Decks: all orders of few cards, as the reference lists them; the place of a deck among them.
-/
import Derived.Test.YtijpkcdalmlaiaaZRowFnPlantPackets5
import Derived.Test.YtijpkcdalmlaiaaZRowFnPlantPackets3
set_option linter.unusedVariables false
set_option linter.unusedSimpArgs false
namespace Go.Proofs.Ytijpkcdalmlaiaa
open Go.RowKit

/-- append(v, u) on owned rows, u a row that has been made since -/
theorem append_row {ops : Array Oper} {rest : List Oper} {o : Oper} {a : Act} {Q : Exit → Act → World → Prop} (w0 w : World) (s x : Operand) (hg : o.guard = none)
    (ho : o.op = .call { callee := .builtin .append, args := #[s, x], argTypes := #[22, 22] })
    {base : Nat} {v u : Value} {xss : List (List Int)} {xs : List Int} (hs : a.eval s = v) (hown : OwnII w0 base v xss) (hb : Below w0.heap.size w0 w) (hu : OwnI w w0.heap.size u xs) {t : Nat} (hx : a.eval x = .slice (some ⟨w.heap.size, 0, none⟩) 1 1)
    (hlen : xss.length < 16777216) (hbase : base ≤ w0.heap.size)
    (h : ∀ v' w', OwnII w' base v' (xss ++ [xs]) → Below base (w.alloc (.cells #[u] t)) w' → w.heap.size < w'.heap.size → wpList Try.prog ops Q rest (a.put o.dst v') w') : wpList Try.prog ops Q (o :: rest) a (w.alloc (.cells #[u] t)) := by
  obtain ⟨vs, h1, h2⟩ := hown
  have hlt := h2.lt
  have h1' := ownsRow_below h1 hb
  have h2' := h2.below hb
  have hu1 : u.oneCell' = true := by
    rcases hu.2 with ⟨rfl, _⟩ | ⟨g, c, cur, rfl, _⟩ <;> rfl
  refine append_one tI64S w u hu1 s x hg ho hs h1' hx hlen (Nat.le_trans hbase hb.size) (fun v' w' k1 k2 k3 k4 => ?_)
  refine h v' w' ⟨vs ++ [u], ?_, ?_⟩ k3 k4
  · rw [List.length_append]; exact k1
  · have hsn : Rows2 w base (vs ++ [u]) (xss ++ [xs]) := Rows2.snoc (B := w0.heap.size) h2' (hu.lower hbase) (fun i v g hv hg => (hlt i v g hv hg).2) (fun g hg => (hu.lt g hg).1)
    exact (hsn.below ((Below.refl _ _).alloc (Nat.le_refl _) _)).kept (h1'.alloc (.cells #[u] t)) k2

/-- the next longer decks of one -/
def extD (c : Nat) (d : List Int) : List (List Int) := ((upTo' c).filter (fun x => !decide (x ∈ d))).map (fun x => d ++ [x])
where upTo' (n : Nat) : List Int := (List.range n).map fun (i : Nat) => (i : Int)
def extN (c : Nat) (d : List Int) (x : Nat) : List (List Int) := ((extD.upTo' x).filter (fun x => !decide (x ∈ d))).map (fun x => d ++ [x])
def decksL (c : Nat) : Nat → List (List Int)
  | 0 => [[]]
  | k + 1 => (decksL c k).flatMap (extD c)
theorem extN_full (c : Nat) (d : List Int) : extN c d c = extD c d := rfl
theorem extN_zero (c : Nat) (d : List Int) : extN c d 0 = [] := rfl
theorem extN_no {c x : Nat} {d : List Int} (h : (x : Int) ∈ d) : extN c d (x + 1) = extN c d x := by
  simp [extN, extD.upTo', List.range_succ, List.filter_append, h]
theorem extN_yes {c x : Nat} {d : List Int} (h : ¬ (x : Int) ∈ d) : extN c d (x + 1) = extN c d x ++ [d ++ [(x : Int)]] := by
  simp [extN, extD.upTo', List.range_succ, List.filter_append, h]
theorem extN_length (c x : Nat) (d : List Int) : (extN c d x).length ≤ x := by
  unfold extN
  rw [List.length_map]
  refine Nat.le_trans (List.length_filter_le _ _) ?_
  simp [extD.upTo']
theorem decks_small {c k : Nat} (hc1 : 1 ≤ c) (hc : c ≤ 3) (hk : k ≤ c) : (decksL c k).length ≤ 6 ∧ ∀ d ∈ decksL c k, d.length = k := by
  have h : ∀ c, c ≤ 3 → ∀ k, k ≤ c → 1 ≤ c → ((decksL c k).length ≤ 6 ∧ ∀ d ∈ decksL c k, d.length = k) := by decide
  exact h c hc k hk hc1
theorem flat_take (l : List (List Int)) (f : List Int → List (List Int)) {i : Nat} (h : i < l.length) : (l.take (i + 1)).flatMap f = (l.take i).flatMap f ++ f l[i] := by
  rw [List.take_succ_eq_append_getElem h, List.flatMap_append]; simp
theorem flat_take_le (l : List (List Int)) (f : List Int → List (List Int)) (i : Nat) : ((l.take i).flatMap f).length ≤ (l.flatMap f).length := by
  conv => rhs; rw [← List.take_append_drop i l]
  rw [List.flatMap_append, List.length_append]; omega

set_option maxHeartbeats 400000 in
theorem l00Own_any {u : Value} {xs : List Int} (w : World) (ha : SlI w u xs) (hl : xs.length ≤ 1048576) :
    Calls Try.prog 42 #[u] w fun e w' => ∃ v, e = .returned v ∧ OwnI w' w.heap.size v xs ∧ Below w.heap.size w w' := by
  have bx : Below w.heap.size w (w.alloc (.cells #[] 2)) := (Below.refl _ _).alloc (Nat.le_refl _) _
  have hb := ha.below bx
  have hown := OwnI.empty w (base := w.heap.size) (Nat.le_refl _)
  obtain ⟨a, ca, rfl, _⟩ := id ha
  clear ha
  go_enter Try.func42, Try.ntmps42
  go_wp2_with (at_builtin; refine append_SlI _ _ _ rfl rfl rfl hown rfl hb (by simp; omega) (by simp) ?_)
  intro v' w1 hown1 hg1 hb1
  go_wp2
  go_ret
  exact ⟨_, rfl, hown1, bx.trans hb1⟩

theorem OwnII.one (w : World) {base : Nat} {u : Value} {xs : List Int} (hu : OwnI w base u xs) (hb : base ≤ w.heap.size) :
    OwnII (w.alloc (.cells #[u] 30)) base (.slice (some ⟨w.heap.size, 0, none⟩) 1 1) [xs] := by
  have hu1 : u.oneCell' = true := by rcases hu.2 with ⟨rfl, _⟩ | ⟨g, c, cur, rfl, _⟩ <;> rfl
  refine ⟨[u], World.ownsRow_lit (base := base) (e := 30) (size := 1) w #[u] 1 hb (by simp [maxLen]) (by simp), rfl, ?_, ?_⟩
  · intro i u' xs' h1 h2
    cases i with
    | zero => simp at h1 h2; subst h1 h2; exact hu.below ((Below.refl _ _).alloc (Nat.le_refl _) _)
    | succ i => simp at h1
  · intro i j u' v' g hij h1 h2
    cases i with
    | zero => cases j with
      | zero => exact absurd rfl hij
      | succ j => simp at h2
    | succ i => simp at h1

theorem OwnI.empty' (w : World) {base : Nat} (hb : base ≤ w.heap.size) : OwnI (w.alloc (.cells #[] 2)) base (.slice (some ⟨w.heap.size, 0, none⟩) 0 0) [] := OwnI.empty w hb

end Go.Proofs.Ytijpkcdalmlaiaa
