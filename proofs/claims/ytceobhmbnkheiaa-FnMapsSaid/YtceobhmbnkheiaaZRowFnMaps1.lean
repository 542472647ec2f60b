/-
  A region that draws its order: what only reads is taken first under a condition on the world; what changes the world in one forced order, keeps the condition, but for the last operations, in front of which all that reads has come up.
-/
import Derived.OrdersHeld
import Derived.StillTail
set_option linter.unusedVariables false
set_option linter.unusedSimpArgs false
namespace Go.Proofs.Ytceobhmbnkheiaa
section
variable {P : Program} {ops : Array Oper} {md : Region.Mode} {C : World → Prop} {ex : List Nat} {Q : Exit → Act → World → Prop}
def wpAnyX (P : Program) (md : Region.Mode) (ops : Array Oper) (Q : Exit → Act → World → Prop) (C : World → Prop) (ex : List Nat) : Nat → Array Bool → Act → World → Prop
  | 0, listed, a, w => Region.ready md ops listed = [] ∧ Q .normal a w
  | fuel + 1, listed, a, w =>
    (Region.ready md ops listed = [] → Q .normal a w) ∧
    ∀ i ∈ Region.ready md ops listed, wpOp P ops Q i (fun a' w' => (i ∉ ex → C w → C w') ∧ wpAnyX P md ops Q C ex fuel (listed.setIfInBounds i true) a' w') a w
theorem wpAny_of_X : ∀ (fuel : Nat) (listed : Array Bool) (a : Act) (w : World), wpAnyX P md ops Q C ex fuel listed a w → wpAny P md ops Q fuel listed a w
  | 0, _, _, _, h => h
  | fuel + 1, _, _, _, h => ⟨h.1, fun i hi => wpOp_mono (fun a' w' h' => wpAny_of_X fuel _ a' w' h'.2) (h.2 i hi)⟩
/-- whatever has come up, what it waits for has -/
def ClosedX (md : Region.Mode) (ops : Array Oper) (listed : Array Bool) : Prop := ∀ j oj, ops[j]? = some oj → listed.getD j false = true → ∀ e ∈ oj.after, Region.binds md e = true → listed.getD e.on false = true
theorem ClosedX.first (n : Nat) : ClosedX md ops (Array.replicate n false) := fun j _ _ hl => by rw [getD_replicate_false] at hl; cases hl
theorem ClosedX.set {i : Nat} {listed : Array Bool} (inv : ClosedX md ops listed) (hi : i ∈ Region.ready md ops listed) : ClosedX md ops (listed.setIfInBounds i true) := by
  obtain ⟨_, oi, hoi, hall⟩ := mem_ready.1 hi
  intro j oj hj hl e he hb
  by_cases hij : i = j
  · subst hij
    have : oj = oi := Option.some.inj (hj.symm.trans hoi)
    subst this
    exact getD_set_true (hall e he hb)
  · rw [getD_set_ne false hij] at hl
    exact getD_set_true (inv j oj hj hl e he hb)
/-- j waits for i, over others -/
def ancX (md : Region.Mode) (ops : Array Oper) : Nat → Nat → Nat → Bool
  | 0, _, _ => false
  | f + 1, j, i => match ops[j]? with
    | some o => o.after.any fun e => Region.binds md e && (e.on == i || ancX md ops f e.on i)
    | none => false
theorem anc_listed {listed : Array Bool} (inv : ClosedX md ops listed) {i : Nat} : ∀ (f j : Nat) (o : Oper), ops[j]? = some o → ancX md ops f j i = true → (∀ e ∈ o.after, Region.binds md e = true → listed.getD e.on false = true) → listed.getD i false = true
  | 0, _, _, _, h, _ => by simp [ancX] at h
  | f + 1, j, o, ho, h, hall => by
    unfold ancX at h
    simp only [ho] at h
    obtain ⟨e, he, hb⟩ := Array.any_eq_true'.1 h
    simp only [Bool.and_eq_true, Bool.or_eq_true, beq_iff_eq] at hb
    have hl := hall e he hb.1
    rcases hb.2 with h2 | h2
    · rw [← h2]; exact hl
    · have ho2 : ∃ o2, ops[e.on]? = some o2 := by
        cases f with
        | zero => simp [ancX] at h2
        | succ f =>
          unfold ancX at h2
          cases ho2 : ops[e.on]? with
          | some o2 => exact ⟨o2, rfl⟩
          | none => simp [ho2] at h2
      obtain ⟨o2, ho2⟩ := ho2
      exact anc_listed inv f e.on o2 ho2 h2 (fun e2 he2 hb2 => inv e.on o2 ho2 hl e2 he2 hb2)
theorem wpAnyX_first {i : Nat} {oi : Oper} {v : Value} (hi : ops[i]? = some oi) (hsel : ∀ (j : Nat) (o : Oper) cs b, ops[j]? = some o → o.op ≠ .select cs b)
    (hQ : ∀ c a w, Q (.panic c) (a.put oi.dst v) w → Q (.panic c) a w) (hex : ∀ e ∈ ex, ∃ f, ancX md ops f e i = true) :
    ∀ (fuel : Nat) (listed : Array Bool) (a : Act) (w : World),
      (∀ j oj, ops[j]? = some oj → j ≠ i → listed.getD j true = false → (∀ e ∈ oj.after, Region.binds md e = true → e.on ≠ i) → oi.apart ops oj = true) →
      ClosedX md ops listed → i ∈ Region.ready md ops listed → YieldsIf P ops C oi v a → C w →
      wpAnyX P md ops Q C ex fuel (listed.setIfInBounds i true) (a.put oi.dst v) w → wpAnyX P md ops Q C ex (fuel + 1) listed a w := by
  intro fuel
  induction fuel with
  | zero =>
    intro listed a w _ _ hr hy hS H
    refine ⟨fun h => (by rw [h] at hr; cases hr), fun j hj => ?_⟩
    by_cases hji : j = i
    · subst hji; exact hy.wpOp hi hS ⟨fun _ h => h, H⟩
    · have := ready_mono hj hji
      rw [H.1] at this
      cases this
  | succ fuel ih =>
    intro listed a w hfree inv hr hy hS H
    refine ⟨fun h => (by rw [h] at hr; cases hr), fun j hj => ?_⟩
    by_cases hji : j = i
    · subst hji; exact hy.wpOp hi hS ⟨fun _ h => h, H⟩
    · have h1 := H.2 j (ready_mono hj hji)
      obtain ⟨hjun, oj, hoj, hall⟩ := mem_ready.1 hj
      have h0 := (mem_ready.1 hr).1
      have hnot : ∀ e ∈ oj.after, Region.binds md e = true → e.on ≠ i := fun e he hb heq => by
        have h1 := hall e he hb
        rw [heq, getD_both h0] at h1
        cases h1
      have hjx : j ∉ ex := fun hx => by
        obtain ⟨f, hf⟩ := hex j hx
        have := anc_listed inv f j oj hoj hf hall
        rw [getD_both h0] at this
        cases this
      have h2 := wpOp_putIf hoj (hfree j oj hoj hji hjun hnot) (fun cs b => hsel i oi cs b hi) (fun cs b => hsel j oj cs b hoj) hQ hy h1
      have hfree' : ∀ k ok, ops[k]? = some ok → k ≠ i → (listed.setIfInBounds j true).getD k true = false →
          (∀ e ∈ ok.after, Region.binds md e = true → e.on ≠ i) → oi.apart ops ok = true := fun k ok hk hki hun hno => by
        refine hfree k ok hk hki ?_ hno
        by_cases hjk : j = k
        · subst hjk; exact hjun
        · rw [getD_set_ne true hjk] at hun; exact hun
      refine wpOp_mono (fun a' w' h3 => ⟨h3.2.1, ih (listed.setIfInBounds j true) a' w' hfree' (inv.set hj) (ready_mono hr (Ne.symm hji)) h3.1 (h3.2.1 hjx hS) ?_⟩) h2
      rw [Array.setIfInBounds_comm _ _ hji]
      exact h3.2.2
/-- the same for what yields its value in whatever world -/
theorem wpAnyX_firstF {i : Nat} {oi : Oper} {v : Value} (hi : ops[i]? = some oi) (hsel : ∀ (j : Nat) (o : Oper) cs b, ops[j]? = some o → o.op ≠ .select cs b)
    (hQ : ∀ c a w, Q (.panic c) (a.put oi.dst v) w → Q (.panic c) a w) :
    ∀ (fuel : Nat) (listed : Array Bool) (a : Act) (w : World),
      (∀ j oj, ops[j]? = some oj → j ≠ i → listed.getD j true = false → (∀ e ∈ oj.after, Region.binds md e = true → e.on ≠ i) → oi.apart ops oj = true) →
      i ∈ Region.ready md ops listed → YieldsIf P ops (fun _ => True) oi v a →
      wpAnyX P md ops Q C ex fuel (listed.setIfInBounds i true) (a.put oi.dst v) w → wpAnyX P md ops Q C ex (fuel + 1) listed a w := by
  intro fuel
  induction fuel with
  | zero =>
    intro listed a w _ hr hy H
    refine ⟨fun h => (by rw [h] at hr; cases hr), fun j hj => ?_⟩
    by_cases hji : j = i
    · subst hji; exact hy.wpOp hi trivial ⟨fun _ h => h, H⟩
    · have := ready_mono hj hji
      rw [H.1] at this
      cases this
  | succ fuel ih =>
    intro listed a w hfree hr hy H
    refine ⟨fun h => (by rw [h] at hr; cases hr), fun j hj => ?_⟩
    by_cases hji : j = i
    · subst hji; exact hy.wpOp hi trivial ⟨fun _ h => h, H⟩
    · have h1 := H.2 j (ready_mono hj hji)
      obtain ⟨hjun, oj, hoj, hall⟩ := mem_ready.1 hj
      have h0 := (mem_ready.1 hr).1
      have hnot : ∀ e ∈ oj.after, Region.binds md e = true → e.on ≠ i := fun e he hb heq => by
        have h1 := hall e he hb
        rw [heq, getD_both h0] at h1
        cases h1
      have h2 := wpOp_putIf hoj (hfree j oj hoj hji hjun hnot) (fun cs b => hsel i oi cs b hi) (fun cs b => hsel j oj cs b hoj) hQ hy h1
      have hfree' : ∀ k ok, ops[k]? = some ok → k ≠ i → (listed.setIfInBounds j true).getD k true = false →
          (∀ e ∈ ok.after, Region.binds md e = true → e.on ≠ i) → oi.apart ops ok = true := fun k ok hk hki hun hno => by
        refine hfree k ok hk hki ?_ hno
        by_cases hjk : j = k
        · subst hjk; exact hjun
        · rw [getD_set_ne true hjk] at hun; exact hun
      refine wpOp_mono (fun a' w' h3 => ⟨h3.2.1, ih (listed.setIfInBounds j true) a' w' hfree' (ready_mono hr (Ne.symm hji)) h3.1 ?_⟩) h2
      rw [Array.setIfInBounds_comm _ _ hji]
      exact h3.2.2
/-! the moves -/
/-- the state of a walk: closed under what is waited for -/
def WX (P : Program) (ops : Array Oper) (Q : Exit → Act → World → Prop) (C : World → Prop) (ex : List Nat) (fuel : Nat) (listed : Array Bool) (a : Act) (w : World) : Prop :=
  ClosedX .any ops listed → wpAnyX P .any ops Q C ex fuel listed a w
def takeB (ops : Array Oper) (listed : Array Bool) (i : Nat) : Bool := Region.noSelect ops && Region.free .any ops listed i && (Region.ready .any ops listed).contains i
theorem wpX_free {i fuel : Nat} {oi : Oper} {v : Value} {listed : Array Bool} {a : Act} {w : World} (hi : ops[i]? = some oi) (hB : takeB ops listed i = true)
    (hQ : ∀ c a w, Q (.panic c) (a.put oi.dst v) w → Q (.panic c) a w) (hw : Region.wanted oi (yielded ops a.tmps) = true) (hy : ∀ w, (execOp a.eval oi).run P w = .ok (.value v) w)
    (h : WX P ops Q C ex fuel (listed.setIfInBounds i true) (a.put oi.dst v) w) : WX P ops Q C ex (fuel + 1) listed a w := fun hc => by
  unfold takeB at hB
  rw [Bool.and_eq_true, Bool.and_eq_true] at hB
  have hr : i ∈ Region.ready .any ops listed := by simpa using hB.2
  exact wpAnyX_firstF hi (Region.noSelect_spec hB.1.1) hQ fuel listed a w (Region.free_spec hi hB.1.2) hr (.inl ⟨hw, fun w _ => hy w⟩) (h (hc.set hr))
theorem wpX_load {i fuel : Nat} {oi : Oper} {v : Value} {listed : Array Bool} {a : Act} {w : World} (hi : ops[i]? = some oi) (hB : (takeB ops listed i && ex.all fun e => ancX .any ops ops.size e i) = true)
    (hQ : ∀ c a w, Q (.panic c) (a.put oi.dst v) w → Q (.panic c) a w) (hC : C w) (hw : Region.wanted oi (yielded ops a.tmps) = true) (hy : ∀ w, C w → (execOp a.eval oi).run P w = .ok (.value v) w)
    (h : WX P ops Q C ex fuel (listed.setIfInBounds i true) (a.put oi.dst v) w) : WX P ops Q C ex (fuel + 1) listed a w := fun hc => by
  rw [Bool.and_eq_true] at hB
  obtain ⟨hB, hx⟩ := hB
  unfold takeB at hB
  rw [Bool.and_eq_true, Bool.and_eq_true] at hB
  have hr : i ∈ Region.ready .any ops listed := by simpa using hB.2
  exact wpAnyX_first hi (Region.noSelect_spec hB.1.1) hQ (fun e he => ⟨ops.size, List.all_eq_true.1 hx e he⟩) fuel listed a w (Region.free_spec hi hB.1.2) hc hr (.inl ⟨hw, hy⟩) hC (h (hc.set hr))
/-- the one that can come up now -/
theorem wpX_one {i fuel : Nat} {oi : Oper} {listed : Array Bool} {a : Act} {w : World} (hi : ops[i]? = some oi) (hr : Region.ready .any ops listed = [i]) (hg : oi.guard = none)
    (h : ∀ K : Act → World → Prop, (∀ a' w', C w' → WX P ops Q C ex fuel (listed.setIfInBounds i true) a' w' → K a' w') → Oper.wp P oi a w K Q) : WX P ops Q C ex (fuel + 1) listed a w := fun hc => by
  refine ⟨fun h0 => (by rw [hr] at h0; cases h0), fun j hj => ?_⟩
  have hri : i ∈ Region.ready .any ops listed := by rw [hr]; simp
  rw [hr] at hj
  have hji : j = i := by simpa using hj
  subst hji
  unfold wpOp
  simp only [hi, Region.wanted, hg, if_true]
  exact .inl (h _ (fun a' w' hC hK => ⟨fun _ _ => hC, hK (hc.set hri)⟩))
def seqX (ops : Array Oper) : List Nat → Array Bool → Bool
  | [], listed => (Region.ready .any ops listed).isEmpty
  | i :: l, listed => decide (Region.ready .any ops listed = [i]) && seqX ops l (listed.setIfInBounds i true)
/-- the last ones, in front of which all that reads has come up -/
theorem wpX_rest : ∀ {t : List Nat} {l : List Oper} {listed : Array Bool} {a : Act} {w : World} (_ : l.map some = t.map (fun i => ops[i]?)) (_ : seqX ops t listed = true) (_ : t.all (fun i => ex.contains i) = true) (_ : wpList P ops Q l a w), WX P ops Q C ex t.length listed a w
  | [], l, listed, a, w, hl, hB, _, h => fun _ => by
    have : l = [] := by simpa using hl
    subst this
    exact ⟨by simpa [seqX] using hB, h⟩
  | i :: t, [], listed, a, w, hl, hB, hx, h => by simp at hl
  | i :: t, o :: l, listed, a, w, hl, hB, hx, h => fun hc => by
    simp only [List.map_cons, List.cons.injEq] at hl
    unfold seqX at hB
    rw [Bool.and_eq_true, decide_eq_true_eq] at hB
    rw [List.all_cons, Bool.and_eq_true] at hx
    refine ⟨fun h0 => (by rw [hB.1] at h0; cases h0), fun j hj => ?_⟩
    have hri : i ∈ Region.ready .any ops listed := by rw [hB.1]; simp
    rw [hB.1] at hj
    have hji : j = i := by simpa using hj
    subst hji
    have hw : wpOp P ops Q j (wpList P ops Q l) a w := by unfold wpOp; simp only [← hl.1]; exact h
    have hj2 : j ∈ ex := by simpa using hx.1
    exact wpOp_mono (fun a' w' h' => ⟨fun hn => absurd hj2 hn, wpX_rest hl.2 hB.2 hx.2 h' (hc.set hri)⟩) hw
/-- the beginning -/
theorem wpX_start (C : World → Prop) (ex : List Nat) {id : Nat} {a : Act} {w : World} (hm : P.follows .mixedOrders = true)
    (h : WX P ops Q C ex ops.size (Array.replicate ops.size false) a w.drew) : (Code.region id ops true).wp P Q a w :=
  wp_region_any hm (wpAny_of_X _ _ _ _ (h (ClosedX.first _)))
end
end Go.Proofs.Ytceobhmbnkheiaa
