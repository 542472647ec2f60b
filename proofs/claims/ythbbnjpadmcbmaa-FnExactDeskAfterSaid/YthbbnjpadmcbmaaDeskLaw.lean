/-
  A desk's run over a journal: plain laws.
-/
import Derived.Test.YthbbnjpadmcbmaaFreshI
namespace Go.Proofs.Ythbbnjpadmcbmaa
open Go.RowKit Go.Sort
def learn3 (d : List Int × List Int × Int) (x : Int × Int × Int) : Option (List Int × List Int × Int) := learnF d.1 d.2.1 d.2.2 x.1 x.2.1 x.2.2
def learnAll : List (Int × Int × Int) → List Int × List Int × Int → Option (List Int × List Int × Int)
  | [], d => some d
  | x :: r, d => match learn3 d x with | some d' => learnAll r d' | none => none
theorem learnAll_some {xs : List (Int × Int × Int)} {k : Nat} {d d' : List Int × List Int × Int} (h : k < xs.length) (hd : learn3 d xs[k] = some d') : learnAll (xs.drop k) d = learnAll (xs.drop (k + 1)) d' := by
  rw [List.drop_eq_getElem_cons h]
  show (match learn3 d xs[k] with | some d' => learnAll (xs.drop (k + 1)) d' | none => none) = _
  rw [hd]
theorem learnAll_none {xs : List (Int × Int × Int)} {k : Nat} {d : List Int × List Int × Int} (h : k < xs.length) (hd : learn3 d xs[k] = none) : learnAll (xs.drop k) d = none := by
  rw [List.drop_eq_getElem_cons h]
  show (match learn3 d xs[k] with | some d' => learnAll (xs.drop (k + 1)) d' | none => none) = _
  rw [hd]
def DeskOk (n : Nat) (d : List Int × List Int × Int) : Prop := d.1.length = n ∧ d.2.1.length = n ∧ (∀ x ∈ d.1, 0 ≤ x ∧ x ≤ 7) ∧ 0 ≤ d.2.2 ∧ d.2.2 ≤ n
theorem deskOk_new (n : Nat) : DeskOk n (List.replicate n 0, List.replicate n (-1), 0) := by
  refine ⟨by simp, by simp, ?_, by simp, by simp⟩
  intro x hx
  simp at hx
  omega
theorem learn3_ok {n : Nat} {st : Int} {d d' : List Int × List Int × Int} {x : Int × Int × Int} (hd : DeskOk n d) (hx : recOk st n x.1 x.2.1 x.2.2 = true) (h : learn3 d x = some d') : DeskOk n d' := by
  obtain ⟨h1, h2, h3, h4, h5⟩ := hd
  unfold recOk at hx
  rw [Bool.and_eq_true] at hx
  obtain ⟨ha, hb⟩ := hx
  have hs := inR_iff.1 ha
  unfold learn3 learnF at h
  split at h
  · rename_i hk
    rw [if_pos hk] at hb
    have hv := inR_iff.1 hb
    split at h
    · simp at h
      subst h
      refine ⟨by simp [h1], by dsimp only; split <;> simp [h2], ?_, h4, h5⟩
      intro y hy
      rcases List.mem_or_eq_of_mem_set hy with hy | rfl
      · exact h3 y hy
      · omega
    · simp at h
  · split at h
    · split at h
      · simp at h
        subst h
        exact ⟨h1, by simp [h2], h3, h4, h5⟩
      · simp at h
    · split at h
      · rename_i hq
        simp at h
        subst h
        exact ⟨h1, h2, h3, by show 0 ≤ d.2.2 + 1; omega, by show d.2.2 + 1 ≤ n; omega⟩
      · simp at h
/-- what stands where a desk's run ends -/
def DeskO (w : World) (base : Nat) (vl vr : Value) (l r : List Int) : Prop := OwnI w base vl l ∧ OwnI w base vr r ∧ r.length = l.length ∧ ∀ g, vl.ownBlock = some g → vr.ownBlock ≠ some g
theorem DeskO.nil (w : World) (base : Nat) : DeskO w base (.slice none 0 0) (.slice none 0 0) [] [] := ⟨OwnI.nil _ _, OwnI.nil _ _, rfl, fun g h => by simp [Value.ownBlock] at h⟩
theorem DeskO.below {w w' : World} {base : Nat} {vl vr : Value} {l r : List Int} (h : DeskO w base vl vr l r) (hb : Below w.heap.size w w') : DeskO w' base vl vr l r := ⟨h.1.below hb, h.2.1.below hb, h.2.2⟩
theorem DeskO.lower {w : World} {base base' : Nat} {vl vr : Value} {l r : List Int} (h : DeskO w base vl vr l r) (hb : base' ≤ base) : DeskO w base' vl vr l r := ⟨h.1.lower hb, h.2.1.lower hb, h.2.2⟩
theorem DeskO.setBelow {w : World} {base : Nat} {vl vr : Value} {l r : List Int} (h : DeskO w base vl vr l r) {a : Addr} (ha : a.block < base) (u : Value) : DeskO (w.setCell a u) base vl vr l r := ⟨ownsRow_setCell_below h.1 ha u, ownsRow_setCell_below h.2.1 ha u, h.2.2⟩
theorem DeskIs.out {w : World} {base b o gl cl gr cr : Nat} {lv rs : List Int} {outs : Int} (h : DeskIs w base b o gl cl gr cr lv rs outs) : DeskO w base (.slice (some ⟨gl, 0, none⟩) lv.length cl) (.slice (some ⟨gr, 0, none⟩) lv.length cr) lv rs :=
  ⟨h.ol, h.or_, h.len, fun g hg hg' => h.lr (by simp [Value.ownBlock] at hg hg'; omega)⟩
def DeskRunP (w : World) (n : Nat) (xs : List (Int × Int × Int)) (e : Ending) (w' : World) : Prop :=
  ∃ (res : Option (List Int × List Int × Int)) (vl vr : Value), res = learnAll xs (List.replicate n 0, List.replicate n (-1), 0) ∧
    e = .returned (.tuple #[deskV vl vr (res.getD ([], [], 0)).2.2, .bool res.isSome]) ∧ DeskO w' w.heap.size vl vr (res.getD ([], [], 0)).1 (res.getD ([], [], 0)).2.1 ∧ Below w.heap.size w w'
def DeskRunSP (w : World) (n : Nat) (xs : List (Int × Int × Int)) (e : Ending) (w' : World) : Prop :=
  ∃ (vl vr : Value) (l r : List Int) (q : Int), e = .returned (.tuple #[deskV vl vr q, .bool (learnAll xs (List.replicate n 0, List.replicate n (-1), 0)).isSome]) ∧ DeskO w' w.heap.size vl vr l r ∧ Below w.heap.size w w' ∧
    ∀ d, learnAll xs (List.replicate n 0, List.replicate n (-1), 0) = some d → d = (l, r, q)
end Go.Proofs.Ythbbnjpadmcbmaa
