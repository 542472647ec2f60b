/-
  What finishes a plant: plain laws. With it: A plant: its states, what deeds do to them, and what stays true. Plain laws. A desk's run over a journal: the program's deskAfter. A desk's run over a journal: the reference's l09Desk. DeskAfter, both sides. Plants after deeds: plain laws.
-/
import Derived.Test.YtijpkcdalmlaiaaZRowFnPlantPackets22
import Derived.Test.YtijpkcdalmlaiaaZRowFnPlantPackets14
import Derived.Test.YtijpkcdalmlaiaaZRowFnPlantPackets3
import Derived.Test.YtijpkcdalmlaiaaZRowFnPlantPackets8
set_option linter.unusedVariables false
set_option linter.unusedSimpArgs false
namespace Go.Proofs.Ytijpkcdalmlaiaa
open Go.RowKit Go.Sort
/-- a packet: back, worker, sample, level, met, state -/
abbrev Pk := Bool × Int × Int × Int × Bool × Int
abbrev Hd := Bool × Int × Int
structure PS where
  l : List Int
  r : List Int
  q : Int
  recs : List (Int × Int × Int)
  sy : Nat
  hands : List Hd
  wire : List Pk
  out : List Int
def noHand : Hd := (false, 0, 0)
def newS (sm wk : Nat) : PS := ⟨List.replicate sm 0, List.replicate sm (-1), 0, [], 0, List.replicate wk noHand, [], []⟩
/-- the next sample among the first ones -/
def nextS (l r : List Int) : Nat → Int
  | 0 => -1
  | k + 1 => if r.getD k 0 = -1 ∧ (nextS l r k < 0 ∨ l.getD k 0 < l.getD (nextS l r k).toNat 0) then (k : Int) else nextS l r k
theorem nextS_in (l r : List Int) : ∀ k : Nat, nextS l r k = -1 ∨ (0 ≤ nextS l r k ∧ nextS l r k < k ∧ r.getD (nextS l r k).toNat 0 = -1)
  | 0 => .inl rfl
  | k + 1 => by
    unfold nextS
    split
    · rename_i h
      right
      exact ⟨by omega, by omega, by rw [Int.toNat_natCast]; exact h.1⟩
    · rcases nextS_in l r k with h | ⟨h1, h2, h3⟩
      · exact .inl h
      · exact .inr ⟨h1, by omega, h3⟩
theorem nextS_lt {l r : List Int} : ∀ {k : Nat}, nextS l r k < 0 → ∀ i, i < k → r.getD i 0 ≠ -1
  | 0, _, i, hi => by omega
  | k + 1, h, i, hi => by
    unfold nextS at h
    split at h
    · omega
    · rename_i hn
      rcases Nat.lt_succ_iff_lt_or_eq.1 hi with h1 | rfl
      · exact nextS_lt h i h1
      · exact fun e => hn ⟨e, .inl h⟩
def learnS (S : PS) (x : Int × Int × Int) : PS :=
  match learnF S.l S.r S.q x.1 x.2.1 x.2.2 with
  | some d => { S with l := d.1, r := d.2.1, q := d.2.2 }
  | none => S
def writeS (S : PS) (x : Int × Int × Int) : PS := learnS { S with recs := S.recs ++ [x] } x
def sendS (S : PS) (p : Pk) : Int × PS := if S.wire.length = 12 then (3, S) else (0, { S with wire := S.wire ++ [p] })
def comeS (p : Pk) (S : PS) : PS :=
  if p.1 = false then
    (if (S.hands.getD p.2.1.toNat noHand).1 = false then { S with hands := S.hands.set p.2.1.toNat (true, p.2.2.1, p.2.2.2.1) } else S)
  else if S.r.getD p.2.2.1.toNat 0 ≠ -1 ∨ S.l.getD p.2.2.1.toNat 0 ≠ p.2.2.2.1 then S
  else if p.2.2.2.2.1 = true then writeS S (2, p.2.2.1, p.2.2.2.2.2) else writeS S (1, p.2.2.1, p.2.2.2.1 + 1)
def giveS (sm wk : Nat) (a : Int) (S : PS) : Int × PS :=
  if (wk : Int) ≤ a then (2, S) else if nextS S.l S.r sm < 0 then (4, S)
  else sendS S (false, a, nextS S.l S.r sm, S.l.getD (nextS S.l S.r sm).toNat 0, false, 0)
def handOff (a : Int) (S : PS) : PS := { S with hands := S.hands.set a.toNat noHand }
def lvR (t : Int) (xss : List (List Int)) (bs : Int) (h : Hd) : List Int := lvlRun t xss (bs + h.2.1) h.2.2.toNat
def workS (t : Int) (xss : List (List Int)) (bs : Int) (wk : Nat) (a : Int) (S : PS) : Int × PS :=
  if (wk : Int) ≤ a then (2, S)
  else if (S.hands.getD a.toNat noHand).1 = false then (4, S)
  else if S.wire.length = 12 then (3, S)
  else (0, handOff a { S with wire := S.wire ++ [(true, a, (S.hands.getD a.toNat noHand).2.1, (S.hands.getD a.toNat noHand).2.2, winMet (lvR t xss bs (S.hands.getD a.toNat noHand)), winState (lvR t xss bs (S.hands.getD a.toNat noHand)))] })
def noPk : Pk := (false, 0, 0, 0, false, 0)
def wireS (k a : Int) (S : PS) : Int × PS :=
  if (S.wire.length : Int) ≤ a then (2, S)
  else (0, (fun T : PS => if k = 5 then T else comeS (S.wire.getD a.toNat noPk) T) (if k = 4 then S else { S with wire := S.wire.eraseIdx a.toNat }))
def outS (sm : Nat) (S : PS) : Int × PS :=
  if S.q = (sm : Int) ∨ S.r.getD S.q.toNat 0 = -1 then (4, S)
  else (0, (fun T : PS => { T with sy := T.recs.length }) (writeS { S with out := S.out ++ [S.r.getD S.q.toNat 0] } (3, S.q, 0)))
def crashS (sm : Nat) (S : PS) : PS :=
  match learnAll (S.recs.take S.sy) (List.replicate sm 0, List.replicate sm (-1), 0) with
  | some d => { S with recs := S.recs.take S.sy, l := d.1, r := d.2.1, q := d.2.2 }
  | none => S
def doS (t : Int) (xss : List (List Int)) (bs : Int) (sm wk : Nat) (d : Int × Int) (S : PS) : Int × PS :=
  if d.1 = 1 then giveS sm wk d.2 S
  else if d.1 = 2 then workS t xss bs wk d.2 S
  else if d.1 = 3 ∨ d.1 = 4 ∨ d.1 = 5 then wireS d.1 d.2 S
  else if d.1 = 6 then (0, { S with sy := S.recs.length })
  else if d.1 = 7 then outS sm S
  else if d.1 = 8 then (0, crashS sm S)
  else if d.1 = 9 then (if S.sy = S.recs.length then (4, S) else (0, crashS sm S))
  else (if (wk : Int) ≤ d.2 then (2, S) else (0, handOff d.2 S))
def HdOk (sm : Nat) (h : Hd) : Prop := 0 ≤ h.2.1 ∧ h.2.1 < sm ∧ 0 ≤ h.2.2 ∧ h.2.2 ≤ 6
def PkOk (n sm wk : Nat) (p : Pk) : Prop := 0 ≤ p.2.1 ∧ p.2.1 < wk ∧ 0 ≤ p.2.2.1 ∧ p.2.2.1 < sm ∧ 0 ≤ p.2.2.2.1 ∧ p.2.2.2.1 ≤ 6 ∧ 0 ≤ p.2.2.2.2.2 ∧ p.2.2.2.2.2 < n
abbrev Dk := List Int × List Int × Int
def newD (sm : Nat) : Dk := (List.replicate sm 0, List.replicate sm (-1), 0)
/-- what is true of a desk -/
structure DeskG (n sm : Nat) (d : Dk) : Prop where
  ok : DeskOk sm d
  six : ∀ i, i < sm → d.2.1.getD i 0 = -1 → d.1.getD i 0 ≤ 6
  res : ∀ x ∈ d.2.1, -2 ≤ x ∧ x < n
theorem deskG_new (n sm : Nat) : DeskG n sm (newD sm) := by
  refine ⟨deskOk_new sm, ?_, ?_⟩
  · intro i hi _
    simp [newD, hi]
  · intro x hx
    simp [newD] at hx
    omega
theorem getD_set_self {xs : List Int} {i : Nat} {x d : Int} (h : i < xs.length) : (xs.set i x).getD i d = x := by
  simp [h]
theorem getD_set_ne {xs : List Int} {i j : Nat} {x d : Int} (h : i ≠ j) : (xs.set i x).getD j d = xs.getD j d := by
  simp [List.getD_eq_getElem?_getD, List.getElem?_set_ne h]
theorem learn3_g {n sm : Nat} {d d' : Dk} {x : Int × Int × Int} (hd : DeskG n sm d) (hx : recOk n sm x.1 x.2.1 x.2.2 = true) (h : learn3 d x = some d') : DeskG n sm d' := by
  have hk := learn3_ok hd.ok hx h
  obtain ⟨⟨h1, h2, h3, h4, h5⟩, h6, h7⟩ := hd
  unfold recOk at hx
  rw [Bool.and_eq_true] at hx
  obtain ⟨ha, hb⟩ := hx
  have hs := inR_iff.1 ha
  have hj : x.2.1.toNat < sm := by omega
  unfold learn3 learnF at h
  split at h
  · rename_i hk1
    rw [if_pos hk1] at hb
    have hv := inR_iff.1 hb
    split at h
    · rename_i hc
      simp at h
      subst h
      refine ⟨hk, ?_, ?_⟩
      · intro i hi hr
        dsimp only at hr ⊢
        by_cases e : x.2.1.toNat = i
        · subst e
          rw [getD_set_self (by omega)]
          by_cases h7' : x.2.2 = 7
          · rw [if_pos h7', getD_set_self (by omega)] at hr
            omega
          · omega
        · rw [getD_set_ne e]
          refine h6 i hi ?_
          split at hr
          · rw [getD_set_ne e] at hr; exact hr
          · exact hr
      · intro y hy
        dsimp only at hy
        split at hy
        · rcases List.mem_or_eq_of_mem_set hy with hy | rfl
          · exact h7 y hy
          · omega
        · exact h7 y hy
    · simp at h
  · rename_i hk1
    rw [if_neg hk1] at hb
    split at h
    · rename_i hk2
      rw [if_pos hk2] at hb
      have hv := inR_iff.1 hb
      split at h
      · simp at h
        subst h
        refine ⟨hk, ?_, ?_⟩
        · intro i hi hr
          dsimp only at hr ⊢
          by_cases e : x.2.1.toNat = i
          · subst e
            rw [getD_set_self (by omega)] at hr
            omega
          · rw [getD_set_ne e] at hr
            exact h6 i hi hr
        · intro y hy
          rcases List.mem_or_eq_of_mem_set hy with hy | rfl
          · exact h7 y hy
          · omega
      · simp at h
    · split at h
      · simp at h
        subst h
        exact ⟨hk, h6, h7⟩
      · simp at h
theorem learnAll_g {n sm : Nat} : ∀ {xs : List (Int × Int × Int)} {d d' : Dk}, DeskG n sm d → (∀ x ∈ xs, recOk n sm x.1 x.2.1 x.2.2 = true) → learnAll xs d = some d' → DeskG n sm d'
  | [], d, d', hd, _, h => by cases h; exact hd
  | x :: r, d, d', hd, hx, h => by
    have h' : (match learn3 d x with | some e => learnAll r e | none => none) = some d' := h
    cases he : learn3 d x with
    | none => rw [he] at h'; cases h'
    | some e =>
      rw [he] at h'
      exact learnAll_g (learn3_g hd (hx x (by simp)) he) (fun y hy => hx y (by simp [hy])) h'
/-- how much a desk has learned -/
def potD (d : Dk) : Int := d.1.sum + (d.2.1.countP fun x => decide (x ≠ -1) : Nat) + d.2.2
theorem sum_setP : ∀ {xs : List Int} {i : Nat} (x : Int), i < xs.length → (xs.set i x).sum = xs.sum + (x - xs.getD i 0)
  | y :: ys, 0, x, _ => by simp; omega
  | y :: ys, i + 1, x, h => by
    have := sum_setP (xs := ys) (i := i) x (by simpa using h)
    simp only [List.set_cons_succ, List.sum_cons, this, List.getD_cons_succ]; omega
theorem count_set : ∀ {xs : List Int} {i : Nat} {x : Int}, i < xs.length → x ≠ -1 → xs.getD i 0 = -1 → (xs.set i x).countP (fun x => decide (x ≠ -1)) = xs.countP (fun x => decide (x ≠ -1)) + 1
  | y :: ys, 0, x, _, hx, hy => by
    simp at hy
    subst hy
    simp [hx]
  | y :: ys, i + 1, x, h, hx, hy => by
    have := count_set (xs := ys) (i := i) (x := x) (by simpa using h) hx (by simpa using hy)
    simp only [List.set_cons_succ, List.countP_cons, this]; omega
theorem learn3_pot {n sm : Nat} {d d' : Dk} {x : Int × Int × Int} (hd : DeskG n sm d) (hx : recOk n sm x.1 x.2.1 x.2.2 = true) (h : learn3 d x = some d') : potD d + 1 ≤ potD d' := by
  obtain ⟨⟨h1, h2, h3, h4, h5⟩, h6, h7⟩ := hd
  unfold recOk at hx
  rw [Bool.and_eq_true] at hx
  obtain ⟨ha, hb⟩ := hx
  have hs := inR_iff.1 ha
  have hj : x.2.1.toNat < sm := by omega
  unfold learn3 learnF at h
  split at h
  · rename_i hk1
    split at h
    · rename_i hc
      simp at h
      subst h
      unfold potD
      dsimp only
      rw [sum_setP _ (by omega)]
      split
      · rw [count_set (by omega) (by decide) hc.1]; omega
      · omega
    · simp at h
  · rename_i hk1
    rw [if_neg hk1] at hb
    split at h
    · rename_i hk2
      rw [if_pos hk2] at hb
      have hv := inR_iff.1 hb
      split at h
      · rename_i hc
        simp at h
        subst h
        unfold potD
        dsimp only
        rw [count_set (by omega) (by omega) hc]; omega
      · simp at h
    · split at h
      · simp at h
        subst h
        unfold potD
        dsimp only
        omega
      · simp at h
theorem learnAll_pot {n sm : Nat} : ∀ {xs : List (Int × Int × Int)} {d d' : Dk}, DeskG n sm d → (∀ x ∈ xs, recOk n sm x.1 x.2.1 x.2.2 = true) → learnAll xs d = some d' → potD d + xs.length ≤ potD d'
  | [], d, d', hd, _, h => by cases h; simp
  | x :: r, d, d', hd, hx, h => by
    have h' : (match learn3 d x with | some e => learnAll r e | none => none) = some d' := h
    cases he : learn3 d x with
    | none => rw [he] at h'; cases h'
    | some e =>
      rw [he] at h'
      have h1 := learn3_pot hd (hx x (by simp)) he
      have h2 := learnAll_pot (learn3_g hd (hx x (by simp)) he) (fun y hy => hx y (by simp [hy])) h'
      simp only [List.length_cons]
      omega
theorem sum_le : ∀ {xs : List Int} {c : Int}, (∀ x ∈ xs, 0 ≤ x ∧ x ≤ c) → 0 ≤ xs.sum ∧ xs.sum ≤ xs.length * c
  | [], c, _ => by simp
  | x :: r, c, h => by
    have h1 := h x (by simp)
    have h2 := sum_le (xs := r) (c := c) (fun y hy => h y (by simp [hy]))
    simp only [List.sum_cons, List.length_cons]
    have : ((r.length + 1 : Nat) : Int) * c = r.length * c + c := by rw [Int.natCast_add, Int.add_mul]; simp
    omega
theorem DeskG.pot {n sm : Nat} {d : Dk} (hd : DeskG n sm d) : 0 ≤ potD d ∧ potD d ≤ 9 * sm := by
  obtain ⟨⟨h1, h2, h3, h4, h5⟩, h6, h7⟩ := hd
  have := sum_le h3
  have h8 := List.countP_le_length (p := fun x : Int => decide (x ≠ -1)) (l := d.2.1)
  unfold potD
  rw [h1] at this
  omega
theorem pot_new (sm : Nat) : potD (newD sm) = 0 := by
  have h : (List.replicate sm (-1 : Int)).countP (fun x => decide (x ≠ -1)) = 0 := by
    rw [List.countP_eq_zero]
    intro x hx
    simp at hx
    simp [hx.2]
  unfold potD newD
  simp only [h]
  simp
theorem hist_len {n sm : Nat} {xs : List (Int × Int × Int)} {d : Dk} (hx : ∀ x ∈ xs, recOk n sm x.1 x.2.1 x.2.2 = true) (h : learnAll xs (newD sm) = some d) : xs.length ≤ 9 * sm := by
  have h1 := learnAll_pot (deskG_new n sm) hx h
  have h2 := (learnAll_g (deskG_new n sm) hx h).pot
  rw [pot_new] at h1
  omega
/-- what is true of a plant -/
structure PInv (n sm wk : Nat) (S : PS) : Prop where
  hist : learnAll S.recs (newD sm) = some (S.l, S.r, S.q)
  recs : ∀ x ∈ S.recs, recOk n sm x.1 x.2.1 x.2.2 = true
  sy : S.sy ≤ S.recs.length
  old : ∃ l r, learnAll (S.recs.take S.sy) (newD sm) = some (l, r, S.q)
  outs : (S.out.length : Int) = S.q
  outB : ∀ x ∈ S.out, -2 ≤ x ∧ x < n
  hl : S.hands.length = wk
  hands : ∀ h ∈ S.hands, HdOk sm h
  wl : S.wire.length ≤ 12
  wire : ∀ p ∈ S.wire, PkOk n sm wk p
theorem PInv.desk {n sm wk : Nat} {S : PS} (h : PInv n sm wk S) : DeskG n sm (S.l, S.r, S.q) := learnAll_g (deskG_new n sm) h.recs h.hist
theorem PInv.len {n sm wk : Nat} {S : PS} (h : PInv n sm wk S) : S.recs.length ≤ 9 * sm := hist_len h.recs h.hist
theorem noHand_ok {sm : Nat} (h : 1 ≤ sm) : HdOk sm noHand := ⟨Int.le_refl 0, by show (0 : Int) < sm; omega, Int.le_refl 0, by decide⟩
theorem PInv.new {n sm wk : Nat} (h1 : 1 ≤ sm) : PInv n sm wk (newS sm wk) := by
  refine ⟨rfl, by simp [newS], by simp [newS], ⟨_, _, rfl⟩, rfl, by simp [newS], by simp [newS], ?_, by simp [newS], by simp [newS]⟩
  intro h hh
  simp [newS] at hh
  rw [hh.2]
  exact noHand_ok h1
theorem learnAll_one {out : List (Int × Int × Int)} {d d1 d2 : Dk} {x : Int × Int × Int} (h : learnAll out d = some d1) (h2 : learn3 d1 x = some d2) : learnAll (out ++ [x]) d = some d2 := by
  rw [learnAll_app, h]
  show (match learn3 d1 x with | some d' => learnAll [] d' | none => none) = _
  rw [h2]; rfl
/-- a record that does not hand out is written -/
theorem PInv.write {n sm wk : Nat} {S : PS} (h : PInv n sm wk S) {x : Int × Int × Int} {l r : List Int} (hx : recOk n sm x.1 x.2.1 x.2.2 = true) (hl : learn3 (S.l, S.r, S.q) x = some (l, r, S.q)) :
    writeS S x = { S with l := l, r := r, recs := S.recs ++ [x] } ∧ PInv n sm wk { S with l := l, r := r, recs := S.recs ++ [x] } := by
  refine ⟨?_, ⟨learnAll_one h.hist hl, ?_, ?_, ?_, h.outs, h.outB, h.hl, h.hands, h.wl, h.wire⟩⟩
  · unfold writeS learnS
    have hl' : learnF S.l S.r S.q x.1 x.2.1 x.2.2 = some (l, r, S.q) := hl
    dsimp only
    rw [hl']
  · intro y hy
    rcases List.mem_append.1 hy with hy | hy
    · exact h.recs y hy
    · rw [List.mem_singleton.1 hy]; exact hx
  · have := h.sy
    simp only [List.length_append]; omega
  · obtain ⟨l', r', ho⟩ := h.old
    refine ⟨l', r', ?_⟩
    rw [List.take_append_of_le_length h.sy]
    exact ho
theorem mem_getD {α : Type} {xs : List α} {i : Nat} {d : α} (h : i < xs.length) : xs.getD i d ∈ xs := by
  rw [List.getD_eq_getElem?_getD, List.getElem?_eq_getElem h]
  exact List.getElem_mem h
theorem PInv.come {n sm wk : Nat} {S : PS} (hs : PInv n sm wk S) {p : Pk} (hp : PkOk n sm wk p) : PInv n sm wk (comeS p S) := by
  obtain ⟨p1, p2, p3, p4, p5, p6, p7, p8⟩ := hp
  have hd := hs.desk
  have hD := hd.ok
  unfold comeS
  split
  · split
    · refine ⟨hs.hist, hs.recs, hs.sy, hs.old, hs.outs, hs.outB, by simp [hs.hl], ?_, hs.wl, hs.wire⟩
      intro h hh
      rcases List.mem_or_eq_of_mem_set hh with hh | rfl
      · exact hs.hands h hh
      · exact ⟨p3, p4, p5, p6⟩
    · exact hs
  · split
    · exact hs
    · rename_i hc
      have hr : S.r.getD p.2.2.1.toNat 0 = -1 := Classical.byContradiction fun e => hc (.inl e)
      have hl : S.l.getD p.2.2.1.toNat 0 = p.2.2.2.1 := Classical.byContradiction fun e => hc (.inr e)
      have hin : inR p.2.2.1 0 ((sm : Int) - 1) = true := inR_iff.2 ⟨p3, by omega⟩
      split
      · have hh : learn3 (S.l, S.r, S.q) (2, p.2.2.1, p.2.2.2.2.2) = some (S.l, S.r.set p.2.2.1.toNat p.2.2.2.2.2, S.q) := by
          unfold learn3 learnF
          dsimp only
          rw [if_neg (by decide), if_pos rfl, if_pos hr]
        have hk : recOk n sm 2 p.2.2.1 p.2.2.2.2.2 = true := by
          unfold recOk
          rw [hin, if_neg (by decide), if_pos rfl, inR_iff.2 ⟨p7, by omega⟩]
          rfl
        obtain ⟨e, hi⟩ := hs.write hk hh
        rw [e]
        exact hi
      · have hh : learn3 (S.l, S.r, S.q) (1, p.2.2.1, p.2.2.2.1 + 1) = some (S.l.set p.2.2.1.toNat (p.2.2.2.1 + 1), if p.2.2.2.1 + 1 = 7 then S.r.set p.2.2.1.toNat (-2) else S.r, S.q) := by
          unfold learn3 learnF
          dsimp only
          rw [if_pos rfl, if_pos ⟨hr, by rw [hl]⟩]
        have hk : recOk n sm 1 p.2.2.1 (p.2.2.2.1 + 1) = true := by
          unfold recOk
          rw [hin, if_pos rfl, inR_iff.2 ⟨by omega, by omega⟩]
          rfl
        obtain ⟨e, hi⟩ := hs.write hk hh
        rw [e]
        exact hi
theorem PInv.crash {n sm wk : Nat} {S : PS} (hs : PInv n sm wk S) : PInv n sm wk (crashS sm S) ∧ ∃ l r, learnAll (S.recs.take S.sy) (newD sm) = some (l, r, S.q) ∧ crashS sm S = { S with recs := S.recs.take S.sy, l := l, r := r } := by
  obtain ⟨l, r, ho⟩ := hs.old
  have he : crashS sm S = { S with recs := S.recs.take S.sy, l := l, r := r } := by
    unfold crashS
    rw [show (List.replicate sm (0 : Int), List.replicate sm (-1 : Int), (0 : Int)) = newD sm from rfl, ho]
  refine ⟨?_, l, r, ho, he⟩
  rw [he]
  refine ⟨ho, fun x hx => hs.recs x (List.mem_of_mem_take hx), ?_, ⟨l, r, ?_⟩, hs.outs, hs.outB, hs.hl, hs.hands, hs.wl, hs.wire⟩
  · have := hs.sy
    simp [List.length_take]; omega
  · dsimp only
    rw [List.take_take, Nat.min_self]
    exact ho
theorem PInv.send {n sm wk : Nat} {S : PS} (hs : PInv n sm wk S) {p : Pk} (hp : PkOk n sm wk p) (hl : S.wire.length ≠ 12) : PInv n sm wk { S with wire := S.wire ++ [p] } := by
  refine ⟨hs.hist, hs.recs, hs.sy, hs.old, hs.outs, hs.outB, hs.hl, hs.hands, ?_, ?_⟩
  · have := hs.wl
    simp only [List.length_append, List.length_cons, List.length_nil]; omega
  · intro y hy
    rcases List.mem_append.1 hy with hy | hy
    · exact hs.wire y hy
    · rw [List.mem_singleton.1 hy]; exact hp
theorem PInv.off {n sm wk : Nat} {S : PS} (hs : PInv n sm wk S) (h1 : 1 ≤ sm) (a : Int) : PInv n sm wk (handOff a S) := by
  refine ⟨hs.hist, hs.recs, hs.sy, hs.old, hs.outs, hs.outB, by simp [handOff, hs.hl], ?_, hs.wl, hs.wire⟩
  intro h hh
  rcases List.mem_or_eq_of_mem_set hh with hh | rfl
  · exact hs.hands h hh
  · exact noHand_ok h1
theorem winState_in {s t : Int} {xss : List (List Int)} (h : chainOk s t xss = true) (seed : Int) (k : Nat) : 0 ≤ winState (lvlRun t xss seed k) ∧ winState (lvlRun t xss seed k) < s := by
  obtain ⟨⟨hs1, hs2⟩, ⟨ht1, ht2⟩, hl, _⟩ := chainOk_parts0 h
  have hi := runAll_in h (drawsL_B (x := seed) (t := t) (n := 2 ^ k) ht1)
  have hn := runAll_length xss xss.length (drawsL seed t (2 ^ k))
  unfold winState
  split
  · have h0 : 0 < (lvlRun t xss seed k).length := by unfold lvlRun; omega
    have := hi _ (List.getElem_mem (show 0 < (runAll xss (drawsL seed t (2 ^ k)) xss.length).length by omega))
    have e := head_get h0
    unfold lvlRun at e ⊢
    rw [← e]
    omega
  · omega
theorem PInv.do_ {t : Int} {xss : List (List Int)} {n sm wk : Nat} {bs : Int} {S : PS} (hc : chainOk n t xss = true) (hs : PInv n sm wk S) (h1 : 1 ≤ sm) {d : Int × Int} (hd : 0 ≤ d.2) : PInv n sm wk (doS t xss bs sm wk d S).2 := by
  have hg := hs.desk
  have hok := hg.ok
  unfold doS
  split
  · unfold giveS
    split
    · exact hs
    · split
      · exact hs
      · rename_i ha hn
        unfold sendS
        split
        · exact hs
        · rename_i hw
          rcases nextS_in S.l S.r sm with e | ⟨e1, e2, e3⟩
          · omega
          · have h6 := hg.six (nextS S.l S.r sm).toNat (by omega) e3
            dsimp only at h6
            have h7 : 0 ≤ S.l.getD (nextS S.l S.r sm).toNat 0 := by
              have hlen : S.l.length = sm := hok.1
              have hm := mem_getD (xs := S.l) (i := (nextS S.l S.r sm).toNat) (d := 0) (by omega)
              exact (hok.2.2.1 _ hm).1
            have hn := (chainOk_parts0 hc).1
            have hp : PkOk n sm wk (false, d.2, nextS S.l S.r sm, S.l.getD (nextS S.l S.r sm).toNat 0, false, 0) := ⟨hd, by show d.2 < (wk : Int); omega, e1, e2, h7, h6, Int.le_refl 0, by show (0 : Int) < (n : Int); omega⟩
            exact hs.send hp hw
  · split
    · unfold workS
      split
      · exact hs
      · split
        · exact hs
        · split
          · exact hs
          · rename_i ha hb hw
            have hh := hs.hands _ (mem_getD (d := noHand) (i := d.2.toNat) (by rw [hs.hl]; omega))
            obtain ⟨q1, q2, q3, q4⟩ := hh
            have hwn := winState_in hc (bs + (S.hands.getD d.2.toNat noHand).2.1) (S.hands.getD d.2.toNat noHand).2.2.toNat
            have hp : PkOk n sm wk (true, d.2, (S.hands.getD d.2.toNat noHand).2.1, (S.hands.getD d.2.toNat noHand).2.2, winMet (lvR t xss bs (S.hands.getD d.2.toNat noHand)), winState (lvR t xss bs (S.hands.getD d.2.toNat noHand))) := ⟨hd, by show d.2 < (wk : Int); omega, q1, q2, q3, q4, hwn.1, hwn.2⟩
            exact PInv.off (hs.send hp hw) h1 _
    · split
      · unfold wireS
        split
        · exact hs
        · rename_i ha
          have hT : PInv n sm wk (if d.1 = 4 then S else { S with wire := S.wire.eraseIdx d.2.toNat }) := by
            split
            · exact hs
            · refine ⟨hs.hist, hs.recs, hs.sy, hs.old, hs.outs, hs.outB, hs.hl, hs.hands, ?_, fun p hp => hs.wire p (List.mem_of_mem_eraseIdx hp)⟩
              have := hs.wl
              have h2 := List.length_eraseIdx_le S.wire d.2.toNat
              exact Nat.le_trans h2 this
          dsimp only
          split
          · exact hT
          · exact hT.come (hs.wire _ (mem_getD (by omega)))
      · split
        · obtain ⟨l, r, q⟩ := S
          exact ⟨hs.hist, hs.recs, Nat.le_refl _, ⟨_, _, by rw [List.take_length]; exact hs.hist⟩, hs.outs, hs.outB, hs.hl, hs.hands, hs.wl, hs.wire⟩
        · split
          · unfold outS
            split
            · exact hs
            · rename_i hn
              have hq : S.q ≠ (sm : Int) := fun e => hn (.inl e)
              have hr : S.r.getD S.q.toNat 0 ≠ -1 := fun e => hn (.inr e)
              have hq0 : 0 ≤ S.q := hok.2.2.2.1
              have hq1 : S.q ≤ (sm : Int) := hok.2.2.2.2
              have hlr : S.r.length = sm := hok.2.1
              have hh : learn3 (S.l, S.r, S.q) (3, S.q, 0) = some (S.l, S.r, S.q + 1) := by
                unfold learn3 learnF
                dsimp only
                rw [if_neg (by decide), if_neg (by decide), if_pos ⟨hr, rfl⟩]
              have hk : recOk n sm 3 S.q 0 = true := by
                unfold recOk
                rw [inR_iff.2 ⟨hq0, by omega⟩]
                rfl
              have he : writeS { S with out := S.out ++ [S.r.getD S.q.toNat 0] } (3, S.q, 0) = { S with out := S.out ++ [S.r.getD S.q.toNat 0], recs := S.recs ++ [(3, S.q, 0)], q := S.q + 1 } := by
                unfold writeS learnS
                have hl' : learnF S.l S.r S.q 3 S.q 0 = some (S.l, S.r, S.q + 1) := hh
                dsimp only
                rw [hl']
              dsimp only
              rw [he]
              have hal := learnAll_one hs.hist hh
              refine ⟨hal, ?_, Nat.le_refl _, ⟨_, _, by dsimp only; rw [List.take_length]; exact hal⟩, ?_, ?_, hs.hl, hs.hands, hs.wl, hs.wire⟩
              · intro y hy
                rcases List.mem_append.1 hy with hy | hy
                · exact hs.recs y hy
                · rw [List.mem_singleton.1 hy]; exact hk
              · have := hs.outs
                simp only [List.length_append, List.length_cons, List.length_nil]; omega
              · intro y hy
                rcases List.mem_append.1 hy with hy | hy
                · exact hs.outB y hy
                · rw [List.mem_singleton.1 hy]
                  exact hg.res _ (mem_getD (by dsimp only; omega))
          · split
            · exact hs.crash.1
            · split
              · split
                · exact hs
                · exact hs.crash.1
              · split
                · exact hs
                · exact hs.off h1 _
end Go.Proofs.Ytijpkcdalmlaiaa
namespace Go.Proofs.Ytijpkcdalmlaiaa
open Go.RowKit Go.Sort
theorem DeskIs.of_pair {w : World} {B n : Nat} {vl vr : Value} (h : Pair w B n vl vr) (hn : 1 ≤ n) : ∃ gl cl gr cr, vl = .slice (some ⟨gl, 0, none⟩) n cl ∧ vr = .slice (some ⟨gr, 0, none⟩) n cr ∧ gl ≠ gr ∧ B ≤ gl ∧ B ≤ gr ∧ gl < w.heap.size ∧ gr < w.heap.size ∧
    DeskIs (w.alloc (.cells #[vl, vr, .int .i64 0] 56)) B w.heap.size 0 gl cl gr cr (List.replicate n 0) (List.replicate n (-1)) 0 := by
  obtain ⟨k, rfl⟩ : ∃ k, n = k + 1 := ⟨n - 1, by omega⟩
  obtain ⟨gl, cl, rfl⟩ := rep_form h.ol
  obtain ⟨gr, cr, rfl⟩ := rep_form h.or_
  have l1 := h.lt.1 gl rfl
  have l2 := h.lt.2 gr rfl
  have hne : gl ≠ gr := fun e => h.ne (g := gl) rfl (by simp [Value.ownBlock, e])
  have ba : Below w.heap.size w (w.alloc (.cells #[.slice (some ⟨gl, 0, none⟩) (k + 1) cl, .slice (some ⟨gr, 0, none⟩) (k + 1) cr, .int .i64 0] 56)) := (Below.refl _ _).alloc (Nat.le_refl _) _
  refine ⟨gl, cl, gr, cr, rfl, rfl, hne, l1.1, l2.1, l1.2, l2.2, ⟨?_, ?_, ?_, by simp, hne, by omega, by omega⟩⟩
  · unfold DeskAt
    simp only [List.length_replicate]
    refine ⟨by simp, ?_, ?_, ?_, ?_⟩ <;> simp [go_sem]
  · simp only [List.length_replicate]; exact h.ol.below ba
  · simp only [List.length_replicate]; exact h.or_.below ba
set_option maxHeartbeats 8000000 in
theorem deskAfter_any {a : Option Addr} {c m n : Nat} {rv : Value} {xs : List (Int × Int × Int)} (s t bs wk : Int) (w : World) (hr : FRecord.Sl w rv xs) (hn1 : 1 ≤ n) (hn : n ≤ 8) (hs6 : s ≤ 6) (hok : ∀ x ∈ xs, recOk s n x.1 x.2.1 x.2.2 = true) :
    Calls Try.prog 115 #[.agg #[.int .i64 s, .int .i64 t, .slice a m c, .int .i64 bs, .int .i64 n, .int .i64 wk], rv] w (DeskRunP w n xs) := by
  have HR := Lib.hid (fun W (h : Below w.heap.size w W) => hr.below h)
  obtain ⟨ra, rc, rfl, hrc, hrc', _⟩ := hr
  unfold maxLen at hrc'
  have bA : Below w.heap.size w ((w.alloc (.cells #[.int .i64 s, .int .i64 t, .slice a m c, .int .i64 bs, .int .i64 n, .int .i64 wk] 35)).alloc (.cells #[.slice none 0 0, .slice none 0 0, .int .i64 0] 56)) := ((Below.refl _ _).alloc (Nat.le_refl _) _).alloc (by simp) _
  have QW := Lib.hid (fun W (h : Below ((w.alloc (.cells #[.int .i64 s, .int .i64 t, .slice a m c, .int .i64 bs, .int .i64 n, .int .i64 wk] 35)).alloc (.cells #[.slice none 0 0, .slice none 0 0, .int .i64 0] 56)).heap.size ((w.alloc (.cells #[.int .i64 s, .int .i64 t, .slice a m c, .int .i64 bs, .int .i64 n, .int .i64 wk] 35)).alloc (.cells #[.slice none 0 0, .slice none 0 0, .int .i64 0] 56)) W) =>
    show (W.cell? ⟨w.heap.size + 1, 0, none⟩ = some (.slice none 0 0) ∧ W.cell? ⟨w.heap.size + 1, 1, none⟩ = some (.slice none 0 0) ∧ W.cell? ⟨w.heap.size + 1, 2, none⟩ = some (.int .i64 0)) ∧ W.frozen? ⟨w.heap.size + 1, 0, none⟩ = false ∧ W.frozen? ⟨w.heap.size + 1, 1, none⟩ = false ∧ W.frozen? ⟨w.heap.size + 1, 2, none⟩ = false from by
      have a0 := h.cell (p := ⟨w.heap.size + 1, 0, none⟩) (by simp)
      have a1 := h.cell (p := ⟨w.heap.size + 1, 1, none⟩) (by simp)
      have a2 := h.cell (p := ⟨w.heap.size + 1, 2, none⟩) (by simp)
      have f0 := h.frozen (p := ⟨w.heap.size + 1, 0, none⟩) (by simp)
      have f1 := h.frozen (p := ⟨w.heap.size + 1, 1, none⟩) (by simp)
      have f2 := h.frozen (p := ⟨w.heap.size + 1, 2, none⟩) (by simp)
      simp [go_sem] at a0 a1 a2 f0 f1 f2
      exact ⟨⟨a0, a1, a2⟩, f0, f1, f2⟩)
  have HOK := Lib.hid hok
  clear hok
  go_enter Try.func115, Try.ntmps115
  go_wp2_with fail
  refine (newDesk_any s t bs wk _ (by omega)).mono ?_
  rintro e w1 ⟨vl, vr, rfl, p1, b1⟩
  obtain ⟨gl, cl, gr, cr, rfl, rfl, hne, hl1, hr1, hl2, hr2, hd⟩ := DeskIs.of_pair p1 hn1
  have zb := b1.size
  have hb1 := b1
  simp at hl1 hr1 zb
  have HD := Lib.hid hd
  unfold deskV
  clear p1 hd b1
  go_wp2
  go_loopw [13] (fun i wr => ∃ (k : Nat) (l r : List Int) (q : Int), k ≤ xs.length ∧ i = .int .i64 k ∧ Hid (learnAll xs (List.replicate n 0, List.replicate n (-1), 0) = learnAll (xs.drop k) (l, r, q)) ∧ DeskOk n (l, r, q) ∧ DeskIs wr (w.heap.size + 2) w1.heap.size 0 gl cl gr cr l r q ∧ Below ((w.alloc (.cells #[.int .i64 s, .int .i64 t, .slice a m c, .int .i64 bs, .int .i64 n, .int .i64 wk] 35)).alloc (.cells #[.slice none 0 0, .slice none 0 0, .int .i64 0] 56)).heap.size ((w.alloc (.cells #[.int .i64 s, .int .i64 t, .slice a m c, .int .i64 bs, .int .i64 n, .int .i64 wk] 35)).alloc (.cells #[.slice none 0 0, .slice none 0 0, .int .i64 0] 56)) wr) (fun i _ => xs.length - (intOf i).toNat)
  case atStart => exact ⟨0, _, _, _, Nat.zero_le _, rfl, rfl, deskOk_new n, by simpa using HD.out, hb1.alloc (by simp; omega) _⟩
  case round =>
    obtain ⟨k, l, r, q, hk, rfl, hrd, hdk, hds, hbr⟩ := hrel
    by_cases hlt : k < xs.length
    · have i1 : (k : Int) < (xs.length : Int) := by omega
      obtain ⟨ba, oa, rfl, z0, c0, c1, c2⟩ := FRecord_at (HR.out _ (bA.trans (hbr.mono bA.size))) hlt
      have hx := HOK.out _ (List.getElem_mem hlt)
      generalize hxe : xs[k] = x at hx c0 c1 c2
      obtain ⟨x0, x1, x2⟩ := x
      obtain ⟨hkind, j, v, e1, e2, _, _⟩ := recOk_nat hx (by omega) hs6
      dsimp only at e1 e2 hkind c0 c1 c2 hx
      subst e1
      subst e2
      have hr3 := Lib.hid hxe
      obtain ⟨k1, k2, k3, k4, k5⟩ := id hdk
      have hxr := inR_iff.1 (by unfold recOk at hx; rw [Bool.and_eq_true] at hx; exact hx.1)
      replace k1 : l.length = n := k1
      replace k2 : r.length = n := k2
      replace k5 : q ≤ (n : Int) := k5
      have hjn : j < l.length := by omega
      have brec : Below wr.heap.size wr (wr.alloc (.cells #[.int .i64 x0, .int .i64 j, .int .i64 v] 121)) := (Below.refl _ _).alloc (Nat.le_refl _) _
      have hd2 := Lib.hid (hds.below brec)
      clear hxe hds
      go_wp2_with fail
      refine (learn_any x0 q v _ hkind hd2.out hjn (by omega) (fun y hy => by have := k3 y hy; omega) k4 (by omega)).mono ?_
      rintro e w3 ⟨rfl, hfr, hdk3⟩
      have hb3 : Below ((w.alloc (.cells #[.int .i64 s, .int .i64 t, .slice a m c, .int .i64 bs, .int .i64 n, .int .i64 wk] 35)).alloc (.cells #[.slice none 0 0, .slice none 0 0, .int .i64 0] 56)).heap.size ((w.alloc (.cells #[.int .i64 s, .int .i64 t, .slice a m c, .int .i64 bs, .int .i64 n, .int .i64 wk] 35)).alloc (.cells #[.slice none 0 0, .slice none 0 0, .int .i64 0] 56)) w3 := (hbr.trans (brec.mono hbr.size)).trans (hfr.below (by have := hbr.size; simp at this ⊢; omega) (fun y hy => by simp; rcases hy with rfl | rfl | rfl <;> omega))
      obtain ⟨⟨q0, q1, q2⟩, qf0, qf1, qf2⟩ := QW.out _ hb3
      cases hf : learnF l r q x0 j v with
      | none =>
        have hll := learnAll_none hlt (show learn3 (l, r, q) xs[k] = none by rw [hr3.out]; exact hf)
        rw [hf] at hdk3
        have hd4 := Lib.hid (hdk3 l r q rfl)
        have HLL := Lib.hid (hrd.out.trans hll)
        have HF := Lib.hid hf
        clear hf hdk3 hfr hll
        go_wp2
        refine bodyPost_ret (v := .tuple #[deskV (.slice none 0 0) (.slice none 0 0) 0, .bool false]) (by simp [results, Try.results115, go_sem, deskV, q0, q1, q2]) rfl ⟨none, .slice none 0 0, .slice none 0 0, HLL.out.symm, rfl, DeskO.nil _ _, ?_⟩
        exact (((bA.trans (hb3.mono bA.size)).setCell (by simp) _).setCell (by simp) _).setCell (by simp) _
      | some d =>
        obtain ⟨l', r', q'⟩ := d
        have hll := learnAll_some hlt (show learn3 (l, r, q) xs[k] = some (l', r', q') by rw [hr3.out]; exact hf)
        have hdk' := learn3_ok hdk (x := (x0, (j : Int), (v : Int))) hx hf
        rw [hf] at hdk3
        have hd4 := Lib.hid (hdk3 l' r' q' rfl)
        have HLL := Lib.hid (hrd.out.trans hll)
        clear hf hdk3 hfr hll
        go_wp2
        go_roundw
        case rel => exact ⟨k + 1, l', r', q', by omega, by go_num, HLL, hdk', hd4.out, hb3⟩
        case measure => simp [intOf]; omega
    · obtain rfl : k = xs.length := by omega
      obtain ⟨k1, k2, _, _, _⟩ := hdk
      replace k1 : l.length = n := k1
      obtain ⟨_, d0, d1, d2, _⟩ := id hds.at_
      simp only [Nat.zero_add] at d0 d1 d2
      rw [k1] at d0 d1
      obtain ⟨⟨q0, q1, q2⟩, qf0, qf1, qf2⟩ := QW.out _ hbr
      have ho := hds.out.lower (base' := w.heap.size + 2) (by omega)
      rw [k1] at ho
      have HO := Lib.hid ho
      have K1 := Lib.hid k1
      clear k1 k2 hds ho
      go_wp2
      refine bodyPost_ret (v := .tuple #[deskV (.slice (some ⟨gl, 0, none⟩) n cl) (.slice (some ⟨gr, 0, none⟩) n cr) q, .bool true]) (by simp [results, Try.results115, go_sem, deskV, q0, q1, q2]) rfl ⟨some (l, r, q), _, _, ?_, rfl, ?_, ?_⟩
      · rw [hrd.out]; simp [learnAll]
      · exact (((HO.out.setBelow (by simp) _).setBelow (by simp) _).setBelow (by simp) _).lower (by omega)
      · exact (((bA.trans (hbr.mono bA.size)).setCell (by simp) _).setCell (by simp) _).setCell (by simp) _
end Go.Proofs.Ytijpkcdalmlaiaa
namespace Go.Proofs.Ytijpkcdalmlaiaa
open Go.RowKit Go.Sort
set_option maxHeartbeats 8000000 in
theorem l09Desk_any {u : Value} {n b o : Nat} {rv : Value} {xs : List (Int × Int × Int)} (s t bs wk : Int) (w : World) (hc : ServAt w b o s t u bs n wk) (hr : FRecord.Sl w rv xs) (hn1 : 1 ≤ n) (hn : n ≤ 8) (hs6 : s ≤ 6) (hok : ∀ x ∈ xs, recOk s n x.1 x.2.1 x.2.2 = true) :
    Calls Try.prog 120 #[.pointer (some ⟨b, o, none⟩), rv] w (DeskRunSP w n xs) := by
  have HR := Lib.hid (fun W (h : Below w.heap.size w W) => hr.below h)
  obtain ⟨ra, rc, rfl, hrc, hrc', _⟩ := hr
  unfold maxLen at hrc'
  have bA : Below w.heap.size w (w.alloc (.cells #[.slice none 0 0, .slice none 0 0, .int .i64 0] 56)) := (Below.refl _ _).alloc (Nat.le_refl _) _
  have HC := Lib.hid (hc.below bA)
  have QW := Lib.hid (fun W (h : Below (w.alloc (.cells #[.slice none 0 0, .slice none 0 0, .int .i64 0] 56)).heap.size (w.alloc (.cells #[.slice none 0 0, .slice none 0 0, .int .i64 0] 56)) W) =>
    show (W.cell? ⟨w.heap.size, 0, none⟩ = some (.slice none 0 0) ∧ W.cell? ⟨w.heap.size, 1, none⟩ = some (.slice none 0 0) ∧ W.cell? ⟨w.heap.size, 2, none⟩ = some (.int .i64 0)) ∧ W.frozen? ⟨w.heap.size, 0, none⟩ = false ∧ W.frozen? ⟨w.heap.size, 1, none⟩ = false ∧ W.frozen? ⟨w.heap.size, 2, none⟩ = false from by
      have a0 := h.cell (p := ⟨w.heap.size, 0, none⟩) (by simp)
      have a1 := h.cell (p := ⟨w.heap.size, 1, none⟩) (by simp)
      have a2 := h.cell (p := ⟨w.heap.size, 2, none⟩) (by simp)
      have f0 := h.frozen (p := ⟨w.heap.size, 0, none⟩) (by simp)
      have f1 := h.frozen (p := ⟨w.heap.size, 1, none⟩) (by simp)
      have f2 := h.frozen (p := ⟨w.heap.size, 2, none⟩) (by simp)
      simp [go_sem] at a0 a1 a2 f0 f1 f2
      exact ⟨⟨a0, a1, a2⟩, f0, f1, f2⟩)
  have HOK := Lib.hid hok
  clear hok hc
  go_enter Try.func120, Try.ntmps120
  go_wp2_with fail
  refine (l09Fresh_any b o n s t bs wk _ HC.out (by omega)).mono ?_
  rintro e w1 ⟨vl, vr, rfl, p1, b1⟩
  obtain ⟨gl, cl, gr, cr, rfl, rfl, hne, hl1, hr1, hl2, hr2, hd⟩ := DeskIs.of_pair p1 hn1
  have zb := b1.size
  have hb1 := b1
  simp at hl1 hr1 zb
  have HD := Lib.hid hd
  unfold deskV
  clear p1 hd b1
  go_wp2
  go_loopw [7] (fun i wr => ∃ (k : Nat) (l r : List Int) (q : Int), k ≤ xs.length ∧ i = .int .i64 k ∧ Hid (learnAll xs (List.replicate n 0, List.replicate n (-1), 0) = learnAll (xs.drop k) (l, r, q)) ∧ DeskOk n (l, r, q) ∧ DeskIs wr (w.heap.size + 1) w1.heap.size 0 gl cl gr cr l r q ∧ Below (w.alloc (.cells #[.slice none 0 0, .slice none 0 0, .int .i64 0] 56)).heap.size (w.alloc (.cells #[.slice none 0 0, .slice none 0 0, .int .i64 0] 56)) wr) (fun i _ => xs.length - (intOf i).toNat)
  case atStart => exact ⟨0, _, _, _, Nat.zero_le _, rfl, rfl, deskOk_new n, by simpa using HD.out, hb1.alloc (by simp; omega) _⟩
  case round =>
    obtain ⟨k, l, r, q, hk, rfl, hrd, hdk, hds, hbr⟩ := hrel
    by_cases hlt : k < xs.length
    · have i1 : (k : Int) < (xs.length : Int) := by omega
      obtain ⟨ba, oa, rfl, z0, c0, c1, c2⟩ := FRecord_at (HR.out _ (bA.trans (hbr.mono bA.size))) hlt
      have hx := HOK.out _ (List.getElem_mem hlt)
      generalize hxe : xs[k] = x at hx c0 c1 c2
      obtain ⟨x0, x1, x2⟩ := x
      obtain ⟨hkind, j, v, e1, e2, _, _⟩ := recOk_nat hx (by omega) hs6
      dsimp only at e1 e2 hkind c0 c1 c2 hx
      subst e1
      subst e2
      have hr3 := Lib.hid hxe
      obtain ⟨k1, k2, k3, k4, k5⟩ := id hdk
      have hxr := inR_iff.1 (by unfold recOk at hx; rw [Bool.and_eq_true] at hx; exact hx.1)
      replace k1 : l.length = n := k1
      replace k2 : r.length = n := k2
      replace k5 : q ≤ (n : Int) := k5
      have hjn : j < l.length := by omega
      have hd2 := Lib.hid hds
      clear hxe hds
      go_wp2_with fail
      refine (l09Learn_any x0 q v _ hkind hd2.out hjn (by omega) (fun y hy => by have := k3 y hy; omega) k4 (by omega)).mono ?_
      rintro e w3 ⟨rfl, hfr, hdk3⟩
      have hb3 : Below (w.alloc (.cells #[.slice none 0 0, .slice none 0 0, .int .i64 0] 56)).heap.size (w.alloc (.cells #[.slice none 0 0, .slice none 0 0, .int .i64 0] 56)) w3 := hbr.trans (hfr.below (by have := hbr.size; simp at this ⊢; omega) (fun y hy => by simp; rcases hy with rfl | rfl | rfl <;> omega))
      obtain ⟨⟨q0, q1, q2⟩, qf0, qf1, qf2⟩ := QW.out _ hb3
      cases hf : learnF l r q x0 j v with
      | none =>
        have hll := learnAll_none hlt (show learn3 (l, r, q) xs[k] = none by rw [hr3.out]; exact hf)
        rw [hf] at hdk3
        have hd4 := hdk3 l r q rfl
        obtain ⟨_, d0, d1, d2, _⟩ := id hd4.at_
        simp only [Nat.zero_add] at d0 d1 d2
        rw [k1] at d0 d1
        have ho := hd4.out.lower (base' := w.heap.size + 1) (by omega)
        rw [k1] at ho
        have HO := Lib.hid ho
        have HLL := Lib.hid (hrd.out.trans hll)
        have HF := Lib.hid hf
        clear hf hdk3 hfr hll hd4 ho k1 k2 hdk
        go_wp2
        refine bodyPost_ret (v := .tuple #[deskV (.slice (some ⟨gl, 0, none⟩) n cl) (.slice (some ⟨gr, 0, none⟩) n cr) q, .bool false]) (by simp [results, Try.results120, go_sem, deskV, q0, q1, q2]) rfl ⟨_, _, l, r, q, by rw [HLL.out]; rfl, ?_, ?_, ?_⟩
        · exact (((HO.out.setBelow (by simp) _).setBelow (by simp) _).setBelow (by simp) _).lower (by omega)
        · exact (((bA.trans (hb3.mono bA.size)).setCell (by simp) _).setCell (by simp) _).setCell (by simp) _
        · intro d h; rw [HLL.out] at h; cases h
      | some d =>
        obtain ⟨l', r', q'⟩ := d
        have hll := learnAll_some hlt (show learn3 (l, r, q) xs[k] = some (l', r', q') by rw [hr3.out]; exact hf)
        have hdk' := learn3_ok hdk (x := (x0, (j : Int), (v : Int))) hx hf
        rw [hf] at hdk3
        have hd4 := Lib.hid (hdk3 l' r' q' rfl)
        have HLL := Lib.hid (hrd.out.trans hll)
        clear hf hdk3 hfr hll
        go_wp2
        go_roundw
        case rel => exact ⟨k + 1, l', r', q', by omega, by go_num, HLL, hdk', hd4.out, hb3⟩
        case measure => simp [intOf]; omega
    · obtain rfl : k = xs.length := by omega
      obtain ⟨k1, k2, _, _, _⟩ := hdk
      replace k1 : l.length = n := k1
      obtain ⟨_, d0, d1, d2, _⟩ := id hds.at_
      simp only [Nat.zero_add] at d0 d1 d2
      rw [k1] at d0 d1
      obtain ⟨⟨q0, q1, q2⟩, qf0, qf1, qf2⟩ := QW.out _ hbr
      have ho := hds.out.lower (base' := w.heap.size + 1) (by omega)
      rw [k1] at ho
      have HO := Lib.hid ho
      have K1 := Lib.hid k1
      clear k1 k2 hds ho
      go_wp2
      have HLL : Hid (learnAll xs (List.replicate n 0, List.replicate n (-1), 0) = some (l, r, q)) := by unfold Hid; rw [hrd.out]; simp [learnAll]
      refine bodyPost_ret (v := .tuple #[deskV (.slice (some ⟨gl, 0, none⟩) n cl) (.slice (some ⟨gr, 0, none⟩) n cr) q, .bool true]) (by simp [results, Try.results120, go_sem, deskV, q0, q1, q2]) rfl ⟨_, _, l, r, q, by rw [HLL.out]; rfl, ?_, ?_, ?_⟩
      · exact (((HO.out.setBelow (by simp) _).setBelow (by simp) _).setBelow (by simp) _).lower (by omega)
      · exact (((bA.trans (hbr.mono bA.size)).setCell (by simp) _).setCell (by simp) _).setCell (by simp) _
      · intro d h; rw [HLL.out] at h; simpa using h.symm
end Go.Proofs.Ytijpkcdalmlaiaa
namespace Go.Proofs.Ytijpkcdalmlaiaa
open Go.RowKit Go.Sort
def deskR (s t : Int) (xss : List (List Int)) (bs sm wk : Int) (xs : List (Int × Int × Int)) : (List Int × List Int × Int) × Int :=
  if validRecsB s t xss bs sm wk xs = true then (match learnAll xs (List.replicate sm.toNat 0, List.replicate sm.toNat (-1), 0) with | some d => (d, 0) | none => (([], [], 0), 4)) else (([], [], 0), 1)
def DeskAftP (w : World) (R : (List Int × List Int × Int) × Int) (e : Ending) (w' : World) : Prop :=
  ∃ vl vr, e = .returned (.tuple #[deskV vl vr R.1.2.2, .int .i64 R.2]) ∧ DeskO w' w.heap.size vl vr R.1.1 R.1.2.1 ∧ Below w.heap.size w w'
theorem DeskAftP.no {w w' : World} {R : (List Int × List Int × Int) × Int} {c : Int} (hR : R = (([], [], 0), c)) (hb : Below w.heap.size w w') : DeskAftP w R (.returned (.tuple #[deskV (.slice none 0 0) (.slice none 0 0) 0, .int .i64 c])) w' := by
  subst hR
  exact ⟨_, _, rfl, DeskO.nil _ _, hb⟩
theorem recsOk_all {s sm : Int} {xs : List (Int × Int × Int)} (h : recsOk s sm xs = true) : ∀ x ∈ xs, recOk s sm x.1 x.2.1 x.2.2 = true := by
  intro x hx
  unfold recsOk at h
  simp only [Bool.not_eq_true', List.any_eq_false, Bool.not_eq_true'] at h
  have := h x hx
  simpa using this
theorem deskBox_facts (w : World) : ∀ W, Below (w.alloc (.cells #[.slice none 0 0, .slice none 0 0, .int .i64 0] 56)).heap.size (w.alloc (.cells #[.slice none 0 0, .slice none 0 0, .int .i64 0] 56)) W →
    (W.cell? ⟨w.heap.size, 0, none⟩ = some (.slice none 0 0) ∧ W.cell? ⟨w.heap.size, 1, none⟩ = some (.slice none 0 0) ∧ W.cell? ⟨w.heap.size, 2, none⟩ = some (.int .i64 0)) ∧ W.frozen? ⟨w.heap.size, 0, none⟩ = false ∧ W.frozen? ⟨w.heap.size, 1, none⟩ = false ∧ W.frozen? ⟨w.heap.size, 2, none⟩ = false := by
  intro W h
  have a0 := h.cell (p := ⟨w.heap.size, 0, none⟩) (by simp)
  have a1 := h.cell (p := ⟨w.heap.size, 1, none⟩) (by simp)
  have a2 := h.cell (p := ⟨w.heap.size, 2, none⟩) (by simp)
  have f0 := h.frozen (p := ⟨w.heap.size, 0, none⟩) (by simp)
  have f1 := h.frozen (p := ⟨w.heap.size, 1, none⟩) (by simp)
  have f2 := h.frozen (p := ⟨w.heap.size, 2, none⟩) (by simp)
  simp [go_sem] at a0 a1 a2 f0 f1 f2
  exact ⟨⟨a0, a1, a2⟩, f0, f1, f2⟩
theorem DeskO.form {w : World} {base : Nat} {vl vr : Value} {l r : List Int} (h : DeskO w base vl vr l r) : ∃ la n lc ra rc, vl = .slice la n lc ∧ vr = .slice ra n rc := by
  obtain ⟨la, lc, rfl, _⟩ := h.1.sl
  obtain ⟨ra, rc, rfl, _⟩ := h.2.1.sl
  rw [h.2.2.1]
  exact ⟨_, _, _, _, _, rfl, rfl⟩
end Go.Proofs.Ytijpkcdalmlaiaa
namespace Go.Proofs.Ytijpkcdalmlaiaa
open Go.RowKit Go.Sort
/-- the plant after deeds -/
def afterS (t : Int) (xss : List (List Int)) (bs : Int) (sm wk : Nat) : List (Int × Int) → PS → PS
  | [], S => S
  | d :: r, S => afterS t xss bs sm wk r (doS t xss bs sm wk d S).2
/-- their codes -/
def codesS (t : Int) (xss : List (List Int)) (bs : Int) (sm wk : Nat) : List (Int × Int) → PS → List Int
  | [], _ => []
  | d :: r, S => (doS t xss bs sm wk d S).1 :: codesS t xss bs sm wk r (doS t xss bs sm wk d S).2
section
variable {t : Int} {xss : List (List Int)} {bs : Int} {sm wk : Nat}
theorem afterS_app : ∀ (xs ys : List (Int × Int)) (S : PS), afterS t xss bs sm wk (xs ++ ys) S = afterS t xss bs sm wk ys (afterS t xss bs sm wk xs S)
  | [], _, _ => rfl
  | x :: r, ys, S => afterS_app r ys _
theorem codesS_app : ∀ (xs ys : List (Int × Int)) (S : PS), codesS t xss bs sm wk (xs ++ ys) S = codesS t xss bs sm wk xs S ++ codesS t xss bs sm wk ys (afterS t xss bs sm wk xs S)
  | [], _, _ => rfl
  | x :: r, ys, S => by
    show _ :: codesS t xss bs sm wk (r ++ ys) _ = _
    rw [codesS_app r ys]; rfl
theorem codesS_len : ∀ (xs : List (Int × Int)) (S : PS), (codesS t xss bs sm wk xs S).length = xs.length
  | [], _ => rfl
  | x :: r, S => by
    show (_ :: codesS t xss bs sm wk r _).length = _
    simp [codesS_len r]
theorem afterS_succ {xs : List (Int × Int)} {k : Nat} (h : k < xs.length) (S : PS) : afterS t xss bs sm wk (xs.take (k + 1)) S = (doS t xss bs sm wk xs[k] (afterS t xss bs sm wk (xs.take k) S)).2 := by
  rw [List.take_succ_eq_append_getElem h, afterS_app]; rfl
theorem codesS_succ {xs : List (Int × Int)} {k : Nat} (h : k < xs.length) (S : PS) : codesS t xss bs sm wk (xs.take (k + 1)) S = codesS t xss bs sm wk (xs.take k) S ++ [(doS t xss bs sm wk xs[k] (afterS t xss bs sm wk (xs.take k) S)).1] := by
  rw [List.take_succ_eq_append_getElem h, codesS_app]; rfl
theorem afterS_inv {n : Nat} (hc : chainOk n t xss = true) (h1 : 1 ≤ sm) : ∀ (xs : List (Int × Int)) (S : PS), (∀ d ∈ xs, deedOk d.1 d.2 = true) → PInv n sm wk S → PInv n sm wk (afterS t xss bs sm wk xs S)
  | [], _, _, h => h
  | x :: r, S, hd, h => by
    have hx := hd x (by simp)
    unfold deedOk at hx
    rw [Bool.and_eq_true, Bool.and_eq_true] at hx
    exact afterS_inv hc h1 r _ (fun d hm => hd d (by simp [hm])) (h.do_ hc h1 (inR_iff.1 hx.2.1).1)
/-- how many deeds are done -/
def doneS (cs : List Int) : Nat := cs.countP fun c => decide (c = 0)
theorem doneS_le (cs : List Int) : doneS cs ≤ cs.length := List.countP_le_length
theorem doneS_snoc (cs : List Int) (c : Int) : doneS (cs ++ [c]) = doneS cs + if c = 0 then 1 else 0 := by
  unfold doneS
  rw [List.countP_append]
  by_cases h : c = 0 <;> simp [h]
/-- the first code that is not 0 -/
def firstBad : List Int → Nat → Int × Int × Int
  | [], _ => (0, 0, 6)
  | c :: r, k => if c = 0 then firstBad r (k + 1) else ((k : Int), c, 0)
theorem firstBad_step {cs : List Int} {k : Nat} (h : k < cs.length) : firstBad (cs.drop k) k = if cs[k] = 0 then firstBad (cs.drop (k + 1)) (k + 1) else ((k : Int), cs[k], 0) := by
  rw [List.drop_eq_getElem_cons h]; rfl
theorem codesS_get {xs : List (Int × Int)} {k : Nat} (h : k < xs.length) (S : PS) : (codesS t xss bs sm wk xs S)[k]'(by rw [codesS_len]; exact h) = (doS t xss bs sm wk xs[k] (afterS t xss bs sm wk (xs.take k) S)).1 := by
  have e : codesS t xss bs sm wk xs S = codesS t xss bs sm wk (xs.take (k + 1)) S ++ codesS t xss bs sm wk (xs.drop (k + 1)) (afterS t xss bs sm wk (xs.take (k + 1)) S) := by
    rw [← codesS_app, List.take_append_drop]
  have hl : (codesS t xss bs sm wk (xs.take k) S).length = k := by rw [codesS_len, List.length_take]; omega
  have e2 : (codesS t xss bs sm wk xs S)[k]? = some (doS t xss bs sm wk xs[k] (afterS t xss bs sm wk (xs.take k) S)).1 := by
    rw [e, codesS_succ h, List.getElem?_append_left (by simp [hl]), List.getElem?_append_right (by omega), hl, Nat.sub_self]; rfl
  rw [List.getElem?_eq_getElem (by rw [codesS_len]; exact h)] at e2
  exact Option.some.inj e2
end
/-- the plant with which all begins is valid: service parts -/
theorem servOk_nat {n t : Int} {xss : List (List Int)} {bs sm wk : Int} (h : serviceOk n t xss bs sm wk = true) : ∃ n' sm' wk' : Nat, n = (n' : Int) ∧ sm = (sm' : Int) ∧ wk = (wk' : Int) ∧ (1 ≤ sm' ∧ sm' ≤ 8) ∧ (1 ≤ wk' ∧ wk' ≤ 4) ∧ n' ≤ 6 := by
  obtain ⟨h1, h2, h3, h4⟩ := serviceOk_parts h
  have h5 := (chainOk_parts0 h1).1
  exact ⟨n.toNat, sm.toNat, wk.toNat, by omega, by omega, by omega, by omega, by omega, by omega⟩
def refR (n t : Int) (xss : List (List Int)) (bs sm wk : Int) (ds : List (Int × Int)) : Int × Int × Int :=
  if dcode n t xss bs sm wk ds = 0 then firstBad (codesS t xss bs sm.toNat wk.toNat ds (newS sm.toNat wk.toNat)) 0 else (0, 0, dcode n t xss bs sm wk ds)
def handR (n t : Int) (xss : List (List Int)) (bs sm wk : Int) (ds : List (Int × Int)) : List Int × Int :=
  if dcode n t xss bs sm wk ds = 0 then ((afterS t xss bs sm.toNat wk.toNat ds (newS sm.toNat wk.toNat)).out, 0) else ([], dcode n t xss bs sm wk ds)
theorem dcode_zero {n t : Int} {xss : List (List Int)} {bs sm wk : Int} {ds : List (Int × Int)} (h : dcode n t xss bs sm wk ds = 0) : serviceOk n t xss bs sm wk = true ∧ (∀ d ∈ ds, deedOk d.1 d.2 = true) ∧ ds.length ≤ 400 := by
  unfold dcode at h
  split at h
  · rename_i hh
    rw [Bool.and_eq_true] at hh
    split at h
    · omega
    · exact ⟨hh.1, deedsOk_all hh.2, by omega⟩
  · omega
end Go.Proofs.Ytijpkcdalmlaiaa
namespace Go.Proofs.Ytijpkcdalmlaiaa
open Go.RowKit Go.Sort
section
variable (t : Int) (xss : List (List Int)) (bs : Int) (sm wk : Nat)
/-- one round: a sample given, delivered, worked at, delivered -/
def round4 : List (Int × Int) := [(1, 0), (3, 0), (2, 0), (3, 0)]
def roundsF : Nat → PS → List (Int × Int)
  | 0, _ => []
  | f + 1, S => if nextS S.l S.r sm < 0 then [] else round4 ++ roundsF f (afterS t xss bs sm wk round4 S)
def outsF : Nat → PS → List (Int × Int)
  | 0, _ => []
  | f + 1, S => if S.q < (sm : Int) then (7, 0) :: outsF f (doS t xss bs sm wk (7, 0) S).2 else []
def dropsF : Nat → List (Int × Int) := fun k => List.replicate k (5, 0)
/-- the part behind the rounds -/
def tailO (S : PS) : List (Int × Int) := outsF t xss bs sm wk (9 * sm + 1 - S.recs.length) S
def tailR (S : PS) : List (Int × Int) :=
  roundsF t xss bs sm wk (9 * sm + 1 - S.recs.length) S ++ tailO t xss bs sm wk (afterS t xss bs sm wk (roundsF t xss bs sm wk (9 * sm + 1 - S.recs.length) S) S)
def tailQ (S : PS) : List (Int × Int) := (10, 0) :: tailR t xss bs sm wk (doS t xss bs sm wk (10, 0) S).2
/-- all that is done, of a plant -/
def finL (S : PS) : List (Int × Int) := dropsF S.wire.length ++ tailQ t xss bs sm wk (afterS t xss bs sm wk (dropsF S.wire.length) S)
def finR (n t : Int) (xss : List (List Int)) (bs sm wk : Int) (ds : List (Int × Int)) : List (Int × Int) × Int :=
  if dcode n t xss bs sm wk ds = 0 then
    (if 400 < ds.length + (finL t xss bs sm.toNat wk.toNat (afterS t xss bs sm.toNat wk.toNat ds (newS sm.toNat wk.toNat))).length then ([], 3) else (finL t xss bs sm.toNat wk.toNat (afterS t xss bs sm.toNat wk.toNat ds (newS sm.toNat wk.toNat)), 0))
  else ([], dcode n t xss bs sm wk ds)
end
theorem learnS_recs (S : PS) (x : Int × Int × Int) : (learnS S x).recs = S.recs ∧ (learnS S x).hands = S.hands ∧ (learnS S x).wire = S.wire := by
  unfold learnS; split <;> exact ⟨rfl, rfl, rfl⟩
theorem writeS_recs (S : PS) (x : Int × Int × Int) : (writeS S x).recs = S.recs ++ [x] ∧ (writeS S x).hands = S.hands ∧ (writeS S x).wire = S.wire := learnS_recs _ _
theorem round_do {t : Int} {xss : List (List Int)} {bs : Int} {n sm wk : Nat} {S : PS} (I : PInv n sm wk S) (hw : 1 ≤ wk) (hwire : S.wire = []) (hhand : S.hands.getD 0 noHand = noHand) (hn : ¬ nextS S.l S.r sm < 0) :
    (afterS t xss bs sm wk round4 S).wire = [] ∧ (afterS t xss bs sm wk round4 S).hands.getD 0 noHand = noHand ∧ (afterS t xss bs sm wk round4 S).recs.length = S.recs.length + 1 := by
  have hl := I.hl
  obtain ⟨S1, hS1⟩ : ∃ T, T = ({ S with wire := [(false, (0 : Int), nextS S.l S.r sm, S.l.getD (nextS S.l S.r sm).toNat 0, false, (0 : Int))] } : PS) := ⟨_, rfl⟩
  have w0 : ¬ wk = 0 := by omega
  have e1 : (doS t xss bs sm wk (1, 0) S).2 = S1 := by
    rw [hS1]
    simp [doS, giveS, sendS, hwire, hn, w0]
  obtain ⟨S2, hS2⟩ : ∃ T, T = ({ S with wire := [], hands := S.hands.set 0 (true, nextS S.l S.r sm, S.l.getD (nextS S.l S.r sm).toNat 0) } : PS) := ⟨_, rfl⟩
  have hf : (S.hands.getD 0 noHand).1 = false := by rw [hhand]; rfl
  have e2 : (doS t xss bs sm wk (3, 0) S1).2 = S2 := by
    rw [hS1, hS2]
    simp only [List.getD_eq_getElem?_getD] at hf
    simp [doS, wireS, comeS, hf]
  have h0 : 0 < S.hands.length := by omega
  obtain ⟨P, hP⟩ : ∃ P : Pk, P = (true, (0 : Int), nextS S.l S.r sm, S.l.getD (nextS S.l S.r sm).toNat 0, winMet (lvR t xss bs (true, nextS S.l S.r sm, S.l.getD (nextS S.l S.r sm).toNat 0)), winState (lvR t xss bs (true, nextS S.l S.r sm, S.l.getD (nextS S.l S.r sm).toNat 0))) := ⟨_, rfl⟩
  obtain ⟨S3, hS3⟩ : ∃ T, T = ({ S with wire := [P], hands := S.hands.set 0 noHand } : PS) := ⟨_, rfl⟩
  have e3 : (doS t xss bs sm wk (2, 0) S2).2 = S3 := by
    rw [hS2, hS3, hP]
    simp [doS, workS, w0, h0, handOff]
  have e4 : (doS t xss bs sm wk (3, 0) S3).2 = comeS P { S with wire := [], hands := S.hands.set 0 noHand } := by
    rw [hS3]
    simp [doS, wireS]
  have e : afterS t xss bs sm wk round4 S = comeS P { S with wire := [], hands := S.hands.set 0 noHand } := by
    show (doS t xss bs sm wk (3, 0) (doS t xss bs sm wk (2, 0) (doS t xss bs sm wk (3, 0) (doS t xss bs sm wk (1, 0) S).2).2).2).2 = _
    rw [e1, e2, e3, e4]
  have hx := nextS_in S.l S.r sm
  have hx : S.r.getD (nextS S.l S.r sm).toNat 0 = -1 := by
    rcases hx with h | h
    · omega
    · exact h.2.2
  have hg : (S.hands.set 0 noHand).getD 0 noHand = noHand := by
    simp [List.getD_eq_getElem?_getD, h0]
  rw [e]
  unfold comeS
  rw [if_neg (by rw [hP]; simp), if_neg (by rw [hP]; simp only [hx]; simp)]
  split
  · obtain ⟨q1, q2, q3⟩ := writeS_recs { S with wire := [], hands := S.hands.set 0 noHand } (2, P.2.2.1, P.2.2.2.2.2)
    rw [q1, q2, q3]
    exact ⟨rfl, hg, by simp⟩
  · obtain ⟨q1, q2, q3⟩ := writeS_recs { S with wire := [], hands := S.hands.set 0 noHand } (1, P.2.2.1, P.2.2.2.1 + 1)
    rw [q1, q2, q3]
    exact ⟨rfl, hg, by simp⟩
theorem drop_do {t : Int} {xss : List (List Int)} {bs : Int} {sm wk : Nat} {S : PS} (h : 0 < S.wire.length) : doS t xss bs sm wk (5, 0) S = (0, { S with wire := S.wire.drop 1 }) := by
  have h0 : ¬ S.wire = [] := fun e => by rw [e] at h; simp at h
  simp [doS, wireS, h0, List.eraseIdx_zero]
theorem drops_after {t : Int} {xss : List (List Int)} {bs : Int} {sm wk : Nat} : ∀ (k : Nat) (S : PS), k ≤ S.wire.length → afterS t xss bs sm wk (dropsF k) S = { S with wire := S.wire.drop k }
  | 0, S, _ => by simp [dropsF, afterS]
  | k + 1, S, h => by
    show afterS t xss bs sm wk (dropsF k) (doS t xss bs sm wk (5, 0) S).2 = _
    rw [drop_do (by omega)]
    rw [drops_after k _ (by simp; omega)]
    simp [List.drop_drop, Nat.add_comm]
theorem learnS_r3 (S : PS) (s v : Int) : (learnS S (3, s, v)).r = S.r := by
  unfold learnS
  split
  · rename_i d hd
    simp only [learnF] at hd
    rw [if_neg (by decide), if_neg (by decide)] at hd
    split at hd
    · simp at hd; subst hd; rfl
    · simp at hd
  · rfl
theorem out_do {t : Int} {xss : List (List Int)} {bs : Int} {n sm wk : Nat} {S : PS} (I : PInv n sm wk S) (hr : ∀ i, i < sm → S.r.getD i 0 ≠ -1) (hq : S.q < (sm : Int)) :
    (doS t xss bs sm wk (7, 0) S).2.recs.length = S.recs.length + 1 ∧ (doS t xss bs sm wk (7, 0) S).2.r = S.r := by
  have h0 : 0 ≤ S.q := I.desk.ok.2.2.2.1
  have h1 := hr S.q.toNat (by omega)
  have e : doS t xss bs sm wk (7, 0) S = outS sm S := by simp [doS]
  rw [e]
  unfold outS
  rw [if_neg (by intro h; rcases h with h | h; omega; exact h1 h)]
  constructor
  · show (writeS _ _).recs.length = _
    rw [(writeS_recs _ _).1]; simp
  · show (writeS _ _).r = _
    unfold writeS
    rw [learnS_r3]
theorem quit_do {t : Int} {xss : List (List Int)} {bs : Int} {sm wk : Nat} (hw : 1 ≤ wk) (S : PS) : doS t xss bs sm wk (10, 0) S = (0, handOff 0 S) := by
  have h : ¬ (wk : Int) ≤ 0 := by omega
  simp [doS, h]
  omega
/-- the rounds: how the tail goes on -/
theorem tailR_step {t : Int} {xss : List (List Int)} {bs : Int} {n sm wk : Nat} {S : PS} (I : PInv n sm wk S) (hw : 1 ≤ wk) (hwire : S.wire = []) (hhand : S.hands.getD 0 noHand = noHand) (hn : ¬ nextS S.l S.r sm < 0) :
    tailR t xss bs sm wk S = round4 ++ tailR t xss bs sm wk (afterS t xss bs sm wk round4 S) := by
  have hl := I.len
  have hr := (round_do (t := t) (xss := xss) (bs := bs) I hw hwire hhand hn).2.2
  obtain ⟨f, hf⟩ : ∃ f, 9 * sm + 1 - S.recs.length = f + 1 := ⟨9 * sm - S.recs.length, by omega⟩
  have hf2 : 9 * sm + 1 - (afterS t xss bs sm wk round4 S).recs.length = f := by omega
  have e : roundsF t xss bs sm wk (f + 1) S = round4 ++ roundsF t xss bs sm wk f (afterS t xss bs sm wk round4 S) := by
    show (if _ then _ else _) = _
    rw [if_neg hn]
  unfold tailR
  rw [hf, hf2, e, afterS_app, List.append_assoc]
theorem tailR_end {t : Int} {xss : List (List Int)} {bs : Int} {n sm wk : Nat} {S : PS} (I : PInv n sm wk S) (hn : nextS S.l S.r sm < 0) : tailR t xss bs sm wk S = tailO t xss bs sm wk S := by
  have hl := I.len
  obtain ⟨f, hf⟩ : ∃ f, 9 * sm + 1 - S.recs.length = f + 1 := ⟨9 * sm - S.recs.length, by omega⟩
  have e : roundsF t xss bs sm wk (f + 1) S = [] := by
    show (if _ then _ else _) = _
    rw [if_pos hn]
  unfold tailR
  rw [hf, e]
  rfl
theorem tailO_step {t : Int} {xss : List (List Int)} {bs : Int} {n sm wk : Nat} {S : PS} (I : PInv n sm wk S) (hr : ∀ i, i < sm → S.r.getD i 0 ≠ -1) (hq : S.q < (sm : Int)) :
    tailO t xss bs sm wk S = (7, 0) :: tailO t xss bs sm wk (doS t xss bs sm wk (7, 0) S).2 := by
  have hl := I.len
  have ho := (out_do (t := t) (xss := xss) (bs := bs) I hr hq).1
  obtain ⟨f, hf⟩ : ∃ f, 9 * sm + 1 - S.recs.length = f + 1 := ⟨9 * sm - S.recs.length, by omega⟩
  have hf2 : 9 * sm + 1 - (doS t xss bs sm wk (7, 0) S).2.recs.length = f := by omega
  unfold tailO
  rw [hf, hf2]
  show (if _ then _ else _) = _
  rw [if_pos hq]
theorem tailO_end {t : Int} {xss : List (List Int)} {bs : Int} {n sm wk : Nat} {S : PS} (I : PInv n sm wk S) (hq : ¬ S.q < (sm : Int)) : tailO t xss bs sm wk S = [] := by
  have hl := I.len
  obtain ⟨f, hf⟩ : ∃ f, 9 * sm + 1 - S.recs.length = f + 1 := ⟨9 * sm - S.recs.length, by omega⟩
  unfold tailO
  rw [hf]
  show (if _ then _ else _) = _
  rw [if_neg hq]
end Go.Proofs.Ytijpkcdalmlaiaa
