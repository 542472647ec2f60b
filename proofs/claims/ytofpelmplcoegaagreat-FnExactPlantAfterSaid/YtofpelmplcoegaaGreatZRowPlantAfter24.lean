/-
  A slice of deeds, given as an argument, opened. With it: A slice of flat elements, given as an argument, opened.
-/
import Derived.Test.YtofpelmplcoegaaGreatZRowPlantAfter14
import Derived.Test.YtofpelmplcoegaaGreatZRowPlantAfter7
set_option linter.unusedVariables false
set_option linter.unusedSimpArgs false
namespace Go.Proofs.YtofpelmplcoegaaGreat
open Go.ChangeShapes Go.WideShapes Go.ChangeAt Go.RowKit Go.Joins Go.Deep
section
variable {H : Type} {enc : TypeId × Value → H} {w : World} {spare : Nat → Bool} {held : Bool}
theorem open_flat {α : Type} (F : Flat α) (hC : Tryz.prog.cellsOf F.E = F.size) (P : α → Prop)
    (hdec : ∀ {fuel : Nat} {cs : List Value} {x : DataW H × List MemPlace}, DataW.trod enc Tryz.prog w 0 (fun _ => true) held fuel F.E cs = some x → ∃ y, cs = F.enc y ∧ P y)
    {fuel : Nat} {v : Value} {x : DataW H × List MemPlace} (h : DataW.trod enc Tryz.prog w 0 (fun _ => true) held fuel F.T [v] = some x) : ∃ ys, F.Sl w v ys ∧ ∀ y ∈ ys, P y := by
  rcases open_slice F.und h with ⟨hcs, _⟩ | ⟨a, len, cap, m, n, D, Pl, hcs, _, hl, hm, hmm, _, hi⟩
  · simp at hcs
    subst hcs
    exact ⟨[], Flat.Sl.nil _, by simp⟩
  · simp at hcs
    subst hcs
    have hi' : ∀ i, i < len → ∃ y, P y ∧ ∀ j, j < F.size → w.cell? (a.add (i * F.size + j)) = (F.enc y)[j]? := by
      intro i hil
      obtain ⟨cs', hc, ht'⟩ := hi i (by simp at hmm; omega)
      obtain ⟨y, rfl, hy⟩ := hdec ht'
      rw [hC] at hc
      obtain ⟨_, hcl, hat⟩ := World.cells?_some hc
      refine ⟨y, hy, fun j hj => ?_⟩
      have := hat j hj
      rw [add_add] at this
      exact this
    let ys : List α := List.ofFn fun i : Fin len => Classical.choose (hi' i i.2)
    have hyl : ys.length = len := by simp [ys]
    have hy : ∀ i (h : i < ys.length), P ys[i] ∧ ∀ j, j < F.size → w.cell? (a.add (i * F.size + j)) = (F.enc ys[i])[j]? := by
      intro i h
      have h2 : i < len := by omega
      have e : ys[i] = Classical.choose (hi' i h2) := by simp [ys]
      rw [e]
      exact Classical.choose_spec (hi' i h2)
    refine ⟨ys, ⟨some a, cap, by rw [hyl], by omega, hm, rd_of ?_⟩, ?_⟩
    · intro i hil
      rw [F.encs_length] at hil
      have hd := Nat.div_add_mod i F.size
      have hr := Nat.mod_lt i F.pos
      have hq : i / F.size < ys.length := Nat.div_lt_of_lt_mul (by rw [Nat.mul_comm]; exact hil)
      have h1 := (hy _ hq).2 _ hr
      have e : i / F.size * F.size + i % F.size = i := by rw [Nat.mul_comm]; exact hd
      rw [e] at h1
      rw [h1, ← F.encs_get hq hr, e]
    · intro y hm
      obtain ⟨i, hi, rfl⟩ := List.getElem_of_mem hm
      exact (hy i hi).1
end
end Go.Proofs.YtofpelmplcoegaaGreat
namespace Go.Proofs.YtofpelmplcoegaaGreat
open Go.ChangeShapes Go.WideShapes Go.ChangeAt Go.RowKit Go.Joins Go.Deep
section
variable {H : Type} {enc : TypeId × Value → H} {w : World} {spare : Nat → Bool} {held : Bool}
theorem list2 {l : List Value} (h : l.length = 2) : ∃ a b, l = [a, b] := by
  match l, h with
  | [a, b], _ => exact ⟨a, b, rfl⟩

theorem deed_fields : ∃ f0 f1 : Field, Tryz.prog.underlying 75 = some (.struct #[f0, f1]) ∧ f0.offset = 0 ∧ f1.offset = 1 ∧ f0.type = 2 ∧ f1.type = 2 := by
  refine ⟨_, _, Tryz.underlying75, rfl, rfl, rfl, rfl⟩
theorem open_deed {fuel : Nat} {cs : List Value} {x : DataW H × List MemPlace} (h : DataW.trod enc Tryz.prog w 0 (fun _ => true) held fuel 75 cs = some x) :
    ∃ k a : Int, cs = [.int .i64 k, .int .i64 a] ∧ (-9223372036854775808 ≤ k ∧ k ≤ 9223372036854775807) ∧ (-9223372036854775808 ≤ a ∧ a ≤ 9223372036854775807) := by
  obtain ⟨f0, f1, hu, o0, o1, t0, t1⟩ := deed_fields
  obtain ⟨xs, n, _, _, hlen, hxl, hf⟩ := DataW.trod_struct hu h
  have h3 : cs.length = 2 := by rw [hlen]; kernel_rfl
  obtain ⟨v0, v1, rfl⟩ := list2 h3
  have c2 : Tryz.prog.cellsOf 2 = 1 := by kernel_rfl
  have g0 := hf 0 f0 rfl
  have g1 := hf 1 f1 rfl
  rw [o0, t0, c2] at g0
  rw [o1, t1, c2] at g1
  have hx : ∀ i, i < 2 → ∃ y, xs[i]? = some y := by
    intro i hi
    have : xs.length = 2 := by simpa using hxl
    exact ⟨xs[i]'(by omega), by simp⟩
  obtain ⟨y0, e0⟩ := hx 0 (by omega)
  obtain ⟨y1, e1⟩ := hx 1 (by omega)
  rw [e0] at g0
  rw [e1] at g1
  obtain ⟨k, hk, _, wk⟩ := DataW.trod_int Tryz.underlying2 g0
  obtain ⟨s, hs, _, ws⟩ := DataW.trod_int Tryz.underlying2 g1
  simp at hk hs
  subst hk hs
  exact ⟨k, s, rfl, wf_i64 wk, wf_i64 ws⟩

theorem open_deeds {fuel : Nat} {v : Value} {x : DataW H × List MemPlace} (h : DataW.trod enc Tryz.prog w 0 (fun _ => true) held fuel 27 [v] = some x) : ∃ ys, FDeedL.Sl w v ys ∧ ∀ y ∈ ys, (-9223372036854775808 ≤ y.1 ∧ y.1 ≤ 9223372036854775807) ∧ (-9223372036854775808 ≤ y.2 ∧ y.2 ≤ 9223372036854775807) := by
  exact open_flat (enc := enc) FDeedL (by kernel_rfl) (fun y => (-9223372036854775808 ≤ y.1 ∧ y.1 ≤ 9223372036854775807) ∧ (-9223372036854775808 ≤ y.2 ∧ y.2 ≤ 9223372036854775807)) (fun h => by
    obtain ⟨k, a, rfl, hk, ha⟩ := open_deed h
    exact ⟨(k, a), rfl, hk, ha⟩) h
end
end Go.Proofs.YtofpelmplcoegaaGreat
