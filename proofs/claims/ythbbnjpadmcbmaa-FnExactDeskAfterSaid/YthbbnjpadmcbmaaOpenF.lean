/-
  A slice of flat elements, given as an argument, opened.
-/
import Derived.Test.YthbbnjpadmcbmaaOpenS
import Derived.Test.YthbbnjpadmcbmaaRecS
namespace Go.Proofs.Ythbbnjpadmcbmaa
open Go.ChangeShapes Go.WideShapes Go.ChangeAt Go.RowKit Go.Joins Go.Deep
section
variable {H : Type} {enc : TypeId × Value → H} {w : World} {spare : Nat → Bool} {held : Bool}
theorem open_flat {α : Type} (F : Flat α) (hC : Try.prog.cellsOf F.E = F.size) (P : α → Prop)
    (hdec : ∀ {fuel : Nat} {cs : List Value} {x : DataW H × List MemPlace}, DataW.trod enc Try.prog w 0 (fun _ => true) held fuel F.E cs = some x → ∃ y, cs = F.enc y ∧ P y)
    {fuel : Nat} {v : Value} {x : DataW H × List MemPlace} (h : DataW.trod enc Try.prog w 0 (fun _ => true) held fuel F.T [v] = some x) : ∃ ys, F.Sl w v ys ∧ ∀ y ∈ ys, P y := by
  rcases open_slice F.und h with ⟨hcs, _⟩ | ⟨a, len, cap, m, n, D, Pl, hcs, _, hl, hm, hmm, _, hi⟩
  · simp at hcs
    subst hcs
    exact ⟨[], Flat.Sl.nil _, by simp⟩
  · simp at hcs
    subst hcs
    have hi' : ∀ i, i < len → ∃ y, P y ∧ ∀ j, j < F.size → w.cell? (a.add (i * F.size + j)) = (F.enc y)[j]? := by
      intro i hil
      obtain ⟨cs', hc, ht'⟩ := hi i (by simp at hmm; omega)
      obtain ⟨y, rfl, hy⟩ := hdec ht'
      rw [hC] at hc
      obtain ⟨_, hcl, hat⟩ := World.cells?_some hc
      refine ⟨y, hy, fun j hj => ?_⟩
      have := hat j hj
      rw [add_add] at this
      exact this
    let ys : List α := List.ofFn fun i : Fin len => Classical.choose (hi' i i.2)
    have hyl : ys.length = len := by simp [ys]
    have hy : ∀ i (h : i < ys.length), P ys[i] ∧ ∀ j, j < F.size → w.cell? (a.add (i * F.size + j)) = (F.enc ys[i])[j]? := by
      intro i h
      have h2 : i < len := by omega
      have e : ys[i] = Classical.choose (hi' i h2) := by simp [ys]
      rw [e]
      exact Classical.choose_spec (hi' i h2)
    refine ⟨ys, ⟨some a, cap, by rw [hyl], by omega, hm, rd_of ?_⟩, ?_⟩
    · intro i hil
      rw [F.encs_length] at hil
      have hd := Nat.div_add_mod i F.size
      have hr := Nat.mod_lt i F.pos
      have hq : i / F.size < ys.length := Nat.div_lt_of_lt_mul (by rw [Nat.mul_comm]; exact hil)
      have h1 := (hy _ hq).2 _ hr
      have e : i / F.size * F.size + i % F.size = i := by rw [Nat.mul_comm]; exact hd
      rw [e] at h1
      rw [h1, ← F.encs_get hq hr, e]
    · intro y hm
      obtain ⟨i, hi, rfl⟩ := List.getElem_of_mem hm
      exact (hy i hi).1

theorem open_recs {fuel : Nat} {v : Value} {x : DataW H × List MemPlace} (h : DataW.trod enc Try.prog w 0 (fun _ => true) held fuel 27 [v] = some x) : ∃ ys, FRecordL.Sl w v ys := by
  obtain ⟨ys, h1, _⟩ := open_flat (enc := enc) FRecordL (by kernel_rfl) (fun _ => True) (fun h => by
    obtain ⟨k, s, v, rfl, _⟩ := open_record h
    exact ⟨(k, s, v), rfl, trivial⟩) h
  exact ⟨ys, h1⟩
end
end Go.Proofs.Ythbbnjpadmcbmaa
