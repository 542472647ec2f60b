/-
  A search by impl.deckIndex$1.
-/
import Derived.Test.YtjbjkfahfjoigaaZRowCanRecolour4
set_option linter.unusedVariables false
set_option linter.unusedSimpArgs false
namespace Go.Proofs.Ytjbjkfahfjoigaa
open Go.RowKit Go.Sort
set_option maxHeartbeats 1000000 in
theorem IndexFuncDeck_any {u : Value} {xs : List (List Int)} (cap0 : Value) (p : List Int → Bool) (w : World) (ha : SlII w u xs)
    (hf : ∀ W x u, Below w.heap.size w W → x ∈ xs → SlI W u x → Calls Try.prog 51 #[u, cap0] W fun e w' => e = .returned (.bool (p x)) ∧ Below W.heap.size W w') :
    Calls Try.prog 50 #[u, .func (.func 51) #[] #[cap0]] w fun e w' => e = .returned (.int .i64 (ixRow p xs 0)) ∧ Below w.heap.size w w' := by
  obtain ⟨a, ca, us, rfl, hca, hca', hul, hrd, hrow⟩ := ha
  have HU := Lib.hid hul
  have HR := Lib.hid hrow
  clear hul hrow
  unfold maxLen at hca'
  have HF := Lib.hid hf
  clear hf
  go_enter Try.func50, Try.ntmps50
  go_wp2
  go_loopw [5, 8] (fun _ i wr => ∃ k : Nat, k ≤ xs.length ∧ i = .int .i64 k ∧ Hid (ixRow p xs 0 = ixRow p (xs.drop k) k) ∧ Below w.heap.size w wr) (fun _ i _ => xs.length - (intOf i).toNat)
  case atStart => exact ⟨0, Nat.zero_le _, rfl, rfl, Below.refl _ _⟩
  case round =>
    obtain ⟨k, hk, rfl, hno, hbw⟩ := hrel
    by_cases hlt : k < xs.length
    · obtain ⟨x, b, off, rfl, gc, sx⟩ := SlII.row HU.out (hrd.below hbw) (fun i hi u hu => (HR.out i hi u hu).below hbw) hlt
      obtain ⟨xa, xc, rfl, _⟩ := id sx
      have i1 : (k : Int) < (xs.length : Int) := by omega
      have hst := ixRow_step (p := p) hlt
      have HS := Lib.hid hst
      clear hst
      generalize hp : p xs[k] = P
      have HP := Lib.hid hp
      clear hp
      cases P
      · go_wp2_with fail
        refine (HF.out _ xs[k] _ hbw (List.getElem_mem hlt) sx).mono ?_
        rintro e w2 ⟨rfl, b2⟩
        rw [HP.out]
        have bq := hbw.trans (b2.mono hbw.size)
        go_wp2
        go_roundw
        case rel => exact ⟨k + 1, by omega, by go_num, by unfold Hid at *; rw [hno, HS, HP]; rfl, bq⟩
        case measure => simp [intOf]; omega
      · go_wp2_with fail
        refine (HF.out _ xs[k] _ hbw (List.getElem_mem hlt) sx).mono ?_
        rintro e w2 ⟨rfl, b2⟩
        rw [HP.out]
        have bq := hbw.trans (b2.mono hbw.size)
        go_wp2
        go_ret
        exact ⟨ri (by rw [hno.out, HS.out, HP.out]; rfl), bq⟩
    · obtain rfl : k = xs.length := by omega
      go_wp2
      go_ret
      exact ⟨ri (by rw [hno.out]; simp [ixRow]), hbw⟩
end Go.Proofs.Ytjbjkfahfjoigaa
