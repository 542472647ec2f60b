/-
  Records read from lines: the walks.
-/
import Derived.Test.YthheijekdpboaaaReadRec
namespace Go.Proofs.Ythheijekdpboaaa
open Go.RowKit Go.Sort
theorem readsG_len : ∀ (l : List ByteArray) (acc : List Int), (readsG l acc).1.length ≤ acc.length + l.length
  | [], acc => by simp [readsG]
  | x :: r, acc => by
    unfold readsG
    split
    · have := readsG_len r (acc ++ [(readG x).1]); simp at this ⊢; omega
    · simp
/-- behind a word -/
def behindG (line word : ByteArray) : List Int × Bool := if (cuts line 32).getD 0 ⟨#[]⟩ = word then readsG ((cuts line 32).drop 1) [] else ([], false)
set_option maxHeartbeats 4000000 in
theorem numbersBehind_any (line word : ByteArray) (w : World) (hs : line.size ≤ 1048576) :
    Calls Try.prog 138 #[.string line, .string word] w fun e w' => ∃ v, e = .returned (tupVB v (behindG line word).2) ∧ OwnI w' w.heap.size v (behindG line word).1 ∧ Below w.heap.size w w' := by
  have hcl := cuts_lens line 32
  have hc1 := cuts_len line 32
  have hcs := hcl.2
  have hcl1 := hcl.1
  have hB : behindG line word = if (cuts line 32).getD 0 ⟨#[]⟩ = word then readsG ((cuts line 32).drop 1) [] else ([], false) := rfl
  generalize hL : cuts line 32 = L at hc1 hcs hcl1 hB
  have HL := Lib.hid hL
  have HSZ := Lib.hid hcs
  obtain ⟨m, hm⟩ : ∃ m, L.length = m + 1 := ⟨L.length - 1, by omega⟩
  have h0L : 0 < L.length := by omega
  have hx0 : L.getD 0 ⟨#[]⟩ = L[0]'h0L := by simp [h0L]
  rw [hx0] at hB
  have HM := Lib.hid hm
  clear hL hcl hcs hx0 hm
  by_cases he : L[0]'h0L = word
  · rw [if_pos he] at hB
    have HB := Lib.hid hB
    have ht := beq_yes he
    have htb : ∀ c : Nat, c = 1 ∨ ¬ c = 1 := fun c => Classical.em _
    generalize hx : L[0]'h0L = x at he ht
    have HX := Lib.hid hx
    clear he hB hx
    go_enter Try.func138, Try.ntmps138
    go_wp2_with fail
    refine (splitAt_any line 32 _ hs).mono ?_
    rintro e w1 ⟨v1, rfl, o1, b1⟩
    rw [HL.out] at o1
    rcases o1.forms with ⟨rfl, h0⟩ | ⟨g, c, rfl, hg, hg1, hgc, hgc2⟩
    · rw [h0] at hc1; simp at hc1
    unfold maxLen at hgc2
    have HS := Lib.hid (fun W (h : Below w1.heap.size w1 W) => o1.sl.below h)
    obtain ⟨b, off, hadr, _, gc⟩ := FS_get o1.sl (i := 0) (by omega)
    simp at hadr
    obtain ⟨rfl, rfl⟩ := hadr
    rw [HX.out] at gc
    simp only [Nat.add_zero] at gc
    have hmc := HM.out
    rw [hmc] at hgc HS ⊢
    have hm1 : m + 1 ≤ 1048577 := by omega
    clear o1 hmc hgc2 hcl1
    rcases htb c with hc | hc
    · subst hc
      obtain rfl : m = 0 := by omega
      go_wp2
      refine wp_loop_rounds 1 ?_
      rw [rounds_succ]
      go_wp2
      go_ret2
      have hB2 : behindG line word = ([], true) := by rw [HB.out, List.drop_of_length_le (by have := HM.out; omega)]; rfl
      exact ⟨_, by rw [hB2]; rfl, by rw [hB2]; exact (OwnI.empty _ (Nat.le_refl _)).lower b1.size, b1.alloc b1.size _⟩
    · go_wp2
      go_loopw [7, 9, 10, 11, 23] (fun v _ _ _ i wr => ∃ (k : Nat) (acc : List Int), k ≤ m ∧ i = .int .i64 k ∧ acc.length ≤ k ∧ Hid (readsG (L.drop 1) [] = readsG (L.drop (k + 1)) acc) ∧ OwnI wr w1.heap.size v acc ∧ Below w1.heap.size w1 wr) (fun _ _ _ _ i _ => m - (intOf i).toNat)
      case atStart => exact ⟨0, [], Nat.zero_le _, rfl, Nat.le_refl _, rfl, OwnI.empty _ (Nat.le_refl _), (Below.refl _ _).alloc (Nat.le_refl _) _⟩
      case round =>
        obtain ⟨k, acc, hk, rfl, hacc, hrd, hown, hbr⟩ := hrel
        have hbw := b1.trans (hbr.mono b1.size)
        by_cases hlt : k < m
        · obtain ⟨b, off, hadr, _, gc⟩ := FS_get (HS.out _ hbr) (i := k + 1) (by have := HM.out; omega)
          simp at hadr
          obtain ⟨rfl, rfl⟩ := hadr
          rw [show 0 + (k + 1) = 1 + k by omega] at gc
          have i1 : (k : Int) < (m : Int) := by omega
          have hz := HSZ.out _ (List.getElem_mem (show k + 1 < L.length by have := HM.out; omega))
          have hst := readsG_step (l := L) (acc := acc) (k := k + 1) (by have := HM.out; omega)
          generalize L[k + 1]'(by have := HM.out; omega) = y at gc hz hst
          generalize hry : readG y = R at hst
          obtain ⟨n, ok⟩ := R
          have HRY := Lib.hid hry
          have HST := Lib.hid hst
          have hwz := hbr.size
          clear hst hry
          cases ok
          · go_wp2_with (go_at_call 76; refine (readDecimal_any y _ (by omega)).mono ?_; rintro e w3 ⟨rfl, b3⟩; rw [HRY.out]; unfold tupNB)
            go_ret2
            have hB2 : behindG line word = ([], false) := by rw [HB.out, hrd.out, HST.out]; rfl
            exact ⟨_, by rw [hB2]; rfl, by rw [hB2]; exact OwnI.nil _ _, hbw.trans (b3.mono hbw.size)⟩
          · go_wp2_with (first
              | (go_at_call 76; refine (readDecimal_any y _ (by omega)).mono ?_; rintro e w3 ⟨rfl, b3⟩; rw [HRY.out]; unfold tupNB; have o3 := hown.below b3; have hb3 := hbr.trans (b3.mono hbr.size); have z3 := hb3.size)
              | (at_builtin; refine append_i64 _ _ _ _ rfl rfl rfl o3 rfl (by omega) (by omega) ?_))
            intro v' w4 o4 hb4 z4
            have hb5 : Below w1.heap.size w1 w4 := (hb3.alloc z3 _).trans hb4
            clear hown o3 b3 hb4
            go_wp2
            go_roundw
            case rel => exact ⟨k + 1, acc ++ [n], by omega, by go_num, by simp; omega, by unfold Hid at *; rw [hrd, HST]; rfl, o4, hb5⟩
            case measure => simp [intOf]; omega
        · obtain rfl : k = m := by omega
          go_wp2
          go_ret2
          have hB2 : behindG line word = (acc, true) := by rw [HB.out, hrd.out, List.drop_of_length_le (by have := HM.out; omega)]; rfl
          exact ⟨_, by rw [hB2]; rfl, by rw [hB2]; exact hown.lower b1.size, hbw⟩

  · rw [if_neg he] at hB
    have HB := Lib.hid hB
    have ht := beq_no he
    generalize hx : L[0]'h0L = x at he ht
    have HX := Lib.hid hx
    clear he hB hx
    go_enter Try.func138, Try.ntmps138
    go_wp2_with fail
    refine (splitAt_any line 32 _ hs).mono ?_
    rintro e w1 ⟨v1, rfl, o1, b1⟩
    rw [HL.out] at o1
    obtain ⟨la, lc, rfl, lm1, lm2, _⟩ := id o1.sl
    unfold maxLen at lm2
    obtain ⟨b, off, rfl, _, gc⟩ := FS_get o1.sl (i := 0) (by omega)
    rw [HX.out] at gc
    simp only [Nat.add_zero] at gc
    have i1 : (0 : Int) < (L.length : Int) := by omega
    have i1n : 0 < L.length := by omega
    go_wp2
    go_ret2
    exact ⟨_, by rw [HB.out]; rfl, by rw [HB.out]; exact OwnI.nil _ _, b1⟩
end Go.Proofs.Ythheijekdpboaaa
