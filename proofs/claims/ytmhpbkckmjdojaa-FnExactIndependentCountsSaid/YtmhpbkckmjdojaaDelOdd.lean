/-
  slices.DeleteFunc with (impl.Graph).independent$1.
-/
import Derived.Test.YtmhpbkckmjdojaaDelL
import Derived.Test.YtmhpbkckmjdojaaSrOdd
namespace Go.Proofs.Ytmhpbkckmjdojaa
open Go.RowKit Go.Sort

set_option maxRecDepth 100000 in
set_option maxHeartbeats 4000000 in
theorem DeleteFuncOdd_any {u : Value} {xs : List Int} (cap0 : Value) (p : Int → Bool) (base : Nat) (w : World) (hb : base ≤ w.heap.size) (ho : OwnI w base u xs)
    (hf : ∀ W x, Below base w W → x ∈ xs → Calls Try.prog 75 #[.int .i64 x, cap0] W fun e w' => e = .returned (.bool (p x)) ∧ Below W.heap.size W w') :
    Calls Try.prog 65 #[u, .func (.func 75) #[] #[cap0]] w fun e w' => ∃ v, e = .returned v ∧ OwnI w' base v (xs.filter fun x => !p x) ∧ Below base w w' := by
  have HF := Lib.hid hf
  have HO := Lib.hid ho
  have hbd := ixP_bd p xs 0
  obtain ⟨a, c, rfl, _⟩ := id ho.sl
  generalize hi : ixP p xs 0 = i at hbd
  have HI := Lib.hid hi
  have HS := Lib.hid ho.sl
  clear hf hi ho
  by_cases h1 : i = -1
  · subst h1
    have ht : ((-1 : Int) == -1) = true := rfl
    go_enter Try.func65, Try.ntmps65
    go_wp2_with fail
    refine (IndexFuncOdd_any cap0 p w HS.out (fun W x hW hx => HF.out W x (hW.mono hb) hx)).mono ?_
    rintro e w1 ⟨rfl, b1⟩
    rw [HI.out]
    go_wp2
    go_ret
    exact ⟨_, rfl, by rw [ixP_none HI.out]; exact HO.out.below b1, b1.mono hb⟩
  · obtain ⟨k0, rfl⟩ := Int.eq_ofNat_of_zero_le (show 0 ≤ i by omega)
    have hst := DelI.start HI.out
    have hk0 : k0 < xs.length := by have := hbd.2; omega
    rcases HO.out.forms with ⟨he, he2⟩ | ⟨g, c', he, hg, hg2, hc1, hc2⟩
    · rw [he2] at hk0; simp at hk0
    · simp only [Value.slice.injEq] at he
      obtain ⟨rfl, _, rfl⟩ := he
      have hbn : ¬ ((k0 : Int) = -1) := by omega
      have hbq : ((k0 : Int) == -1) = false := by rw [beq_eq_false_iff_ne]; omega
      have hmx : xs.length ≤ 9223372036854775807 := by unfold maxLen at hc2; omega
      have HST := Lib.hid hst
      clear hst hbd h1
      go_enter Try.func65, Try.ntmps65
      go_wp2_with fail
      refine (IndexFuncOdd_any cap0 p w HS.out (fun W x hW hx => HF.out W x (hW.mono hb) hx)).mono ?_
      rintro e w1 ⟨rfl, b1⟩
      rw [HI.out]
      have HO1 := Lib.hid (HO.out.below b1)
      have HB1 := Lib.hid (b1.mono hb)
      clear b1
      go_wp2
      go_loopw [5, 6, 7] (fun i j _ wr => ∃ (k q : Nat) (ys : List Int), i = .int .i64 k ∧ j = .int .i64 q ∧ Hid (DelI p xs q k ys) ∧ OwnI wr base (.slice (some ⟨g, 0, none⟩) xs.length c) ys ∧ Below base w wr) (fun _ j _ _ => xs.length - (intOf j).toNat)
      case atStart => exact ⟨k0, k0 + 1, xs, rfl, by go_num, HST, HO1.out, HB1.out⟩
      case round =>
        obtain ⟨k, q, ys, rfl, rfl, hd, hown, hbw⟩ := hrel
        have hlen := hd.out.len
        have hkq := hd.out.lt
        have hqx := hd.out.jle
        by_cases hlt : q < xs.length
        · have iq : (q : Int) < (xs.length : Int) := by omega
          have ik : (k : Int) < (xs.length : Int) := by omega
          have hg1 := hd.out.get hlt
          have hql : q < ys.length := by omega
          have hyq : ys[q] = xs[q] := by rw [List.getElem?_eq_getElem hql] at hg1; exact Option.some.inj hg1
          have cq := hown.cell hql
          rw [hyq] at cq
          have hskip := fun h => hd.out.skip hlt h
          have hkeep := fun h => hd.out.keep hlt h
          have hm := List.getElem_mem hlt
          generalize xs[q] = x at cq hskip hkeep hm
          generalize hp : p x = P at hskip hkeep
          have HP := Lib.hid hp
          have HSK := Lib.hid hskip
          have HKE := Lib.hid hkeep
          have HOW := Lib.hid hown
          have HBW := Lib.hid hbw
          clear hp hskip hkeep hg1 hyq hown hbw hd
          go_wp2_with fail
          refine (HF.out _ x HBW.out hm).mono ?_
          rintro e w2 ⟨rfl, b2⟩
          rw [HP.out]
          have ho2 := HOW.out.below b2
          have hb2 := HBW.out.trans (b2.mono (Nat.le_trans hb HBW.out.size))
          cases P
          · have hkl : k < ys.length := by omega
            have ck := ho2.cell hkl
            have fk := ho2.free k
            have HS2 := Lib.hid (ho2.set k x)
            have HB2 := Lib.hid (hb2.setCell (p := ⟨g, k, none⟩) hg (.int .i64 x))
            clear b2 cq ho2 hb2
            go_wp2
            go_roundw
            case rel => exact ⟨k + 1, q + 1, ys.set k x, by go_num, by go_num, Lib.hid (HKE.out (by simp)), HS2.out, HB2.out⟩
            case measure => simp [intOf]; omega
          · clear b2 cq
            go_wp2
            go_roundw
            case rel => exact ⟨k, q + 1, ys, rfl, by go_num, Lib.hid (HSK.out (by simp)), ho2, hb2⟩
            case measure => simp [intOf]; omega
        · obtain rfl : q = xs.length := by omega
          have hdone := hd.out.done
          have hkl : k < xs.length := by omega
          have hk1 : k ≤ xs.length := by omega
          have hk2 : (k : Int) ≤ (xs.length : Int) := by omega
          have hkc : k ≤ c := by omega
          have hkc2 : (k : Int) ≤ (c : Int) := by omega
          obtain ⟨ys', o', l', t'⟩ := hown.fill (List.replicate (xs.length - k) 0) k
          have hcut := o'.cut (k := k) (by omega)
          have bz := below_setCells hg (i64s (List.replicate (xs.length - k) 0)) k _ _ hbw
          have hrp : i64s (List.replicate (xs.length - k) 0) = List.replicate (xs.length - k) (.int .i64 0) := by simp [i64s]
          rw [hrp] at hcut bz
          rw [t', hdone.1] at hcut
          have hcl : ∀ ty, (Builtin.clear_ #[25] ty #[.slice (some ⟨g, k, none⟩) (xs.length - k) (c - k)]).run Try.prog wr = .ok (.tuple #[]) (wr.setCells g k (List.replicate (xs.length - k) (.int .i64 0))) :=
            fun ty => Lib.run_clear_slice wr 25 2 ty (.int .i64 0) Try.underlying25 zero_i64 rfl rfl g k _ _ (by omega) (fun j hj => by rw [hown.cell (i := k + j) (by omega)]; rfl) (fun j hj => hown.free (k + j))
          have HC := Lib.hid hcut
          have BZ := Lib.hid bz
          clear hcut bz o' hown hbw hdone t' l' hd
          go_wp2_with (simp only [hcl])
          go_ret
          exact ⟨_, rfl, HC.out, BZ.out⟩
end Go.Proofs.Ytmhpbkckmjdojaa
