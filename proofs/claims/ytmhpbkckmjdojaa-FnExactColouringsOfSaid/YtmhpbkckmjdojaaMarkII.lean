/-
  Marks in rows, with what they leave; marks held in rows.
-/
import Derived.Test.YtmhpbkckmjdojaaMark
import Derived.Test.YtmhpbkckmjdojaaLawI
import Derived.Test.YtmhpbkckmjdojaaFrame
namespace Go.Proofs.Ytmhpbkckmjdojaa
open Go.RowKit Go.Sort
def rampII : Int → List (List Int) → List (List Int)
  | _, [] => []
  | m, r :: rs => ramp m r.length :: rampII (m + r.length) rs
theorem rampII_len : ∀ (m : Int) (xss : List (List Int)), (rampII m xss).length = xss.length
  | _, [] => rfl
  | m, r :: rs => by simp [rampII, rampII_len _ rs]
theorem rampII_at : ∀ {m : Int} {xss : List (List Int)} {k : Nat} (h : k < xss.length), (rampII m xss)[k]? = some (ramp (m + sumL (xss.take k)) xss[k].length)
  | m, r :: rs, 0, _ => by simp [rampII, sumL]
  | m, r :: rs, k + 1, h => by
    have h' : k < rs.length := by simpa using h
    have e := rampII_at (m := m + r.length) h'
    simp only [rampII, List.getElem?_cons_succ, List.getElem_cons_succ, List.take_succ_cons]
    rw [e]
    have : sumL (r :: rs.take k) = r.length + sumL (rs.take k) := by simp [sumL]
    rw [this]
    simp only [Option.some.injEq]
    congr 1
    omega
def mixII (m : Int) (xss : List (List Int)) (k : Nat) : List (List Int) := (rampII m xss).take k ++ xss.drop k
theorem mixII_zero {m : Int} {xss : List (List Int)} : mixII m xss 0 = xss := by simp [mixII]
theorem mixII_all {m : Int} {xss : List (List Int)} : mixII m xss xss.length = rampII m xss := by
  unfold mixII
  rw [List.drop_length, List.append_nil, List.take_of_length_le (by rw [rampII_len]; exact Nat.le_refl _)]
theorem mixII_get {m : Int} {xss : List (List Int)} {k i : Nat} (hk : k ≤ xss.length) : (mixII m xss k)[i]? = if i < k then (rampII m xss)[i]? else xss[i]? := by
  unfold mixII
  have hl : ((rampII m xss).take k).length = k := by rw [List.length_take, rampII_len]; omega
  by_cases h : i < k
  · rw [List.getElem?_append_left (by omega), if_pos h, List.getElem?_take_of_lt h]
  · rw [List.getElem?_append_right (by omega), if_neg h, hl, List.getElem?_drop]
    congr 1
    omega
theorem mixII_at {m : Int} {xss : List (List Int)} {k : Nat} (h : k < xss.length) : (mixII m xss k)[k]? = some xss[k] := by
  rw [mixII_get (by omega), if_neg (by omega), List.getElem?_eq_getElem h]
theorem mixII_new {m : Int} {xss : List (List Int)} {k : Nat} (h : k < xss.length) : (mixII m xss (k + 1))[k]? = some (ramp (m + sumL (xss.take k)) xss[k].length) := by
  rw [mixII_get (by omega), if_pos (by omega), rampII_at h]
theorem mixII_old {m : Int} {xss : List (List Int)} {k i : Nat} (h : i ≠ k) : (mixII m xss (k + 1))[i]? = (mixII m xss k)[i]? := by
  by_cases hk : k < xss.length
  · rw [mixII_get (by omega), mixII_get (by omega)]
    by_cases h1 : i < k
    · rw [if_pos h1, if_pos (by omega)]
    · rw [if_neg h1, if_neg (by omega)]
  · unfold mixII
    rw [List.drop_of_length_le (by omega), List.drop_of_length_le (by omega), List.take_of_length_le (by rw [rampII_len]; omega), List.take_of_length_le (by rw [rampII_len]; omega)]
set_option maxHeartbeats 1000000 in
theorem markInt64SS_held {v : Value} {xss : List (List Int)} (m : Int) (base B : Nat) (w : World) (hm0 : 0 ≤ m) (hm : m + sumL xss ≤ 1000000000000) (ha : OwnIIB w base B v xss) :
    Calls Try.prog 16 #[v, .int .i64 m] w fun e w' => e = .returned (.int .i64 (m + sumL xss)) ∧ OwnIIB w' base B v (rampII m xss) ∧ Mid base B w w' := by
  obtain ⟨vs, h1, h2, h3⟩ := ha
  obtain ⟨ad, c, rfl, hc1, hc2, _⟩ := ownsRow_rd h1
  unfold maxLen at hc2
  have HV := Lib.hid h2
  have HB := Lib.hid h3
  clear h2 h3
  go_enter Try.func16, Try.ntmps16
  go_wp2
  go_loopw [1, 5] (fun q i wr => ∃ (k : Nat) (Q : Int), k ≤ xss.length ∧ i = .int .i64 k ∧ q = .int .i64 Q ∧ Hid (Q = m + sumL (xss.take k)) ∧ 0 ≤ Q ∧ Q ≤ 1000000000000 ∧ wr.ownsRow base 25 1 (.slice ad xss.length c) xss.length vs ∧ Hid (∀ (i : Nat) (u : Value) (xs : List Int), vs[i]? = some u → (mixII m xss k)[i]? = some xs → OwnI wr base u xs) ∧ Mid base B w wr) (fun _ i _ => xss.length - (intOf i).toNat)
  case atStart => exact ⟨0, m, Nat.zero_le _, rfl, rfl, by simp [Hid, sumL], hm0, by omega, h1, Lib.hid (fun i u xs hu hx => HV.out.2.1 i u xs hu (by rw [mixII_zero] at hx; exact hx)), Mid.refl _ _ _⟩
  case round =>
    clear h1
    obtain ⟨k, Q, hk, rfl, rfl, hQ, hQ0, hQ1, hown, hrows, hmid⟩ := hrel
    by_cases hlt : k < xss.length
    · have hvl : k < vs.length := by rw [HV.out.1]; exact hlt
      obtain ⟨ad', c', he, _, _, hrd⟩ := ownsRow_rd hown
      simp at he
      obtain ⟨rfl, rfl⟩ := he
      obtain ⟨b, off, rfl, hcell⟩ := hrd.one (List.getElem?_eq_getElem hvl)
      have hu := hrows.out k vs[k] xss[k] (List.getElem?_eq_getElem hvl) (mixII_at hlt)
      have hle := sumL_le xss (k + 1)
      have hst := sumL_take hlt
      have i1 : (k : Int) < (xss.length : Int) := by omega
      have hbq : Q + xss[k].length ≤ 1000000000000 := by have := hQ.out; omega
      have HST := Lib.hid hst
      have hvk : vs[k]? = some vs[k] := List.getElem?_eq_getElem hvl
      generalize vs[k] = u at hcell hu hvk
      obtain ⟨ua, uc, rfl, _⟩ := id hu.sl
      have HVK := Lib.hid hvk
      clear hst hle hvk
      go_wp2_with fail
      refine (markInt64S_any Q base _ hQ0 hbq hu).mono ?_
      rintro e w2 ⟨rfl, o2, g2⟩
      have hrow : Mid base B wr w2 := Mid.of_grown g2 (fun g hg => ⟨(hu.lt g hg).1, HB.out k _ g HVK.out hg⟩)
      have own2 : w2.ownsRow base 25 1 (.slice (some ⟨b, off, none⟩) xss.length c) xss.length vs := World.ownsRow.kept hown g2 (by
        cases hb : (Value.slice (some ⟨b, off, none⟩) xss.length c).ownBlock with
        | none => exact .inl rfl
        | some g => exact .inr (fun e => hu.apart hown e.symm hb))
      have rows2 : Hid (∀ (i : Nat) (u : Value) (xs : List Int), vs[i]? = some u → (mixII m xss (k + 1))[i]? = some xs → OwnI w2 base u xs) := by
        intro i u' xs' hu' hx'
        by_cases hik : i = k
        · subst hik
          rw [mixII_new hlt, ← hQ.out] at hx'
          have e1 := HVK.out
          rw [e1] at hu'
          cases hu'
          cases hx'
          exact o2
        · rw [mixII_old hik] at hx'
          have h5 := hrows.out i u' xs' hu' hx'
          refine h5.kept g2 ?_
          cases hb : u'.ownBlock with
          | none => exact .inl rfl
          | some g => exact .inr (fun e => HV.out.2.2 i k u' _ g hik hu' HVK.out hb e.symm)
      have hm2 := hmid.trans hrow
      clear hown hrows hu o2 g2 hmid
      go_wp2
      go_roundw
      case rel => exact ⟨k + 1, Q + xss[k].length, by omega, by go_num, rfl, by have := hQ.out; have := HST.out; unfold Hid; omega, by omega, by omega, own2, rows2, hm2⟩
      case measure => simp [intOf]; omega
    · obtain rfl : k = xss.length := by omega
      go_wp2
      go_ret
      exact ⟨ri (by rw [hQ.out, List.take_length]), ⟨vs, by rw [rampII_len]; exact hown, ⟨by rw [rampII_len]; exact HV.out.1, fun i u xs hu hx => hrows.out i u xs hu (by rw [mixII_all]; exact hx), HV.out.2.2⟩, HB.out⟩, hmid⟩
set_option maxHeartbeats 1000000 in
theorem heldInt64SS_any {v : Value} {xss : List (List Int)} (m : Int) (w : World) (hm0 : 0 ≤ m) (hm : m + sumL xss ≤ 1000000000000) (ha : SlII w v (rampII m xss)) :
    Calls Try.prog 17 #[v, .int .i64 m] w fun e w' => e = .returned (.int .i64 (m + sumL xss)) ∧ Below w.heap.size w w' := by
  have hlen := rampII_len m xss
  obtain ⟨a, ca, us, rfl, hca, hca', hul, hrd, hrow⟩ := ha
  unfold maxLen at hca'
  have HG := Lib.hid (fun W (h : Below w.heap.size w W) => And.intro (hrd.below h) (fun i hi u hu => (hrow i hi u hu).below h))
  have HU := Lib.hid hul
  rw [hlen] at hca ⊢
  have HLEN := Lib.hid hlen
  clear hrd hrow hul hlen
  go_enter Try.func17, Try.ntmps17
  go_wp2
  go_loopw [1, 5] (fun q i wr => ∃ (k : Nat) (Q : Int), k ≤ xss.length ∧ i = .int .i64 k ∧ q = .int .i64 Q ∧ Hid (Q = m + sumL (xss.take k)) ∧ 0 ≤ Q ∧ Below w.heap.size w wr) (fun _ i _ => xss.length - (intOf i).toNat)
  case atStart => exact ⟨0, m, Nat.zero_le _, rfl, rfl, by simp [Hid, sumL], hm0, Below.refl _ _⟩
  case round =>
    obtain ⟨k, Q, hk, rfl, rfl, hQ, hQ0, hbr⟩ := hrel
    by_cases hlt : k < xss.length
    · have hlt2 : k < (rampII m xss).length := by rw [HLEN.out]; exact hlt
      obtain ⟨x, b, off, rfl, gc, sx⟩ := SlII.row HU.out (HG.out _ hbr).1 (HG.out _ hbr).2 hlt2
      have hrk : (rampII m xss)[k] = ramp Q xss[k].length := by
        have := rampII_at (m := m) hlt
        rw [List.getElem?_eq_getElem hlt2, Option.some.injEq] at this
        rw [this, hQ.out]
      rw [hrk] at sx
      have hle := sumL_le xss (k + 1)
      have hst := sumL_take hlt
      have i1 : (k : Int) < (xss.length : Int) := by omega
      have hbq : Q + xss[k].length ≤ 1000000000000 := by have := hQ.out; omega
      have hq0 : ¬ Q + xss[k].length < 0 := by omega
      have HST := Lib.hid hst
      obtain ⟨ua, uc, rfl, _⟩ := id sx
      clear hst hle hrk
      go_wp2_with fail
      refine (heldInt64S_any Q xss[k].length _ hQ0 hbq sx).mono ?_
      rintro e w2 ⟨rfl, b2⟩
      have hb2 := hbr.trans (b2.mono hbr.size)
      clear b2 sx gc
      go_wp2
      go_roundw
      case rel => exact ⟨k + 1, Q + xss[k].length, by omega, by go_num, rfl, by have := hQ.out; have := HST.out; unfold Hid; omega, by omega, hb2⟩
      case measure => simp [intOf]; omega
    · obtain rfl : k = xss.length := by omega
      go_wp2
      go_ret
      exact ⟨ri (by rw [hQ.out, List.take_length]), hbr⟩
theorem OwnIIB.fs {S : Nat → Prop} {w w' : World} {base B : Nat} {v : Value} {xss : List (List Int)} (h : OwnIIB w base B v xss) (hf : Fs S w w') (hS : ∀ k, S k → k < base) : OwnIIB w' base B v xss := by
  obtain ⟨vs, h1, h2, h3⟩ := h
  exact ⟨vs, ownsRow_fs h1 hf hS, ⟨h2.1, fun i u xs hu hx => ownsRow_fs (h2.2.1 i u xs hu hx) hf hS, h2.2.2⟩, h3⟩
end Go.Proofs.Ytmhpbkckmjdojaa
