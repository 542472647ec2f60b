/-
  What the laws draw: one of some numbers, rows of weights, picks, draws.
-/
import Derived.Test.YtijpkcdalmlaiaaZRowFnPlantPackets20
import Derived.Test.YtijpkcdalmlaiaaZRowFnPlantPackets9
set_option linter.unusedVariables false
set_option linter.unusedSimpArgs false
namespace Go.Proofs.Ytijpkcdalmlaiaa
open Go.RowKit Go.Sort

set_option maxHeartbeats 1000000 in
theorem among_any (b K : Nat) {u : Value} {xs : List Int} (w : World) (hs : SrcB w b K) (hK : K ≤ 900000000) (hu : ∀ W, Fs (fun k => k = b) w W → SlI W u xs) (hx : 1 ≤ xs.length) (hl : xs.length ≤ 1000) :
    Calls Try.prog 107 #[.pointer (some ⟨b, 0, none⟩), u] w fun e w' => ∃ x, x ∈ xs ∧ e = .returned (.int .i64 x) ∧ SrcB w' b (K + 2) ∧ Fs (fun k => k = b) w w' := by
  have HU := Lib.hid hu
  have HS := Lib.hid hs
  obtain ⟨a, c, rfl, _⟩ := hu w (Fs.refl _ _)
  clear hu hs
  go_enter Try.func107, Try.ntmps107
  go_wp2_with fail
  refine (pick_any b K xs.length _ HS.out hK).mono ?_
  rintro e w1 ⟨y, rfl, hy0, hy1, s1, f1⟩
  obtain ⟨y, rfl⟩ := Int.eq_ofNat_of_zero_le hy0
  have hyl : y < xs.length := by omega
  have i0 : (0 : Int) ≤ (y : Int) := by omega
  have i1 : (y : Int) < (xs.length : Int) := by omega
  obtain ⟨_, _, he, _, _, rd⟩ := HU.out _ f1
  simp only [Value.slice.injEq] at he
  obtain ⟨rfl, _, rfl⟩ := he
  obtain ⟨b1, o1, rfl, g1⟩ := rd.one (i64s_get hyl)
  have hm := List.getElem_mem hyl
  generalize xs[y] = x at g1 hm
  clear rd
  go_wp2
  go_ret
  exact ⟨x, hm, rfl, s1, f1⟩
theorem sum_set {n : Int} : ∀ {r : List Int} {z : Nat} (h : z < r.length), (r.set z (r[z] + n)).sum = r.sum + n
  | [], _, h => by simp at h
  | x :: r, 0, _ => by simp; omega
  | x :: r, z + 1, h => by
    have ih := sum_set (n := n) (r := r) (z := z) (by simpa using h)
    simp only [List.set_cons_succ, List.sum_cons, List.getElem_cons_succ]
    omega

set_option maxHeartbeats 2000000 in
theorem l01Row_any (b K m t : Nat) (w : World) (hs : SrcB w b K) (hK : K ≤ 1000000) (hm1 : 1 ≤ m) (hm : m ≤ 6) (ht : t ≤ 60) :
    Calls Try.prog 137 #[.pointer (some ⟨b, 0, none⟩), .int .i64 m, .int .i64 t] w fun e w' => ∃ (v : Value) (r : List Int), e = .returned v ∧ r.length = m ∧ (∀ x ∈ r, 0 ≤ x ∧ x ≤ t) ∧ r.sum = t ∧ OwnI w' w.heap.size v r ∧ SrcB w' b (K + 4 * t) ∧ Fs (fun k => k = b) w w' := by
  have hbw := hs.lt
  have HS := Lib.hid hs
  clear hs
  go_enter Try.func137, Try.ntmps137
  go_wp2_with (at_make; refine make_i64 w _ _ rfl rfl m rfl rfl rfl rfl (by omega) ?_)
  intro w1 o1 b1 z1
  have s1 := Lib.hid (HS.out.below b1)
  have f1 := Lib.hid (Fs.of_below (S := fun k => k = b) b1)
  have O1 := Lib.hid o1
  clear o1 b1
  go_wp2
  go_loopw [8, 9] (fun l _ wr => ∃ (q : Nat) (r : List Int), q ≤ t ∧ l = .int .i64 q ∧ r.length = m ∧ (∀ x ∈ r, 0 ≤ x ∧ x ≤ (t : Int) - q) ∧ Hid (r.sum = (t : Int) - q) ∧ OwnI wr w.heap.size (.slice (some ⟨w.heap.size, 0, none⟩) m m) r ∧ SrcB wr b (K + 4 * (t - q)) ∧ Fs (fun k => k = b) w wr) (fun l _ _ => (intOf l).toNat)
  case atStart => exact ⟨t, List.replicate m 0, Nat.le_refl _, rfl, by simp, fun x hx => by rw [List.eq_of_mem_replicate hx]; omega, Lib.hid (by simp), O1.out, s1.out.more (by omega), f1.out⟩
  case round =>
    clear O1 s1 f1
    obtain ⟨q, r, hq, rfl, hrl, hin, hsum, hown, hsrc, hf⟩ := hrel
    have HRL := Lib.hid hrl
    have HIN := Lib.hid hin
    have HO := Lib.hid hown
    have HF := Lib.hid hf
    clear hin hown hf hrl
    by_cases hq0 : 0 < q
    · have i0 : (0 : Int) < (q : Int) := by omega
      go_wp2_with fail
      refine (pick_any b _ q _ hsrc (by omega)).mono ?_
      rintro e w2 ⟨y, rfl, hy0, hy1, s2, f2⟩
      obtain ⟨y, rfl⟩ := Int.eq_ofNat_of_zero_le hy0
      obtain ⟨n, hn⟩ : ∃ n, n = y + 1 := ⟨_, rfl⟩
      have hnq : n ≤ q := by omega
      have hn1 : 1 ≤ n := by omega
      have r1 : IntKind.i64.wrap (1 + (y : Int)) = (n : Int) := by rw [IntWalk.i64_in _ (by omega)]; omega
      clear hy0 hy1 hn
      go_wp2_with fail
      refine (pick_any b _ m _ s2 (by omega)).mono ?_
      rintro e w3 ⟨z, rfl, hz0, hz1, s3, f3⟩
      obtain ⟨z, rfl⟩ := Int.eq_ofNat_of_zero_le hz0
      have hzm : z < m := by omega
      have hzr : z < r.length := by rw [HRL.out]; exact hzm
      have F3 := Lib.hid ((HF.out.trans f2).trans f3)
      have o3 := (HO.out.fs f2 (fun k hk => by omega)).fs f3 (fun k hk => by omega)
      have c3 := o3.cell hzr
      have fr3 := o3.free z
      have hcv := HIN.out _ (List.getElem_mem hzr)
      have hss := sum_set (n := (n : Int)) hzr
      have hos := o3.set z (r[z] + n)
      have hmem : ∀ x ∈ r.set z (r[z] + n), x ∈ r ∨ x = r[z] + n := fun x hx => List.mem_or_eq_of_mem_set hx
      generalize r[z] = cv at c3 hcv hss hos hmem
      have r2 : IntKind.i64.wrap (cv + (n : Int)) = cv + n := IntWalk.i64_in _ (by omega)
      have r3 : IntKind.i64.wrap ((q : Int) - (n : Int)) = ((q - n : Nat) : Int) := by rw [IntWalk.i64_in _ (by omega)]; omega
      have i1 : (0 : Int) ≤ (z : Int) := by omega
      have i2 : (z : Int) < (m : Int) := by omega
      have HSS := Lib.hid hss
      have HOS := Lib.hid hos
      have HMEM := Lib.hid hmem
      have HCV := Lib.hid hcv
      have S3 := Lib.hid s3
      clear hss hos hmem o3 f2 f3 s3 s2 hz0 hz1 hcv hsrc
      go_wp2
      go_roundw
      case rel => exact ⟨q - n, r.set z (cv + n), by omega, by go_num, by rw [List.length_set]; exact HRL.out, fun x hx => by
        rcases HMEM.out x hx with h | h
        · have := HIN.out x h; omega
        · have := HCV.out; omega, Lib.hid (by have := hsum.out; rw [HSS.out]; omega), HOS.out, (S3.out.fs (Fs.set (S := fun k => k = w.heap.size) (Fs.refl _ _) (a := ⟨w.heap.size, z, none⟩) rfl _) (fun k hk => by omega)).more (by omega), ⟨F3.out.os, F3.out.tape, F3.out.output, by simpa using F3.out.size, fun k hk hx => by
          rw [← F3.out.block k hk hx]
          exact Below.heap_setCell _ _ _ _ (show k ≠ w.heap.size by omega)⟩⟩
      case measure => simp [intOf]; omega
    · obtain rfl : q = 0 := by omega
      go_wp2
      go_ret
      exact ⟨_, r, rfl, HRL.out, fun x hx => by have := HIN.out x hx; omega, by have := hsum.out; omega, HO.out, hsrc.more (by omega), HF.out⟩
end Go.Proofs.Ytijpkcdalmlaiaa
