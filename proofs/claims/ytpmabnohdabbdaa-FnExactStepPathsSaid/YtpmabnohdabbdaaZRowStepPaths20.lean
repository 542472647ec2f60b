/-
  What the laws draw: one of some numbers, rows of weights, picks, draws.
-/
import Derived.Test.YtpmabnohdabbdaaZRowStepPaths17
import Derived.Test.YtpmabnohdabbdaaZRowStepPaths7
set_option linter.unusedVariables false
set_option linter.unusedSimpArgs false
namespace Go.Proofs.Ytpmabnohdabbdaa
open Go.RowKit Go.Sort
theorem sum_set {n : Int} : ∀ {r : List Int} {z : Nat} (h : z < r.length), (r.set z (r[z] + n)).sum = r.sum + n
  | [], _, h => by simp at h
  | x :: r, 0, _ => by simp; omega
  | x :: r, z + 1, h => by
    have ih := sum_set (n := n) (r := r) (z := z) (by simpa using h)
    simp only [List.set_cons_succ, List.sum_cons, List.getElem_cons_succ]
    omega

set_option maxHeartbeats 2000000 in
theorem P6Draws_any {xs : List Int} (ad : Option Addr) (n c t most : Nat) (w : World) (hn : n ≤ 4096) (hx : xs.length = n) (hr : Rd w ad (xs.map (.int .u8))) (hb : ∀ x ∈ xs, 0 ≤ x ∧ x < 256) (ht : 1 ≤ t) (hmo : most ≤ 100) :
    Calls Try.prog 33 #[.slice ad n c, .int .i64 t, .int .i64 most] w fun e w' => ∃ (v : Value) (ds : List Int), e = .returned v ∧ DrawsB t ds ∧ ds.length ≤ most ∧ OwnI w' w.heap.size v ds ∧ Below w.heap.size w w' := by
  have HR := Lib.hid hr
  have HB := Lib.hid hb
  have HX := Lib.hid hx
  clear hr hb hx
  go_enter Try.func33, Try.ntmps33
  go_wp2_with fail
  refine (l00From_any ad n c _ hn HX.out HR.out HB.out).mono ?_
  rintro e w1 ⟨rfl, s1, b1⟩
  have hz1 := s1.lt
  have own0 := Lib.hid (OwnI.empty w1 (base := w1.heap.size) (Nat.le_refl _))
  have s2 := Lib.hid (s1.below ((Below.refl w1.heap.size w1).alloc (Nat.le_refl _) (.cells #[] 2)))
  have f2 := Lib.hid (Fs.of_below (S := fun k => k = w.heap.size) ((Below.refl w1.heap.size w1).alloc (Nat.le_refl _) (.cells #[] 2)))
  have B1 := Lib.hid b1
  have r1 : IntKind.i64.wrap ((most : Int) + 1) = ((most + 1 : Nat) : Int) := by rw [IntWalk.i64_in _ (by omega)]; simp
  clear s1 b1
  go_wp2_with fail
  refine (pick_any w.heap.size 0 ((most + 1 : Nat) : Int) _ s2.out (by omega)).mono ?_
  rintro e w3 ⟨y, rfl, hy0, hy1, s3, f3⟩
  obtain ⟨y, rfl⟩ := Int.eq_ofNat_of_zero_le hy0
  have hym : y ≤ most := by omega
  have o3 := Lib.hid (own0.out.fs f3 (fun k hk => by omega))
  have F3 := Lib.hid (f2.out.trans f3)
  have S3 := Lib.hid s3
  clear hy0 hy1 s3 f3
  go_wp2
  go_loopw [8, 9] (fun v i wr => ∃ (q : Nat) (ds : List Int), q ≤ y ∧ i = .int .i64 q ∧ ds.length + q = y ∧ DrawsB t ds ∧ OwnI wr w1.heap.size v ds ∧ SrcB wr w.heap.size (2 + 2 * ds.length) ∧ Fs (fun k => k = w.heap.size) w1 wr) (fun _ i _ => (intOf i).toNat)
  case atStart => exact ⟨y, [], Nat.le_refl _, rfl, by simp, by intro d hd; simp at hd, o3.out, S3.out, F3.out⟩
  case round =>
    clear o3 S3 F3
    obtain ⟨q, ds, hq, rfl, hql, hdb, hown, hsrc, hf⟩ := hrel
    have HDB := Lib.hid hdb
    have HO := Lib.hid hown
    have HF := Lib.hid hf
    clear hdb hown hf
    by_cases hq0 : 0 < q
    · have i0 : (0 : Int) < (q : Int) := by omega
      go_wp2_with fail
      refine (pick_any w.heap.size _ t _ hsrc (by omega)).mono ?_
      rintro e w4 ⟨d, rfl, hd0, hd1, s4, f4⟩
      have o4 := HO.out.fs f4 (fun k hk => by omega)
      have F4 := Lib.hid (HF.out.trans f4)
      have S4 := Lib.hid s4
      have hz4 : w1.heap.size ≤ w4.heap.size := F4.out.size
      have hln : ds.length < 16777216 := by omega
      have r3 : IntKind.i64.wrap ((q : Int) - 1) = ((q - 1 : Nat) : Int) := by rw [IntWalk.i64_in _ (by omega)]; omega
      clear s4 f4 hsrc
      go_wp2_with (at_builtin; refine append_i64 _ d _ _ rfl rfl rfl o4 rfl hln hz4 ?_)
      intro v5 w5 o5 b5 z5
      have hb5 : Below w1.heap.size w4 w5 := ((Below.refl w1.heap.size w4).alloc hz4 _).trans b5
      have F5 := Lib.hid (show Fs (fun k => k = w.heap.size) w1 w5 from ⟨hb5.os.trans F4.out.os, hb5.tape.trans F4.out.tape, hb5.output.trans F4.out.output, Nat.le_trans F4.out.size hb5.size, fun k hk hx => (hb5.block k hk).trans (F4.out.block k hk hx)⟩)
      have S5 := Lib.hid (S4.out.fs (S := fun k => w1.heap.size ≤ k) (w' := w5) ⟨hb5.os, hb5.tape, hb5.output, hb5.size, fun k hk hx => hb5.block k (by omega)⟩ (fun k hk => by omega))
      clear b5 hb5
      go_wp2
      go_roundw
      case rel => exact ⟨q - 1, ds ++ [d], by omega, by go_num, by simp; omega, fun x hx => by
        simp only [List.mem_append, List.mem_singleton] at hx
        rcases hx with hx | rfl
        · exact HDB.out x hx
        · omega, o5, S5.out.more (by simp; omega), F5.out⟩
      case measure => simp [intOf]; omega
    · obtain rfl : q = 0 := by omega
      go_wp2
      go_ret
      exact ⟨_, ds, rfl, HDB.out, by omega, HO.out.lower B1.out.size, B1.out.trans (HF.out.below (B := w.heap.size) B1.out.size (fun k hk => by omega))⟩
end Go.Proofs.Ytpmabnohdabbdaa
