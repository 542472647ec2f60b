/-
  IndependentCounts, the reference's side.
-/
import Derived.Test.YtmhpbkckmjdojaaIndI
import Derived.Test.YtmhpbkckmjdojaaBits
import Derived.Laws.Bits64
namespace Go.Proofs.Ytmhpbkckmjdojaa
open Go.RowKit Go.Sort

set_option maxHeartbeats 2000000 in
theorem l08Nodes_any (x m : Nat) (w : World) (hx : x < 2 ^ 30) (hm : m ≤ 60) :
    Calls Try.prog 54 #[.int .i64 x, .int .i64 m] w fun e w' => ∃ v, e = .returned v ∧ OwnI w' w.heap.size v (setK x m) ∧ Below w.heap.size w w' := by
  have own0 := OwnI.empty w (base := w.heap.size) (Nat.le_refl _)
  have b0 : Below w.heap.size w (w.alloc (.cells #[] 2)) := (Below.refl _ _).alloc (Nat.le_refl _) _
  go_enter Try.func54, Try.ntmps54
  go_wp2
  go_loopw [5, 6] (fun v i wr => ∃ k : Nat, k ≤ m ∧ i = .int .i64 k ∧ OwnI wr w.heap.size v (setK x k) ∧ Below w.heap.size w wr) (fun _ i _ => m - (intOf i).toNat)
  case atStart => exact ⟨0, Nat.zero_le _, rfl, by simpa [setK, upTo] using own0, b0⟩
  case round =>
    clear own0 b0
    obtain ⟨k, hk, rfl, hown, hbw⟩ := hrel
    by_cases hlt : k < m
    · have hsz := hbw.size
      have hl := setK_len x k
      have hln : (setK x k).length < 16777216 := by omega
      have hcv : IntKind.u64.wrap (k : Int) = (k : Int) := by rw [IntKind.wrap_u64]; omega
      have i0 : (0 : Int) ≤ (k : Int) := by omega
      obtain ⟨S, hS⟩ : ∃ S, S = x / 2 ^ k := ⟨_, rfl⟩
      have hSx : S ≤ x := by rw [hS]; exact Nat.div_le_self _ _
      have sh1 : (x : Int) / 2 ^ min k 64 = (S : Int) := by rw [shr_nat x k (by omega), hS]
      have sh2 : (x : Int) / 2 ^ k = (S : Int) := by rw [hS]; simp
      obtain ⟨T, hT⟩ : ∃ T, T = S % 2 := ⟨_, rfl⟩
      have an : bits .and .i64 (S : Int) 1 = (T : Int) := by rw [and_one S (by omega), hT]
      have hTT : x / 2 ^ k % 2 = T := by rw [hT, hS]
      have HT := Lib.hid hTT
      have hT2 : T < 2 := by omega
      clear hS hT hTT hl
      by_cases ht : T = 1
      · have tt : ((T : Int) == 1) = true := by rw [ht]; rfl
        have hyes := Lib.hid (setK_yes (HT.out.trans ht))
        clear ht
        go_wp2_with (at_builtin; refine append_i64 _ (k : Int) _ _ rfl rfl rfl hown rfl hln hsz ?_)
        intro v' w1 hown1 hb1 hsz1
        rw [← hyes.out] at hown1
        have hb2 := (hbw.alloc hsz _).trans hb1
        clear hown hb1
        go_wp2
        go_roundw
        case rel => exact ⟨k + 1, by omega, by go_num, hown1, hb2⟩
        case measure => simp [intOf]; omega
      · have tt : ((T : Int) == 1) = false := by rw [beq_eq_false_iff_ne]; omega
        have tt2 : ¬ ((T : Int) = 1) := by omega
        have hno := Lib.hid (setK_no (x := x) (k := k) (by have := HT.out; omega))
        have HO := Lib.hid hown
        clear ht hown
        go_wp2
        go_roundw
        case rel => exact ⟨k + 1, by omega, by go_num, by rw [hno.out]; exact HO.out, hbw⟩
        case measure => simp [intOf]; omega
    · obtain rfl : k = m := by omega
      go_wp2
      go_ret
      exact ⟨_, rfl, hown, hbw⟩

set_option maxRecDepth 100000 in
set_option maxHeartbeats 4000000 in
theorem l08Sizes_any {v : Value} {es : List (List Int)} (b o m : Nat) (w : World) (hc : GraphAt w b o m v) (ha : SlII w v es) (hE : EdgesB m es) (hm : m ≤ 20) :
    Calls Try.prog 31 #[.pointer (some ⟨b, o, none⟩), .int .i64 (-1)] w fun e w' => ∃ r, e = .returned r ∧ OwnI w' w.heap.size r (cntL (m + 1) (indN m es (2 ^ m))) ∧ Below w.heap.size w w' := by
  have HA := Lib.hid (fun W (h : Below w.heap.size w W) => ha.below h)
  have HC := Lib.hid (fun W (h : Below w.heap.size w W) => hc.below h)
  have HE := Lib.hid hE
  obtain ⟨N, hN⟩ : ∃ N, N = 2 ^ m := ⟨_, rfl⟩
  have hNc : N ≤ 1048576 := by rw [hN]; exact Nat.le_trans (Nat.pow_le_pow_right (by decide) hm) (by decide)
  have s1 : IntKind.i64.wrap ((2 : Int) ^ m) = (N : Int) := by rw [hN]; rw [show ((2 : Int) ^ m) = ((2 ^ m : Nat) : Int) by simp, ← hN]; exact IntWalk.i64_in _ (by omega)
  have s2 : IntKind.i64.wrap ((2 : Int) ^ min m 64) = (N : Int) := by rw [Nat.min_eq_left (by omega)]; exact s1
  have s3 : wrap64 ((2 : Int) ^ m) = (N : Int) := by rw [← IntWalk.i64_left]; exact s1
  have s4 : wrap64 ((2 : Int) ^ min m 64) = (N : Int) := by rw [← IntWalk.i64_left]; exact s2
  have hcv : IntKind.u64.wrap (m : Int) = (m : Int) := by rw [IntKind.wrap_u64]; omega
  have i0 : (0 : Int) ≤ (m : Int) := by omega
  have hr : IntKind.i64.wrap ((m : Int) + 1) = ((m + 1 : Nat) : Int) := by rw [IntWalk.i64_in _ (by omega)]; simp
  have HN := Lib.hid hN
  obtain ⟨_, c0, c1⟩ := id hc
  clear hE hN hc ha
  go_enter Try.func31, Try.ntmps31
  go_wp2_with (at_make; refine make_i64 _ _ _ rfl rfl (m + 1) rfl rfl (by first | exact hr | simp [hr]) (by first | exact hr | simp [hr]) (by omega) ?_)
  intro w3 hmk hb3 hz3
  have HMK := Lib.hid hmk
  have HB3 := Lib.hid hb3
  clear hmk hb3 c0 c1
  go_wp2
  go_loopw [6, 7] (fun i _ wr => ∃ x : Nat, x ≤ N ∧ i = .int .i64 x ∧ OwnI wr w.heap.size (.slice (some ⟨w.heap.size, 0, none⟩) (m + 1) (m + 1)) (cntL (m + 1) (indN m es x)) ∧ Below w.heap.size w wr) (fun i _ _ => N - (intOf i).toNat)
  case atStart => exact ⟨0, Nat.zero_le _, rfl, HMK.out, HB3.out⟩
  case round =>
    clear HMK HB3
    obtain ⟨x, hx, rfl, hown, hbr⟩ := hrel
    obtain ⟨_, c0, c1⟩ := HC.out _ hbr
    have HO := Lib.hid hown
    have HB := Lib.hid hbr
    clear hown hbr
    by_cases hxt : x < N
    · have hxi : (x : Int) < (N : Int) := by omega
      go_wp2_with fail
      refine (l08Nodes_any x m _ (by omega) (by omega)).mono ?_
      rintro e w4 ⟨r, rfl, o4, b4⟩
      have B4 := Lib.hid (HB.out.trans (b4.mono HB.out.size))
      have O4 := Lib.hid (HO.out.below b4)
      have HSL := Lib.hid o4.sl
      obtain ⟨ra, rn, rc, rfl, hrn⟩ := o4.form
      rw [hrn.out] at HSL ⊢
      generalize hq : apartN es (setK x m) (setK x m).length = q
      have hq2 : indepB es (setK x m) = q := by rw [← indep_law HE.out]; exact hq
      have HQ := Lib.hid hq
      have HQ2 := Lib.hid hq2
      have hln := setK_len x m
      have hIL := indN_len m es x
      clear b4 o4 c0 c1 hq hq2
      cases q
      · go_wp2_with fail
        refine (l08Apart_any b o m m _ (HC.out _ B4.out) (HA.out _ B4.out) HSL.out HE.out).mono ?_
        rintro e w5 ⟨rfl, b5⟩
        rw [HQ.out]
        have hb5 := B4.out.trans (b5.mono B4.out.size)
        have o5 := O4.out.below b5
        clear b5
        go_wp2
        go_roundw
        case rel => exact ⟨x + 1, by omega, by go_num, by rw [indN_no HQ2.out]; exact o5, hb5⟩
        case measure => simp [intOf]; omega
      · have hstep : cntL (m + 1) (indN m es (x + 1)) = bump (cntL (m + 1) (indN m es x)) (setK x m) := by rw [indN_yes HQ2.out, cntL_snoc]
        have hrng := cntL_rng (m + 1) (indN m es x) (setK x m).length
        have hcl := cntL_len (m + 1) (indN m es x)
        have HSTEP := Lib.hid hstep
        have HRNG := Lib.hid hrng
        clear hstep hrng
        go_wp2_with fail
        refine (l08Apart_any b o m m _ (HC.out _ B4.out) (HA.out _ B4.out) HSL.out HE.out).mono ?_
        rintro e w5 ⟨rfl, b5⟩
        rw [HQ.out]
        have hb5 := B4.out.trans (b5.mono B4.out.size)
        have o5 := O4.out.below b5
        have hstep := HSTEP.out
        have hrng := HRNG.out
        obtain ⟨g, hg⟩ : ∃ g, g = (setK x m).length := ⟨_, rfl⟩
        unfold bump at hstep
        rw [← hg] at hln hstep hrng ⊢
        have hgl : g < (cntL (m + 1) (indN m es x)).length := by omega
        have cc := o5.cell hgl
        have cf := o5.free g
        have eg := getD_at (d := 0) hgl
        rw [eg] at hstep hrng
        generalize (cntL (m + 1) (indN m es x))[g] = cv at cc hstep hrng
        have r3 : IntKind.i64.wrap (cv + 1) = cv + 1 := IntWalk.i64_in _ (by omega)
        have ig : (g : Int) < ((m + 1 : Nat) : Int) := by omega
        have ig2 : (g : Int) < (m : Int) + 1 := by omega
        have ig3 : g < m + 1 := by omega
        have OS := Lib.hid (o5.set g (cv + 1))
        have BS := Lib.hid (hb5.setCell (p := ⟨w.heap.size, g, none⟩) (Nat.le_refl _) (.int .i64 (cv + 1)))
        have HST := Lib.hid hstep
        clear hstep hrng hcl hgl eg o5 hb5 b5 hg HSTEP HRNG HSL
        go_wp2
        go_roundw
        case rel => exact ⟨x + 1, by omega, by go_num, by rw [HST.out]; exact OS.out, BS.out⟩
        case measure => simp [intOf]; omega
    · obtain rfl : x = N := by omega
      have hX := HN.out
      have HX := Lib.hid hX
      clear hX
      go_wp2
      go_ret
      exact ⟨_, rfl, by rw [← HX.out]; exact HO.out, HB.out⟩
set_option maxHeartbeats 1000000 in
theorem SpecIndependentCounts_any {v : Value} {es : List (List Int)} (n : Int) (w : World) (ha : SlII w v es) :
    Calls Try.prog 18 #[.agg #[.int .i64 n, v]] w (FreshIC w (cntR n es)) := by
  have HA := Lib.hid (fun W (h : Below w.heap.size w W) => ha.below h)
  obtain ⟨a, ca, us, rfl, _⟩ := ha
  have b1 : Below w.heap.size w (w.alloc (.cells #[.int .i64 n, .slice a es.length ca] 29)) := (Below.refl _ _).alloc (Nat.le_refl _) _
  have X := Lib.hid (graphAt_new w n (.slice a es.length ca))
  have e0 := Lib.hid (fun W : World => OwnI.empty W (base := W.heap.size) (Nat.le_refl _))
  have hR : cntR n es = if graphOk n es = true then (cntL (n.toNat + 1) (indN n.toNat es (2 ^ n.toNat)), 0) else ([], 1) := rfl
  generalize hg : graphOk n es = g at hR
  have HR := Lib.hid hR
  have HG := Lib.hid hg
  have B1 := Lib.hid b1
  clear hR hg b1
  cases g
  · go_enter Try.func18, Try.ntmps18
    go_wp2_with fail
    refine (l08Ok_any w.heap.size 0 n _ X.out (HA.out _ B1.out)).mono ?_
    rintro e w2 ⟨rfl, b2⟩
    rw [HG.out]
    have hb2 := B1.out.trans (b2.mono B1.out.size)
    go_wp2
    go_ret2
    rw [HR.out]
    exact ⟨_, rfl, (e0.out _).lower hb2.size, hb2.alloc hb2.size _⟩
  · obtain ⟨m, rfl, hm1, hm5, hE, hl⟩ := graphOk_all HG.out
    have HE := Lib.hid hE
    clear hE
    go_enter Try.func18, Try.ntmps18
    go_wp2_with fail
    refine (l08Ok_any w.heap.size 0 m _ X.out (HA.out _ B1.out)).mono ?_
    rintro e w2 ⟨rfl, b2⟩
    rw [HG.out]
    have hb2 := B1.out.trans (b2.mono B1.out.size)
    have X2 := Lib.hid (X.out.below b2)
    clear b2
    go_wp2_with fail
    refine (l08Sizes_any w.heap.size 0 m _ X2.out (HA.out _ hb2) HE.out (by omega)).mono ?_
    rintro e w3 ⟨r, rfl, or, b3⟩
    go_wp2
    go_ret2
    rw [HR.out, if_pos trivial, Int.toNat_natCast]
    exact ⟨r, rfl, or.lower hb2.size, hb2.trans (b3.mono hb2.size)⟩
end Go.Proofs.Ytmhpbkckmjdojaa
