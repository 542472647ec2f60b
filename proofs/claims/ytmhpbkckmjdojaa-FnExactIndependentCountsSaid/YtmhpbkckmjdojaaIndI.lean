/-
  The independent sets of a graph and their counts by size: the program's side.
-/
import Derived.Test.YtmhpbkckmjdojaaIndL
import Derived.Test.YtmhpbkckmjdojaaDelOdd
import Derived.Test.YtmhpbkckmjdojaaBits
import Derived.Test.YtmhpbkckmjdojaaFree
namespace Go.Proofs.Ytmhpbkckmjdojaa
open Go.RowKit Go.Sort
set_option maxHeartbeats 1000000 in
theorem oddClosure_any (bb x i : Nat) (w : World) (hc : CellsAt w bb [.int .i64 x]) (hx : x < 2 ^ 30) (hi : i ≤ 60) :
    Calls Try.prog 75 #[.int .i64 i, .pointer (some ⟨bb, 0, none⟩)] w fun e w' => e = .returned (.bool (x / 2 ^ i % 2 == 0)) ∧ Below w.heap.size w w' := by
  have c0 := hc.get 0 _ rfl
  have i0 : (0 : Int) ≤ (i : Int) := by omega
  obtain ⟨S, hS⟩ : ∃ S, S = x / 2 ^ i := ⟨_, rfl⟩
  have hSx : S ≤ x := by rw [hS]; exact Nat.div_le_self _ _
  have sh1 : (x : Int) / 2 ^ min i 64 = (S : Int) := by rw [shr_nat x i (by omega), hS]
  have sh2 : (x : Int) / 2 ^ i = (S : Int) := by rw [hS]; simp
  obtain ⟨T, hT⟩ : ∃ T, T = S % 2 := ⟨_, rfl⟩
  have an : bits .and .i64 (S : Int) 1 = (T : Int) := by rw [and_one S (by omega), hT]
  have hTT : x / 2 ^ i % 2 = T := by rw [hT, hS]
  have HT := Lib.hid hTT
  clear hS hT hTT
  by_cases ht : T = 0
  · have tt : ((T : Int) == 0) = true := by rw [ht]; rfl
    have HTT := Lib.hid ht
    clear ht
    go_enter Try.func75, Try.ntmps75
    go_wp2
    go_ret
    exact ⟨rb (by rw [HT.out, HTT.out]; rfl), Below.refl _ _⟩
  · have tt : ((T : Int) == 0) = false := by rw [beq_eq_false_iff_ne]; omega
    have tt2 : ¬ ((T : Int) = 0) := by omega
    have HTT := Lib.hid ht
    clear ht
    go_enter Try.func75, Try.ntmps75
    go_wp2
    go_ret
    exact ⟨rb (by rw [HT.out]; symm; rw [beq_eq_false_iff_ne]; exact HTT.out), Below.refl _ _⟩
theorem mem_upTo {y : Int} {m : Nat} (h : y ∈ upTo m) : ∃ i : Nat, i < m ∧ y = (i : Int) := by
  unfold upTo at h
  rw [List.mem_map] at h
  obtain ⟨i, h1, rfl⟩ := h
  exact ⟨i, List.mem_range.1 h1, rfl⟩
theorem setK_del (x m : Nat) : (upTo m).filter (fun y => !(x / 2 ^ y.toNat % 2 == 0)) = setK x m := by
  unfold setK
  congr 1
  funext y
  have : x / 2 ^ y.toNat % 2 = 0 ∨ x / 2 ^ y.toNat % 2 = 1 := by omega
  rcases this with h | h <;> rw [h] <;> rfl
set_option maxRecDepth 100000 in
set_option maxHeartbeats 4000000 in
theorem independent_any {v : Value} {es : List (List Int)} (m : Nat) (w : World) (ha : SlII w v es) (hE : EdgesB m es) (hm : m ≤ 20) :
    Calls Try.prog 57 #[.agg #[.int .i64 m, v]] w fun e w' => ∃ r, e = .returned r ∧ OwnII w' w.heap.size r (indN m es (2 ^ m)) ∧ Below w.heap.size w w' := by
  have hmf : ∀ (fn : Fn) (first cap : Array Value) (w : World), (Instr.makeFunc fn first cap).run Try.prog w = .ok (.func fn first cap) w := fun _ _ _ _ => rfl
  have HA := Lib.hid (fun W (h : Below w.heap.size w W) => ha.below h)
  have HE := Lib.hid hE
  obtain ⟨a, ca, us, rfl, _⟩ := ha
  obtain ⟨W1, hW1⟩ : ∃ W1, W1 = w.alloc (.cells #[.int .i64 m, .slice a es.length ca] 29) := ⟨_, rfl⟩
  have z1 : W1.heap.size = w.heap.size + 1 := by rw [hW1]; simp
  have b1 : Below w.heap.size w W1 := by rw [hW1]; exact (Below.refl _ _).alloc (Nat.le_refl _) _
  have X : GraphAt W1 w.heap.size 0 m (.slice a es.length ca) := by rw [hW1]; exact graphAt_new w m (.slice a es.length ca)
  have HX1 := Lib.hid (fun W (h : Below (w.heap.size + 1) W1 W) => X.below (show Below W1.heap.size W1 W by rw [z1]; exact h))
  have X := Lib.hid X
  have B1 := Lib.hid b1
  have HW1 := Lib.hid hW1
  have Z1 := Lib.hid z1
  obtain ⟨N, hN⟩ : ∃ N, N = 2 ^ m := ⟨_, rfl⟩
  have hNb : N ≤ 33554432 := by rw [hN]; exact pow2_le (by omega)
  have hNc : N ≤ 1048576 := by rw [hN]; exact Nat.le_trans (Nat.pow_le_pow_right (by decide) hm) (by decide)
  have s1 : IntKind.i64.wrap ((2 : Int) ^ m) = (N : Int) := by rw [hN]; rw [show ((2 : Int) ^ m) = ((2 ^ m : Nat) : Int) by simp, ← hN]; exact IntWalk.i64_in _ (by omega)
  have s2 : IntKind.i64.wrap ((2 : Int) ^ min m 64) = (N : Int) := by rw [Nat.min_eq_left (by omega)]; exact s1
  have s3 : wrap64 ((2 : Int) ^ m) = (N : Int) := by rw [← IntWalk.i64_left]; exact s1
  have s4 : wrap64 ((2 : Int) ^ min m 64) = (N : Int) := by rw [← IntWalk.i64_left]; exact s2
  have i0 : (0 : Int) ≤ (m : Int) := by omega
  have HN := Lib.hid hN
  have own0 : OwnII (W1.alloc (.cells #[] 25)) (w.heap.size + 1) (.slice (some ⟨w.heap.size + 1, 0, none⟩) 0 0) (indN m es 0) := by rw [← z1]; exact OwnII.empty W1 (Nat.le_refl _)
  have ob := Lib.hid (show Below (w.heap.size + 1) W1 (W1.alloc (.cells #[] 25)) from (Below.refl _ _).alloc (by omega) _)
  have O0 := Lib.hid own0
  obtain ⟨_, c0, c1⟩ := X.out
  simp only [Nat.zero_add] at c0 c1
  rw [hW1] at c0 c1
  clear hE hN hW1 z1 b1 own0
  go_enter Try.func57, Try.ntmps57
  go_wp2
  rw [← HW1.out]
  clear c0 c1
  go_loopw [3, 4, 5, 10] (fun v _ _ i wr => ∃ x : Nat, x ≤ N ∧ i = .int .i64 x ∧ OwnII wr (w.heap.size + 1) v (indN m es x) ∧ Below (w.heap.size + 1) W1 wr) (fun _ _ _ i _ => N - (intOf i).toNat)
  case atStart => exact ⟨0, Nat.zero_le _, rfl, O0.out, ob.out⟩
  case round =>
    obtain ⟨x, hx, rfl, hown, hbr⟩ := hrel
    have HO := Lib.hid hown
    have HB := Lib.hid hbr
    clear hown hbr
    by_cases hxt : x < N
    · have XR := HX1.out _ HB.out
      obtain ⟨_, c0, c1⟩ := id XR
      simp only [Nat.zero_add] at c0 c1
      have hz : w.heap.size + 1 ≤ wr.heap.size := by have := HB.out.size; rw [Z1.out] at this; exact this
      have hgw : w.heap.size < w.heap.size + 1 := by omega
      have K := Lib.hid (CellsAt.new' wr [.int .i64 x] 3 (b := wr.heap.size) rfl)
      have XR := Lib.hid XR
      have HIL := Lib.hid (indN_len m es x)
      go_wp2_with fail
      refine (everyState_any m _ (by omega)).mono ?_
      rintro e w3 ⟨v1, rfl, o1, b3⟩
      simp only [World.size_alloc] at o1 b3
      have K3 := Lib.hid (K.out.belowB (B := wr.heap.size + 1) (by omega) b3)
      have bx : Below wr.heap.size wr w3 := ((Below.refl _ _).alloc (Nat.le_refl _) _).trans (b3.mono (by omega))
      have hz3 := b3.size
      simp only [World.size_alloc] at hz3
      have BX := Lib.hid bx
      clear b3 bx c0 c1
      go_wp2_with fail
      refine (DeleteFuncOdd_any (.pointer (some ⟨wr.heap.size, 0, none⟩)) (fun y => x / 2 ^ y.toNat % 2 == 0) (wr.heap.size + 1) _ hz3 o1 ?_).mono ?_
      · intro W y hW hy
        obtain ⟨i, hi, rfl⟩ := mem_upTo hy
        exact oddClosure_any wr.heap.size x i W (K3.out.belowB (B := wr.heap.size + 1) (by omega) hW) (by omega) (by omega)
      · rintro e w4 ⟨v2, rfl, o2, b4⟩
        rw [setK_del] at o2
        have B4 := BX.out.trans (b4.mono (by omega))
        have B4W := HB.out.trans (B4.mono hz)
        obtain ⟨_, c0, c1⟩ := HX1.out _ B4W
        simp only [Nat.zero_add] at c0 c1
        generalize hq : indepB es (setK x m) = q
        have HQ := Lib.hid hq
        have B4 := Lib.hid B4
        have B4W := Lib.hid B4W
        have O2 := Lib.hid o2
        have hsl := Lib.hid o2.sl
        obtain ⟨va, vn, vc, rfl, hvn⟩ := o2.form
        clear hq b4 o1 o2
        go_wp2_with fail
        refine (isIndependent_any m m _ (HA.out _ (B1.out.trans (B4W.out.mono (by omega)))) hsl.out HE.out).mono ?_
        rintro e w5 ⟨rfl, b5⟩
        rw [HQ.out]
        have hb5 := B4.out.trans (b5.mono B4.out.size)
        have hb5W := B4W.out.trans (b5.mono (by have := B4W.out.size; rw [Z1.out] at this; exact this))
        have o5 := (O2.out.below b5).lower (show wr.heap.size ≤ wr.heap.size + 1 by omega)
        have hz5 := hb5.size
        clear b5 c0 c1
        cases q
        · go_wp2
          go_roundw
          case rel => exact ⟨x + 1, by omega, by go_num, by rw [indN_no HQ.out]; exact HO.out.below hb5, hb5W⟩
          case measure => simp [intOf]; omega
        · have hln : (indN m es x).length < 16777216 := by have := HIL.out; omega
          go_wp2_with (at_builtin; refine append_row wr w5 _ _ rfl rfl rfl HO.out hb5 o5 rfl hln hz ?_)
          intro v' w6 o6 b6 z6
          rw [← indN_yes HQ.out] at o6
          have hb6 := (hb5W.alloc (Nat.le_trans hz hz5) _).trans b6
          clear b6
          go_wp2
          go_roundw
          case rel => exact ⟨x + 1, by omega, by go_num, o6, hb6⟩
          case measure => simp [intOf]; omega
    · obtain rfl : x = N := by omega
      have hX := HN.out
      have HX := Lib.hid hX
      have hwz := Lib.hid (show w.heap.size ≤ w.heap.size + 1 by omega)
      clear hX
      go_wp2
      go_ret
      exact ⟨_, rfl, by rw [← HX.out]; exact HO.out.lower hwz.out, B1.out.trans (HB.out.mono hwz.out)⟩

set_option maxRecDepth 100000 in
set_option maxHeartbeats 4000000 in
theorem independentCounts_any {v : Value} {es : List (List Int)} (m : Nat) (w : World) (ha : SlII w v es) (hE : EdgesB m es) (hm : m ≤ 20) :
    Calls Try.prog 33 #[.agg #[.int .i64 m, v]] w fun e w' => ∃ r, e = .returned r ∧ OwnI w' w.heap.size r (cntL (m + 1) (indN m es (2 ^ m))) ∧ Below w.heap.size w w' := by
  have HA := Lib.hid (fun W (h : Below w.heap.size w W) => ha.below h)
  have HE := Lib.hid hE
  obtain ⟨a, ca, us, rfl, _⟩ := ha
  obtain ⟨W1, hW1⟩ : ∃ W1, W1 = w.alloc (.cells #[.int .i64 m, .slice a es.length ca] 29) := ⟨_, rfl⟩
  have z1 : W1.heap.size = w.heap.size + 1 := by rw [hW1]; simp
  have b1 : Below w.heap.size w W1 := by rw [hW1]; exact (Below.refl _ _).alloc (Nat.le_refl _) _
  have X : GraphAt W1 w.heap.size 0 m (.slice a es.length ca) := by rw [hW1]; exact graphAt_new w m (.slice a es.length ca)
  have HX1 := Lib.hid (fun W (h : Below (w.heap.size + 1) W1 W) => X.below (show Below W1.heap.size W1 W by rw [z1]; exact h))
  have X := Lib.hid X
  have B1 := Lib.hid b1
  have HW1 := Lib.hid hW1
  have Z1 := Lib.hid z1
  have hr : IntKind.i64.wrap ((m : Int) + 1) = ((m + 1 : Nat) : Int) := by rw [IntWalk.i64_in _ (by omega)]; simp
  obtain ⟨_, c0, c1⟩ := X.out
  simp only [Nat.zero_add] at c0 c1
  obtain ⟨SS, hSS⟩ : ∃ SS, SS = indN m es (2 ^ m) := ⟨_, rfl⟩
  have hSl : SS.length ≤ 1048576 := by rw [hSS]; exact Nat.le_trans (indN_len _ _ _) (Nat.le_trans (Nat.pow_le_pow_right (by decide) hm) (by decide))
  have hSm : ∀ s ∈ SS, s.length ≤ m := by
    intro s hs
    rw [hSS] at hs
    obtain ⟨x, _, rfl, _⟩ := indN_mem _ hs
    exact setK_len _ _
  have HS := Lib.hid hSS
  have HSM := Lib.hid hSm
  clear hE hW1 z1 b1 hSS hSm
  rw [HW1.out] at c0 c1
  go_enter Try.func33, Try.ntmps33
  go_wp2_with (at_make; refine make_i64 _ _ _ rfl rfl (m + 1) rfl rfl (by first | exact hr | simp [hr]) (by first | exact hr | simp [hr]) (by omega) ?_)
  rw [← HW1.out]
  intro w3 hmk hb3 hz3
  have B3 := Lib.hid hb3
  have HMK := Lib.hid hmk
  clear c0 c1
  obtain ⟨_, c0, c1⟩ := HX1.out _ hb3
  simp only [Nat.zero_add] at c0 c1
  clear hmk hb3
  go_wp2_with fail
  refine (independent_any m _ (HA.out _ (B1.out.trans (B3.out.mono (by omega)))) HE.out hm).mono ?_
  rintro e w4 ⟨r, rfl, o4, b4⟩
  rw [← HS.out] at o4
  have O4 := Lib.hid o4
  have B4 := Lib.hid (B3.out.trans (b4.mono (by have := B3.out.size; rw [Z1.out] at this; exact this)))
  have M4 := Lib.hid (HMK.out.below b4)
  obtain ⟨ra, rn, rc, rfl, hrn⟩ := o4.form
  rw [hrn.out] at O4 ⊢
  clear o4 b4 c0 c1
  go_wp2
  go_loopw [5, 13] (fun _ i wr => ∃ k : Nat, k ≤ SS.length ∧ i = .int .i64 k ∧ OwnI wr (w.heap.size + 1) (.slice (some ⟨(w.heap.size + 1), 0, none⟩) (m + 1) (m + 1)) (cntL (m + 1) (SS.take k)) ∧ OwnII wr w3.heap.size (.slice ra SS.length rc) SS ∧ Below (w.heap.size + 1) W1 wr) (fun _ i _ => SS.length - (intOf i).toNat)
  case atStart => exact ⟨0, Nat.zero_le _, rfl, M4.out, O4.out, B4.out⟩
  case round =>
    clear M4 O4 B4 HMK
    obtain ⟨k, hk, rfl, hcn, hro, hbr⟩ := hrel
    by_cases hlt : k < SS.length
    · obtain ⟨bb, off, u, rfl, gc, ou⟩ := hro.rowAt hlt
      obtain ⟨ua, un, uc, rfl, hun⟩ := ou.form
      rw [hun.out] at ou gc
      have hln := HSM.out _ (List.getElem_mem hlt)
      have hstep := cntL_take (L := m + 1) hlt
      have hrng := cntL_rng (m + 1) (SS.take k) SS[k].length
      have hcl := cntL_len (m + 1) (SS.take k)
      obtain ⟨g, hg⟩ : ∃ g, g = SS[k].length := ⟨_, rfl⟩
      unfold bump at hstep
      rw [← hg] at ou gc hln hstep hrng
      have hgl : g < (cntL (m + 1) (SS.take k)).length := by omega
      have cc := hcn.cell hgl
      have cf := hcn.free g
      have eg := getD_at (d := 0) hgl
      rw [eg] at hstep hrng
      generalize (cntL (m + 1) (SS.take k))[g] = cv at cc hstep hrng
      have htl : (SS.take k).length ≤ 1048576 := by rw [List.length_take]; omega
      have r3 : IntKind.i64.wrap (cv + 1) = cv + 1 := IntWalk.i64_in _ (by omega)
      have ig : (g : Int) < ((m + 1 : Nat) : Int) := by omega
      have ig2 : (g : Int) < (m : Int) + 1 := by omega
      have ig3 : g < m + 1 := by omega
      have ik : (k : Int) < (SS.length : Int) := by omega
      have OS := Lib.hid (hcn.set g (cv + 1))
      have RS := Lib.hid (hro.setCell (a := ⟨(w.heap.size + 1), g, none⟩) hz3 (.int .i64 (cv + 1)))
      have BS := Lib.hid (hbr.setCell (p := ⟨(w.heap.size + 1), g, none⟩) (Nat.le_refl _) (.int .i64 (cv + 1)))
      have HST := Lib.hid hstep
      clear hstep hrng hcl hgl eg hcn hro hbr ou hg htl
      go_wp2
      go_roundw
      case rel => exact ⟨k + 1, by omega, by go_num, by rw [HST.out]; exact OS.out, RS.out, BS.out⟩
      case measure => simp [intOf]; omega
    · obtain rfl : k = SS.length := by omega
      have hwz := Lib.hid (show w.heap.size ≤ w.heap.size + 1 by omega)
      have HC := Lib.hid hcn
      have HBR := Lib.hid hbr
      clear hcn hro hbr
      go_wp2
      go_ret
      have := HC.out
      rw [List.take_length] at this
      exact ⟨_, rfl, by rw [← HS.out]; exact this.lower hwz.out, B1.out.trans (HBR.out.mono hwz.out)⟩
def cntR (n : Int) (es : List (List Int)) : List Int × Int := if graphOk n es = true then (cntL (n.toNat + 1) (indN n.toNat es (2 ^ n.toNat)), 0) else ([], 1)
theorem cntR_len (n : Int) (es : List (List Int)) : (cntR n es).1.length ≤ 6 := by
  unfold cntR
  split
  · rename_i h
    obtain ⟨m, rfl, _, hm, _⟩ := graphOk_all h
    rw [cntL_len]; omega
  · simp
set_option maxHeartbeats 1000000 in
theorem ImplIndependentCounts_any {v : Value} {es : List (List Int)} (n : Int) (w : World) (ha : SlII w v es) :
    Calls Try.prog 19 #[.agg #[.int .i64 n, v]] w (FreshIC w (cntR n es)) := by
  have HA := Lib.hid (fun W (h : Below w.heap.size w W) => ha.below h)
  obtain ⟨a, ca, us, rfl, _⟩ := ha
  have b1 : Below w.heap.size w (w.alloc (.cells #[.int .i64 n, .slice a es.length ca] 29)) := (Below.refl _ _).alloc (Nat.le_refl _) _
  have X := Lib.hid (graphAt_new w n (.slice a es.length ca))
  have hR : cntR n es = if graphOk n es = true then (cntL (n.toNat + 1) (indN n.toNat es (2 ^ n.toNat)), 0) else ([], 1) := rfl
  generalize hg : graphOk n es = g at hR
  have HR := Lib.hid hR
  have HG := Lib.hid hg
  have B1 := Lib.hid b1
  clear hR hg b1
  cases g
  · go_enter Try.func19, Try.ntmps19
    go_wp2_with fail
    refine (ImplValidGraph_any n _ (HA.out _ B1.out)).mono ?_
    rintro e w2 ⟨rfl, b2⟩
    rw [HG.out]
    have hb2 := B1.out.trans (b2.mono B1.out.size)
    go_wp2
    go_ret2
    rw [HR.out]
    exact ⟨_, rfl, OwnI.nil _ _, hb2⟩
  · obtain ⟨m, rfl, hm1, hm5, hE, hl⟩ := graphOk_all HG.out
    have HE := Lib.hid hE
    clear hE
    go_enter Try.func19, Try.ntmps19
    go_wp2_with fail
    refine (ImplValidGraph_any m _ (HA.out _ B1.out)).mono ?_
    rintro e w2 ⟨rfl, b2⟩
    rw [HG.out]
    have hb2 := B1.out.trans (b2.mono B1.out.size)
    obtain ⟨_, c0, c1⟩ := X.out.below b2
    simp only [Nat.zero_add] at c0 c1
    clear b2
    go_wp2_with fail
    refine (independentCounts_any m _ (HA.out _ hb2) HE.out (by omega)).mono ?_
    rintro e w3 ⟨r, rfl, or, b3⟩
    go_wp2
    go_ret2
    rw [HR.out, if_pos trivial, Int.toNat_natCast]
    exact ⟨r, rfl, or.lower hb2.size, hb2.trans (b3.mono hb2.size)⟩
end Go.Proofs.Ytmhpbkckmjdojaa
