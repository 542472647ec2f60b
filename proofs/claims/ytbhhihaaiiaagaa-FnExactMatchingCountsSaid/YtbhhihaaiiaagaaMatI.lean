/-
  MatchingCounts, the program's side.
-/
import Derived.Test.YtbhhihaaiiaagaaMatL
import Derived.Test.YtbhhihaaiiaagaaIndI
namespace Go.Proofs.Ytbhhihaaiiaagaa
open Go.RowKit Go.Sort
set_option maxRecDepth 100000 in
set_option maxHeartbeats 4000000 in
theorem ImplMatchingCounts_any {v : Value} {es : List (List Int)} (n : Int) (w : World) (ha : SlII w v es) :
    Calls Try.prog 16 #[.agg #[.int .i64 n, v]] w (FreshIC w (matR n es)) := by
  have HA := Lib.hid (fun W (h : Below w.heap.size w W) => ha.below h)
  obtain ⟨a, ca, us, rfl, _⟩ := ha
  have b1 : Below w.heap.size w (w.alloc (.cells #[.int .i64 n, .slice a es.length ca] 29)) := (Below.refl _ _).alloc (Nat.le_refl _) _
  have X := Lib.hid (graphAt_new w n (.slice a es.length ca))
  have hR : matR n es = if graphOk n es = true then (cntL (n.toNat / 2 + 1) (matN es (2 ^ es.length)), 0) else ([], 1) := rfl
  generalize hg : graphOk n es = g at hR
  have HR := Lib.hid hR
  have HG := Lib.hid hg
  have B1 := Lib.hid b1
  clear hR hg b1
  cases g
  · go_enter Try.func16, Try.ntmps16
    go_wp2_with fail
    refine (ImplValidGraph_any n _ (HA.out _ B1.out)).mono ?_
    rintro e w2 ⟨rfl, b2⟩
    rw [HG.out]
    have hb2 := B1.out.trans (b2.mono B1.out.size)
    go_wp2
    go_ret2
    rw [HR.out]
    exact ⟨_, rfl, OwnI.nil _ _, hb2⟩
  · obtain ⟨m, rfl, hm1, hm5, hE, _⟩ := graphOk_all HG.out
    have hl := graphOk_len20 HG.out
    have hR2 := HR.out
    rw [if_pos rfl, Int.toNat_natCast, matN_eq] at hR2
    obtain ⟨SS, hSS⟩ : ∃ SS, SS = indN es.length (allE es es.length) (2 ^ es.length) := ⟨_, rfl⟩
    have hSl : SS.length ≤ 1048576 := by rw [hSS]; exact Nat.le_trans (indN_len _ _ _) (Nat.le_trans (Nat.pow_le_pow_right (by decide) hl) (by decide))
    have hSm : ∀ s ∈ SS, s.length < m / 2 + 1 := by
      intro s hs
      rw [hSS] at hs
      obtain ⟨x, _, rfl, hi⟩ := indN_mem _ hs
      rw [indep_line] at hi
      have := okM_size hE x hi
      omega
    rw [← hSS] at hR2
    obtain ⟨M, hM⟩ : ∃ M, M = m / 2 := ⟨_, rfl⟩
    rw [← hM] at hR2 hSm
    have hd1 : Int.tdiv (m : Int) 2 = (M : Int) := by rw [hM, Int.tdiv_eq_ediv_of_nonneg (by omega)]; simp
    have hd2 : (m : Int) / 2 = (M : Int) := by rw [hM]; simp
    have hd3 : IntKind.i64.wrap (M : Int) = (M : Int) := IntWalk.i64_in _ (by omega)
    have hd4 : ¬ ((2 : Int) = 0) := by decide
    have hr : IntKind.i64.wrap ((M : Int) + 1) = ((M + 1 : Nat) : Int) := by rw [IntWalk.i64_in _ (by omega)]; simp
    have hMb : M ≤ 5 := by omega
    have HS := Lib.hid hSS
    have HSM := Lib.hid hSm
    have HR2 := Lib.hid hR2
    have HE := Lib.hid hE
    clear hE hR2 hSS hSm hM
    go_enter Try.func16, Try.ntmps16
    go_wp2_with fail
    refine (ImplValidGraph_any m _ (HA.out _ B1.out)).mono ?_
    rintro e w2 ⟨rfl, b2⟩
    rw [HG.out]
    have X2 := Lib.hid (X.out.below b2)
    have B2 := Lib.hid (B1.out.trans (b2.mono B1.out.size))
    obtain ⟨_, c0, c1⟩ := X2.out
    simp only [Nat.zero_add] at c0 c1
    clear b2
    go_wp2_with (at_make; refine make_i64 w2 _ _ rfl rfl (M + 1) rfl rfl (by first | exact hr | simp [hr]) (by first | exact hr | simp [hr]) (by omega) ?_)
    intro w3 hmk hb3 hz3
    have B3 := Lib.hid hb3
    have B3W := Lib.hid (B2.out.trans (hb3.mono B2.out.size))
    have HMK := Lib.hid hmk
    clear c0 c1
    obtain ⟨_, c0, c1⟩ := X2.out.below hb3
    simp only [Nat.zero_add] at c0 c1
    clear hmk hb3
    go_wp2_with fail
    refine (lineGraph_any m m _ (HA.out _ B3W.out) HE.out (by omega)).mono ?_
    rintro e w4 ⟨lr, rfl, o4, b4⟩
    have L4 := Lib.hid o4.sl
    have B4 := Lib.hid (B3.out.trans (b4.mono (Nat.le_of_lt hz3)))
    have M4 := Lib.hid (HMK.out.below b4)
    have hz4 := Lib.hid (Nat.lt_of_lt_of_le hz3 b4.size)
    obtain ⟨la, ln, lc, rfl, hln⟩ := o4.form
    clear o4 b4 c0 c1
    go_wp2_with fail
    refine (independent_any es.length _ L4.out (edgesB_line es) hl).mono ?_
    rintro e w5 ⟨r, rfl, o5, b5⟩
    rw [← HS.out] at o5
    have O5 := Lib.hid o5
    have B5 := Lib.hid (B4.out.trans (b5.mono (Nat.le_of_lt hz4.out)))
    have M5 := Lib.hid (M4.out.below b5)
    obtain ⟨ra, rn, rc, rfl, hrn⟩ := o5.form
    rw [hrn.out] at O5 ⊢
    clear o5 b5
    go_wp2
    go_loopw [6, 19] (fun _ i wr => ∃ k : Nat, k ≤ SS.length ∧ i = .int .i64 k ∧ OwnI wr w2.heap.size (.slice (some ⟨w2.heap.size, 0, none⟩) (M + 1) (M + 1)) (cntL (M + 1) (SS.take k)) ∧ OwnII wr w4.heap.size (.slice ra SS.length rc) SS ∧ Below w2.heap.size w2 wr) (fun _ i _ => SS.length - (intOf i).toNat)
    case atStart => exact ⟨0, Nat.zero_le _, rfl, M5.out, O5.out, B5.out⟩
    case round =>
      clear M4 O5 B5 HMK M5
      obtain ⟨k, hk, rfl, hcn, hro, hbr⟩ := hrel
      by_cases hlt : k < SS.length
      · obtain ⟨bb, off, u, rfl, gc, ou⟩ := hro.rowAt hlt
        obtain ⟨ua, un, uc, rfl, hun⟩ := ou.form
        rw [hun.out] at ou gc
        have hln2 := HSM.out _ (List.getElem_mem hlt)
        have hstep := cntL_take (L := M + 1) hlt
        have hrng := cntL_rng (M + 1) (SS.take k) SS[k].length
        have hcl := cntL_len (M + 1) (SS.take k)
        obtain ⟨g, hg⟩ : ∃ g, g = SS[k].length := ⟨_, rfl⟩
        unfold bump at hstep
        rw [← hg] at ou gc hln2 hstep hrng
        have hgl : g < (cntL (M + 1) (SS.take k)).length := by omega
        have cc := hcn.cell hgl
        have cf := hcn.free g
        have eg := getD_at (d := 0) hgl
        rw [eg] at hstep hrng
        generalize (cntL (M + 1) (SS.take k))[g] = cv at cc hstep hrng
        have htl : (SS.take k).length ≤ 1048576 := by rw [List.length_take]; omega
        have r3 : IntKind.i64.wrap (cv + 1) = cv + 1 := IntWalk.i64_in _ (by omega)
        have ig : (g : Int) < ((M + 1 : Nat) : Int) := by omega
        have ig2 : (g : Int) < (M : Int) + 1 := by omega
        have ig3 : g < M + 1 := by omega
        have ik : (k : Int) < (SS.length : Int) := by omega
        have OS := Lib.hid (hcn.set g (cv + 1))
        have RS := Lib.hid (hro.setCell (a := ⟨w2.heap.size, g, none⟩) hz4.out (.int .i64 (cv + 1)))
        have BS := Lib.hid (hbr.setCell (p := ⟨w2.heap.size, g, none⟩) (Nat.le_refl _) (.int .i64 (cv + 1)))
        have HST := Lib.hid hstep
        clear hstep hrng hcl hgl eg hcn hro hbr ou hg htl
        go_wp2
        go_roundw
        case rel => exact ⟨k + 1, by omega, by go_num, by rw [HST.out]; exact OS.out, RS.out, BS.out⟩
        case measure => simp [intOf]; omega
      · obtain rfl : k = SS.length := by omega
        have HC := Lib.hid hcn
        have HBR := Lib.hid hbr
        clear hcn hro hbr
        go_wp2
        go_ret2
        have := HC.out
        rw [List.take_length] at this
        rw [HR2.out]
        exact ⟨_, rfl, this.lower B2.out.size, B2.out.trans (HBR.out.mono B2.out.size)⟩
end Go.Proofs.Ytbhhihaaiiaagaa
