/-
  ColourPolynomial, the program's side.
-/
import Derived.Test.YtbhhihaaiiaagaaPolyS
import Derived.Deep.DeepCutAuto
import Derived.Deep.RegionWith
namespace Go.Proofs.Ytbhhihaaiiaagaa
open Go.RowKit Go.Sort
theorem OwnI.block {w : World} {base n c g : Nat} {xs : List Int} (h : OwnI w base (.slice (some ⟨g, 0, none⟩) n c) xs) : base ≤ g ∧ g < w.heap.size := h.lt g rfl
set_option maxRecDepth 100000 in
set_option maxHeartbeats 8000000 in
theorem ImplColourPolynomial_any {v : Value} {es : List (List Int)} (n : Int) (w : World) (ha : SlII w v es) :
    Calls Try.prog 9 #[.agg #[.int .i64 n, v]] w (FreshIC w (polyR n es)) := by
  have HA := Lib.hid (fun W (h : Below w.heap.size w W) => ha.below h)
  obtain ⟨a, ca, us, rfl, hca, hca', hul, hrd, hrow⟩ := ha
  unfold maxLen at hca'
  have HG2 := Lib.hid (fun W (h : Below w.heap.size w W) => And.intro (hrd.below h) (fun i hi u hu => (hrow i hi u hu).below h))
  have HU := Lib.hid hul
  have b1 : Below w.heap.size w (w.alloc (.cells #[.int .i64 n, .slice a es.length ca] 29)) := (Below.refl _ _).alloc (Nat.le_refl _) _
  have X := Lib.hid (graphAt_new w n (.slice a es.length ca))
  have hR : polyR n es = if graphOk n es = true then (polyN n.toNat es (2 ^ es.length), 0) else ([], 1) := rfl
  generalize hg : graphOk n es = g at hR
  have HR := Lib.hid hR
  have HG := Lib.hid hg
  have B1 := Lib.hid b1
  clear hR hg b1 hrd hrow hul
  cases g
  · go_enter Try.func9, Try.ntmps9
    go_wp2_with fail
    refine (ImplValidGraph_any n _ (HA.out _ B1.out)).mono ?_
    rintro e w2 ⟨rfl, b2⟩
    rw [HG.out]
    have hb2 := B1.out.trans (b2.mono B1.out.size)
    go_wp2
    go_ret2
    rw [HR.out]
    exact ⟨_, rfl, OwnI.nil _ _, hb2⟩
  · obtain ⟨m, rfl, hm1, hm5, hE, hl⟩ := graphOk_all HG.out
    have HE := Lib.hid hE
    obtain ⟨N, hN⟩ : ∃ N, N = 2 ^ es.length := ⟨_, rfl⟩
    have hNb : N ≤ 33554432 := by rw [hN]; exact pow_big hl
    have s1 : IntKind.i64.wrap ((2 : Int) ^ es.length) = (N : Int) := by rw [hN]; rw [show ((2 : Int) ^ es.length) = ((2 ^ es.length : Nat) : Int) by simp, ← hN]; exact IntWalk.i64_in _ (by omega)
    have s2 : IntKind.i64.wrap ((2 : Int) ^ min es.length 64) = (N : Int) := by rw [Nat.min_eq_left (by omega)]; exact s1
    have s3 : wrap64 ((2 : Int) ^ es.length) = (N : Int) := by rw [← IntWalk.i64_left]; exact s1
    have s4 : wrap64 ((2 : Int) ^ min es.length 64) = (N : Int) := by rw [← IntWalk.i64_left]; exact s2
    have HN := Lib.hid hN
    clear hE hN
    go_enter Try.func9, Try.ntmps9
    go_wp2_with fail
    refine (ImplValidGraph_any m _ (HA.out _ B1.out)).mono ?_
    rintro e w2 ⟨rfl, b2⟩
    rw [HG.out]
    have X2 := Lib.hid (X.out.below b2)
    have B2 := Lib.hid (B1.out.trans (b2.mono B1.out.size))
    obtain ⟨_, c0, c1⟩ := X2.out
    simp only [Nat.zero_add] at c0 c1
    have hr : IntKind.i64.wrap ((m : Int) + 1) = ((m + 1 : Nat) : Int) := by rw [IntWalk.i64_in _ (by omega)]; simp
    clear b2
    go_wp2_with (at_make; refine make_i64 w2 _ _ rfl rfl (m + 1) rfl rfl (by first | exact hr | simp [hr]) (by first | exact hr | simp [hr]) (by omega) ?_)
    intro w3 hmk hb3 hz3
    have HMK := Lib.hid hmk
    have HB3 := Lib.hid hb3
    have q3 := (X2.out.below hb3).2
    obtain ⟨c0, c1⟩ := q3
    simp only [Nat.zero_add] at c0 c1
    clear hmk hb3
    go_wp2
    clear c0 c1
    go_loopw [5, 6, 7, 8, 9, 10, 11, 12, 13, 25] (fun _ _ _ _ _ _ _ _ _ i wr => ∃ x : Nat, x ≤ N ∧ i = .int .i64 x ∧ OwnI wr w2.heap.size (.slice (some ⟨w2.heap.size, 0, none⟩) (m + 1) (m + 1)) (polyN m es x) ∧ Below w2.heap.size w2 wr) (fun _ _ _ _ _ _ _ _ _ i _ => N - (intOf i).toNat)
    case atStart => exact ⟨0, Nat.zero_le _, rfl, HMK.out, HB3.out⟩
    case round =>
      clear HMK HB3
      obtain ⟨x, hx, rfl, hown, hbr⟩ := hrel
      have xr := X2.out.below hbr
      obtain ⟨_, c0, c1⟩ := id xr
      simp only [Nat.zero_add] at c0 c1
      have XR := Lib.hid xr
      have hbw := B2.out.trans (hbr.mono B2.out.size)
      have HO := Lib.hid hown
      have HB := Lib.hid hbr
      clear xr hown hbr
      by_cases hxt : x < N
      · obtain ⟨wo, hwo⟩ : ∃ wo : World, wo = wr := ⟨_, rfl⟩
        subst hwo
        go_wp2_with fail
        go_region_with (first
          | (go_at_call 29; refine (everyState_any m _ (by omega)).mono ?_; rintro e w4 ⟨pv, rfl, op, b4⟩; have b4' := below_of (a := wo) (by (repeat (first | exact Below.refl _ _ | refine Below.drew ?_ | refine Below.alloc ?_ (by simp) _))) b4; have d0 := (XR.out.below b4').2.1; have d1 := (XR.out.below b4').2.2; simp only [Nat.zero_add] at d0 d1; obtain ⟨pa, pn, pc, rfl, _⟩ := op.form))
        all_goals
          have op' : OwnI w4 wo.heap.size _ _ := op.lower (by first | exact Nat.le_refl _ | simp)
          rcases op'.forms with ⟨_, he⟩ | ⟨g, c, hpv, hgb, _⟩
          · exact absurd (congrArg List.length he) (by rw [upTo_length]; simp; omega)
          rw [hpv] at op' ⊢
          rw [upTo_length] at op' ⊢
          have OP := Lib.hid op'
          have B4 := Lib.hid b4'
          clear op op' b4 b4' hpv c0 c1
          go_wp2
          clear d0 d1
          go_loopw [7, 8, 9, 10, 11, 12, 13, 36] (fun gr sv _ _ _ _ _ i wr => ∃ (j : Nat) (p : List Int) (G sg : Int), j ≤ es.length ∧ i = .int .i64 j ∧ gr = .int .i64 G ∧ sv = .int .i64 sg ∧ Hid (sg = sgnL j x) ∧ Hid (partS m es x j = (p, G)) ∧ OwnI wr wo.heap.size (.slice (some ⟨g, 0, none⟩) m c) p ∧ Below wo.heap.size wo wr) (fun _ _ _ _ _ _ _ i _ => es.length - (intOf i).toNat)
          case atStart => exact ⟨0, _, _, 1, Nat.zero_le _, rfl, rfl, rfl, Lib.hid rfl, Lib.hid rfl, OP.out, B4.out⟩
          case round =>
            clear OP B4
            obtain ⟨j, p, G, sg, hj, rfl, rfl, rfl, hsg, hst, hown, hbi⟩ := hrel
            have hbw2 := hbw.trans (hbi.mono hbw.size)
            have hs1 := sgnL_one j x
            rw [← hsg.out] at hs1
            by_cases hjt : j < es.length
            · have hok := partS_ok HE.out x j (by omega)
              rw [hst.out] at hok
              have hpl := hok.len
              have hGr := hok.rng
              dsimp only at hpl hGr
              obtain ⟨y, hy⟩ : ∃ y, us[j]? = some y := ⟨_, List.getElem?_eq_getElem (by rw [HU.out]; exact hjt)⟩
              obtain ⟨eb, eo, rfl, gy⟩ := (HG2.out _ hbw2).1.one hy
              obtain ⟨A, B, he, hAB, hBm⟩ := HE.out es[j] (List.getElem_mem hjt)
              have sy : SlI wr y [(A : Int), (B : Int)] := by have := (HG2.out wr hbw2).2 j hjt y hy; rw [he] at this; exact this
              have heg : es.getD j [] = [(A : Int), (B : Int)] := by rw [getD_at hjt, he]
              have HEG := Lib.hid heg
              obtain ⟨ya, yc, hye, _, _, ur⟩ := sy
              simp only [List.length_cons, List.length_nil, Nat.zero_add] at hye
              subst hye
              obtain ⟨yb, yo, rfl, g0⟩ := ur.one (i64s_get (j := 0) (by simp))
              obtain ⟨yb', yo', he2, g1⟩ := ur.one (i64s_get (j := 1) (by simp))
              simp only [Option.some.injEq, Addr.mk.injEq] at he2
              obtain ⟨rfl, rfl, _⟩ := he2
              simp only [Nat.add_zero, List.getElem_cons_zero, List.getElem_cons_succ] at g0 g1
              have hAm : A < p.length := by omega
              have hBp : B < p.length := by omega
              have pA := hown.cell (i := A) hAm
              have pB := hown.cell (i := B) hBp
              have eA : p.getD A 0 = p[A] := getD_at hAm
              have eB : p.getD B 0 = p[B] := getD_at hBp
              generalize p[A] = va at pA eA
              generalize p[B] = vb at pB eB
              have iA : (A : Int) < (m : Int) := by omega
              have iB : (B : Int) < (m : Int) := by omega
              have iAn : A < m := by omega
              have ij : (j : Int) < (es.length : Int) := by omega
              obtain ⟨S, hS⟩ : ∃ S, S = x / 2 ^ j := ⟨_, rfl⟩
              have hSx : S ≤ x := by rw [hS]; exact Nat.div_le_self _ _
              have sh1 : (x : Int) / 2 ^ min j 64 = (S : Int) := by rw [shr_nat x j (by omega), hS]
              have sh2 : (x : Int) / 2 ^ j = (S : Int) := by rw [hS]; simp
              obtain ⟨T, hT⟩ : ∃ T, T = S % 2 := ⟨_, rfl⟩
              have an : bits .and .i64 (S : Int) 1 = (T : Int) := by rw [and_one S (by omega), hT]
              have hTT : x / 2 ^ j % 2 = T := by rw [hT, hS]
              have HT := Lib.hid hTT
              have EA := Lib.hid eA
              have EB := Lib.hid eB
              have HOI := Lib.hid hown
              have HBI := Lib.hid hbi
              have HPL := Lib.hid hpl
              have stop := sgnL_top j x
              rw [hTT, ← hsg.out] at stop
              have r4 : IntKind.i64.wrap (-sg) = -sg := IntWalk.i64_in _ (by omega)
              clear hS hT hTT eA eB hown hbi hok hpl heg he hy ur
              by_cases ht : T = 0
              · have tt : ((T : Int) == 0) = true := by rw [ht]; rfl
                have hsk := Lib.hid ((partS_skip (m := m) (es := es) (HT.out.trans ht)).trans hst.out)
                rw [if_pos ht, Int.one_mul] at stop
                have ST := Lib.hid stop.symm
                clear ht stop hs1
                go_wp2
                go_roundw
                case rel => exact ⟨j + 1, p, G, sg, by omega, by go_num, rfl, rfl, ST, hsk, HOI.out, HBI.out⟩
                case measure => simp [intOf]; omega
              · have tt : ((T : Int) == 0) = false := by rw [beq_eq_false_iff_ne]; omega
                have HNT := Lib.hid ht
                rw [if_neg ht, Int.neg_one_mul] at stop
                have ST := Lib.hid stop.symm
                have k0 := fun d os => cell_regrown g0 d os
                have k1 := fun d os => cell_regrown g1 d os
                have kA := fun d os => cell_regrown pA d os
                have kB := fun d os => cell_regrown pB d os
                clear ht stop hs1
                by_cases hab : va = vb
                · have ab : (va == vb) = true := by simp [hab]
                  have hsk := Lib.hid (partS_same (x := x) hst.out HEG.out (by rw [EA.out, EB.out, hab]))
                  clear hab
                  go_wp2
                  refine wp_region_quiet_below (by kernel_rfl) (by kernel_rfl) ?_
                  repeat (first | go_big_quiet_skip | quiet_step (first | fail))
                  refine wpQuiet_nil ?_
                  intro _ hw'
                  obtain ⟨⟨dq, osq⟩, hw''⟩ := hw'
                  subst hw''
                  have bq0 := below_regrown wr dq osq
                  generalize grow (redrawn wr dq) osq = wq at bq0 ⊢
                  have HO3 := Lib.hid (HOI.out.below bq0)
                  have HB3 := Lib.hid (HBI.out.trans (bq0.mono HBI.out.size))
                  clear k0 k1 kA kB pA pB g0 g1 gy bq0
                  go_wp2
                  go_roundw
                  case rel => exact ⟨j + 1, p, G, -sg, by omega, by go_num, rfl, by go_num, ST, hsk, HO3.out, HB3.out⟩
                  case measure => simp [intOf]; omega
                · have ab : (va == vb) = false := by simp [hab]
                  have hjn : partS m es x (j + 1) = (relab p va vb, G - 1) := by
                    have := partS_join hst.out HEG.out (by rw [HT.out]; exact HNT.out) (by rw [EA.out, EB.out]; exact hab)
                    rw [EA.out, EB.out] at this
                    exact this
                  have HJN := Lib.hid hjn
                  have r1 : IntKind.i64.wrap (G - 1) = G - 1 := IntWalk.i64_in _ (by omega)
                  clear hab hjn
                  go_wp2
                  refine wp_region_quiet_below (by kernel_rfl) (by kernel_rfl) ?_
                  repeat (first | go_big_quiet_skip | quiet_step (first | fail))
                  refine wpQuiet_nil ?_
                  intro _ hw'
                  obtain ⟨⟨dq, osq⟩, hw''⟩ := hw'
                  subst hw''
                  have bq0 := below_regrown wr dq osq
                  generalize grow (redrawn wr dq) osq = wq at bq0 ⊢
                  have HO3 := Lib.hid (HOI.out.below bq0)
                  have HB3 := Lib.hid (HBI.out.trans (bq0.mono HBI.out.size))
                  clear k0 k1 kA kB pA pB g0 g1 gy bq0
                  go_wp2
                  go_loopw [13, 67] (fun _ i wr => ∃ q : Nat, q ≤ m ∧ i = .int .i64 q ∧ OwnI wr wo.heap.size (.slice (some ⟨g, 0, none⟩) m c) (mixR p va vb q) ∧ Below wo.heap.size wo wr) (fun _ i _ => m - (intOf i).toNat)
                  case atStart => exact ⟨0, Nat.zero_le _, rfl, by rw [mixR_zero]; exact HO3.out, HB3.out⟩
                  case round =>
                    clear HOI HBI HO3 HB3
                    obtain ⟨q, hq, rfl, hown, hbi⟩ := hrel
                    by_cases hqt : q < m
                    · have hqp : q < p.length := by rw [HPL.out]; exact hqt
                      have hml : (mixR p va vb q).length = p.length := mixR_len (by omega)
                      have gq := hown.cell (i := q) (by rw [hml]; exact hqp)
                      have gf := hown.free q
                      have eq1 : p.getD q 0 = (mixR p va vb q)[q] := by rw [← mixR_at (a := va) (b := vb) hqp, getD_at (by rw [hml]; exact hqp)]
                      generalize (mixR p va vb q)[q] = vq at gq eq1
                      have iq : (q : Int) < (m : Int) := by omega
                      have EQ := Lib.hid eq1
                      have hset := hown.set q va
                      have HS := Lib.hid hset
                      have HOQ := Lib.hid hown
                      have HBQ := Lib.hid hbi
                      clear eq1 hset hown hbi hml
                      by_cases hvq : vq = vb
                      · have tq : (vq == vb) = true := by simp [hvq]
                        have hm := Lib.hid (mixR_succ (a := va) (b := vb) hqp)
                        have HVQ := Lib.hid hvq
                        clear hvq
                        go_wp2
                        go_roundw
                        case rel => exact ⟨q + 1, by omega, by go_num, by rw [hm.out, if_pos (EQ.out.trans HVQ.out)]; exact HS.out, HBQ.out.setCell hgb _⟩
                        case measure => simp [intOf]; omega
                      · have tq : (vq == vb) = false := by simp [hvq]
                        have hm := Lib.hid (mixR_same (a := va) (b := vb) hqp (by rw [EQ.out]; exact hvq))
                        clear hvq
                        go_wp2
                        go_roundw
                        case rel => exact ⟨q + 1, by omega, by go_num, by rw [hm.out]; exact HOQ.out, HBQ.out⟩
                        case measure => simp [intOf]; omega
                    · obtain rfl : q = m := by omega
                      rw [mixR_all _ _ _ HPL.out] at hown
                      have HOQ := Lib.hid hown
                      clear hown
                      go_wp2
                      go_roundw
                      case rel => exact ⟨j + 1, _, _, -sg, by omega, by go_num, rfl, by go_num, ST, HJN, HOQ.out, hbi⟩
                      case measure => simp [intOf]; omega
            · obtain rfl : j = es.length := by omega
              have hok := partS_ok HE.out x es.length (Nat.le_refl _)
              have hpg : (partS m es x es.length).2 = G := by rw [hst.out]
              have hrg := hok.rng
              rw [hpg] at hrg
              obtain ⟨gn, rfl⟩ := Int.eq_ofNat_of_zero_le hrg.1
              have hgm : gn ≤ m := by omega
              have hlen := polyN_len m es x
              have hrn := polyN_rng m es x gn
              have hgl : gn < (polyN m es x).length := by omega
              have ho4 := HO.out.below hbi
              have hcell := ho4.cell (i := gn) hgl
              have hfree := ho4.free gn
              have hgd : (polyN m es x).getD gn 0 = (polyN m es x)[gn] := getD_at hgl
              rw [hgd] at hrn
              have hstep := polyN_step hpg hgd hsg.out.symm
              generalize (polyN m es x)[gn] = cv at hcell hrn hstep
              have r3 : IntKind.i64.wrap (cv + sg) = cv + sg := IntWalk.i64_in _ (by omega)
              have HST := Lib.hid hstep
              have ig : (gn : Int) < ((m + 1 : Nat) : Int) := by omega
              have ig2 : (gn : Int) < (m : Int) + 1 := by omega
              have ig3 : gn < m + 1 := by omega
              have HS := Lib.hid (ho4.set gn (cv + sg))
              have HB4 := Lib.hid (HB.out.trans (hbi.mono HB.out.size))
              clear hok hpg hrg hgd hstep hrn hlen hs1 ho4 hown hbi
              go_wp2
              go_roundw
              case rel => exact ⟨x + 1, by omega, by go_num, by rw [HST.out]; exact HS.out, HB4.out.setCell (Nat.le_refl _) _⟩
              case measure => simp [intOf]; omega
      · obtain rfl : x = N := by omega
        have HX := Lib.hid HN.out
        go_wp2
        go_ret2
        rw [HR.out]
        simp only [if_true, Int.toNat_natCast]
        rw [← HX.out]
        exact ⟨_, rfl, HO.out.lower B2.out.size, hbw⟩
end Go.Proofs.Ytbhhihaaiiaagaa
