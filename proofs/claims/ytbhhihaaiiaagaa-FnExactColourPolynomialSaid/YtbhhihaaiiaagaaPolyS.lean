/-
  ColourPolynomial, the reference's side.
-/
import Derived.Test.YtbhhihaaiiaagaaParts
namespace Go.Proofs.Ytbhhihaaiiaagaa
open Go.RowKit Go.Sort
def polyR (n : Int) (es : List (List Int)) : List Int × Int := if graphOk n es = true then (polyN n.toNat es (2 ^ es.length), 0) else ([], 1)
theorem polyR_len (n : Int) (es : List (List Int)) : (polyR n es).1.length ≤ 6 := by
  unfold polyR
  split
  · rename_i h
    obtain ⟨m, rfl, _, hm, _⟩ := graphOk_all h
    rw [polyN_len]; omega
  · simp
theorem polyN_step {m : Nat} {es : List (List Int)} {x g : Nat} {c s : Int} (hg : (partS m es x es.length).2 = (g : Int)) (hc : (polyN m es x).getD g 0 = c) (hs : sgnL es.length x = s) : polyN m es (x + 1) = (polyN m es x).set g (c + s) := by
  conv => lhs; unfold polyN
  simp only [hg, Int.toNat_natCast, hc, hs]
theorem pow_big {L : Nat} (h : L ≤ 25) : 2 ^ L ≤ 33554432 := Nat.le_trans (Nat.pow_le_pow_right (by decide) h) (by decide)
set_option maxRecDepth 100000 in
set_option maxHeartbeats 8000000 in
theorem SpecColourPolynomial_any {v : Value} {es : List (List Int)} (n : Int) (w : World) (ha : SlII w v es) :
    Calls Try.prog 7 #[.agg #[.int .i64 n, v]] w (FreshIC w (polyR n es)) := by
  have HA := Lib.hid (fun W (h : Below w.heap.size w W) => ha.below h)
  obtain ⟨a, ca, us, rfl, _⟩ := ha
  have b1 : Below w.heap.size w (w.alloc (.cells #[.int .i64 n, .slice a es.length ca] 29)) := (Below.refl _ _).alloc (Nat.le_refl _) _
  have X := Lib.hid (graphAt_new w n (.slice a es.length ca))
  have e0 := Lib.hid (fun W : World => OwnI.empty W (base := W.heap.size) (Nat.le_refl _))
  have hR : polyR n es = if graphOk n es = true then (polyN n.toNat es (2 ^ es.length), 0) else ([], 1) := rfl
  generalize hg : graphOk n es = g at hR
  have HR := Lib.hid hR
  have HG := Lib.hid hg
  have B1 := Lib.hid b1
  clear hR hg b1
  cases g
  · go_enter Try.func7, Try.ntmps7
    go_wp2_with fail
    refine (l08Ok_any w.heap.size 0 n _ X.out (HA.out _ B1.out)).mono ?_
    rintro e w2 ⟨rfl, b2⟩
    rw [HG.out]
    have hb2 := B1.out.trans (b2.mono B1.out.size)
    go_wp2
    go_ret2
    rw [HR.out]
    exact ⟨_, rfl, (e0.out _).lower hb2.size, hb2.alloc hb2.size _⟩
  · obtain ⟨m, rfl, hm1, hm5, hE, hl⟩ := graphOk_all HG.out
    have HE := Lib.hid hE
    obtain ⟨N, hN⟩ : ∃ N, N = 2 ^ es.length := ⟨_, rfl⟩
    have hNb : N ≤ 33554432 := by rw [hN]; exact pow_big hl
    have s1 : IntKind.i64.wrap ((2 : Int) ^ es.length) = (N : Int) := by rw [hN]; rw [show ((2 : Int) ^ es.length) = ((2 ^ es.length : Nat) : Int) by simp, ← hN]; exact IntWalk.i64_in _ (by omega)
    have s2 : IntKind.i64.wrap ((2 : Int) ^ min es.length 64) = (N : Int) := by rw [Nat.min_eq_left (by omega)]; exact s1
    have s3 : wrap64 ((2 : Int) ^ es.length) = (N : Int) := by rw [← IntWalk.i64_left]; exact s1
    have s4 : wrap64 ((2 : Int) ^ min es.length 64) = (N : Int) := by rw [← IntWalk.i64_left]; exact s2
    have hcv : IntKind.u64.wrap (es.length : Int) = (es.length : Int) := by rw [IntKind.wrap_u64]; omega
    have HN := Lib.hid hN
    clear hE hN
    go_enter Try.func7, Try.ntmps7
    go_wp2_with fail
    refine (l08Ok_any w.heap.size 0 m _ X.out (HA.out _ B1.out)).mono ?_
    rintro e w2 ⟨rfl, b2⟩
    rw [HG.out]
    have X2 := Lib.hid (X.out.below b2)
    have B2 := Lib.hid (B1.out.trans (b2.mono B1.out.size))
    obtain ⟨_, c0, c1⟩ := X2.out
    simp only [Nat.zero_add] at c0 c1
    have hr : IntKind.i64.wrap ((m : Int) + 1) = ((m + 1 : Nat) : Int) := by rw [IntWalk.i64_in _ (by omega)]; simp
    clear b2
    go_wp2_with (at_make; refine make_i64 w2 _ _ rfl rfl (m + 1) rfl rfl (by first | exact hr | simp [hr]) (by first | exact hr | simp [hr]) (by omega) ?_)
    intro w3 hmk hb3 hz3
    have HMK := Lib.hid hmk
    have HB3 := Lib.hid hb3
    clear hmk hb3 c0 c1
    go_wp2
    go_loopw [5, 6, 7] (fun i _ _ wr => ∃ x : Nat, x ≤ N ∧ i = .int .i64 x ∧ OwnI wr w2.heap.size (.slice (some ⟨w2.heap.size, 0, none⟩) (m + 1) (m + 1)) (polyN m es x) ∧ Below w2.heap.size w2 wr) (fun i _ _ _ => N - (intOf i).toNat)
    case atStart => exact ⟨0, Nat.zero_le _, rfl, HMK.out, HB3.out⟩
    case round =>
      clear HMK HB3
      obtain ⟨x, hx, rfl, hown, hbr⟩ := hrel
      have xr := X2.out.below hbr
      obtain ⟨_, c0, c1⟩ := id xr
      simp only [Nat.zero_add] at c0 c1
      have XR := Lib.hid xr
      have hbw := B2.out.trans (hbr.mono B2.out.size)
      have HO := Lib.hid hown
      have HB := Lib.hid hbr
      clear xr hown hbr
      by_cases hxt : x < N
      · go_wp2
        obtain ⟨wo, rfl⟩ : ∃ wo : World, wo = wr := ⟨_, rfl⟩
        go_loopw [6, 7] (fun s r wr => ∃ (y : Nat) (sg : Int), y ≤ x ∧ r = .int .i64 y ∧ s = .int .i64 sg ∧ Hid (sg = 1 ∨ sg = -1) ∧ Hid (sg * sgnL es.length y = sgnL es.length x) ∧ wr = wo) (fun _ r _ => (intOf r).toNat)
        case atStart => exact ⟨x, 1, Nat.le_refl _, rfl, rfl, Lib.hid (.inl rfl), Lib.hid (Int.one_mul _), rfl⟩
        case round =>
          obtain ⟨y, sg, hyx, rfl, rfl, hs1, hs2, rfl⟩ := hrel
          by_cases hy : 0 < y
          · have hyN : y ≤ 33554432 := by omega
            have hcs := clear_sgn es.length y hy (by rw [← HN.out]; omega)
            have hcl := clear_lt hy
            obtain ⟨Y1, hY1⟩ : ∃ Y1, Y1 = y - 1 := ⟨_, rfl⟩
            obtain ⟨Y2, hY2⟩ : ∃ Y2, Y2 = y &&& (y - 1) := ⟨_, rfl⟩
            have an : bits .and .i64 (y : Int) (Y1 : Int) = (Y2 : Int) := by rw [hY1, hY2]; exact and_clear y (by omega)
            have r1 : IntKind.i64.wrap ((y : Int) - 1) = (Y1 : Int) := by rw [IntWalk.i64_in _ (by omega)]; omega
            have r2 : IntKind.i64.wrap (-sg) = -sg := by have := hs1.out; exact IntWalk.i64_in _ (by omega)
            rw [← hY2] at hcs hcl
            have hsn : Hid (-sg = 1 ∨ -sg = -1) := by have := hs1.out; unfold Hid; omega
            have hsn2 : Hid (-sg * sgnL es.length Y2 = sgnL es.length x) := by have := hs2.out; unfold Hid; rw [hcs, Int.neg_mul_neg]; exact this
            have hY2y : Y2 ≤ x := by omega
            clear hY1 hY2 hcs
            go_wp2
            go_roundw
            case rel => exact ⟨Y2, -sg, hY2y, by go_num, by go_num, hsn, hsn2, trivial⟩
            case measure => simp [intOf]; omega
          · obtain rfl : y = 0 := by omega
            have hsg : sgnL es.length x = sg := by have := hs2.out; rw [sgnL_zero, Int.mul_one] at this; exact this.symm
            have hok := partS_ok HE.out x es.length (Nat.le_refl _)
            have hrg := hok.rng
            obtain ⟨g, hg⟩ := Int.eq_ofNat_of_zero_le hrg.1
            have hgm : g ≤ m := by have := hrg.2; rw [hg] at this; omega
            have hlen := polyN_len m es x
            have hrn := polyN_rng m es x g
            have hgl : g < (polyN m es x).length := by omega
            have hcell := HO.out.cell (i := g) hgl
            have hfree := HO.out.free g
            have hgd : (polyN m es x).getD g 0 = (polyN m es x)[g] := getD_at hgl
            rw [hgd] at hrn
            have hstep := polyN_step hg hgd hsg
            generalize (polyN m es x)[g] = cv at hcell hrn hstep
            have r3 : IntKind.i64.wrap (cv + sg) = cv + sg := by have := hs1.out; exact IntWalk.i64_in _ (by omega)
            have HGG := Lib.hid hg
            have HST := Lib.hid hstep
            have ig : (g : Int) < ((m + 1 : Nat) : Int) := by omega
            have ig2 : (g : Int) < (m : Int) + 1 := by omega
            have ig3 : g < m + 1 := by omega
            clear hsg hok hrg hg hgd hstep hrn hlen hs1 hs2
            go_wp2_with fail
            refine (l08Parts_any w.heap.size 0 m x _ XR.out (HA.out _ hbw) HE.out hm1 hm5 (by omega) hl).mono ?_
            rintro e w4 ⟨rfl, b4⟩
            rw [HGG.out]
            have hc4 := b4.cell (p := ⟨w2.heap.size, g, none⟩) (cell_lt hcell)
            rw [hcell] at hc4
            have ho4 := HO.out.below b4
            have hf4 := ho4.free g
            have HS := Lib.hid (ho4.set g (cv + sg))
            have HB4 := Lib.hid (HB.out.trans (b4.mono HB.out.size))
            clear hcell hfree b4 ho4 c0 c1
            go_wp2
            go_roundw
            case rel => exact ⟨x + 1, by omega, by go_num, by rw [HST.out]; exact HS.out, HB4.out.setCell (Nat.le_refl _) _⟩
            case measure => simp [intOf]; omega
      · obtain rfl : x = N := by omega
        have hX := HN.out
        have HX := Lib.hid hX
        clear hX
        go_wp2
        go_ret2
        rw [HR.out]
        simp only [if_true, Int.toNat_natCast]
        rw [← HX.out]
        exact ⟨_, rfl, HO.out.lower B2.out.size, hbw⟩
end Go.Proofs.Ytbhhihaaiiaagaa
