/-
  MatchingCounts, the reference's side.
-/
import Derived.Test.YtbhhihaaiiaagaaMatI
import Derived.Test.YtbhhihaaiiaagaaBits
import Derived.Laws.Bits64
namespace Go.Proofs.Ytbhhihaaiiaagaa
open Go.RowKit Go.Sort
theorem okM_false {es : List (List Int)} {x k : Nat} (h : okM es x k = false) : ∀ {j : Nat}, k ≤ j → okM es x j = false
  | 0, hj => by obtain rfl : k = 0 := by omega
                exact h
  | j + 1, hj => by
    by_cases e : k = j + 1
    · subst e; exact h
    · unfold okM; rw [okM_false h (show k ≤ j by omega)]; rfl
theorem okM_skip {es : List (List Int)} {x k : Nat} {D : Bool} (h : okM es x k = D) (hb : x / 2 ^ k % 2 = 0) : okM es x (k + 1) = D := by
  unfold okM; rw [h, if_neg (by omega)]; simp
theorem okM_take {es : List (List Int)} {x k : Nat} {a b : Int} {p q : Bool} (h : okM es x k = true) (hb : x / 2 ^ k % 2 = 1) (he : es.getD k [] = [a, b]) (hp : decide (a ∈ usedM es x k) = p) (hq : decide (b ∈ usedM es x k) = q) : okM es x (k + 1) = (!p && !q) := by
  unfold okM; rw [h, if_pos hb, he]; simp only [List.getD_cons_zero, List.getD_cons_succ]; rw [hp, hq]; simp
theorem usedM_skip {es : List (List Int)} {x k : Nat} (hb : x / 2 ^ k % 2 = 0) : usedM es x (k + 1) = usedM es x k := by
  conv => lhs; unfold usedM
  rw [if_neg (by omega)]
theorem usedM_take {es : List (List Int)} {x k : Nat} {a b : Int} (hb : x / 2 ^ k % 2 = 1) (he : es.getD k [] = [a, b]) : usedM es x (k + 1) = usedM es x k ++ [a, b] := by
  conv => lhs; unfold usedM
  rw [if_pos hb, he]
theorem matN_yes {es : List (List Int)} {x : Nat} (h : okM es x es.length = true) : matN es (x + 1) = matN es x ++ [setK x es.length] := by
  conv => lhs; unfold matN
  rw [if_pos h]
theorem matN_no {es : List (List Int)} {x : Nat} (h : okM es x es.length = false) : matN es (x + 1) = matN es x := by
  conv => lhs; unfold matN
  rw [if_neg (by rw [h]; simp)]
theorem matN_len (es : List (List Int)) (N : Nat) : (matN es N).length ≤ N := by rw [matN_eq]; exact indN_len _ _ _
theorem l00Has_w {u : Value} {xs : List Int} {x : Int} {q : Bool} (h : decide (x ∈ xs) = q) (w : World) (ha : SlI w u xs) :
    Calls Try.prog 32 #[u, .int .i64 x] w fun e w' => e = .returned (.bool q) ∧ Below w.heap.size w w' :=
  (l00Has_any x w ha).mono fun e w' ⟨h1, h2⟩ => ⟨by rw [h1, h], by rw [h2]; exact Below.refl _ _⟩
set_option maxRecDepth 100000 in
set_option maxHeartbeats 8000000 in
theorem SpecMatchingCounts_any {v : Value} {es : List (List Int)} (n : Int) (w : World) (ha : SlII w v es) :
    Calls Try.prog 15 #[.agg #[.int .i64 n, v]] w (FreshIC w (matR n es)) := by
  have HA := Lib.hid (fun W (h : Below w.heap.size w W) => ha.below h)
  obtain ⟨a, ca, us, rfl, hca, hca', hul, hrd, hrow⟩ := ha
  unfold maxLen at hca'
  have HG2 := Lib.hid (fun W (h : Below w.heap.size w W) => And.intro (hrd.below h) (fun i hi u hu => (hrow i hi u hu).below h))
  have HU := Lib.hid hul
  have b1 : Below w.heap.size w (w.alloc (.cells #[.int .i64 n, .slice a es.length ca] 29)) := (Below.refl _ _).alloc (Nat.le_refl _) _
  have X := Lib.hid (graphAt_new w n (.slice a es.length ca))
  have e0 := Lib.hid (fun W : World => OwnI.empty W (base := W.heap.size) (Nat.le_refl _))
  have hR : matR n es = if graphOk n es = true then (cntL (n.toNat / 2 + 1) (matN es (2 ^ es.length)), 0) else ([], 1) := rfl
  generalize hg : graphOk n es = g at hR
  have HR := Lib.hid hR
  have HG := Lib.hid hg
  have B1 := Lib.hid b1
  clear hR hg b1 hrd hrow hul
  cases g
  · go_enter Try.func15, Try.ntmps15
    go_wp2_with fail
    refine (l08Ok_any w.heap.size 0 n _ X.out (HA.out _ B1.out)).mono ?_
    rintro e w2 ⟨rfl, b2⟩
    rw [HG.out]
    have hb2 := B1.out.trans (b2.mono B1.out.size)
    go_wp2
    go_ret2
    rw [HR.out]
    exact ⟨_, rfl, (e0.out _).lower hb2.size, hb2.alloc hb2.size _⟩
  · obtain ⟨m, rfl, hm1, hm5, hE, _⟩ := graphOk_all HG.out
    have hl := graphOk_len20 HG.out
    have hR2 := HR.out
    rw [if_pos rfl, Int.toNat_natCast] at hR2
    obtain ⟨N, hN⟩ : ∃ N, N = 2 ^ es.length := ⟨_, rfl⟩
    rw [← hN] at hR2
    have hNc : N ≤ 1048576 := by rw [hN]; exact Nat.le_trans (Nat.pow_le_pow_right (by decide) hl) (by decide)
    have s1 : IntKind.i64.wrap ((2 : Int) ^ es.length) = (N : Int) := by rw [hN]; rw [show ((2 : Int) ^ es.length) = ((2 ^ es.length : Nat) : Int) by simp, ← hN]; exact IntWalk.i64_in _ (by omega)
    have s2 : IntKind.i64.wrap ((2 : Int) ^ min es.length 64) = (N : Int) := by rw [Nat.min_eq_left (by omega)]; exact s1
    have s3 : wrap64 ((2 : Int) ^ es.length) = (N : Int) := by rw [← IntWalk.i64_left]; exact s1
    have s4 : wrap64 ((2 : Int) ^ min es.length 64) = (N : Int) := by rw [← IntWalk.i64_left]; exact s2
    have hcv : IntKind.u64.wrap (es.length : Int) = (es.length : Int) := by rw [IntKind.wrap_u64]; omega
    obtain ⟨M, hM⟩ : ∃ M, M = m / 2 := ⟨_, rfl⟩
    rw [← hM] at hR2
    have hd1 : Int.tdiv (m : Int) 2 = (M : Int) := by rw [hM, Int.tdiv_eq_ediv_of_nonneg (by omega)]; simp
    have hd2 : (m : Int) / 2 = (M : Int) := by rw [hM]; simp
    have hd3 : IntKind.i64.wrap (M : Int) = (M : Int) := IntWalk.i64_in _ (by omega)
    have hd4 : ¬ ((2 : Int) = 0) := by decide
    have hr : IntKind.i64.wrap ((M : Int) + 1) = ((M + 1 : Nat) : Int) := by rw [IntWalk.i64_in _ (by omega)]; simp
    have hMb : M ≤ 5 := by omega
    have hsz : ∀ x, okM es x es.length = true → (setK x es.length).length < M + 1 := fun x h => by have := okM_size hE x h; omega
    have HSZ := Lib.hid hsz
    have HR2 := Lib.hid hR2
    have HE := Lib.hid hE
    have HN := Lib.hid hN
    clear hE hR2 hM hsz hN
    go_enter Try.func15, Try.ntmps15
    go_wp2_with fail
    refine (l08Ok_any w.heap.size 0 m _ X.out (HA.out _ B1.out)).mono ?_
    rintro e w2 ⟨rfl, b2⟩
    rw [HG.out]
    have X2 := Lib.hid (X.out.below b2)
    have B2 := Lib.hid (B1.out.trans (b2.mono B1.out.size))
    obtain ⟨_, c0, c1⟩ := X2.out
    simp only [Nat.zero_add] at c0 c1
    clear b2
    go_wp2_with (at_make; refine make_i64 w2 _ _ rfl rfl (M + 1) rfl rfl (by first | exact hr | simp [hr]) (by first | exact hr | simp [hr]) (by omega) ?_)
    intro w3 hmk hb3 hz3
    have B3 := Lib.hid hb3
    have HMK := Lib.hid hmk
    clear hmk hb3 c0 c1
    go_wp2
    go_loopw [5, 6, 7, 8, 9] (fun i _ _ _ _ wr => ∃ x : Nat, x ≤ N ∧ i = .int .i64 x ∧ OwnI wr w2.heap.size (.slice (some ⟨w2.heap.size, 0, none⟩) (M + 1) (M + 1)) (cntL (M + 1) (matN es x)) ∧ w2.heap.size < wr.heap.size ∧ Below w2.heap.size w2 wr) (fun i _ _ _ _ _ => N - (intOf i).toNat)
    case atStart => exact ⟨0, Nat.zero_le _, rfl, HMK.out, hz3, B3.out⟩
    case round =>
      clear HMK B3 hz3
      obtain ⟨x, hx, rfl, hown, hzr, hbr⟩ := hrel
      have XR := Lib.hid (X2.out.below hbr)
      have BW := Lib.hid (B2.out.trans (hbr.mono B2.out.size))
      obtain ⟨_, c0, c1⟩ := XR.out
      simp only [Nat.zero_add] at c0 c1
      have HO := Lib.hid hown
      have HB := Lib.hid hbr
      clear hown hbr
      by_cases hxt : x < N
      · have hxi : (x : Int) < (N : Int) := by omega
        obtain ⟨wo, hwo⟩ : ∃ wo : World, wo = wr := ⟨_, rfl⟩
        subst hwo
        have own0 := OwnI.empty wo (base := wo.heap.size) (Nat.le_refl _)
        have OE := Lib.hid own0
        clear own0
        go_wp2
        clear c0 c1
        go_loopw [6, 7, 8, 9] (fun us' ok' sz' kk' wr => ∃ (k z : Nat) (D : Bool), k ≤ es.length ∧ kk' = .int .i64 k ∧ ok' = .bool D ∧ Hid (okM es x k = D) ∧ sz' = .int .i64 z ∧ Hid (z = (setK x k).length) ∧ OwnI wr wo.heap.size us' (usedM es x k) ∧ Below wo.heap.size wo wr) (fun _ _ _ kk' _ => es.length - (intOf kk').toNat)
        case atStart => exact ⟨0, 0, true, Nat.zero_le _, rfl, rfl, Lib.hid rfl, rfl, Lib.hid rfl, OE.out, (Below.refl _ _).alloc (Nat.le_refl _) _⟩
        case round =>
          clear OE
          obtain ⟨k, z, D, hk, rfl, rfl, hok, rfl, hzk, hused, hbo⟩ := hrel
          have hbw := BW.out.trans (hbo.mono BW.out.size)
          obtain ⟨_, c0, c1⟩ := XR.out.below hbo
          simp only [Nat.zero_add] at c0 c1
          have hsk : z ≤ k := by rw [hzk.out]; exact setK_len x k
          by_cases hkt : k < es.length
          · have i1 : (k : Int) < (es.length : Int) := by omega
            have i0 : (0 : Int) ≤ (k : Int) := by omega
            cases D
            · have hno := okM_false hok.out hk
              have HNO := Lib.hid hno
              have ho2 := HO.out.below hbo
              have hz2 := Nat.lt_of_lt_of_le hzr hbo.size
              clear hno hused
              go_wp2
              go_roundw
              case rel => exact ⟨x + 1, by omega, by go_num, by rw [matN_no HNO.out]; exact ho2, hz2, HB.out.trans (hbo.mono HB.out.size)⟩
              case measure => simp [intOf]; omega
            · have hcv2 : IntKind.u64.wrap (k : Int) = (k : Int) := by rw [IntKind.wrap_u64]; omega
              obtain ⟨S, hS⟩ : ∃ S, S = x / 2 ^ k := ⟨_, rfl⟩
              have hSx : S ≤ x := by rw [hS]; exact Nat.div_le_self _ _
              have sh1 : (x : Int) / 2 ^ min k 64 = (S : Int) := by rw [shr_nat x k (by omega), hS]
              have sh2 : (x : Int) / 2 ^ k = (S : Int) := by rw [hS]; simp
              obtain ⟨T, hT⟩ : ∃ T, T = S % 2 := ⟨_, rfl⟩
              have an : bits .and .i64 (S : Int) 1 = (T : Int) := by rw [and_one S (by omega), hT]
              have hTT : x / 2 ^ k % 2 = T := by rw [hT, hS]
              have HT := Lib.hid hTT
              have hT2 : T < 2 := by omega
              clear hS hT hTT
              by_cases ht : T = 0
              · have tt : ((T : Int) == 0) = true := by rw [ht]; rfl
                have hx0 := HT.out.trans ht
                have H1 := Lib.hid (okM_skip hok.out hx0)
                have H2 := Lib.hid (usedM_skip (es := es) hx0)
                have H3 := Lib.hid (setK_no hx0)
                clear ht hx0
                go_wp2
                go_roundw
                case rel => exact ⟨k + 1, z, true, by omega, by go_num, rfl, H1, rfl, Lib.hid (by rw [H3.out]; exact hzk.out), by rw [H2.out]; exact hused, hbo⟩
                case measure => simp [intOf]; omega
              · have tt : ((T : Int) == 0) = false := by rw [beq_eq_false_iff_ne]; omega
                have tt2 : ¬ ((T : Int) = 0) := by omega
                have hx1 : x / 2 ^ k % 2 = 1 := by rw [HT.out]; omega
                obtain ⟨y, hy⟩ : ∃ y, us[k]? = some y := ⟨_, List.getElem?_eq_getElem (by rw [HU.out]; exact hkt)⟩
                obtain ⟨eb, eo, rfl, gy⟩ := (HG2.out _ hbw).1.one hy
                obtain ⟨A, B, he, hAB, hBm⟩ := HE.out es[k] (List.getElem_mem hkt)
                have SY := Lib.hid (fun W (h : Below w.heap.size w W) => show SlI W y [(A : Int), (B : Int)] by have := (HG2.out W h).2 k hkt y hy; rw [he] at this; exact this)
                have heg : es.getD k [] = [(A : Int), (B : Int)] := by rw [getD_at hkt, he]
                obtain ⟨ya, yc, hye, _, _, ur⟩ := SY.out _ hbw
                simp only [List.length_cons, List.length_nil, Nat.zero_add] at hye
                subst hye
                obtain ⟨yb, yo, rfl, g0⟩ := ur.one (i64s_get (j := 0) (by simp))
                obtain ⟨yb', yo', he2, g1⟩ := ur.one (i64s_get (j := 1) (by simp))
                simp only [Option.some.injEq, Addr.mk.injEq] at he2
                obtain ⟨rfl, rfl, _⟩ := he2
                simp only [Nat.add_zero, List.getElem_cons_zero, List.getElem_cons_succ] at g0 g1
                generalize hp : decide ((A : Int) ∈ usedM es x k) = p
                generalize hq : decide ((B : Int) ∈ usedM es x k) = q
                have H1 := Lib.hid (okM_take hok.out hx1 heg hp hq)
                have H2 := Lib.hid (usedM_take hx1 heg)
                have H3 := Lib.hid (setK_yes hx1)
                have HP := Lib.hid hp
                have HQ := Lib.hid hq
                have r3 : IntKind.i64.wrap ((z : Int) + 1) = ((z + 1 : Nat) : Int) := by rw [IntWalk.i64_in _ (by omega)]; simp
                have HZ1 := Lib.hid (show z + 1 = (setK x (k + 1)).length by rw [H3.out, List.length_append, ← hzk.out]; rfl)
                have hln : (usedM es x k).length + 2 < 16777216 := by have := usedM_len HE.out x k (by omega); have := setK_len x k; omega
                have HBO := Lib.hid hbo
                have HUS := Lib.hid hused
                obtain ⟨xa, xc, rfl, _⟩ := id hused.sl
                clear hp hq hx1 heg he hy ur hused hbo ht
                cases p
                · go_wp2_with fail
                  refine (l00Has_w HP.out _ HUS.out.sl).mono ?_
                  rintro e w4 ⟨rfl, b4⟩
                  have o4 := HUS.out.below b4
                  have B4 := Lib.hid (b4.mono HBO.out.size)
                  have gy1 := b4.cell (p := ⟨eb, eo + k, none⟩) (cell_lt gy)
                  rw [gy] at gy1
                  have g01 := b4.cell (p := ⟨yb, yo, none⟩) (cell_lt g0)
                  rw [g0] at g01
                  have g11 := b4.cell (p := ⟨yb, yo + 1, none⟩) (cell_lt g1)
                  rw [g1] at g11
                  have c11 := b4.cell (p := ⟨w.heap.size, 1, none⟩) (cell_lt c1)
                  rw [c1] at c11
                  clear gy g0 g1 c1 c0
                  clear b4
                  cases q
                  · go_wp2_with fail
                    refine (l00Has_w HQ.out _ o4.sl).mono ?_
                    rintro e w5 ⟨rfl, b5⟩
                    have o5 := o4.below b5
                    have B5 := Lib.hid (B4.out.trans (b5.mono (Nat.le_trans HBO.out.size B4.out.size)))
                    have gy2 := b5.cell (p := ⟨eb, eo + k, none⟩) (cell_lt gy1)
                    rw [gy1] at gy2
                    have g02 := b5.cell (p := ⟨yb, yo, none⟩) (cell_lt g01)
                    rw [g01] at g02
                    have g12 := b5.cell (p := ⟨yb, yo + 1, none⟩) (cell_lt g11)
                    rw [g11] at g12
                    have c12 := b5.cell (p := ⟨w.heap.size, 1, none⟩) (cell_lt c11)
                    rw [c11] at c12
                    clear gy1 g01 g11 c11
                    clear b5
                    have hzz := (HBO.out.trans B5.out).size
                    go_wp2_with (at_builtin; refine append_SlI _ _ _ rfl rfl rfl o5 rfl (SY.out _ (BW.out.trans ((HBO.out.trans B5.out).mono BW.out.size))) (by simp; omega) hzz ?_)
                    intro v6 w6 o6 g6 b6
                    rw [← H2.out] at o6
                    have hb6 := (HBO.out.trans B5.out).trans b6
                    clear b6 g6
                    go_wp2
                    go_roundw
                    case rel => exact ⟨k + 1, z + 1, true, by omega, by go_num, rfl, Lib.hid (by rw [H1.out]; rfl), by go_num, HZ1, o6, hb6⟩
                    case measure => simp [intOf]; omega
                  · go_wp2_with fail
                    refine (l00Has_w HQ.out _ o4.sl).mono ?_
                    rintro e w5 ⟨rfl, b5⟩
                    have o5 := o4.below b5
                    have B5 := Lib.hid (B4.out.trans (b5.mono (Nat.le_trans HBO.out.size B4.out.size)))
                    have gy2 := b5.cell (p := ⟨eb, eo + k, none⟩) (cell_lt gy1)
                    rw [gy1] at gy2
                    have g02 := b5.cell (p := ⟨yb, yo, none⟩) (cell_lt g01)
                    rw [g01] at g02
                    have g12 := b5.cell (p := ⟨yb, yo + 1, none⟩) (cell_lt g11)
                    rw [g11] at g12
                    have c12 := b5.cell (p := ⟨w.heap.size, 1, none⟩) (cell_lt c11)
                    rw [c11] at c12
                    clear gy1 g01 g11 c11
                    clear b5
                    have hzz := (HBO.out.trans B5.out).size
                    go_wp2_with (at_builtin; refine append_SlI _ _ _ rfl rfl rfl o5 rfl (SY.out _ (BW.out.trans ((HBO.out.trans B5.out).mono BW.out.size))) (by simp; omega) hzz ?_)
                    intro v6 w6 o6 g6 b6
                    rw [← H2.out] at o6
                    have hb6 := (HBO.out.trans B5.out).trans b6
                    clear b6 g6
                    go_wp2
                    go_roundw
                    case rel => exact ⟨k + 1, z + 1, false, by omega, by go_num, rfl, Lib.hid (by rw [H1.out]; rfl), by go_num, HZ1, o6, hb6⟩
                    case measure => simp [intOf]; omega
                · go_wp2_with fail
                  refine (l00Has_w HP.out _ HUS.out.sl).mono ?_
                  rintro e w4 ⟨rfl, b4⟩
                  have o4 := HUS.out.below b4
                  have B4 := Lib.hid (b4.mono HBO.out.size)
                  have gy1 := b4.cell (p := ⟨eb, eo + k, none⟩) (cell_lt gy)
                  rw [gy] at gy1
                  have g01 := b4.cell (p := ⟨yb, yo, none⟩) (cell_lt g0)
                  rw [g0] at g01
                  have g11 := b4.cell (p := ⟨yb, yo + 1, none⟩) (cell_lt g1)
                  rw [g1] at g11
                  have c11 := b4.cell (p := ⟨w.heap.size, 1, none⟩) (cell_lt c1)
                  rw [c1] at c11
                  clear gy g0 g1 c1 c0
                  clear b4
                  have hzz := (HBO.out.trans B4.out).size
                  go_wp2_with (at_builtin; refine append_SlI _ _ _ rfl rfl rfl o4 rfl (SY.out _ (BW.out.trans ((HBO.out.trans B4.out).mono BW.out.size))) (by simp; omega) hzz ?_)
                  intro v6 w6 o6 g6 b6
                  rw [← H2.out] at o6
                  have hb6 := (HBO.out.trans B4.out).trans b6
                  clear b6 g6
                  go_wp2
                  go_roundw
                  case rel => exact ⟨k + 1, z + 1, false, by omega, by go_num, rfl, Lib.hid (by rw [H1.out]; rfl), by go_num, HZ1, o6, hb6⟩
                  case measure => simp [intOf]; omega
          · obtain rfl : k = es.length := by omega
            have ho2 := HO.out.below hbo
            have hz2 := Nat.lt_of_lt_of_le hzr hbo.size
            have hb2 := HB.out.trans (hbo.mono HB.out.size)
            clear hused
            cases D
            · go_wp2
              go_roundw
              case rel => exact ⟨x + 1, by omega, by go_num, by rw [matN_no hok.out]; exact ho2, hz2, hb2⟩
              case measure => simp [intOf]; omega
            · have hstep : cntL (M + 1) (matN es (x + 1)) = bump (cntL (M + 1) (matN es x)) (setK x es.length) := by rw [matN_yes hok.out, cntL_snoc]
              have hrng := cntL_rng (M + 1) (matN es x) (setK x es.length).length
              have hcl := cntL_len (M + 1) (matN es x)
              have hml := matN_len es x
              have hgs := HSZ.out x hok.out
              unfold bump at hstep
              rw [← hzk.out] at hgs hstep hrng
              have hgl : z < (cntL (M + 1) (matN es x)).length := by omega
              have cc := ho2.cell hgl
              have cf := ho2.free z
              have eg := getD_at (d := 0) hgl
              rw [eg] at hstep hrng
              generalize (cntL (M + 1) (matN es x))[z] = cv at cc hstep hrng
              have r3 : IntKind.i64.wrap (cv + 1) = cv + 1 := IntWalk.i64_in _ (by omega)
              have ig : (z : Int) < ((M + 1 : Nat) : Int) := by omega
              have ig2 : (z : Int) < (M : Int) + 1 := by omega
              have ig3 : z < M + 1 := by omega
              have OS := Lib.hid (ho2.set z (cv + 1))
              have BS := Lib.hid (hb2.setCell (p := ⟨w2.heap.size, z, none⟩) (Nat.le_refl _) (.int .i64 (cv + 1)))
              have HST := Lib.hid hstep
              clear hstep hrng hcl hgl eg ho2 hb2 hml
              go_wp2
              go_roundw
              case rel => exact ⟨x + 1, by omega, by go_num, by rw [HST.out]; exact OS.out, by simpa using hz2, BS.out⟩
              case measure => simp [intOf]; omega
      · obtain rfl : x = N := by omega
        go_wp2
        go_ret2
        rw [HR2.out]
        exact ⟨_, rfl, HO.out.lower B2.out.size, B2.out.trans (HB.out.mono B2.out.size)⟩
end Go.Proofs.Ytbhhihaaiiaagaa
