/-
  A chain's box stays where others are written. With it: Pairs of states and their paths: the reference's side. The paths of pairs are short; both sides of PathsOf and StepPaths as fresh rows and a code.
-/
import Derived.Test.YtpmabnohdabbdaaZRowStepPaths24
import Derived.Test.YtpmabnohdabbdaaZRowStepPaths1
import Derived.Test.YtpmabnohdabbdaaZRowStepPaths11
import Derived.Test.YtpmabnohdabbdaaZRowStepPaths5
import Derived.Test.YtpmabnohdabbdaaZRowStepPaths13
set_option linter.unusedVariables false
set_option linter.unusedSimpArgs false
namespace Go.Proofs.Ytpmabnohdabbdaa
open Go.RowKit Go.Sort
theorem OwnI.pairJ (w : World) {base : Nat} (hb : base ≤ w.heap.size) (x y : Int) : OwnI (w.alloc (.cells #[.int .i64 x, .int .i64 y] 2)) base (.slice (some ⟨w.heap.size, 0, none⟩) 2 2) [x, y] :=
  World.ownsRow_lit (base := base) (e := 2) (size := 1) w #[.int .i64 x, .int .i64 y] 2 hb (by simp [maxLen]) (by simp)
def pairI (p : Nat × Nat) : List Int := [(p.1 : Int), (p.2 : Int)]

set_option maxRecDepth 100000 in
set_option maxHeartbeats 4000000 in
theorem l06PairsAll_any {v : Value} {xss : List (List Int)} {tt : Int} (b o n : Nat) (w : World) (hc : ChainAt w b o n tt v) (ha : SlII w v xss) (hv : chainOk n tt xss = true) :
    Calls Try.prog 71 #[.pointer (some ⟨b, o, none⟩), .bool false] w fun e w' => ∃ r, e = .returned r ∧ OwnII w' w.heap.size r ((pairsL allQ n n).map pairI) ∧ Below w.heap.size w w' := by
  have HA := Lib.hid (fun W (h : Below w.heap.size w W) => ha.below h)
  have HC := Lib.hid (fun W (h : Below w.heap.size w W) => hc.below h)
  obtain ⟨a, ca, us, rfl, _, _, _, _, _⟩ := ha
  obtain ⟨⟨hn1, hn2⟩, ⟨ht1, ht2⟩, hnx, _⟩ := chainOk_parts0 hv
  have hnx' : xss.length = n := by omega
  have HNX := Lib.hid hnx'
  rw [hnx'] at HA HC
  have HV := Lib.hid hv
  have E0 := Lib.hid (OwnII.empty w (base := w.heap.size) (Nat.le_refl _))
  have B0 := Lib.hid ((Below.refl w.heap.size w).alloc (Nat.le_refl _) (.cells #[] 59))
  clear hv hnx hnx' hc
  go_enter Try.func71, Try.ntmps71
  go_wp2
  go_loopw [5, 6] (fun r i wr => ∃ k : Nat, k ≤ n ∧ i = .int .i64 k ∧ OwnII wr w.heap.size r ((pairsL allQ n k).map pairI) ∧ Below w.heap.size w wr) (fun _ i _ => n - (intOf i).toNat)
  case atStart => exact ⟨0, Nat.zero_le _, rfl, E0.out, B0.out⟩
  case round =>
    clear E0 B0
    obtain ⟨k, hk, rfl, hown, hbw⟩ := hrel
    have HBW := Lib.hid hbw
    obtain ⟨c00, x0, x1, x2⟩ := HC.out _ hbw
    by_cases hkn : k < n
    · have i1 : (k : Int) < (n : Int) := by omega
      have hpl := pairsL_len allQ n k
      have hkn6 : k * n ≤ 36 := Nat.mul_le_mul (by omega : k ≤ 6) (by omega : n ≤ 6)
      have HO := Lib.hid (show OwnII wr w.heap.size u5 ((pairsL allQ n k ++ wantL allQ k 0).map pairI) from by show OwnII _ _ _ ((pairsL allQ n k ++ []).map pairI); rw [List.append_nil]; exact hown)
      clear hown hbw
      go_wp2
      go_loopw [5, 7] (fun r i wi => ∃ j : Nat, j ≤ n ∧ i = .int .i64 j ∧ OwnII wi w.heap.size r ((pairsL allQ n k ++ wantL allQ k j).map pairI) ∧ Below w.heap.size w wi) (fun _ i _ => n - (intOf i).toNat)
      case atStart => exact ⟨0, Nat.zero_le _, rfl, HO.out, HBW.out⟩
      case round =>
        clear HO HBW x0 x1 x2 c00
        obtain ⟨j, hj, rfl, hown, hbw⟩ := hrel
        have HBW := Lib.hid hbw
        have HO := Lib.hid hown
        obtain ⟨c00, x0, x1, x2⟩ := HC.out _ hbw
        clear hown
        by_cases hjn : j < n
        · have i2 : (j : Int) < (n : Int) := by omega
          by_cases hkj : k = j
          · have t1 : ((k : Int) != (j : Int)) = false := by subst hkj; simp
            have HO2 := Lib.hid (show OwnII wr w.heap.size u5 ((pairsL allQ n k ++ wantL allQ k (j + 1)).map pairI) from by rw [wantL_no (.inl hkj)]; exact HO.out)
            clear hkj hbw
            go_wp2
            go_roundw
            case rel => exact ⟨j + 1, by omega, by go_num, HO2.out, HBW.out⟩
            case measure => simp [intOf]; omega
          · have t1 : ((k : Int) != (j : Int)) = true := by simp only [bne_iff_ne, ne_eq]; omega
            have HKJ := Lib.hid hkj
            have hwl := wantL_len allQ k j
            have hz := HBW.out.size
            have hpr := OwnI.pairJ wr (base := wr.heap.size) (Nat.le_refl _) k j
            have bP : Below wr.heap.size wr (wr.alloc (.cells #[.int .i64 k, .int .i64 j] 2)) := (Below.refl _ _).alloc (Nat.le_refl _) _
            have BP := Lib.hid bP
            have HZA := Lib.hid (show (wr.alloc (.cells #[.int .i64 k, .int .i64 j] 2)).heap.size = wr.heap.size + 1 by simp)
            have hll : ((pairsL allQ n k ++ wantL allQ k j).map pairI).length < 16777216 := by rw [List.length_map, List.length_append]; omega
            have ho := HO.out
            clear hkj hbw
            obtain ⟨WP, hWP⟩ : ∃ WP, WP = wr.alloc (.cells #[.int .i64 k, .int .i64 j] 2) := ⟨_, rfl⟩
            rw [← hWP] at hpr bP BP HZA
            have HWP := Lib.hid hWP.symm
            clear hWP
            go_wp2_with (at_builtin; rw [HWP.out]; rw [← HZA.out]; refine append_row wr WP _ _ rfl rfl rfl ho bP hpr rfl hll hz ?_)
            intro v7 w7 o7 b7 z7
            have HB7 := Lib.hid (((HBW.out.trans (BP.out.mono HBW.out.size)).alloc (Nat.le_trans HBW.out.size BP.out.size) (.cells #[.slice (some ⟨wr.heap.size, 0, none⟩) 2 2] 59)).trans b7)
            have HO7 := Lib.hid (show OwnII w7 w.heap.size v7 ((pairsL allQ n k ++ wantL allQ k (j + 1)).map pairI) from by
              rw [wantL_yes HKJ.out rfl]; simpa [pairI, List.map_append, List.append_assoc] using o7)
            clear b7 o7 ho hpr bP
            go_wp2
            go_roundw
            case rel => exact ⟨j + 1, by omega, by go_num, HO7.out, HB7.out⟩
            case measure => simp [intOf]; omega
        · obtain rfl : j = n := by omega
          clear hbw
          go_wp2
          go_roundw
          case rel => exact ⟨k + 1, by omega, by go_num, HO.out, HBW.out⟩
          case measure => simp [intOf]; omega
    · obtain rfl : k = n := by omega
      go_wp2
      go_ret
      exact ⟨_, rfl, hown, hbw⟩

set_option maxRecDepth 100000 in
set_option maxHeartbeats 4000000 in
theorem l06PairsStep_any {v : Value} {xss : List (List Int)} {tt : Int} (b o n : Nat) (w : World) (hc : ChainAt w b o n tt v) (ha : SlII w v xss) (hv : chainOk n tt xss = true) :
    Calls Try.prog 71 #[.pointer (some ⟨b, o, none⟩), .bool true] w fun e w' => ∃ r, e = .returned r ∧ OwnII w' w.heap.size r ((pairsL (edgeP xss) n n).map pairI) ∧ Below w.heap.size w w' := by
  have HA := Lib.hid (fun W (h : Below w.heap.size w W) => ha.below h)
  have HC := Lib.hid (fun W (h : Below w.heap.size w W) => hc.below h)
  obtain ⟨a, ca, us, rfl, _, _, _, _, _⟩ := ha
  obtain ⟨⟨hn1, hn2⟩, ⟨ht1, ht2⟩, hnx, _⟩ := chainOk_parts0 hv
  have hnx' : xss.length = n := by omega
  have HNX := Lib.hid hnx'
  rw [hnx'] at HA HC
  have HV := Lib.hid hv
  have E0 := Lib.hid (OwnII.empty w (base := w.heap.size) (Nat.le_refl _))
  have B0 := Lib.hid ((Below.refl w.heap.size w).alloc (Nat.le_refl _) (.cells #[] 59))
  clear hv hnx hnx' hc
  go_enter Try.func71, Try.ntmps71
  go_wp2
  go_loopw [5, 6] (fun r i wr => ∃ k : Nat, k ≤ n ∧ i = .int .i64 k ∧ OwnII wr w.heap.size r ((pairsL (edgeP xss) n k).map pairI) ∧ Below w.heap.size w wr) (fun _ i _ => n - (intOf i).toNat)
  case atStart => exact ⟨0, Nat.zero_le _, rfl, E0.out, B0.out⟩
  case round =>
    clear E0 B0
    obtain ⟨k, hk, rfl, hown, hbw⟩ := hrel
    have HBW := Lib.hid hbw
    obtain ⟨c00, x0, x1, x2⟩ := HC.out _ hbw
    by_cases hkn : k < n
    · have i1 : (k : Int) < (n : Int) := by omega
      have hpl := pairsL_len (edgeP xss) n k
      have hkn6 : k * n ≤ 36 := Nat.mul_le_mul (by omega : k ≤ 6) (by omega : n ≤ 6)
      have HO := Lib.hid (show OwnII wr w.heap.size u5 ((pairsL (edgeP xss) n k ++ wantL (edgeP xss) k 0).map pairI) from by show OwnII _ _ _ ((pairsL (edgeP xss) n k ++ []).map pairI); rw [List.append_nil]; exact hown)
      clear hown hbw
      go_wp2
      go_loopw [5, 7] (fun r i wi => ∃ j : Nat, j ≤ n ∧ i = .int .i64 j ∧ OwnII wi w.heap.size r ((pairsL (edgeP xss) n k ++ wantL (edgeP xss) k j).map pairI) ∧ Below w.heap.size w wi) (fun _ i _ => n - (intOf i).toNat)
      case atStart => exact ⟨0, Nat.zero_le _, rfl, HO.out, HBW.out⟩
      case round =>
        clear HO HBW x0 x1 x2 c00
        obtain ⟨j, hj, rfl, hown, hbw⟩ := hrel
        have HBW := Lib.hid hbw
        have HO := Lib.hid hown
        obtain ⟨c00, x0, x1, x2⟩ := HC.out _ hbw
        clear hown
        by_cases hjn : j < n
        · have i2 : (j : Int) < (n : Int) := by omega
          by_cases hkj : k = j
          · have t1 : ((k : Int) != (j : Int)) = false := by subst hkj; simp
            have HO2 := Lib.hid (show OwnII wr w.heap.size u5 ((pairsL (edgeP xss) n k ++ wantL (edgeP xss) k (j + 1)).map pairI) from by rw [wantL_no (.inl hkj)]; exact HO.out)
            clear hkj hbw
            go_wp2
            go_roundw
            case rel => exact ⟨j + 1, by omega, by go_num, HO2.out, HBW.out⟩
            case measure => simp [intOf]; omega
          · have t1 : ((k : Int) != (j : Int)) = true := by simp only [bne_iff_ne, ne_eq]; omega
            have HKJ := Lib.hid hkj
            have hux : k < xss.length := by rw [HNX.out]; exact hkn
            obtain ⟨cb, off, ra2, rc2, hae, hb, gr, sr⟩ := (HA.out _ hbw).nthJ hux
            subst hae
            have hrl : xss[k].length = n := by obtain ⟨_, hl, _⟩ := rowB_of HV.out hux; have := HNX.out; omega
            rw [hrl] at gr sr
            have hjr : j < xss[k].length := by rw [hrl]; exact hjn
            obtain ⟨rb2, ro2, rfl, _, gx⟩ := sr.at_ hjr
            have hE := edgeP_at hux hjr
            generalize xss[k][j] = x at gx hE
            have HE := Lib.hid hE
            have i3 : (0 : Int) ≤ (k : Int) := by omega
            have i4 : (0 : Int) ≤ (j : Int) := by omega
            clear sr hrl hjr hb hE
            by_cases hx : 0 < x
            · have HXP := Lib.hid (show edgeP xss k j = true from by rw [HE.out]; exact decide_eq_true hx)
              have hwl := wantL_len (edgeP xss) k j
              have hz := HBW.out.size
              have hpr := OwnI.pairJ wr (base := wr.heap.size) (Nat.le_refl _) k j
              have bP : Below wr.heap.size wr (wr.alloc (.cells #[.int .i64 k, .int .i64 j] 2)) := (Below.refl _ _).alloc (Nat.le_refl _) _
              have BP := Lib.hid bP
              have HZA := Lib.hid (show (wr.alloc (.cells #[.int .i64 k, .int .i64 j] 2)).heap.size = wr.heap.size + 1 by simp)
              have hll : ((pairsL (edgeP xss) n k ++ wantL (edgeP xss) k j).map pairI).length < 16777216 := by rw [List.length_map, List.length_append]; omega
              have ho := HO.out
              clear hkj hbw
              obtain ⟨WP, hWP⟩ : ∃ WP, WP = wr.alloc (.cells #[.int .i64 k, .int .i64 j] 2) := ⟨_, rfl⟩
              rw [← hWP] at hpr bP BP HZA
              have HWP := Lib.hid hWP.symm
              clear hWP
              go_wp2_with (at_builtin; rw [HWP.out]; rw [← HZA.out]; refine append_row wr WP _ _ rfl rfl rfl ho bP hpr rfl hll hz ?_)
              intro v7 w7 o7 b7 z7
              have HB7 := Lib.hid (((HBW.out.trans (BP.out.mono HBW.out.size)).alloc (Nat.le_trans HBW.out.size BP.out.size) (.cells #[.slice (some ⟨wr.heap.size, 0, none⟩) 2 2] 59)).trans b7)
              have HO7 := Lib.hid (show OwnII w7 w.heap.size v7 ((pairsL (edgeP xss) n k ++ wantL (edgeP xss) k (j + 1)).map pairI) from by
                rw [wantL_yes HKJ.out HXP.out]; simpa [pairI, List.map_append, List.append_assoc] using o7)
              clear b7 o7 ho hpr bP
              go_wp2
              go_roundw
              case rel => exact ⟨j + 1, by omega, by go_num, HO7.out, HB7.out⟩
              case measure => simp [intOf]; omega
            · have HO2 := Lib.hid (show OwnII wr w.heap.size u5 ((pairsL (edgeP xss) n k ++ wantL (edgeP xss) k (j + 1)).map pairI) from by rw [wantL_no (.inr (by rw [HE.out]; exact decide_eq_false hx))]; exact HO.out)
              clear hkj hbw
              go_wp2
              go_roundw
              case rel => exact ⟨j + 1, by omega, by go_num, HO2.out, HBW.out⟩
              case measure => simp [intOf]; omega
        · obtain rfl : j = n := by omega
          clear hbw
          go_wp2
          go_roundw
          case rel => exact ⟨k + 1, by omega, by go_num, HO.out, HBW.out⟩
          case measure => simp [intOf]; omega
    · obtain rfl : k = n := by omega
      go_wp2
      go_ret
      exact ⟨_, rfl, hown, hbw⟩

set_option maxRecDepth 100000 in
set_option maxHeartbeats 4000000 in
theorem l06Paths_any {v pv : Value} {xss : List (List Int)} {tt : Int} {PS : List (Nat × Nat)} (b o n : Nat) (w : World) (hc : ChainAt w b o n tt v) (ha : SlII w v xss) (hv : chainOk n tt xss = true) (hcn : connB xss n = true) (hp : SlII w pv (PS.map pairI)) (hm : ∀ p ∈ PS, p.1 < n ∧ p.2 < n) (hl : PS.length ≤ 36) :
    Calls Try.prog 70 #[.pointer (some ⟨b, o, none⟩), pv] w fun e w' => ∃ r, e = .returned r ∧ OwnII w' w.heap.size r (pathsL xss n PS) ∧ Below w.heap.size w w' := by
  have HA := Lib.hid (fun W (h : Below w.heap.size w W) => ha.below h)
  have HC := Lib.hid (fun W (h : Below w.heap.size w W) => hc.below h)
  have HP := Lib.hid (fun W (h : Below w.heap.size w W) => hp.below h)
  have hml : (PS.map pairI).length = PS.length := by simp
  obtain ⟨pa, pc, pus, rfl, _, hpc, _, _, _⟩ := hp
  rw [hml] at HP ⊢
  have HML := Lib.hid hml
  unfold maxLen at hpc
  have HV := Lib.hid hv
  have HCN := Lib.hid hcn
  have HM := Lib.hid hm
  have E0 := Lib.hid (OwnII.empty w (base := w.heap.size) (Nat.le_refl _))
  have B0 := Lib.hid ((Below.refl w.heap.size w).alloc (Nat.le_refl _) (.cells #[] 59))
  clear hv hc ha hcn hm hml
  go_enter Try.func70, Try.ntmps70
  go_wp2
  go_loopw [5, 6] (fun r i wr => ∃ k : Nat, k ≤ PS.length ∧ i = .int .i64 k ∧ OwnII wr w.heap.size r (pathsL xss n (PS.take k)) ∧ Below w.heap.size w wr) (fun _ i _ => PS.length - (intOf i).toNat)
  case atStart => exact ⟨0, Nat.zero_le _, rfl, by simpa [pathsL] using E0.out, B0.out⟩
  case round =>
    clear E0 B0
    obtain ⟨k, hk, rfl, hown, hbw⟩ := hrel
    have HBW := Lib.hid hbw
    have HO := Lib.hid hown
    clear hown
    by_cases hlt : k < PS.length
    · have hkm : k < (PS.map pairI).length := by rw [HML.out]; exact hlt
      obtain ⟨pb, po, ra, rc, rfl, _, gr, sr⟩ := (HP.out _ hbw).nthJ hkm
      rw [List.getElem_map] at gr sr
      obtain ⟨hp1, hp2⟩ := HM.out _ (List.getElem_mem hlt)
      have hst := pathsL_succ (xss := xss) (n := n) hlt
      have hll := pathsL_len xss n (PS.take k)
      generalize PS[k] = p at gr sr hp1 hp2 hst
      obtain ⟨ps, pt⟩ := p
      dsimp only at hp1 hp2 hst
      obtain ⟨rb, ro, rfl, _, g0⟩ := sr.at_ (k := 0) (by simp [pairI])
      obtain ⟨rb', ro', he, _, g1⟩ := sr.at_ (k := 1) (by simp [pairI])
      simp only [Option.some.injEq, Addr.mk.injEq] at he
      obtain ⟨rfl, rfl, _⟩ := he
      simp only [pairI, List.getElem_cons_zero, List.getElem_cons_succ, Nat.add_zero, List.length_cons, List.length_nil, Nat.zero_add] at gr g0 g1
      have i1 : (k : Int) < (PS.length : Int) := by omega
      have i0 : (0 : Int) ≤ (k : Int) := by omega
      have HST := Lib.hid hst
      have CW := Lib.hid (fun W (h : Below wr.heap.size wr W) => show W.cell? ⟨pb, po + k, none⟩ = some (.slice (some ⟨rb, ro, none⟩) 2 rc) ∧ W.cell? ⟨rb, ro, none⟩ = some (.int .i64 ps) ∧ W.cell? ⟨rb, ro + 1, none⟩ = some (.int .i64 pt) from ⟨by rw [h.cell (p := ⟨pb, po + k, none⟩) (cell_lt gr)]; exact gr, by rw [h.cell (p := ⟨rb, ro, none⟩) (cell_lt g0)]; exact g0, by rw [h.cell (p := ⟨rb, ro + 1, none⟩) (cell_lt g1)]; exact g1⟩)
      have hll2 : (PS.take k).length = k := by rw [List.length_take]; omega
      rw [hll2] at hll
      have HLL := Lib.hid hll
      clear hst sr hkm hll hll2
      go_wp2_with fail
      refine wpX_start (fun W => W.cell? ⟨pb, po + k, none⟩ = some (.slice (some ⟨rb, ro, none⟩) 2 rc) ∧ W.cell? ⟨rb, ro, none⟩ = some (.int .i64 ps) ∧ W.cell? ⟨rb, ro + 1, none⟩ = some (.int .i64 pt)) [14, 15, 16, 17] (by kernel_rfl) ?_
      have hC := CW.out wr.drew (Below.refl wr.heap.size wr).drew
      refine wpX_free (i := 0) (v := ?_) rfl (by kernel_rfl) (fun _ _ _ h => h) rfl (fun w' => ?_) ?_
      rotate_left
      · go_simp; try with_reducible rfl
      try simp only [Act.put, List.setIfInBounds_toArray, List.set_cons_zero, List.set_cons_succ]
      refine wpX_free (i := 1) (v := ?_) rfl (by kernel_rfl) (fun _ _ _ h => h) rfl (fun w' => ?_) ?_
      rotate_left
      · go_simp; try with_reducible rfl
      try simp only [Act.put, List.setIfInBounds_toArray, List.set_cons_zero, List.set_cons_succ]
      refine wpX_free (i := 2) (v := ?_) rfl (by kernel_rfl) (fun _ _ _ h => h) rfl (fun w' => ?_) ?_
      rotate_left
      · go_simp; try with_reducible rfl
      try simp only [Act.put, List.setIfInBounds_toArray, List.set_cons_zero, List.set_cons_succ]
      refine wpX_free (i := 3) (v := ?_) rfl (by kernel_rfl) (fun _ _ _ h => h) rfl (fun w' => ?_) ?_
      rotate_left
      · go_simp; try with_reducible rfl
      try simp only [Act.put, List.setIfInBounds_toArray, List.set_cons_zero, List.set_cons_succ]
      refine wpX_free (i := 4) (v := ?_) rfl (by kernel_rfl) (fun _ _ _ h => h) rfl (fun w' => ?_) ?_
      rotate_left
      · go_simp; try with_reducible rfl
      try simp only [Act.put, List.setIfInBounds_toArray, List.set_cons_zero, List.set_cons_succ]
      refine wpX_load (i := 5) (v := ?_) rfl (by kernel_rfl) (fun _ _ _ h => h) hC rfl (fun w' hw' => ?_) ?_
      rotate_left
      · obtain ⟨k1, k2, k3⟩ := hw'; go_simp; try with_reducible rfl
      try simp only [Act.put, List.setIfInBounds_toArray, List.set_cons_zero, List.set_cons_succ]
      refine wpX_free (i := 6) (v := ?_) rfl (by kernel_rfl) (fun _ _ _ h => h) rfl (fun w' => ?_) ?_
      rotate_left
      · go_simp; try with_reducible rfl
      try simp only [Act.put, List.setIfInBounds_toArray, List.set_cons_zero, List.set_cons_succ]
      refine wpX_load (i := 7) (v := ?_) rfl (by kernel_rfl) (fun _ _ _ h => h) hC rfl (fun w' hw' => ?_) ?_
      rotate_left
      · obtain ⟨k1, k2, k3⟩ := hw'; go_simp; try with_reducible rfl
      try simp only [Act.put, List.setIfInBounds_toArray, List.set_cons_zero, List.set_cons_succ]
      refine wpX_free (i := 8) (v := ?_) rfl (by kernel_rfl) (fun _ _ _ h => h) rfl (fun w' => ?_) ?_
      rotate_left
      · go_simp; try with_reducible rfl
      try simp only [Act.put, List.setIfInBounds_toArray, List.set_cons_zero, List.set_cons_succ]
      refine wpX_free (i := 9) (v := ?_) rfl (by kernel_rfl) (fun _ _ _ h => h) rfl (fun w' => ?_) ?_
      rotate_left
      · go_simp; try with_reducible rfl
      try simp only [Act.put, List.setIfInBounds_toArray, List.set_cons_zero, List.set_cons_succ]
      refine wpX_free (i := 10) (v := ?_) rfl (by kernel_rfl) (fun _ _ _ h => h) rfl (fun w' => ?_) ?_
      rotate_left
      · go_simp; try with_reducible rfl
      try simp only [Act.put, List.setIfInBounds_toArray, List.set_cons_zero, List.set_cons_succ]
      refine wpX_load (i := 11) (v := ?_) rfl (by kernel_rfl) (fun _ _ _ h => h) hC rfl (fun w' hw' => ?_) ?_
      rotate_left
      · obtain ⟨k1, k2, k3⟩ := hw'; go_simp; try with_reducible rfl
      try simp only [Act.put, List.setIfInBounds_toArray, List.set_cons_zero, List.set_cons_succ]
      refine wpX_free (i := 12) (v := ?_) rfl (by kernel_rfl) (fun _ _ _ h => h) rfl (fun w' => ?_) ?_
      rotate_left
      · go_simp; try with_reducible rfl
      try simp only [Act.put, List.setIfInBounds_toArray, List.set_cons_zero, List.set_cons_succ]
      refine wpX_load (i := 13) (v := ?_) rfl (by kernel_rfl) (fun _ _ _ h => h) hC rfl (fun w' hw' => ?_) ?_
      rotate_left
      · obtain ⟨k1, k2, k3⟩ := hw'; go_simp; try with_reducible rfl
      try simp only [Act.put, List.setIfInBounds_toArray, List.set_cons_zero, List.set_cons_succ]
      refine wpX_rest (t := [14, 15, 16, 17]) (l := [_, _, _, _]) rfl (by kernel_rfl) (by kernel_rfl) ?_
      clear hC
      simp only [List.getElem_toArray, List.getElem_cons_zero, List.getElem_cons_succ]
      have bq : Below wr.heap.size wr wr.drew := (Below.refl _ _).drew
      generalize wr.drew = wq at bq ⊢
      have HBQ := Lib.hid (HBW.out.trans (bq.mono HBW.out.size))
      have HOQ := Lib.hid (HO.out.below bq)
      clear gr g0 g1 bq hbw HBW HO
      go_wp2_with fail
      refine (l06First_any b o n ps pt _ (HC.out _ HBQ.out) (HA.out _ HBQ.out) HV.out HCN.out hp1 hp2).mono ?_
      rintro e w4 ⟨fv, rfl, o4, b4⟩
      obtain ⟨fa, fc, rfl, _, _, _⟩ := id o4.sl
      have B4 := Lib.hid b4
      have hbb := b4
      have ho := HOQ.out
      have hln : (pathsL xss n (PS.take k)).length < 16777216 := by have := HLL.out; omega
      have hzz := HBQ.out.size
      clear b4
      go_wp2_with (at_builtin; refine append_row wq _ _ _ rfl rfl rfl ho hbb o4 rfl hln hzz ?_)
      intro v7 w7 o7 b7 z7
      have HB7 := Lib.hid (((HBQ.out.trans (B4.out.mono HBQ.out.size)).alloc (Nat.le_trans HBQ.out.size B4.out.size) (.cells #[.slice fa (intsL (firstG (edgeP xss) n ps pt)).length fc] 59)).trans b7)
      rw [← HST.out] at o7
      clear b7 ho o4 hbb
      go_wp2
      go_roundw
      case rel => exact ⟨k + 1, by omega, by go_num, o7, HB7.out⟩
      case measure => simp [intOf]; omega
    · obtain rfl : k = PS.length := by omega
      have ho := HO.out
      rw [List.take_length] at ho
      go_wp2
      go_ret
      exact ⟨_, rfl, ho, hbw⟩

set_option maxRecDepth 100000 in
set_option maxHeartbeats 4000000 in
theorem SpecPathsOf_any {v : Value} {xss : List (List Int)} (n t : Int) (w : World) (ha : SlII w v xss) :
    Calls Try.prog 15 #[.agg #[.int .i64 n, .int .i64 t, v]] w fun e w' => ∃ r, e = .returned (.tuple #[r, .int .i64 (pathsR n t xss).2]) ∧ OwnII w' w.heap.size r (pathsR n t xss).1 ∧ Below w.heap.size w w' := by
  have HA := Lib.hid (fun W (h : Below w.heap.size w W) => ha.below h)
  obtain ⟨a, ca, us, rfl, _, _, _, _, _⟩ := ha
  have BX := Lib.hid (chBelow w n t (.slice a xss.length ca))
  have X := Lib.hid (chBox w n t (.slice a xss.length ca))
  have hpr : pathsR n t xss = if conC n t xss = 0 then (pathsL xss n.toNat (pairsL allQ n.toNat n.toNat), 0) else ([], conC n t xss) := rfl
  generalize hcc : conC n t xss = C at hpr
  have HCC := Lib.hid hcc
  have HPR := Lib.hid hpr
  clear hpr hcc
  go_enter Try.func15, Try.ntmps15
  go_wp2_with fail
  refine (l02Whose_any w.heap.size 0 n t _ X.out (HA.out _ BX.out)).mono ?_
  rintro e w1 ⟨rfl, b1⟩
  rw [HCC.out]
  have B1 := Lib.hid (BX.out.trans (b1.mono BX.out.size))
  have X1 := Lib.hid (X.out.below b1)
  clear b1
  by_cases h0 : C = 0
  · subst h0
    obtain ⟨hok, hcn⟩ := conC_zero HCC.out
    obtain ⟨m, rfl, hm1, hm6⟩ := chain_nat hok
    rw [Int.toNat_natCast] at hcn
    have HOK := Lib.hid hok
    have HCN := Lib.hid hcn
    have HP2 := Lib.hid (show pathsR (m : Int) t xss = (pathsL xss m (pairsL allQ m m), 0) from by rw [HPR.out, Int.toNat_natCast]; rfl)
    have hpl := pairsL_len allQ m m
    have hmm : m * m ≤ 36 := Nat.mul_le_mul hm6 hm6
    clear hok hcn HPR
    go_wp2_with fail
    refine (l06PairsAll_any w.heap.size 0 m w1 X1.out (HA.out _ B1.out) HOK.out).mono ?_
    rintro e w2 ⟨pv, rfl, o2, b2⟩
    have B2 := Lib.hid (B1.out.trans (b2.mono B1.out.size))
    have KP := Lib.hid (l06Paths_any w.heap.size 0 m w2 (X1.out.below b2) (HA.out _ B2.out) HOK.out HCN.out o2.sl (fun p hp => pairsL_mem hp) (by omega))
    clear b2 o2
    go_wp2_with fail
    refine KP.out.mono ?_
    rintro e w3 ⟨rv, rfl, o3, b3⟩
    have B3 := Lib.hid (B2.out.trans (b3.mono B2.out.size))
    have O3 := Lib.hid (o3.lower B2.out.size)
    clear o3 b3 KP
    go_wp2
    go_ret2
    exact ⟨_, by rw [HP2.out]; rfl, by rw [HP2.out]; exact O3.out, B3.out⟩
  · have HP2 := Lib.hid (show pathsR n t xss = ([], C) from by rw [HPR.out, if_neg h0])
    have t1 : (C != 0) = true := by simp only [bne_iff_ne, ne_eq]; exact h0
    have E0 := Lib.hid (OwnII.empty w1 (base := w1.heap.size) (Nat.le_refl _))
    clear h0
    go_wp2
    go_ret2
    exact ⟨_, by rw [HP2.out]; rfl, by rw [HP2.out]; exact E0.out.lower B1.out.size, B1.out.alloc B1.out.size _⟩

set_option maxHeartbeats 2000000 in
theorem l06Both_any {v y : Value} {xss yss : List (List Int)} (b o b2 o2 : Nat) (n t m u : Int) (w : World) (hc : ChainAt w b o n t v) (hd : ChainAt w b2 o2 m u y) (ha : SlII w v xss) (hb : SlII w y yss) :
    Calls Try.prog 78 #[.pointer (some ⟨b, o, none⟩), .pointer (some ⟨b2, o2, none⟩)] w fun e w' => e = .returned (.int .i64 (twoC n t xss m u yss)) ∧ Below w.heap.size w w' := by
  have HA := Lib.hid (fun W (h : Below w.heap.size w W) => ha.below h)
  have HB := Lib.hid (fun W (h : Below w.heap.size w W) => hb.below h)
  have HC := Lib.hid (fun W (h : Below w.heap.size w W) => hc.below h)
  have HD := Lib.hid (fun W (h : Below w.heap.size w W) => hd.below h)
  have hpc : twoC n t xss m u yss = if (chainOk n t xss && chainOk m u yss) = true then (if n = m then (if (connB xss n.toNat && connB yss m.toNat) = true then 0 else 4) else 2) else 1 := rfl
  generalize hok : chainOk n t xss = OK at hpc
  generalize hok2 : chainOk m u yss = OK2 at hpc
  have HOK := Lib.hid hok
  have HOK2 := Lib.hid hok2
  have HPC := Lib.hid hpc
  clear hok hok2 hpc ha hb hc hd
  go_enter Try.func78, Try.ntmps78
  go_wp2_with fail
  refine (l01Ok_any b o n t w (HC.out _ (Below.refl _ _)) (HA.out _ (Below.refl _ _))).mono ?_
  rintro e w1 ⟨rfl, b1⟩
  rw [HOK.out]
  have B1 := Lib.hid b1
  clear b1
  cases OK
  · go_wp2
    go_ret
    exact ⟨ri (by rw [HPC.out]; simp), B1.out⟩
  · skip
    go_wp2_with fail
    refine (l01Ok_any b2 o2 m u _ (HD.out _ B1.out) (HB.out _ B1.out)).mono ?_
    rintro e w2 ⟨rfl, b2'⟩
    rw [HOK2.out]
    have B2 := Lib.hid (B1.out.trans (b2'.mono B1.out.size))
    obtain ⟨c00, x0, x1, x2⟩ := HC.out _ B2.out
    obtain ⟨d00, y0, y1, y2⟩ := HD.out _ B2.out
    have k0 := fun d os => cell_regrown x0 d os
    have k1 := fun d os => cell_regrown y0 d os
    clear b2' x0 x1 x2 y0 y1 y2 c00 d00
    cases OK2
    · go_wp2
      go_ret
      exact ⟨ri (by rw [HPC.out]; simp), B2.out⟩
    · go_wp2_with fail
      refine wp_region_quiet_below (by kernel_rfl) (by kernel_rfl) ?_
      repeat (first | go_big_quiet_skip | quiet_step (fail))
      refine wpQuiet_nil ?_
      intro _ hw'
      obtain ⟨⟨dq, osq⟩, hw''⟩ := hw'
      subst hw''
      have BQ := Lib.hid (B2.out.trans ((below_regrown w2 dq osq).mono B2.out.size))
      generalize grow (redrawn w2 dq) osq = wq at BQ ⊢
      clear k0 k1
      by_cases hnm : n = m
      · subst hnm
        obtain ⟨q, rfl, _, _⟩ := chain_nat HOK.out
        have t1 : ((q : Int) != (q : Int)) = false := by simp
        have hqq : connB xss (q : Int).toNat = connB xss q ∧ connB yss (q : Int).toNat = connB yss q := by rw [Int.toNat_natCast]; exact ⟨rfl, rfl⟩
        have HP2 := Lib.hid (show twoC (q : Int) t xss q u yss = if (connB xss q && connB yss q) = true then 0 else 4 from by rw [HPC.out, hqq.1, hqq.2]; simp)
        generalize hc1 : connB xss q = K1 at HP2
        generalize hc2 : connB yss q = K2 at HP2
        have HC1 := Lib.hid hc1
        have HC2 := Lib.hid hc2
        clear hc1 hc2 hqq
        go_wp2_with fail
        refine (l02Joined_any b o q _ (HC.out _ BQ.out) (HA.out _ BQ.out) HOK.out).mono ?_
        rintro e w3 ⟨rfl, b3⟩
        rw [HC1.out]
        have B3 := Lib.hid (BQ.out.trans (b3.mono BQ.out.size))
        clear b3
        cases K1
        · go_wp2
          go_ret
          exact ⟨ri (by rw [HP2.out]; simp), B3.out⟩
        · skip
          go_wp2_with fail
          refine (l02Joined_any b2 o2 q _ (HD.out _ B3.out) (HB.out _ B3.out) HOK2.out).mono ?_
          rintro e w4 ⟨rfl, b4⟩
          rw [HC2.out]
          have B4 := Lib.hid (B3.out.trans (b4.mono B3.out.size))
          clear b4
          cases K2
          · go_wp2
            go_ret
            exact ⟨ri (by rw [HP2.out]; simp), B4.out⟩
          · go_wp2
            go_ret
            exact ⟨ri (by rw [HP2.out]; simp), B4.out⟩
      · have t1 : (n != m) = true := by simp only [bne_iff_ne, ne_eq]; exact hnm
        have HP2 := Lib.hid (show twoC n t xss m u yss = 2 from by rw [HPC.out]; simp [hnm])
        clear hnm
        go_wp2
        go_ret
        exact ⟨ri HP2.out.symm, BQ.out⟩

set_option maxRecDepth 100000 in
set_option maxHeartbeats 4000000 in
theorem SpecStepPaths_any {v y : Value} {xss yss : List (List Int)} (n t m0 u0 : Int) (w : World) (ha : SlII w v xss) (hb : SlII w y yss) :
    Calls Try.prog 23 #[.agg #[.int .i64 n, .int .i64 t, v], .agg #[.int .i64 m0, .int .i64 u0, y]] w fun e w' => ∃ r, e = .returned (.tuple #[r, .int .i64 (stepsR n t xss m0 u0 yss).2]) ∧ OwnII w' w.heap.size r (stepsR n t xss m0 u0 yss).1 ∧ Below w.heap.size w w' := by
  have HA := Lib.hid (fun W (h : Below w.heap.size w W) => ha.below h)
  have HB := Lib.hid (fun W (h : Below w.heap.size w W) => hb.below h)
  obtain ⟨a, ca, us, rfl, _, _, _, _, _⟩ := ha
  obtain ⟨a2, ca2, us2, rfl, _, _, _, _, _⟩ := hb
  have X := Lib.hid (chBox w n t (.slice a xss.length ca))
  have BX := Lib.hid (chBelow w n t (.slice a xss.length ca))
  have Y := Lib.hid (chBox (w.alloc (chObj n t (.slice a xss.length ca))) m0 u0 (.slice a2 yss.length ca2))
  have BY0 := Lib.hid (chBelow (w.alloc (chObj n t (.slice a xss.length ca))) m0 u0 (.slice a2 yss.length ca2))
  have X2 := Lib.hid (X.out.below BY0.out)
  have BY := Lib.hid (BX.out.trans (BY0.out.mono BX.out.size))
  have hys : (w.alloc (chObj n t (.slice a xss.length ca))).heap.size = w.heap.size + 1 := by simp
  rw [hys] at Y
  obtain ⟨W2, hW2⟩ : ∃ W2, W2 = (w.alloc (chObj n t (.slice a xss.length ca))).alloc (chObj m0 u0 (.slice a2 yss.length ca2)) := ⟨_, rfl⟩
  rw [← hW2] at Y X2 BY
  have HW2 := Lib.hid (show (w.alloc (.cells #[.int .i64 n, .int .i64 t, .slice a xss.length ca] 37)).alloc (.cells #[.int .i64 m0, .int .i64 u0, .slice a2 yss.length ca2] 37) = W2 from hW2.symm)
  clear hW2 hys X BX BY0
  have hpr : stepsR n t xss m0 u0 yss = if twoC n t xss m0 u0 yss = 0 then (pathsL xss n.toNat (pairsL (edgeP yss) n.toNat n.toNat), 0) else ([], twoC n t xss m0 u0 yss) := rfl
  generalize hcc : twoC n t xss m0 u0 yss = C at hpr
  have HCC := Lib.hid hcc
  have HPR := Lib.hid hpr
  clear hpr hcc
  go_enter Try.func23, Try.ntmps23
  go_wp2_with fail
  rw [HW2.out]
  refine (l06Both_any w.heap.size 0 (w.heap.size + 1) 0 n t m0 u0 _ X2.out Y.out (HA.out _ BY.out) (HB.out _ BY.out)).mono ?_
  rintro e w1 ⟨rfl, b1⟩
  rw [HCC.out]
  have B1 := Lib.hid (BY.out.trans (b1.mono BY.out.size))
  have X1 := Lib.hid (X2.out.below b1)
  have Y1 := Lib.hid (Y.out.below b1)
  clear b1
  by_cases h0 : C = 0
  · subst h0
    obtain ⟨hok, hok2, rfl, hcn, _⟩ := twoC_zero HCC.out
    have HOK2 := Lib.hid hok2
    obtain ⟨m, rfl, hm1, hm6⟩ := chain_nat hok
    rw [Int.toNat_natCast] at hcn
    have HOK := Lib.hid hok
    have HCN := Lib.hid hcn
    have HP2 := Lib.hid (show stepsR (m : Int) t xss (m : Int) u0 yss = (pathsL xss m (pairsL (edgeP yss) m m), 0) from by rw [HPR.out, Int.toNat_natCast]; rfl)
    have hpl := pairsL_len (edgeP yss) m m
    have hmm : m * m ≤ 36 := Nat.mul_le_mul hm6 hm6
    clear hok hok2 hcn HPR
    go_wp2_with fail
    refine (l06PairsStep_any (w.heap.size + 1) 0 m w1 Y1.out (HB.out _ B1.out) HOK2.out).mono ?_
    rintro e w2 ⟨pv, rfl, o2, b2⟩
    have B2 := Lib.hid (B1.out.trans (b2.mono B1.out.size))
    have KP := Lib.hid (l06Paths_any w.heap.size 0 m w2 (X1.out.below b2) (HA.out _ B2.out) HOK.out HCN.out o2.sl (fun p hp => pairsL_mem hp) (by omega))
    clear b2 o2
    go_wp2_with fail
    refine KP.out.mono ?_
    rintro e w3 ⟨rv, rfl, o3, b3⟩
    have B3 := Lib.hid (B2.out.trans (b3.mono B2.out.size))
    have O3 := Lib.hid (o3.lower B2.out.size)
    clear o3 b3 KP
    go_wp2
    go_ret2
    exact ⟨_, by rw [HP2.out]; rfl, by rw [HP2.out]; exact O3.out, B3.out⟩
  · have HP2 := Lib.hid (show stepsR n t xss m0 u0 yss = ([], C) from by rw [HPR.out, if_neg h0])
    have t1 : (C != 0) = true := by simp only [bne_iff_ne, ne_eq]; exact h0
    have E0 := Lib.hid (OwnII.empty w1 (base := w1.heap.size) (Nat.le_refl _))
    clear h0
    go_wp2
    go_ret2
    exact ⟨_, by rw [HP2.out]; rfl, by rw [HP2.out]; exact E0.out.lower B1.out.size, B1.out.alloc B1.out.size _⟩
end Go.Proofs.Ytpmabnohdabbdaa
namespace Go.Proofs.Ytpmabnohdabbdaa
open Go.RowKit Go.Sort
theorem sumL_rowsJ {k : Nat} : ∀ {l : List (List Int)}, (∀ x ∈ l, x.length ≤ k) → sumL l ≤ l.length * k
  | [], _ => by simp [sumL]
  | x :: r, h => by
    have e : sumL (x :: r) = x.length + sumL r := by simp [sumL]
    have h1 := sumL_rowsJ (l := r) (fun y hy => h y (by simp [hy]))
    have h2 := h x (by simp)
    rw [e, List.length_cons, Nat.add_mul]
    omega
theorem pathsL_sum {xss : List (List Int)} {n : Nat} {q : Nat → Nat → Bool} (hn : n ≤ 6) (hc : connB xss n = true) : sumL (pathsL xss n (pairsL q n n)) ≤ 2000 := by
  have h1 := pairsL_len q n n
  have h2 : n * n ≤ 36 := Nat.mul_le_mul hn hn
  have h3 : sumL (pathsL xss n (pairsL q n n)) ≤ (pathsL xss n (pairsL q n n)).length * 6 := sumL_rowsJ (fun x hx => by
    unfold pathsL at hx
    rw [List.mem_map] at hx
    obtain ⟨p, hp, rfl⟩ := hx
    obtain ⟨p1, p2⟩ := pairsL_mem hp
    rw [intsL_len]
    unfold firstG
    rw [gPath_len]
    have := f_lt (far_exists p2 (conn_back hc p2)) p1
    omega)
  rw [pathsL_len] at h3
  omega
theorem pathsR_len (n t : Int) (xss : List (List Int)) : sumL (pathsR n t xss).1 ≤ 2000 := by
  unfold pathsR
  by_cases h : conC n t xss = 0
  · rw [if_pos h]
    obtain ⟨h1, h2⟩ := conC_zero h
    obtain ⟨m, rfl, _, h6⟩ := chain_nat h1
    rw [Int.toNat_natCast] at h2 ⊢
    exact pathsL_sum h6 h2
  · rw [if_neg h]; simp [sumL]
theorem stepsR_len (n t : Int) (xss : List (List Int)) (m u : Int) (yss : List (List Int)) : sumL (stepsR n t xss m u yss).1 ≤ 2000 := by
  unfold stepsR
  by_cases h : twoC n t xss m u yss = 0
  · rw [if_pos h]
    obtain ⟨h1, _, _, h2, _⟩ := twoC_zero h
    obtain ⟨m, rfl, _, h6⟩ := chain_nat h1
    rw [Int.toNat_natCast] at h2 ⊢
    exact pathsL_sum h6 h2
  · rw [if_neg h]; simp [sumL]
def FreshPC (w : World) (R : List (List Int) × Int) (e : Ending) (w' : World) : Prop := ∃ v, e = .returned (tupVC v R.2) ∧ OwnII w' w.heap.size v R.1 ∧ Below w.heap.size w w'

theorem SpecPathsOf_f {v : Value} {xss : List (List Int)} (n t : Int) (w : World) (ha : SlII w v xss) : Calls Try.prog 15 #[.agg #[.int .i64 n, .int .i64 t, v]] w (FreshPC w (pathsR n t xss)) := SpecPathsOf_any n t w ha
theorem ImplPathsOf_f {v : Value} {xss : List (List Int)} (n t : Int) (w : World) (ha : SlII w v xss) : Calls Try.prog 17 #[.agg #[.int .i64 n, .int .i64 t, v]] w (FreshPC w (pathsR n t xss)) := ImplPathsOf_any n t w ha

theorem SpecStepPaths_f {v y : Value} {xss yss : List (List Int)} (n t m u : Int) (w : World) (ha : SlII w v xss) (hb : SlII w y yss) : Calls Try.prog 23 #[.agg #[.int .i64 n, .int .i64 t, v], .agg #[.int .i64 m, .int .i64 u, y]] w (FreshPC w (stepsR n t xss m u yss)) := SpecStepPaths_any n t m u w ha hb
theorem ImplStepPaths_f {v y : Value} {xss yss : List (List Int)} (n t m u : Int) (w : World) (ha : SlII w v xss) (hb : SlII w y yss) : Calls Try.prog 24 #[.agg #[.int .i64 n, .int .i64 t, v], .agg #[.int .i64 m, .int .i64 u, y]] w (FreshPC w (stepsR n t xss m u yss)) := ImplStepPaths_any n t m u w ha hb
end Go.Proofs.Ytpmabnohdabbdaa
namespace Go.Proofs.Ytpmabnohdabbdaa
open Go.RowKit Go.Sort
theorem ChainAt.fs {S : Nat → Prop} {w w' : World} {b o : Nat} {s t : Int} {v : Value} (h : ChainAt w b o s t v) (hf : Fs S w w') (hS : ¬ S b) : ChainAt w' b o s t v :=
  ⟨Nat.lt_of_lt_of_le h.1 hf.size, by rw [hf.cell (p := ⟨b, o, none⟩) h.1 hS]; exact h.2.1, by rw [hf.cell (p := ⟨b, o + 1, none⟩) h.1 hS]; exact h.2.2.1, by rw [hf.cell (p := ⟨b, o + 2, none⟩) h.1 hS]; exact h.2.2.2⟩
theorem szII_okl {xss : List (List Int)} {l l1 : Int} (h : szII l xss = l1) (hl : ¬ l1 < 0) (hle : l ≤ 1048576) : xss.length ≤ 1048576 ∧ ∀ r ∈ xss, r.length ≤ 1048576 := by
  have := szII_nonneg (l := l) (xss := xss) (by rw [h]; omega)
  exact ⟨by omega, fun r hr => by have := this.2.2 r hr; omega⟩
end Go.Proofs.Ytpmabnohdabbdaa
