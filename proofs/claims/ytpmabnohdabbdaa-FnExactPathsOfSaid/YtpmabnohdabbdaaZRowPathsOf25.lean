/-
  FnExactPathsOf: both answer the same, and leave what they are given as it was. With it: Pairs of states and their paths: the reference's side. The paths of pairs are short; both sides of PathsOf and StepPaths as fresh rows and a code.
-/
import Derived.Test.YtpmabnohdabbdaaZRowPathsOf24
import Derived.Test.YtpmabnohdabbdaaZRowPathsOf1
import Derived.Test.YtpmabnohdabbdaaZRowPathsOf11
import Derived.Test.YtpmabnohdabbdaaZRowPathsOf5
import Derived.Test.YtpmabnohdabbdaaZRowPathsOf13
import Derived.Test.YtpmabnohdabbdaaZRowPathsOf6
import Derived.Deep.RegionWith
import Derived.Deep.DeepCutAuto
set_option linter.unusedVariables false
set_option linter.unusedSimpArgs false
namespace Go.Proofs.Ytpmabnohdabbdaa
open Go.RowKit Go.Sort
theorem OwnI.pairJ (w : World) {base : Nat} (hb : base ≤ w.heap.size) (x y : Int) : OwnI (w.alloc (.cells #[.int .i64 x, .int .i64 y] 2)) base (.slice (some ⟨w.heap.size, 0, none⟩) 2 2) [x, y] :=
  World.ownsRow_lit (base := base) (e := 2) (size := 1) w #[.int .i64 x, .int .i64 y] 2 hb (by simp [maxLen]) (by simp)
def pairI (p : Nat × Nat) : List Int := [(p.1 : Int), (p.2 : Int)]

set_option maxRecDepth 100000 in
set_option maxHeartbeats 4000000 in
theorem l06PairsAll_any {v : Value} {xss : List (List Int)} {tt : Int} (b o n : Nat) (w : World) (hc : ChainAt w b o n tt v) (ha : SlII w v xss) (hv : chainOk n tt xss = true) :
    Calls Try.prog 71 #[.pointer (some ⟨b, o, none⟩), .bool false] w fun e w' => ∃ r, e = .returned r ∧ OwnII w' w.heap.size r ((pairsL allQ n n).map pairI) ∧ Below w.heap.size w w' := by
  have HA := Lib.hid (fun W (h : Below w.heap.size w W) => ha.below h)
  have HC := Lib.hid (fun W (h : Below w.heap.size w W) => hc.below h)
  obtain ⟨a, ca, us, rfl, _, _, _, _, _⟩ := ha
  obtain ⟨⟨hn1, hn2⟩, ⟨ht1, ht2⟩, hnx, _⟩ := chainOk_parts0 hv
  have hnx' : xss.length = n := by omega
  have HNX := Lib.hid hnx'
  rw [hnx'] at HA HC
  have HV := Lib.hid hv
  have E0 := Lib.hid (OwnII.empty w (base := w.heap.size) (Nat.le_refl _))
  have B0 := Lib.hid ((Below.refl w.heap.size w).alloc (Nat.le_refl _) (.cells #[] 59))
  clear hv hnx hnx' hc
  go_enter Try.func71, Try.ntmps71
  go_wp2
  go_loopw [5, 6] (fun r i wr => ∃ k : Nat, k ≤ n ∧ i = .int .i64 k ∧ OwnII wr w.heap.size r ((pairsL allQ n k).map pairI) ∧ Below w.heap.size w wr) (fun _ i _ => n - (intOf i).toNat)
  case atStart => exact ⟨0, Nat.zero_le _, rfl, E0.out, B0.out⟩
  case round =>
    clear E0 B0
    obtain ⟨k, hk, rfl, hown, hbw⟩ := hrel
    have HBW := Lib.hid hbw
    obtain ⟨c00, x0, x1, x2⟩ := HC.out _ hbw
    by_cases hkn : k < n
    · have i1 : (k : Int) < (n : Int) := by omega
      have hpl := pairsL_len allQ n k
      have hkn6 : k * n ≤ 36 := Nat.mul_le_mul (by omega : k ≤ 6) (by omega : n ≤ 6)
      have HO := Lib.hid (show OwnII wr w.heap.size u5 ((pairsL allQ n k ++ wantL allQ k 0).map pairI) from by show OwnII _ _ _ ((pairsL allQ n k ++ []).map pairI); rw [List.append_nil]; exact hown)
      clear hown hbw
      go_wp2
      go_loopw [5, 7] (fun r i wi => ∃ j : Nat, j ≤ n ∧ i = .int .i64 j ∧ OwnII wi w.heap.size r ((pairsL allQ n k ++ wantL allQ k j).map pairI) ∧ Below w.heap.size w wi) (fun _ i _ => n - (intOf i).toNat)
      case atStart => exact ⟨0, Nat.zero_le _, rfl, HO.out, HBW.out⟩
      case round =>
        clear HO HBW x0 x1 x2 c00
        obtain ⟨j, hj, rfl, hown, hbw⟩ := hrel
        have HBW := Lib.hid hbw
        have HO := Lib.hid hown
        obtain ⟨c00, x0, x1, x2⟩ := HC.out _ hbw
        clear hown
        by_cases hjn : j < n
        · have i2 : (j : Int) < (n : Int) := by omega
          by_cases hkj : k = j
          · have t1 : ((k : Int) != (j : Int)) = false := by subst hkj; simp
            have HO2 := Lib.hid (show OwnII wr w.heap.size u5 ((pairsL allQ n k ++ wantL allQ k (j + 1)).map pairI) from by rw [wantL_no (.inl hkj)]; exact HO.out)
            clear hkj hbw
            go_wp2
            go_roundw
            case rel => exact ⟨j + 1, by omega, by go_num, HO2.out, HBW.out⟩
            case measure => simp [intOf]; omega
          · have t1 : ((k : Int) != (j : Int)) = true := by simp only [bne_iff_ne, ne_eq]; omega
            have HKJ := Lib.hid hkj
            have hwl := wantL_len allQ k j
            have hz := HBW.out.size
            have hpr := OwnI.pairJ wr (base := wr.heap.size) (Nat.le_refl _) k j
            have bP : Below wr.heap.size wr (wr.alloc (.cells #[.int .i64 k, .int .i64 j] 2)) := (Below.refl _ _).alloc (Nat.le_refl _) _
            have BP := Lib.hid bP
            have HZA := Lib.hid (show (wr.alloc (.cells #[.int .i64 k, .int .i64 j] 2)).heap.size = wr.heap.size + 1 by simp)
            have hll : ((pairsL allQ n k ++ wantL allQ k j).map pairI).length < 16777216 := by rw [List.length_map, List.length_append]; omega
            have ho := HO.out
            clear hkj hbw
            obtain ⟨WP, hWP⟩ : ∃ WP, WP = wr.alloc (.cells #[.int .i64 k, .int .i64 j] 2) := ⟨_, rfl⟩
            rw [← hWP] at hpr bP BP HZA
            have HWP := Lib.hid hWP.symm
            clear hWP
            go_wp2_with (at_builtin; rw [HWP.out]; rw [← HZA.out]; refine append_row wr WP _ _ rfl rfl rfl ho bP hpr rfl hll hz ?_)
            intro v7 w7 o7 b7 z7
            have HB7 := Lib.hid (((HBW.out.trans (BP.out.mono HBW.out.size)).alloc (Nat.le_trans HBW.out.size BP.out.size) (.cells #[.slice (some ⟨wr.heap.size, 0, none⟩) 2 2] 59)).trans b7)
            have HO7 := Lib.hid (show OwnII w7 w.heap.size v7 ((pairsL allQ n k ++ wantL allQ k (j + 1)).map pairI) from by
              rw [wantL_yes HKJ.out rfl]; simpa [pairI, List.map_append, List.append_assoc] using o7)
            clear b7 o7 ho hpr bP
            go_wp2
            go_roundw
            case rel => exact ⟨j + 1, by omega, by go_num, HO7.out, HB7.out⟩
            case measure => simp [intOf]; omega
        · obtain rfl : j = n := by omega
          clear hbw
          go_wp2
          go_roundw
          case rel => exact ⟨k + 1, by omega, by go_num, HO.out, HBW.out⟩
          case measure => simp [intOf]; omega
    · obtain rfl : k = n := by omega
      go_wp2
      go_ret
      exact ⟨_, rfl, hown, hbw⟩

set_option maxRecDepth 100000 in
set_option maxHeartbeats 4000000 in
theorem l06PairsStep_any {v : Value} {xss : List (List Int)} {tt : Int} (b o n : Nat) (w : World) (hc : ChainAt w b o n tt v) (ha : SlII w v xss) (hv : chainOk n tt xss = true) :
    Calls Try.prog 71 #[.pointer (some ⟨b, o, none⟩), .bool true] w fun e w' => ∃ r, e = .returned r ∧ OwnII w' w.heap.size r ((pairsL (edgeP xss) n n).map pairI) ∧ Below w.heap.size w w' := by
  have HA := Lib.hid (fun W (h : Below w.heap.size w W) => ha.below h)
  have HC := Lib.hid (fun W (h : Below w.heap.size w W) => hc.below h)
  obtain ⟨a, ca, us, rfl, _, _, _, _, _⟩ := ha
  obtain ⟨⟨hn1, hn2⟩, ⟨ht1, ht2⟩, hnx, _⟩ := chainOk_parts0 hv
  have hnx' : xss.length = n := by omega
  have HNX := Lib.hid hnx'
  rw [hnx'] at HA HC
  have HV := Lib.hid hv
  have E0 := Lib.hid (OwnII.empty w (base := w.heap.size) (Nat.le_refl _))
  have B0 := Lib.hid ((Below.refl w.heap.size w).alloc (Nat.le_refl _) (.cells #[] 59))
  clear hv hnx hnx' hc
  go_enter Try.func71, Try.ntmps71
  go_wp2
  go_loopw [5, 6] (fun r i wr => ∃ k : Nat, k ≤ n ∧ i = .int .i64 k ∧ OwnII wr w.heap.size r ((pairsL (edgeP xss) n k).map pairI) ∧ Below w.heap.size w wr) (fun _ i _ => n - (intOf i).toNat)
  case atStart => exact ⟨0, Nat.zero_le _, rfl, E0.out, B0.out⟩
  case round =>
    clear E0 B0
    obtain ⟨k, hk, rfl, hown, hbw⟩ := hrel
    have HBW := Lib.hid hbw
    obtain ⟨c00, x0, x1, x2⟩ := HC.out _ hbw
    by_cases hkn : k < n
    · have i1 : (k : Int) < (n : Int) := by omega
      have hpl := pairsL_len (edgeP xss) n k
      have hkn6 : k * n ≤ 36 := Nat.mul_le_mul (by omega : k ≤ 6) (by omega : n ≤ 6)
      have HO := Lib.hid (show OwnII wr w.heap.size u5 ((pairsL (edgeP xss) n k ++ wantL (edgeP xss) k 0).map pairI) from by show OwnII _ _ _ ((pairsL (edgeP xss) n k ++ []).map pairI); rw [List.append_nil]; exact hown)
      clear hown hbw
      go_wp2
      go_loopw [5, 7] (fun r i wi => ∃ j : Nat, j ≤ n ∧ i = .int .i64 j ∧ OwnII wi w.heap.size r ((pairsL (edgeP xss) n k ++ wantL (edgeP xss) k j).map pairI) ∧ Below w.heap.size w wi) (fun _ i _ => n - (intOf i).toNat)
      case atStart => exact ⟨0, Nat.zero_le _, rfl, HO.out, HBW.out⟩
      case round =>
        clear HO HBW x0 x1 x2 c00
        obtain ⟨j, hj, rfl, hown, hbw⟩ := hrel
        have HBW := Lib.hid hbw
        have HO := Lib.hid hown
        obtain ⟨c00, x0, x1, x2⟩ := HC.out _ hbw
        clear hown
        by_cases hjn : j < n
        · have i2 : (j : Int) < (n : Int) := by omega
          by_cases hkj : k = j
          · have t1 : ((k : Int) != (j : Int)) = false := by subst hkj; simp
            have HO2 := Lib.hid (show OwnII wr w.heap.size u5 ((pairsL (edgeP xss) n k ++ wantL (edgeP xss) k (j + 1)).map pairI) from by rw [wantL_no (.inl hkj)]; exact HO.out)
            clear hkj hbw
            go_wp2
            go_roundw
            case rel => exact ⟨j + 1, by omega, by go_num, HO2.out, HBW.out⟩
            case measure => simp [intOf]; omega
          · have t1 : ((k : Int) != (j : Int)) = true := by simp only [bne_iff_ne, ne_eq]; omega
            have HKJ := Lib.hid hkj
            have hux : k < xss.length := by rw [HNX.out]; exact hkn
            obtain ⟨cb, off, ra2, rc2, hae, hb, gr, sr⟩ := (HA.out _ hbw).nthJ hux
            subst hae
            have hrl : xss[k].length = n := by obtain ⟨_, hl, _⟩ := rowB_of HV.out hux; have := HNX.out; omega
            rw [hrl] at gr sr
            have hjr : j < xss[k].length := by rw [hrl]; exact hjn
            obtain ⟨rb2, ro2, rfl, _, gx⟩ := sr.at_ hjr
            have hE := edgeP_at hux hjr
            generalize xss[k][j] = x at gx hE
            have HE := Lib.hid hE
            have i3 : (0 : Int) ≤ (k : Int) := by omega
            have i4 : (0 : Int) ≤ (j : Int) := by omega
            clear sr hrl hjr hb hE
            by_cases hx : 0 < x
            · have HXP := Lib.hid (show edgeP xss k j = true from by rw [HE.out]; exact decide_eq_true hx)
              have hwl := wantL_len (edgeP xss) k j
              have hz := HBW.out.size
              have hpr := OwnI.pairJ wr (base := wr.heap.size) (Nat.le_refl _) k j
              have bP : Below wr.heap.size wr (wr.alloc (.cells #[.int .i64 k, .int .i64 j] 2)) := (Below.refl _ _).alloc (Nat.le_refl _) _
              have BP := Lib.hid bP
              have HZA := Lib.hid (show (wr.alloc (.cells #[.int .i64 k, .int .i64 j] 2)).heap.size = wr.heap.size + 1 by simp)
              have hll : ((pairsL (edgeP xss) n k ++ wantL (edgeP xss) k j).map pairI).length < 16777216 := by rw [List.length_map, List.length_append]; omega
              have ho := HO.out
              clear hkj hbw
              obtain ⟨WP, hWP⟩ : ∃ WP, WP = wr.alloc (.cells #[.int .i64 k, .int .i64 j] 2) := ⟨_, rfl⟩
              rw [← hWP] at hpr bP BP HZA
              have HWP := Lib.hid hWP.symm
              clear hWP
              go_wp2_with (at_builtin; rw [HWP.out]; rw [← HZA.out]; refine append_row wr WP _ _ rfl rfl rfl ho bP hpr rfl hll hz ?_)
              intro v7 w7 o7 b7 z7
              have HB7 := Lib.hid (((HBW.out.trans (BP.out.mono HBW.out.size)).alloc (Nat.le_trans HBW.out.size BP.out.size) (.cells #[.slice (some ⟨wr.heap.size, 0, none⟩) 2 2] 59)).trans b7)
              have HO7 := Lib.hid (show OwnII w7 w.heap.size v7 ((pairsL (edgeP xss) n k ++ wantL (edgeP xss) k (j + 1)).map pairI) from by
                rw [wantL_yes HKJ.out HXP.out]; simpa [pairI, List.map_append, List.append_assoc] using o7)
              clear b7 o7 ho hpr bP
              go_wp2
              go_roundw
              case rel => exact ⟨j + 1, by omega, by go_num, HO7.out, HB7.out⟩
              case measure => simp [intOf]; omega
            · have HO2 := Lib.hid (show OwnII wr w.heap.size u5 ((pairsL (edgeP xss) n k ++ wantL (edgeP xss) k (j + 1)).map pairI) from by rw [wantL_no (.inr (by rw [HE.out]; exact decide_eq_false hx))]; exact HO.out)
              clear hkj hbw
              go_wp2
              go_roundw
              case rel => exact ⟨j + 1, by omega, by go_num, HO2.out, HBW.out⟩
              case measure => simp [intOf]; omega
        · obtain rfl : j = n := by omega
          clear hbw
          go_wp2
          go_roundw
          case rel => exact ⟨k + 1, by omega, by go_num, HO.out, HBW.out⟩
          case measure => simp [intOf]; omega
    · obtain rfl : k = n := by omega
      go_wp2
      go_ret
      exact ⟨_, rfl, hown, hbw⟩

set_option maxRecDepth 100000 in
set_option maxHeartbeats 4000000 in
theorem l06Paths_any {v pv : Value} {xss : List (List Int)} {tt : Int} {PS : List (Nat × Nat)} (b o n : Nat) (w : World) (hc : ChainAt w b o n tt v) (ha : SlII w v xss) (hv : chainOk n tt xss = true) (hcn : connB xss n = true) (hp : SlII w pv (PS.map pairI)) (hm : ∀ p ∈ PS, p.1 < n ∧ p.2 < n) (hl : PS.length ≤ 36) :
    Calls Try.prog 70 #[.pointer (some ⟨b, o, none⟩), pv] w fun e w' => ∃ r, e = .returned r ∧ OwnII w' w.heap.size r (pathsL xss n PS) ∧ Below w.heap.size w w' := by
  have HA := Lib.hid (fun W (h : Below w.heap.size w W) => ha.below h)
  have HC := Lib.hid (fun W (h : Below w.heap.size w W) => hc.below h)
  have HP := Lib.hid (fun W (h : Below w.heap.size w W) => hp.below h)
  have hml : (PS.map pairI).length = PS.length := by simp
  obtain ⟨pa, pc, pus, rfl, _, hpc, _, _, _⟩ := hp
  rw [hml] at HP ⊢
  have HML := Lib.hid hml
  unfold maxLen at hpc
  have HV := Lib.hid hv
  have HCN := Lib.hid hcn
  have HM := Lib.hid hm
  have E0 := Lib.hid (OwnII.empty w (base := w.heap.size) (Nat.le_refl _))
  have B0 := Lib.hid ((Below.refl w.heap.size w).alloc (Nat.le_refl _) (.cells #[] 59))
  clear hv hc ha hcn hm hml
  go_enter Try.func70, Try.ntmps70
  go_wp2
  go_loopw [5, 6] (fun r i wr => ∃ k : Nat, k ≤ PS.length ∧ i = .int .i64 k ∧ OwnII wr w.heap.size r (pathsL xss n (PS.take k)) ∧ Below w.heap.size w wr) (fun _ i _ => PS.length - (intOf i).toNat)
  case atStart => exact ⟨0, Nat.zero_le _, rfl, by simpa [pathsL] using E0.out, B0.out⟩
  case round =>
    clear E0 B0
    obtain ⟨k, hk, rfl, hown, hbw⟩ := hrel
    have HBW := Lib.hid hbw
    have HO := Lib.hid hown
    clear hown
    by_cases hlt : k < PS.length
    · have hkm : k < (PS.map pairI).length := by rw [HML.out]; exact hlt
      obtain ⟨pb, po, ra, rc, rfl, _, gr, sr⟩ := (HP.out _ hbw).nthJ hkm
      rw [List.getElem_map] at gr sr
      obtain ⟨hp1, hp2⟩ := HM.out _ (List.getElem_mem hlt)
      have hst := pathsL_succ (xss := xss) (n := n) hlt
      have hll := pathsL_len xss n (PS.take k)
      generalize PS[k] = p at gr sr hp1 hp2 hst
      obtain ⟨ps, pt⟩ := p
      dsimp only at hp1 hp2 hst
      obtain ⟨rb, ro, rfl, _, g0⟩ := sr.at_ (k := 0) (by simp [pairI])
      obtain ⟨rb', ro', he, _, g1⟩ := sr.at_ (k := 1) (by simp [pairI])
      simp only [Option.some.injEq, Addr.mk.injEq] at he
      obtain ⟨rfl, rfl, _⟩ := he
      simp only [pairI, List.getElem_cons_zero, List.getElem_cons_succ, Nat.add_zero, List.length_cons, List.length_nil, Nat.zero_add] at gr g0 g1
      have i1 : (k : Int) < (PS.length : Int) := by omega
      have i0 : (0 : Int) ≤ (k : Int) := by omega
      have HST := Lib.hid hst
      have CW := Lib.hid (fun W (h : Below wr.heap.size wr W) => show W.cell? ⟨pb, po + k, none⟩ = some (.slice (some ⟨rb, ro, none⟩) 2 rc) ∧ W.cell? ⟨rb, ro, none⟩ = some (.int .i64 ps) ∧ W.cell? ⟨rb, ro + 1, none⟩ = some (.int .i64 pt) from ⟨by rw [h.cell (p := ⟨pb, po + k, none⟩) (cell_lt gr)]; exact gr, by rw [h.cell (p := ⟨rb, ro, none⟩) (cell_lt g0)]; exact g0, by rw [h.cell (p := ⟨rb, ro + 1, none⟩) (cell_lt g1)]; exact g1⟩)
      have hll2 : (PS.take k).length = k := by rw [List.length_take]; omega
      rw [hll2] at hll
      have HLL := Lib.hid hll
      clear hst sr hkm hll hll2
      go_wp2_with fail
      refine wpX_start (fun W => W.cell? ⟨pb, po + k, none⟩ = some (.slice (some ⟨rb, ro, none⟩) 2 rc) ∧ W.cell? ⟨rb, ro, none⟩ = some (.int .i64 ps) ∧ W.cell? ⟨rb, ro + 1, none⟩ = some (.int .i64 pt)) [14, 15, 16, 17] (by kernel_rfl) ?_
      have hC := CW.out wr.drew (Below.refl wr.heap.size wr).drew
      refine wpX_free (i := 0) (v := ?_) rfl (by kernel_rfl) (fun _ _ _ h => h) rfl (fun w' => ?_) ?_
      rotate_left
      · go_simp; try with_reducible rfl
      try simp only [Act.put, List.setIfInBounds_toArray, List.set_cons_zero, List.set_cons_succ]
      refine wpX_free (i := 1) (v := ?_) rfl (by kernel_rfl) (fun _ _ _ h => h) rfl (fun w' => ?_) ?_
      rotate_left
      · go_simp; try with_reducible rfl
      try simp only [Act.put, List.setIfInBounds_toArray, List.set_cons_zero, List.set_cons_succ]
      refine wpX_free (i := 2) (v := ?_) rfl (by kernel_rfl) (fun _ _ _ h => h) rfl (fun w' => ?_) ?_
      rotate_left
      · go_simp; try with_reducible rfl
      try simp only [Act.put, List.setIfInBounds_toArray, List.set_cons_zero, List.set_cons_succ]
      refine wpX_free (i := 3) (v := ?_) rfl (by kernel_rfl) (fun _ _ _ h => h) rfl (fun w' => ?_) ?_
      rotate_left
      · go_simp; try with_reducible rfl
      try simp only [Act.put, List.setIfInBounds_toArray, List.set_cons_zero, List.set_cons_succ]
      refine wpX_free (i := 4) (v := ?_) rfl (by kernel_rfl) (fun _ _ _ h => h) rfl (fun w' => ?_) ?_
      rotate_left
      · go_simp; try with_reducible rfl
      try simp only [Act.put, List.setIfInBounds_toArray, List.set_cons_zero, List.set_cons_succ]
      refine wpX_load (i := 5) (v := ?_) rfl (by kernel_rfl) (fun _ _ _ h => h) hC rfl (fun w' hw' => ?_) ?_
      rotate_left
      · obtain ⟨k1, k2, k3⟩ := hw'; go_simp; try with_reducible rfl
      try simp only [Act.put, List.setIfInBounds_toArray, List.set_cons_zero, List.set_cons_succ]
      refine wpX_free (i := 6) (v := ?_) rfl (by kernel_rfl) (fun _ _ _ h => h) rfl (fun w' => ?_) ?_
      rotate_left
      · go_simp; try with_reducible rfl
      try simp only [Act.put, List.setIfInBounds_toArray, List.set_cons_zero, List.set_cons_succ]
      refine wpX_load (i := 7) (v := ?_) rfl (by kernel_rfl) (fun _ _ _ h => h) hC rfl (fun w' hw' => ?_) ?_
      rotate_left
      · obtain ⟨k1, k2, k3⟩ := hw'; go_simp; try with_reducible rfl
      try simp only [Act.put, List.setIfInBounds_toArray, List.set_cons_zero, List.set_cons_succ]
      refine wpX_free (i := 8) (v := ?_) rfl (by kernel_rfl) (fun _ _ _ h => h) rfl (fun w' => ?_) ?_
      rotate_left
      · go_simp; try with_reducible rfl
      try simp only [Act.put, List.setIfInBounds_toArray, List.set_cons_zero, List.set_cons_succ]
      refine wpX_free (i := 9) (v := ?_) rfl (by kernel_rfl) (fun _ _ _ h => h) rfl (fun w' => ?_) ?_
      rotate_left
      · go_simp; try with_reducible rfl
      try simp only [Act.put, List.setIfInBounds_toArray, List.set_cons_zero, List.set_cons_succ]
      refine wpX_free (i := 10) (v := ?_) rfl (by kernel_rfl) (fun _ _ _ h => h) rfl (fun w' => ?_) ?_
      rotate_left
      · go_simp; try with_reducible rfl
      try simp only [Act.put, List.setIfInBounds_toArray, List.set_cons_zero, List.set_cons_succ]
      refine wpX_load (i := 11) (v := ?_) rfl (by kernel_rfl) (fun _ _ _ h => h) hC rfl (fun w' hw' => ?_) ?_
      rotate_left
      · obtain ⟨k1, k2, k3⟩ := hw'; go_simp; try with_reducible rfl
      try simp only [Act.put, List.setIfInBounds_toArray, List.set_cons_zero, List.set_cons_succ]
      refine wpX_free (i := 12) (v := ?_) rfl (by kernel_rfl) (fun _ _ _ h => h) rfl (fun w' => ?_) ?_
      rotate_left
      · go_simp; try with_reducible rfl
      try simp only [Act.put, List.setIfInBounds_toArray, List.set_cons_zero, List.set_cons_succ]
      refine wpX_load (i := 13) (v := ?_) rfl (by kernel_rfl) (fun _ _ _ h => h) hC rfl (fun w' hw' => ?_) ?_
      rotate_left
      · obtain ⟨k1, k2, k3⟩ := hw'; go_simp; try with_reducible rfl
      try simp only [Act.put, List.setIfInBounds_toArray, List.set_cons_zero, List.set_cons_succ]
      refine wpX_rest (t := [14, 15, 16, 17]) (l := [_, _, _, _]) rfl (by kernel_rfl) (by kernel_rfl) ?_
      clear hC
      simp only [List.getElem_toArray, List.getElem_cons_zero, List.getElem_cons_succ]
      have bq : Below wr.heap.size wr wr.drew := (Below.refl _ _).drew
      generalize wr.drew = wq at bq ⊢
      have HBQ := Lib.hid (HBW.out.trans (bq.mono HBW.out.size))
      have HOQ := Lib.hid (HO.out.below bq)
      clear gr g0 g1 bq hbw HBW HO
      go_wp2_with fail
      refine (l06First_any b o n ps pt _ (HC.out _ HBQ.out) (HA.out _ HBQ.out) HV.out HCN.out hp1 hp2).mono ?_
      rintro e w4 ⟨fv, rfl, o4, b4⟩
      obtain ⟨fa, fc, rfl, _, _, _⟩ := id o4.sl
      have B4 := Lib.hid b4
      have hbb := b4
      have ho := HOQ.out
      have hln : (pathsL xss n (PS.take k)).length < 16777216 := by have := HLL.out; omega
      have hzz := HBQ.out.size
      clear b4
      go_wp2_with (at_builtin; refine append_row wq _ _ _ rfl rfl rfl ho hbb o4 rfl hln hzz ?_)
      intro v7 w7 o7 b7 z7
      have HB7 := Lib.hid (((HBQ.out.trans (B4.out.mono HBQ.out.size)).alloc (Nat.le_trans HBQ.out.size B4.out.size) (.cells #[.slice fa (intsL (firstG (edgeP xss) n ps pt)).length fc] 59)).trans b7)
      rw [← HST.out] at o7
      clear b7 ho o4 hbb
      go_wp2
      go_roundw
      case rel => exact ⟨k + 1, by omega, by go_num, o7, HB7.out⟩
      case measure => simp [intOf]; omega
    · obtain rfl : k = PS.length := by omega
      have ho := HO.out
      rw [List.take_length] at ho
      go_wp2
      go_ret
      exact ⟨_, rfl, ho, hbw⟩

set_option maxRecDepth 100000 in
set_option maxHeartbeats 4000000 in
theorem SpecPathsOf_any {v : Value} {xss : List (List Int)} (n t : Int) (w : World) (ha : SlII w v xss) :
    Calls Try.prog 15 #[.agg #[.int .i64 n, .int .i64 t, v]] w fun e w' => ∃ r, e = .returned (.tuple #[r, .int .i64 (pathsR n t xss).2]) ∧ OwnII w' w.heap.size r (pathsR n t xss).1 ∧ Below w.heap.size w w' := by
  have HA := Lib.hid (fun W (h : Below w.heap.size w W) => ha.below h)
  obtain ⟨a, ca, us, rfl, _, _, _, _, _⟩ := ha
  have BX := Lib.hid (chBelow w n t (.slice a xss.length ca))
  have X := Lib.hid (chBox w n t (.slice a xss.length ca))
  have hpr : pathsR n t xss = if conC n t xss = 0 then (pathsL xss n.toNat (pairsL allQ n.toNat n.toNat), 0) else ([], conC n t xss) := rfl
  generalize hcc : conC n t xss = C at hpr
  have HCC := Lib.hid hcc
  have HPR := Lib.hid hpr
  clear hpr hcc
  go_enter Try.func15, Try.ntmps15
  go_wp2_with fail
  refine (l02Whose_any w.heap.size 0 n t _ X.out (HA.out _ BX.out)).mono ?_
  rintro e w1 ⟨rfl, b1⟩
  rw [HCC.out]
  have B1 := Lib.hid (BX.out.trans (b1.mono BX.out.size))
  have X1 := Lib.hid (X.out.below b1)
  clear b1
  by_cases h0 : C = 0
  · subst h0
    obtain ⟨hok, hcn⟩ := conC_zero HCC.out
    obtain ⟨m, rfl, hm1, hm6⟩ := chain_nat hok
    rw [Int.toNat_natCast] at hcn
    have HOK := Lib.hid hok
    have HCN := Lib.hid hcn
    have HP2 := Lib.hid (show pathsR (m : Int) t xss = (pathsL xss m (pairsL allQ m m), 0) from by rw [HPR.out, Int.toNat_natCast]; rfl)
    have hpl := pairsL_len allQ m m
    have hmm : m * m ≤ 36 := Nat.mul_le_mul hm6 hm6
    clear hok hcn HPR
    go_wp2_with fail
    refine (l06PairsAll_any w.heap.size 0 m w1 X1.out (HA.out _ B1.out) HOK.out).mono ?_
    rintro e w2 ⟨pv, rfl, o2, b2⟩
    have B2 := Lib.hid (B1.out.trans (b2.mono B1.out.size))
    have KP := Lib.hid (l06Paths_any w.heap.size 0 m w2 (X1.out.below b2) (HA.out _ B2.out) HOK.out HCN.out o2.sl (fun p hp => pairsL_mem hp) (by omega))
    clear b2 o2
    go_wp2_with fail
    refine KP.out.mono ?_
    rintro e w3 ⟨rv, rfl, o3, b3⟩
    have B3 := Lib.hid (B2.out.trans (b3.mono B2.out.size))
    have O3 := Lib.hid (o3.lower B2.out.size)
    clear o3 b3 KP
    go_wp2
    go_ret2
    exact ⟨_, by rw [HP2.out]; rfl, by rw [HP2.out]; exact O3.out, B3.out⟩
  · have HP2 := Lib.hid (show pathsR n t xss = ([], C) from by rw [HPR.out, if_neg h0])
    have t1 : (C != 0) = true := by simp only [bne_iff_ne, ne_eq]; exact h0
    have E0 := Lib.hid (OwnII.empty w1 (base := w1.heap.size) (Nat.le_refl _))
    clear h0
    go_wp2
    go_ret2
    exact ⟨_, by rw [HP2.out]; rfl, by rw [HP2.out]; exact E0.out.lower B1.out.size, B1.out.alloc B1.out.size _⟩

set_option maxHeartbeats 2000000 in
theorem l06Both_any {v y : Value} {xss yss : List (List Int)} (b o b2 o2 : Nat) (n t m u : Int) (w : World) (hc : ChainAt w b o n t v) (hd : ChainAt w b2 o2 m u y) (ha : SlII w v xss) (hb : SlII w y yss) :
    Calls Try.prog 78 #[.pointer (some ⟨b, o, none⟩), .pointer (some ⟨b2, o2, none⟩)] w fun e w' => e = .returned (.int .i64 (twoC n t xss m u yss)) ∧ Below w.heap.size w w' := by
  have HA := Lib.hid (fun W (h : Below w.heap.size w W) => ha.below h)
  have HB := Lib.hid (fun W (h : Below w.heap.size w W) => hb.below h)
  have HC := Lib.hid (fun W (h : Below w.heap.size w W) => hc.below h)
  have HD := Lib.hid (fun W (h : Below w.heap.size w W) => hd.below h)
  have hpc : twoC n t xss m u yss = if (chainOk n t xss && chainOk m u yss) = true then (if n = m then (if (connB xss n.toNat && connB yss m.toNat) = true then 0 else 4) else 2) else 1 := rfl
  generalize hok : chainOk n t xss = OK at hpc
  generalize hok2 : chainOk m u yss = OK2 at hpc
  have HOK := Lib.hid hok
  have HOK2 := Lib.hid hok2
  have HPC := Lib.hid hpc
  clear hok hok2 hpc ha hb hc hd
  go_enter Try.func78, Try.ntmps78
  go_wp2_with fail
  refine (l01Ok_any b o n t w (HC.out _ (Below.refl _ _)) (HA.out _ (Below.refl _ _))).mono ?_
  rintro e w1 ⟨rfl, b1⟩
  rw [HOK.out]
  have B1 := Lib.hid b1
  clear b1
  cases OK
  · go_wp2
    go_ret
    exact ⟨ri (by rw [HPC.out]; simp), B1.out⟩
  · skip
    go_wp2_with fail
    refine (l01Ok_any b2 o2 m u _ (HD.out _ B1.out) (HB.out _ B1.out)).mono ?_
    rintro e w2 ⟨rfl, b2'⟩
    rw [HOK2.out]
    have B2 := Lib.hid (B1.out.trans (b2'.mono B1.out.size))
    obtain ⟨c00, x0, x1, x2⟩ := HC.out _ B2.out
    obtain ⟨d00, y0, y1, y2⟩ := HD.out _ B2.out
    have k0 := fun d os => cell_regrown x0 d os
    have k1 := fun d os => cell_regrown y0 d os
    clear b2' x0 x1 x2 y0 y1 y2 c00 d00
    cases OK2
    · go_wp2
      go_ret
      exact ⟨ri (by rw [HPC.out]; simp), B2.out⟩
    · go_wp2_with fail
      refine wp_region_quiet_below (by kernel_rfl) (by kernel_rfl) ?_
      repeat (first | go_big_quiet_skip | quiet_step (fail))
      refine wpQuiet_nil ?_
      intro _ hw'
      obtain ⟨⟨dq, osq⟩, hw''⟩ := hw'
      subst hw''
      have BQ := Lib.hid (B2.out.trans ((below_regrown w2 dq osq).mono B2.out.size))
      generalize grow (redrawn w2 dq) osq = wq at BQ ⊢
      clear k0 k1
      by_cases hnm : n = m
      · subst hnm
        obtain ⟨q, rfl, _, _⟩ := chain_nat HOK.out
        have t1 : ((q : Int) != (q : Int)) = false := by simp
        have hqq : connB xss (q : Int).toNat = connB xss q ∧ connB yss (q : Int).toNat = connB yss q := by rw [Int.toNat_natCast]; exact ⟨rfl, rfl⟩
        have HP2 := Lib.hid (show twoC (q : Int) t xss q u yss = if (connB xss q && connB yss q) = true then 0 else 4 from by rw [HPC.out, hqq.1, hqq.2]; simp)
        generalize hc1 : connB xss q = K1 at HP2
        generalize hc2 : connB yss q = K2 at HP2
        have HC1 := Lib.hid hc1
        have HC2 := Lib.hid hc2
        clear hc1 hc2 hqq
        go_wp2_with fail
        refine (l02Joined_any b o q _ (HC.out _ BQ.out) (HA.out _ BQ.out) HOK.out).mono ?_
        rintro e w3 ⟨rfl, b3⟩
        rw [HC1.out]
        have B3 := Lib.hid (BQ.out.trans (b3.mono BQ.out.size))
        clear b3
        cases K1
        · go_wp2
          go_ret
          exact ⟨ri (by rw [HP2.out]; simp), B3.out⟩
        · skip
          go_wp2_with fail
          refine (l02Joined_any b2 o2 q _ (HD.out _ B3.out) (HB.out _ B3.out) HOK2.out).mono ?_
          rintro e w4 ⟨rfl, b4⟩
          rw [HC2.out]
          have B4 := Lib.hid (B3.out.trans (b4.mono B3.out.size))
          clear b4
          cases K2
          · go_wp2
            go_ret
            exact ⟨ri (by rw [HP2.out]; simp), B4.out⟩
          · go_wp2
            go_ret
            exact ⟨ri (by rw [HP2.out]; simp), B4.out⟩
      · have t1 : (n != m) = true := by simp only [bne_iff_ne, ne_eq]; exact hnm
        have HP2 := Lib.hid (show twoC n t xss m u yss = 2 from by rw [HPC.out]; simp [hnm])
        clear hnm
        go_wp2
        go_ret
        exact ⟨ri HP2.out.symm, BQ.out⟩

set_option maxRecDepth 100000 in
set_option maxHeartbeats 4000000 in
theorem SpecStepPaths_any {v y : Value} {xss yss : List (List Int)} (n t m0 u0 : Int) (w : World) (ha : SlII w v xss) (hb : SlII w y yss) :
    Calls Try.prog 23 #[.agg #[.int .i64 n, .int .i64 t, v], .agg #[.int .i64 m0, .int .i64 u0, y]] w fun e w' => ∃ r, e = .returned (.tuple #[r, .int .i64 (stepsR n t xss m0 u0 yss).2]) ∧ OwnII w' w.heap.size r (stepsR n t xss m0 u0 yss).1 ∧ Below w.heap.size w w' := by
  have HA := Lib.hid (fun W (h : Below w.heap.size w W) => ha.below h)
  have HB := Lib.hid (fun W (h : Below w.heap.size w W) => hb.below h)
  obtain ⟨a, ca, us, rfl, _, _, _, _, _⟩ := ha
  obtain ⟨a2, ca2, us2, rfl, _, _, _, _, _⟩ := hb
  have X := Lib.hid (chBox w n t (.slice a xss.length ca))
  have BX := Lib.hid (chBelow w n t (.slice a xss.length ca))
  have Y := Lib.hid (chBox (w.alloc (chObj n t (.slice a xss.length ca))) m0 u0 (.slice a2 yss.length ca2))
  have BY0 := Lib.hid (chBelow (w.alloc (chObj n t (.slice a xss.length ca))) m0 u0 (.slice a2 yss.length ca2))
  have X2 := Lib.hid (X.out.below BY0.out)
  have BY := Lib.hid (BX.out.trans (BY0.out.mono BX.out.size))
  have hys : (w.alloc (chObj n t (.slice a xss.length ca))).heap.size = w.heap.size + 1 := by simp
  rw [hys] at Y
  obtain ⟨W2, hW2⟩ : ∃ W2, W2 = (w.alloc (chObj n t (.slice a xss.length ca))).alloc (chObj m0 u0 (.slice a2 yss.length ca2)) := ⟨_, rfl⟩
  rw [← hW2] at Y X2 BY
  have HW2 := Lib.hid (show (w.alloc (.cells #[.int .i64 n, .int .i64 t, .slice a xss.length ca] 37)).alloc (.cells #[.int .i64 m0, .int .i64 u0, .slice a2 yss.length ca2] 37) = W2 from hW2.symm)
  clear hW2 hys X BX BY0
  have hpr : stepsR n t xss m0 u0 yss = if twoC n t xss m0 u0 yss = 0 then (pathsL xss n.toNat (pairsL (edgeP yss) n.toNat n.toNat), 0) else ([], twoC n t xss m0 u0 yss) := rfl
  generalize hcc : twoC n t xss m0 u0 yss = C at hpr
  have HCC := Lib.hid hcc
  have HPR := Lib.hid hpr
  clear hpr hcc
  go_enter Try.func23, Try.ntmps23
  go_wp2_with fail
  rw [HW2.out]
  refine (l06Both_any w.heap.size 0 (w.heap.size + 1) 0 n t m0 u0 _ X2.out Y.out (HA.out _ BY.out) (HB.out _ BY.out)).mono ?_
  rintro e w1 ⟨rfl, b1⟩
  rw [HCC.out]
  have B1 := Lib.hid (BY.out.trans (b1.mono BY.out.size))
  have X1 := Lib.hid (X2.out.below b1)
  have Y1 := Lib.hid (Y.out.below b1)
  clear b1
  by_cases h0 : C = 0
  · subst h0
    obtain ⟨hok, hok2, rfl, hcn, _⟩ := twoC_zero HCC.out
    have HOK2 := Lib.hid hok2
    obtain ⟨m, rfl, hm1, hm6⟩ := chain_nat hok
    rw [Int.toNat_natCast] at hcn
    have HOK := Lib.hid hok
    have HCN := Lib.hid hcn
    have HP2 := Lib.hid (show stepsR (m : Int) t xss (m : Int) u0 yss = (pathsL xss m (pairsL (edgeP yss) m m), 0) from by rw [HPR.out, Int.toNat_natCast]; rfl)
    have hpl := pairsL_len (edgeP yss) m m
    have hmm : m * m ≤ 36 := Nat.mul_le_mul hm6 hm6
    clear hok hok2 hcn HPR
    go_wp2_with fail
    refine (l06PairsStep_any (w.heap.size + 1) 0 m w1 Y1.out (HB.out _ B1.out) HOK2.out).mono ?_
    rintro e w2 ⟨pv, rfl, o2, b2⟩
    have B2 := Lib.hid (B1.out.trans (b2.mono B1.out.size))
    have KP := Lib.hid (l06Paths_any w.heap.size 0 m w2 (X1.out.below b2) (HA.out _ B2.out) HOK.out HCN.out o2.sl (fun p hp => pairsL_mem hp) (by omega))
    clear b2 o2
    go_wp2_with fail
    refine KP.out.mono ?_
    rintro e w3 ⟨rv, rfl, o3, b3⟩
    have B3 := Lib.hid (B2.out.trans (b3.mono B2.out.size))
    have O3 := Lib.hid (o3.lower B2.out.size)
    clear o3 b3 KP
    go_wp2
    go_ret2
    exact ⟨_, by rw [HP2.out]; rfl, by rw [HP2.out]; exact O3.out, B3.out⟩
  · have HP2 := Lib.hid (show stepsR n t xss m0 u0 yss = ([], C) from by rw [HPR.out, if_neg h0])
    have t1 : (C != 0) = true := by simp only [bne_iff_ne, ne_eq]; exact h0
    have E0 := Lib.hid (OwnII.empty w1 (base := w1.heap.size) (Nat.le_refl _))
    clear h0
    go_wp2
    go_ret2
    exact ⟨_, by rw [HP2.out]; rfl, by rw [HP2.out]; exact E0.out.lower B1.out.size, B1.out.alloc B1.out.size _⟩
end Go.Proofs.Ytpmabnohdabbdaa
namespace Go.Proofs.Ytpmabnohdabbdaa
open Go.RowKit Go.Sort
theorem sumL_rowsJ {k : Nat} : ∀ {l : List (List Int)}, (∀ x ∈ l, x.length ≤ k) → sumL l ≤ l.length * k
  | [], _ => by simp [sumL]
  | x :: r, h => by
    have e : sumL (x :: r) = x.length + sumL r := by simp [sumL]
    have h1 := sumL_rowsJ (l := r) (fun y hy => h y (by simp [hy]))
    have h2 := h x (by simp)
    rw [e, List.length_cons, Nat.add_mul]
    omega
theorem pathsL_sum {xss : List (List Int)} {n : Nat} {q : Nat → Nat → Bool} (hn : n ≤ 6) (hc : connB xss n = true) : sumL (pathsL xss n (pairsL q n n)) ≤ 2000 := by
  have h1 := pairsL_len q n n
  have h2 : n * n ≤ 36 := Nat.mul_le_mul hn hn
  have h3 : sumL (pathsL xss n (pairsL q n n)) ≤ (pathsL xss n (pairsL q n n)).length * 6 := sumL_rowsJ (fun x hx => by
    unfold pathsL at hx
    rw [List.mem_map] at hx
    obtain ⟨p, hp, rfl⟩ := hx
    obtain ⟨p1, p2⟩ := pairsL_mem hp
    rw [intsL_len]
    unfold firstG
    rw [gPath_len]
    have := f_lt (far_exists p2 (conn_back hc p2)) p1
    omega)
  rw [pathsL_len] at h3
  omega
theorem pathsR_len (n t : Int) (xss : List (List Int)) : sumL (pathsR n t xss).1 ≤ 2000 := by
  unfold pathsR
  by_cases h : conC n t xss = 0
  · rw [if_pos h]
    obtain ⟨h1, h2⟩ := conC_zero h
    obtain ⟨m, rfl, _, h6⟩ := chain_nat h1
    rw [Int.toNat_natCast] at h2 ⊢
    exact pathsL_sum h6 h2
  · rw [if_neg h]; simp [sumL]
theorem stepsR_len (n t : Int) (xss : List (List Int)) (m u : Int) (yss : List (List Int)) : sumL (stepsR n t xss m u yss).1 ≤ 2000 := by
  unfold stepsR
  by_cases h : twoC n t xss m u yss = 0
  · rw [if_pos h]
    obtain ⟨h1, _, _, h2, _⟩ := twoC_zero h
    obtain ⟨m, rfl, _, h6⟩ := chain_nat h1
    rw [Int.toNat_natCast] at h2 ⊢
    exact pathsL_sum h6 h2
  · rw [if_neg h]; simp [sumL]
def FreshPC (w : World) (R : List (List Int) × Int) (e : Ending) (w' : World) : Prop := ∃ v, e = .returned (tupVC v R.2) ∧ OwnII w' w.heap.size v R.1 ∧ Below w.heap.size w w'

theorem SpecPathsOf_f {v : Value} {xss : List (List Int)} (n t : Int) (w : World) (ha : SlII w v xss) : Calls Try.prog 15 #[.agg #[.int .i64 n, .int .i64 t, v]] w (FreshPC w (pathsR n t xss)) := SpecPathsOf_any n t w ha
theorem ImplPathsOf_f {v : Value} {xss : List (List Int)} (n t : Int) (w : World) (ha : SlII w v xss) : Calls Try.prog 17 #[.agg #[.int .i64 n, .int .i64 t, v]] w (FreshPC w (pathsR n t xss)) := ImplPathsOf_any n t w ha

theorem SpecStepPaths_f {v y : Value} {xss yss : List (List Int)} (n t m u : Int) (w : World) (ha : SlII w v xss) (hb : SlII w y yss) : Calls Try.prog 23 #[.agg #[.int .i64 n, .int .i64 t, v], .agg #[.int .i64 m, .int .i64 u, y]] w (FreshPC w (stepsR n t xss m u yss)) := SpecStepPaths_any n t m u w ha hb
theorem ImplStepPaths_f {v y : Value} {xss yss : List (List Int)} (n t m u : Int) (w : World) (ha : SlII w v xss) (hb : SlII w y yss) : Calls Try.prog 24 #[.agg #[.int .i64 n, .int .i64 t, v], .agg #[.int .i64 m, .int .i64 u, y]] w (FreshPC w (stepsR n t xss m u yss)) := ImplStepPaths_any n t m u w ha hb
end Go.Proofs.Ytpmabnohdabbdaa
namespace Go.Proofs.Ytpmabnohdabbdaa
open Go.RowKit Go.Sort
set_option linter.unusedVariables false
set_option maxRecDepth 100000 in
set_option maxHeartbeats 4000000 in
theorem FnExactPathsOf_walk {u0 : Value} {xss0 : List (List Int)} (s0 t0 : Int) (w : World) (ha0 : SlII w u0 xss0):
    Calls Try.prog 4 #[.agg #[.int .i64 s0, .int .i64 t0, u0]] w fun e w' => e = .returned (.bool true) ∧ Below w.heap.size w w' := by
  obtain ⟨pa0, pc0, pu0, rfl, _⟩ := id ha0
  have hb0 : Below w.heap.size w (w.alloc (argCh s0 t0 (.slice pa0 xss0.length pc0))) := ((Below.refl w.heap.size w).alloc (by simp) (argCh s0 t0 (.slice pa0 xss0.length pc0)))
  have A0 := Lib.hid (argChBox w s0 t0 (.slice pa0 xss0.length pc0))
  have H0 := Lib.hid (fun W (h : Below w.heap.size w W) => ha0.below h)
  clear ha0
  have hr0 := szII_range 1048576 xss0 (by omega)
  generalize hz0 : szII 1048576 xss0 = l0 at hr0
  have HZ0 := Lib.hid hz0
  clear hz0
  go_enter Try.func4, Try.ntmps4
  obtain ⟨_, q00, q01, q02⟩ := A0.out
  simp only [Nat.zero_add] at q00 q01 q02
  go_wp2_with fail
  refine (szChain_any s0 t0 1048576 _ (H0.out _ hb0) (by omega) (by omega)).mono ?_
  rintro e w1 ⟨rfl, b1⟩
  rw [HZ0.out]
  have hb1 := hb0.trans (b1.mono hb0.size)
  have A0_1 := Lib.hid (A0.out.below b1)
  clear b1 A0 q00 q01 q02
  by_cases hl0 : l0 < 0
  · go_wp2
    go_ret
    exact ⟨rfl, hb1⟩
  obtain ⟨hxl0, hxr0⟩ := szII_ok HZ0.out hl0
  have HXR0 := Lib.hid hxr0
  clear hxr0
  have HSUM0 := Lib.hid (szII_sum HZ0.out hl0 (by omega))
  generalize hR : pathsR s0 t0 xss0 = R
  have hlen := pathsR_len s0 t0 xss0
  rw [hR] at hlen
  have HR := Lib.hid hR
  clear hR
  obtain ⟨r0, r1⟩ := R
  have hlen : sumL r0 ≤ 2000 := hlen
  have HLEN := Lib.hid hlen
  obtain ⟨_, q00, q01, q02⟩ := A0_1.out
  simp only [Nat.zero_add] at q00 q01 q02
  go_wp2_with fail
  refine (toChain_any s0 t0 _ (H0.out _ hb1) hxl0 HXR0.out).mono ?_
  rintro e w2 ⟨vs0, rfl, os0, b2⟩
  have Z2 := Lib.hid b2.size
  have hb2 := hb1.trans (b2.mono hb1.size)
  have A0_2 := Lib.hid (A0_1.out.below b2)
  clear b2 A0_1 q00 q01 q02
  obtain ⟨ys0a, ys0c, ys0u, rfl, _⟩ := id os0.sl
  have Os0 := Lib.hid os0
  clear os0
  go_wp2_with fail
  refine (SpecPathsOf_f s0 t0 _ Os0.out.sl).mono ?_
  rintro e w3 ⟨vw0, rfl, ow0, b3⟩
  have Z3 := Lib.hid b3.size
  rw [HR.out] at ow0 ⊢
  have hb3 := hb2.trans (b3.mono hb2.size)
  have A0_3 := Lib.hid (A0_2.out.below b3)
  have Os0_3 := Lib.hid (Os0.out.below b3)
  clear b3 A0_2 Os0 
  have ow0 : OwnII _ _ _ r0 := ow0
  have ow0 := OwnII.b ow0
  obtain ⟨zw0a, zw0c, _, rfl, _⟩ := id ow0.sl
  unfold tupVC
  have W0 := Lib.hid ow0
  clear ow0
  clear Os0_3
  have hd0 := Below.refl w3.heap.size w3
  have HDB := Lib.hid hb3
  have HwD : Hid (w.heap.size ≤ w3.heap.size) := hb3.size
  have DA0 := Lib.hid (fun W (h : Below w3.heap.size w3 W) => A0_3.out.below h)
  have DW0 := Lib.hid (fun W (h : Below w3.heap.size w3 W) => W0.out.below h)
  obtain ⟨_, q00, q01, q02⟩ := A0_3.out
  simp only [Nat.zero_add] at q00 q01 q02
  go_wp2_with fail
  refine (toChain_any s0 t0 _ (H0.out _ hb3) hxl0 HXR0.out).mono ?_
  rintro e w4 ⟨vx0, rfl, ox0, b4⟩
  have Z4 := Lib.hid b4.size
  have hb4 := hb3.trans (b4.mono hb3.size)
  have hd4 := hd0.trans (b4.mono hd0.size)
  have A0_4 := Lib.hid (A0_3.out.below b4)
  have W0_4 := Lib.hid (W0.out.below b4)
  clear b4 A0_3 W0 q00 q01 q02 hd0
  obtain ⟨yx0a, yx0c, yx0u, rfl, _⟩ := id ox0.sl
  have Ox0 := Lib.hid ox0.b
  clear ox0
  have bqx0 : Below w4.heap.size w4 (w4.alloc (chObj s0 t0 (.slice yx0a xss0.length yx0c))) := (Below.refl _ _).alloc (Nat.le_refl _) _
  have ZAx0 := Lib.hid (show (w4.alloc (chObj s0 t0 (.slice yx0a xss0.length yx0c))).heap.size = w4.heap.size + 1 from by simp)
  have A0_x0 := Lib.hid (A0_4.out.below bqx0)
  have W0_x0 := Lib.hid (W0_4.out.below bqx0)
  have Ox0_x0 := Lib.hid (Ox0.out.below bqx0)
  have hbqx0 := hb4.trans (bqx0.mono hb4.size)
  have hdqx0 := hd4.trans (bqx0.mono hd4.size)
  clear bqx0 A0_4 W0_4 Ox0 hd4
  have X0 := Lib.hid (chBox w4 s0 t0 (.slice yx0a xss0.length yx0c))
  obtain ⟨_, x00, x01, x02⟩ := X0.out
  simp only [Nat.zero_add] at x00 x01 x02
  obtain ⟨NB, hNB⟩ : ∃ n, n = (w4.alloc (chObj s0 t0 (.slice yx0a xss0.length yx0c))).heap.size := ⟨_, rfl⟩
  have HNB := Lib.hid hNB
  clear hNB
  go_wp2_with fail
  refine (ImplPathsOf_f s0 t0 _ Ox0_x0.out.sl).mono ?_
  rintro e w5 ⟨vg0, rfl, og0, b5⟩
  have Z5 := Lib.hid b5.size
  rw [HR.out] at og0 ⊢
  have hb5 := hbqx0.trans (b5.mono hbqx0.size)
  have hd5 := hdqx0.trans (b5.mono hdqx0.size)
  have A0_5 := Lib.hid (A0_x0.out.below b5)
  have W0_5 := Lib.hid (W0_x0.out.below b5)
  have Ox0_5 := Lib.hid (Ox0_x0.out.below b5)
  have X0_5 := Lib.hid (X0.out.below b5)
  clear b5 A0_x0 W0_x0 Ox0_x0 X0 x00 x01 x02 hdqx0
  have og0 : OwnII _ _ _ r0 := og0
  have og0 := OwnII.b og0
  obtain ⟨zg0a, zg0c, _, rfl, _⟩ := id og0.sl
  unfold tupVC
  rw [← HNB.out] at og0
  have HGS : Hid (∀ k, (fun k => NB ≤ k ∧ k < w5.heap.size) k → NB ≤ k ∧ k < w5.heap.size) := fun k hk => hk
  have G0 := Lib.hid og0
  clear og0
  go_wp2_with fail
  refine (eqInt64SS_refl _ G0.out.sl W0_5.out.sl).mono ?_
  rintro e w6 ⟨rfl, b6⟩
  have Z6 := Lib.hid b6.size
  have hb6 := hb5.trans (b6.mono hb5.size)
  have hd6 := hd5.trans (b6.mono hd5.size)
  have A0_6 := Lib.hid (A0_5.out.below b6)
  have W0_6 := Lib.hid (W0_5.out.below b6)
  have Ox0_6 := Lib.hid (Ox0_5.out.below b6)
  have X0_6 := Lib.hid (X0_5.out.below b6)
  have G0_6 := Lib.hid (G0.out.below b6)
  clear b6 A0_5 W0_5 Ox0_5 X0_5 G0  hd5
  have hr_1 : (r1 != r1) = false := by simp
  go_upto_region 10 with (fail)
  go_cut [45] (fun sz wx => sz = .bool false ∧ Below w6.heap.size w6 wx)
  case first =>
    have hbz := (Below.refl w6.heap.size w6).drew
    obtain ⟨_, x0, x1, x2⟩ := X0_6.out
    obtain ⟨_, q0, q1, q2⟩ := A0_6.out
    simp only [Nat.zero_add] at x0 x1 x2 q0 q1 q2
    go_region_with (first
      | (go_at_call 16; (with_reducible refine (toChain_any s0 t0 _ (H0.out _ (hb6.trans (hbz.mono hb6.size))) hxl0 HXR0.out).mono ?_); rintro e w' ⟨vx, rfl, hv, b⟩; have sx := hv.sl; have hbz := hbz.trans (b.mono hbz.size); clear hv; obtain ⟨_, r0, r1, r2⟩ := X0_6.out.below hbz; simp only [Nat.zero_add] at r0 r1 r2)
      | (go_at_call 19; (with_reducible refine (eqChain_refl s0 t0 _ (Ox0_6.out.below hbz).sl sx).mono ?_); rintro e w' ⟨rfl, b⟩; have hbz := hbz.trans (b.mono hbz.size)))
    all_goals (go_wp2_with fail; go_meet; exact ⟨rfl, hbz⟩)
  case rest =>
    obtain ⟨rfl, hbc⟩ := hcut
    rename_i w7
    have hb7 := hb6.trans (hbc.mono hb6.size)
    have hd7 := hd6.trans (hbc.mono hd6.size)
    have A0_7 := Lib.hid (A0_6.out.below hbc)
    have W0_7 := Lib.hid (W0_6.out.below hbc)
    have Ox0_7 := Lib.hid (Ox0_6.out.below hbc)
    have X0_7 := Lib.hid (X0_6.out.below hbc)
    have G0_7 := Lib.hid (G0_6.out.below hbc)
    clear hbc A0_6 W0_6 Ox0_6 X0_6 G0_6  hd6
    obtain ⟨_, x00, x01, x02⟩ := X0_7.out
    simp only [Nat.zero_add] at x00 x01 x02
    go_wp2_with fail
    refine (markChain_any s0 t0 1 w3.heap.size w4.heap.size _ (by omega) (by have := HSUM0.out; omega) Ox0_7.out).mono ?_
    rintro e w8 ⟨rfl, b8⟩
    have Z8 := Lib.hid b8.size
    have fx0 := Fs.of_mid b8
    have hd8 := hd7.trans ((fx0.below (B := w3.heap.size) (by have := Z2.out; have := Z3.out; have := Z4.out; have := ZAx0.out; have := HNB.out; have := Z5.out; have := Z6.out; have := Z8.out; omega) (fun k hk => by have := hk.1; have := Z2.out; have := Z3.out; have := Z4.out; have := ZAx0.out; have := HNB.out; have := Z5.out; have := Z6.out; have := Z8.out; omega)))
    have A0_8 := Lib.hid (DA0.out _ hd8)
    have W0_8 := Lib.hid (DW0.out _ hd8)
    have G0_8 := Lib.hid (OwnIIB.fs (G0_7.out) fx0 (fun k hk => by have := hk.2; have := Z2.out; have := Z3.out; have := Z4.out; have := ZAx0.out; have := HNB.out; have := Z5.out; have := Z6.out; have := Z8.out; omega))
    have hb8 := HDB.out.trans (hd8.mono HwD.out)
    clear b8 fx0 hb7 hd7 A0_7 W0_7 Ox0_7 X0_7 G0_7 x00 x01 x02
    have hkn : ¬ (1 + sumL xss0) < 0 := by omega
    go_wp2_with fail
    refine (eqInt64SS_refl _ G0_8.out.sl W0_8.out.sl).mono ?_
    rintro e w9 ⟨rfl, b9⟩
    have Z9 := Lib.hid b9.size
    have hb9 := hb8.trans (b9.mono hb8.size)
    have hd9 := hd8.trans (b9.mono hd8.size)
    have A0_9 := Lib.hid (A0_8.out.below b9)
    have W0_9 := Lib.hid (W0_8.out.below b9)
    have G0_9 := Lib.hid (G0_8.out.below b9)
    clear b9 A0_8 W0_8 G0_8  hd8
    go_wp2_with fail
    refine (markInt64SS_held 1 NB _ _ (by omega) (by have := HLEN.out; omega) G0_9.out).mono ?_
    rintro e w10 ⟨rfl, og1, b10⟩
    have Z10 := Lib.hid b10.size
    have fg : Fs (fun k => NB ≤ k ∧ k < w5.heap.size) _ _ := Fs.of_mid b10
    have hd10 := hd9.trans (fg.below (B := w3.heap.size) (by have := Z2.out; have := Z3.out; have := Z4.out; have := ZAx0.out; have := HNB.out; have := Z5.out; have := Z6.out; have := Z8.out; have := Z9.out; have := Z10.out; omega) (fun k hk => by have := (HGS.out k hk).1; have := Z2.out; have := Z3.out; have := Z4.out; have := ZAx0.out; have := HNB.out; have := Z5.out; have := Z6.out; have := Z8.out; have := Z9.out; have := Z10.out; omega))
    have A0_10 := Lib.hid (DA0.out _ hd10)
    have W0_10 := Lib.hid (DW0.out _ hd10)
    have hb10 := HDB.out.trans (hd10.mono HwD.out)
    clear b10 fg hb9 hd9 A0_9 W0_9 G0_9 
    have G1 := Lib.hid og1
    clear og1
    have hq0 : ¬ (1 + (sumL r0 : Int) : Int) < 0 := by omega
    have hq1 : ((1 + (sumL r0 : Int) : Int) != (1 + (sumL r0 : Int))) = false := by simp
    go_wp2_with fail
    refine (heldInt64SS_any 1 _ (by omega) (by have := HLEN.out; omega) G1.out.sl).mono ?_
    rintro e w11 ⟨rfl, b11⟩
    have Z11 := Lib.hid b11.size
    have hb11 := hb10.trans (b11.mono hb10.size)
    have hd11 := hd10.trans (b11.mono hd10.size)
    have A0_11 := Lib.hid (A0_10.out.below b11)
    have W0_11 := Lib.hid (W0_10.out.below b11)
    have G1_11 := Lib.hid (G1.out.below b11)
    clear b11 A0_10 W0_10 G1  hd10
    obtain ⟨_, q00, q01, q02⟩ := A0_11.out
    simp only [Nat.zero_add] at q00 q01 q02
    go_wp2_with fail
    refine (toChain_any s0 t0 _ (H0.out _ hb11) hxl0 HXR0.out).mono ?_
    rintro e w12 ⟨vy0, rfl, oy0, b12⟩
    have Z12 := Lib.hid b12.size
    have hb12 := hb11.trans (b12.mono hb11.size)
    have hd12 := hd11.trans (b12.mono hd11.size)
    have A0_12 := Lib.hid (A0_11.out.below b12)
    have W0_12 := Lib.hid (W0_11.out.below b12)
    have G1_12 := Lib.hid (G1_11.out.below b12)
    clear b12 A0_11 W0_11 G1_11 q00 q01 q02 hd11
    obtain ⟨yy0a, yy0c, yy0u, rfl, _⟩ := id oy0.sl
    have Oy0 := Lib.hid oy0
    clear oy0
    go_wp2_with fail
    refine (ImplPathsOf_f s0 t0 _ Oy0.out.sl).mono ?_
    rintro e w13 ⟨vh0, rfl, oh0, b13⟩
    have Z13 := Lib.hid b13.size
    rw [HR.out] at oh0 ⊢
    have hb13 := hb12.trans (b13.mono hb12.size)
    have hd13 := hd12.trans (b13.mono hd12.size)
    have A0_13 := Lib.hid (A0_12.out.below b13)
    have W0_13 := Lib.hid (W0_12.out.below b13)
    have G1_13 := Lib.hid (G1_12.out.below b13)
    have Oy0_13 := Lib.hid (Oy0.out.below b13)
    clear b13 A0_12 W0_12 G1_12 Oy0  hd12
    have oh0 : OwnII _ _ _ r0 := oh0
    have oh0 := OwnII.b oh0
    obtain ⟨zh0a, zh0c, _, rfl, _⟩ := id oh0.sl
    unfold tupVC
    have HH := Lib.hid oh0
    clear oh0
    go_wp2_with fail
    refine (eqInt64SS_refl _ HH.out.sl W0_13.out.sl).mono ?_
    rintro e w14 ⟨rfl, b14⟩
    have Z14 := Lib.hid b14.size
    have hb14 := hb13.trans (b14.mono hb13.size)
    have hd14 := hd13.trans (b14.mono hd13.size)
    have A0_14 := Lib.hid (A0_13.out.below b14)
    have W0_14 := Lib.hid (W0_13.out.below b14)
    have G1_14 := Lib.hid (G1_13.out.below b14)
    have Oy0_14 := Lib.hid (Oy0_13.out.below b14)
    have HH_14 := Lib.hid (HH.out.below b14)
    clear b14 A0_13 W0_13 G1_13 Oy0_13 HH  hd13
    go_wp2_with fail
    refine (heldInt64SS_any 1 _ (by omega) (by have := HLEN.out; omega) G1_14.out.sl).mono ?_
    rintro e w15 ⟨rfl, b15⟩
    have Z15 := Lib.hid b15.size
    have hb15 := hb14.trans (b15.mono hb14.size)
    have hd15 := hd14.trans (b15.mono hd14.size)
    have A0_15 := Lib.hid (A0_14.out.below b15)
    have W0_15 := Lib.hid (W0_14.out.below b15)
    have G1_15 := Lib.hid (G1_14.out.below b15)
    have Oy0_15 := Lib.hid (Oy0_14.out.below b15)
    have HH_15 := Lib.hid (HH_14.out.below b15)
    clear b15 A0_14 W0_14 G1_14 Oy0_14 HH_14  hd14
    go_wp2
    go_ret
    exact ⟨rfl, hb15⟩
end Go.Proofs.Ytpmabnohdabbdaa
