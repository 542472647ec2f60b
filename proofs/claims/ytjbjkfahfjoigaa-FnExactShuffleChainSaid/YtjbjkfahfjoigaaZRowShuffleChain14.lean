/-
  The ways of a shuffle: the reference's lists of orders. With it: Shuffles of a deck: the program's exchange and riffle. Shuffles as orders: the reference's exchange and riffle.
-/
import Derived.Test.YtjbjkfahfjoigaaZRowShuffleChain5
import Derived.Test.YtjbjkfahfjoigaaZRowShuffleChain7
import Derived.Test.YtjbjkfahfjoigaaZRowShuffleChain8
import Derived.Test.YtjbjkfahfjoigaaZRowShuffleChain6
import Derived.Laws.Bits64
import Derived.RegionTactic
import Derived.BigRegion
import Derived.Test.YtjbjkfahfjoigaaZRowShuffleChain4
set_option linter.unusedVariables false
set_option linter.unusedSimpArgs false
namespace Go.Proofs.Ytjbjkfahfjoigaa
open Go.RowKit Go.Sort

set_option maxRecDepth 100000 in
set_option maxHeartbeats 4000000 in
theorem exchanged_any {u : Value} {xs : List Int} (i k : Nat) (w : World) (ha : SlI w u xs) (hi : i < xs.length) (hk : k < xs.length) (hl : xs.length ≤ 1000) :
    Calls Try.prog 47 #[u, .int .i64 i, .int .i64 k] w fun e w' => ∃ r, e = .returned r ∧ OwnI w' w.heap.size r (swapL xs i k) ∧ Below w.heap.size w w' := by
  have HA := Lib.hid (Clone_any w ha (by omega))
  go_enter Try.func47, Try.ntmps47
  go_wp2_with fail
  refine HA.out.mono ?_
  rintro e w1 ⟨v, rfl, o1, b1⟩
  rcases o1.forms with ⟨_, h4⟩ | ⟨g, c, rfl, h4⟩
  · rw [h4] at hi; simp at hi
  · have B1 := Lib.hid b1
    have O1 := Lib.hid o1
    have hg := o1.lt g rfl
    have gi := OwnI.cell o1 hi
    have gk := OwnI.cell o1 hk
    have fi := o1.free i
    have fk := o1.free k
    have e1 : xs[i] = xs.getD i 0 := (gD_at hi).symm
    have e2 : xs[k] = xs.getD k 0 := (gD_at hk).symm
    rw [e1] at gi
    rw [e2] at gk
    have OS := Lib.hid ((o1.set i (xs.getD k 0)).set k (xs.getD i 0))
    have HSW := Lib.hid (show (xs.set i (xs.getD k 0)).set k (xs.getD i 0) = swapL xs i k from rfl)
    generalize xs.getD i 0 = X at gi OS HSW
    generalize xs.getD k 0 = Y at gk OS HSW
    have BS := Lib.hid ((b1.setCell (p := ⟨g, i, none⟩) hg.1 (.int .i64 Y)).setCell (p := ⟨g, k, none⟩) hg.1 (.int .i64 X))
    have i0 : (0 : Int) ≤ (i : Int) := by omega
    have i1 : (i : Int) < (xs.length : Int) := by omega
    have i2 : (0 : Int) ≤ (k : Int) := by omega
    have i3 : (k : Int) < (xs.length : Int) := by omega
    clear b1 o1 h4 e1 e2 hg ha
    by_cases hik : i = k
    · subst hik
      rw [gi] at gk
      simp only [Option.some.injEq, Value.int.injEq, true_and] at gk
      subst gk
      go_wp2_with fail
      go_region
      go_wp2
      go_ret
      exact ⟨_, rfl, by rw [← HSW.out]; exact OS.out.below (Below.drew (Below.refl _ _)), Below.drew BS.out⟩
    · have n1 : ¬ k = i := fun e => hik e.symm
      go_wp2_with fail
      go_region
      go_wp2
      go_ret
      exact ⟨_, rfl, by rw [← HSW.out]; exact OS.out.below (Below.drew (Below.refl _ _)), Below.drew BS.out⟩

set_option maxRecDepth 100000 in
set_option maxHeartbeats 4000000 in
theorem riffled_any {u : Value} {xs : List Int} (b : Nat) (w : World) (ha : SlI w u xs) (hb : b < 2 ^ 29) (hl : xs.length ≤ 20) :
    Calls Try.prog 49 #[u, .int .i64 b] w fun e w' => ∃ r, e = .returned r ∧ OwnI w' w.heap.size r (rifD xs b) ∧ Below w.heap.size w w' := by
  have HA := Lib.hid (fun W (h : Below w.heap.size w W) => ha.below h)
  obtain ⟨a, ca, rfl, _, _, _⟩ := ha
  have HB := Lib.hid hb
  have hbit := fun k => bitN_lt b k
  go_enter Try.func49, Try.ntmps49
  go_wp2
  go_loopw [5, 13] (fun ov i wr => ∃ k : Nat, k ≤ xs.length ∧ i = .int .i64 k ∧ ov = .int .i64 (onesN b k : Nat) ∧ wr = w) (fun _ i _ => xs.length - (intOf i).toNat)
  case atStart => exact ⟨0, Nat.zero_le _, rfl, rfl, rfl⟩
  case round =>
    obtain ⟨k, hk, rfl, rfl, rfl⟩ := hrel
    have hzo := zo_sum b k
    by_cases hlt : k < xs.length
    · have i1 : (k : Int) < (xs.length : Int) := by omega
      have i0 : (0 : Int) ≤ (k : Int) := by omega
      obtain ⟨S, hS⟩ : ∃ S, S = b / 2 ^ k := ⟨_, rfl⟩
      have hSx : S ≤ b := by rw [hS]; exact Nat.div_le_self _ _
      have sh1 : (b : Int) / 2 ^ min k 64 = (S : Int) := by rw [shr_nat b k (by omega), hS]
      have sh2 : (b : Int) / 2 ^ k = (S : Int) := by rw [hS]; simp
      obtain ⟨T, hT⟩ : ∃ T, T = S % 2 := ⟨_, rfl⟩
      have an : bits .and .i64 (S : Int) 1 = (T : Int) := by rw [and_one S (by omega), hT]
      have hTT : bitN b k = T := by rw [hT, hS]; rfl
      have HS := Lib.hid (show onesN b (k + 1) = onesN b k + T from by rw [← hTT]; rfl)
      have hT2 : T < 2 := by omega
      generalize onesN b k = N at HS hzo
      have r1 : IntKind.i64.wrap ((N : Int) + (T : Int)) = (N : Int) + (T : Int) := IntWalk.i64_in _ (by omega)
      clear hS hT hTT hbit
      go_wp2
      go_roundw
      case rel => exact ⟨k + 1, by omega, by go_num, by rw [HS.out]; simp, trivial⟩
      case measure => simp [intOf]; omega
    · obtain rfl : k = xs.length := by omega
      have HR := Lib.hid (show rifD xs b = rifG (deckF xs) b (xs.length - onesN b xs.length) xs.length from rfl)
      have HMO := Lib.hid (fun k (h : k ≤ xs.length) => onesN_mono b h)
      have HZO := Lib.hid (zo_sum b)
      generalize onesN b xs.length = ON at HR hzo HMO
      have r1 : IntKind.i64.wrap ((xs.length : Int) - (ON : Int)) = ((xs.length - ON : Nat) : Int) := by rw [IntWalk.i64_in _ (by omega)]; omega
      have r2 : (xs.length : Int) - (ON : Int) = ((xs.length - ON : Nat) : Int) := by omega
      have E0 := Lib.hid (OwnI.empty wr (base := wr.heap.size) (Nat.le_refl _))
      have B0 := Lib.hid ((Below.refl wr.heap.size wr).alloc (Nat.le_refl _) (.cells #[] 2))
      have hON : ON ≤ xs.length := by omega
      generalize hH0 : xs.length - ON = H0 at r1 r2 HR
      have HH0 := Lib.hid hH0
      clear hlt hbit hH0
      obtain ⟨wo, hwo⟩ : ∃ wo : World, wo = wr := ⟨_, rfl⟩
      subst hwo
      go_wp2
      go_loopw [7, 8, 9, 30] (fun ov lv hv i wr => ∃ k : Nat, k ≤ xs.length ∧ i = .int .i64 k ∧ lv = .int .i64 (zerosN b k : Nat) ∧ hv = .int .i64 ((H0 : Int) + (onesN b k : Nat)) ∧ OwnI wr wo.heap.size ov (rifG (deckF xs) b H0 k) ∧ Below wo.heap.size wo wr) (fun _ _ _ i _ => xs.length - (intOf i).toNat)
      case atStart => exact ⟨0, Nat.zero_le _, rfl, rfl, by simp [onesN], E0.out, B0.out⟩
      case round =>
        clear E0 B0 r1 r2
        obtain ⟨k, hk, rfl, rfl, rfl, hown, hbw⟩ := hrel
        have hzo := HZO.out k
        have hrl := rifG_len (deckF xs) b H0 k
        by_cases hlt : k < xs.length
        · have i1 : (k : Int) < (xs.length : Int) := by omega
          have i0 : (0 : Int) ≤ (k : Int) := by omega
          have hmo := HMO.out (k + 1) (by omega)
          obtain ⟨S, hS⟩ : ∃ S, S = b / 2 ^ k := ⟨_, rfl⟩
          have hSx : S ≤ b := by rw [hS]; exact Nat.div_le_self _ _
          have sh1 : (b : Int) / 2 ^ min k 64 = (S : Int) := by rw [shr_nat b k (by omega), hS]
          have sh2 : (b : Int) / 2 ^ k = (S : Int) := by rw [hS]; simp
          obtain ⟨T, hT⟩ : ∃ T, T = S % 2 := ⟨_, rfl⟩
          have an : bits .and .i64 (S : Int) 1 = (T : Int) := by rw [and_one S (by omega), hT]
          have hTT : bitN b k = T := by rw [hT, hS]; rfl
          have HS1 := Lib.hid (show onesN b (k + 1) = onesN b k + T from by rw [← hTT]; rfl)
          have HS0 := Lib.hid (show zerosN b (k + 1) = zerosN b k + (1 - T) from by rw [← hTT]; rfl)
          have HG := Lib.hid (show rifG (deckF xs) b H0 (k + 1) = rifG (deckF xs) b H0 k ++ [if T = 0 then deckF xs (zerosN b k) else deckF xs (H0 + onesN b k)] from by rw [← hTT]; rfl)
          have hT2 : T < 2 := by omega
          rw [show onesN b (k + 1) = onesN b k + T from HS1.out] at hmo
          have hh0 := HH0.out
          generalize onesN b k = N1 at HS1 HG hzo hmo
          generalize zerosN b k = N0 at HS0 HG hzo
          have hln : (rifG (deckF xs) b H0 k).length < 16777216 := by omega
          have HO := Lib.hid hown
          have HBW := Lib.hid hbw
          have hsz := hbw.size
          have hxa := HA.out _ hbw
          clear hS hT hTT hown hrl
          by_cases ht : T = 0
          · have tt : ((T : Int) == 0) = true := by rw [ht]; rfl
            have hj : N0 < xs.length := by omega
            obtain ⟨ab, ao, rfl, _, gc⟩ := hxa.at_ hj
            have e1 : xs[N0] = deckF xs N0 := (gD_at hj).symm
            rw [e1] at gc
            have HG2 := Lib.hid (show rifG (deckF xs) b H0 (k + 1) = rifG (deckF xs) b H0 k ++ [deckF xs N0] from by rw [HG.out, if_pos ht])
            have HS2 := Lib.hid (show onesN b (k + 1) = N1 ∧ zerosN b (k + 1) = N0 + 1 from ⟨by rw [HS1.out, ht]; rfl, by rw [HS0.out, ht]⟩)
            have i2 : (N0 : Int) < (xs.length : Int) := by omega
            have i3 : (0 : Int) ≤ (N0 : Int) := by omega
            have ho := HO.out
            generalize deckF xs N0 = X at gc HG2
            clear ht e1 hbw hxa hj
            go_wp2_with (at_builtin; refine append_i64 _ X _ _ rfl rfl rfl ho rfl hln hsz ?_)
            intro v7 w7 o7 b7 z7
            rw [← HG2.out] at o7
            have B7 := Lib.hid ((HBW.out.alloc hsz (.cells #[.int .i64 X] 2)).trans b7)
            clear b7 gc ho
            go_wp2
            go_roundw
            case rel => exact ⟨k + 1, by omega, by go_num, by rw [HS2.out.2]; go_num, by rw [HS2.out.1], o7, B7.out⟩
            case measure => simp [intOf]; omega
          · have tt : ((T : Int) == 0) = false := by rw [beq_eq_false_iff_ne]; omega
            have tt2 : ¬ ((T : Int) = 0) := by omega
            have hj : H0 + N1 < xs.length := by omega
            obtain ⟨ab, ao, rfl, _, gc⟩ := hxa.at_ hj
            have e1 : xs[H0 + N1] = deckF xs (H0 + N1) := (gD_at hj).symm
            rw [e1] at gc
            have HG2 := Lib.hid (show rifG (deckF xs) b H0 (k + 1) = rifG (deckF xs) b H0 k ++ [deckF xs (H0 + N1)] from by rw [HG.out, if_neg ht])
            have HS2 := Lib.hid (show onesN b (k + 1) = N1 + 1 ∧ zerosN b (k + 1) = N0 from ⟨by rw [HS1.out]; omega, by rw [HS0.out]; omega⟩)
            obtain ⟨J, hJ⟩ : ∃ J, J = H0 + N1 := ⟨_, rfl⟩
            rw [← hJ] at gc HG2 hj
            have ej : (H0 : Int) + (N1 : Int) = (J : Int) := by omega
            have HJ := Lib.hid ej
            have i2 : (J : Int) < (xs.length : Int) := by omega
            have i3 : (0 : Int) ≤ (J : Int) := by omega
            have ho := HO.out
            generalize deckF xs J = X at gc HG2
            rw [ej]
            clear ht e1 hbw hxa hj hJ ej
            go_wp2_with (at_builtin; refine append_i64 _ X _ _ rfl rfl rfl ho rfl hln hsz ?_)
            intro v7 w7 o7 b7 z7
            rw [← HG2.out] at o7
            have B7 := Lib.hid ((HBW.out.alloc hsz (.cells #[.int .i64 X] 2)).trans b7)
            clear b7 gc ho
            go_wp2
            go_roundw
            case rel => exact ⟨k + 1, by omega, by go_num, by rw [HS2.out.2], by rw [HS2.out.1, ← HJ.out]; go_num, o7, B7.out⟩
            case measure => simp [intOf]; omega
        · obtain rfl : k = xs.length := by omega
          have HO := Lib.hid hown
          go_wp2
          go_ret
          exact ⟨_, rfl, by rw [HR.out]; exact HO.out, hbw⟩
end Go.Proofs.Ytjbjkfahfjoigaa
namespace Go.Proofs.Ytjbjkfahfjoigaa
open Go.RowKit Go.Sort

set_option maxRecDepth 100000 in
set_option maxHeartbeats 4000000 in
theorem l07Swapped_any (n a b : Nat) (w : World) (ha : a < n) (hb : b < n) (hn : n ≤ 1000) :
    Calls Try.prog 39 #[.int .i64 n, .int .i64 a, .int .i64 b] w fun e w' => ∃ r, e = .returned r ∧ OwnI w' w.heap.size r (swapW n a b) ∧ Below w.heap.size w w' := by
  have HU := Lib.hid (l02All_any n w hn)
  have hul := upTo_length n
  have HSW := Lib.hid (show ((upTo n).set a b).set b a = swapW n a b from rfl)
  generalize upTo n = U at HU hul HSW
  go_enter Try.func39, Try.ntmps39
  go_wp2_with fail
  refine HU.out.mono ?_
  rintro e w1 ⟨v, rfl, o1, b1⟩
  rcases o1.forms with ⟨_, h4⟩ | ⟨g, c, rfl, h4⟩
  · rw [h4] at hul; simp at hul; omega
  · have hg := o1.lt g rfl
    have i0 : (0 : Int) ≤ (a : Int) := by omega
    have i1 : (a : Int) < (U.length : Int) := by omega
    have i2 : (0 : Int) ≤ (b : Int) := by omega
    have i3 : (b : Int) < (U.length : Int) := by omega
    have ga := OwnI.cell o1 (i := a) (by omega)
    have fa := o1.free a
    generalize U[a]'(by omega) = X at ga
    have o2 := o1.set a (b : Int)
    have b2 := b1.setCell (p := ⟨g, a, none⟩) hg.1 (.int .i64 b)
    have gb := OwnI.cell o2 (i := b) (by rw [List.length_set]; omega)
    have fb := o2.free b
    generalize (U.set a (b : Int))[b]'(by rw [List.length_set]; omega) = Y at gb
    have o3 := o2.set b (a : Int)
    have b3 := b2.setCell (p := ⟨g, b, none⟩) hg.1 (.int .i64 a)
    rw [HSW.out] at o3
    have O3 := Lib.hid o3
    have B3 := Lib.hid b3
    clear o1 b1 o2 b2 o3 b3 h4 hul HU
    go_wp2
    go_ret
    exact ⟨_, rfl, O3.out, B3.out⟩

set_option maxRecDepth 100000 in
set_option maxHeartbeats 4000000 in
theorem l07Riffle_any (n b : Nat) (w : World) (hb : b < 2 ^ 29) (hn : n ≤ 20) :
    Calls Try.prog 41 #[.int .i64 n, .int .i64 b] w fun e w' => ∃ r, e = .returned r ∧ OwnI w' w.heap.size r (rifG wayF b (zerosN b n) n) ∧ Below w.heap.size w w' := by
  have HB := Lib.hid hb
  go_enter Try.func41, Try.ntmps41
  go_wp2
  go_loopw [5, 6] (fun ov i wr => ∃ k : Nat, k ≤ n ∧ i = .int .i64 k ∧ ov = .int .i64 (zerosN b k : Nat) ∧ wr = w) (fun _ i _ => n - (intOf i).toNat)
  case atStart => exact ⟨0, Nat.zero_le _, rfl, rfl, rfl⟩
  case round =>
    obtain ⟨k, hk, rfl, rfl, rfl⟩ := hrel
    have hzo := zo_sum b k
    by_cases hlt : k < n
    · have i1 : (k : Int) < (n : Int) := by omega
      have hcv : IntKind.u64.wrap (k : Int) = (k : Int) := by rw [IntKind.wrap_u64]; omega
      have i0 : (0 : Int) ≤ (k : Int) := by omega
      obtain ⟨S, hS⟩ : ∃ S, S = b / 2 ^ k := ⟨_, rfl⟩
      have hSx : S ≤ b := by rw [hS]; exact Nat.div_le_self _ _
      have sh1 : (b : Int) / 2 ^ min k 64 = (S : Int) := by rw [shr_nat b k (by omega), hS]
      have sh2 : (b : Int) / 2 ^ k = (S : Int) := by rw [hS]; simp
      obtain ⟨T, hT⟩ : ∃ T, T = S % 2 := ⟨_, rfl⟩
      have an : bits .and .i64 (S : Int) 1 = (T : Int) := by rw [and_one S (by omega), hT]
      have hTT : bitN b k = T := by rw [hT, hS]; rfl
      have hT2 : T < 2 := by omega
      have HS := Lib.hid (show zerosN b (k + 1) = zerosN b k + (1 - T) from by rw [← hTT]; rfl)
      generalize zerosN b k = N at HS hzo
      clear hS hT hTT
      by_cases ht : T = 0
      · have tt : ((T : Int) == 0) = true := by rw [ht]; rfl
        have HS2 := Lib.hid (show zerosN b (k + 1) = N + 1 from by rw [HS.out, ht])
        clear ht
        go_wp2
        go_roundw
        case rel => exact ⟨k + 1, by omega, by go_num, by rw [HS2.out]; go_num, trivial⟩
        case measure => simp [intOf]; omega
      · have tt : ((T : Int) == 0) = false := by rw [beq_eq_false_iff_ne]; omega
        have tt2 : ¬ ((T : Int) = 0) := by omega
        have HS2 := Lib.hid (show zerosN b (k + 1) = N from by rw [HS.out]; omega)
        clear ht
        go_wp2
        go_roundw
        case rel => exact ⟨k + 1, by omega, by go_num, by rw [HS2.out], trivial⟩
        case measure => simp [intOf]; omega
    · obtain rfl : k = n := by omega
      have HZO := Lib.hid (zo_sum b)
      obtain ⟨Z, hZ⟩ : ∃ Z, Z = zerosN b k := ⟨_, rfl⟩
      rw [← hZ]
      have hZk : Z ≤ k := by omega
      have HZ := Lib.hid hZ
      have E0 := Lib.hid (OwnI.empty wr (base := wr.heap.size) (Nat.le_refl _))
      have B0 := Lib.hid ((Below.refl wr.heap.size wr).alloc (Nat.le_refl _) (.cells #[] 2))
      obtain ⟨wo, hwo⟩ : ∃ wo : World, wo = wr := ⟨_, rfl⟩
      subst hwo
      obtain ⟨n, hn'⟩ : ∃ n, n = k := ⟨_, rfl⟩
      subst hn'
      clear hlt hZ
      go_wp2
      go_loopw [7, 8, 9, 10] (fun ov lv hv i wr => ∃ k : Nat, k ≤ n ∧ i = .int .i64 k ∧ lv = .int .i64 (zerosN b k : Nat) ∧ hv = .int .i64 ((Z : Int) + (onesN b k : Nat)) ∧ OwnI wr wo.heap.size ov (rifG wayF b Z k) ∧ Below wo.heap.size wo wr) (fun _ _ _ i _ => n - (intOf i).toNat)
      case atStart => exact ⟨0, Nat.zero_le _, rfl, rfl, by simp [onesN], E0.out, B0.out⟩
      case round =>
        clear E0 B0
        obtain ⟨k, hk, rfl, rfl, rfl, hown, hbw⟩ := hrel
        have hzo := HZO.out k
        have hrl := rifG_len wayF b Z k
        by_cases hlt : k < n
        · have i1 : (k : Int) < (n : Int) := by omega
          have hcv : IntKind.u64.wrap (k : Int) = (k : Int) := by rw [IntKind.wrap_u64]; omega
          have i0 : (0 : Int) ≤ (k : Int) := by omega
          obtain ⟨S, hS⟩ : ∃ S, S = b / 2 ^ k := ⟨_, rfl⟩
          have hSx : S ≤ b := by rw [hS]; exact Nat.div_le_self _ _
          have sh1 : (b : Int) / 2 ^ min k 64 = (S : Int) := by rw [shr_nat b k (by omega), hS]
          have sh2 : (b : Int) / 2 ^ k = (S : Int) := by rw [hS]; simp
          obtain ⟨T, hT⟩ : ∃ T, T = S % 2 := ⟨_, rfl⟩
          have an : bits .and .i64 (S : Int) 1 = (T : Int) := by rw [and_one S (by omega), hT]
          have hTT : bitN b k = T := by rw [hT, hS]; rfl
          have hT2 : T < 2 := by omega
          have HS1 := Lib.hid (show onesN b (k + 1) = onesN b k + T from by rw [← hTT]; rfl)
          have HS0 := Lib.hid (show zerosN b (k + 1) = zerosN b k + (1 - T) from by rw [← hTT]; rfl)
          have HG := Lib.hid (show rifG wayF b Z (k + 1) = rifG wayF b Z k ++ [if T = 0 then wayF (zerosN b k) else wayF (Z + onesN b k)] from by rw [← hTT]; rfl)
          generalize onesN b k = N1 at HS1 HG hzo
          generalize zerosN b k = N0 at HS0 HG hzo
          have hln : (rifG wayF b Z k).length < 16777216 := by omega
          have ho := hown
          have HBW := Lib.hid hbw
          have hsz := hbw.size
          clear hS hT hTT hown hrl
          by_cases ht : T = 0
          · have tt : ((T : Int) == 0) = true := by rw [ht]; rfl
            have HG2 := Lib.hid (show rifG wayF b Z (k + 1) = rifG wayF b Z k ++ [(N0 : Int)] from by rw [HG.out, if_pos ht]; rfl)
            have HS2 := Lib.hid (show onesN b (k + 1) = N1 ∧ zerosN b (k + 1) = N0 + 1 from ⟨by rw [HS1.out, ht]; rfl, by rw [HS0.out, ht]⟩)
            clear ht hbw
            go_wp2_with (at_builtin; refine append_i64 _ (N0 : Int) _ _ rfl rfl rfl ho rfl hln hsz ?_)
            intro v7 w7 o7 b7 z7
            rw [← HG2.out] at o7
            have B7 := Lib.hid ((HBW.out.alloc hsz (.cells #[.int .i64 (N0 : Int)] 2)).trans b7)
            clear b7 ho
            go_wp2
            go_roundw
            case rel => exact ⟨k + 1, by omega, by go_num, by rw [HS2.out.2]; go_num, by rw [HS2.out.1], o7, B7.out⟩
            case measure => simp [intOf]; omega
          · have tt : ((T : Int) == 0) = false := by rw [beq_eq_false_iff_ne]; omega
            have tt2 : ¬ ((T : Int) = 0) := by omega
            have HG2 := Lib.hid (show rifG wayF b Z (k + 1) = rifG wayF b Z k ++ [(Z : Int) + (N1 : Int)] from by rw [HG.out, if_neg ht]; simp [wayF])
            have HS2 := Lib.hid (show onesN b (k + 1) = N1 + 1 ∧ zerosN b (k + 1) = N0 from ⟨by rw [HS1.out]; omega, by rw [HS0.out]; omega⟩)
            clear ht hbw
            go_wp2_with (at_builtin; refine append_i64 _ ((Z : Int) + (N1 : Int)) _ _ rfl rfl rfl ho rfl hln hsz ?_)
            intro v7 w7 o7 b7 z7
            rw [← HG2.out] at o7
            have B7 := Lib.hid ((HBW.out.alloc hsz (.cells #[.int .i64 ((Z : Int) + (N1 : Int))] 2)).trans b7)
            clear b7 ho
            go_wp2
            go_roundw
            case rel => exact ⟨k + 1, by omega, by go_num, by rw [HS2.out.2], by rw [HS2.out.1]; go_num, o7, B7.out⟩
            case measure => simp [intOf]; omega
        · obtain rfl : k = n := by omega
          have HO := Lib.hid hown
          go_wp2
          go_ret
          exact ⟨_, rfl, by rw [HZ.out] at HO; exact HO.out, hbw⟩
end Go.Proofs.Ytjbjkfahfjoigaa
namespace Go.Proofs.Ytjbjkfahfjoigaa
open Go.RowKit Go.Sort
theorem mapR_succ {α : Type} (f : Nat → α) (k : Nat) : (List.range (k + 1)).map f = (List.range k).map f ++ [f k] := by rw [List.range_succ, List.map_append]; rfl
theorem flatR_succ {α : Type} (f : Nat → List α) (k : Nat) : (List.range (k + 1)).flatMap f = (List.range k).flatMap f ++ f k := by rw [List.range_succ, List.flatMap_append]; simp
theorem flatR_len {α : Type} {m : Nat} (f : Nat → List α) (h : ∀ i, (f i).length ≤ m) : ∀ k, ((List.range k).flatMap f).length ≤ k * m
  | 0 => by simp
  | k + 1 => by
    have h1 := flatR_len f h k
    have h2 := h k
    rw [flatR_succ, List.length_append, Nat.add_mul]
    omega
/-- two rows more, the first one of them older than the second -/
theorem append_rows2 {ops : Array Oper} {rest : List Oper} {o : Oper} {a : Act} {Q : Exit → Act → World → Prop} (w0 w : World) (s x : Operand) (hg : o.guard = none)
    (ho : o.op = .call { callee := .builtin .append, args := #[s, x], argTypes := #[22, 22] })
    {base B : Nat} {v u u2 : Value} {xss : List (List Int)} {xs xs2 : List Int} (hs : a.eval s = v) (hown : OwnII w0 base v xss) (hb : Below w0.heap.size w0 w) (hu : OwnI w w0.heap.size u xs) (hu2 : OwnI w B u2 xs2) (hB : ∀ g, u.ownBlock = some g → g < B) (hB0 : w0.heap.size ≤ B)
    {t : Nat} (hx : a.eval x = .slice (some ⟨w.heap.size, 0, none⟩) 2 2)
    (hlen : xss.length < 16777210) (hbase : base ≤ w0.heap.size)
    (h : ∀ v' w', OwnII w' base v' (xss ++ [xs, xs2]) → Below base (w.alloc (.cells #[u, u2] t)) w' → w.heap.size < w'.heap.size → wpList Try.prog ops Q rest (a.put o.dst v') w') : wpList Try.prog ops Q (o :: rest) a (w.alloc (.cells #[u, u2] t)) := by
  obtain ⟨vs, h1, h2⟩ := hown
  have hlt := h2.lt
  have h1' := ownsRow_below h1 hb
  have h2' := h2.below hb
  have o1 : u.oneCell' = true := by rcases hu.2 with ⟨rfl, _⟩ | ⟨g, c, cur, rfl, _⟩ <;> rfl
  have o2 : u2.oneCell' = true := by rcases hu2.2 with ⟨rfl, _⟩ | ⟨g, c, cur, rfl, _⟩ <;> rfl
  obtain ⟨i0, hi, hz0, hz1, hz2⟩ := info_parts tI64S.inf
  have hbA : Below w.heap.size w (w.alloc (.cells #[u, u2] t)) := (Below.refl _ _).alloc (Nat.le_refl _) _
  have hcell : ∀ j x, [u, u2][j]? = some x → (w.alloc (.cells #[u, u2] t)).cell? ((⟨w.heap.size, 0, none⟩ : Addr).add j) = some x := by
    intro j x hj
    match j, hj with
    | 0, hj => simp at hj; subst hj; simp [Addr.add]
    | 1, hj => simp at hj; subst hj; simp [Addr.add]
    | j + 2, hj => simp at hj
  refine wpList_append_own _ hg s x _ ho base 42 i0 (.slice none 0 0) 1 24 tI64S.und hi hz0 hz1 hz2 tI64S.one (by decide) v xss.length vs hs (h1'.alloc _) ⟨w.heap.size, 0, none⟩ 2 2 [u, u2] hx rfl hcell (by intro x hx; simp at hx; rcases hx with rfl | rfl <;> assumption) (by simp [maxLen]; omega) (by omega) (by have := hb.size; simp; omega) (fun v' w' k1 k2 _ => ?_)
  have hsz := k2.size
  simp at hsz
  have hbel : Below base (w.alloc (.cells #[u, u2] t)) w' := (Below.refl _ _).grown k2 (by have := hb.size; simp; omega) (fun k hk => (h1'.lt k hk).1)
  refine h v' w' ⟨vs ++ [u, u2], ?_, ?_⟩ hbel (by omega)
  · rw [List.length_append]; exact k1
  · have s1 : Rows2 w base (vs ++ [u]) (xss ++ [xs]) := Rows2.snoc (B := w0.heap.size) h2' (hu.lower hbase) (fun i v g hv hg => (hlt i v g hv hg).2) (fun g hg => (hu.lt g hg).1)
    have s2 : Rows2 w base ((vs ++ [u]) ++ [u2]) ((xss ++ [xs]) ++ [xs2]) := Rows2.snoc (B := B) s1 (hu2.lower (Nat.le_trans hbase hB0)) (fun i v g hv hg => by
      rw [List.getElem?_append] at hv
      split at hv
      · have := (hlt i v g hv hg).2; omega
      · have hi0 := (List.getElem?_eq_some_iff.1 hv).1
        have e0 : i - vs.length = 0 := by simpa using hi0
        rw [e0] at hv
        simp at hv
        subst hv
        exact hB g hg) (fun g hg => (hu2.lt g hg).1)
    have e1 : (vs ++ [u]) ++ [u2] = vs ++ [u, u2] := by simp
    have e2 : (xss ++ [xs]) ++ [xs2] = xss ++ [xs, xs2] := by simp
    rw [e1, e2] at s2
    exact (s2.below hbA).kept (h1'.alloc (.cells #[u, u2] t)) k2

theorem l00Min_e (a b z : Int) (h : z = if a < b then a else b) (w : World) : Calls Try.prog 40 #[.int .i64 a, .int .i64 b] w fun e w' => e = .returned (.int .i64 z) ∧ w = w' := by
  by_cases hab : a < b
  · rw [if_pos hab] at h
    subst h
    go_enter Try.func40, Try.ntmps40
    go_wp2
    go_ret
    exact ⟨rfl, rfl⟩
  · rw [if_neg hab] at h
    subst h
    go_enter Try.func40, Try.ntmps40
    go_wp2
    go_ret
    exact ⟨rfl, rfl⟩

set_option maxRecDepth 100000 in
set_option maxHeartbeats 4000000 in
theorem l07Ways1_any (n : Nat) (w : World) (h1 : 1 ≤ n) (h3 : n ≤ 3) :
    Calls Try.prog 17 #[.int .i64 n, .int .i64 1] w fun e w' => ∃ r, e = .returned r ∧ OwnII w' w.heap.size r (waysL n 1) ∧ Below w.heap.size w w' := by
  have E0 := Lib.hid (OwnII.empty w (base := w.heap.size) (Nat.le_refl _))
  have B0 := Lib.hid ((Below.refl w.heap.size w).alloc (Nat.le_refl _) (.cells #[] 42))
  have HW := Lib.hid (show waysL n 1 = (List.range n).map (fun p => ((List.range p).map fun k => ((k + 1 : Nat) : Int)) ++ (0 : Int) :: ((List.range (n - (p + 1))).map fun k => ((p + 1 + k : Nat) : Int))) from rfl)
  go_enter Try.func17, Try.ntmps17
  go_wp2
  go_loopw [5, 6] (fun r i wr => ∃ k : Nat, k ≤ n ∧ i = .int .i64 k ∧ OwnII wr w.heap.size r ((List.range k).map (fun p => ((List.range p).map fun k => ((k + 1 : Nat) : Int)) ++ (0 : Int) :: ((List.range (n - (p + 1))).map fun k => ((p + 1 + k : Nat) : Int)))) ∧ Below w.heap.size w wr) (fun _ i _ => n - (intOf i).toNat)
  case atStart => exact ⟨0, Nat.zero_le _, rfl, E0.out, B0.out⟩
  case round =>
    clear E0 B0
    obtain ⟨k, hk, rfl, hown, hbw⟩ := hrel
    by_cases hlt : k < n
    · have i1 : (k : Int) < (n : Int) := by omega
      have HS := Lib.hid (mapR_succ (fun p => ((List.range p).map fun k => ((k + 1 : Nat) : Int)) ++ (0 : Int) :: ((List.range (n - (p + 1))).map fun k => ((p + 1 + k : Nat) : Int))) k)
      have hln : ((List.range k).map (fun p => ((List.range p).map fun k => ((k + 1 : Nat) : Int)) ++ (0 : Int) :: ((List.range (n - (p + 1))).map fun k => ((p + 1 + k : Nat) : Int)))).length < 16777216 := by simp; omega
      generalize (List.range k).map (fun p => ((List.range p).map fun k => ((k + 1 : Nat) : Int)) ++ (0 : Int) :: ((List.range (n - (p + 1))).map fun k => ((p + 1 + k : Nat) : Int))) = P at hown hln HS
      have HO := Lib.hid hown
      have HBW := Lib.hid hbw
      obtain ⟨wo, hwo⟩ : ∃ wo : World, wo = wr := ⟨_, rfl⟩
      subst hwo
      have R0 := Lib.hid (OwnI.empty wo (base := wo.heap.size) (Nat.le_refl _))
      have BR := Lib.hid ((Below.refl wo.heap.size wo).alloc (Nat.le_refl _) (.cells #[] 2))
      obtain ⟨f, hf⟩ : ∃ f : Nat → Int, f = fun k => ((k + 1 : Nat) : Int) := ⟨_, rfl⟩
      obtain ⟨g, hg⟩ : ∃ g : Nat → Int, g = fun j => ((k + 1 + j : Nat) : Int) := ⟨_, rfl⟩
      have HF := Lib.hid (show ∀ j, f j = (j : Int) + 1 from fun j => by rw [hf]; simp)
      have HG := Lib.hid (show ∀ j, g j = (k : Int) + 1 + (j : Int) from fun j => by rw [hg]; simp)
      have HS2 := Lib.hid (show (List.range (k + 1)).map (fun p => ((List.range p).map fun k => ((k + 1 : Nat) : Int)) ++ (0 : Int) :: ((List.range (n - (p + 1))).map fun k => ((p + 1 + k : Nat) : Int))) = P ++ [(List.range k).map f ++ (0 : Int) :: (List.range (n - (k + 1))).map g] from by rw [HS.out, hf, hg])
      clear hown hbw hf hg
      go_wp2
      go_loopw [7, 8] (fun r i wi => ∃ j : Nat, j ≤ k ∧ i = .int .i64 ((j : Int) + 1) ∧ OwnI wi wo.heap.size r ((List.range j).map f) ∧ Below wo.heap.size wo wi) (fun _ i _ => k + 1 - (intOf i).toNat)
      case atStart => exact ⟨0, Nat.zero_le _, rfl, R0.out, BR.out⟩
      case round =>
        clear R0 BR
        obtain ⟨j, hj, rfl, hr, hb⟩ := hrel
        have HB := Lib.hid hb
        have hz := hb.size
        by_cases hjk : j < k
        · have i2 : (j : Int) + 1 ≤ (k : Int) := by omega
          have hfj := HF.out j
          have HJ := Lib.hid (mapR_succ f j)
          have hln2 : ((List.range j).map f).length < 16777216 := by simp; omega
          rw [hfj] at HJ
          have HJ := Lib.hid HJ.out
          clear hb hfj
          go_wp2_with (at_builtin; refine append_i64 _ ((j : Int) + 1) _ _ rfl rfl rfl hr rfl hln2 hz ?_)
          intro v7 w7 o7 b7 z7
          rw [← HJ.out] at o7
          have HB7 := Lib.hid ((HB.out.alloc hz (.cells #[.int .i64 ((j : Int) + 1)] 2)).trans b7)
          clear b7 hr
          go_wp2
          go_roundw
          case rel => exact ⟨j + 1, by omega, by go_num, o7, HB7.out⟩
          case measure => simp [intOf]; omega
        · obtain rfl : j = k := by omega
          have i2 : (j : Int) < (j : Int) + 1 := by omega
          have hln2 : ((List.range j).map f).length < 16777216 := by simp; omega
          have HL1 := Lib.hid (show ((List.range j).map f).length = j by simp)
          generalize (List.range j).map f = R at hr hln2 HS2 HL1
          clear hb
          go_wp2_with (at_builtin; refine append_i64 _ (0 : Int) _ _ rfl rfl rfl hr rfl hln2 hz ?_)
          intro v7 w7 o7 b7 z7
          have HB7 := Lib.hid ((HB.out.alloc hz (.cells #[.int .i64 0] 2)).trans b7)
          have HO7 := Lib.hid (show OwnI w7 wo.heap.size v7 (R ++ (0 : Int) :: (List.range 0).map g) from by simpa using o7)
          clear b7 hr o7
          go_wp2
          go_loopw [7, 9] (fun r i wi => ∃ q : Nat, q ≤ n - (j + 1) ∧ i = .int .i64 ((j : Int) + 1 + (q : Int)) ∧ OwnI wi wo.heap.size r (R ++ (0 : Int) :: (List.range q).map g) ∧ Below wo.heap.size wo wi) (fun _ i _ => n - (intOf i).toNat)
          case atStart => exact ⟨0, Nat.zero_le _, by go_num, HO7.out, HB7.out⟩
          case round =>
            clear HO7 HB7
            obtain ⟨q, hq, rfl, hr, hb⟩ := hrel
            have HB := Lib.hid hb
            have hz := hb.size
            by_cases hqn : q < n - (j + 1)
            · have i3 : (j : Int) + 1 + (q : Int) < (n : Int) := by omega
              have hgq := HG.out q
              have HJ := Lib.hid (mapR_succ g q)
              rw [hgq] at HJ
              have HJ2 := Lib.hid (show R ++ (0 : Int) :: (List.range (q + 1)).map g = R ++ (0 : Int) :: ((List.range q).map g ++ [(j : Int) + 1 + (q : Int)]) from by rw [HJ.out])
              have hl1 := HL1.out
              have hln2 : (R ++ (0 : Int) :: (List.range q).map g).length < 16777216 := by simp; omega
              clear hb hgq hl1
              go_wp2_with (at_builtin; refine append_i64 _ ((j : Int) + 1 + (q : Int)) _ _ rfl rfl rfl hr rfl hln2 hz ?_)
              intro v7 w7 o7 b7 z7
              rw [← HJ2.out] at o7
              have HB7 := Lib.hid ((HB.out.alloc hz (.cells #[.int .i64 ((j : Int) + 1 + (q : Int))] 2)).trans b7)
              clear b7 hr
              go_wp2
              go_roundw
              case rel => exact ⟨q + 1, by omega, by go_num, o7, HB7.out⟩
              case measure => simp [intOf]; omega
            · obtain rfl : q = n - (j + 1) := by omega
              have i3 : ¬ (j : Int) + 1 + ((n - (j + 1) : Nat) : Int) < (n : Int) := by omega
              obtain ⟨Z, hZ⟩ : ∃ Z, Z = R ++ (0 : Int) :: (List.range (n - (j + 1))).map g := ⟨_, rfl⟩
              rw [← hZ] at hr
              have HS3 := Lib.hid (show (List.range (j + 1)).map (fun p => ((List.range p).map fun k => ((k + 1 : Nat) : Int)) ++ (0 : Int) :: ((List.range (n - (p + 1))).map fun k => ((p + 1 + k : Nat) : Int))) = P ++ [Z] from by rw [hZ]; exact HS2.out)
              obtain ⟨ra, rc, rfl, _, _, _⟩ := id hr.sl
              have ho := HO.out
              have hz2 := HBW.out.size
              have hbb := HB.out
              clear hb hZ
              go_wp2_with (at_builtin; refine append_row wo _ _ _ rfl rfl rfl ho hbb hr rfl hln hz2 ?_)
              intro v7 w7 o7 b7 z7
              have HB7 := Lib.hid (((HBW.out.trans (HB.out.mono HBW.out.size)).alloc (Nat.le_trans HBW.out.size HB.out.size) _).trans b7)
              rw [← HS3.out] at o7
              clear b7 ho hbb hr
              go_wp2
              go_roundw
              case rel => exact ⟨j + 1, by omega, by go_num, o7, HB7.out⟩
              case measure => simp [intOf]; omega
    · obtain rfl : k = n := by omega
      have HO := Lib.hid hown
      go_wp2
      go_ret
      exact ⟨_, rfl, by rw [HW.out]; exact HO.out, hbw⟩

set_option maxRecDepth 100000 in
set_option maxHeartbeats 4000000 in
theorem l07Ways2_any (n : Nat) (w : World) (h1 : 1 ≤ n) (h3 : n ≤ 3) :
    Calls Try.prog 17 #[.int .i64 n, .int .i64 2] w fun e w' => ∃ r, e = .returned r ∧ OwnII w' w.heap.size r (waysL n 2) ∧ Below w.heap.size w w' := by
  have E0 := Lib.hid (OwnII.empty w (base := w.heap.size) (Nat.le_refl _))
  have B0 := Lib.hid ((Below.refl w.heap.size w).alloc (Nat.le_refl _) (.cells #[] 42))
  have HW := Lib.hid (show waysL n 2 = (List.range n).flatMap fun a => (List.range n).map fun b => swapW n a b from rfl)
  go_enter Try.func17, Try.ntmps17
  go_wp2
  go_loopw [5, 10] (fun r i wr => ∃ k : Nat, k ≤ n ∧ i = .int .i64 k ∧ OwnII wr w.heap.size r ((List.range k).flatMap fun a => (List.range n).map fun b => swapW n a b) ∧ Below w.heap.size w wr) (fun _ i _ => n - (intOf i).toNat)
  case atStart => exact ⟨0, Nat.zero_le _, rfl, E0.out, B0.out⟩
  case round =>
    clear E0 B0
    obtain ⟨k, hk, rfl, hown, hbw⟩ := hrel
    have hfl := flatR_len (m := n) (fun a => (List.range n).map fun b => swapW n a b) (fun i => by simp) k
    have hkn9 : k * n ≤ 9 := Nat.mul_le_mul (by omega : k ≤ 3) h3
    by_cases hlt : k < n
    · have i1 : (k : Int) < (n : Int) := by omega
      have HS := Lib.hid (flatR_succ (fun a => (List.range n).map fun b => swapW n a b) k)
      generalize (List.range k).flatMap (fun a => (List.range n).map fun b => swapW n a b) = P at hown hfl HS
      have HO0 := Lib.hid (show OwnII wr w.heap.size u5 (P ++ (List.range 0).map (swapW n k)) from by simpa using hown)
      have HBW0 := Lib.hid hbw
      clear hown hbw
      go_wp2
      go_loopw [5, 11] (fun r i wi => ∃ j : Nat, j ≤ n ∧ i = .int .i64 j ∧ OwnII wi w.heap.size r (P ++ (List.range j).map (swapW n k)) ∧ Below w.heap.size w wi) (fun _ i _ => n - (intOf i).toNat)
      case atStart => exact ⟨0, Nat.zero_le _, rfl, HO0.out, HBW0.out⟩
      case round =>
        clear HO0 HBW0
        obtain ⟨j, hj, rfl, hown, hbw⟩ := hrel
        have HO := Lib.hid hown
        have HBW := Lib.hid hbw
        clear hown hbw
        by_cases hjn : j < n
        · have i2 : (j : Int) < (n : Int) := by omega
          have HJ := Lib.hid (mapR_succ (swapW n k) j)
          have hln : (P ++ (List.range j).map (swapW n k)).length < 16777216 := by simp; omega
          go_wp2_with fail
          refine (l07Swapped_any n k j wr hlt hjn (by omega)).mono ?_
          rintro e w4 ⟨rv, rfl, o4, b4⟩
          obtain ⟨ra, rc, rfl, _, _, _⟩ := id o4.sl
          have HB4 := Lib.hid (HBW.out.trans (b4.mono HBW.out.size))
          have hb4 := b4
          have ho := HO.out
          have hz := HBW.out.size
          clear b4
          go_wp2_with (at_builtin; refine append_row wr _ _ _ rfl rfl rfl ho hb4 o4 rfl hln hz ?_)
          intro v7 w7 o7 b7 z7
          have HB7 := Lib.hid ((HB4.out.alloc HB4.out.size _).trans b7)
          have HO7 := Lib.hid (show OwnII w7 w.heap.size v7 (P ++ (List.range (j + 1)).map (swapW n k)) from by rw [HJ.out]; simpa [List.append_assoc] using o7)
          clear b7 o7 ho hb4 o4
          go_wp2
          go_roundw
          case rel => exact ⟨j + 1, by omega, by go_num, HO7.out, HB7.out⟩
          case measure => simp [intOf]; omega
        · obtain rfl : j = n := by omega
          have HO7 := Lib.hid (show OwnII wr w.heap.size u5 ((List.range (k + 1)).flatMap fun a => (List.range j).map fun b => swapW j a b) from by rw [HS.out]; exact HO.out)
          go_wp2
          go_roundw
          case rel => exact ⟨k + 1, by omega, by go_num, HO7.out, HBW.out⟩
          case measure => simp [intOf]; omega
    · obtain rfl : k = n := by omega
      have HO := Lib.hid hown
      go_wp2
      go_ret
      exact ⟨_, rfl, by rw [HW.out]; exact HO.out, hbw⟩

set_option maxRecDepth 100000 in
set_option maxHeartbeats 4000000 in
theorem l07Ways3_any (n : Nat) (w : World) (h1 : 1 ≤ n) (h3 : n ≤ 3) :
    Calls Try.prog 17 #[.int .i64 n, .int .i64 3] w fun e w' => ∃ r, e = .returned r ∧ OwnII w' w.heap.size r (waysL n 3) ∧ Below w.heap.size w w' := by
  have E0 := Lib.hid (OwnII.empty w (base := w.heap.size) (Nat.le_refl _))
  have B0 := Lib.hid ((Below.refl w.heap.size w).alloc (Nat.le_refl _) (.cells #[] 42))
  have HW := Lib.hid (show waysL n 3 = (List.range n).flatMap fun a => [swapW n a a, swapW n a (min (a + 1) (n - 1))] from rfl)
  go_enter Try.func17, Try.ntmps17
  go_wp2
  go_loopw [5, 12] (fun r i wr => ∃ k : Nat, k ≤ n ∧ i = .int .i64 k ∧ OwnII wr w.heap.size r ((List.range k).flatMap fun a => [swapW n a a, swapW n a (min (a + 1) (n - 1))]) ∧ Below w.heap.size w wr) (fun _ i _ => n - (intOf i).toNat)
  case atStart => exact ⟨0, Nat.zero_le _, rfl, E0.out, B0.out⟩
  case round =>
    clear E0 B0
    obtain ⟨k, hk, rfl, hown, hbw⟩ := hrel
    by_cases hlt : k < n
    · have i1 : (k : Int) < (n : Int) := by omega
      have hfl := flatR_len (m := 2) (fun a => [swapW n a a, swapW n a (min (a + 1) (n - 1))]) (fun i => by simp) k
      have HS := Lib.hid (flatR_succ (fun a => [swapW n a a, swapW n a (min (a + 1) (n - 1))]) k)
      generalize (List.range k).flatMap (fun a => [swapW n a a, swapW n a (min (a + 1) (n - 1))]) = P at hown hfl HS
      obtain ⟨m, hm⟩ : ∃ m, m = min (k + 1) (n - 1) := ⟨_, rfl⟩
      have hmn : m < n := by omega
      have HS2 := Lib.hid (show (List.range (k + 1)).flatMap (fun a => [swapW n a a, swapW n a (min (a + 1) (n - 1))]) = P ++ [swapW n k k, swapW n k m] from by rw [hm]; exact HS.out)
      have MI := Lib.hid (l00Min_e ((k : Int) + 1) ((n : Int) - 1) (m : Int) (by omega))
      have HO := Lib.hid hown
      have HBW := Lib.hid hbw
      have r1 : IntKind.i64.wrap ((k : Int) + 1) = (k : Int) + 1 := IntWalk.i64_in _ (by omega)
      have r2 : IntKind.i64.wrap ((n : Int) - 1) = (n : Int) - 1 := IntWalk.i64_in _ (by omega)
      clear hown hbw hm
      go_wp2_with fail
      refine (l07Swapped_any n k k wr hlt hlt (by omega)).mono ?_
      rintro e w4 ⟨rv, rfl, o4, b4⟩
      obtain ⟨ra, rc, rfl, _, _, _⟩ := id o4.sl
      have B4 := Lib.hid b4
      have O4 := Lib.hid o4
      clear b4 o4
      go_wp2_with fail
      refine (MI.out w4).mono ?_
      rintro e w5 ⟨rfl, rfl⟩
      go_wp2_with fail
      refine (l07Swapped_any n k m w4 hlt hmn (by omega)).mono ?_
      rintro e w6 ⟨rv, rfl, o6, b6⟩
      obtain ⟨qa, qc, rfl, _, _, _⟩ := id o6.sl
      have B6 := Lib.hid (B4.out.trans (b6.mono B4.out.size))
      have hbb := B6.out
      have ho := HO.out
      have o4 := O4.out.below b6
      have hB := fun g hg => (O4.out.lt g hg).2
      have hB0 := B4.out.size
      have hln : P.length < 16777210 := by omega
      have hz := HBW.out.size
      clear b6
      go_wp2_with (at_builtin; refine append_rows2 wr _ _ _ rfl rfl rfl ho hbb o4 o6 hB hB0 rfl hln hz ?_)
      intro v7 w7 o7 b7 z7
      have HB7 := Lib.hid (((HBW.out.trans (B6.out.mono HBW.out.size)).alloc (Nat.le_trans HBW.out.size B6.out.size) _).trans b7)
      rw [← HS2.out] at o7
      clear b7 ho hbb o4 o6 hB
      go_wp2
      go_roundw
      case rel => exact ⟨k + 1, by omega, by go_num, o7, HB7.out⟩
      case measure => simp [intOf]; omega
    · obtain rfl : k = n := by omega
      have HO := Lib.hid hown
      go_wp2
      go_ret
      exact ⟨_, rfl, by rw [HW.out]; exact HO.out, hbw⟩

set_option maxRecDepth 100000 in
set_option maxHeartbeats 4000000 in
theorem l07Ways4_any (n : Nat) (w : World) (h1 : 1 ≤ n) (h3 : n ≤ 3) :
    Calls Try.prog 17 #[.int .i64 n, .int .i64 4] w fun e w' => ∃ r, e = .returned r ∧ OwnII w' w.heap.size r (waysL n 4) ∧ Below w.heap.size w w' := by
  have E0 := Lib.hid (OwnII.empty w (base := w.heap.size) (Nat.le_refl _))
  have B0 := Lib.hid ((Below.refl w.heap.size w).alloc (Nat.le_refl _) (.cells #[] 42))
  have HW := Lib.hid (show waysL n 4 = (List.range n).map fun a => (List.range n).map fun k => (((a + k) % n : Nat) : Int) from rfl)
  go_enter Try.func17, Try.ntmps17
  go_wp2
  go_loopw [5, 13] (fun r i wr => ∃ k : Nat, k ≤ n ∧ i = .int .i64 k ∧ OwnII wr w.heap.size r ((List.range k).map fun a => (List.range n).map fun k => (((a + k) % n : Nat) : Int)) ∧ Below w.heap.size w wr) (fun _ i _ => n - (intOf i).toNat)
  case atStart => exact ⟨0, Nat.zero_le _, rfl, E0.out, B0.out⟩
  case round =>
    clear E0 B0
    obtain ⟨k, hk, rfl, hown, hbw⟩ := hrel
    by_cases hlt : k < n
    · have i1 : (k : Int) < (n : Int) := by omega
      have HS := Lib.hid (mapR_succ (fun a => (List.range n).map fun k => (((a + k) % n : Nat) : Int)) k)
      have hln : ((List.range k).map fun a => (List.range n).map fun k => (((a + k) % n : Nat) : Int)).length < 16777216 := by simp; omega
      generalize (List.range k).map (fun a => (List.range n).map fun k => (((a + k) % n : Nat) : Int)) = P at hown hln HS
      obtain ⟨f, hf⟩ : ∃ f : Nat → Int, f = fun j => (((k + j) % n : Nat) : Int) := ⟨_, rfl⟩
      have HF := Lib.hid (show ∀ j, f j = (((k + j) % n : Nat) : Int) from fun j => by rw [hf])
      have HS2 := Lib.hid (show (List.range (k + 1)).map (fun a => (List.range n).map fun k => (((a + k) % n : Nat) : Int)) = P ++ [(List.range n).map f] from by rw [HS.out, hf])
      have HO := Lib.hid hown
      have HBW := Lib.hid hbw
      obtain ⟨wo, hwo⟩ : ∃ wo : World, wo = wr := ⟨_, rfl⟩
      subst hwo
      have R0 := Lib.hid (OwnI.empty wo (base := wo.heap.size) (Nat.le_refl _))
      have BR := Lib.hid ((Below.refl wo.heap.size wo).alloc (Nat.le_refl _) (.cells #[] 2))
      clear hown hbw hf
      go_wp2
      go_loopw [14, 15] (fun r i wi => ∃ j : Nat, j ≤ n ∧ i = .int .i64 j ∧ OwnI wi wo.heap.size r ((List.range j).map f) ∧ Below wo.heap.size wo wi) (fun _ i _ => n - (intOf i).toNat)
      case atStart => exact ⟨0, Nat.zero_le _, rfl, R0.out, BR.out⟩
      case round =>
        clear R0 BR
        obtain ⟨j, hj, rfl, hr, hb⟩ := hrel
        have HB := Lib.hid hb
        by_cases hjn : j < n
        · have i2 : (j : Int) < (n : Int) := by omega
          have hfj := HF.out j
          have HJ := Lib.hid (mapR_succ f j)
          obtain ⟨m, hm⟩ : ∃ m : Nat, m = (k + j) % n := ⟨_, rfl⟩
          have hml : m < n := by rw [hm]; exact Nat.mod_lt _ (by omega)
          rw [← hm] at hfj
          have r1 : IntKind.i64.wrap ((k : Int) + (j : Int)) = (k : Int) + (j : Int) := IntWalk.i64_in _ (by omega)
          have r2 : ((k : Int) + (j : Int)).tmod (n : Int) = (m : Int) := by rw [hm]; rw [Int.tmod_eq_emod_of_nonneg (by omega)]; simp
          have r3 : IntKind.i64.wrap (m : Int) = (m : Int) := IntWalk.i64_in _ (by omega)
          have nn : ¬ ((n : Int) = 0) := by omega
          have hln2 : ((List.range j).map f).length < 16777216 := by simp; omega
          have hz := HB.out.size
          rw [hfj] at HJ
          have HJ := Lib.hid HJ.out
          clear hm hb hfj
          go_wp2_with (at_builtin; refine append_i64 _ (m : Int) _ _ rfl rfl rfl hr rfl hln2 hz ?_)
          intro v7 w7 o7 b7 z7
          rw [← HJ.out] at o7
          have HB7 := Lib.hid ((HB.out.alloc hz (.cells #[.int .i64 m] 2)).trans b7)
          clear b7 hr
          go_wp2
          go_roundw
          case rel => exact ⟨j + 1, by omega, by go_num, o7, HB7.out⟩
          case measure => simp [intOf]; omega
        · obtain rfl : j = n := by omega
          obtain ⟨R, hR⟩ : ∃ R, R = (List.range j).map f := ⟨_, rfl⟩
          have HS3 := Lib.hid (show (List.range (k + 1)).map (fun a => (List.range j).map fun k => (((a + k) % j : Nat) : Int)) = P ++ [R] from by rw [hR]; exact HS2.out)
          rw [← hR] at hr
          obtain ⟨ra, rc, rfl, _, _, _⟩ := id hr.sl
          have ho := HO.out
          have hz := HBW.out.size
          have hbb := HB.out
          clear hR
          clear hb
          go_wp2_with (at_builtin; refine append_row wo _ _ _ rfl rfl rfl ho hbb hr rfl hln hz ?_)
          intro v7 w7 o7 b7 z7
          have HB7 := Lib.hid (((HBW.out.trans (HB.out.mono HBW.out.size)).alloc (Nat.le_trans HBW.out.size HB.out.size) _).trans b7)
          rw [← HS3.out] at o7
          clear b7 ho hbb hr
          go_wp2
          go_roundw
          case rel => exact ⟨k + 1, by omega, by go_num, o7, HB7.out⟩
          case measure => simp [intOf]; omega
    · obtain rfl : k = n := by omega
      have HO := Lib.hid hown
      go_wp2
      go_ret
      exact ⟨_, rfl, by rw [HW.out]; exact HO.out, hbw⟩

set_option maxRecDepth 100000 in
set_option maxHeartbeats 4000000 in
theorem l07Ways5_any (n : Nat) (w : World) (h1 : 1 ≤ n) (h3 : n ≤ 3) :
    Calls Try.prog 17 #[.int .i64 n, .int .i64 5] w fun e w' => ∃ r, e = .returned r ∧ OwnII w' w.heap.size r (waysL n 5) ∧ Below w.heap.size w w' := by
  have E0 := Lib.hid (OwnII.empty w (base := w.heap.size) (Nat.le_refl _))
  have B0 := Lib.hid ((Below.refl w.heap.size w).alloc (Nat.le_refl _) (.cells #[] 42))
  have HW := Lib.hid (show waysL n 5 = (List.range (2 ^ n)).map fun b => rifG wayF b (zerosN b n) n from rfl)
  have hp : 2 ^ n ≤ 8 := by have : 2 ^ n ≤ 2 ^ 3 := Nat.pow_le_pow_right (by omega) h3; omega
  obtain ⟨N, hN⟩ : ∃ N, N = 2 ^ n := ⟨_, rfl⟩
  rw [← hN] at HW hp
  have hcv : IntKind.u64.wrap (n : Int) = (n : Int) := by rw [IntKind.wrap_u64]; omega
  have s1 : (2 : Int) ^ n = (N : Int) := by rw [hN]; simp
  have s2 : (2 : Int) ^ min n 64 = (N : Int) := by rw [Nat.min_eq_left (by omega)]; exact s1
  have s3 : IntKind.i64.wrap (N : Int) = (N : Int) := IntWalk.i64_in _ (by omega)
  have n0 : (0 : Int) ≤ (n : Int) := by omega
  have F := Lib.hid (fun b (h : b < N) W => l07Riffle_any n b W (by omega) (by omega))
  clear hN
  go_enter Try.func17, Try.ntmps17
  go_wp2
  go_loopw [5, 16] (fun r i wr => ∃ k : Nat, k ≤ N ∧ i = .int .i64 k ∧ OwnII wr w.heap.size r ((List.range k).map fun b => rifG wayF b (zerosN b n) n) ∧ Below w.heap.size w wr) (fun _ i _ => N - (intOf i).toNat)
  case atStart => exact ⟨0, Nat.zero_le _, rfl, E0.out, B0.out⟩
  case round =>
    clear E0 B0
    obtain ⟨k, hk, rfl, hown, hbw⟩ := hrel
    have HO := Lib.hid hown
    have HBW := Lib.hid hbw
    clear hown
    by_cases hlt : k < N
    · have i1 : (k : Int) < (N : Int) := by omega
      have HJ := Lib.hid (mapR_succ (fun b => rifG wayF b (zerosN b n) n) k)
      have hln : ((List.range k).map fun b => rifG wayF b (zerosN b n) n).length < 16777216 := by simp; omega
      clear hbw
      go_wp2_with fail
      refine (F.out k hlt wr).mono ?_
      rintro e w4 ⟨rv, rfl, o4, b4⟩
      obtain ⟨ra, rc, rfl, _, _, _⟩ := id o4.sl
      have HB4 := Lib.hid (HBW.out.trans (b4.mono HBW.out.size))
      have hb4 := b4
      have ho := HO.out
      have hz := HBW.out.size
      clear b4
      go_wp2_with (at_builtin; refine append_row wr _ _ _ rfl rfl rfl ho hb4 o4 rfl hln hz ?_)
      intro v7 w7 o7 b7 z7
      have HB7 := Lib.hid ((HB4.out.alloc HB4.out.size _).trans b7)
      rw [← HJ.out] at o7
      clear b7 ho hb4 o4
      go_wp2
      go_roundw
      case rel => exact ⟨k + 1, by omega, by go_num, o7, HB7.out⟩
      case measure => simp [intOf]; omega
    · obtain rfl : k = N := by omega
      go_wp2
      go_ret
      exact ⟨_, rfl, by rw [HW.out]; exact HO.out, hbw⟩

theorem l07Ways_any (n k : Nat) (w : World) (h1 : 1 ≤ n) (h3 : n ≤ 3) (k1 : 1 ≤ k) (k5 : k ≤ 5) :
    Calls Try.prog 17 #[.int .i64 n, .int .i64 k] w fun e w' => ∃ r, e = .returned r ∧ OwnII w' w.heap.size r (waysL n k) ∧ Below w.heap.size w w' := by
  rcases (by omega : k = 1 ∨ k = 2 ∨ k = 3 ∨ k = 4 ∨ k = 5) with rfl | rfl | rfl | rfl | rfl
  · exact l07Ways1_any n w h1 h3
  · exact l07Ways2_any n w h1 h3
  · exact l07Ways3_any n w h1 h3
  · exact l07Ways4_any n w h1 h3
  · exact l07Ways5_any n w h1 h3
end Go.Proofs.Ytjbjkfahfjoigaa
