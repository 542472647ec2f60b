/-
  The reference's plant: a torn line. With it: Two plants compared.
-/
import Derived.Test.YtijpkcdalmlaiaaZRowFnPlantPackets32
import Derived.Test.YtijpkcdalmlaiaaZRowFnPlantPackets38
import Derived.Test.YtijpkcdalmlaiaaZRowFnPlantPackets34
import Derived.Test.YtijpkcdalmlaiaaZRowFnPlantPackets22
import Derived.Test.YtijpkcdalmlaiaaZRowFnPlantPackets19
set_option linter.unusedVariables false
set_option linter.unusedSimpArgs false
namespace Go.Proofs.Ytijpkcdalmlaiaa
open Go.RowKit Go.Sort

set_option maxRecDepth 100000 in
set_option maxHeartbeats 8000000 in
theorem SamePlant_refl {S : PS} {vl vr ve vh vw vo ul ur ue uh uw uo : Value} (w : World) (A : PlRd w S vl vr ve vh vw vo) (B : PlRd w S ul ur ue uh uw uo) (hb1 : S.recs.length ≤ 1000) (hb2 : S.hands.length ≤ 1000) (hb3 : S.wire.length ≤ 1000) :
    Calls Try.prog 38 #[plV S vl vr ve vh vw vo, plV S ul ur ue uh uw uo] w fun e w' => e = .returned (.bool true) ∧ Below w.heap.size w w' := by
  have HA := Lib.hid (fun W (h : Below w.heap.size w W) => A.below h)
  have HB := Lib.hid (fun W (h : Below w.heap.size w W) => B.below h)
  obtain ⟨al, al', ar, ar', ae, ae', ah, ah', aw, aw', ao, ao', rfl, rfl, rfl, rfl, rfl, rfl⟩ := A.form
  obtain ⟨bl, bl', br, br', be, be', bh, bh', bw, bw', bo, bo', rfl, rfl, rfl, rfl, rfl, rfl⟩ := B.form
  generalize hLL : S.l.length = LL at HA HB ⊢
  generalize hLR : S.r.length = LR at HA HB ⊢
  generalize hLO : S.out.length = LO at HA HB ⊢
  clear hLL hLR hLO
  unfold plV
  obtain ⟨q, hq⟩ : ∃ q, q = S.q := ⟨_, rfl⟩
  obtain ⟨y, hy⟩ : ∃ y, y = S.sy := ⟨_, rfl⟩
  rw [← hq, ← hy]
  obtain ⟨W2, hW2⟩ : ∃ W2, W2 = (w.alloc (.cells #[.slice al LL al', .slice ar LR ar', .int .i64 q, .slice ae S.recs.length ae', .int .i64 y, .slice ah S.hands.length ah', .slice aw S.wire.length aw', .slice ao LO ao'] 61)).alloc (.cells #[.slice bl LL bl', .slice br LR br', .int .i64 q, .slice be S.recs.length be', .int .i64 y, .slice bh S.hands.length bh', .slice bw S.wire.length bw', .slice bo LO bo'] 61) := ⟨_, rfl⟩
  have b2 : Below w.heap.size w W2 := by rw [hW2]; exact ((Below.refl _ _).alloc (Nat.le_refl _) _).alloc (by simp) _
  have K1 := Lib.hid (show CellsAt W2 w.heap.size [.slice al LL al', .slice ar LR ar', .int .i64 q, .slice ae S.recs.length ae', .int .i64 y, .slice ah S.hands.length ah', .slice aw S.wire.length aw', .slice ao LO ao'] by
    rw [hW2]
    exact (CellsAt.new w [.slice al LL al', .slice ar LR ar', .int .i64 q, .slice ae S.recs.length ae', .int .i64 y, .slice ah S.hands.length ah', .slice aw S.wire.length aw', .slice ao LO ao'] 61).below ((Below.refl _ _).alloc (Nat.le_refl _) _))
  have K2 := Lib.hid (show CellsAt W2 (w.heap.size + 1) [.slice bl LL bl', .slice br LR br', .int .i64 q, .slice be S.recs.length be', .int .i64 y, .slice bh S.hands.length bh', .slice bw S.wire.length bw', .slice bo LO bo'] by
    rw [hW2]
    exact CellsAt.new' _ [.slice bl LL bl', .slice br LR br', .int .i64 q, .slice be S.recs.length be', .int .i64 y, .slice bh S.hands.length bh', .slice bw S.wire.length bw', .slice bo LO bo'] 61 (by simp))
  have B2 := Lib.hid b2
  have HW2 := Lib.hid hW2.symm
  have n1 : ((S.recs.length : Int) != (S.recs.length : Int)) = false := by simp
  have n2 : ((y : Int) != (y : Int)) = false := by simp
  have n3 : ((S.hands.length : Int) != (S.hands.length : Int)) = false := by simp
  have n4 : ((S.wire.length : Int) != (S.wire.length : Int)) = false := by simp
  have c3 := K1.out.get 3 _ rfl
  have c4 := K1.out.get 4 _ rfl
  have c5 := K1.out.get 5 _ rfl
  have c6 := K1.out.get 6 _ rfl
  have c7 := K1.out.get 7 _ rfl
  have d3 := K2.out.get 3 _ rfl
  have d4 := K2.out.get 4 _ rfl
  have d5 := K2.out.get 5 _ rfl
  have d6 := K2.out.get 6 _ rfl
  have d7 := K2.out.get 7 _ rfl
  clear A B b2 hW2 hq hy
  go_enter Try.func38, Try.ntmps38
  go_upto_region 1 with (fail)
  rw [HW2.out]
  go_wp2_with fail
  refine (l00Same_any W2 (HA.out _ B2.out).fo (HB.out _ B2.out).fo).mono ?_
  rintro e w1 ⟨rfl, b1⟩
  rw [decide_eq_true (rfl : S.out = S.out)]
  have BW := Lib.hid b1
  clear b1 c3 c4 c5 c6 c7 d3 d4 d5 d6 d7 n1 n2 n3 n4
  go_wp2
  go_loopg [5] S.recs.length (fun f i wr => ∃ k : Nat, (k ≤ S.recs.length ∧ f = S.recs.length - k) ∧ i = .int .i64 k ∧ Below W2.heap.size W2 wr)
  case atStart => exact ⟨0, ⟨Nat.zero_le _, rfl⟩, rfl, BW.out⟩
  case round =>
    obtain ⟨k, ⟨hk, rfl⟩, rfl, hb⟩ := hrel
    have HBW := Lib.hid hb
    have c3 := (K1.out.below hb).get 3 _ rfl
    have d3 := (K2.out.below hb).get 3 _ rfl
    by_cases hlt : k < S.recs.length
    · have hbw := B2.out.trans (hb.mono B2.out.size)
      obtain ⟨ab, ao2, rfl, _, e0, e1, e2⟩ := FRecord_at (HA.out _ hbw).fe hlt
      obtain ⟨bb, bo2, rfl, _, f0, f1, f2⟩ := FRecord_at (HB.out _ hbw).fe hlt
      have i1 : (k : Int) < (S.recs.length : Int) := by omega
      generalize S.recs[k] = x at e0 e1 e2 f0 f1 f2
      obtain ⟨x0, x1, x2⟩ := x
      dsimp only at e0 e1 e2 f0 f1 f2
      have s0 : (x0 != x0) = false := by simp
      have s1 : (x1 != x1) = false := by simp
      have s2 : (x2 != x2) = false := by simp
      have q3 := fun d os => cell_regrown c3 d os
      have p3 := fun d os => cell_regrown d3 d os
      have g0 := fun d os => cell_regrown e0 d os
      have g1 := fun d os => cell_regrown e1 d os
      have g2 := fun d os => cell_regrown e2 d os
      have j0 := fun d os => cell_regrown f0 d os
      have j1 := fun d os => cell_regrown f1 d os
      have j2 := fun d os => cell_regrown f2 d os
      clear hbw hb d3 e0 e1 e2 f0 f1 f2
      go_wp2_with fail
      refine wp_region_quiet_below (by kernel_rfl) (by kernel_rfl) ?_
      repeat (first | go_big_quiet_skip | quiet_step (fail))
      refine wpQuiet_nil ?_
      intro _ hw'
      obtain ⟨⟨dq, osq⟩, hw''⟩ := hw'
      subst hw''
      have bq := below_regrown wr dq osq
      generalize grow (redrawn wr dq) osq = wq at bq ⊢
      have BQ := Lib.hid (HBW.out.trans (bq.mono HBW.out.size))
      clear q3 p3 g0 g1 g2 j0 j1 j2 c3 bq
      go_wp2
      go_roundg (S.recs.length - (k + 1))
      case measure => omega
      case rel => exact ⟨k + 1, ⟨by omega, rfl⟩, by go_num, BQ.out⟩
    · obtain rfl : k = S.recs.length := by omega
      clear hb d3
      go_wp2
      go_loopg [6] S.hands.length (fun f i wr => ∃ k : Nat, (k ≤ S.hands.length ∧ f = S.hands.length - k) ∧ i = .int .i64 k ∧ Below W2.heap.size W2 wr)
      case atStart => exact ⟨0, ⟨Nat.zero_le _, rfl⟩, rfl, HBW.out⟩
      case round =>
        clear c3 HBW
        obtain ⟨k, ⟨hk, rfl⟩, rfl, hb⟩ := hrel
        have HBW := Lib.hid hb
        have c5 := (K1.out.below hb).get 5 _ rfl
        have d5 := (K2.out.below hb).get 5 _ rfl
        by_cases hlt : k < S.hands.length
        · have hbw := B2.out.trans (hb.mono B2.out.size)
          obtain ⟨ab, ao2, rfl, _, e0, e1, e2⟩ := FHand_at (HA.out _ hbw).fh hlt
          obtain ⟨bb, bo2, rfl, _, f0, f1, f2⟩ := FHand_at (HB.out _ hbw).fh hlt
          have i1 : (k : Int) < (S.hands.length : Int) := by omega
          generalize S.hands[k] = x at e0 e1 e2 f0 f1 f2
          obtain ⟨x0, x1, x2⟩ := x
          dsimp only at e0 e1 e2 f0 f1 f2
          have s0 : (x0 != x0) = false := by simp
          have s1 : (x1 != x1) = false := by simp
          have s2 : (x2 != x2) = false := by simp
          have q3 := fun d os => cell_regrown c5 d os
          have p3 := fun d os => cell_regrown d5 d os
          have g0 := fun d os => cell_regrown e0 d os
          have g1 := fun d os => cell_regrown e1 d os
          have g2 := fun d os => cell_regrown e2 d os
          have j0 := fun d os => cell_regrown f0 d os
          have j1 := fun d os => cell_regrown f1 d os
          have j2 := fun d os => cell_regrown f2 d os
          clear hbw hb d5 e0 e1 e2 f0 f1 f2
          go_wp2_with fail
          refine wp_region_quiet_below (by kernel_rfl) (by kernel_rfl) ?_
          repeat (first | go_big_quiet_skip | quiet_step (fail))
          refine wpQuiet_nil ?_
          intro _ hw'
          obtain ⟨⟨dq, osq⟩, hw''⟩ := hw'
          subst hw''
          have bq := below_regrown wr dq osq
          generalize grow (redrawn wr dq) osq = wq at bq ⊢
          have BQ := Lib.hid (HBW.out.trans (bq.mono HBW.out.size))
          clear q3 p3 g0 g1 g2 j0 j1 j2 c5 bq
          go_wp2
          go_roundg (S.hands.length - (k + 1))
          case measure => omega
          case rel => exact ⟨k + 1, ⟨by omega, rfl⟩, by go_num, BQ.out⟩
        · obtain rfl : k = S.hands.length := by omega
          clear hb d5
          go_wp2
          go_loopg [7] S.wire.length (fun f i wr => ∃ k : Nat, (k ≤ S.wire.length ∧ f = S.wire.length - k) ∧ i = .int .i64 k ∧ Below W2.heap.size W2 wr)
          case atStart => exact ⟨0, ⟨Nat.zero_le _, rfl⟩, rfl, HBW.out⟩
          case round =>
            clear c5 HBW
            obtain ⟨k, ⟨hk, rfl⟩, rfl, hb⟩ := hrel
            have HBW := Lib.hid hb
            have c6 := (K1.out.below hb).get 6 _ rfl
            have d6 := (K2.out.below hb).get 6 _ rfl
            by_cases hlt : k < S.wire.length
            · have hbw := B2.out.trans (hb.mono B2.out.size)
              obtain ⟨ab, ao2, rfl, _, e0, e1, e2, e3, e4, e5⟩ := FPacket_at (HA.out _ hbw).fw hlt
              obtain ⟨bb, bo2, rfl, _, f0, f1, f2, f3, f4, f5⟩ := FPacket_at (HB.out _ hbw).fw hlt
              have i1 : (k : Int) < (S.wire.length : Int) := by omega
              generalize S.wire[k] = x at e0 e1 e2 e3 e4 e5 f0 f1 f2 f3 f4 f5
              obtain ⟨x0, x1, x2, x3, x4, x5⟩ := x
              dsimp only at e0 e1 e2 e3 e4 e5 f0 f1 f2 f3 f4 f5
              have s0 : (x0 != x0) = false := by simp
              have s1 : (x1 != x1) = false := by simp
              have s2 : (x2 != x2) = false := by simp
              have s3 : (x3 != x3) = false := by simp
              have s4 : (x4 != x4) = false := by simp
              have s5 : (x5 != x5) = false := by simp
              have q3 := fun d os => cell_regrown c6 d os
              have p3 := fun d os => cell_regrown d6 d os
              have g0 := fun d os => cell_regrown e0 d os
              have g1 := fun d os => cell_regrown e1 d os
              have g2 := fun d os => cell_regrown e2 d os
              have g3 := fun d os => cell_regrown e3 d os
              have g4 := fun d os => cell_regrown e4 d os
              have g5 := fun d os => cell_regrown e5 d os
              have j0 := fun d os => cell_regrown f0 d os
              have j1 := fun d os => cell_regrown f1 d os
              have j2 := fun d os => cell_regrown f2 d os
              have j3 := fun d os => cell_regrown f3 d os
              have j4 := fun d os => cell_regrown f4 d os
              have j5 := fun d os => cell_regrown f5 d os
              clear hbw hb d6 e0 e1 e2 e3 e4 e5 f0 f1 f2 f3 f4 f5
              go_wp2_with fail
              refine wp_region_quiet_below (by kernel_rfl) (by kernel_rfl) ?_
              repeat (first | go_big_quiet_skip | quiet_step (fail))
              refine wpQuiet_nil ?_
              intro _ hw'
              obtain ⟨⟨dq, osq⟩, hw''⟩ := hw'
              subst hw''
              have bq := below_regrown wr dq osq
              generalize grow (redrawn wr dq) osq = wq at bq ⊢
              have BQ := Lib.hid (HBW.out.trans (bq.mono HBW.out.size))
              clear q3 p3 g0 g1 g2 g3 g4 g5 j0 j1 j2 j3 j4 j5 c6 bq
              go_wp2
              go_roundg (S.wire.length - (k + 1))
              case measure => omega
              case rel => exact ⟨k + 1, ⟨by omega, rfl⟩, by go_num, BQ.out⟩
            · obtain rfl : k = S.wire.length := by omega
              have c0 := (K1.out.below hb).get 0 _ rfl
              have c1 := (K1.out.below hb).get 1 _ rfl
              have c2 := (K1.out.below hb).get 2 _ rfl
              have d0 := (K2.out.below hb).get 0 _ rfl
              have d1 := (K2.out.below hb).get 1 _ rfl
              have d2 := (K2.out.below hb).get 2 _ rfl
              have hbw := B2.out.trans (hb.mono B2.out.size)
              have KS := Lib.hid (SameDesk_same q wr (HA.out _ hbw).fl (HA.out _ hbw).fr (HB.out _ hbw).fl (HB.out _ hbw).fr)
              have HBX := Lib.hid hbw
              clear hb d6 hbw
              go_wp2_with fail
              refine KS.out.mono ?_
              rintro e w5 ⟨rfl, b5⟩
              go_wp2
              go_ret
              exact ⟨rfl, HBX.out.trans (b5.mono HBX.out.size)⟩
end Go.Proofs.Ytijpkcdalmlaiaa
namespace Go.Proofs.Ytijpkcdalmlaiaa
open Go.RowKit Go.Sort
theorem own_fsz {α : Type} {F : Flat α} {T : Nat → Prop} {w w' : World} {base : Nat} {v : Value} {xs : List α} (h : F.Own w base v xs) (hf : Fs T w w') (hT : ∀ g, v.ownBlock = some g → ¬ T g) : F.Own w' base v xs := by
  refine ⟨h.1, ?_⟩
  rcases h.2 with h2 | ⟨g, cap, cur, h1, h2, h3, h4⟩
  · exact .inl h2
  · refine .inr ⟨g, cap, cur, h1, h2, ?_, h4⟩
    rw [hf.block g (Array.getElem?_eq_some_iff.1 h3).1 (hT g (by rw [h1]; rfl))]; exact h3
theorem take_mid (A B C : List UInt8) {m : Nat} (hm : m ≤ B.length) : (A ++ (B ++ C)).take (A.length + m) = A ++ B.take m := by
  rw [List.take_append, List.take_of_length_le (by omega), show A.length + m - A.length = m by omega, List.take_append_of_le_length hm]
theorem tear_read {n sm : Nat} {t : Int} {xss : List (List Int)} {bs wk : Int} {rs : List (Int × Int × Int)} (hok : serviceOk n t xss bs sm wk = true) (h2 : sm ≤ 8) (h4 : n ≤ 6) (hx : ∀ x ∈ rs, recOk n sm x.1 x.2.1 x.2.2 = true) {sy : Nat} (hs : sy < rs.length) (hl : rs.length ≤ 1000) (L : ByteArray) (hL : L.data.toList = lineL rs[sy] ++ [10]) :
    jReadR n t xss bs sm wk (jTextB n t xss bs sm wk (rs.take sy) ++ L.extract 0 (L.size / 2)) = (rs.take sy, 0) ∧ (jTextB n t xss bs sm wk (rs.take sy) ++ L.extract 0 (L.size / 2)).size ≤ 20000 := by
  have hx' : ∀ x ∈ rs.take sy, recOk n sm x.1 x.2.1 x.2.2 = true := fun x h => hx x (List.mem_of_mem_take h)
  have e1 := jText_list (wk := wk) (bs := bs) (t := t) (xss := xss) hok hx'
  have hsz : L.size = (lineL rs[sy]).length + 1 := by
    have : L.size = L.data.toList.length := rfl
    rw [this, hL]; simp
  have hm : L.size / 2 ≤ (lineL rs[sy]).length := by omega
  have e2 : (L.extract 0 (L.size / 2)).data.toList = (lineL rs[sy]).take (L.size / 2) := by
    rw [extract_eq, mkB_data, hL]
    simp only [List.drop_zero, Nat.sub_zero]
    rw [List.take_append_of_le_length hm]
  have e3 : textL rs = textL (rs.take sy) ++ (lineL rs[sy] ++ 10 :: textL (rs.drop (sy + 1))) := by
    have happ : ∀ (xs ys : List (Int × Int × Int)), textL (xs ++ ys) = textL xs ++ textL ys := by
      intro xs ys
      induction xs with
      | nil => rfl
      | cons x r ih =>
        show lineL x ++ 10 :: textL (r ++ ys) = (lineL x ++ 10 :: textL r) ++ textL ys
        rw [ih]; simp
    conv => lhs; rw [← List.take_append_drop sy rs, List.drop_eq_getElem_cons hs]
    rw [happ]; rfl
  have e4 : (jTextB n t xss bs sm wk (rs.take sy) ++ L.extract 0 (L.size / 2)).data.toList = (textL rs).take ((textL (rs.take sy)).length + L.size / 2) := by
    rw [app_list, e1, e2, e3]
    exact (take_mid _ _ _ hm).symm
  have hline : ∀ x ∈ rs, (lineL x).length ≤ 16 := fun x hm => by
    obtain ⟨_, a, b, ha, hb, ha1, hb1⟩ := recOk_nat (hx x hm) (by omega) (by omega)
    exact recB_size (k := x.1) (s := x.2.1.toNat) (v := x.2.2.toNat) (by omega) (by omega)
  have hlen := textL_len hline
  have hsize : (jTextB n t xss bs sm wk (rs.take sy) ++ L.extract 0 (L.size / 2)).size ≤ 20000 := by
    have : (jTextB n t xss bs sm wk (rs.take sy) ++ L.extract 0 (L.size / 2)).size = ((textL rs).take ((textL (rs.take sy)).length + L.size / 2)).length := by rw [← e4]; rfl
    rw [this, List.length_take]
    omega
  refine ⟨?_, hsize⟩
  obtain ⟨h1, _⟩ := read_torn (wk := wk) (bs := bs) (t := t) (xss := xss) hok (by omega) (by omega) hx _ e4 hsize
  rw [h1]
  have hc : (jTextB n t xss bs sm wk (rs.take sy) ++ L.extract 0 (L.size / 2)).data.toList.count 10 = sy := by
    rw [app_list, e1, e2, List.count_append, textL_count, List.count_eq_zero_of_not_mem (fun h => line_no _ (List.mem_of_mem_take h)), List.length_take]
    omega
  rw [hc]

set_option maxRecDepth 100000 in
set_option maxHeartbeats 4000000 in
theorem RnTear_any {b sb sm wk n : Nat} {t bs : Int} {sv : Value} {xss : List (List Int)} {M : Nat} {B : Nat → Prop} {S : PS} {vl vr ve vh vw vo : Value} (w : World) (P : RunIs w b sb B S vl vr ve vh vw vo) (V : SvF M w sb n t sv xss bs sm wk) (hB : ∀ k, B k → M ≤ k) (hI : PInv n sm wk S) (hs : 1 ≤ sm ∧ sm ≤ 8) (hok : serviceOk n t xss bs sm wk = true) (hn6 : n ≤ 6) :
    Calls Try.prog 101 #[.pointer (some ⟨b, 0, none⟩)] w (DoR b sb B (if S.sy = S.recs.length then (4, S) else (0, crashS sm S)) w) := by
  have HBM := Lib.hid hB
  have HIN := Lib.hid hI
  have P0 := Lib.hid P
  have V0 := Lib.hid V
  obtain ⟨ea, ec0, hve, hec, _⟩ := P.oe.shape
  obtain ⟨⟨q0, _, _, _, q4⟩, q5, _⟩ := P.get
  rw [hve] at q4
  have kq4 := fun d os => cell_regrown q4 d os
  have kq5 := fun d os => cell_regrown q5 d os
  clear P V hB q4 q5 q0
  by_cases h : S.sy = S.recs.length
  · have t1 : ((S.sy : Int) == (S.recs.length : Int)) = true := by rw [beq_iff_eq, h]
    rw [if_pos h]
    clear h
    go_enter Try.func101, Try.ntmps101
    go_wp2_with fail
    refine wp_region_quiet_below (by kernel_rfl) (by kernel_rfl) ?_
    repeat (first | go_big_quiet_skip | quiet_step (fail))
    refine wpQuiet_nil ?_
    intro _ hw'
    obtain ⟨⟨dq, osq⟩, hw''⟩ := hw'
    subst hw''
    have bq := below_regrown w dq osq
    generalize grow (redrawn w dq) osq = wq at bq ⊢
    clear kq4 kq5
    go_wp2
    go_ret
    exact DoR.mk rfl ((P0.out.below bq).mono (fun k hk => .inl hk)) (Fs.of_below bq)
  · have t1 : ((S.sy : Int) == (S.recs.length : Int)) = false := by rw [beq_eq_false_iff_ne]; omega
    rw [if_neg h]
    have hsl : S.sy < S.recs.length := by have := hI.sy; omega
    obtain ⟨_, l0, r0, hla, hcr⟩ := hI.crash
    have HLA := Lib.hid hla
    have HCR := Lib.hid hcr
    obtain ⟨eg, ec, hvg, heg⟩ := P0.out.oe.form (by omega)
    rw [hvg] at hve
    simp only [Value.slice.injEq] at hve
    obtain ⟨rfl, _, rfl⟩ := hve
    subst hvg
    obtain ⟨r0c, r1c, r2c⟩ := FRecord_cell P0.out.oe hsl
    have hrx := hI.recs _ (List.getElem_mem hsl)
    have htr := fun L hL => tear_read hok hs.2 hn6 hI.recs hsl (by have := hI.len; omega) L hL
    generalize hx : S.recs[S.sy] = x at r0c r1c r2c hrx htr
    obtain ⟨x0, x1, x2⟩ := x
    obtain ⟨hk3, xa, xb, hxa, hxb, hxa1, hxb1⟩ := recOk_nat hrx (by omega) (by omega)
    dsimp only at hxa hxb r0c r1c r2c hk3
    subst hxa hxb
    obtain ⟨L, hL⟩ : ∃ L, recB x0 xa xb ++ (⟨#[10]⟩ : ByteArray) = L := ⟨_, rfl⟩
    have hLl : L.data.toList = lineL (x0, (xa : Int), (xb : Int)) ++ [10] := by
      rw [← hL, app_list]
      unfold lineL
      simp
    have hLs : L.size ≤ 100 := by
      have e1 : L.size = L.data.toList.length := rfl
      have e2 : (lineL (x0, (xa : Int), (xb : Int))).length = (recB x0 xa xb).size := rfl
      have e3 := recB_size (k := x0) (s := xa) (v := xb) (by omega) (by omega)
      rw [e1, hLl, List.length_append, e2]
      simp; omega
    obtain ⟨hrd, hsz⟩ := htr L hLl
    have HLN := Lib.hid hL
    have HRD := Lib.hid hrd
    have HSZ := Lib.hid hsz
    have HSY := Lib.hid (Nat.le_of_lt hsl)
    have HRL := Lib.hid (show S.recs.length ≤ 1000 by have := hI.len; omega)
    have s0 : (0 : Int) ≤ (S.sy : Int) := by omega
    have s1 : (S.sy : Int) < (S.recs.length : Int) := by omega
    have s2 : (S.sy : Int) ≤ (ec : Int) := by omega
    clear h hI hla hcr hx hrx htr hL hLl hrd hsz
    go_enter Try.func101, Try.ntmps101
    go_wp2_with fail
    refine wp_region_quiet_below (by kernel_rfl) (by kernel_rfl) ?_
    repeat (first | go_big_quiet_skip | quiet_step (fail))
    refine wpQuiet_nil ?_
    intro _ hw'
    obtain ⟨⟨dq, osq⟩, hw''⟩ := hw'
    subst hw''
    have bq := below_regrown w dq osq
    generalize grow (redrawn w dq) osq = wq at bq ⊢
    have P1 := Lib.hid (P0.out.below bq)
    have F1 := Lib.hid (Fs.of_below (S := B) bq)
    have V1 := Lib.hid (V0.out.step (bq.mono V0.out.le))
    have CW := Lib.hid (show ∀ W, Below wq.heap.size wq W → (W.cell? ⟨b, 4, none⟩ = some (.slice (some ⟨eg, 0, none⟩) S.recs.length ec) ∧ W.cell? ⟨b, 5, none⟩ = some (.int .i64 S.sy) ∧ W.cell? ⟨eg, S.sy * 3, none⟩ = some (.int .i64 x0) ∧ W.cell? ⟨eg, S.sy * 3 + 1, none⟩ = some (.int .i64 xa) ∧ W.cell? ⟨eg, S.sy * 3 + 2, none⟩ = some (.int .i64 xb)) from fun W h => by
      have bb := bq.trans (h.mono bq.size)
      exact ⟨(P1.out.below h).get.1.2.2.2.2, (P1.out.below h).get.2.1, (bb.cell (p := ⟨eg, S.sy * 3, none⟩) heg).trans r0c, (bb.cell (p := ⟨eg, S.sy * 3 + 1, none⟩) heg).trans r1c, (bb.cell (p := ⟨eg, S.sy * 3 + 2, none⟩) heg).trans r2c⟩)
    clear kq4 kq5 r0c r1c r2c bq
    go_wp2_with fail
    refine wpX_start (fun W => W.cell? ⟨b, 4, none⟩ = some (.slice (some ⟨eg, 0, none⟩) S.recs.length ec) ∧ W.cell? ⟨b, 5, none⟩ = some (.int .i64 S.sy) ∧ W.cell? ⟨eg, S.sy * 3, none⟩ = some (.int .i64 x0) ∧ W.cell? ⟨eg, S.sy * 3 + 1, none⟩ = some (.int .i64 xa) ∧ W.cell? ⟨eg, S.sy * 3 + 2, none⟩ = some (.int .i64 xb)) [] (by kernel_rfl) ?_
    have hC := CW.out wq.drew (Below.refl wq.heap.size wq).drew
    refine wpX_free (i := 0) (v := ?_) rfl (by kernel_rfl) (fun _ _ _ h => h) rfl (fun w' => ?_) ?_
    rotate_left
    · go_simp; try with_reducible rfl
    try simp only [Act.put, List.setIfInBounds_toArray, List.set_cons_zero, List.set_cons_succ]
    refine wpX_free (i := 1) (v := ?_) rfl (by kernel_rfl) (fun _ _ _ h => h) rfl (fun w' => ?_) ?_
    rotate_left
    · go_simp; try with_reducible rfl
    try simp only [Act.put, List.setIfInBounds_toArray, List.set_cons_zero, List.set_cons_succ]
    refine wpX_free (i := 2) (v := ?_) rfl (by kernel_rfl) (fun _ _ _ h => h) rfl (fun w' => ?_) ?_
    rotate_left
    · go_simp; try with_reducible rfl
    try simp only [Act.put, List.setIfInBounds_toArray, List.set_cons_zero, List.set_cons_succ]
    refine wpX_free (i := 3) (v := ?_) rfl (by kernel_rfl) (fun _ _ _ h => h) rfl (fun w' => ?_) ?_
    rotate_left
    · go_simp; try with_reducible rfl
    try simp only [Act.put, List.setIfInBounds_toArray, List.set_cons_zero, List.set_cons_succ]
    refine wpX_load (i := 4) (v := ?_) rfl (by kernel_rfl) (fun _ _ _ h => h) hC rfl (fun w' hw' => ?_) ?_
    rotate_left
    · obtain ⟨k1, k2, k3, k4, k5⟩ := hw'; go_simp; try with_reducible rfl
    try simp only [Act.put, List.setIfInBounds_toArray, List.set_cons_zero, List.set_cons_succ]
    refine wpX_free (i := 5) (v := ?_) rfl (by kernel_rfl) (fun _ _ _ h => h) rfl (fun w' => ?_) ?_
    rotate_left
    · go_simp; try with_reducible rfl
    try simp only [Act.put, List.setIfInBounds_toArray, List.set_cons_zero, List.set_cons_succ]
    refine wpX_free (i := 6) (v := ?_) rfl (by kernel_rfl) (fun _ _ _ h => h) rfl (fun w' => ?_) ?_
    rotate_left
    · go_simp; try with_reducible rfl
    try simp only [Act.put, List.setIfInBounds_toArray, List.set_cons_zero, List.set_cons_succ]
    refine wpX_free (i := 7) (v := ?_) rfl (by kernel_rfl) (fun _ _ _ h => h) rfl (fun w' => ?_) ?_
    rotate_left
    · go_simp; try with_reducible rfl
    try simp only [Act.put, List.setIfInBounds_toArray, List.set_cons_zero, List.set_cons_succ]
    refine wpX_free (i := 8) (v := ?_) rfl (by kernel_rfl) (fun _ _ _ h => h) rfl (fun w' => ?_) ?_
    rotate_left
    · go_simp; try with_reducible rfl
    try simp only [Act.put, List.setIfInBounds_toArray, List.set_cons_zero, List.set_cons_succ]
    refine wpX_load (i := 9) (v := ?_) rfl (by kernel_rfl) (fun _ _ _ h => h) hC rfl (fun w' hw' => ?_) ?_
    rotate_left
    · obtain ⟨k1, k2, k3, k4, k5⟩ := hw'; go_simp; try with_reducible rfl
    try simp only [Act.put, List.setIfInBounds_toArray, List.set_cons_zero, List.set_cons_succ]
    refine wpX_free (i := 10) (v := ?_) rfl (by kernel_rfl) (fun _ _ _ h => h) rfl (fun w' => ?_) ?_
    rotate_left
    · go_simp; try with_reducible rfl
    try simp only [Act.put, List.setIfInBounds_toArray, List.set_cons_zero, List.set_cons_succ]
    refine wpX_load (i := 11) (v := ?_) rfl (by kernel_rfl) (fun _ _ _ h => h) hC rfl (fun w' hw' => ?_) ?_
    rotate_left
    · obtain ⟨k1, k2, k3, k4, k5⟩ := hw'; go_simp; try with_reducible rfl
    try simp only [Act.put, List.setIfInBounds_toArray, List.set_cons_zero, List.set_cons_succ]
    refine wpX_one (i := 12) rfl (by kernel_rfl) rfl ?_
    intro K hK
    go_simp
    go_at_call 121
    refine (l09Line_any x0 xa xb _ hk3 (by omega) (by omega)).mono ?_
    rintro e w2 ⟨rfl, b2⟩
    have b20 := (Below.refl wq.heap.size wq).drew.trans b2
    have hC := CW.out w2 b20
    refine hK _ _ hC ?_
    clear hK K
    have P2 := Lib.hid (P1.out.below b20)
    have F2 := Lib.hid (F1.out.trans (Fs.of_below b20))
    have V2 := Lib.hid (V1.out.step (b20.mono V1.out.le))
    clear b2 b20
    try simp only [Act.put, List.setIfInBounds_toArray, List.set_cons_zero, List.set_cons_succ]
    refine wpX_free (i := 13) (v := ?_) rfl (by kernel_rfl) (fun _ _ _ h => h) rfl (fun w' => ?_) ?_
    rotate_left
    · go_simp; try with_reducible rfl
    try simp only [Act.put, List.setIfInBounds_toArray, List.set_cons_zero, List.set_cons_succ]
    refine wpX_rest (t := []) (l := []) rfl (by kernel_rfl) (by kernel_rfl) ?_
    clear hC
    go_simp
    go_wp2_with fail
    rw [HLN.out]
    obtain ⟨va, vc, hsv, _⟩ : ∃ va vc, sv = .slice va xss.length vc ∧ True := by
      obtain ⟨a, c, us, h, _⟩ := V2.out.now.2
      exact ⟨a, c, h, trivial⟩
    obtain ⟨vn, hvn⟩ : ∃ vn, xss.length = vn := ⟨_, rfl⟩
    rw [hvn] at hsv
    subst hsv
    have CX := Lib.hid (show ∀ W, Below w2.heap.size w2 W → (W.cell? ⟨b, 0, none⟩ = some (.pointer (some ⟨sb, 0, none⟩)) ∧ W.cell? ⟨sb, 0, none⟩ = some (.int .i64 n) ∧ W.cell? ⟨sb, 1, none⟩ = some (.int .i64 t) ∧ W.cell? ⟨sb, 2, none⟩ = some (.slice va vn vc) ∧ W.cell? ⟨sb, 3, none⟩ = some (.int .i64 bs) ∧ W.cell? ⟨sb, 4, none⟩ = some (.int .i64 sm) ∧ W.cell? ⟨sb, 5, none⟩ = some (.int .i64 wk) ∧ W.cell? ⟨b, 4, none⟩ = some (.slice (some ⟨eg, 0, none⟩) S.recs.length ec) ∧ W.cell? ⟨b, 5, none⟩ = some (.int .i64 S.sy)) from fun W h => by
      obtain ⟨c0, c1, c2, c3, c4, c5⟩ := servCells (V2.out.get W (h.mono V2.out.le)).1
      exact ⟨(P2.out.below h).c0, c0, c1, c2, c3, c4, c5, (P2.out.below h).get.1.2.2.2.2, (P2.out.below h).get.2.1⟩)
    have hq2 : IntKind.i64.wrap ((L.size : Int) / 2) = (L.size : Int) / 2 := IntWalk.i64_in _ (by omega)
    have hq3 : (L.size : Int) / 2 ≤ (L.size : Int) := by omega
    have hq4 : (0 : Int) ≤ (L.size : Int) / 2 := by omega
    have hq5 : ((L.size : Int) / 2).toNat = L.size / 2 := by omega
    clear hvn
    refine wpX_start (fun W => W.cell? ⟨b, 0, none⟩ = some (.pointer (some ⟨sb, 0, none⟩)) ∧ W.cell? ⟨sb, 0, none⟩ = some (.int .i64 n) ∧ W.cell? ⟨sb, 1, none⟩ = some (.int .i64 t) ∧ W.cell? ⟨sb, 2, none⟩ = some (.slice va vn vc) ∧ W.cell? ⟨sb, 3, none⟩ = some (.int .i64 bs) ∧ W.cell? ⟨sb, 4, none⟩ = some (.int .i64 sm) ∧ W.cell? ⟨sb, 5, none⟩ = some (.int .i64 wk) ∧ W.cell? ⟨b, 4, none⟩ = some (.slice (some ⟨eg, 0, none⟩) S.recs.length ec) ∧ W.cell? ⟨b, 5, none⟩ = some (.int .i64 S.sy)) [] (by kernel_rfl) ?_
    have hC := CX.out w2.drew (Below.refl w2.heap.size w2).drew
    refine wpX_free (i := 0) (v := ?_) rfl (by kernel_rfl) (fun _ _ _ h => h) rfl (fun w' => ?_) ?_
    rotate_left
    · go_simp; try with_reducible rfl
    try simp only [Act.put, List.setIfInBounds_toArray, List.set_cons_zero, List.set_cons_succ]
    refine wpX_free (i := 1) (v := ?_) rfl (by kernel_rfl) (fun _ _ _ h => h) rfl (fun w' => ?_) ?_
    rotate_left
    · go_simp; try with_reducible rfl
    try simp only [Act.put, List.setIfInBounds_toArray, List.set_cons_zero, List.set_cons_succ]
    refine wpX_free (i := 2) (v := ?_) rfl (by kernel_rfl) (fun _ _ _ h => h) rfl (fun w' => ?_) ?_
    rotate_left
    · go_simp; try with_reducible rfl
    try simp only [Act.put, List.setIfInBounds_toArray, List.set_cons_zero, List.set_cons_succ]
    refine wpX_load (i := 3) (v := ?_) rfl (by kernel_rfl) (fun _ _ _ h => h) hC rfl (fun w' hw' => ?_) ?_
    rotate_left
    · obtain ⟨k1, k2, k3, k4, k5, k6, k7, k8, k9⟩ := hw'; go_simp; try with_reducible rfl
    try simp only [Act.put, List.setIfInBounds_toArray, List.set_cons_zero, List.set_cons_succ]
    refine wpX_free (i := 4) (v := ?_) rfl (by kernel_rfl) (fun _ _ _ h => h) rfl (fun w' => ?_) ?_
    rotate_left
    · go_simp; try with_reducible rfl
    try simp only [Act.put, List.setIfInBounds_toArray, List.set_cons_zero, List.set_cons_succ]
    refine wpX_load (i := 5) (v := ?_) rfl (by kernel_rfl) (fun _ _ _ h => h) hC rfl (fun w' hw' => ?_) ?_
    rotate_left
    · obtain ⟨k1, k2, k3, k4, k5, k6, k7, k8, k9⟩ := hw'; go_simp; try with_reducible rfl
    try simp only [Act.put, List.setIfInBounds_toArray, List.set_cons_zero, List.set_cons_succ]
    refine wpX_free (i := 6) (v := ?_) rfl (by kernel_rfl) (fun _ _ _ h => h) rfl (fun w' => ?_) ?_
    rotate_left
    · go_simp; try with_reducible rfl
    try simp only [Act.put, List.setIfInBounds_toArray, List.set_cons_zero, List.set_cons_succ]
    refine wpX_free (i := 7) (v := ?_) rfl (by kernel_rfl) (fun _ _ _ h => h) rfl (fun w' => ?_) ?_
    rotate_left
    · go_simp; try with_reducible rfl
    try simp only [Act.put, List.setIfInBounds_toArray, List.set_cons_zero, List.set_cons_succ]
    refine wpX_free (i := 8) (v := ?_) rfl (by kernel_rfl) (fun _ _ _ h => h) rfl (fun w' => ?_) ?_
    rotate_left
    · go_simp; try with_reducible rfl
    try simp only [Act.put, List.setIfInBounds_toArray, List.set_cons_zero, List.set_cons_succ]
    refine wpX_free (i := 9) (v := ?_) rfl (by kernel_rfl) (fun _ _ _ h => h) rfl (fun w' => ?_) ?_
    rotate_left
    · go_simp; try with_reducible rfl
    try simp only [Act.put, List.setIfInBounds_toArray, List.set_cons_zero, List.set_cons_succ]
    refine wpX_load (i := 10) (v := ?_) rfl (by kernel_rfl) (fun _ _ _ h => h) hC rfl (fun w' hw' => ?_) ?_
    rotate_left
    · obtain ⟨k1, k2, k3, k4, k5, k6, k7, k8, k9⟩ := hw'; go_simp; try with_reducible rfl
    try simp only [Act.put, List.setIfInBounds_toArray, List.set_cons_zero, List.set_cons_succ]
    refine wpX_free (i := 11) (v := ?_) rfl (by kernel_rfl) (fun _ _ _ h => h) rfl (fun w' => ?_) ?_
    rotate_left
    · go_simp; try with_reducible rfl
    try simp only [Act.put, List.setIfInBounds_toArray, List.set_cons_zero, List.set_cons_succ]
    refine wpX_free (i := 12) (v := ?_) rfl (by kernel_rfl) (fun _ _ _ h => h) rfl (fun w' => ?_) ?_
    rotate_left
    · go_simp; try with_reducible rfl
    try simp only [Act.put, List.setIfInBounds_toArray, List.set_cons_zero, List.set_cons_succ]
    refine wpX_free (i := 13) (v := ?_) rfl (by kernel_rfl) (fun _ _ _ h => h) rfl (fun w' => ?_) ?_
    rotate_left
    · go_simp; try with_reducible rfl
    try simp only [Act.put, List.setIfInBounds_toArray, List.set_cons_zero, List.set_cons_succ]
    refine wpX_free (i := 14) (v := ?_) rfl (by kernel_rfl) (fun _ _ _ h => h) rfl (fun w' => ?_) ?_
    rotate_left
    · go_simp; try with_reducible rfl
    try simp only [Act.put, List.setIfInBounds_toArray, List.set_cons_zero, List.set_cons_succ]
    refine wpX_load (i := 15) (v := ?_) rfl (by kernel_rfl) (fun _ _ _ h => h) hC rfl (fun w' hw' => ?_) ?_
    rotate_left
    · obtain ⟨k1, k2, k3, k4, k5, k6, k7, k8, k9⟩ := hw'; go_simp; try with_reducible rfl
    try simp only [Act.put, List.setIfInBounds_toArray, List.set_cons_zero, List.set_cons_succ]
    refine wpX_free (i := 16) (v := ?_) rfl (by kernel_rfl) (fun _ _ _ h => h) rfl (fun w' => ?_) ?_
    rotate_left
    · go_simp; try with_reducible rfl
    try simp only [Act.put, List.setIfInBounds_toArray, List.set_cons_zero, List.set_cons_succ]
    refine wpX_free (i := 18) (v := ?_) rfl (by kernel_rfl) (fun _ _ _ h => h) rfl (fun w' => ?_) ?_
    rotate_left
    · go_simp; try with_reducible rfl
    try simp only [Act.put, List.setIfInBounds_toArray, List.set_cons_zero, List.set_cons_succ]
    refine wpX_free (i := 19) (v := ?_) rfl (by kernel_rfl) (fun _ _ _ h => h) rfl (fun w' => ?_) ?_
    rotate_left
    · go_simp; try with_reducible rfl
    try simp only [Act.put, List.setIfInBounds_toArray, List.set_cons_zero, List.set_cons_succ]
    refine wpX_free (i := 20) (v := ?_) rfl (by kernel_rfl) (fun _ _ _ h => h) rfl (fun w' => ?_) ?_
    rotate_left
    · go_simp; try with_reducible rfl
    try simp only [Act.put, List.setIfInBounds_toArray, List.set_cons_zero, List.set_cons_succ]
    refine wpX_free (i := 21) (v := ?_) rfl (by kernel_rfl) (fun _ _ _ h => h) rfl (fun w' => ?_) ?_
    rotate_left
    · go_simp; try with_reducible rfl
    try simp only [Act.put, List.setIfInBounds_toArray, List.set_cons_zero, List.set_cons_succ]
    refine wpX_free (i := 22) (v := ?_) rfl (by kernel_rfl) (fun _ _ _ h => h) rfl (fun w' => ?_) ?_
    rotate_left
    · go_simp; try with_reducible rfl
    try simp only [Act.put, List.setIfInBounds_toArray, List.set_cons_zero, List.set_cons_succ]
    refine wpX_one (i := 17) rfl (by kernel_rfl) rfl ?_
    intro K hK
    go_simp
    go_at_call 122
    refine (SpecJournalText_any n t bs sm wk _ (V2.out.step ((Below.refl w2.heap.size w2).drew.mono V2.out.le)).now.2 (Flat.Sl.take' (P2.out.below (Below.refl w2.heap.size w2).drew).oe.sl HSY.out) (by have := HRL.out; rw [List.length_take]; omega)).mono ?_
    rintro e w3 ⟨rfl, b3⟩
    have hJs : (jTextB n t xss bs sm wk (S.recs.take S.sy)).size ≤ 20000 := by have := HSZ.out; rw [ByteArray.size_append] at this; omega
    generalize jTextB n t xss bs sm wk (S.recs.take S.sy) = J at HRD HSZ hJs ⊢
    have hJ1 : ¬ 9223372036854775807 < J.size + min (L.size / 2) L.size := by omega
    have hJ2 : (9223372036854775807 < J.size + min (L.size / 2) L.size) = False := by rw [eq_iff_iff]; exact ⟨fun h => hJ1 h, False.elim⟩
    have b30 := (Below.refl w2.heap.size w2).drew.trans b3
    have hC := CX.out w3 b30
    refine hK _ _ hC ?_
    clear hK K
    have P3 := Lib.hid (P2.out.below b30)
    have F3 := Lib.hid (F2.out.trans (Fs.of_below b30))
    have V3 := Lib.hid (V2.out.step (b30.mono V2.out.le))
    clear b3 b30
    try simp only [Act.put, List.setIfInBounds_toArray, List.set_cons_zero, List.set_cons_succ]
    refine wpX_free (i := 23) (v := ?_) rfl (by kernel_rfl) (fun _ _ _ h => h) rfl (fun w' => ?_) ?_
    rotate_left
    · go_simp; try with_reducible rfl
    try simp only [Act.put, List.setIfInBounds_toArray, List.set_cons_zero, List.set_cons_succ]
    refine wpX_free (i := 24) (v := ?_) rfl (by kernel_rfl) (fun _ _ _ h => h) rfl (fun w' => ?_) ?_
    rotate_left
    · go_simp; try with_reducible rfl
    try simp only [Act.put, List.setIfInBounds_toArray, List.set_cons_zero, List.set_cons_succ]
    refine wpX_rest (t := []) (l := []) rfl (by kernel_rfl) (by kernel_rfl) ?_
    clear hC
    go_simp
    obtain ⟨c0, c1, c2, c3, c4, c5⟩ := servCells V3.out.now.1
    have q0 := P3.out.c0
    go_wp2_with fail
    refine (SpecReadJournal_any n t bs sm wk _ _ V3.out.now.2 (by have := HSZ.out; omega)).mono ?_
    rintro e w5 ⟨rv, rfl, o5, b5⟩
    rw [HRD.out] at o5 ⊢
    have o5 : FRecord.Own w5 w3.heap.size rv (S.recs.take S.sy) := o5
    have P5 := Lib.hid (P3.out.below b5)
    have F5 := Lib.hid (F3.out.trans (Fs.of_below b5))
    have V5 := Lib.hid (V3.out.step (b5.mono V3.out.le))
    have hb3 := P3.out.blt
    have O5 := Lib.hid o5
    clear o5 b5 c0 c1 c2 c3 c4 c5 q0
    unfold tupVI
    go_wp2_with fail
    refine (RnBack_any (rs := S.recs.take S.sy) _ P5.out V5.out HBM.out (fun W hF => (own_fsz O5.out hF (fun g hg e => by have := (World.ownsRow.lt O5.out g hg).1; omega)).sl) HLA.out (fun x hx => HIN.out.recs x (List.mem_of_mem_take hx)) hs hn6).mono ?_
    rintro e w6 ⟨rfl, ⟨_, _, _, _, _, _, P6⟩, F6⟩
    rw [show (S.recs.take S.sy).length = S.sy by rw [List.length_take]; have := HSY.out; omega] at P6
    have P6 := Lib.hid (P6.mono (Bm.mono F5.out.size))
    have F6 := Lib.hid (F5.out.trans F6)
    go_wp2
    go_ret
    exact DoR.mk (congrArg (fun T => ((0 : Int), T)) HCR.out) P6.out F6.out
end Go.Proofs.Ytijpkcdalmlaiaa
