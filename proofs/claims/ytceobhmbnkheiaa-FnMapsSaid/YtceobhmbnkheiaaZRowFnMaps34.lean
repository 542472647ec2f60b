/-
  FnMaps: the law answers true for all texts of bytes.
-/
import Derived.Test.YtceobhmbnkheiaaZRowFnMaps7
import Derived.Test.YtceobhmbnkheiaaZRowFnMaps22
import Derived.Test.YtceobhmbnkheiaaZRowFnMaps33
import Derived.Test.YtceobhmbnkheiaaZRowFnMaps25
import Derived.Test.YtceobhmbnkheiaaZRowFnMaps30
import Derived.Test.YtceobhmbnkheiaaZRowFnMaps31
import Derived.Test.YtceobhmbnkheiaaZRowFnMaps27
import Derived.Test.YtceobhmbnkheiaaZRowFnMaps28
set_option linter.unusedVariables false
set_option linter.unusedSimpArgs false
namespace Go.Proofs.Ytceobhmbnkheiaa
open Go.RowKit Go.Sort
set_option maxRecDepth 100000 in
set_option maxHeartbeats 16000000 in
theorem FnMaps_walk {xs ys : List Int} (a0 a1 : Option Addr) (n0 n1 c0 c1 : Nat) (w : World) (hn0 : n0 ≤ maxLen) (hn1 : n1 ≤ maxLen) (hx : xs.length = n0) (hr : Rd w a0 (xs.map (.int .u8))) (hb : ∀ x ∈ xs, 0 ≤ x ∧ x < 256)
    (hx1 : ys.length = n1) (hr1 : Rd w a1 (ys.map (.int .u8))) (hb1 : ∀ x ∈ ys, 0 ≤ x ∧ x < 256) :
    Calls Try.prog 4 #[.slice a0 n0 c0, .slice a1 n1 c1] w fun e w' => e = .returned (.bool true) ∧ Below w.heap.size w w' := by
  have HR := Lib.hid hr
  have HB := Lib.hid hb
  have HX := Lib.hid hx
  have HR1 := Lib.hid (fun W (h : Below w.heap.size w W) => hr1.below h)
  have HB1 := Lib.hid hb1
  have HX1 := Lib.hid hx1
  have HN0 := Lib.hid hn0
  have HN1 := Lib.hid hn1
  clear hr hb hx hr1 hb1 hx1 hn0 hn1
  generalize hd0 : decide (4096 < n0) = d0
  generalize hd1 : decide (4096 < n1) = d1
  have HD0 := Lib.hid hd0
  have HD1 := Lib.hid hd1
  clear hd0 hd1
  cases d0
  case true =>
    go_enter Try.func4, Try.ntmps4
    go_wp2_with fail
    refine (f6big_any a0 n0 c0 _ HN0.out).mono ?_
    rintro e w1 ⟨rfl, rfl⟩
    rw [HD0.out]
    go_wp2
    go_ret
    exact ⟨rfl, Below.refl _ _⟩
  case false =>
    cases d1
    case true =>
      go_enter Try.func4, Try.ntmps4
      go_wp2_with fail
      refine (f6big_any a0 n0 c0 _ HN0.out).mono ?_
      rintro e w1 ⟨rfl, rfl⟩
      rw [HD0.out]
      go_wp2_with fail
      refine (f6big_any a1 n1 c1 _ HN1.out).mono ?_
      rintro e w1 ⟨rfl, rfl⟩
      rw [HD1.out]
      go_wp2
      go_ret
      exact ⟨rfl, Below.refl _ _⟩
    case false =>
      have h40 := Lib.hid (show n0 ≤ 4096 by have := HD0.out; rw [decide_eq_false_iff_not] at this; omega)
      have h41 := Lib.hid (show n1 ≤ 4096 by have := HD1.out; rw [decide_eq_false_iff_not] at this; omega)
      go_enter Try.func4, Try.ntmps4
      go_wp2_with fail
      refine (f6big_any a0 n0 c0 _ HN0.out).mono ?_
      rintro e w1 ⟨rfl, rfl⟩
      rw [HD0.out]
      go_wp2_with fail
      refine (f6big_any a1 n1 c1 _ HN1.out).mono ?_
      rintro e w1 ⟨rfl, rfl⟩
      rw [HD1.out]
      go_wp2_with fail
      refine (P6Maps_any9 a0 n0 c0 4 _ h40.out HX.out HR.out HB.out (by decide) (by decide)).mono ?_
      rintro e w1 ⟨m, t, v, ms, rfl, hm4, hok, hl3, o1, b1⟩
      have HV := Lib.hid hok
      obtain ⟨⟨hm1, hm6⟩, ⟨ht1, ht60⟩, _⟩ := id hok
      have hm1' : 1 ≤ m := by omega
      have hm6' : m ≤ 6 := by omega
      have ht60' : t ≤ 60 := by omega
      have HT9 := Lib.hid hl3
      clear hok hm1 hm6 ht1 ht60 hl3
      obtain ⟨va1, vn1, vc1, rfl, _⟩ := o1.formJ
      obtain ⟨W1, hW⟩ : ∃ W, W = w1.alloc (.cells #[.int .i64 m, .int .i64 t, .slice va1 vn1 vc1] 26) := ⟨_, rfl⟩
      have ba : Below w1.heap.size w1 W1 := by rw [hW]; exact (Below.refl _ _).alloc (Nat.le_refl _) _
      have D := Lib.hid (b1.trans (ba.mono b1.size))
      have XM := Lib.hid (fun W (h : Below W1.heap.size W1 W) => (show MpAt W1 w1.heap.size m t (.slice va1 vn1 vc1) by rw [hW]; exact MpAt.new w1 m t _).below h)
      have SM := Lib.hid (fun W (h : Below W1.heap.size W1 W) => (o1.sl.below ba).below h)
      have HW := Lib.hid hW.symm
      clear hW ba b1 o1
      go_upto_region 4 with (fail)
      rw [HW.out]
      clear HW
      obtain ⟨xM0, xM1, xM2, xM3⟩ := XM.out _ (Below.refl _ _)
      go_wp2_with fail
      refine (P6MapsOf_any a1 n1 c1 m _ h41.out HX1.out (HR1.out _ D.out) HB1.out hm1' hm6').mono ?_
      rintro e w2 ⟨u, r, ns, rfl, hok2, hl2, oo, bb⟩
      obtain ⟨va2, vn2, vc2, rfl, _⟩ := oo.formJ
      obtain ⟨W2, hW⟩ : ∃ W, W = w2.alloc (.cells #[.int .i64 m, .int .i64 u, .slice va2 vn2 vc2] 26) := ⟨_, rfl⟩
      have ba : Below w2.heap.size w2 W2 := by rw [hW]; exact (Below.refl _ _).alloc (Nat.le_refl _) _
      have bc : Below W1.heap.size W1 W2 := bb.trans (ba.mono bb.size)
      have D := Lib.hid (D.out.trans (bc.mono D.out.size))
      have XN := Lib.hid (fun W (h : Below W2.heap.size W2 W) => (show MpAt W2 w2.heap.size m u (.slice va2 vn2 vc2) by rw [hW]; exact MpAt.new w2 m u _).below h)
      have SN := Lib.hid (fun W (h : Below W2.heap.size W2 W) => (oo.sl.below ba).below h)
      have XM := Lib.hid (fun W (h : Below W2.heap.size W2 W) => XM.out W (bc.trans (h.mono bc.size)))
      have SM := Lib.hid (fun W (h : Below W2.heap.size W2 W) => SM.out W (bc.trans (h.mono bc.size)))
      have HW := Lib.hid hW.symm
      clear hW ba bc bb oo
      clear xM0 xM1 xM2 xM3
      go_upto_region 5 with (fail)
      rw [HW.out]
      clear HW
      have HV2 := Lib.hid hok2
      have HT4 := Lib.hid hl2
      have hu60' : u ≤ 60 := by have := hl2.2; omega
      have HVT := Lib.hid (tidy_ok HV.out).1
      have HCT := Lib.hid ((tidy_ok HV.out).2.2 m)
      have hlen : ms.length * ns.length ≤ 60 := Nat.le_trans (Nat.mul_le_mul HT9.out.1 hl2.1) (by decide)
      have htu : t * u ≤ 60 := Nat.le_trans (Nat.mul_le_mul HT9.out.2 hl2.2) (by decide)
      have hvh : mapsOk m ((t * u : Nat) : Int) (thenM ms ns) := by rw [Int.natCast_mul]; exact then_ok HV.out HV2.out (by rw [← Int.natCast_mul]; omega) hlen
      have HTC := Lib.hid (show mulC m (chainM m ms) (chainM m ns) = chainM m (thenM ms ns) from (then_chain (fun x hx => by
        obtain ⟨_, _, _, hr, _⟩ := HV.out
        have := hr x hx
        exact ⟨by omega, this.2.2⟩)).symm)
      have CX := Lib.hid (chain_rowsB HV.out)
      have CY := Lib.hid (chain_rowsB HV2.out)
      have KX := Lib.hid (chain_ok HV.out)
      have KY := Lib.hid (chain_ok HV2.out)
      have DX := Lib.hid (chain_rowsD HV.out)
      have HVD := Lib.hid (draws_ok HV.out)
      have HCD := Lib.hid (draws_chain HV.out)
      have TM1 := Lib.hid (fun W v1 v2 (ha : SlM W v1 ms) (hd : SlM W v2 ns) => ImplThenMaps_any m t u W ha hd HV.out HV2.out htu hlen)
      have TM2 := Lib.hid (fun W v1 v2 (ha : SlM W v1 ms) (hd : SlM W v2 ns) => SpecThenMaps_any m t u W ha hd HV.out HV2.out htu hlen)
      have TC := Lib.hid (fun W v1 v2 (ha : SlII W v1 (chainM m ms)) (hd : SlII W v2 (chainM m ns)) => ImplThenChain_any m t u W ha hd CX.out CY.out KX.out KY.out ht60' hu60' hm6' htu)
      generalize t * u = P at htu hvh TM1 TM2 TC
      have HVH := Lib.hid hvh
      clear hok2 hl2 hlen hvh
      obtain ⟨xM0, xM1, xM2, xM3⟩ := XM.out _ (Below.refl _ _)
      go_wp2_with fail
      refine (ImplMapsText_any m t _ (SM.out _ (Below.refl _ _)) HV.out).mono ?_
      rintro e w3 ⟨rfl, bb⟩
      have D := Lib.hid (D.out.trans (bb.mono D.out.size))
      have XM := Lib.hid (fun W (h : Below w3.heap.size w3 W) => XM.out W (bb.trans (h.mono bb.size)))
      have SM := Lib.hid (fun W (h : Below w3.heap.size w3 W) => SM.out W (bb.trans (h.mono bb.size)))
      have XN := Lib.hid (fun W (h : Below w3.heap.size w3 W) => XN.out W (bb.trans (h.mono bb.size)))
      have SN := Lib.hid (fun W (h : Below w3.heap.size w3 W) => SN.out W (bb.trans (h.mono bb.size)))
      clear bb
      clear xM0 xM1 xM2 xM3
      go_wp2_with fail
      refine (ImplReadMaps_any m t _ HV.out).mono ?_
      rintro e w4 ⟨r, rfl, oo, bb⟩
      obtain ⟨va4, vn4, vc4, rfl, _⟩ := oo.formJ
      obtain ⟨W4, hW⟩ : ∃ W, W = w4.alloc (.cells #[.int .i64 m, .int .i64 t, .slice va4 vn4 vc4] 26) := ⟨_, rfl⟩
      have ba : Below w4.heap.size w4 W4 := by rw [hW]; exact (Below.refl _ _).alloc (Nat.le_refl _) _
      have bc : Below w3.heap.size w3 W4 := bb.trans (ba.mono bb.size)
      have D := Lib.hid (D.out.trans (bc.mono D.out.size))
      have XB := Lib.hid (fun W (h : Below W4.heap.size W4 W) => (show MpAt W4 w4.heap.size m t (.slice va4 vn4 vc4) by rw [hW]; exact MpAt.new w4 m t _).below h)
      have SB := Lib.hid (fun W (h : Below W4.heap.size W4 W) => (oo.sl.below ba).below h)
      have XM := Lib.hid (fun W (h : Below W4.heap.size W4 W) => XM.out W (bc.trans (h.mono bc.size)))
      have SM := Lib.hid (fun W (h : Below W4.heap.size W4 W) => SM.out W (bc.trans (h.mono bc.size)))
      have XN := Lib.hid (fun W (h : Below W4.heap.size W4 W) => XN.out W (bc.trans (h.mono bc.size)))
      have SN := Lib.hid (fun W (h : Below W4.heap.size W4 W) => SN.out W (bc.trans (h.mono bc.size)))
      have HW := Lib.hid hW.symm
      clear hW ba bc bb oo
      go_upto_region 6 with (fail)
      rw [HW.out]
      clear HW
      obtain ⟨xM0, xM1, xM2, xM3⟩ := XM.out _ (Below.refl _ _)
      go_wp2_with fail
      refine (ImplTidyMaps_any m t _ (SM.out _ (Below.refl _ _)) HV.out).mono ?_
      rintro e w5 ⟨r, rfl, oo, bb⟩
      obtain ⟨va5, vn5, vc5, rfl, _⟩ := oo.formJ
      obtain ⟨W5, hW⟩ : ∃ W, W = w5.alloc (.cells #[.int .i64 m, .int .i64 t, .slice va5 vn5 vc5] 26) := ⟨_, rfl⟩
      have ba : Below w5.heap.size w5 W5 := by rw [hW]; exact (Below.refl _ _).alloc (Nat.le_refl _) _
      have bc : Below W4.heap.size W4 W5 := bb.trans (ba.mono bb.size)
      have D := Lib.hid (D.out.trans (bc.mono D.out.size))
      have XT := Lib.hid (fun W (h : Below W5.heap.size W5 W) => (show MpAt W5 w5.heap.size m t (.slice va5 vn5 vc5) by rw [hW]; exact MpAt.new w5 m t _).below h)
      have ST := Lib.hid (fun W (h : Below W5.heap.size W5 W) => (oo.sl.below ba).below h)
      have XM := Lib.hid (fun W (h : Below W5.heap.size W5 W) => XM.out W (bc.trans (h.mono bc.size)))
      have SM := Lib.hid (fun W (h : Below W5.heap.size W5 W) => SM.out W (bc.trans (h.mono bc.size)))
      have XN := Lib.hid (fun W (h : Below W5.heap.size W5 W) => XN.out W (bc.trans (h.mono bc.size)))
      have SN := Lib.hid (fun W (h : Below W5.heap.size W5 W) => SN.out W (bc.trans (h.mono bc.size)))
      have XB := Lib.hid (fun W (h : Below W5.heap.size W5 W) => XB.out W (bc.trans (h.mono bc.size)))
      have SB := Lib.hid (fun W (h : Below W5.heap.size W5 W) => SB.out W (bc.trans (h.mono bc.size)))
      have HW := Lib.hid hW.symm
      clear hW ba bc bb oo
      clear xM0 xM1 xM2 xM3
      go_upto_region 7 with (fail)
      rw [HW.out]
      clear HW
      obtain ⟨xM0, xM1, xM2, xM3⟩ := XM.out _ (Below.refl _ _)
      go_wp2_with fail
      refine (SpecTidyMaps_any m t _ (SM.out _ (Below.refl _ _)) HV.out).mono ?_
      rintro e w6 ⟨r, rfl, oo, bb⟩
      obtain ⟨va6, vn6, vc6, rfl, _⟩ := oo.formJ
      obtain ⟨W6, hW⟩ : ∃ W, W = w6.alloc (.cells #[.int .i64 m, .int .i64 t, .slice va6 vn6 vc6] 26) := ⟨_, rfl⟩
      have ba : Below w6.heap.size w6 W6 := by rw [hW]; exact (Below.refl _ _).alloc (Nat.le_refl _) _
      have bc : Below W5.heap.size W5 W6 := bb.trans (ba.mono bb.size)
      have D := Lib.hid (D.out.trans (bc.mono D.out.size))
      have XO := Lib.hid (fun W (h : Below W6.heap.size W6 W) => (show MpAt W6 w6.heap.size m t (.slice va6 vn6 vc6) by rw [hW]; exact MpAt.new w6 m t _).below h)
      have SO := Lib.hid (fun W (h : Below W6.heap.size W6 W) => (oo.sl.below ba).below h)
      have XM := Lib.hid (fun W (h : Below W6.heap.size W6 W) => XM.out W (bc.trans (h.mono bc.size)))
      have SM := Lib.hid (fun W (h : Below W6.heap.size W6 W) => SM.out W (bc.trans (h.mono bc.size)))
      have XN := Lib.hid (fun W (h : Below W6.heap.size W6 W) => XN.out W (bc.trans (h.mono bc.size)))
      have SN := Lib.hid (fun W (h : Below W6.heap.size W6 W) => SN.out W (bc.trans (h.mono bc.size)))
      have XB := Lib.hid (fun W (h : Below W6.heap.size W6 W) => XB.out W (bc.trans (h.mono bc.size)))
      have SB := Lib.hid (fun W (h : Below W6.heap.size W6 W) => SB.out W (bc.trans (h.mono bc.size)))
      have XT := Lib.hid (fun W (h : Below W6.heap.size W6 W) => XT.out W (bc.trans (h.mono bc.size)))
      have ST := Lib.hid (fun W (h : Below W6.heap.size W6 W) => ST.out W (bc.trans (h.mono bc.size)))
      have HW := Lib.hid hW.symm
      clear hW ba bc bb oo
      clear xM0 xM1 xM2 xM3
      go_upto_region 8 with (fail)
      rw [HW.out]
      clear HW
      obtain ⟨xM0, xM1, xM2, xM3⟩ := XM.out _ (Below.refl _ _)
      go_wp2_with fail
      refine (ImplChainOfMaps_any m t _ (SM.out _ (Below.refl _ _)) HV.out).mono ?_
      rintro e w7 ⟨r, rfl, oo, bb⟩
      obtain ⟨va7, vn7, vc7, rfl, _⟩ := oo.formJ
      obtain ⟨W7, hW⟩ : ∃ W, W = w7.alloc (.cells #[.int .i64 m, .int .i64 t, .slice va7 vn7 vc7] 52) := ⟨_, rfl⟩
      have ba : Below w7.heap.size w7 W7 := by rw [hW]; exact (Below.refl _ _).alloc (Nat.le_refl _) _
      have bc : Below W6.heap.size W6 W7 := bb.trans (ba.mono bb.size)
      have D := Lib.hid (D.out.trans (bc.mono D.out.size))
      have XC := Lib.hid (fun W (h : Below W7.heap.size W7 W) => (show MpAt W7 w7.heap.size m t (.slice va7 vn7 vc7) by rw [hW]; exact MpAt.newC w7 m t _).below h)
      have SC := Lib.hid (fun W (h : Below W7.heap.size W7 W) => (oo.sl.below ba).below h)
      have XM := Lib.hid (fun W (h : Below W7.heap.size W7 W) => XM.out W (bc.trans (h.mono bc.size)))
      have SM := Lib.hid (fun W (h : Below W7.heap.size W7 W) => SM.out W (bc.trans (h.mono bc.size)))
      have XN := Lib.hid (fun W (h : Below W7.heap.size W7 W) => XN.out W (bc.trans (h.mono bc.size)))
      have SN := Lib.hid (fun W (h : Below W7.heap.size W7 W) => SN.out W (bc.trans (h.mono bc.size)))
      have XB := Lib.hid (fun W (h : Below W7.heap.size W7 W) => XB.out W (bc.trans (h.mono bc.size)))
      have SB := Lib.hid (fun W (h : Below W7.heap.size W7 W) => SB.out W (bc.trans (h.mono bc.size)))
      have XT := Lib.hid (fun W (h : Below W7.heap.size W7 W) => XT.out W (bc.trans (h.mono bc.size)))
      have ST := Lib.hid (fun W (h : Below W7.heap.size W7 W) => ST.out W (bc.trans (h.mono bc.size)))
      have XO := Lib.hid (fun W (h : Below W7.heap.size W7 W) => XO.out W (bc.trans (h.mono bc.size)))
      have SO := Lib.hid (fun W (h : Below W7.heap.size W7 W) => SO.out W (bc.trans (h.mono bc.size)))
      have HW := Lib.hid hW.symm
      clear hW ba bc bb oo
      clear xM0 xM1 xM2 xM3
      go_upto_region 9 with (fail)
      rw [HW.out]
      clear HW
      obtain ⟨xM0, xM1, xM2, xM3⟩ := XM.out _ (Below.refl _ _)
      go_wp2_with fail
      refine (SpecChainOfMaps_any m t _ (SM.out _ (Below.refl _ _)) HV.out).mono ?_
      rintro e w8 ⟨r, rfl, oo, bb⟩
      obtain ⟨va8, vn8, vc8, rfl, _⟩ := oo.formJ
      obtain ⟨W8, hW⟩ : ∃ W, W = w8.alloc (.cells #[.int .i64 m, .int .i64 t, .slice va8 vn8 vc8] 52) := ⟨_, rfl⟩
      have ba : Below w8.heap.size w8 W8 := by rw [hW]; exact (Below.refl _ _).alloc (Nat.le_refl _) _
      have bc : Below W7.heap.size W7 W8 := bb.trans (ba.mono bb.size)
      have D := Lib.hid (D.out.trans (bc.mono D.out.size))
      have XU := Lib.hid (fun W (h : Below W8.heap.size W8 W) => (show MpAt W8 w8.heap.size m t (.slice va8 vn8 vc8) by rw [hW]; exact MpAt.newC w8 m t _).below h)
      have SU := Lib.hid (fun W (h : Below W8.heap.size W8 W) => (oo.sl.below ba).below h)
      have XM := Lib.hid (fun W (h : Below W8.heap.size W8 W) => XM.out W (bc.trans (h.mono bc.size)))
      have SM := Lib.hid (fun W (h : Below W8.heap.size W8 W) => SM.out W (bc.trans (h.mono bc.size)))
      have XN := Lib.hid (fun W (h : Below W8.heap.size W8 W) => XN.out W (bc.trans (h.mono bc.size)))
      have SN := Lib.hid (fun W (h : Below W8.heap.size W8 W) => SN.out W (bc.trans (h.mono bc.size)))
      have XB := Lib.hid (fun W (h : Below W8.heap.size W8 W) => XB.out W (bc.trans (h.mono bc.size)))
      have SB := Lib.hid (fun W (h : Below W8.heap.size W8 W) => SB.out W (bc.trans (h.mono bc.size)))
      have XT := Lib.hid (fun W (h : Below W8.heap.size W8 W) => XT.out W (bc.trans (h.mono bc.size)))
      have ST := Lib.hid (fun W (h : Below W8.heap.size W8 W) => ST.out W (bc.trans (h.mono bc.size)))
      have XO := Lib.hid (fun W (h : Below W8.heap.size W8 W) => XO.out W (bc.trans (h.mono bc.size)))
      have SO := Lib.hid (fun W (h : Below W8.heap.size W8 W) => SO.out W (bc.trans (h.mono bc.size)))
      have XC := Lib.hid (fun W (h : Below W8.heap.size W8 W) => XC.out W (bc.trans (h.mono bc.size)))
      have SC := Lib.hid (fun W (h : Below W8.heap.size W8 W) => SC.out W (bc.trans (h.mono bc.size)))
      have HW := Lib.hid hW.symm
      clear hW ba bc bb oo
      clear xM0 xM1 xM2 xM3
      go_upto_region 10 with (fail)
      rw [HW.out]
      clear HW
      obtain ⟨xB0, xB1, xB2, xB3⟩ := XB.out _ (Below.refl _ _)
      obtain ⟨xM0, xM1, xM2, xM3⟩ := XM.out _ (Below.refl _ _)
      go_wp2_with fail
      refine (SameMaps_eq m t _ (SB.out _ (Below.refl _ _)) (SM.out _ (Below.refl _ _))).mono ?_
      rintro e w9 ⟨rfl, bb⟩
      have D := Lib.hid (D.out.trans (bb.mono D.out.size))
      have XM := Lib.hid (fun W (h : Below w9.heap.size w9 W) => XM.out W (bb.trans (h.mono bb.size)))
      have SM := Lib.hid (fun W (h : Below w9.heap.size w9 W) => SM.out W (bb.trans (h.mono bb.size)))
      have XN := Lib.hid (fun W (h : Below w9.heap.size w9 W) => XN.out W (bb.trans (h.mono bb.size)))
      have SN := Lib.hid (fun W (h : Below w9.heap.size w9 W) => SN.out W (bb.trans (h.mono bb.size)))
      have XT := Lib.hid (fun W (h : Below w9.heap.size w9 W) => XT.out W (bb.trans (h.mono bb.size)))
      have ST := Lib.hid (fun W (h : Below w9.heap.size w9 W) => ST.out W (bb.trans (h.mono bb.size)))
      have XO := Lib.hid (fun W (h : Below w9.heap.size w9 W) => XO.out W (bb.trans (h.mono bb.size)))
      have SO := Lib.hid (fun W (h : Below w9.heap.size w9 W) => SO.out W (bb.trans (h.mono bb.size)))
      have XC := Lib.hid (fun W (h : Below w9.heap.size w9 W) => XC.out W (bb.trans (h.mono bb.size)))
      have SC := Lib.hid (fun W (h : Below w9.heap.size w9 W) => SC.out W (bb.trans (h.mono bb.size)))
      have XU := Lib.hid (fun W (h : Below w9.heap.size w9 W) => XU.out W (bb.trans (h.mono bb.size)))
      have SU := Lib.hid (fun W (h : Below w9.heap.size w9 W) => SU.out W (bb.trans (h.mono bb.size)))
      clear bb
      clear xB0 xB1 xB2 xB3 xM0 xM1 xM2 xM3
      clear XB SB
      obtain ⟨xM0, xM1, xM2, xM3⟩ := XM.out _ (Below.refl _ _)
      go_wp2_with fail
      refine (ValidMaps_ok _ (SM.out _ (Below.refl _ _)) HV.out).mono ?_
      rintro e w10 ⟨rfl, bb⟩
      have D := Lib.hid (D.out.trans (bb.mono D.out.size))
      have XM := Lib.hid (fun W (h : Below w10.heap.size w10 W) => XM.out W (bb.trans (h.mono bb.size)))
      have SM := Lib.hid (fun W (h : Below w10.heap.size w10 W) => SM.out W (bb.trans (h.mono bb.size)))
      have XN := Lib.hid (fun W (h : Below w10.heap.size w10 W) => XN.out W (bb.trans (h.mono bb.size)))
      have SN := Lib.hid (fun W (h : Below w10.heap.size w10 W) => SN.out W (bb.trans (h.mono bb.size)))
      have XT := Lib.hid (fun W (h : Below w10.heap.size w10 W) => XT.out W (bb.trans (h.mono bb.size)))
      have ST := Lib.hid (fun W (h : Below w10.heap.size w10 W) => ST.out W (bb.trans (h.mono bb.size)))
      have XO := Lib.hid (fun W (h : Below w10.heap.size w10 W) => XO.out W (bb.trans (h.mono bb.size)))
      have SO := Lib.hid (fun W (h : Below w10.heap.size w10 W) => SO.out W (bb.trans (h.mono bb.size)))
      have XC := Lib.hid (fun W (h : Below w10.heap.size w10 W) => XC.out W (bb.trans (h.mono bb.size)))
      have SC := Lib.hid (fun W (h : Below w10.heap.size w10 W) => SC.out W (bb.trans (h.mono bb.size)))
      have XU := Lib.hid (fun W (h : Below w10.heap.size w10 W) => XU.out W (bb.trans (h.mono bb.size)))
      have SU := Lib.hid (fun W (h : Below w10.heap.size w10 W) => SU.out W (bb.trans (h.mono bb.size)))
      clear bb
      clear xM0 xM1 xM2 xM3
      obtain ⟨xT0, xT1, xT2, xT3⟩ := XT.out _ (Below.refl _ _)
      obtain ⟨xO0, xO1, xO2, xO3⟩ := XO.out _ (Below.refl _ _)
      go_wp2_with fail
      refine (SameMaps_eq m t _ (ST.out _ (Below.refl _ _)) (SO.out _ (Below.refl _ _))).mono ?_
      rintro e w11 ⟨rfl, bb⟩
      have D := Lib.hid (D.out.trans (bb.mono D.out.size))
      have XM := Lib.hid (fun W (h : Below w11.heap.size w11 W) => XM.out W (bb.trans (h.mono bb.size)))
      have SM := Lib.hid (fun W (h : Below w11.heap.size w11 W) => SM.out W (bb.trans (h.mono bb.size)))
      have XN := Lib.hid (fun W (h : Below w11.heap.size w11 W) => XN.out W (bb.trans (h.mono bb.size)))
      have SN := Lib.hid (fun W (h : Below w11.heap.size w11 W) => SN.out W (bb.trans (h.mono bb.size)))
      have XO := Lib.hid (fun W (h : Below w11.heap.size w11 W) => XO.out W (bb.trans (h.mono bb.size)))
      have SO := Lib.hid (fun W (h : Below w11.heap.size w11 W) => SO.out W (bb.trans (h.mono bb.size)))
      have XC := Lib.hid (fun W (h : Below w11.heap.size w11 W) => XC.out W (bb.trans (h.mono bb.size)))
      have SC := Lib.hid (fun W (h : Below w11.heap.size w11 W) => SC.out W (bb.trans (h.mono bb.size)))
      have XU := Lib.hid (fun W (h : Below w11.heap.size w11 W) => XU.out W (bb.trans (h.mono bb.size)))
      have SU := Lib.hid (fun W (h : Below w11.heap.size w11 W) => SU.out W (bb.trans (h.mono bb.size)))
      clear bb
      clear xT0 xT1 xT2 xT3 xO0 xO1 xO2 xO3
      clear XT ST
      obtain ⟨xC0, xC1, xC2, xC3⟩ := XC.out _ (Below.refl _ _)
      obtain ⟨xU0, xU1, xU2, xU3⟩ := XU.out _ (Below.refl _ _)
      go_wp2_with fail
      refine (SameChain_eq m t _ (SC.out _ (Below.refl _ _)) (SU.out _ (Below.refl _ _))).mono ?_
      rintro e w12 ⟨rfl, bb⟩
      have D := Lib.hid (D.out.trans (bb.mono D.out.size))
      have XM := Lib.hid (fun W (h : Below w12.heap.size w12 W) => XM.out W (bb.trans (h.mono bb.size)))
      have SM := Lib.hid (fun W (h : Below w12.heap.size w12 W) => SM.out W (bb.trans (h.mono bb.size)))
      have XN := Lib.hid (fun W (h : Below w12.heap.size w12 W) => XN.out W (bb.trans (h.mono bb.size)))
      have SN := Lib.hid (fun W (h : Below w12.heap.size w12 W) => SN.out W (bb.trans (h.mono bb.size)))
      have XO := Lib.hid (fun W (h : Below w12.heap.size w12 W) => XO.out W (bb.trans (h.mono bb.size)))
      have SO := Lib.hid (fun W (h : Below w12.heap.size w12 W) => SO.out W (bb.trans (h.mono bb.size)))
      have XU := Lib.hid (fun W (h : Below w12.heap.size w12 W) => XU.out W (bb.trans (h.mono bb.size)))
      have SU := Lib.hid (fun W (h : Below w12.heap.size w12 W) => SU.out W (bb.trans (h.mono bb.size)))
      clear bb
      clear xC0 xC1 xC2 xC3 xU0 xU1 xU2 xU3
      clear XC SC
      go_upto_region 12 with (fail)
      obtain ⟨xO0, xO1, xO2, xO3⟩ := XO.out _ (Below.refl _ _)
      go_wp2_with fail
      refine (ImplChainOfMaps_any m t _ (SO.out _ (Below.refl _ _)) HVT.out).mono ?_
      rintro e w13 ⟨r, rfl, oo, bb⟩
      rw [HCT.out] at oo
      obtain ⟨va13, vn13, vc13, rfl, _⟩ := oo.formJ
      obtain ⟨W13, hW⟩ : ∃ W, W = w13.alloc (.cells #[.int .i64 m, .int .i64 t, .slice va13 vn13 vc13] 52) := ⟨_, rfl⟩
      have ba : Below w13.heap.size w13 W13 := by rw [hW]; exact (Below.refl _ _).alloc (Nat.le_refl _) _
      have bc : Below w12.heap.size w12 W13 := bb.trans (ba.mono bb.size)
      have D := Lib.hid (D.out.trans (bc.mono D.out.size))
      have XD := Lib.hid (fun W (h : Below W13.heap.size W13 W) => (show MpAt W13 w13.heap.size m t (.slice va13 vn13 vc13) by rw [hW]; exact MpAt.newC w13 m t _).below h)
      have SD := Lib.hid (fun W (h : Below W13.heap.size W13 W) => (oo.sl.below ba).below h)
      have XM := Lib.hid (fun W (h : Below W13.heap.size W13 W) => XM.out W (bc.trans (h.mono bc.size)))
      have SM := Lib.hid (fun W (h : Below W13.heap.size W13 W) => SM.out W (bc.trans (h.mono bc.size)))
      have XN := Lib.hid (fun W (h : Below W13.heap.size W13 W) => XN.out W (bc.trans (h.mono bc.size)))
      have SN := Lib.hid (fun W (h : Below W13.heap.size W13 W) => SN.out W (bc.trans (h.mono bc.size)))
      have XU := Lib.hid (fun W (h : Below W13.heap.size W13 W) => XU.out W (bc.trans (h.mono bc.size)))
      have SU := Lib.hid (fun W (h : Below W13.heap.size W13 W) => SU.out W (bc.trans (h.mono bc.size)))
      have HW := Lib.hid hW.symm
      clear hW ba bc bb oo
      clear xO0 xO1 xO2 xO3
      clear XO SO
      go_upto_region 13 with (fail)
      rw [HW.out]
      clear HW
      obtain ⟨xN0, xN1, xN2, xN3⟩ := XN.out _ (Below.refl _ _)
      go_wp2_with fail
      refine (ImplChainOfMaps_any m u _ (SN.out _ (Below.refl _ _)) HV2.out).mono ?_
      rintro e w14 ⟨r, rfl, oo, bb⟩
      obtain ⟨va14, vn14, vc14, rfl, _⟩ := oo.formJ
      obtain ⟨W14, hW⟩ : ∃ W, W = w14.alloc (.cells #[.int .i64 m, .int .i64 u, .slice va14 vn14 vc14] 52) := ⟨_, rfl⟩
      have ba : Below w14.heap.size w14 W14 := by rw [hW]; exact (Below.refl _ _).alloc (Nat.le_refl _) _
      have bc : Below W13.heap.size W13 W14 := bb.trans (ba.mono bb.size)
      have D := Lib.hid (D.out.trans (bc.mono D.out.size))
      have XE := Lib.hid (fun W (h : Below W14.heap.size W14 W) => (show MpAt W14 w14.heap.size m u (.slice va14 vn14 vc14) by rw [hW]; exact MpAt.newC w14 m u _).below h)
      have SE := Lib.hid (fun W (h : Below W14.heap.size W14 W) => (oo.sl.below ba).below h)
      have XM := Lib.hid (fun W (h : Below W14.heap.size W14 W) => XM.out W (bc.trans (h.mono bc.size)))
      have SM := Lib.hid (fun W (h : Below W14.heap.size W14 W) => SM.out W (bc.trans (h.mono bc.size)))
      have XN := Lib.hid (fun W (h : Below W14.heap.size W14 W) => XN.out W (bc.trans (h.mono bc.size)))
      have SN := Lib.hid (fun W (h : Below W14.heap.size W14 W) => SN.out W (bc.trans (h.mono bc.size)))
      have XU := Lib.hid (fun W (h : Below W14.heap.size W14 W) => XU.out W (bc.trans (h.mono bc.size)))
      have SU := Lib.hid (fun W (h : Below W14.heap.size W14 W) => SU.out W (bc.trans (h.mono bc.size)))
      have XD := Lib.hid (fun W (h : Below W14.heap.size W14 W) => XD.out W (bc.trans (h.mono bc.size)))
      have SD := Lib.hid (fun W (h : Below W14.heap.size W14 W) => SD.out W (bc.trans (h.mono bc.size)))
      have HW := Lib.hid hW.symm
      clear hW ba bc bb oo
      clear xN0 xN1 xN2 xN3
      go_upto_region 14 with (fail)
      rw [HW.out]
      clear HW
      obtain ⟨xM0, xM1, xM2, xM3⟩ := XM.out _ (Below.refl _ _)
      obtain ⟨xN0, xN1, xN2, xN3⟩ := XN.out _ (Below.refl _ _)
      go_wp2_with fail
      refine (TM1.out _ _ _ (SM.out _ (Below.refl _ _)) (SN.out _ (Below.refl _ _))).mono ?_
      rintro e w15 ⟨r, rfl, oo, bb⟩
      obtain ⟨va15, vn15, vc15, rfl, _⟩ := oo.formJ
      obtain ⟨W15, hW⟩ : ∃ W, W = w15.alloc (.cells #[.int .i64 m, .int .i64 P, .slice va15 vn15 vc15] 26) := ⟨_, rfl⟩
      have ba : Below w15.heap.size w15 W15 := by rw [hW]; exact (Below.refl _ _).alloc (Nat.le_refl _) _
      have bc : Below W14.heap.size W14 W15 := bb.trans (ba.mono bb.size)
      have D := Lib.hid (D.out.trans (bc.mono D.out.size))
      have XH := Lib.hid (fun W (h : Below W15.heap.size W15 W) => (show MpAt W15 w15.heap.size m P (.slice va15 vn15 vc15) by rw [hW]; exact MpAt.new w15 m P _).below h)
      have SH := Lib.hid (fun W (h : Below W15.heap.size W15 W) => (oo.sl.below ba).below h)
      have XM := Lib.hid (fun W (h : Below W15.heap.size W15 W) => XM.out W (bc.trans (h.mono bc.size)))
      have SM := Lib.hid (fun W (h : Below W15.heap.size W15 W) => SM.out W (bc.trans (h.mono bc.size)))
      have XN := Lib.hid (fun W (h : Below W15.heap.size W15 W) => XN.out W (bc.trans (h.mono bc.size)))
      have SN := Lib.hid (fun W (h : Below W15.heap.size W15 W) => SN.out W (bc.trans (h.mono bc.size)))
      have XU := Lib.hid (fun W (h : Below W15.heap.size W15 W) => XU.out W (bc.trans (h.mono bc.size)))
      have SU := Lib.hid (fun W (h : Below W15.heap.size W15 W) => SU.out W (bc.trans (h.mono bc.size)))
      have XD := Lib.hid (fun W (h : Below W15.heap.size W15 W) => XD.out W (bc.trans (h.mono bc.size)))
      have SD := Lib.hid (fun W (h : Below W15.heap.size W15 W) => SD.out W (bc.trans (h.mono bc.size)))
      have XE := Lib.hid (fun W (h : Below W15.heap.size W15 W) => XE.out W (bc.trans (h.mono bc.size)))
      have SE := Lib.hid (fun W (h : Below W15.heap.size W15 W) => SE.out W (bc.trans (h.mono bc.size)))
      have HW := Lib.hid hW.symm
      clear hW ba bc bb oo
      clear xM0 xM1 xM2 xM3 xN0 xN1 xN2 xN3
      go_upto_region 15 with (fail)
      rw [HW.out]
      clear HW
      obtain ⟨xM0, xM1, xM2, xM3⟩ := XM.out _ (Below.refl _ _)
      obtain ⟨xN0, xN1, xN2, xN3⟩ := XN.out _ (Below.refl _ _)
      go_wp2_with fail
      refine (TM2.out _ _ _ (SM.out _ (Below.refl _ _)) (SN.out _ (Below.refl _ _))).mono ?_
      rintro e w16 ⟨r, rfl, oo, bb⟩
      obtain ⟨va16, vn16, vc16, rfl, _⟩ := oo.formJ
      obtain ⟨W16, hW⟩ : ∃ W, W = w16.alloc (.cells #[.int .i64 m, .int .i64 P, .slice va16 vn16 vc16] 26) := ⟨_, rfl⟩
      have ba : Below w16.heap.size w16 W16 := by rw [hW]; exact (Below.refl _ _).alloc (Nat.le_refl _) _
      have bc : Below W15.heap.size W15 W16 := bb.trans (ba.mono bb.size)
      have D := Lib.hid (D.out.trans (bc.mono D.out.size))
      have XK := Lib.hid (fun W (h : Below W16.heap.size W16 W) => (show MpAt W16 w16.heap.size m P (.slice va16 vn16 vc16) by rw [hW]; exact MpAt.new w16 m P _).below h)
      have SK := Lib.hid (fun W (h : Below W16.heap.size W16 W) => (oo.sl.below ba).below h)
      have XM := Lib.hid (fun W (h : Below W16.heap.size W16 W) => XM.out W (bc.trans (h.mono bc.size)))
      have SM := Lib.hid (fun W (h : Below W16.heap.size W16 W) => SM.out W (bc.trans (h.mono bc.size)))
      have XU := Lib.hid (fun W (h : Below W16.heap.size W16 W) => XU.out W (bc.trans (h.mono bc.size)))
      have SU := Lib.hid (fun W (h : Below W16.heap.size W16 W) => SU.out W (bc.trans (h.mono bc.size)))
      have XD := Lib.hid (fun W (h : Below W16.heap.size W16 W) => XD.out W (bc.trans (h.mono bc.size)))
      have SD := Lib.hid (fun W (h : Below W16.heap.size W16 W) => SD.out W (bc.trans (h.mono bc.size)))
      have XE := Lib.hid (fun W (h : Below W16.heap.size W16 W) => XE.out W (bc.trans (h.mono bc.size)))
      have SE := Lib.hid (fun W (h : Below W16.heap.size W16 W) => SE.out W (bc.trans (h.mono bc.size)))
      have XH := Lib.hid (fun W (h : Below W16.heap.size W16 W) => XH.out W (bc.trans (h.mono bc.size)))
      have SH := Lib.hid (fun W (h : Below W16.heap.size W16 W) => SH.out W (bc.trans (h.mono bc.size)))
      have HW := Lib.hid hW.symm
      clear hW ba bc bb oo
      clear xM0 xM1 xM2 xM3 xN0 xN1 xN2 xN3
      clear XN SN
      go_upto_region 16 with (fail)
      rw [HW.out]
      clear HW
      obtain ⟨xH0, xH1, xH2, xH3⟩ := XH.out _ (Below.refl _ _)
      obtain ⟨xK0, xK1, xK2, xK3⟩ := XK.out _ (Below.refl _ _)
      go_wp2_with fail
      refine (SameMaps_eq m P _ (SH.out _ (Below.refl _ _)) (SK.out _ (Below.refl _ _))).mono ?_
      rintro e w17 ⟨rfl, bb⟩
      have D := Lib.hid (D.out.trans (bb.mono D.out.size))
      have XM := Lib.hid (fun W (h : Below w17.heap.size w17 W) => XM.out W (bb.trans (h.mono bb.size)))
      have SM := Lib.hid (fun W (h : Below w17.heap.size w17 W) => SM.out W (bb.trans (h.mono bb.size)))
      have XU := Lib.hid (fun W (h : Below w17.heap.size w17 W) => XU.out W (bb.trans (h.mono bb.size)))
      have SU := Lib.hid (fun W (h : Below w17.heap.size w17 W) => SU.out W (bb.trans (h.mono bb.size)))
      have XD := Lib.hid (fun W (h : Below w17.heap.size w17 W) => XD.out W (bb.trans (h.mono bb.size)))
      have SD := Lib.hid (fun W (h : Below w17.heap.size w17 W) => SD.out W (bb.trans (h.mono bb.size)))
      have XE := Lib.hid (fun W (h : Below w17.heap.size w17 W) => XE.out W (bb.trans (h.mono bb.size)))
      have SE := Lib.hid (fun W (h : Below w17.heap.size w17 W) => SE.out W (bb.trans (h.mono bb.size)))
      have XK := Lib.hid (fun W (h : Below w17.heap.size w17 W) => XK.out W (bb.trans (h.mono bb.size)))
      have SK := Lib.hid (fun W (h : Below w17.heap.size w17 W) => SK.out W (bb.trans (h.mono bb.size)))
      clear bb
      clear xH0 xH1 xH2 xH3 xK0 xK1 xK2 xK3
      clear XH SH
      obtain ⟨xD0, xD1, xD2, xD3⟩ := XD.out _ (Below.refl _ _)
      obtain ⟨xU0, xU1, xU2, xU3⟩ := XU.out _ (Below.refl _ _)
      go_wp2_with fail
      refine (SameChain_eq m t _ (SD.out _ (Below.refl _ _)) (SU.out _ (Below.refl _ _))).mono ?_
      rintro e w18 ⟨rfl, bb⟩
      have D := Lib.hid (D.out.trans (bb.mono D.out.size))
      have XM := Lib.hid (fun W (h : Below w18.heap.size w18 W) => XM.out W (bb.trans (h.mono bb.size)))
      have SM := Lib.hid (fun W (h : Below w18.heap.size w18 W) => SM.out W (bb.trans (h.mono bb.size)))
      have XU := Lib.hid (fun W (h : Below w18.heap.size w18 W) => XU.out W (bb.trans (h.mono bb.size)))
      have SU := Lib.hid (fun W (h : Below w18.heap.size w18 W) => SU.out W (bb.trans (h.mono bb.size)))
      have XE := Lib.hid (fun W (h : Below w18.heap.size w18 W) => XE.out W (bb.trans (h.mono bb.size)))
      have SE := Lib.hid (fun W (h : Below w18.heap.size w18 W) => SE.out W (bb.trans (h.mono bb.size)))
      have XK := Lib.hid (fun W (h : Below w18.heap.size w18 W) => XK.out W (bb.trans (h.mono bb.size)))
      have SK := Lib.hid (fun W (h : Below w18.heap.size w18 W) => SK.out W (bb.trans (h.mono bb.size)))
      clear bb
      clear xD0 xD1 xD2 xD3 xU0 xU1 xU2 xU3
      clear XD SD
      go_upto_region 18 with (fail)
      obtain ⟨xK0, xK1, xK2, xK3⟩ := XK.out _ (Below.refl _ _)
      go_wp2_with fail
      refine (ImplChainOfMaps_any m P _ (SK.out _ (Below.refl _ _)) HVH.out).mono ?_
      rintro e w19 ⟨r, rfl, oo, bb⟩
      obtain ⟨va19, vn19, vc19, rfl, _⟩ := oo.formJ
      obtain ⟨W19, hW⟩ : ∃ W, W = w19.alloc (.cells #[.int .i64 m, .int .i64 P, .slice va19 vn19 vc19] 52) := ⟨_, rfl⟩
      have ba : Below w19.heap.size w19 W19 := by rw [hW]; exact (Below.refl _ _).alloc (Nat.le_refl _) _
      have bc : Below w18.heap.size w18 W19 := bb.trans (ba.mono bb.size)
      have D := Lib.hid (D.out.trans (bc.mono D.out.size))
      have XQ := Lib.hid (fun W (h : Below W19.heap.size W19 W) => (show MpAt W19 w19.heap.size m P (.slice va19 vn19 vc19) by rw [hW]; exact MpAt.newC w19 m P _).below h)
      have SQ := Lib.hid (fun W (h : Below W19.heap.size W19 W) => (oo.sl.below ba).below h)
      have XM := Lib.hid (fun W (h : Below W19.heap.size W19 W) => XM.out W (bc.trans (h.mono bc.size)))
      have SM := Lib.hid (fun W (h : Below W19.heap.size W19 W) => SM.out W (bc.trans (h.mono bc.size)))
      have XU := Lib.hid (fun W (h : Below W19.heap.size W19 W) => XU.out W (bc.trans (h.mono bc.size)))
      have SU := Lib.hid (fun W (h : Below W19.heap.size W19 W) => SU.out W (bc.trans (h.mono bc.size)))
      have XE := Lib.hid (fun W (h : Below W19.heap.size W19 W) => XE.out W (bc.trans (h.mono bc.size)))
      have SE := Lib.hid (fun W (h : Below W19.heap.size W19 W) => SE.out W (bc.trans (h.mono bc.size)))
      have HW := Lib.hid hW.symm
      clear hW ba bc bb oo
      clear xK0 xK1 xK2 xK3
      clear XK SK
      go_upto_region 19 with (fail)
      rw [HW.out]
      clear HW
      obtain ⟨xU0, xU1, xU2, xU3⟩ := XU.out _ (Below.refl _ _)
      obtain ⟨xE0, xE1, xE2, xE3⟩ := XE.out _ (Below.refl _ _)
      go_wp2_with fail
      refine (TC.out _ _ _ (SU.out _ (Below.refl _ _)) (SE.out _ (Below.refl _ _))).mono ?_
      rintro e w20 ⟨r, rfl, oo, bb⟩
      rw [HTC.out] at oo
      obtain ⟨va20, vn20, vc20, rfl, _⟩ := oo.formJ
      obtain ⟨W20, hW⟩ : ∃ W, W = w20.alloc (.cells #[.int .i64 m, .int .i64 P, .slice va20 vn20 vc20] 52) := ⟨_, rfl⟩
      have ba : Below w20.heap.size w20 W20 := by rw [hW]; exact (Below.refl _ _).alloc (Nat.le_refl _) _
      have bc : Below W19.heap.size W19 W20 := bb.trans (ba.mono bb.size)
      have D := Lib.hid (D.out.trans (bc.mono D.out.size))
      have XP := Lib.hid (fun W (h : Below W20.heap.size W20 W) => (show MpAt W20 w20.heap.size m P (.slice va20 vn20 vc20) by rw [hW]; exact MpAt.newC w20 m P _).below h)
      have SP := Lib.hid (fun W (h : Below W20.heap.size W20 W) => (oo.sl.below ba).below h)
      have XM := Lib.hid (fun W (h : Below W20.heap.size W20 W) => XM.out W (bc.trans (h.mono bc.size)))
      have SM := Lib.hid (fun W (h : Below W20.heap.size W20 W) => SM.out W (bc.trans (h.mono bc.size)))
      have XU := Lib.hid (fun W (h : Below W20.heap.size W20 W) => XU.out W (bc.trans (h.mono bc.size)))
      have SU := Lib.hid (fun W (h : Below W20.heap.size W20 W) => SU.out W (bc.trans (h.mono bc.size)))
      have XE := Lib.hid (fun W (h : Below W20.heap.size W20 W) => XE.out W (bc.trans (h.mono bc.size)))
      have SE := Lib.hid (fun W (h : Below W20.heap.size W20 W) => SE.out W (bc.trans (h.mono bc.size)))
      have XQ := Lib.hid (fun W (h : Below W20.heap.size W20 W) => XQ.out W (bc.trans (h.mono bc.size)))
      have SQ := Lib.hid (fun W (h : Below W20.heap.size W20 W) => SQ.out W (bc.trans (h.mono bc.size)))
      have HW := Lib.hid hW.symm
      clear hW ba bc bb oo
      clear xU0 xU1 xU2 xU3 xE0 xE1 xE2 xE3
      go_upto_region 20 with (fail)
      rw [HW.out]
      clear HW
      obtain ⟨xU0, xU1, xU2, xU3⟩ := XU.out _ (Below.refl _ _)
      go_wp2_with fail
      refine (ImplMapsByDraws_any m t _ (SU.out _ (Below.refl _ _)) DX.out KX.out).mono ?_
      rintro e w21 ⟨r, rfl, oo, bb⟩
      obtain ⟨va21, vn21, vc21, rfl, _⟩ := oo.formJ
      obtain ⟨W21, hW⟩ : ∃ W, W = w21.alloc (.cells #[.int .i64 m, .int .i64 t, .slice va21 vn21 vc21] 26) := ⟨_, rfl⟩
      have ba : Below w21.heap.size w21 W21 := by rw [hW]; exact (Below.refl _ _).alloc (Nat.le_refl _) _
      have bc : Below W20.heap.size W20 W21 := bb.trans (ba.mono bb.size)
      have D := Lib.hid (D.out.trans (bc.mono D.out.size))
      have XA := Lib.hid (fun W (h : Below W21.heap.size W21 W) => (show MpAt W21 w21.heap.size m t (.slice va21 vn21 vc21) by rw [hW]; exact MpAt.new w21 m t _).below h)
      have SA := Lib.hid (fun W (h : Below W21.heap.size W21 W) => (oo.sl.below ba).below h)
      have XM := Lib.hid (fun W (h : Below W21.heap.size W21 W) => XM.out W (bc.trans (h.mono bc.size)))
      have SM := Lib.hid (fun W (h : Below W21.heap.size W21 W) => SM.out W (bc.trans (h.mono bc.size)))
      have XU := Lib.hid (fun W (h : Below W21.heap.size W21 W) => XU.out W (bc.trans (h.mono bc.size)))
      have SU := Lib.hid (fun W (h : Below W21.heap.size W21 W) => SU.out W (bc.trans (h.mono bc.size)))
      have XE := Lib.hid (fun W (h : Below W21.heap.size W21 W) => XE.out W (bc.trans (h.mono bc.size)))
      have SE := Lib.hid (fun W (h : Below W21.heap.size W21 W) => SE.out W (bc.trans (h.mono bc.size)))
      have XQ := Lib.hid (fun W (h : Below W21.heap.size W21 W) => XQ.out W (bc.trans (h.mono bc.size)))
      have SQ := Lib.hid (fun W (h : Below W21.heap.size W21 W) => SQ.out W (bc.trans (h.mono bc.size)))
      have XP := Lib.hid (fun W (h : Below W21.heap.size W21 W) => XP.out W (bc.trans (h.mono bc.size)))
      have SP := Lib.hid (fun W (h : Below W21.heap.size W21 W) => SP.out W (bc.trans (h.mono bc.size)))
      have HW := Lib.hid hW.symm
      clear hW ba bc bb oo
      clear xU0 xU1 xU2 xU3
      go_upto_region 21 with (fail)
      rw [HW.out]
      clear HW
      obtain ⟨xU0, xU1, xU2, xU3⟩ := XU.out _ (Below.refl _ _)
      go_wp2_with fail
      refine (SpecMapsByDraws_any m t _ (SU.out _ (Below.refl _ _)) DX.out KX.out).mono ?_
      rintro e w22 ⟨r, rfl, oo, bb⟩
      obtain ⟨va22, vn22, vc22, rfl, _⟩ := oo.formJ
      obtain ⟨W22, hW⟩ : ∃ W, W = w22.alloc (.cells #[.int .i64 m, .int .i64 t, .slice va22 vn22 vc22] 26) := ⟨_, rfl⟩
      have ba : Below w22.heap.size w22 W22 := by rw [hW]; exact (Below.refl _ _).alloc (Nat.le_refl _) _
      have bc : Below W21.heap.size W21 W22 := bb.trans (ba.mono bb.size)
      have D := Lib.hid (D.out.trans (bc.mono D.out.size))
      have XL := Lib.hid (fun W (h : Below W22.heap.size W22 W) => (show MpAt W22 w22.heap.size m t (.slice va22 vn22 vc22) by rw [hW]; exact MpAt.new w22 m t _).below h)
      have SL := Lib.hid (fun W (h : Below W22.heap.size W22 W) => (oo.sl.below ba).below h)
      have XM := Lib.hid (fun W (h : Below W22.heap.size W22 W) => XM.out W (bc.trans (h.mono bc.size)))
      have SM := Lib.hid (fun W (h : Below W22.heap.size W22 W) => SM.out W (bc.trans (h.mono bc.size)))
      have XU := Lib.hid (fun W (h : Below W22.heap.size W22 W) => XU.out W (bc.trans (h.mono bc.size)))
      have SU := Lib.hid (fun W (h : Below W22.heap.size W22 W) => SU.out W (bc.trans (h.mono bc.size)))
      have XE := Lib.hid (fun W (h : Below W22.heap.size W22 W) => XE.out W (bc.trans (h.mono bc.size)))
      have SE := Lib.hid (fun W (h : Below W22.heap.size W22 W) => SE.out W (bc.trans (h.mono bc.size)))
      have XQ := Lib.hid (fun W (h : Below W22.heap.size W22 W) => XQ.out W (bc.trans (h.mono bc.size)))
      have SQ := Lib.hid (fun W (h : Below W22.heap.size W22 W) => SQ.out W (bc.trans (h.mono bc.size)))
      have XP := Lib.hid (fun W (h : Below W22.heap.size W22 W) => XP.out W (bc.trans (h.mono bc.size)))
      have SP := Lib.hid (fun W (h : Below W22.heap.size W22 W) => SP.out W (bc.trans (h.mono bc.size)))
      have XA := Lib.hid (fun W (h : Below W22.heap.size W22 W) => XA.out W (bc.trans (h.mono bc.size)))
      have SA := Lib.hid (fun W (h : Below W22.heap.size W22 W) => SA.out W (bc.trans (h.mono bc.size)))
      have HW := Lib.hid hW.symm
      clear hW ba bc bb oo
      clear xU0 xU1 xU2 xU3
      go_upto_region 22 with (fail)
      rw [HW.out]
      clear HW
      obtain ⟨xA0, xA1, xA2, xA3⟩ := XA.out _ (Below.refl _ _)
      obtain ⟨xL0, xL1, xL2, xL3⟩ := XL.out _ (Below.refl _ _)
      go_wp2_with fail
      refine (SameMaps_eq m t _ (SA.out _ (Below.refl _ _)) (SL.out _ (Below.refl _ _))).mono ?_
      rintro e w23 ⟨rfl, bb⟩
      have D := Lib.hid (D.out.trans (bb.mono D.out.size))
      have XM := Lib.hid (fun W (h : Below w23.heap.size w23 W) => XM.out W (bb.trans (h.mono bb.size)))
      have SM := Lib.hid (fun W (h : Below w23.heap.size w23 W) => SM.out W (bb.trans (h.mono bb.size)))
      have XU := Lib.hid (fun W (h : Below w23.heap.size w23 W) => XU.out W (bb.trans (h.mono bb.size)))
      have SU := Lib.hid (fun W (h : Below w23.heap.size w23 W) => SU.out W (bb.trans (h.mono bb.size)))
      have XE := Lib.hid (fun W (h : Below w23.heap.size w23 W) => XE.out W (bb.trans (h.mono bb.size)))
      have SE := Lib.hid (fun W (h : Below w23.heap.size w23 W) => SE.out W (bb.trans (h.mono bb.size)))
      have XQ := Lib.hid (fun W (h : Below w23.heap.size w23 W) => XQ.out W (bb.trans (h.mono bb.size)))
      have SQ := Lib.hid (fun W (h : Below w23.heap.size w23 W) => SQ.out W (bb.trans (h.mono bb.size)))
      have XP := Lib.hid (fun W (h : Below w23.heap.size w23 W) => XP.out W (bb.trans (h.mono bb.size)))
      have SP := Lib.hid (fun W (h : Below w23.heap.size w23 W) => SP.out W (bb.trans (h.mono bb.size)))
      have XL := Lib.hid (fun W (h : Below w23.heap.size w23 W) => XL.out W (bb.trans (h.mono bb.size)))
      have SL := Lib.hid (fun W (h : Below w23.heap.size w23 W) => SL.out W (bb.trans (h.mono bb.size)))
      clear bb
      clear xA0 xA1 xA2 xA3 xL0 xL1 xL2 xL3
      clear XA SA
      obtain ⟨xQ0, xQ1, xQ2, xQ3⟩ := XQ.out _ (Below.refl _ _)
      obtain ⟨xP0, xP1, xP2, xP3⟩ := XP.out _ (Below.refl _ _)
      go_wp2_with fail
      refine (SameChain_eq m P _ (SQ.out _ (Below.refl _ _)) (SP.out _ (Below.refl _ _))).mono ?_
      rintro e w24 ⟨rfl, bb⟩
      have D := Lib.hid (D.out.trans (bb.mono D.out.size))
      have XM := Lib.hid (fun W (h : Below w24.heap.size w24 W) => XM.out W (bb.trans (h.mono bb.size)))
      have SM := Lib.hid (fun W (h : Below w24.heap.size w24 W) => SM.out W (bb.trans (h.mono bb.size)))
      have XU := Lib.hid (fun W (h : Below w24.heap.size w24 W) => XU.out W (bb.trans (h.mono bb.size)))
      have SU := Lib.hid (fun W (h : Below w24.heap.size w24 W) => SU.out W (bb.trans (h.mono bb.size)))
      have XE := Lib.hid (fun W (h : Below w24.heap.size w24 W) => XE.out W (bb.trans (h.mono bb.size)))
      have SE := Lib.hid (fun W (h : Below w24.heap.size w24 W) => SE.out W (bb.trans (h.mono bb.size)))
      have XL := Lib.hid (fun W (h : Below w24.heap.size w24 W) => XL.out W (bb.trans (h.mono bb.size)))
      have SL := Lib.hid (fun W (h : Below w24.heap.size w24 W) => SL.out W (bb.trans (h.mono bb.size)))
      clear bb
      clear xQ0 xQ1 xQ2 xQ3 xP0 xP1 xP2 xP3
      clear XQ SQ XP SP
      go_upto_region 24 with (fail)
      obtain ⟨xU0, xU1, xU2, xU3⟩ := XU.out _ (Below.refl _ _)
      obtain ⟨xL0, xL1, xL2, xL3⟩ := XL.out _ (Below.refl _ _)
      go_wp2_with fail
      refine (ImplAreMapsOf_any m t t _ (SU.out _ (Below.refl _ _)) (SL.out _ (Below.refl _ _)) CX.out KX.out HVD.out ht60').mono ?_
      rintro e w25 ⟨he, bb⟩
      rw [HCD.out, alike_refl] at he
      subst he
      have D := Lib.hid (D.out.trans (bb.mono D.out.size))
      have XM := Lib.hid (fun W (h : Below w25.heap.size w25 W) => XM.out W (bb.trans (h.mono bb.size)))
      have SM := Lib.hid (fun W (h : Below w25.heap.size w25 W) => SM.out W (bb.trans (h.mono bb.size)))
      have XU := Lib.hid (fun W (h : Below w25.heap.size w25 W) => XU.out W (bb.trans (h.mono bb.size)))
      have SU := Lib.hid (fun W (h : Below w25.heap.size w25 W) => SU.out W (bb.trans (h.mono bb.size)))
      have XE := Lib.hid (fun W (h : Below w25.heap.size w25 W) => XE.out W (bb.trans (h.mono bb.size)))
      have SE := Lib.hid (fun W (h : Below w25.heap.size w25 W) => SE.out W (bb.trans (h.mono bb.size)))
      clear bb
      clear xU0 xU1 xU2 xU3 xL0 xL1 xL2 xL3
      clear XL SL
      obtain ⟨xE0, xE1, xE2, xE3⟩ := XE.out _ (Below.refl _ _)
      obtain ⟨xM0, xM1, xM2, xM3⟩ := XM.out _ (Below.refl _ _)
      go_wp2_with fail
      refine (ImplAreMapsOf_any m u t _ (SE.out _ (Below.refl _ _)) (SM.out _ (Below.refl _ _)) CY.out KY.out HV.out hu60').mono ?_
      rintro e w26 ⟨he, bb⟩
      generalize hA : alike m u t (chainM m ns) (chainM m ms) = A at he
      have HA := Lib.hid hA
      subst he
      clear hA
      have D := Lib.hid (D.out.trans (bb.mono D.out.size))
      have XU := Lib.hid (fun W (h : Below w26.heap.size w26 W) => XU.out W (bb.trans (h.mono bb.size)))
      have SU := Lib.hid (fun W (h : Below w26.heap.size w26 W) => SU.out W (bb.trans (h.mono bb.size)))
      have XE := Lib.hid (fun W (h : Below w26.heap.size w26 W) => XE.out W (bb.trans (h.mono bb.size)))
      have SE := Lib.hid (fun W (h : Below w26.heap.size w26 W) => SE.out W (bb.trans (h.mono bb.size)))
      clear bb
      clear xE0 xE1 xE2 xE3 xM0 xM1 xM2 xM3
      clear XM SM
      obtain ⟨xE0, xE1, xE2, xE3⟩ := XE.out _ (Below.refl _ _)
      obtain ⟨xU0, xU1, xU2, xU3⟩ := XU.out _ (Below.refl _ _)
      go_wp2_with fail
      refine (f6alike_any m u t _ (SE.out _ (Below.refl _ _)) (SU.out _ (Below.refl _ _)) CY.out CX.out hu60' ht60' hm6').mono ?_
      rintro e w27 ⟨he, bb⟩
      rw [HA.out] at he
      subst he
      have D := Lib.hid (D.out.trans (bb.mono D.out.size))
      clear bb
      clear xE0 xE1 xE2 xE3 xU0 xU1 xU2 xU3
      clear XU SU XE SE
      have tA : (A == A) = true := by simp
      go_wp2
      go_ret
      exact ⟨rfl, D.out⟩
end Go.Proofs.Ytceobhmbnkheiaa
