/-
  The chain of maps: the reference's walk. With it: A step of one chain and then one of another: the program's side.
-/
import Derived.Test.YtceobhmbnkheiaaZRowFnMaps25
import Derived.Test.YtceobhmbnkheiaaZRowFnMaps1
set_option linter.unusedVariables false
set_option linter.unusedSimpArgs false
namespace Go.Proofs.Ytceobhmbnkheiaa
open Go.RowKit Go.Sort

set_option maxRecDepth 100000 in
set_option maxHeartbeats 4000000 in
theorem built2_any (cap0 cap1 : Value) (f : Nat → Nat → Int) (n T : Nat) (w : World) (hn : n ≤ 6) (hT : T ≤ 60)
    (hf : ∀ (W : World) (s t : Nat), Below w.heap.size w W → s < n → t < n → Calls Try.prog 91 #[.int .i64 s, .int .i64 t, cap0, cap1] W fun e W' => e = .returned (.int .i64 (f s t)) ∧ Below W.heap.size W W') :
    Calls Try.prog 89 #[.int .i64 n, .int .i64 T, .func (.func 91) #[] #[cap0, cap1]] w fun e w' => ∃ r, e = .returned (.tuple #[.agg #[.int .i64 n, .int .i64 T, r], .int .i64 0]) ∧ OwnII w' w.heap.size r (rowsF f n n) ∧ Below w.heap.size w w' := by
  have HF := Lib.hid hf
  obtain ⟨W1, hW1⟩ : ∃ W1, W1 = w.alloc (.cells #[.int .i64 0, .int .i64 0, .slice none 0 0] 52) := ⟨_, rfl⟩
  obtain ⟨W2, hW2⟩ : ∃ W2, W2 = W1.alloc (.cells #[.int .i64 n, .int .i64 T, .slice none 0 0] 52) := ⟨_, rfl⟩
  have z1 : W1.heap.size = w.heap.size + 1 := by rw [hW1]; simp
  have z2 : W2.heap.size = w.heap.size + 1 + 1 := by rw [hW2]; simp [z1]
  have b1 : Below w.heap.size w W1 := by rw [hW1]; exact (Below.refl _ _).alloc (Nat.le_refl _) _
  have b2 : Below W1.heap.size W1 W2 := by rw [hW2]; exact (Below.refl _ _).alloc (Nat.le_refl _) _
  have R1 := Lib.hid ((show Box3 W1 w.heap.size 0 0 (.slice none 0 0) by rw [hW1]; exact Box3.new w 0 0 _).fs (Fs.of_below (S := fun _ => False) b2) (fun h => h))
  have X2 := Lib.hid (show Box3 W2 (w.heap.size + 1) n T (.slice none 0 0) by rw [hW2, ← z1]; exact Box3.new W1 n T _)
  have BA := Lib.hid (b1.trans (b2.mono b1.size))
  have HW1 := Lib.hid hW1.symm
  have HW2 := Lib.hid hW2.symm
  have B0 := Lib.hid (Below.refl (w.heap.size + 1) W2)
  clear hf hW1 hW2 b1 b2
  go_enter Try.func89, Try.ntmps89
  go_upto_region 4 with (fail)
  rw [HW1.out, HW2.out]
  have q0 := X2.out.c.get 0 _ rfl
  clear q0
  go_wp2
  go_loopw [23] (fun iv wr => ∃ (s : Nat) (v : Value), s ≤ n ∧ iv = .int .i64 s ∧ Box3 wr (w.heap.size + 1) n T v ∧ OwnII wr (w.heap.size + 1 + 1) v (rowsF f n s) ∧ Below (w.heap.size + 1) W2 wr ∧ W2.heap.size ≤ wr.heap.size) (fun iv _ => n - (intOf iv).toNat)
  case atStart => exact ⟨0, _, Nat.zero_le _, rfl, X2.out, OwnII.nil _ _, B0.out, Nat.le_refl _⟩
  case round =>
    clear B0
    obtain ⟨s, v, hs, rfl, hbox, hown, hbw, hzr⟩ := hrel
    have HBX := Lib.hid hbox
    have HO := Lib.hid hown
    have HBW := Lib.hid hbw
    have HBw := Lib.hid (BA.out.trans (hbw.mono (Nat.le_add_right _ 1)))
    clear hbox hown hbw
    by_cases hsn : s < n
    · have i1 : (s : Int) < (n : Int) := by omega
      have own0 := Lib.hid (OwnI.empty wr (base := wr.heap.size) (Nat.le_refl _))
      have b0 := Lib.hid ((Below.refl wr.heap.size wr).alloc (Nat.le_refl _) (.cells #[] 2))
      obtain ⟨wo, rfl⟩ : ∃ wo : World, wo = wr := ⟨_, rfl⟩
      go_wp2
      go_loopw [10, 28] (fun rv jv w4 => ∃ j : Nat, j ≤ n ∧ jv = .int .i64 j ∧ OwnI w4 wo.heap.size rv (rowF f s j) ∧ Below wo.heap.size wo w4) (fun _ jv _ => n - (intOf jv).toNat)
      case atStart => exact ⟨0, Nat.zero_le _, rfl, own0.out, b0.out⟩
      case round =>
        clear own0 b0
        obtain ⟨j, hj, rfl, ho, hbj⟩ := hrel
        have HOR := Lib.hid ho
        have HBJ := Lib.hid hbj
        clear ho hbj
        by_cases hjn : j < n
        · have i2 : (j : Int) < (n : Int) := by omega
          go_wp2_with fail
          go_at_call 91
          refine (HF.out _ s j (HBw.out.trans (HBJ.out.mono HBw.out.size)) hsn hjn).mono ?_
          rintro e w5 ⟨rfl, b5⟩
          have o5 := HOR.out.below b5
          have hz5 : wo.heap.size ≤ w5.heap.size := Nat.le_trans HBJ.out.size b5.size
          have B5 := Lib.hid (HBJ.out.trans (b5.mono HBJ.out.size))
          have hln : (rowF f s j).length < 16777216 := by rw [rowF_len]; omega
          have HST := Lib.hid (rowF_succ f s j)
          clear b5
          go_wp2_with (at_builtin; refine append_i64 _ (f s j) _ _ rfl rfl rfl o5 rfl hln hz5 ?_)
          intro v6 w6 o6 b6 z6
          have O6 := Lib.hid (show OwnI w6 wo.heap.size v6 (rowF f s (j + 1)) from by rw [HST.out]; exact o6)
          have B6 := Lib.hid (B5.out.trans (((Below.refl wo.heap.size w5).alloc hz5 _).trans b6))
          clear o6 b6 o5 z6
          go_wp2
          go_roundw
          case rel => exact ⟨j + 1, by omega, by go_num, O6.out, B6.out⟩
          case measure => simp [intOf]; omega
        · obtain rfl : j = n := by omega
          have hb3 := HBX.out.fs (S := fun _ => False) (Fs.of_below HBJ.out) (fun h => h)
          have c2 := hb3.c.get 2 _ rfl
          have fz := hb3.f 2
          have cl := hb3.c.1
          have hzj := HBJ.out.size
          obtain ⟨ra, rn, rc, rfl, _⟩ := HOR.out.formJ
          obtain ⟨oa, on, oc, rfl, _⟩ := HO.out.formJ
          have bx := (Below.refl wr.heap.size wr).alloc (Nat.le_refl _) (.cells #[.slice ra rn rc] 32)
          have HO1 := Lib.hid ((HO.out.b.below HBJ.out).below bx)
          have HU1 := Lib.hid ((HOR.out.below bx).lower (base' := w.heap.size + 1 + 1) (by omega))
          have HB := Lib.hid (show ∀ g, (Value.slice ra rn rc).ownBlock = some g → wo.heap.size ≤ g from fun g hg => (HOR.out.lt g hg).1)
          have hln : (rowsF f j s).length < 16777216 := by rw [rowsF_len]; omega
          go_wp2_with (at_builtin; refine listAppRow _ _ _ rfl rfl rfl HO1.out HU1.out HB.out rfl (by simp [go_sem]) hln (by simp; omega) ?_)
          intro v7 w7 o7 g7
          have B7 : Below (w.heap.size + 1 + 1) wr w7 := (bx.mono (by omega)).trans ((Below.refl _ _).grown g7 (by simp; omega) (fun k hk => (HO1.out.lt k hk).1))
          have hb7 := hb3.fs (S := fun k => w.heap.size + 1 + 1 ≤ k) ⟨B7.os, B7.tape, B7.output, B7.size, fun k _ hk => B7.block k (by omega)⟩ (by omega)
          obtain ⟨va7, vn7, vc7, rfl, _⟩ := o7.formJ
          have O7 := Lib.hid (show OwnII w7 (w.heap.size + 1 + 1) (.slice va7 vn7 vc7) (rowsF f j (s + 1)) from by rw [rowsF_succ]; exact o7)
          have X7 := Lib.hid hb7
          have BW7 := Lib.hid ((HBW.out.trans (HBJ.out.mono (by omega))).trans (B7.mono (by omega)))
          have k2 := hb7.c.get 2 _ rfl
          have f2 := hb7.f 2
          have kl := hb7.c.1
          have hz7 : W2.heap.size ≤ w7.heap.size := by have := B7.size; omega
          clear o7 g7 B7 hb7 hb3 c2 fz cl bx
          go_wp2
          go_roundw
          case rel => exact ⟨s + 1, _, by omega, by go_num, X7.out.set _, OwnII.setCell O7.out (by simp) _, BW7.out.setCell (by simp) _, by simp; exact hz7⟩
          case measure => simp [intOf]; omega
    · obtain rfl : s = n := by omega
      have rb := R1.out.fs (S := fun k => w.heap.size + 1 ≤ k) ⟨HBW.out.os, HBW.out.tape, HBW.out.output, HBW.out.size, fun k _ hk => HBW.out.block k (by omega)⟩ (by omega)
      obtain ⟨va, vn, vc, rfl, _⟩ := HO.out.formJ
      have k0 := HBX.out.c.get 0 _ rfl
      have k1 := HBX.out.c.get 1 _ rfl
      have k2 := HBX.out.c.get 2 _ rfl
      have kl := HBX.out.c.1
      have q0 := rb.c.get 0 _ rfl
      have q1 := rb.c.get 1 _ rfl
      have q2 := rb.c.get 2 _ rfl
      have f0 := rb.f 0
      have f1 := rb.f 1
      have f2 := rb.f 2
      have ql := rb.c.1
      clear rb
      go_wp2
      refine bodyPost_ret (v := .tuple #[.agg #[.int .i64 s, .int .i64 T, .slice va vn vc], .int .i64 0]) (by simp [results, Try.results89, go_sem, q0, q1, q2, ql]) rfl ⟨_, rfl, ?_, ?_⟩
      · exact OwnII.lower (OwnII.setCell (OwnII.setCell (OwnII.setCell HO.out (by simp; omega) _) (by simp; omega) _) (by simp; omega) _) (by omega)
      · exact ((HBw.out.setCell (by simp) _).setCell (by simp) _).setCell (by simp) _
set_option maxRecDepth 100000 in
set_option maxHeartbeats 4000000 in
theorem thenChain_any {u v : Value} {xss yss : List (List Int)} (n T U : Nat) (w : World) (ha : SlII w u xss) (hd : SlII w v yss) (hx : RowsB n T xss) (hy : RowsB n U yss) (hT : T ≤ 60) (hU : U ≤ 60) (hn : n ≤ 6) (hTU : T * U ≤ 60) :
    Calls Try.prog 71 #[.agg #[.int .i64 n, .int .i64 T, u], .agg #[.int .i64 n, .int .i64 U, v]] w fun e w' => ∃ r, e = .returned (.tuple #[.agg #[.int .i64 n, .int .i64 ((T * U : Nat) : Int), r], .int .i64 0]) ∧ OwnII w' w.heap.size r (mulC n xss yss) ∧ Below w.heap.size w w' := by
  have HA := Lib.hid (fun W (h : Below w.heap.size w W) => ha.below h)
  have HD := Lib.hid (fun W (h : Below w.heap.size w W) => hd.below h)
  obtain ⟨a, ca, rfl, hca, hca2⟩ := ha.formJ
  obtain ⟨d, cd, rfl, hcd, hcd2⟩ := hd.formJ
  obtain ⟨W1, hW1⟩ : ∃ W1, W1 = w.alloc (.cells #[.int .i64 n, .int .i64 T, .slice a xss.length ca] 52) := ⟨_, rfl⟩
  obtain ⟨W2, hW2⟩ : ∃ W2, W2 = W1.alloc (.cells #[.int .i64 n, .int .i64 U, .slice d yss.length cd] 52) := ⟨_, rfl⟩
  obtain ⟨W3, hW3⟩ : ∃ W3, W3 = W2.alloc (.cells #[.int .i64 0, .int .i64 0, .slice none 0 0] 52) := ⟨_, rfl⟩
  have z1 : W1.heap.size = w.heap.size + 1 := by rw [hW1]; simp
  have z2 : W2.heap.size = w.heap.size + 1 + 1 := by rw [hW2]; simp [z1]
  have z3 : W3.heap.size = w.heap.size + 1 + 1 + 1 := by rw [hW3]; simp [z2]
  have b1 : Below w.heap.size w W1 := by rw [hW1]; exact (Below.refl _ _).alloc (Nat.le_refl _) _
  have b2 : Below W1.heap.size W1 W2 := by rw [hW2]; exact (Below.refl _ _).alloc (Nat.le_refl _) _
  have b3 : Below W2.heap.size W2 W3 := by rw [hW3]; exact (Below.refl _ _).alloc (Nat.le_refl _) _
  have X := Lib.hid (show MpAt W3 w.heap.size n T (.slice a xss.length ca) from ((show MpAt W1 w.heap.size n T (.slice a xss.length ca) by rw [hW1]; exact MpAt.newC w n T _).below b2).below b3)
  have Y := Lib.hid (show MpAt W3 (w.heap.size + 1) n U (.slice d yss.length cd) from (show MpAt W2 (w.heap.size + 1) n U (.slice d yss.length cd) by rw [hW2, ← z1]; exact MpAt.newC W1 n U _).below b3)
  have R := Lib.hid (show Box3 W3 (w.heap.size + 1 + 1) 0 0 (.slice none 0 0) by rw [hW3, ← z2]; exact Box3.new W2 0 0 _)
  have BA := Lib.hid ((b1.trans (b2.mono b1.size)).trans (b3.mono (by omega)))
  have HW1 := Lib.hid hW1.symm
  have HW2 := Lib.hid hW2.symm
  have HW3 := Lib.hid hW3.symm
  have Z3 := Lib.hid z3
  have HX := Lib.hid hx
  have HY := Lib.hid hy
  have BT := Lib.hid (built2_any (.pointer (some ⟨w.heap.size, 0, none⟩)) (.pointer (some ⟨w.heap.size + 1, 0, none⟩)) (fun s t => sumN n (mulE xss yss s t)) n (T * U) W3 hn hTU (fun W s t hW hs ht => thenClo_any w.heap.size (w.heap.size + 1) n s t W (X.out.below hW) (Y.out.below hW) (HA.out _ (BA.out.trans (hW.mono BA.out.size))) (HD.out _ (BA.out.trans (hW.mono BA.out.size))) HX.out HY.out (by omega) (by omega) hn hs ht))
  have hmf : ∀ (fn : Fn) (first cap : Array Value) (w : World), (Instr.makeFunc fn first cap).run Try.prog w = .ok (.func fn first cap) w := fun _ _ _ _ => rfl
  have r1 : IntKind.i64.wrap ((T : Int) * (U : Int)) = ((T * U : Nat) : Int) := by rw [Int.natCast_mul, IntWalk.i64_in _ (by rw [← Int.natCast_mul]; omega)]
  obtain ⟨x0, x1, x2, x3⟩ := X.out
  obtain ⟨y0, y1, y2, y3⟩ := Y.out
  clear ha hd hx hy hW1 hW2 hW3 b1 b2 b3 z1 z2
  generalize hM : T * U = M at r1 BT hTU ⊢
  clear hM
  go_enter Try.func71, Try.ntmps71
  go_wp2_with fail
  rw [HW1.out, HW2.out, HW3.out]
  refine BT.out.mono ?_
  rintro e w4 ⟨r, rfl, o4, b4⟩
  rw [mulC_rows] at o4
  have R4 := R.out.fs (S := fun _ => False) (Fs.of_below b4) (fun h => h)
  have B4 := Lib.hid (BA.out.trans (b4.mono BA.out.size))
  have O4 := Lib.hid (o4.lower (base' := w.heap.size + 1 + 1 + 1) (by have := Z3.out; omega))
  obtain ⟨va, vn, vc, rfl, _⟩ := o4.formJ
  have q0 := R4.c.get 0 _ rfl
  have q1 := R4.c.get 1 _ rfl
  have q2 := R4.c.get 2 _ rfl
  have f0 := R4.f 0
  have f1 := R4.f 1
  have f2 := R4.f 2
  have ql := R4.c.1
  clear R4 b4 o4 x0 x1 x2 x3 y0 y1 y2 y3 BT
  go_wp2
  refine bodyPost_ret (v := .tuple #[.agg #[.int .i64 n, .int .i64 M, .slice va vn vc], .int .i64 0]) (by simp [results, Try.results71, go_sem, q0, q1, q2, ql]) rfl ⟨_, rfl, ?_, ?_⟩
  · exact OwnII.lower (OwnII.setCell (OwnII.setCell (OwnII.setCell O4.out (by simp) _) (by simp) _) (by simp) _) (by omega)
  · exact ((B4.out.setCell (by simp; omega) _).setCell (by simp; omega) _).setCell (by simp; omega) _

set_option maxRecDepth 100000 in
set_option maxHeartbeats 4000000 in
theorem ImplThenChain_any {u v : Value} {xss yss : List (List Int)} (n T U : Nat) (w : World) (ha : SlII w u xss) (hd : SlII w v yss) (hx : RowsB n T xss) (hy : RowsB n U yss) (cx : chainOk n T xss = true) (cy : chainOk n U yss = true) (hT : T ≤ 60) (hU : U ≤ 60) (hn : n ≤ 6) (hTU : T * U ≤ 60) :
    Calls Try.prog 30 #[.agg #[.int .i64 n, .int .i64 T, u], .agg #[.int .i64 n, .int .i64 U, v]] w fun e w' => ∃ r, e = .returned (.tuple #[.agg #[.int .i64 n, .int .i64 ((T * U : Nat) : Int), r], .int .i64 0]) ∧ OwnII w' w.heap.size r (mulC n xss yss) ∧ Below w.heap.size w w' := by
  have HA := Lib.hid (fun W (h : Below w.heap.size w W) => ha.below h)
  have HD := Lib.hid (fun W (h : Below w.heap.size w W) => hd.below h)
  obtain ⟨a, ca, rfl, hca, hca2⟩ := ha.formJ
  obtain ⟨d, cd, rfl, hcd, hcd2⟩ := hd.formJ
  obtain ⟨W1, hW1⟩ : ∃ W1, W1 = w.alloc (.cells #[.int .i64 n, .int .i64 T, .slice a xss.length ca] 52) := ⟨_, rfl⟩
  obtain ⟨W2, hW2⟩ : ∃ W2, W2 = W1.alloc (.cells #[.int .i64 n, .int .i64 U, .slice d yss.length cd] 52) := ⟨_, rfl⟩
  obtain ⟨W3, hW3⟩ : ∃ W3, W3 = W2.alloc (.cells #[.int .i64 0, .int .i64 0, .slice none 0 0] 52) := ⟨_, rfl⟩
  have z1 : W1.heap.size = w.heap.size + 1 := by rw [hW1]; simp
  have z2 : W2.heap.size = w.heap.size + 1 + 1 := by rw [hW2]; simp [z1]
  have z3 : W3.heap.size = w.heap.size + 1 + 1 + 1 := by rw [hW3]; simp [z2]
  have b1 : Below w.heap.size w W1 := by rw [hW1]; exact (Below.refl _ _).alloc (Nat.le_refl _) _
  have b2 : Below W1.heap.size W1 W2 := by rw [hW2]; exact (Below.refl _ _).alloc (Nat.le_refl _) _
  have b3 : Below W2.heap.size W2 W3 := by rw [hW3]; exact (Below.refl _ _).alloc (Nat.le_refl _) _
  have X := Lib.hid (show MpAt W3 w.heap.size n T (.slice a xss.length ca) from ((show MpAt W1 w.heap.size n T (.slice a xss.length ca) by rw [hW1]; exact MpAt.newC w n T _).below b2).below b3)
  have Y := Lib.hid (show MpAt W3 (w.heap.size + 1) n U (.slice d yss.length cd) from (show MpAt W2 (w.heap.size + 1) n U (.slice d yss.length cd) by rw [hW2, ← z1]; exact MpAt.newC W1 n U _).below b3)
  have R := Lib.hid (show Box3 W3 (w.heap.size + 1 + 1) 0 0 (.slice none 0 0) by rw [hW3, ← z2]; exact Box3.new W2 0 0 _)
  have BA := Lib.hid ((b1.trans (b2.mono b1.size)).trans (b3.mono (by omega)))
  have HW1 := Lib.hid hW1.symm
  have HW2 := Lib.hid hW2.symm
  have HW3 := Lib.hid hW3.symm
  have Z3 := Lib.hid z3
  have HX := Lib.hid hx
  have HY := Lib.hid hy
  have HPC := Lib.hid (show pairC n T xss n U yss = 0 from by unfold pairC; rw [cx, cy]; simp)
  obtain ⟨x0, x1, x2, x3⟩ := X.out
  obtain ⟨y0, y1, y2, y3⟩ := Y.out
  have TH := Lib.hid (fun W (h : Below w.heap.size w W) => thenChain_any n T U W (HA.out _ h) (HD.out _ h) HX.out HY.out hT hU hn hTU)
  clear ha hd hx hy hW1 hW2 hW3 b1 b2 b3 z1 z2 cx cy
  generalize hM : T * U = M at TH hTU ⊢
  clear hM
  go_enter Try.func30, Try.ntmps30
  go_wp2_with fail
  rw [HW1.out, HW2.out, HW3.out]
  refine (pairCode_any n T n U _ (HA.out _ BA.out) (HD.out _ BA.out)).mono ?_
  rintro e w4 ⟨rfl, b4⟩
  rw [HPC.out]
  have B4 := Lib.hid (BA.out.trans (b4.mono BA.out.size))
  have R4 := Lib.hid (R.out.fs (S := fun _ => False) (Fs.of_below b4) (fun h => h))
  have Z4 := Lib.hid b4.size
  clear x0 x1 x2 x3 y0 y1 y2 y3
  obtain ⟨x0, x1, x2, x3⟩ := X.out.below b4
  obtain ⟨y0, y1, y2, y3⟩ := Y.out.below b4
  clear b4
  go_wp2_with fail
  refine (TH.out _ B4.out).mono ?_
  rintro e w5 ⟨r, rfl, o5, b5⟩
  have R5 := R4.out.fs (S := fun _ => False) (Fs.of_below b5) (fun h => h)
  have B5 := Lib.hid (B4.out.trans (b5.mono B4.out.size))
  have O5 := Lib.hid (o5.lower (base' := w.heap.size + 1 + 1 + 1) (by have := Z3.out; have := Z4.out; omega))
  obtain ⟨va, vn, vc, rfl, _⟩ := o5.formJ
  have q0 := R5.c.get 0 _ rfl
  have q1 := R5.c.get 1 _ rfl
  have q2 := R5.c.get 2 _ rfl
  have f0 := R5.f 0
  have f1 := R5.f 1
  have f2 := R5.f 2
  have ql := R5.c.1
  clear R5 b5 o5 x0 x1 x2 x3 y0 y1 y2 y3 TH
  go_wp2
  refine bodyPost_ret (v := .tuple #[.agg #[.int .i64 n, .int .i64 M, .slice va vn vc], .int .i64 0]) (by simp [results, Try.results30, go_sem, q0, q1, q2, ql]) rfl ⟨_, rfl, ?_, ?_⟩
  · exact OwnII.lower (OwnII.setCell (OwnII.setCell (OwnII.setCell O5.out (by simp) _) (by simp) _) (by simp) _) (by omega)
  · exact ((B5.out.setCell (by simp; omega) _).setCell (by simp; omega) _).setCell (by simp; omega) _
end Go.Proofs.Ytceobhmbnkheiaa
namespace Go.Proofs.Ytceobhmbnkheiaa
open Go.RowKit Go.Sort
/-- the row of a state after some maps -/
def rowH (ms : List (Int × List Int)) (n s i : Nat) : List Int := (List.range n).map fun (t : Nat) => hits (ms.take i) s (t : Int)
theorem rowH_len (ms : List (Int × List Int)) (n s i : Nat) : (rowH ms n s i).length = n := by simp [rowH]
theorem rowH_zero (ms : List (Int × List Int)) (n s : Nat) : rowH ms n s 0 = List.replicate n 0 := by
  refine List.ext_getElem (by simp [rowH]) (fun k h1 h2 => ?_)
  simp [rowH, hits_nil]
theorem rowH_at {ms : List (Int × List Int)} {n s i k : Nat} (h : k < (rowH ms n s i).length) : (rowH ms n s i)[k] = hits (ms.take i) s (k : Int) := by simp [rowH]
theorem rowH_step {ms : List (Int × List Int)} {n s i y : Nat} (hi : i < ms.length) (hy : y < n) (hd : ms[i].2.getD s 0 = (y : Int)) : rowH ms n s (i + 1) = (rowH ms n s i).set y (hits (ms.take i) s (y : Int) + ms[i].1) := by
  refine List.ext_getElem (by simp [rowH]) (fun k h1 h2 => ?_)
  rw [rowH_at, List.getElem_set, hits_take hi]
  unfold hit
  rw [hd]
  by_cases e : y = k
  · subst e; rw [if_pos rfl, if_pos rfl]
  · rw [if_neg (by omega), if_neg e, rowH_at]; omega
theorem rowH_all (ms : List (Int × List Int)) (n s : Nat) : rowH ms n s ms.length = rowF (fun s t => hits ms s (t : Int)) s n := by unfold rowH rowF; rw [List.take_length]

set_option maxRecDepth 100000 in
set_option maxHeartbeats 8000000 in
theorem l05Chain_any {v : Value} {ms : List (Int × List Int)} (b n T : Nat) (w : World) (hb : MpAt w b n T v) (ha : SlM w v ms) (hv : mapsOk n T ms) :
    Calls Try.prog 69 #[.pointer (some ⟨b, 0, none⟩)] w fun e w' => ∃ r, e = .returned (.agg #[.int .i64 n, .int .i64 T, r]) ∧ OwnII w' w.heap.size r (chainM n ms) ∧ Below w.heap.size w w' := by
  have HA := Lib.hid (fun W (h : Below w.heap.size w W) => ha.below h)
  obtain ⟨a, ca, rfl, hca, hca2⟩ := ha.form
  unfold maxLen at hca2
  have HV := Lib.hid hv
  obtain ⟨⟨hn1, hn6⟩, ⟨ht1, ht60⟩, ⟨hl1, hl60⟩, hrow, _⟩ := id hv
  have HROW := Lib.hid hrow
  obtain ⟨W1, hW1⟩ : ∃ W1, W1 = w.alloc (.cells #[.int .i64 0, .int .i64 0, .slice none 0 0] 52) := ⟨_, rfl⟩
  have z1 : W1.heap.size = w.heap.size + 1 := by rw [hW1]; simp
  have b1 : Below w.heap.size w W1 := by rw [hW1]; exact (Below.refl _ _).alloc (Nat.le_refl _) _
  have R := Lib.hid (show Box3 W1 w.heap.size 0 0 (.slice none 0 0) by rw [hW1]; exact Box3.new w 0 0 _)
  have X := Lib.hid (fun W (h : Below w.heap.size w W) => hb.below h)
  have BA := Lib.hid b1
  have HW1 := Lib.hid hW1.symm
  have Z1 := Lib.hid z1
  have HXA := Lib.hid (fun W (h : Below W1.heap.size W1 W) => hb.below (b1.trans (h.mono b1.size)))
  clear ha hv hW1 b1 z1 hrow hb
  go_enter Try.func69, Try.ntmps69
  go_wp2_with fail
  rw [HW1.out]
  refine wpX_start (fun W => MpAt W b n T (.slice a ms.length ca)) [10] (by kernel_rfl) ?_
  have bd : Below W1.heap.size W1 W1.drew := (Below.refl _ _).drew
  have hC : (fun W : World => MpAt W b n T (.slice a ms.length ca)) W1.drew := HXA.out _ bd
  refine wpX_free (i := 0) (v := ?_) rfl (by kernel_rfl) (fun _ _ _ h => h) rfl (fun w' => ?_) ?_
  rotate_left
  · go_simp; try with_reducible rfl
  try simp only [Act.put, List.getElem_toArray, List.getElem_cons_zero, List.getElem_cons_succ, List.setIfInBounds_toArray, List.set_cons_zero, List.set_cons_succ]
  refine wpX_free (i := 1) (v := ?_) rfl (by kernel_rfl) (fun _ _ _ h => h) rfl (fun w' => ?_) ?_
  rotate_left
  · go_simp; try with_reducible rfl
  try simp only [Act.put, List.getElem_toArray, List.getElem_cons_zero, List.getElem_cons_succ, List.setIfInBounds_toArray, List.set_cons_zero, List.set_cons_succ]
  refine wpX_free (i := 2) (v := ?_) rfl (by kernel_rfl) (fun _ _ _ h => h) rfl (fun w' => ?_) ?_
  rotate_left
  · go_simp; try with_reducible rfl
  try simp only [Act.put, List.getElem_toArray, List.getElem_cons_zero, List.getElem_cons_succ, List.setIfInBounds_toArray, List.set_cons_zero, List.set_cons_succ]
  refine wpX_load (i := 3) (v := ?_) rfl (by kernel_rfl) (fun _ _ _ h => h) hC rfl (fun w' hw' => ?_) ?_
  rotate_left
  · obtain ⟨k1, k2, k3, k4⟩ := hw'; go_simp; try with_reducible rfl
  try simp only [Act.put, List.getElem_toArray, List.getElem_cons_zero, List.getElem_cons_succ, List.setIfInBounds_toArray, List.set_cons_zero, List.set_cons_succ]
  refine wpX_free (i := 4) (v := ?_) rfl (by kernel_rfl) (fun _ _ _ h => h) rfl (fun w' => ?_) ?_
  rotate_left
  · go_simp; try with_reducible rfl
  try simp only [Act.put, List.getElem_toArray, List.getElem_cons_zero, List.getElem_cons_succ, List.setIfInBounds_toArray, List.set_cons_zero, List.set_cons_succ]
  refine wpX_free (i := 5) (v := ?_) rfl (by kernel_rfl) (fun _ _ _ h => h) rfl (fun w' => ?_) ?_
  rotate_left
  · go_simp; try with_reducible rfl
  try simp only [Act.put, List.getElem_toArray, List.getElem_cons_zero, List.getElem_cons_succ, List.setIfInBounds_toArray, List.set_cons_zero, List.set_cons_succ]
  refine wpX_free (i := 6) (v := ?_) rfl (by kernel_rfl) (fun _ _ _ h => h) rfl (fun w' => ?_) ?_
  rotate_left
  · go_simp; try with_reducible rfl
  try simp only [Act.put, List.getElem_toArray, List.getElem_cons_zero, List.getElem_cons_succ, List.setIfInBounds_toArray, List.set_cons_zero, List.set_cons_succ]
  refine wpX_load (i := 7) (v := ?_) rfl (by kernel_rfl) (fun _ _ _ h => h) hC rfl (fun w' hw' => ?_) ?_
  rotate_left
  · obtain ⟨k1, k2, k3, k4⟩ := hw'; go_simp; try with_reducible rfl
  try simp only [Act.put, List.getElem_toArray, List.getElem_cons_zero, List.getElem_cons_succ, List.setIfInBounds_toArray, List.set_cons_zero, List.set_cons_succ]
  refine wpX_free (i := 8) (v := ?_) rfl (by kernel_rfl) (fun _ _ _ h => h) rfl (fun w' => ?_) ?_
  rotate_left
  · go_simp; try with_reducible rfl
  try simp only [Act.put, List.getElem_toArray, List.getElem_cons_zero, List.getElem_cons_succ, List.setIfInBounds_toArray, List.set_cons_zero, List.set_cons_succ]
  refine wpX_one (i := 9) rfl (by kernel_rfl) rfl ?_
  intro K2 hK2
  go_simp
  refine hK2 _ _ (HXA.out _ (bd.trans ((Below.refl _ _).alloc (by simp) _))) ?_
  clear hK2 K2
  try simp only [Act.put, List.getElem_toArray, List.getElem_cons_zero, List.getElem_cons_succ, List.setIfInBounds_toArray, List.set_cons_zero, List.set_cons_succ]
  refine wpX_rest (t := [10]) (l := [_]) rfl (by kernel_rfl) (by kernel_rfl) ?_
  try simp only [List.getElem_toArray, List.getElem_cons_zero, List.getElem_cons_succ]
  change wpList _ _ _ _ _ (W1.drew.alloc (.cells #[.int .i64 0, .int .i64 0, .slice none 0 0] 52))
  rw [Z1.out]
  generalize hwd : W1.drew = wq at bd ⊢
  have hsz : wq.heap.size = w.heap.size + 1 := by rw [← hwd]; exact Z1.out
  have BQ := BA.out.trans (bd.mono BA.out.size)
  have RQ := R.out.fs (S := fun _ => False) (Fs.of_below bd) (fun h => h)
  obtain ⟨W2, hW2⟩ : ∃ W2, W2 = wq.alloc (.cells #[.int .i64 n, .int .i64 T, .slice none 0 0] 52) := ⟨_, rfl⟩
  have X2 := Lib.hid (show Box3 W2 (w.heap.size + 1) n T (.slice none 0 0) by rw [hW2, ← hsz]; exact Box3.new wq n T _)
  have b2 : Below wq.heap.size wq W2 := by rw [hW2]; exact (Below.refl _ _).alloc (Nat.le_refl _) _
  have B2 := Lib.hid (BQ.trans (b2.mono BQ.size))
  have R2 := Lib.hid (RQ.fs (S := fun _ => False) (Fs.of_below b2) (fun h => h))
  have z2 : W2.heap.size = w.heap.size + 1 + 1 := by rw [hW2]; simp [hsz]
  have HW2 := Lib.hid hW2.symm
  have Z2 := Lib.hid z2
  have B0 := Lib.hid (Below.refl (w.heap.size + 1) W2)
  have HX := Lib.hid (fun W (h : Below (w.heap.size + 1) W2 W) => X.out W (B2.out.trans (h.mono (Nat.le_add_right _ 1))))
  clear bd b2 hW2 RQ R BA hwd hC BQ z2 HXA
  go_wp2
  rw [HW2.out]
  clear hsz
  go_loopw [4] (fun iv wr => ∃ (s : Nat) (v : Value), s ≤ n ∧ iv = .int .i64 s ∧ Box3 wr (w.heap.size + 1) n T v ∧ OwnII wr (w.heap.size + 1 + 1) v (rowsF (fun s t => hits ms s (t : Int)) n s) ∧ Below (w.heap.size + 1) W2 wr) (fun iv _ => n - (intOf iv).toNat)
  case atStart => exact ⟨0, _, Nat.zero_le _, rfl, X2.out, OwnII.nil _ _, B0.out⟩
  case round =>
    clear B0
    obtain ⟨s, v, hs, rfl, hbox, hown, hbw⟩ := hrel
    have HBX := Lib.hid hbox
    have HO := Lib.hid hown
    have HBW := Lib.hid hbw
    have HBw := Lib.hid (B2.out.trans (hbw.mono (Nat.le_add_right _ 1)))
    have hzr : w.heap.size + 1 + 1 ≤ wr.heap.size := by have := hbw.size; have := Z2.out; omega
    have i0 : (0 : Int) ≤ (s : Int) := by omega
    obtain ⟨x0, x1, x2, x3⟩ := HX.out _ hbw
    clear hbox hown hbw
    by_cases hsn : s < n
    · have i1 : (s : Int) < (n : Int) := by omega
      have hn0 : n ≤ 16777216 := by omega
      obtain ⟨wo, rfl⟩ : ∃ wo : World, wo = wr := ⟨_, rfl⟩
      go_wp2_with (at_make; refine make_i64 wo _ _ rfl rfl n rfl rfl rfl rfl hn0 ?_)
      intro w1 hown hb1 hsz1
      have own0 := Lib.hid (show OwnI w1 wo.heap.size (.slice (some ⟨wo.heap.size, 0, none⟩) n n) (rowH ms n s 0) by rw [rowH_zero]; exact hown)
      have b0 := Lib.hid hb1
      clear x0 x1 x2 x3 hown hb1 hsz1
      go_wp2
      go_loopw [6] (fun jv w4 => ∃ j : Nat, j ≤ ms.length ∧ jv = .int .i64 j ∧ OwnI w4 wo.heap.size (.slice (some ⟨wo.heap.size, 0, none⟩) n n) (rowH ms n s j) ∧ Below wo.heap.size wo w4) (fun jv _ => ms.length - (intOf jv).toNat)
      case atStart => exact ⟨0, Nat.zero_le _, rfl, own0.out, b0.out⟩
      case round =>
        clear own0 b0
        obtain ⟨j, hj, rfl, ho, hbj⟩ := hrel
        have HOR := Lib.hid ho
        have HBJ := Lib.hid hbj
        have hbj2 := HBW.out.trans (hbj.mono (by omega))
        obtain ⟨x0, x1, x2, x3⟩ := HX.out _ hbj2
        have j0 : (0 : Int) ≤ (j : Int) := by omega
        by_cases hjn : j < ms.length
        · have i2 : (j : Int) < (ms.length : Int) := by omega
          obtain ⟨mb, mo, ra, rca, wt, tl, hae, hmb, hwt, htl, gm1, gm2, sm⟩ := (HA.out _ (HBw.out.trans (hbj.mono HBw.out.size))).atJ2 hjn
          subst hae
          have hr := HROW.out _ (List.getElem_mem hjn)
          rw [← htl, ← hwt] at hr
          have hsl : s < tl.length := by have := hr.2.1; omega
          obtain ⟨rb, ro, rfl, _, gs⟩ := sm.at_ hsl
          have hy := hr.2.2 _ (List.getElem_mem hsl)
          have e0 : tl.getD s 0 = tl[s] := by rw [List.getD_eq_getElem?_getD, List.getElem?_eq_getElem hsl]; rfl
          have hst := fun (y : Nat) (hy : y < n) (hd : tl.getD s 0 = (y : Int)) => rowH_step (ms := ms) (n := n) (s := s) hjn hy (by rw [← htl]; exact hd)
          rw [← hwt, e0] at hst
          generalize tl[s] = y at gs hst hy e0
          obtain ⟨y, rfl⟩ := Int.eq_ofNat_of_zero_le hy.1
          have hyn : y < n := by omega
          have hst := hst y hyn rfl
          have hlen := rowH_len ms n s j
          have gc := ho.cell (i := y) (by rw [hlen]; exact hyn)
          rw [rowH_at] at gc
          have hb0 := hits_le HV.out (show j ≤ ms.length by omega) s (y : Int)
          have hb1 := hits_le HV.out (show j + 1 ≤ ms.length by omega) s (y : Int)
          have hb2 : hits (ms.take (j + 1)) s (y : Int) = hits (ms.take j) s (y : Int) + wt := by
            rw [hits_take hjn]
            congr 1
            unfold hit
            rw [← htl, e0, if_pos rfl]
            exact hwt.symm
          rw [hb2] at hb1
          generalize hits (ms.take j) s (y : Int) = H at gc hst hb0 hb1
          have HST := Lib.hid hst
          have r1 : IntKind.i64.wrap (H + wt) = H + wt := IntWalk.i64_in _ (by omega)
          have i3 : (s : Int) < (tl.length : Int) := by omega
          have i4 : (y : Int) < (n : Int) := by omega
          have i5 : (0 : Int) ≤ (y : Int) := by omega
          have k1 := fun d os => cell_regrown x3 d os
          have k2 := fun d os => cell_regrown gm1 d os
          have k3 := fun d os => cell_regrown gm2 d os
          have k4 := fun d os => cell_regrown gs d os
          have k5 := fun d os => cell_regrown gc d os
          clear hst hb0 hb1 hb2 e0 hy hr sm hwt htl hbj hbj2 ho hlen
          go_wp2_with fail
          refine wp_region_below_tail 24 (by kernel_rfl) (by kernel_rfl) ?_
          simp only [List.take_succ_cons, List.take_zero, List.drop_succ_cons, List.drop_zero]
          repeat (first | go_big_quiet_skip | quiet_step (fail))
          refine wpQuiet_nil ?_
          intro _ hw'
          obtain ⟨⟨dq, osq⟩, hw''⟩ := hw'
          subst hw''
          have bq := below_regrown wr dq osq
          generalize grow (redrawn wr dq) osq = wq at bq ⊢
          have o4 := HOR.out.below bq
          have hf := o4.free y
          have gc4 := o4.cell (i := y) (by rw [rowH_len]; exact hyn)
          have O4 := Lib.hid (show OwnI (wq.setCell ⟨wo.heap.size, y, none⟩ (.int .i64 (H + wt))) wo.heap.size (.slice (some ⟨wo.heap.size, 0, none⟩) n n) (rowH ms n s (j + 1)) from by rw [HST.out]; exact o4.set y (H + wt))
          have B4 := Lib.hid ((HBJ.out.trans (bq.mono HBJ.out.size)).setCell (p := ⟨wo.heap.size, y, none⟩) (Nat.le_refl _) (.int .i64 (H + wt)))
          clear k1 k2 k3 k4 k5 gm1 gm2 gs gc x0 x1 x2 x3 o4 bq
          go_wp2
          go_roundw
          case rel => exact ⟨j + 1, by omega, by go_num, O4.out, B4.out⟩
          case measure => simp [intOf]; omega
        · obtain rfl : j = ms.length := by omega
          have hb3 := HBX.out.fs (S := fun _ => False) (Fs.of_below HBJ.out) (fun h => h)
          have c2 := hb3.c.get 2 _ rfl
          have fz := hb3.f 2
          have cl := hb3.c.1
          have hzj := HBJ.out.size
          obtain ⟨oa, on, oc, rfl, _⟩ := HO.out.formJ
          have HRA := Lib.hid (rowH_all ms n s)
          have ho2 : OwnI wr wo.heap.size (.slice (some ⟨wo.heap.size, 0, none⟩) n n) (rowF (fun s t => hits ms s (t : Int)) s n) := by rw [← HRA.out]; exact HOR.out
          have bx := (Below.refl wr.heap.size wr).alloc (Nat.le_refl _) (.cells #[.slice (some ⟨wo.heap.size, 0, none⟩) n n] 32)
          have HO1 := Lib.hid ((HO.out.b.below HBJ.out).below bx)
          have HU1 := Lib.hid ((ho2.below bx).lower (base' := w.heap.size + 1 + 1) (by omega))
          have HB := Lib.hid (show ∀ g, (Value.slice (some ⟨wo.heap.size, 0, none⟩) n n).ownBlock = some g → wo.heap.size ≤ g from fun g hg => (HOR.out.lt g hg).1)
          have hln : (rowsF (fun s t => hits ms s (t : Int)) n s).length < 16777216 := by rw [rowsF_len]; omega
          clear hbj ho ho2 hbj2
          go_wp2_with (at_builtin; refine listAppRow _ _ _ rfl rfl rfl HO1.out HU1.out HB.out rfl (by simp [go_sem]) hln (by simp; omega) ?_)
          intro v7 w7 o7 g7
          have B7 : Below (w.heap.size + 1 + 1) wr w7 := (bx.mono (by omega)).trans ((Below.refl _ _).grown g7 (by simp; omega) (fun k hk => (HO1.out.lt k hk).1))
          have hb7 := hb3.fs (S := fun k => w.heap.size + 1 + 1 ≤ k) ⟨B7.os, B7.tape, B7.output, B7.size, fun k _ hk => B7.block k (by omega)⟩ (by omega)
          obtain ⟨va7, vn7, vc7, rfl, _⟩ := o7.formJ
          have O7 := Lib.hid (show OwnII w7 (w.heap.size + 1 + 1) (.slice va7 vn7 vc7) (rowsF (fun s t => hits ms s (t : Int)) n (s + 1)) from by rw [rowsF_succ]; exact o7)
          have X7 := Lib.hid hb7
          have BW7 := Lib.hid ((HBW.out.trans (HBJ.out.mono (by omega))).trans (B7.mono (by omega)))
          have k2 := hb7.c.get 2 _ rfl
          have f2 := hb7.f 2
          have kl := hb7.c.1
          clear o7 g7 B7 hb7 hb3 c2 fz cl bx x0 x1 x2 x3
          go_wp2
          go_roundw
          case rel => exact ⟨s + 1, _, by omega, by go_num, X7.out.set _, OwnII.setCell O7.out (by simp) _, BW7.out.setCell (by simp) _⟩
          case measure => simp [intOf]; omega
    · obtain rfl : s = n := by omega
      have rb := R2.out.fs (S := fun k => w.heap.size + 1 ≤ k) ⟨HBW.out.os, HBW.out.tape, HBW.out.output, HBW.out.size, fun k _ hk => HBW.out.block k (by omega)⟩ (by omega)
      obtain ⟨va, vn, vc, rfl, _⟩ := HO.out.formJ
      have k0 := HBX.out.c.get 0 _ rfl
      have k1 := HBX.out.c.get 1 _ rfl
      have k2 := HBX.out.c.get 2 _ rfl
      have kl := HBX.out.c.1
      have q0 := rb.c.get 0 _ rfl
      have q1 := rb.c.get 1 _ rfl
      have q2 := rb.c.get 2 _ rfl
      have f0 := rb.f 0
      have f1 := rb.f 1
      have f2 := rb.f 2
      have ql := rb.c.1
      have HRC := Lib.hid (rows_chain s ms)
      clear rb
      go_wp2
      refine bodyPost_ret (v := .agg #[.int .i64 s, .int .i64 T, .slice va vn vc]) (by simp [results, Try.results69, go_sem, q0, q1, q2, ql]) rfl ⟨_, rfl, ?_, ?_⟩
      · rw [← HRC.out]
        exact OwnII.lower (OwnII.setCell (OwnII.setCell (OwnII.setCell HO.out (by simp; omega) _) (by simp; omega) _) (by simp; omega) _) (by omega)
      · exact ((HBw.out.setCell (by simp) _).setCell (by simp) _).setCell (by simp) _

set_option maxRecDepth 100000 in
set_option maxHeartbeats 4000000 in
theorem SpecChainOfMaps_any {v : Value} {ms : List (Int × List Int)} (n T : Nat) (w : World) (ha : SlM w v ms) (hv : mapsOk n T ms) :
    Calls Try.prog 24 #[.agg #[.int .i64 n, .int .i64 T, v]] w fun e w' => ∃ r, e = .returned (.tuple #[.agg #[.int .i64 n, .int .i64 T, r], .int .i64 0]) ∧ OwnII w' w.heap.size r (chainM n ms) ∧ Below w.heap.size w w' := by
  have HA := Lib.hid (fun W (h : Below w.heap.size w W) => ha.below h)
  obtain ⟨a, ca, rfl, hca, hca2⟩ := ha.form
  have HV := Lib.hid hv
  obtain ⟨W1, hW1⟩ : ∃ W1, W1 = w.alloc (.cells #[.int .i64 n, .int .i64 T, .slice a ms.length ca] 26) := ⟨_, rfl⟩
  obtain ⟨W2, hW2⟩ : ∃ W2, W2 = W1.alloc (.cells #[.int .i64 0, .int .i64 0, .slice none 0 0] 52) := ⟨_, rfl⟩
  have z1 : W1.heap.size = w.heap.size + 1 := by rw [hW1]; simp
  have z2 : W2.heap.size = w.heap.size + 1 + 1 := by rw [hW2]; simp [z1]
  have b1 : Below w.heap.size w W1 := by rw [hW1]; exact (Below.refl _ _).alloc (Nat.le_refl _) _
  have b2 : Below W1.heap.size W1 W2 := by rw [hW2]; exact (Below.refl _ _).alloc (Nat.le_refl _) _
  have X := Lib.hid (show MpAt W2 w.heap.size n T (.slice a ms.length ca) from (show MpAt W1 w.heap.size n T (.slice a ms.length ca) by rw [hW1]; exact MpAt.new w n T _).below b2)
  have R := Lib.hid (show Box3 W2 (w.heap.size + 1) 0 0 (.slice none 0 0) by rw [hW2, ← z1]; exact Box3.new W1 0 0 _)
  have BA := Lib.hid (b1.trans (b2.mono b1.size))
  have HW1 := Lib.hid hW1.symm
  have HW2 := Lib.hid hW2.symm
  have Z2 := Lib.hid z2
  obtain ⟨x0, x1, x2, x3⟩ := X.out
  clear ha hv hW1 hW2 b1 b2 z1
  go_enter Try.func24, Try.ntmps24
  go_wp2_with fail
  rw [HW1.out, HW2.out]
  refine (l05Ok_ok _ _ X.out (HA.out _ BA.out) HV.out).mono ?_
  rintro e w3 ⟨rfl, b3⟩
  have X3 := Lib.hid (X.out.below b3)
  have B3 := Lib.hid (BA.out.trans (b3.mono BA.out.size))
  have R3 := Lib.hid (R.out.fs (S := fun _ => False) (Fs.of_below b3) (fun h => h))
  have Z3 := Lib.hid b3.size
  clear b3 x0 x1 x2 x3
  go_wp2_with fail
  refine (l05Chain_any _ n T _ X3.out (HA.out _ B3.out) HV.out).mono ?_
  rintro e w4 ⟨r, rfl, o4, b4⟩
  have R4 := R3.out.fs (S := fun _ => False) (Fs.of_below b4) (fun h => h)
  have B4 := Lib.hid (B3.out.trans (b4.mono B3.out.size))
  have O4 := Lib.hid (o4.lower (base' := w.heap.size + 1 + 1) (by have := Z3.out; have := Z2.out; omega))
  obtain ⟨va, vn, vc, rfl, _⟩ := o4.formJ
  have q0 := R4.c.get 0 _ rfl
  have q1 := R4.c.get 1 _ rfl
  have q2 := R4.c.get 2 _ rfl
  have f0 := R4.f 0
  have f1 := R4.f 1
  have f2 := R4.f 2
  have ql := R4.c.1
  clear R4 b4 o4
  go_wp2
  refine bodyPost_ret (v := .tuple #[.agg #[.int .i64 n, .int .i64 T, .slice va vn vc], .int .i64 0]) (by simp [results, Try.results24, go_sem, q0, q1, q2, ql]) rfl ⟨_, rfl, ?_, ?_⟩
  · exact OwnII.lower (OwnII.setCell (OwnII.setCell (OwnII.setCell O4.out (by simp) _) (by simp) _) (by simp) _) (by omega)
  · exact ((B4.out.setCell (by simp) _).setCell (by simp) _).setCell (by simp) _
end Go.Proofs.Ytceobhmbnkheiaa
