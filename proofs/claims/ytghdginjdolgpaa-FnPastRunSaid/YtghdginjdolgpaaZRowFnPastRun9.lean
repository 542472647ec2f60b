/-
  StepByDraw and RunByDraws, both sides, for valid arguments.
-/
import Derived.Test.YtghdginjdolgpaaZRowFnPastRun5
import Derived.Test.YtghdginjdolgpaaZRowFnPastRun6
import Derived.Test.YtghdginjdolgpaaZRowFnPastRun3
import Derived.Test.YtghdginjdolgpaaZRowFnPastRun4
set_option linter.unusedVariables false
set_option linter.unusedSimpArgs false
namespace Go.Proofs.Ytghdginjdolgpaa
open Go.RowKit Go.Sort
theorem OwnI.lit1 (w : World) {base : Nat} (hb : base ≤ w.heap.size) (x : Int) : OwnI (w.alloc (.cells #[.int .i64 x] 2)) base (.slice (some ⟨w.heap.size, 0, none⟩) 1 1) [x] :=
  World.ownsRow_lit (base := base) (e := 2) (size := 1) w #[.int .i64 x] 1 hb (by simp [maxLen]) (by simp)
theorem isState_c {u : Value} (st t x : Int) (w : World) (h1 : 1 ≤ st) (h2 : st ≤ 1000) :
    Calls Try.prog 44 #[.agg #[.int .i64 st, .int .i64 t, u], .int .i64 x] w fun e w' => e = .returned (.bool (inR x 0 (st - 1))) ∧ Below w.heap.size w w' := by
  go_enter Try.func44, Try.ntmps44
  go_wp2_with (go_at_call 47; refine (inRange_any _ _ _ _).mono ?_; rintro e w' ⟨rfl, rfl⟩)
  go_ret
  exact ⟨rfl, (Below.refl _ _).alloc (Nat.le_refl _) _⟩
theorem step_appJ {ops : Array Oper} {o : Oper} {a : Act} {K : Act → World → Prop} {Q : Exit → Act → World → Prop} {E : Prop} {w w0 w1 : World} (hg : o.guard = none) (s x : Operand)
    (ho : o.op = .call { callee := .builtin .append, args := #[s, x], argTypes := #[28, 28] })
    {g : Nat} {v : Value} {xs : List Int} {y : Int} (hs : a.eval s = v) (hown : OwnI w1 w0.heap.size v xs) (h01 : Below w0.heap.size w0 w1) (h1w : Below w1.heap.size w1 w) (hx : a.eval x = .slice (some ⟨g, 0, none⟩) 1 1) (hc : w.cell? ⟨g, 0, none⟩ = some (.int .i64 y)) (hlen : xs.length < 16777216)
    (h : ∀ v' w', OwnI w' w0.heap.size v' (xs ++ [y]) → Below w0.heap.size w0 w' → K (a.put o.dst v') w') : if Region.wanted o (yielded ops a.tmps) = true then Oper.wp Try.prog o a w K Q else E := by
  have h0w := h01.trans (h1w.mono h01.size)
  have hown' := hown.below h1w
  exact stepAppI w s x hg ho hs hown' hx hc hlen h0w.size (fun v' w' k1 k2 => h v' w' k1 (h0w.trans (hown'.grown k2 h0w.size)))

set_option maxHeartbeats 400000 in
theorem runClosure_any {v : Value} {xss : List (List Int)} (b : Nat) (s t d : Int) (w : World) (hc : ChainAt w b 0 s t v) (ha : SlII w v xss) (ht : 1 ≤ t) (ht2 : t ≤ 60) :
    Calls Try.prog 45 #[.int .i64 d, .pointer (some ⟨b, 0, none⟩)] w fun e w' => e = .returned (.bool (!inR d 0 (t - 1))) ∧ Below w.heap.size w w' := by
  obtain ⟨a, ca, us, rfl, _⟩ := id ha
  obtain ⟨c00, c0, c1, c2⟩ := hc
  simp only [Nat.zero_add] at c0 c1 c2
  go_enter Try.func45, Try.ntmps45
  go_wp2_with fail
  refine (isDraw_any s t d _ ha ht ht2).mono ?_
  rintro e w2 ⟨rfl, b2⟩
  go_wp2
  go_ret
  exact ⟨rfl, b2⟩
theorem drawsB_any {t : Int} {ds : List Int} (h : DrawsB t ds) : (ds.any fun d => !inR d 0 (t - 1)) = false := by
  rw [List.any_eq_false]
  intro d hd
  have := h d hd
  rw [show inR d 0 (t - 1) = true from inR_iff.2 (by omega)]
  simp
/-- a run's state, as a number -/
theorem run_at {s t : Int} {xss : List (List Int)} (h : chainOk s t xss = true) {k : Nat} (hk : k < xss.length) {ds : List Int} (hd : DrawsB t ds) {j : Nat} (hj : j ≤ ds.length) : ∃ y : Nat, y < xss.length ∧ (runN xss k ds j).getD j 0 = (y : Int) := by
  have hl : j < (runN xss (k : Int) ds j).length := by rw [runN_len]; omega
  have := runN_in h (x := (k : Int)) ⟨by omega, by omega⟩ hd j hj _ (List.getElem_mem hl)
  refine ⟨(runN xss (k : Int) ds j)[j].toNat, by omega, ?_⟩
  rw [gD_at hl]; omega
set_option maxRecDepth 100000 in
set_option maxHeartbeats 4000000 in
theorem ImplRunByDraws_any {v dv : Value} {xss : List (List Int)} {ds : List Int} (s t : Int) (k : Nat) (w : World) (ha : SlII w v xss) (hd : SlI w dv ds) (hv : chainOk s t xss = true) (hk : k < xss.length) (hdb : DrawsB t ds) (hl : ds.length ≤ 200) :
    Calls Try.prog 12 #[.agg #[.int .i64 s, .int .i64 t, v], .int .i64 k, dv] w fun e w' => ∃ u, e = .returned (.tuple #[u, .int .i64 0]) ∧ OwnI w' w.heap.size u (runN xss k ds ds.length) ∧ Below w.heap.size w w' := by
  have hmf : ∀ (fn : Fn) (first cap : Array Value) (w : World), (Instr.makeFunc fn first cap).run Try.prog w = .ok (.func fn first cap) w := fun _ _ _ _ => rfl
  have HA := Lib.hid (fun W (h : Below w.heap.size w W) => ha.below h)
  have HDR := Lib.hid (fun W (h : Below w.heap.size w W) => hd.below h)
  obtain ⟨a, ca, us, rfl, _, _, _, _, _⟩ := ha
  obtain ⟨da, dc, rfl, dl, dm, _⟩ := hd
  unfold maxLen at dm
  obtain ⟨⟨hs1, hs2⟩, ⟨ht1, ht2⟩, hls, _⟩ := chainOk_parts0 hv
  have bx := chBelow w s t (.slice a xss.length ca)
  have X := Lib.hid (chBox w s t (.slice a xss.length ca))
  have E1 := Lib.hid (show inR (k : Int) 0 (s - 1) = true from inR_iff.2 (by omega))
  have HAN := Lib.hid (drawsB_any hdb)
  have HV := Lib.hid hv
  have HDB := Lib.hid hdb
  have RA := Lib.hid (fun j (hj : j ≤ ds.length) => run_at hv hk hdb hj)
  clear hv hdb hls
  go_enter Try.func12, Try.ntmps12
  go_wp2_with fail
  refine (ValidChain_any s t _ (HA.out _ bx)).mono ?_
  rintro e w1 ⟨rfl, b1⟩
  rw [HV.out]
  have hb1 := bx.trans (b1.mono bx.size)
  have X1 := Lib.hid (X.out.below b1)
  obtain ⟨c00, c0, c1, c2⟩ := X1.out
  simp only [Nat.zero_add] at c0 c1 c2
  clear b1
  go_wp2_with fail
  refine (isState_c s t k _ hs1 (by omega)).mono ?_
  rintro e w2 ⟨rfl, b2⟩
  rw [E1.out]
  have hb2 := hb1.trans (b2.mono hb1.size)
  have X2 := Lib.hid (X1.out.below b2)
  clear c00 c0 c1 c2 b2
  go_wp2_with fail
  refine (ContainsFuncRun_any _ (fun d => !inR d 0 (t - 1)) _ (HDR.out _ hb2) (fun W x hW _ => runClosure_any w.heap.size s t x W (X2.out.below hW) (HA.out _ (hb2.trans (hW.mono hb2.size))) ht1 ht2)).mono ?_
  rintro e w3 ⟨rfl, b3⟩
  rw [HAN.out]
  have hb3 := hb2.trans (b3.mono hb2.size)
  have X3 := Lib.hid (X2.out.below b3)
  have own1 := OwnI.lit1 w3 (Nat.le_refl _) (k : Int)
  have O1 := Lib.hid own1
  clear b3 own1
  go_wp2
  go_loopw [8, 10, 32] (fun u _ i wr => ∃ j : Nat, j ≤ ds.length ∧ i = .int .i64 j ∧ OwnI wr w3.heap.size u (runN xss k ds j) ∧ Below w3.heap.size w3 wr) (fun _ _ i _ => ds.length - (intOf i).toNat)
  case atStart => exact ⟨0, Nat.zero_le _, rfl, O1.out, (Below.refl _ _).alloc (Nat.le_refl _) _⟩
  case round =>
    obtain ⟨j, hj, rfl, hown, hbr⟩ := hrel
    have hbw := hb3.trans (hbr.mono hb3.size)
    by_cases hlt : j < ds.length
    · obtain ⟨_, _, he, _, _, rd⟩ := HDR.out _ hbw
      simp only [Value.slice.injEq] at he
      obtain ⟨rfl, _, rfl⟩ := he
      obtain ⟨db, doff, rfl, gd⟩ := rd.one (i64s_get hlt)
      have hdd := HDB.out _ (List.getElem_mem hlt)
      obtain ⟨y, hy, hyv⟩ := RA.out j hj
      have hnx : runN xss k ds (j + 1) = runN xss k ds j ++ [nxt xss ds[j] y] := by
        conv => lhs; unfold runN
        rw [hyv, gD_at hlt]
      have hll := runN_len xss (k : Int) ds j
      generalize runN xss (k : Int) ds j = l at hown hyv hnx hll
      generalize ds[j] = d at gd hdd hnx
      rcases hown.forms with ⟨_, h0⟩ | ⟨g, gc, rfl, hg, hg1, hgc, hgc2⟩
      · rw [h0] at hll; simp at hll
      have hjl : j < l.length := by omega
      have gl := hown.cell hjl
      rw [gD_at hjl] at hyv
      rw [hyv] at gl
      unfold maxLen at hgc2
      obtain ⟨m, hm⟩ : ∃ m, l.length = m := ⟨_, rfl⟩
      rw [hm] at hown hgc ⊢
      have HO := Lib.hid hown
      have HM := Lib.hid hm
      have hmj : m = j + 1 := by omega
      have r1 : IntKind.i64.wrap ((m : Int) - 1) = (j : Int) := by rw [IntWalk.i64_in _ (by omega)]; omega
      have i0 : (0 : Int) ≤ (j : Int) := by omega
      have i1 : (j : Int) < (m : Int) := by omega
      have i2 : (j : Int) < (ds.length : Int) := by omega
      have HLM := Lib.hid (show l.length < 16777216 by omega)
      have HNX := Lib.hid hnx
      have HBR := Lib.hid hbr
      have HBW := Lib.hid hbw
      have HDD := Lib.hid hdd
      obtain ⟨c00, c0, c1, c2⟩ := X3.out.below hbr
      simp only [Nat.zero_add] at c0 c1 c2
      have k0 := fun d os => cell_regrown c0 d os
      have k1 := fun d os => cell_regrown c1 d os
      have k2 := fun d os => cell_regrown c2 d os
      have k3 := fun d os => cell_regrown gl d os
      clear hown hm hmj hll hyv hnx hdd rd hbr hbw c00
      go_wp2_with fail
      have hlm := HLM.out
      go_region_law (first
        | (refine step_appJ (w0 := w3) (w1 := w1) rfl (.tmp 36) (.tmp 46) rfl (y := nxt xss d y) rfl o1 c1 (by (repeat (first | exact Below.refl _ _ | refine Below.drew ?_ | refine Below.alloc ?_ (by simp) _))) rfl (by first | (simp [go_sem]; done) | fail) hlm ?_; intro v5 w5 o5 hb5; rw [← HNX.out] at o5)
        | (go_simp; go_at_call 46; refine (stepByDraw_b s t d y _ ((HA.out _ HBW.out).below (by (repeat (first | exact Below.refl _ _ | refine Below.drew ?_ | refine Below.alloc ?_ (by simp) _)))) HV.out HDD.out hy).mono ?_; rintro e w1 ⟨rfl, b1⟩; have bw1 := below_of (a := wr) (by (repeat (first | exact Below.refl _ _ | refine Below.drew ?_ | refine Below.alloc ?_ (by simp) _))) b1; have o1 := HO.out.below bw1; have c1 := HBR.out.trans (bw1.mono HBR.out.size))
        | fail "no arm")
      all_goals
        go_wp2
        go_roundw
        case rel => exact ⟨j + 1, by omega, by go_num, o5, hb5⟩
        case measure => simp [intOf]; omega
    · obtain rfl : j = ds.length := by omega
      go_wp2
      go_ret2
      exact ⟨_, rfl, hown.lower hb3.size, hbw⟩
end Go.Proofs.Ytghdginjdolgpaa
