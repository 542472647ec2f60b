/-
  The program's first shortest path. With it: The chains that the laws draw: l01Draw, P6Chain. Closed classes and classes: the program's side. Classes, and the program's entries for what is reached.
-/
import Derived.Test.YtpmabnohdabbdaaZRowStepPaths20
import Derived.Test.YtpmabnohdabbdaaZRowStepPaths16
import Derived.Test.YtpmabnohdabbdaaZRowStepPaths5
import Derived.Test.YtpmabnohdabbdaaZRowStepPaths8
set_option linter.unusedVariables false
set_option linter.unusedSimpArgs false
namespace Go.Proofs.Ytpmabnohdabbdaa
open Go.RowKit Go.Sort
theorem chain_drawn {n t : Nat} {xss : List (List Int)} (h1 : 1 ≤ n) (h2 : n ≤ 6) (t1 : 1 ≤ t) (t2 : t ≤ 60) (hl : xss.length = n) (hr : ∀ r ∈ xss, r.length = n ∧ (∀ x ∈ r, 0 ≤ x ∧ x ≤ (t : Int)) ∧ r.sum = (t : Int)) : chainOk n t xss = true := by
  unfold chainOk
  rw [Bool.and_eq_true, Bool.and_eq_true, Bool.and_eq_true]
  refine ⟨inR_iff.2 (by omega), inR_iff.2 (by omega), by simp [hl], ?_⟩
  unfold rowsOk
  rw [List.all_eq_true]
  intro r hm
  obtain ⟨a, b, c⟩ := hr r hm
  unfold rowOk inAll
  rw [Bool.and_eq_true, Bool.and_eq_true, List.all_eq_true]
  exact ⟨by simp [a], fun x hx => inR_iff.2 (by have := b x hx; omega), by simp [c]⟩
/-- a chain under work -/
structure Box3 (w : World) (b : Nat) (n t : Int) (v : Value) : Prop where
  c : CellsAt w b [.int .i64 n, .int .i64 t, v]
  f : ∀ i, w.frozen? ⟨b, i, none⟩ = false
theorem Box3.fs {S : Nat → Prop} {w w' : World} {b : Nat} {n t : Int} {v : Value} (h : Box3 w b n t v) (hf : Fs S w w') (hS : ¬ S b) : Box3 w' b n t v :=
  ⟨h.c.fs hf hS, fun i => by rw [hf.frozen (p := ⟨b, i, none⟩) h.c.1 hS]; exact h.f i⟩
theorem Box3.new (w : World) (n t : Int) (v : Value) : Box3 (w.alloc (.cells #[.int .i64 n, .int .i64 t, v] 37)) w.heap.size n t v :=
  ⟨CellsAt.new w [.int .i64 n, .int .i64 t, v] 37, fun i => by simp [go_sem]⟩
theorem Box3.set {w : World} {b : Nat} {n t : Int} {v : Value} (h : Box3 w b n t v) (u : Value) : Box3 (w.setCell ⟨b, 2, none⟩ u) b n t u := by
  have c0 := h.c.get 0 _ rfl
  have c1 := h.c.get 1 _ rfl
  have c2 := h.c.get 2 _ rfl
  refine ⟨⟨by simpa using h.c.1, fun i v hv => ?_⟩, fun i => by simpa using h.f i⟩
  match i, hv with
  | 0, hv => simp at hv; subst hv; simp [go_sem, c0]
  | 1, hv => simp at hv; subst hv; simp [go_sem, c1]
  | 2, hv => simp at hv; subst hv; simp [go_sem, c2]
theorem OwnIIB.fsJ {S : Nat → Prop} {w w' : World} {base B : Nat} {v : Value} {xss : List (List Int)} (h : OwnIIB w base B v xss) (hf : Fs S w w') (hS : ∀ k, S k → k < base) : OwnIIB w' base B v xss := by
  obtain ⟨vs, h1, h2, h3⟩ := h
  exact ⟨vs, ownsRow_fs h1 hf hS, ⟨h2.1, fun i u xs hu hx => ownsRow_fs (h2.2.1 i u xs hu hx) hf hS, h2.2.2⟩, h3⟩
theorem OwnII.formJ {w : World} {base : Nat} {v : Value} {xss : List (List Int)} (h : OwnII w base v xss) : ∃ a n c, v = .slice a n c ∧ Hid (n = xss.length) := by
  obtain ⟨a, ca, us, rfl, _⟩ := h.sl
  exact ⟨a, _, ca, rfl, rfl⟩
theorem Fs.set1 (w : World) (r i : Nat) (x : Value) : Fs (fun k => k = r) w (w.setCell ⟨r, i, none⟩ x) := Fs.set (S := fun k => k = r) (Fs.refl _ _) (a := ⟨r, i, none⟩) rfl _
theorem Fs.set3 (w : World) (r : Nat) (x y z : Value) : Fs (fun k => k = r) w (((w.setCell ⟨r, 0, none⟩ x).setCell ⟨r, 1, none⟩ y).setCell ⟨r, 2, none⟩ z) :=
  Fs.set (S := fun k => k = r) (Fs.set (S := fun k => k = r) (Fs.set (S := fun k => k = r) (Fs.refl _ _) (a := ⟨r, 0, none⟩) rfl _) (a := ⟨r, 1, none⟩) rfl _) (a := ⟨r, 2, none⟩) rfl _
theorem Fs.of_belowB {w w' : World} {B : Nat} (h : Below B w w') : Fs (fun k => B ≤ k) w w' := ⟨h.os, h.tape, h.output, h.size, fun k hk hx => h.block k (by omega)⟩
theorem step_appRowJ {ops : Array Oper} {o : Oper} {a : Act} {K : Act → World → Prop} {Q : Exit → Act → World → Prop} {E : Prop} {w w4 : World} (hg : o.guard = none) (s x : Operand)
    (ho : o.op = .call { callee := .builtin .append, args := #[s, x], argTypes := #[22, 22] })
    {base B g : Nat} {v u : Value} {xss : List (List Int)} {xs : List Int} (hs : a.eval s = v) (hown : OwnIIB w4 base B v xss) (hu : OwnI w4 base u xs) (hB : ∀ g, u.ownBlock = some g → B ≤ g) (h4w : Below w4.heap.size w4 w)
    (hx : a.eval x = .slice (some ⟨g, 0, none⟩) 1 1) (hc : w.cell? ⟨g, 0, none⟩ = some u) (hlen : xss.length < 16777216) (hbase : base ≤ w4.heap.size)
    (h : ∀ v' w', OwnII w' base v' (xss ++ [xs]) → Below base w4 w' → K (a.put o.dst v') w') : if Region.wanted o (yielded ops a.tmps) = true then Oper.wp Try.prog o a w K Q else E := by
  have ho4 := hown.below h4w
  have hz := Nat.le_trans hbase h4w.size
  exact stepAppRow w s x hg ho hs ho4 (hu.below h4w) hB hx hc hlen hz (fun v' w' k1 k2 => h v' w' k1 ((h4w.mono hbase).trans ((Below.refl _ _).grown k2 hz (fun k hk => (ho4.lt k hk).1))))
end Go.Proofs.Ytpmabnohdabbdaa
namespace Go.Proofs.Ytpmabnohdabbdaa
open Go.RowKit Go.Sort

set_option maxHeartbeats 2000000 in
theorem membersOf_any {g n : Nat} {bs : List Bool} (base : Nat) (w : World) (hb : FB.Own w base (.slice (some ⟨g, 0, none⟩) n n) bs) (hl : bs.length = n) (hn : n ≤ 100) :
    Calls Try.prog 197 #[.slice (some ⟨g, 0, none⟩) n n] w fun e w' => ∃ v, e = .returned v ∧ OwnI w' w.heap.size v (memsL bs n) ∧ Below w.heap.size w w' := by
  have HB := Lib.hid (fun W (h : Below w.heap.size w W) => hb.below h)
  have HL := Lib.hid hl
  clear hb hl
  go_enter Try.func197, Try.ntmps197
  go_wp2
  go_loopw [3, 9] (fun v i wr => ∃ k : Nat, k ≤ n ∧ i = .int .i64 k ∧ OwnI wr w.heap.size v (memsL bs k) ∧ Below w.heap.size w wr) (fun _ i _ => n - (intOf i).toNat)
  case atStart => exact ⟨0, Nat.zero_le _, rfl, OwnI.empty _ (Nat.le_refl _), (Below.refl _ _).alloc (Nat.le_refl _) _⟩
  case round =>
    obtain ⟨k, hk, rfl, hown, hbw⟩ := hrel
    by_cases hlt : k < n
    · have hkb : k < bs.length := by rw [HL.out]; exact hlt
      have gc := FB_at (HB.out _ hbw) hkb
      have hm := memsL_len bs k
      have hs : memsL bs (k + 1) = memsL bs k ++ (if bs[k] = true then [(k : Int)] else []) := by rw [← gD_at (d := false) hkb]; rfl
      generalize bs[k] = B at gc hs
      have HS := Lib.hid hs
      have i1 : (k : Int) < (n : Int) := by omega
      have hsz := hbw.size
      have hln : (memsL bs k).length < 16777216 := by omega
      clear hs
      cases B
      · have HO := Lib.hid (show OwnI wr w.heap.size u3 (memsL bs (k + 1)) from by rw [HS.out]; simpa using hown)
        clear hown
        go_wp2
        go_roundw
        case rel => exact ⟨k + 1, by omega, by go_num, HO.out, hbw⟩
        case measure => simp [intOf]; omega
      · go_wp2_with (at_builtin; refine append_i64 _ k _ _ rfl rfl rfl hown rfl hln hsz ?_)
        intro v' w1 hown1 hb1 hsz1
        have HO := Lib.hid (show OwnI w1 w.heap.size v' (memsL bs (k + 1)) from by rw [HS.out]; simpa using hown1)
        have hb2 := (hbw.alloc hsz _).trans hb1
        clear hown hb1 hown1
        go_wp2
        go_roundw
        case rel => exact ⟨k + 1, by omega, by go_num, HO.out, hb2⟩
        case measure => simp [intOf]; omega
    · obtain rfl : k = n := by omega
      go_wp2
      go_ret
      exact ⟨_, rfl, hown, hbw⟩
theorem reachB_len (xss : List (List Int)) (n s : Nat) : (reachB xss n s).length = n := by simp [reachB]
theorem reachB_at {xss : List (List Int)} {n s t : Nat} (h : t < (reachB xss n s).length) : (reachB xss n s)[t] = rB xss n s t := by simp [reachB]

set_option maxRecDepth 100000 in
set_option maxHeartbeats 2000000 in
theorem closClo_any (b bs : Nat) {v : Value} {xss : List (List Int)} {t : Int} (n s x : Nat) (w : World) (hc : ChainAt w b 0 n t v) (hsb : bs < w.heap.size ∧ w.cell? ⟨bs, 0, none⟩ = some (.int .i64 s)) (ha : SlII w v xss) (hv : chainOk n t xss = true) (hs : s < n) (hx : x < n) :
    Calls Try.prog 199 #[.int .i64 x, .pointer (some ⟨b, 0, none⟩), .pointer (some ⟨bs, 0, none⟩)] w fun e w' => e = .returned (.bool (!rB xss n x s)) ∧ Below w.heap.size w w' := by
  have HA := Lib.hid (fun W (h : Below w.heap.size w W) => ha.below h)
  have HC := Lib.hid (fun W (h : Below w.heap.size w W) => hc.below h)
  have HS := Lib.hid (fun W (h : Below w.heap.size w W) => show W.cell? ⟨bs, 0, none⟩ = some (.int .i64 s) from by rw [h.cell (p := ⟨bs, 0, none⟩) hsb.1]; exact hsb.2)
  obtain ⟨va, vc, us, rfl, _, _, _, _, _⟩ := id ha
  obtain ⟨⟨hn1, hn2⟩, _, hnx, _⟩ := chainOk_parts0 hv
  obtain ⟨c00, c0, c1, c2⟩ := hc
  simp only [Nat.zero_add] at c0 c1 c2
  have c3 := hsb.2
  have HV := Lib.hid hv
  have hnx' : xss.length = n := by omega
  rw [hnx'] at HA HC c2
  have k0 := fun d os => cell_regrown c0 d os
  have k1 := fun d os => cell_regrown c1 d os
  have k2 := fun d os => cell_regrown c2 d os
  have k3 := fun d os => cell_regrown c3 d os
  have i0 : (0 : Int) ≤ (s : Int) := by omega
  have i1 : (s : Int) < (n : Int) := by omega
  have hsl : s < (reachB xss n x).length := by rw [reachB_len]; exact hs
  have HRX := Lib.hid (reachB_at (xss := xss) (s := x) hsl)
  have HSL := Lib.hid hsl
  clear ha hv hnx hnx' hsb c00
  go_enter Try.func199, Try.ntmps199
  go_wp2_with fail
  go_region_law (first
    | (go_simp; go_at_call 198; refine (reach_any n x _ (HA.out _ (by (repeat (first | exact Below.refl _ _ | refine Below.drew ?_ | refine Below.alloc ?_ (by simp) _)))) HV.out hx).mono ?_; rintro e w4 ⟨g, rfl, o4, b4⟩; have bw4 := below_of (a := w) (by (repeat (first | exact Below.refl _ _ | refine Below.drew ?_ | refine Below.alloc ?_ (by simp) _))) b4; have y3 := HS.out _ bw4; have gm := FB_at o4 HSL.out; rw [HRX.out] at gm)
    | fail "no arm")
  all_goals
    go_wp2
    go_ret
    exact ⟨rfl, bw4⟩
theorem reachL_in {xss : List (List Int)} {n s : Nat} {x : Int} (h : x ∈ reachL xss n s) : ∃ t : Nat, t < n ∧ x = t := by
  obtain ⟨t, h1, h2, _⟩ := reachL_mem.1 h
  exact ⟨t, h1, h2⟩
theorem closedB_eq {xss : List (List Int)} {n s : Nat} : closedB xss n s = ((!(reachL xss n s).any fun x => !rB xss n x.toNat s) && decide ((reachL xss n s).getD 0 0 = (s : Int))) := by
  unfold closedB
  rw [Bool.and_comm]
  congr 1
  rw [List.any_eq_not_all_not]
  simp
theorem closedN_succ (xss : List (List Int)) (n k : Nat) : closedN xss n (k + 1) = closedN xss n k ++ (if closedB xss n k = true then [reachL xss n k] else []) := rfl

set_option maxRecDepth 100000 in
set_option maxHeartbeats 8000000 in
theorem closed_any {v : Value} {xss : List (List Int)} {t : Int} (n : Nat) (w : World) (ha : SlII w v xss) (hv : chainOk n t xss = true) :
    Calls Try.prog 183 #[.agg #[.int .i64 n, .int .i64 t, v]] w fun e w' => ∃ r, e = .returned r ∧ OwnII w' w.heap.size r (closedN xss n n) ∧ Below w.heap.size w w' := by
  have HA := Lib.hid (fun W (h : Below w.heap.size w W) => ha.below h)
  obtain ⟨a, ca, us, rfl, _, _, _, _, _⟩ := ha
  obtain ⟨⟨hn1, hn2⟩, ⟨ht1, ht2⟩, hnx, _⟩ := chainOk_parts0 hv
  have hnx' : xss.length = n := by omega
  rw [hnx'] at HA ⊢
  have HV := Lib.hid hv
  have BX := Lib.hid (chBelow w n t (.slice a n ca))
  have X := Lib.hid (chBox w n t (.slice a n ca))
  have hmf : ∀ (fn : Fn) (first cap : Array Value) (w : World), (Instr.makeFunc fn first cap).run Try.prog w = .ok (.func fn first cap) w := fun _ _ _ _ => rfl
  obtain ⟨W1, hW1⟩ : ∃ W1, W1 = w.alloc (chObj n t (.slice a n ca)) := ⟨_, rfl⟩
  rw [← hW1] at BX X
  have Z1 := Lib.hid (show W1.heap.size = w.heap.size + 1 by rw [hW1]; simp)
  have HW1 := Lib.hid (show w.alloc (.cells #[.int .i64 n, .int .i64 t, .slice a n ca] 37) = W1 from hW1.symm)
  have E0 := Lib.hid (OwnII.empty W1 (base := W1.heap.size) (Nat.le_refl _))
  have B0 := Lib.hid ((Below.refl W1.heap.size W1).alloc (Nat.le_refl _) (.cells #[] 59))
  have X1 := Lib.hid (X.out.below B0.out)
  obtain ⟨c00, x0, x1, x2⟩ := X1.out
  simp only [Nat.zero_add] at x0 x1 x2
  clear hv hnx hnx' hW1
  go_enter Try.func183, Try.ntmps183
  go_wp2_with fail
  rw [HW1.out]
  go_loopw [3, 10] (fun r i wr => ∃ (k : Nat), k ≤ n ∧ i = .int .i64 k ∧ OwnII wr W1.heap.size r (closedN xss n k) ∧ Below W1.heap.size W1 wr) (fun _ i _ => n - (intOf i).toNat)
  case atStart => exact ⟨0, Nat.zero_le _, rfl, by have h0 := E0.out; rw [Z1.out] at h0 ⊢; exact h0, B0.out⟩
  case round =>
    clear E0 B0 X1 x0 x1 x2 c00
    obtain ⟨k, hk, rfl, hown, hbw⟩ := hrel
    have HBW := Lib.hid hbw
    have HO := Lib.hid hown
    by_cases hkn : k < n
    · have hcs := closedN_succ xss n k
      have hce := closedB_eq (xss := xss) (n := n) (s := k)
      have hcl := closedN_len xss n k
      rw [hce] at hcs
      have hRm : ∀ x ∈ reachL xss n k, ∃ t : Nat, t < n ∧ x = t := fun x hx => reachL_in hx
      have hRl : (reachL xss n k).length ≤ n := memsL_len _ _
      have hR0 : 0 < (reachL xss n k).length := List.length_pos_of_mem (reachL_self hkn)
      have hRe : memsL (reachB xss n k) n = reachL xss n k := rfl
      obtain ⟨R, hR⟩ : ∃ R, R = reachL xss n k := ⟨_, rfl⟩
      rw [← hR] at hcs hRm hRl hR0 hRe
      rw [gD_at hR0] at hcs
      have HCS := Lib.hid hcs
      have HRE := Lib.hid hRe
      have HRM := Lib.hid hRm
      have HCL := Lib.hid hcl
      obtain ⟨c00, x0, x1, x2⟩ := X.out.below hbw
      simp only [Nat.zero_add] at x0 x1 x2
      have bA : Below wr.heap.size wr (wr.alloc (.cells #[.int .i64 k] 2)) := (Below.refl _ _).alloc (Nat.le_refl _) _
      have CI := Lib.hid (CellsAt.new wr [.int .i64 k] 2)
      have XA := Lib.hid ((X.out.below hbw).below bA)
      have BA := Lib.hid bA
      have HAA := Lib.hid (HA.out _ (BX.out.trans ((HBW.out.trans (bA.mono HBW.out.size)).mono BX.out.size)))
      have i0 : (0 : Int) ≤ (k : Int) := by omega
      have i1 : (k : Int) < (n : Int) := by omega
      clear hcs hce hRm hRe hcl hR bA hbw hown
      go_wp2_with fail
      refine (reach_any n k _ HAA.out HV.out hkn).mono ?_
      rintro e w3 ⟨g, rfl, o3, b3⟩
      have B3 := Lib.hid (BA.out.trans (b3.mono BA.out.size))
      have O3 := Lib.hid o3
      have BAB := Lib.hid b3
      clear o3 b3 x0 x1 x2 c00
      go_wp2_with fail
      refine (membersOf_any _ _ O3.out (reachB_len _ _ _) (by omega)).mono ?_
      rintro e w4 ⟨rv, rfl, o4, b4⟩
      rw [HRE.out] at o4
      have B4 := Lib.hid (B3.out.trans (b4.mono B3.out.size))
      have O4 := Lib.hid (show OwnI w4 wr.heap.size rv R from o4.lower B3.out.size)
      have HI4 := Lib.hid (show wr.heap.size < w4.heap.size ∧ w4.cell? ⟨wr.heap.size, 0, none⟩ = some (.int .i64 k) from by
        have hl : wr.heap.size < (wr.alloc (.cells #[.int .i64 k] 2)).heap.size := by simp
        have h9 : Below (wr.alloc (.cells #[.int .i64 k] 2)).heap.size (wr.alloc (.cells #[.int .i64 k] 2)) w4 := BAB.out.trans (b4.mono BAB.out.size)
        exact ⟨Nat.lt_of_lt_of_le hl h9.size, by rw [h9.cell (p := ⟨wr.heap.size, 0, none⟩) hl]; exact CI.out.get 0 _ rfl⟩)
      have BX4 := Lib.hid (HBW.out.trans (B4.out.mono HBW.out.size))
      have BW4 := Lib.hid (BX.out.trans (BX4.out.mono BX.out.size))
      have HF := Lib.hid (show ∀ W x, Below w4.heap.size w4 W → x ∈ R → Calls Try.prog 199 #[.int .i64 x, .pointer (some ⟨w.heap.size, 0, none⟩), .pointer (some ⟨wr.heap.size, 0, none⟩)] W fun e w' => e = .returned (.bool (!rB xss n x.toNat k)) ∧ Below W.heap.size W w' from fun W x hW hx => by
        obtain ⟨t', ht', rfl⟩ := HRM.out x hx
        rw [Int.toNat_natCast]
        exact closClo_any w.heap.size wr.heap.size n k t' W (X.out.below (BX4.out.trans (hW.mono BX4.out.size))) ⟨Nat.lt_of_lt_of_le HI4.out.1 hW.size, by rw [hW.cell (p := ⟨wr.heap.size, 0, none⟩) HI4.out.1]; exact HI4.out.2⟩ (HA.out _ (BW4.out.trans (hW.mono BW4.out.size))) HV.out hkn ht')
      obtain ⟨ra, rc, rfl, _, _, _⟩ := id O4.out.sl
      have HCON := Lib.hid (ContainsFuncClos_any (.pointer (some ⟨w.heap.size, 0, none⟩)) (.pointer (some ⟨wr.heap.size, 0, none⟩)) (fun x => !rB xss n x.toNat k) w4 O4.out.sl HF.out)
      generalize (R.any fun x => !rB xss n x.toNat k) = AN at HCON HCS
      clear o4 b4 HF
      go_wp2_with fail
      refine HCON.out.mono ?_
      rintro e w5 ⟨rfl, b5⟩
      have B5 := Lib.hid (B4.out.trans (b5.mono B4.out.size))
      have O5 := Lib.hid (O4.out.below b5)
      have hi5 : w5.cell? ⟨wr.heap.size, 0, none⟩ = some (.int .i64 k) := by rw [b5.cell (p := ⟨wr.heap.size, 0, none⟩) HI4.out.1]; exact HI4.out.2
      obtain ⟨rb, ro, rfl, _, g0⟩ := O5.out.sl.at_ hR0
      simp only [Nat.add_zero] at g0
      have HR0 := Lib.hid hR0
      have HRL := Lib.hid hRl
      generalize R[0] = r0 at g0 HCS
      have k0 := fun d os => cell_regrown hi5 d os
      have k1 := fun d os => cell_regrown g0 d os
      have hR0' : (0 : Int) < (R.length : Int) := by omega
      clear b5 HCON O4
      cases AN
      · by_cases hrk : r0 = (k : Int)
        · have t1 : (r0 == (k : Int)) = true := by simp [hrk]
          have HRK := Lib.hid hrk
          clear hrk
          go_wp2_with fail
          refine wp_region_quiet_below (by kernel_rfl) (by kernel_rfl) ?_
          repeat (first | go_big_quiet_skip | quiet_step (fail))
          refine wpQuiet_nil ?_
          intro _ hw'
          obtain ⟨⟨dq, osq⟩, hw''⟩ := hw'
          subst hw''
          have bq0 := below_regrown w5 dq osq
          generalize grow (redrawn w5 dq) osq = wq at bq0 ⊢
          have o6 := O5.out.below bq0
          have b6 := B5.out.trans (bq0.mono B5.out.size)
          have HB6 := Lib.hid b6
          have ho := HO.out
          have hcl := HCL.out
          have hzr := HBW.out.size
          have hln : (closedN xss n k).length < 16777216 := by omega
          clear k0 k1 hi5 g0 bq0
          go_wp2_with (at_builtin; refine append_row wr _ _ _ rfl rfl rfl ho b6 o6 rfl hln hzr ?_)
          intro v7 w7 o7 b7 z7
          have hs7 : closedN xss n (k + 1) = closedN xss n k ++ [R] := by rw [HCS.out, HRK.out]; simp
          rw [← hs7] at o7
          have HB7 := Lib.hid (show Below W1.heap.size W1 w7 from (HBW.out.trans (HB6.out.mono HBW.out.size)).trans (((Below.refl _ _).alloc (Nat.le_trans HBW.out.size HB6.out.size) _).trans b7))
          clear hs7 b7 ho o6 b6
          go_wp2
          go_roundw
          case rel => exact ⟨k + 1, by omega, by go_num, o7, HB7.out⟩
          case measure => simp [intOf]; omega
        · have t1 : (r0 == (k : Int)) = false := by simp [hrk]
          have hs7 : closedN xss n (k + 1) = closedN xss n k := by rw [HCS.out]; simp [hrk]
          have HO7 := Lib.hid (show OwnII wr W1.heap.size u3 (closedN xss n (k + 1)) from by rw [hs7]; exact HO.out)
          clear hrk hs7
          go_wp2_with fail
          refine wp_region_quiet_below (by kernel_rfl) (by kernel_rfl) ?_
          repeat (first | go_big_quiet_skip | quiet_step (fail))
          refine wpQuiet_nil ?_
          intro _ hw'
          obtain ⟨⟨dq, osq⟩, hw''⟩ := hw'
          subst hw''
          have bq0 := below_regrown w5 dq osq
          generalize grow (redrawn w5 dq) osq = wq at bq0 ⊢
          have HB6 := Lib.hid (B5.out.trans (bq0.mono B5.out.size))
          clear k0 k1 hi5 g0 bq0
          go_wp2
          go_roundw
          case rel => exact ⟨k + 1, by omega, by go_num, HO7.out.below HB6.out, HBW.out.trans (HB6.out.mono HBW.out.size)⟩
          case measure => simp [intOf]; omega
      · have hs7 : closedN xss n (k + 1) = closedN xss n k := by rw [HCS.out]; simp
        have HO7 := Lib.hid (show OwnII wr W1.heap.size u3 (closedN xss n (k + 1)) from by rw [hs7]; exact HO.out)
        clear hs7
        go_wp2_with fail
        refine wp_region_quiet_below (by kernel_rfl) (by kernel_rfl) ?_
        repeat (first | go_big_quiet_skip | quiet_step (fail))
        refine wpQuiet_nil ?_
        intro _ hw'
        obtain ⟨⟨dq, osq⟩, hw''⟩ := hw'
        subst hw''
        have bq0 := below_regrown w5 dq osq
        generalize grow (redrawn w5 dq) osq = wq at bq0 ⊢
        have HB6 := Lib.hid (B5.out.trans (bq0.mono B5.out.size))
        clear k0 k1 hi5 g0 bq0
        go_wp2
        go_roundw
        case rel => exact ⟨k + 1, by omega, by go_num, HO7.out.below HB6.out, HBW.out.trans (HB6.out.mono HBW.out.size)⟩
        case measure => simp [intOf]; omega
    · obtain rfl : k = n := by omega
      have ho := HO.out
      go_wp2
      go_ret
      exact ⟨_, rfl, ho.lower BX.out.size, BX.out.trans (hbw.mono BX.out.size)⟩
end Go.Proofs.Ytpmabnohdabbdaa
namespace Go.Proofs.Ytpmabnohdabbdaa
open Go.RowKit Go.Sort

set_option maxRecDepth 100000 in
set_option maxHeartbeats 4000000 in
theorem connected_any {v : Value} {xss : List (List Int)} {t : Int} (n : Nat) (w : World) (ha : SlII w v xss) (hv : chainOk n t xss = true) :
    Calls Try.prog 145 #[.agg #[.int .i64 n, .int .i64 t, v]] w fun e w' => e = .returned (.bool (connB xss n)) ∧ Below w.heap.size w w' := by
  have HA := Lib.hid (fun W (h : Below w.heap.size w W) => ha.below h)
  obtain ⟨a, ca, us, rfl, _, _, _, _, _⟩ := ha
  obtain ⟨⟨hn1, hn2⟩, ⟨ht1, ht2⟩, hnx, _⟩ := chainOk_parts0 hv
  have hnx' : xss.length = n := by omega
  rw [hnx'] at HA ⊢
  have HV := Lib.hid hv
  have BX := Lib.hid (chBelow w n t (.slice a n ca))
  have X := Lib.hid (chBox w n t (.slice a n ca))
  have hcl := closedN_len xss n n
  obtain ⟨C, hC⟩ : ∃ C, C = closedN xss n n := ⟨_, rfl⟩
  have HCB := Lib.hid (show connB xss n = (decide (C.length = 1) && decide ((C.getD 0 []).length = n)) from by rw [hC]; rfl)
  have HCE := Lib.hid hC
  rw [← hC] at hcl
  clear hv hnx hnx' hC
  obtain ⟨c00, x0, x1, x2⟩ := X.out
  simp only [Nat.zero_add] at x0 x1 x2
  go_enter Try.func145, Try.ntmps145
  go_wp2_with fail
  refine (closed_any n _ (HA.out _ BX.out) HV.out).mono ?_
  rintro e w1 ⟨r, rfl, o1, b1⟩
  rw [← HCE.out] at o1
  have B1 := Lib.hid (BX.out.trans (b1.mono BX.out.size))
  have S1 := Lib.hid o1.sl
  obtain ⟨y00, y0, y1, y2⟩ := X.out.below b1
  simp only [Nat.zero_add] at y0 y1 y2
  obtain ⟨ra, rc, rs, rfl, _, _, _, _, _⟩ := id S1.out
  have k0 := fun d os => cell_regrown y0 d os
  clear x0 x1 x2 c00 y1 y2 o1 b1
  by_cases h1 : C.length = 1
  · have h0 : 0 < C.length := by omega
    obtain ⟨b, off, ea, ec, rfl, hb, g0, s0⟩ := S1.out.nthJ h0
    simp only [Nat.add_zero] at g0
    have hgd := gD_at (d := ([] : List Int)) h0
    have HCB2 := Lib.hid (show connB xss n = decide (C[0].length = n) from by rw [HCB.out, hgd, h1]; simp)
    generalize C[0] = E at g0 s0 HCB2
    have k1 := fun d os => cell_regrown g0 d os
    have t1 : ((C.length : Int) == 1) = true := by rw [h1]; rfl
    have i0 : (0 : Int) < (C.length : Int) := by omega
    have t2 : ((E.length : Int) == (n : Int)) = decide (E.length = n) := by
      by_cases h : E.length = n
      · simp [h]
      · have : ¬ ((E.length : Int) = (n : Int)) := by omega
        rw [decide_eq_false h, beq_eq_false_iff_ne]; exact this
    obtain ⟨_, _, he, _, hel, _⟩ := s0
    unfold maxLen at hel
    simp only [Value.slice.injEq] at he
    obtain ⟨rfl, _, rfl⟩ := he
    generalize decide (E.length = n) = D at t2 HCB2
    clear hgd h1
    go_wp2_with fail
    refine wp_region_quiet_below (by kernel_rfl) (by kernel_rfl) ?_
    repeat (first | go_big_quiet_skip | quiet_step (fail))
    refine wpQuiet_nil ?_
    intro _ hw'
    obtain ⟨⟨dq, osq⟩, hw''⟩ := hw'
    subst hw''
    have bq := B1.out.trans ((below_regrown w1 dq osq).mono B1.out.size)
    generalize grow (redrawn w1 dq) osq = wq at bq ⊢
    clear k0 k1
    go_wp2
    go_ret
    exact ⟨rb HCB2.out.symm, bq⟩
  · have t1 : ((C.length : Int) == 1) = false := by rw [beq_eq_false_iff_ne]; omega
    have HCB2 := Lib.hid (show connB xss n = false from by rw [HCB.out]; simp [h1])
    clear h1
    go_wp2_with fail
    refine wp_region_quiet_below (by kernel_rfl) (by kernel_rfl) ?_
    repeat (first | go_big_quiet_skip | quiet_step (fail))
    refine wpQuiet_nil ?_
    intro _ hw'
    obtain ⟨⟨dq, osq⟩, hw''⟩ := hw'
    subst hw''
    have bq := B1.out.trans ((below_regrown w1 dq osq).mono B1.out.size)
    generalize grow (redrawn w1 dq) osq = wq at bq ⊢
    clear k0
    go_wp2
    go_ret
    exact ⟨rbf HCB2.out, bq⟩
end Go.Proofs.Ytpmabnohdabbdaa
namespace Go.Proofs.Ytpmabnohdabbdaa
open Go.RowKit Go.Sort
theorem rep_far {n k : Nat} (h : k < n) : (List.replicate k (-1 : Int) ++ List.replicate (n - k) 0).set k (-1) = List.replicate (k + 1) (-1) ++ List.replicate (n - (k + 1)) 0 := by
  obtain ⟨m, hm⟩ : ∃ m, n - k = m + 1 := ⟨n - k - 1, by omega⟩
  have h2 : n - (k + 1) = m := by omega
  rw [hm, h2, List.set_append_right _ _ (by simp), show List.replicate (m + 1) (0 : Int) = 0 :: List.replicate m 0 from rfl, show List.replicate (k + 1) (-1 : Int) = List.replicate k (-1) ++ [-1] from List.replicate_succ']
  simp
theorem far_at {far : List Int} {u : Nat} (h : u < far.length) : far[u] = far.getD u 0 := (gD_at h).symm
theorem edgeP_at {xss : List (List Int)} {u v : Nat} (hu : u < xss.length) (hv : v < xss[u].length) : edgeP xss u v = decide (0 < xss[u][v]) := by
  unfold edgeP; rw [wtN_at hu hv]
theorem OwnI.inB {w w' : World} {base g n c B : Nat} {xs : List Int} (h : OwnI w base (.slice (some ⟨g, 0, none⟩) n c) xs) (hb : Below B w w') (hg : g < B) : OwnI w' base (.slice (some ⟨g, 0, none⟩) n c) xs := by
  obtain ⟨_, _, he, _⟩ := h.sl
  simp only [Value.slice.injEq] at he
  obtain ⟨_, rfl, _⟩ := he
  exact own_inB h hb hg

set_option maxRecDepth 100000 in
set_option maxHeartbeats 8000000 in
theorem firstPath_any {v : Value} {xss : List (List Int)} {tt : Int} (n s t : Nat) (w : World) (ha : SlII w v xss) (hv : chainOk n tt xss = true) (hcn : connB xss n = true) (hs : s < n) (ht : t < n) :
    Calls Try.prog 74 #[.agg #[.int .i64 n, .int .i64 tt, v], .int .i64 s, .int .i64 t] w fun e w' => ∃ r, e = .returned r ∧ OwnI w' w.heap.size r (intsL (firstG (edgeP xss) n s t)) ∧ Below w.heap.size w w' := by
  have HA := Lib.hid (fun W (h : Below w.heap.size w W) => ha.below h)
  obtain ⟨a, ca, us, rfl, _, _, _, _, _⟩ := ha
  obtain ⟨⟨hn1, hn2⟩, ⟨ht1, ht2⟩, hnx, _⟩ := chainOk_parts0 hv
  have hnx' : xss.length = n := by omega
  have HNX := Lib.hid hnx'
  rw [hnx'] at HA ⊢
  have HV := Lib.hid hv
  have HCN := Lib.hid hcn
  have BX := Lib.hid (chBelow w n tt (.slice a n ca))
  have X := Lib.hid (chBox w n tt (.slice a n ca))
  obtain ⟨W1, hW1⟩ : ∃ W1, W1 = w.alloc (chObj n tt (.slice a n ca)) := ⟨_, rfl⟩
  rw [← hW1] at BX X
  have Z1 := Lib.hid (show W1.heap.size = w.heap.size + 1 by rw [hW1]; simp)
  have HW1 := Lib.hid hW1
  clear hv hnx hnx' hW1 hcn
  go_enter Try.func74, Try.ntmps74
  go_wp2_with (at_make; refine make_i64 _ _ _ rfl rfl n rfl rfl rfl rfl (by omega) ?_)
  intro w2 o2 b2 z2
  have B2 := Lib.hid (show Below W1.heap.size W1 w2 by rw [Z1.out, HW1.out]; exact b2)
  have O2 := Lib.hid (show OwnI w2 (w.heap.size + 1) (.slice (some ⟨w.heap.size + 1, 0, none⟩) n n) (List.replicate n 0) from by simpa using o2)
  have hz2 : w.heap.size + 1 < w2.heap.size := by simpa using z2
  clear o2 b2 z2
  go_wp2
  go_loopw [19] (fun i wr => ∃ k : Nat, k ≤ n ∧ i = .int .i64 k ∧ OwnI wr (w.heap.size + 1) (.slice (some ⟨w.heap.size + 1, 0, none⟩) n n) (List.replicate k (-1) ++ List.replicate (n - k) 0) ∧ Below W1.heap.size W1 wr ∧ wr.heap.size = w2.heap.size) (fun i _ => n - (intOf i).toNat)
  case atStart => exact ⟨0, Nat.zero_le _, rfl, O2.out, B2.out, rfl⟩
  case round =>
    clear O2 B2
    obtain ⟨k, hk, rfl, hown, hbw, hze⟩ := hrel
    by_cases hlt : k < n
    · have hkl : k < (List.replicate k (-1 : Int) ++ List.replicate (n - k) 0).length := by simp; omega
      have gk := OwnI.cell hown hkl
      have fk := hown.free k
      have o3 := hown.set k (-1)
      rw [rep_far hlt] at o3
      generalize (List.replicate k (-1 : Int) ++ List.replicate (n - k) 0)[k] = y at gk
      have HO3 := Lib.hid o3
      have HB3 := Lib.hid (show Below W1.heap.size W1 (wr.setCell ⟨w.heap.size + 1, k, none⟩ (.int .i64 (-1))) from hbw.setCell (by rw [Z1.out]; exact Nat.le_refl _) _)
      have hz3 : (wr.setCell ⟨w.heap.size + 1, k, none⟩ (.int .i64 (-1))).heap.size = w2.heap.size := by simpa using hze
      have i0 : (0 : Int) ≤ (k : Int) := by omega
      have i1 : (k : Int) < (n : Int) := by omega
      clear hown hbw o3 hkl
      go_wp2
      go_roundw
      case rel => exact ⟨k + 1, by omega, by go_num, HO3.out, HB3.out, hz3⟩
      case measure => simp [intOf]; omega
    · obtain rfl : k = n := by omega
      have htl : t < (List.replicate k (-1 : Int) ++ List.replicate (k - k) 0).length := by simp; omega
      have gk := OwnI.cell hown htl
      have fk := hown.free t
      have o3 := hown.set t 0
      have he : (List.replicate k (-1 : Int) ++ List.replicate (k - k) 0) = List.replicate k (-1) := by simp
      rw [he] at o3
      generalize (List.replicate k (-1 : Int) ++ List.replicate (k - k) 0)[t] = y at gk
      have i0 : (0 : Int) ≤ (t : Int) := by omega
      have i1 : (t : Int) < (k : Int) := by omega
      have hzs : (wr.setCell ⟨w.heap.size + 1, t, none⟩ (.int .i64 0)).heap.size = w2.heap.size := by simpa using hze
      have l4 := OwnI.lit1 (wr.setCell ⟨w.heap.size + 1, t, none⟩ (.int .i64 0)) (base := w2.heap.size) (by rw [hzs]; exact Nat.le_refl _) t
      rw [hzs] at l4
      have bA : Below (wr.setCell ⟨w.heap.size + 1, t, none⟩ (.int .i64 0)).heap.size (wr.setCell ⟨w.heap.size + 1, t, none⟩ (.int .i64 0)) ((wr.setCell ⟨w.heap.size + 1, t, none⟩ (.int .i64 0)).alloc (.cells #[.int .i64 t] 2)) := (Below.refl _ _).alloc (Nat.le_refl _) _
      have O4 := Lib.hid (o3.below bA)
      have L4 := Lib.hid l4
      have b3 : Below W1.heap.size W1 (wr.setCell ⟨w.heap.size + 1, t, none⟩ (.int .i64 0)) := hbw.setCell (by rw [Z1.out]; exact Nat.le_refl _) _
      have B4 := Lib.hid (b3.trans (bA.mono (by rw [Z1.out, hzs]; omega)))
      have HZ4 := Lib.hid (show w2.heap.size ≤ ((wr.setCell ⟨w.heap.size + 1, t, none⟩ (.int .i64 0)).alloc (.cells #[.int .i64 t] 2)).heap.size from by have := bA.size; omega)
      clear hown hbw o3 l4 bA b3 hzs htl he
      go_wp2
      go_loopw [9, 10] (fun lv i wr => ∃ (q : Nat) (L : List Nat) (far : List Int), i = .int .i64 q ∧ q ≤ L.length ∧ Hid (BfsO (edgeP xss) k t far L q) ∧ OwnI wr (w.heap.size + 1) (.slice (some ⟨w.heap.size + 1, 0, none⟩) k k) far ∧ OwnI wr w2.heap.size lv (intsL L) ∧ Below W1.heap.size W1 wr ∧ w2.heap.size ≤ wr.heap.size) (fun _ i _ => k + 1 - (intOf i).toNat)
      case atStart => exact ⟨0, [t], (List.replicate k (-1)).set t 0, rfl, by simp, Lib.hid (BfsO.first ht), O4.out, L4.out, B4.out, HZ4.out⟩
      case round =>
        clear O4 L4 B4 HZ4 gk fk i0 i1 hze
        obtain ⟨q, L, far, rfl, hq, hI, hfar, hown, hbw, hzr⟩ := hrel
        have hLn := hI.out.len
        have HBW := Lib.hid hbw
        have HF := Lib.hid hfar
        have HO := Lib.hid hown
        clear hfar hown
        by_cases hql : q < L.length
        · obtain ⟨c00, x0, x1, x2⟩ := X.out.below hbw
          simp only [Nat.zero_add] at x0 x1 x2
          have HW := Lib.hid (hI.out.inner hql)
          have hlen := intsL_len L
          obtain ⟨la, lc, rfl, _, _, _⟩ := id HO.out.sl
          rw [hlen] at HO ⊢
          have i1 : (q : Int) < (L.length : Int) := by omega
          clear hlen
          go_wp2
          go_loopw [9, 39] (fun lv x w3 => ∃ (j : Nat) (L' : List Nat) (far' : List Int), x = .int .i64 j ∧ j ≤ k ∧ Hid (BfsW (edgeP xss) k t far' L' q j) ∧ OwnI w3 (w.heap.size + 1) (.slice (some ⟨w.heap.size + 1, 0, none⟩) k k) far' ∧ OwnI w3 w2.heap.size lv (intsL L') ∧ Below W1.heap.size W1 w3 ∧ w2.heap.size ≤ w3.heap.size) (fun _ x _ => k - (intOf x).toNat)
          case atStart => exact ⟨0, L, far, rfl, Nat.zero_le _, HW, HF.out, HO.out, HBW.out, hzr⟩
          case round =>
            clear HF HO HBW HW hzr hbw x0 x1 x2 c00 i1
            obtain ⟨j, L', far', rfl, hj, hI', hfar, hown, hbw, hz3⟩ := hrel
            have HF := Lib.hid hfar
            have HO := Lib.hid hown
            have HBW := Lib.hid hbw
            have hLn' := hI'.out.len
            have hqL := hI'.out.hi
            by_cases hjn : j < k
            · obtain ⟨c00, x0, x1, x2⟩ := X.out.below hbw
              simp only [Nat.zero_add] at x0 x1 x2
              have i4 : (j : Int) < (k : Int) := by omega
              have i5 : (0 : Int) ≤ (j : Int) := by omega
              have i6 : (q : Int) < (L'.length : Int) := by omega
              have i7 : (0 : Int) ≤ (q : Int) := by omega
              -- the list's entry
              have hlen := intsL_len L'
              have hqi : q < (intsL L').length := by rw [hlen]; exact hqL
              obtain ⟨la, lc, rfl, _, _, _⟩ := id HO.out.sl
              obtain ⟨lb, lo, rfl, _, gl⟩ := HO.out.sl.at_ hqi
              rw [intsL_get hqi] at gl
              rw [hlen] at HO ⊢
              obtain ⟨u, hu⟩ : ∃ u, u = L'[q] := ⟨_, rfl⟩
              rw [← hu] at gl
              have hun : u < k := by rw [hu]; exact hI'.out.b.inn _ (List.getElem_mem hqL)
              have HU := Lib.hid (show L'.getD q 0 = u from by rw [List.getD_eq_getElem?_getD, List.getElem?_eq_getElem hqL, hu]; rfl)
              -- the weight
              have hjx : j < xss.length := by rw [HNX.out]; exact hjn
              obtain ⟨b, off, ra, rc, hae, hb, gr, sr⟩ := (HA.out w (Below.refl _ _)).nthJ hjx
              subst hae
              have bw2 := BX.out.trans (hbw.mono BX.out.size)
              rw [← bw2.cell (p := ⟨b, off + j, none⟩) hb] at gr
              have hrl : xss[j].length = k := by obtain ⟨_, hl, _⟩ := rowB_of HV.out hjx; have := HNX.out; omega
              rw [hrl] at gr sr
              have hur : u < xss[j].length := by rw [hrl]; exact hun
              have hE := edgeP_at hjx hur
              obtain ⟨rb, ro, rfl, _, gx⟩ := (sr.below bw2).at_ hur
              generalize xss[j][u] = x at gx hE
              have HE := Lib.hid hE
              -- the distances
              have hfl : far'.length = k := hI'.out.b.flen
              have hjf : j < far'.length := by rw [hfl]; exact hjn
              have huf : u < far'.length := by rw [hfl]; exact hun
              have gj := OwnI.cell hfar hjf
              have gu := OwnI.cell hfar huf
              rw [far_at hjf] at gj
              rw [far_at huf] at gu
              have hneg := hI'.out.b.neg j hjn
              have hmem := hI'.out.b.mem j hjn
              have hum : u ∈ L' := by rw [hu]; exact List.getElem_mem hqL
              have hu0 := (hI'.out.b.mem u hun).2 hum
              have hu1 := hI'.out.bd u hum
              have ho3 := fun (y : Int) => hfar.set j y
              have fm := hfar.free j
              have HSET := Lib.hid ho3
              generalize hfj : far'.getD j 0 = fj at gj hneg hmem
              have hfu : far'.getD u 0 = far'.getD u 0 := rfl
              generalize hfu2 : far'.getD u 0 = fu at gu hu0 hu1
              have HFU := Lib.hid hfu2
              have HMEM := Lib.hid hmem
              have i2 : (0 : Int) ≤ (u : Int) := by omega
              have i3 : (u : Int) < (k : Int) := by omega
              have k0 := fun d os => cell_regrown x2 d os
              have k1 := fun d os => cell_regrown gl d os
              have k2 := fun d os => cell_regrown gr d os
              have k3 := fun d os => cell_regrown gx d os
              have k4 := fun d os => cell_regrown gj d os
              clear hu hlen hqi sr hbw hrl hur hE hfl hfu hfu2 hmem ho3 hown hfar hfj hjf huf bw2
              by_cases hf0 : fj < 0
              · by_cases hx : 0 < x
                · have HJL := Lib.hid (show j ∉ L' from fun hm => by have := HMEM.out.2 hm; omega)
                  have HI2 := Lib.hid (show BfsW (edgeP xss) k t (far'.set j (fu + 1)) (L' ++ [j]) q (j + 1) from by
                    have := hI'.out.add hjn HJL.out (by rw [HU.out, HE.out]; exact decide_eq_true hx)
                    rw [HU.out, HFU.out] at this
                    exact this)
                  go_wp2_with fail
                  refine wp_region_quiet_below (by kernel_rfl) (by kernel_rfl) ?_
                  repeat (first | go_big_quiet_skip | quiet_step (fail))
                  refine wpQuiet_nil ?_
                  intro _ hw'
                  obtain ⟨⟨dq, osq⟩, hw''⟩ := hw'
                  subst hw''
                  have bq0 := below_regrown wr dq osq
                  have gl2 := cell_regrown gl dq osq
                  have gj2 := cell_regrown gj dq osq
                  have gu2 := cell_regrown gu dq osq
                  generalize grow (redrawn wr dq) osq = wq at bq0 gl2 gj2 gu2 ⊢
                  have HB2 := Lib.hid (HBW.out.trans (bq0.mono HBW.out.size))
                  have HF2 := Lib.hid (HF.out.below bq0)
                  have HO2 := Lib.hid (HO.out.below bq0)
                  have hzq : w2.heap.size ≤ wq.heap.size := Nat.le_trans hz3 bq0.size
                  clear k0 k1 k2 k3 k4 x0 x1 x2 c00 gl gr gx gj gu bq0
                  have fm2 := HF2.out.free j
                  have r1 : IntKind.i64.wrap (fu + 1) = fu + 1 := IntWalk.i64_in _ (by omega)
                  have o6 := HF2.out.set j (fu + 1)
                  have hzs : (wq.setCell ⟨w.heap.size + 1, j, none⟩ (.int .i64 (fu + 1))).heap.size = wq.heap.size := by simp
                  have l6 := HO2.out.fs (Fs.set (S := fun k => k = w.heap.size + 1) (Fs.refl _ wq) (a := ⟨w.heap.size + 1, j, none⟩) rfl (.int .i64 (fu + 1))) (fun k hk => by omega)
                  have b6 : Below W1.heap.size W1 (wq.setCell ⟨w.heap.size + 1, j, none⟩ (.int .i64 (fu + 1))) := HB2.out.setCell (by rw [Z1.out]; exact Nat.le_refl _) _
                  have O6 := Lib.hid o6
                  have B6 := Lib.hid b6
                  have hll : (intsL L').length < 16777216 := by rw [intsL_len]; omega
                  have hz6 : w2.heap.size ≤ (wq.setCell ⟨w.heap.size + 1, j, none⟩ (.int .i64 (fu + 1))).heap.size := by rw [hzs]; exact hzq
                  clear o6 b6 fm
                  go_wp2_with (at_builtin; refine append_i64J _ j _ _ rfl rfl rfl l6 hzs rfl hll hz6 ?_)
                  intro v7 w7 o7 b7 z7
                  have hb7 : Below w2.heap.size (wq.setCell ⟨w.heap.size + 1, j, none⟩ (.int .i64 (fu + 1))) w7 := ((Below.refl _ _).alloc hz6 _).trans b7
                  have F7 := Lib.hid (O6.out.inB hb7 hz2)
                  have B7 := Lib.hid (B6.out.trans (hb7.mono (by rw [Z1.out]; omega)))
                  have hz7 : w2.heap.size ≤ w7.heap.size := Nat.le_trans hz6 hb7.size
                  rw [← intsL_add] at o7
                  clear b7 hb7 l6 hz6 hzs
                  go_wp2
                  go_roundw
                  case rel => exact ⟨j + 1, L' ++ [j], far'.set j (fu + 1), by go_num, by omega, HI2, F7.out, o7, B7.out, hz7⟩
                  case measure => simp [intOf]; omega
                · have HI2 := Lib.hid (hI'.out.skip (.inl (by rw [HU.out, HE.out]; exact decide_eq_false hx)))
                  go_wp2_with fail
                  refine wp_region_quiet_below (by kernel_rfl) (by kernel_rfl) ?_
                  repeat (first | go_big_quiet_skip | quiet_step (fail))
                  refine wpQuiet_nil ?_
                  intro _ hw'
                  obtain ⟨⟨dq, osq⟩, hw''⟩ := hw'
                  subst hw''
                  have bq0 := below_regrown wr dq osq
                  generalize grow (redrawn wr dq) osq = wq at bq0 ⊢
                  have HB2 := Lib.hid (HBW.out.trans (bq0.mono HBW.out.size))
                  have HF2 := Lib.hid (HF.out.below bq0)
                  have HO2 := Lib.hid (HO.out.below bq0)
                  have hzq : w2.heap.size ≤ wq.heap.size := Nat.le_trans hz3 bq0.size
                  clear k0 k1 k2 k3 k4 x0 x1 x2 c00 gl gr gx gj gu bq0
                  go_wp2
                  go_roundw
                  case rel => exact ⟨j + 1, L', far', by go_num, by omega, HI2, HF2.out, HO2.out, HB2.out, hzq⟩
                  case measure => simp [intOf]; omega
              · have HI2 := Lib.hid (hI'.out.skip (.inr (HMEM.out.1 (by omega))))
                have HNEG := Lib.hid (decide_eq_false hf0)
                go_wp2_with fail
                have hneg0 := HNEG.out
                refine wp_region_quiet_below (by kernel_rfl) (by kernel_rfl) ?_
                repeat (first | go_big_quiet_skip | quiet_step (fail))
                refine wpQuiet_nil ?_
                intro _ hw'
                obtain ⟨⟨dq, osq⟩, hw''⟩ := hw'
                subst hw''
                have bq0 := below_regrown wr dq osq
                generalize grow (redrawn wr dq) osq = wq at bq0 ⊢
                have HB2 := Lib.hid (HBW.out.trans (bq0.mono HBW.out.size))
                have HF2 := Lib.hid (HF.out.below bq0)
                have HO2 := Lib.hid (HO.out.below bq0)
                have hzq : w2.heap.size ≤ wq.heap.size := Nat.le_trans hz3 bq0.size
                clear k0 k1 k2 k3 k4 x0 x1 x2 c00 gl gr gx gj gu bq0
                go_wp2
                go_roundw
                case rel => exact ⟨j + 1, L', far', by go_num, by omega, HI2, HF2.out, HO2.out, HB2.out, hzq⟩
                case measure => simp [intOf]; omega
            · obtain rfl : j = k := by omega
              have HI2 := Lib.hid hI'.out.next
              have hqq : q + 1 ≤ L'.length := by omega
              clear hbw hown hfar
              go_wp2
              go_roundw
              case rel => exact ⟨q + 1, L', far', by go_num, hqq, HI2, HF.out, HO.out, HBW.out, hz3⟩
              case measure => simp [intOf]; omega
        · obtain rfl : q = L.length := by omega
          obtain ⟨hisf, hfl, hnn⟩ := hI.out.fin (conn_back HCN.out ht)
          obtain ⟨f, hf⟩ : ∃ f : Nat → Nat, f = fun u => (far.getD u 0).toNat := ⟨_, rfl⟩
          rw [← hf] at hisf
          have HFV := Lib.hid (show ∀ u, u < k → far.getD u 0 = (f u : Int) from fun u hu => by rw [hf]; show _ = ((far.getD u 0).toNat : Int); have := hnn u hu; omega)
          have HIS := Lib.hid hisf
          have HFL := Lib.hid hfl
          have hfs := f_lt hisf hs
          obtain ⟨wo, hwo⟩ : ∃ wo : World, wo = wr := ⟨_, rfl⟩
          subst hwo
          have l4 := OwnI.lit1 wo (base := wo.heap.size) (Nat.le_refl _) s
          have b4 : Below wo.heap.size wo (wo.alloc (.cells #[.int .i64 s] 2)) := (Below.refl _ _).alloc (Nat.le_refl _) _
          have L4 := Lib.hid l4
          have B4 := Lib.hid b4
          obtain ⟨la, lc, rfl, _, _, _⟩ := id HO.out.sl
          have hlen := intsL_len L
          rw [hlen]
          clear l4 b4 hf hnn hfl hisf hI hlen
          go_wp2
          go_loopw [1, 12] (fun sv ov w3 => ∃ m : Nat, m ≤ f s ∧ sv = .int .i64 (gEnd (edgeP xss) k f m s) ∧ OwnI w3 wo.heap.size ov (intsL (gPath (edgeP xss) k f m s)) ∧ Below wo.heap.size wo w3) (fun sv _ _ => f (intOf sv).toNat)
          case atStart => exact ⟨0, Nat.zero_le _, rfl, L4.out, B4.out⟩
          case round =>
            clear L4 B4
            obtain ⟨m, hm, rfl, hown, hbo⟩ := hrel
            obtain ⟨hgk, hgf⟩ := gEnd_f HIS.out hs m hm
            have hat := gEnd_at HIS.out hs hm
            have hnx := fun j => show nextG (edgeP xss) k f (gEnd (edgeP xss) k f m s) = j → gEnd (edgeP xss) k f (m + 1) s = j from fun h => h
            have HSN := Lib.hid (gPath_snoc (E := edgeP xss) (n := k) (f := f) m s)
            generalize gEnd (edgeP xss) k f m s = u at hgk hgf hat hnx ⊢
            have HNXT := Lib.hid hnx
            have HBO := Lib.hid hbo
            have HBW2 := Lib.hid (HBW.out.trans (hbo.mono HBW.out.size))
            have HOP := Lib.hid hown
            have hzo := hbo.size
            clear hown hnx
            by_cases hut : u = t
            · have hmf := hat.1 hut
              have hres := firstG_eq HIS.out hs
              rw [← hmf] at hres
              have HRES := Lib.hid hres
              subst hut
              have t1 : ((u : Int) != (u : Int)) = false := by simp
              clear hres hat
              go_wp2
              go_ret
              exact ⟨_, rfl, by rw [← HRES.out]; exact HOP.out.lower (by have := HBW.out.size; rw [Z1.out] at this; omega), BX.out.trans (HBW2.out.mono BX.out.size)⟩
            · have hne : ¬ (u : Int) = (t : Int) := by omega
              have t1 : ((u : Int) != (t : Int)) = true := by simp only [bne_iff_ne, ne_eq]; exact hne
              have hmf : m + 1 ≤ f s := by
                by_cases e : m = f s
                · exact absurd (hat.2 e) hut
                · omega
              have HUT := Lib.hid hut
              obtain ⟨c00, x0, x1, x2⟩ := X.out.below HBW2.out
              simp only [Nat.zero_add] at x0 x1 x2
              obtain ⟨wi, hwi⟩ : ∃ wi : World, wi = wr := ⟨_, rfl⟩
              subst hwi
              clear hat hne hut hbo
              go_wp2
              go_loopg [1, 84] k (fun fm sv x w4 => ∃ j : Nat, (j ≤ k ∧ fm = k - j) ∧ sv = .int .i64 u ∧ x = .int .i64 j ∧ Hid (∀ x, x < j → (edgeP xss u x && decide (f x + 1 = f u)) = false) ∧ Below wi.heap.size wi w4)
              case atStart => exact ⟨0, ⟨Nat.zero_le _, rfl⟩, rfl, rfl, Lib.hid (fun x hx => absurd hx (by omega)), Below.refl _ _⟩
              case round =>
                clear x0 x1 x2 c00
                obtain ⟨j, ⟨hj, rfl⟩, rfl, rfl, hno, hbi⟩ := hrel
                by_cases hjn : j < k
                · have HBI := Lib.hid hbi
                  have HB3 := Lib.hid (HBO.out.trans (hbi.mono HBO.out.size))
                  have HB3W := Lib.hid (HBW2.out.trans (hbi.mono HBW2.out.size))
                  obtain ⟨c00, x0, x1, x2⟩ := X.out.below HB3W.out
                  simp only [Nat.zero_add] at x0 x1 x2
                  have i0 : (0 : Int) ≤ (u : Int) := by omega
                  have i1 : (u : Int) < (k : Int) := by omega
                  have i2 : (0 : Int) ≤ (j : Int) := by omega
                  have i3 : (j : Int) < (k : Int) := by omega
                  have hux : u < xss.length := by rw [HNX.out]; exact hgk
                  obtain ⟨b, off, ra, rc, hae, hb, gr, sr⟩ := (HA.out w (Below.refl _ _)).nthJ hux
                  subst hae
                  have bw3 := BX.out.trans (HB3W.out.mono BX.out.size)
                  rw [← bw3.cell (p := ⟨b, off + u, none⟩) hb] at gr
                  have hrl : xss[u].length = k := by obtain ⟨_, hl, _⟩ := rowB_of HV.out hux; have := HNX.out; omega
                  rw [hrl] at gr sr
                  have hjr : j < xss[u].length := by rw [hrl]; exact hjn
                  have hE := edgeP_at hux hjr
                  obtain ⟨rb, ro, rfl, _, gx⟩ := (sr.below bw3).at_ hjr
                  generalize xss[u][j] = x at gx hE
                  have HE := Lib.hid hE
                  have hf3 := HF.out.below HB3.out
                  have hjf : j < far.length := by rw [HFL.out]; exact hjn
                  have huf : u < far.length := by rw [HFL.out]; exact hgk
                  have gj := OwnI.cell hf3 hjf
                  have gu := OwnI.cell hf3 huf
                  rw [far_at hjf, HFV.out j hjn] at gj
                  rw [far_at huf, HFV.out u hgk] at gu
                  obtain ⟨fj, hfj⟩ : ∃ y, y = f j := ⟨_, rfl⟩
                  obtain ⟨fu, hfu⟩ : ∃ y, y = f u := ⟨_, rfl⟩
                  rw [← hfj] at gj
                  rw [← hfu] at gu
                  have hfub : fu ≤ k := by omega
                  have HFJ := Lib.hid hfj
                  have HFU := Lib.hid hfu
                  have r1 : IntKind.i64.wrap ((fu : Int) - 1) = (fu : Int) - 1 := IntWalk.i64_in _ (by omega)
                  have k0 := fun d os => cell_regrown x2 d os
                  have k2 := fun d os => cell_regrown gr d os
                  have k3 := fun d os => cell_regrown gx d os
                  have k4 := fun d os => cell_regrown gj d os
                  have k5 := fun d os => cell_regrown gu d os
                  clear hbi sr hrl hjr hE hf3 hjf huf bw3 hfj hfu
                  by_cases hx : 0 < x
                  · by_cases hd : fj + 1 = fu
                    · have t2 : ((fj : Int) == (fu : Int) - 1) = true := by rw [beq_iff_eq]; omega
                      have HNG := Lib.hid (show nextG (edgeP xss) k f u = j from nextG_eq hjn (by rw [HE.out, decide_eq_true hx, ← HFJ.out, ← HFU.out, decide_eq_true hd]; rfl) hno.out)
                      go_wp2_with fail
                      refine wp_region_quiet_below (by kernel_rfl) (by kernel_rfl) ?_
                      repeat (first | go_big_quiet_skip | quiet_step (fail))
                      refine wpQuiet_nil ?_
                      intro _ hw'
                      obtain ⟨⟨dq, osq⟩, hw''⟩ := hw'
                      subst hw''
                      have bq0 := below_regrown wr dq osq
                      generalize grow (redrawn wr dq) osq = wq at bq0 ⊢
                      have HI4 := Lib.hid (HBI.out.trans (bq0.mono HBI.out.size))
                      clear k0 k2 k3 k4 k5 x0 x1 x2 c00 gr gx gj gu bq0
                      have o5 := HOP.out.below HI4.out
                      have hln : (intsL (gPath (edgeP xss) k f m s)).length < 16777216 := by rw [intsL_len, gPath_len]; omega
                      have HO4 := Lib.hid (HBO.out.trans (HI4.out.mono HBO.out.size))
                      have hz5 := HO4.out.size
                      have hgm := gEnd_f HIS.out hs (m + 1) hmf
                      rw [HNXT.out j HNG.out] at hgm
                      have hgm2 := hgm.2
                      clear t1 hgm
                      go_wp2_with (at_builtin; refine append_i64 _ (j : Int) _ _ rfl rfl rfl o5 rfl hln hz5 ?_)
                      intro v7 w7 o7 b7 z7
                      have B7 := Lib.hid ((HO4.out.alloc hz5 (.cells #[.int .i64 j] 2)).trans b7)
                      have O7 := Lib.hid (show OwnI w7 wo.heap.size v7 (intsL (gPath (edgeP xss) k f (m + 1) s)) from by rw [HSN.out, HNXT.out j HNG.out, intsL_add]; exact o7)
                      clear b7 o7 o5
                      go_wp2
                      go_roundw
                      case rel => exact ⟨m + 1, hmf, by rw [HNXT.out j HNG.out], O7.out, B7.out⟩
                      case measure => simp [intOf]; omega
                    · have t2 : ((fj : Int) == (fu : Int) - 1) = false := by simp only [beq_eq_false_iff_ne, ne_eq]; omega
                      have HNO := Lib.hid (show ∀ x, x < j + 1 → (edgeP xss u x && decide (f x + 1 = f u)) = false from fun y hy => by
                        by_cases e : y = j
                        · subst e; rw [← HFJ.out, ← HFU.out, decide_eq_false hd, Bool.and_false]
                        · exact hno.out y (by omega))
                      go_wp2_with fail
                      refine wp_region_quiet_below (by kernel_rfl) (by kernel_rfl) ?_
                      repeat (first | go_big_quiet_skip | quiet_step (fail))
                      refine wpQuiet_nil ?_
                      intro _ hw'
                      obtain ⟨⟨dq, osq⟩, hw''⟩ := hw'
                      subst hw''
                      have bq0 := below_regrown wr dq osq
                      generalize grow (redrawn wr dq) osq = wq at bq0 ⊢
                      have HI4 := Lib.hid (HBI.out.trans (bq0.mono HBI.out.size))
                      clear k0 k2 k3 k4 k5 x0 x1 x2 c00 gr gx gj gu bq0
                      go_wp2
                      go_roundg (k - (j + 1))
                      case rel => exact ⟨j + 1, ⟨by omega, rfl⟩, rfl, by go_num, HNO, HI4.out⟩
                      case measure => omega
                  · have HNO := Lib.hid (show ∀ x, x < j + 1 → (edgeP xss u x && decide (f x + 1 = f u)) = false from fun y hy => by
                      by_cases e : y = j
                      · subst e; rw [HE.out, decide_eq_false hx, Bool.false_and]
                      · exact hno.out y (by omega))
                    have HNEG := Lib.hid (decide_eq_false hx)
                    go_wp2_with fail
                    have hneg0 := HNEG.out
                    refine wp_region_quiet_below (by kernel_rfl) (by kernel_rfl) ?_
                    repeat (first | go_big_quiet_skip | quiet_step (fail))
                    refine wpQuiet_nil ?_
                    intro _ hw'
                    obtain ⟨⟨dq, osq⟩, hw''⟩ := hw'
                    subst hw''
                    have bq0 := below_regrown wr dq osq
                    generalize grow (redrawn wr dq) osq = wq at bq0 ⊢
                    have HI4 := Lib.hid (HBI.out.trans (bq0.mono HBI.out.size))
                    clear k0 k2 k3 k4 k5 x0 x1 x2 c00 gr gx gj gu bq0
                    go_wp2
                    go_roundg (k - (j + 1))
                    case rel => exact ⟨j + 1, ⟨by omega, rfl⟩, rfl, by go_num, HNO, HI4.out⟩
                    case measure => omega
                · obtain rfl : j = k := by omega
                  exact absurd (nextG_some HIS.out hgk HUT.out hno.out) id
end Go.Proofs.Ytpmabnohdabbdaa
