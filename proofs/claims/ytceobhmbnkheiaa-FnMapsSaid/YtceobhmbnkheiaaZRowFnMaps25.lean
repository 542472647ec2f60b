/-
  Whether maps are maps of a chain: the program's walk. With it: The chain of maps. Chains built by a weight. The chain of maps: both sides. The chain that makes a step of one and then one of the other: the program's walk. Chains with the same chances: the program's AreMapsOf and the law's f6alike.
-/
import Derived.Test.YtceobhmbnkheiaaZRowFnMaps24
import Derived.Test.YtceobhmbnkheiaaZRowFnMaps19
import Derived.Test.YtceobhmbnkheiaaZRowFnMaps7
import Derived.Test.YtceobhmbnkheiaaZRowFnMaps5
import Derived.Test.YtceobhmbnkheiaaZRowFnMaps4
set_option linter.unusedVariables false
set_option linter.unusedSimpArgs false
namespace Go.Proofs.Ytceobhmbnkheiaa
open Go.RowKit Go.Sort
theorem hits_le {n t : Int} {ms : List (Int × List Int)} (h : mapsOk n t ms) {i : Nat} (hi : i ≤ ms.length) (s : Nat) (u : Int) : 0 ≤ hits (ms.take i) s u ∧ hits (ms.take i) s u ≤ t := by
  obtain ⟨_, _, _, hrow, hsum⟩ := id h
  have key : ∀ l : List (Int × List Int), (∀ m ∈ l, 0 ≤ m.1) → hits l s u ≤ sumM l := by
    intro l
    induction l with
    | nil => intro _; rw [hits_nil]; simp [sumM]
    | cons m l ih =>
      intro hl
      have h1 := ih (fun x hx => hl x (by simp [hx]))
      have h2 := hl m (by simp)
      rw [hits_cons]
      have h3 : sumM (m :: l) = m.1 + sumM l := by simp [sumM]
      unfold hit
      by_cases e : m.2.getD s 0 = u
      · rw [if_pos e]; omega
      · rw [if_neg e]; omega
  have h1 := key (ms.take i) (fun m hm => by have := (hrow m (List.mem_of_mem_take hm)).1; omega)
  have h2 := (h.sums (k := i) hi).2
  exact ⟨hits_nonneg (fun m hm => by have := (hrow m (List.mem_of_mem_take hm)).1; omega), Int.le_trans h1 h2⟩

set_option maxRecDepth 100000 in
set_option maxHeartbeats 4000000 in
theorem chainClo_any {v : Value} {ms : List (Int × List Int)} {T : Int} (b n s : Nat) (u : Int) (w : World) (hb : MpAt w b n T v) (ha : SlM w v ms) (hv : mapsOk n T ms) (hs : s < n) :
    Calls Try.prog 90 #[.int .i64 s, .int .i64 u, .pointer (some ⟨b, 0, none⟩)] w fun e w' => e = .returned (.int .i64 (hits ms s u)) ∧ Below w.heap.size w w' := by
  have HA := Lib.hid (fun W (h : Below w.heap.size w W) => ha.below h)
  obtain ⟨a, ca, rfl, hca, hca2⟩ := ha.form
  unfold maxLen at hca2
  have HX := Lib.hid (fun W (h : Below w.heap.size w W) => hb.below h)
  have HV := Lib.hid hv
  obtain ⟨⟨hn1, hn6⟩, ⟨ht1, ht60⟩, ⟨hl1, hl60⟩, hrow, _⟩ := id hv
  have HROW := Lib.hid hrow
  obtain ⟨x0, x1, x2, x3⟩ := hb
  clear hv hrow ha
  go_enter Try.func90, Try.ntmps90
  go_wp2
  clear x0 x1 x2 x3
  go_loopw [6, 12] (fun sm iv wr => ∃ (i : Nat) (S : Int), i ≤ ms.length ∧ sm = .int .i64 S ∧ iv = .int .i64 i ∧ Hid (S = hits (ms.take i) s u) ∧ Below w.heap.size w wr) (fun _ iv _ => ms.length - (intOf iv).toNat)
  case atStart => exact ⟨0, 0, Nat.zero_le _, rfl, rfl, Lib.hid rfl, Below.refl _ _⟩
  case round =>
    obtain ⟨i, S, hi, rfl, rfl, hS, hbw⟩ := hrel
    have HBW := Lib.hid hbw
    by_cases him : i < ms.length
    · have i1 : (i : Int) < (ms.length : Int) := by omega
      have i0 : (0 : Int) ≤ (i : Int) := by omega
      obtain ⟨mb, mo, ra, rca, wt, tl, hae, hmb, hwt, htl, gm1, gm2, sm⟩ := (HA.out _ hbw).atJ2 him
      subst hae
      have hr := HROW.out _ (List.getElem_mem him)
      have hst := hits_take him s u
      have hb0 := hits_le HV.out (show i ≤ ms.length by omega) s u
      have hb1 := hits_le HV.out (show i + 1 ≤ ms.length by omega) s u
      have he : hit ms[i] s u = if tl.getD s 0 = u then wt else 0 := by rw [hwt, htl]; rfl
      rw [← htl, ← hwt] at hr
      have hsl : s < tl.length := by have := hr.2.1; omega
      have e0 : tl.getD s 0 = tl[s] := by rw [List.getD_eq_getElem?_getD, List.getElem?_eq_getElem hsl]; rfl
      rw [he, e0, ← hS.out] at hst
      rw [← hS.out] at hb0
      rw [hst] at hb1
      have bA : Below wr.heap.size wr (wr.alloc (.cells #[.int .i64 wt, .slice ra tl.length rca] 43)) := (Below.refl _ _).alloc (Nat.le_refl _) _
      obtain ⟨rb, ro, rfl, _, gs⟩ := (sm.below bA).at_ hsl
      generalize tl[s] = y at gs hst hb1
      have HST := Lib.hid hst
      have B1 := Lib.hid (hbw.trans (bA.mono hbw.size))
      have i2 : (s : Int) < (tl.length : Int) := by omega
      have i3 : (0 : Int) ≤ (s : Int) := by omega
      clear hwt htl he e0 hr sm hbw bA
      by_cases hy : y = u
      · rw [if_pos hy] at HST hb1
        have t1 : (y == u) = true := by simp [hy]
        have r1 : IntKind.i64.wrap (S + wt) = S + wt := IntWalk.i64_in _ (by omega)
        clear hy hst
        go_wp2
        go_roundw
        case rel => exact ⟨i + 1, S + wt, by omega, rfl, by go_num, Lib.hid HST.out.symm, B1.out⟩
        case measure => simp [intOf]; omega
      · rw [if_neg hy] at HST hb1
        have t1 : (y == u) = false := by simp [hy]
        clear hy hst
        go_wp2
        go_roundw
        case rel => exact ⟨i + 1, S, by omega, rfl, by go_num, Lib.hid (by rw [HST.out]; omega), B1.out⟩
        case measure => simp [intOf]; omega
    · obtain rfl : i = ms.length := by omega
      have HE := Lib.hid (show S = hits ms s u from by rw [hS.out, List.take_length])
      go_wp2
      go_ret
      exact ⟨by rw [HE.out]; rfl, HBW.out⟩
end Go.Proofs.Ytceobhmbnkheiaa
namespace Go.Proofs.Ytceobhmbnkheiaa
open Go.RowKit Go.Sort
def rowF (f : Nat → Nat → Int) (s j : Nat) : List Int := (List.range j).map fun t => f s t
def rowsF (f : Nat → Nat → Int) (n k : Nat) : List (List Int) := (List.range k).map fun s => rowF f s n
theorem rowF_succ (f : Nat → Nat → Int) (s j : Nat) : rowF f s (j + 1) = rowF f s j ++ [f s j] := by unfold rowF; rw [List.range_succ, List.map_append]; rfl
theorem rowsF_succ (f : Nat → Nat → Int) (n k : Nat) : rowsF f n (k + 1) = rowsF f n k ++ [rowF f k n] := by unfold rowsF; rw [List.range_succ, List.map_append]; rfl
theorem rowF_len (f : Nat → Nat → Int) (s j : Nat) : (rowF f s j).length = j := by simp [rowF]
theorem rowsF_len (f : Nat → Nat → Int) (n k : Nat) : (rowsF f n k).length = k := by simp [rowsF]

set_option maxRecDepth 100000 in
set_option maxHeartbeats 4000000 in
theorem built1_any (cap0 : Value) (f : Nat → Nat → Int) (n T : Nat) (w : World) (hn : n ≤ 6) (hT : T ≤ 60)
    (hf : ∀ (W : World) (s t : Nat), Below w.heap.size w W → s < n → t < n → Calls Try.prog 90 #[.int .i64 s, .int .i64 t, cap0] W fun e W' => e = .returned (.int .i64 (f s t)) ∧ Below W.heap.size W W') :
    Calls Try.prog 89 #[.int .i64 n, .int .i64 T, .func (.func 90) #[] #[cap0]] w fun e w' => ∃ r, e = .returned (.tuple #[.agg #[.int .i64 n, .int .i64 T, r], .int .i64 0]) ∧ OwnII w' w.heap.size r (rowsF f n n) ∧ Below w.heap.size w w' := by
  have HF := Lib.hid hf
  obtain ⟨W1, hW1⟩ : ∃ W1, W1 = w.alloc (.cells #[.int .i64 0, .int .i64 0, .slice none 0 0] 52) := ⟨_, rfl⟩
  obtain ⟨W2, hW2⟩ : ∃ W2, W2 = W1.alloc (.cells #[.int .i64 n, .int .i64 T, .slice none 0 0] 52) := ⟨_, rfl⟩
  have z1 : W1.heap.size = w.heap.size + 1 := by rw [hW1]; simp
  have z2 : W2.heap.size = w.heap.size + 1 + 1 := by rw [hW2]; simp [z1]
  have b1 : Below w.heap.size w W1 := by rw [hW1]; exact (Below.refl _ _).alloc (Nat.le_refl _) _
  have b2 : Below W1.heap.size W1 W2 := by rw [hW2]; exact (Below.refl _ _).alloc (Nat.le_refl _) _
  have R1 := Lib.hid ((show Box3 W1 w.heap.size 0 0 (.slice none 0 0) by rw [hW1]; exact Box3.new w 0 0 _).fs (Fs.of_below (S := fun _ => False) b2) (fun h => h))
  have X2 := Lib.hid (show Box3 W2 (w.heap.size + 1) n T (.slice none 0 0) by rw [hW2, ← z1]; exact Box3.new W1 n T _)
  have BA := Lib.hid (b1.trans (b2.mono b1.size))
  have HW1 := Lib.hid hW1.symm
  have HW2 := Lib.hid hW2.symm
  have B0 := Lib.hid (Below.refl (w.heap.size + 1) W2)
  clear hf hW1 hW2 b1 b2
  go_enter Try.func89, Try.ntmps89
  go_upto_region 4 with (fail)
  rw [HW1.out, HW2.out]
  have q0 := X2.out.c.get 0 _ rfl
  clear q0
  go_wp2
  go_loopw [23] (fun iv wr => ∃ (s : Nat) (v : Value), s ≤ n ∧ iv = .int .i64 s ∧ Box3 wr (w.heap.size + 1) n T v ∧ OwnII wr (w.heap.size + 1 + 1) v (rowsF f n s) ∧ Below (w.heap.size + 1) W2 wr ∧ W2.heap.size ≤ wr.heap.size) (fun iv _ => n - (intOf iv).toNat)
  case atStart => exact ⟨0, _, Nat.zero_le _, rfl, X2.out, OwnII.nil _ _, B0.out, Nat.le_refl _⟩
  case round =>
    clear B0
    obtain ⟨s, v, hs, rfl, hbox, hown, hbw, hzr⟩ := hrel
    have HBX := Lib.hid hbox
    have HO := Lib.hid hown
    have HBW := Lib.hid hbw
    have HBw := Lib.hid (BA.out.trans (hbw.mono (Nat.le_add_right _ 1)))
    clear hbox hown hbw
    by_cases hsn : s < n
    · have i1 : (s : Int) < (n : Int) := by omega
      have own0 := Lib.hid (OwnI.empty wr (base := wr.heap.size) (Nat.le_refl _))
      have b0 := Lib.hid ((Below.refl wr.heap.size wr).alloc (Nat.le_refl _) (.cells #[] 2))
      obtain ⟨wo, rfl⟩ : ∃ wo : World, wo = wr := ⟨_, rfl⟩
      go_wp2
      go_loopw [10, 28] (fun rv jv w4 => ∃ j : Nat, j ≤ n ∧ jv = .int .i64 j ∧ OwnI w4 wo.heap.size rv (rowF f s j) ∧ Below wo.heap.size wo w4) (fun _ jv _ => n - (intOf jv).toNat)
      case atStart => exact ⟨0, Nat.zero_le _, rfl, own0.out, b0.out⟩
      case round =>
        clear own0 b0
        obtain ⟨j, hj, rfl, ho, hbj⟩ := hrel
        have HOR := Lib.hid ho
        have HBJ := Lib.hid hbj
        clear ho hbj
        by_cases hjn : j < n
        · have i2 : (j : Int) < (n : Int) := by omega
          go_wp2_with fail
          go_at_call 90
          refine (HF.out _ s j (HBw.out.trans (HBJ.out.mono HBw.out.size)) hsn hjn).mono ?_
          rintro e w5 ⟨rfl, b5⟩
          have o5 := HOR.out.below b5
          have hz5 : wo.heap.size ≤ w5.heap.size := Nat.le_trans HBJ.out.size b5.size
          have B5 := Lib.hid (HBJ.out.trans (b5.mono HBJ.out.size))
          have hln : (rowF f s j).length < 16777216 := by rw [rowF_len]; omega
          have HST := Lib.hid (rowF_succ f s j)
          clear b5
          go_wp2_with (at_builtin; refine append_i64 _ (f s j) _ _ rfl rfl rfl o5 rfl hln hz5 ?_)
          intro v6 w6 o6 b6 z6
          have O6 := Lib.hid (show OwnI w6 wo.heap.size v6 (rowF f s (j + 1)) from by rw [HST.out]; exact o6)
          have B6 := Lib.hid (B5.out.trans (((Below.refl wo.heap.size w5).alloc hz5 _).trans b6))
          clear o6 b6 o5 z6
          go_wp2
          go_roundw
          case rel => exact ⟨j + 1, by omega, by go_num, O6.out, B6.out⟩
          case measure => simp [intOf]; omega
        · obtain rfl : j = n := by omega
          have hb3 := HBX.out.fs (S := fun _ => False) (Fs.of_below HBJ.out) (fun h => h)
          have c2 := hb3.c.get 2 _ rfl
          have fz := hb3.f 2
          have cl := hb3.c.1
          have hzj := HBJ.out.size
          obtain ⟨ra, rn, rc, rfl, _⟩ := HOR.out.formJ
          obtain ⟨oa, on, oc, rfl, _⟩ := HO.out.formJ
          have bx := (Below.refl wr.heap.size wr).alloc (Nat.le_refl _) (.cells #[.slice ra rn rc] 32)
          have HO1 := Lib.hid ((HO.out.b.below HBJ.out).below bx)
          have HU1 := Lib.hid ((HOR.out.below bx).lower (base' := w.heap.size + 1 + 1) (by omega))
          have HB := Lib.hid (show ∀ g, (Value.slice ra rn rc).ownBlock = some g → wo.heap.size ≤ g from fun g hg => (HOR.out.lt g hg).1)
          have hln : (rowsF f j s).length < 16777216 := by rw [rowsF_len]; omega
          go_wp2_with (at_builtin; refine listAppRow _ _ _ rfl rfl rfl HO1.out HU1.out HB.out rfl (by simp [go_sem]) hln (by simp; omega) ?_)
          intro v7 w7 o7 g7
          have B7 : Below (w.heap.size + 1 + 1) wr w7 := (bx.mono (by omega)).trans ((Below.refl _ _).grown g7 (by simp; omega) (fun k hk => (HO1.out.lt k hk).1))
          have hb7 := hb3.fs (S := fun k => w.heap.size + 1 + 1 ≤ k) ⟨B7.os, B7.tape, B7.output, B7.size, fun k _ hk => B7.block k (by omega)⟩ (by omega)
          obtain ⟨va7, vn7, vc7, rfl, _⟩ := o7.formJ
          have O7 := Lib.hid (show OwnII w7 (w.heap.size + 1 + 1) (.slice va7 vn7 vc7) (rowsF f j (s + 1)) from by rw [rowsF_succ]; exact o7)
          have X7 := Lib.hid hb7
          have BW7 := Lib.hid ((HBW.out.trans (HBJ.out.mono (by omega))).trans (B7.mono (by omega)))
          have k2 := hb7.c.get 2 _ rfl
          have f2 := hb7.f 2
          have kl := hb7.c.1
          have hz7 : W2.heap.size ≤ w7.heap.size := by have := B7.size; omega
          clear o7 g7 B7 hb7 hb3 c2 fz cl bx
          go_wp2
          go_roundw
          case rel => exact ⟨s + 1, _, by omega, by go_num, X7.out.set _, OwnII.setCell O7.out (by simp) _, BW7.out.setCell (by simp) _, by simp; exact hz7⟩
          case measure => simp [intOf]; omega
    · obtain rfl : s = n := by omega
      have rb := R1.out.fs (S := fun k => w.heap.size + 1 ≤ k) ⟨HBW.out.os, HBW.out.tape, HBW.out.output, HBW.out.size, fun k _ hk => HBW.out.block k (by omega)⟩ (by omega)
      obtain ⟨va, vn, vc, rfl, _⟩ := HO.out.formJ
      have k0 := HBX.out.c.get 0 _ rfl
      have k1 := HBX.out.c.get 1 _ rfl
      have k2 := HBX.out.c.get 2 _ rfl
      have kl := HBX.out.c.1
      have q0 := rb.c.get 0 _ rfl
      have q1 := rb.c.get 1 _ rfl
      have q2 := rb.c.get 2 _ rfl
      have f0 := rb.f 0
      have f1 := rb.f 1
      have f2 := rb.f 2
      have ql := rb.c.1
      clear rb
      go_wp2
      refine bodyPost_ret (v := .tuple #[.agg #[.int .i64 s, .int .i64 T, .slice va vn vc], .int .i64 0]) (by simp [results, Try.results89, go_sem, q0, q1, q2, ql]) rfl ⟨_, rfl, ?_, ?_⟩
      · exact OwnII.lower (OwnII.setCell (OwnII.setCell (OwnII.setCell HO.out (by simp; omega) _) (by simp; omega) _) (by simp; omega) _) (by omega)
      · exact ((HBw.out.setCell (by simp) _).setCell (by simp) _).setCell (by simp) _
end Go.Proofs.Ytceobhmbnkheiaa
namespace Go.Proofs.Ytceobhmbnkheiaa
open Go.RowKit Go.Sort
theorem rows_chain (n : Nat) (ms : List (Int × List Int)) : rowsF (fun s t => hits ms s (t : Int)) n n = chainM n ms := rfl

set_option maxRecDepth 100000 in
set_option maxHeartbeats 4000000 in
theorem chain_any {v : Value} {ms : List (Int × List Int)} (n T : Nat) (w : World) (ha : SlM w v ms) (hv : mapsOk n T ms) :
    Calls Try.prog 68 #[.agg #[.int .i64 n, .int .i64 T, v]] w fun e w' => ∃ r, e = .returned (.agg #[.int .i64 n, .int .i64 T, r]) ∧ OwnII w' w.heap.size r (chainM n ms) ∧ Below w.heap.size w w' := by
  have HA := Lib.hid (fun W (h : Below w.heap.size w W) => ha.below h)
  obtain ⟨a, ca, rfl, hca, hca2⟩ := ha.form
  have HV := Lib.hid hv
  obtain ⟨⟨hn1, hn6⟩, ⟨ht1, ht60⟩, _⟩ := id hv
  obtain ⟨W1, hW1⟩ : ∃ W1, W1 = w.alloc (.cells #[.int .i64 n, .int .i64 T, .slice a ms.length ca] 26) := ⟨_, rfl⟩
  obtain ⟨W2, hW2⟩ : ∃ W2, W2 = W1.alloc (.cells #[.int .i64 0, .int .i64 0, .slice none 0 0] 52) := ⟨_, rfl⟩
  have z1 : W1.heap.size = w.heap.size + 1 := by rw [hW1]; simp
  have z2 : W2.heap.size = w.heap.size + 1 + 1 := by rw [hW2]; simp [z1]
  have b1 : Below w.heap.size w W1 := by rw [hW1]; exact (Below.refl _ _).alloc (Nat.le_refl _) _
  have b2 : Below W1.heap.size W1 W2 := by rw [hW2]; exact (Below.refl _ _).alloc (Nat.le_refl _) _
  have X := Lib.hid (show MpAt W2 w.heap.size n T (.slice a ms.length ca) from (show MpAt W1 w.heap.size n T (.slice a ms.length ca) by rw [hW1]; exact MpAt.new w n T _).below b2)
  have R := Lib.hid (show Box3 W2 (w.heap.size + 1) 0 0 (.slice none 0 0) by rw [hW2, ← z1]; exact Box3.new W1 0 0 _)
  have BA := Lib.hid (b1.trans (b2.mono b1.size))
  have HW1 := Lib.hid hW1.symm
  have HW2 := Lib.hid hW2.symm
  have Z2 := Lib.hid z2
  have BT := Lib.hid (built1_any (.pointer (some ⟨w.heap.size, 0, none⟩)) (fun s t => hits ms s (t : Int)) n T W2 (by omega) (by omega) (fun W s t hW hs ht => chainClo_any w.heap.size n s t W (X.out.below hW) (HA.out _ (BA.out.trans (hW.mono BA.out.size))) HV.out hs))
  have hmf : ∀ (fn : Fn) (first cap : Array Value) (w : World), (Instr.makeFunc fn first cap).run Try.prog w = .ok (.func fn first cap) w := fun _ _ _ _ => rfl
  obtain ⟨x0, x1, x2, x3⟩ := X.out
  clear ha hv hW1 hW2 b1 b2 z1
  go_enter Try.func68, Try.ntmps68
  go_wp2_with fail
  rw [HW1.out, HW2.out]
  refine BT.out.mono ?_
  rintro e w3 ⟨r, rfl, o3, b3⟩
  rw [rows_chain] at o3
  have R3 := R.out.fs (S := fun _ => False) (Fs.of_below b3) (fun h => h)
  have B3 := Lib.hid (BA.out.trans (b3.mono BA.out.size))
  have O3 := Lib.hid o3
  obtain ⟨va, vn, vc, rfl, _⟩ := o3.formJ
  have q0 := R3.c.get 0 _ rfl
  have q1 := R3.c.get 1 _ rfl
  have q2 := R3.c.get 2 _ rfl
  have f0 := R3.f 0
  have f1 := R3.f 1
  have f2 := R3.f 2
  have ql := R3.c.1
  clear R3 b3 o3 x0 x1 x2 x3 BT
  go_wp2
  refine bodyPost_ret (v := .agg #[.int .i64 n, .int .i64 T, .slice va vn vc]) (by simp [results, Try.results68, go_sem, q0, q1, q2, ql]) rfl ⟨_, rfl, ?_, ?_⟩
  · have hz := Z2.out
    have o4 := O3.out.lower (base' := w.heap.size + 1 + 1) (by omega)
    have o5 := OwnII.setCell (OwnII.setCell (OwnII.setCell o4 (a := ⟨w.heap.size + 1, 0, none⟩) (by simp) (.int .i64 n)) (a := ⟨w.heap.size + 1, 1, none⟩) (by simp) (.int .i64 T)) (a := ⟨w.heap.size + 1, 2, none⟩) (by simp) (.slice va vn vc)
    exact (o5.below ((Below.refl _ _).alloc (Nat.le_refl _) _)).lower (by omega)
  · exact (((B3.out.setCell (by simp) _).setCell (by simp) _).setCell (by simp) _).alloc (by have := B3.out.size; simpa using this) _

set_option maxRecDepth 100000 in
set_option maxHeartbeats 4000000 in
theorem ImplChainOfMaps_any {v : Value} {ms : List (Int × List Int)} (n T : Nat) (w : World) (ha : SlM w v ms) (hv : mapsOk n T ms) :
    Calls Try.prog 23 #[.agg #[.int .i64 n, .int .i64 T, v]] w fun e w' => ∃ r, e = .returned (.tuple #[.agg #[.int .i64 n, .int .i64 T, r], .int .i64 0]) ∧ OwnII w' w.heap.size r (chainM n ms) ∧ Below w.heap.size w w' := by
  have HA := Lib.hid (fun W (h : Below w.heap.size w W) => ha.below h)
  obtain ⟨a, ca, rfl, hca, hca2⟩ := ha.form
  have HV := Lib.hid hv
  obtain ⟨W1, hW1⟩ : ∃ W1, W1 = w.alloc (.cells #[.int .i64 n, .int .i64 T, .slice a ms.length ca] 26) := ⟨_, rfl⟩
  obtain ⟨W2, hW2⟩ : ∃ W2, W2 = W1.alloc (.cells #[.int .i64 0, .int .i64 0, .slice none 0 0] 52) := ⟨_, rfl⟩
  have z1 : W1.heap.size = w.heap.size + 1 := by rw [hW1]; simp
  have z2 : W2.heap.size = w.heap.size + 1 + 1 := by rw [hW2]; simp [z1]
  have b1 : Below w.heap.size w W1 := by rw [hW1]; exact (Below.refl _ _).alloc (Nat.le_refl _) _
  have b2 : Below W1.heap.size W1 W2 := by rw [hW2]; exact (Below.refl _ _).alloc (Nat.le_refl _) _
  have X := Lib.hid (show MpAt W2 w.heap.size n T (.slice a ms.length ca) from (show MpAt W1 w.heap.size n T (.slice a ms.length ca) by rw [hW1]; exact MpAt.new w n T _).below b2)
  have R := Lib.hid (show Box3 W2 (w.heap.size + 1) 0 0 (.slice none 0 0) by rw [hW2, ← z1]; exact Box3.new W1 0 0 _)
  have BA := Lib.hid (b1.trans (b2.mono b1.size))
  have HW1 := Lib.hid hW1.symm
  have HW2 := Lib.hid hW2.symm
  have Z2 := Lib.hid z2
  obtain ⟨x0, x1, x2, x3⟩ := X.out
  clear ha hv hW1 hW2 b1 b2 z1
  go_enter Try.func23, Try.ntmps23
  go_wp2_with fail
  rw [HW1.out, HW2.out]
  refine (ValidMaps_ok _ (HA.out _ BA.out) HV.out).mono ?_
  rintro e w3 ⟨rfl, b3⟩
  obtain ⟨y0, y1, y2, y3⟩ := X.out.below b3
  have B3 := Lib.hid (BA.out.trans (b3.mono BA.out.size))
  have R3 := Lib.hid (R.out.fs (S := fun _ => False) (Fs.of_below b3) (fun h => h))
  have Z3 := Lib.hid b3.size
  clear b3 x0 x1 x2 x3
  go_wp2_with fail
  refine (chain_any n T _ (HA.out _ B3.out) HV.out).mono ?_
  rintro e w4 ⟨r, rfl, o4, b4⟩
  have R4 := R3.out.fs (S := fun _ => False) (Fs.of_below b4) (fun h => h)
  have B4 := Lib.hid (B3.out.trans (b4.mono B3.out.size))
  have O4 := Lib.hid (o4.lower (base' := w.heap.size + 1 + 1) (by have := Z3.out; have := Z2.out; omega))
  obtain ⟨va, vn, vc, rfl, _⟩ := o4.formJ
  have q0 := R4.c.get 0 _ rfl
  have q1 := R4.c.get 1 _ rfl
  have q2 := R4.c.get 2 _ rfl
  have f0 := R4.f 0
  have f1 := R4.f 1
  have f2 := R4.f 2
  have ql := R4.c.1
  clear R4 b4 o4 y0 y1 y2 y3
  go_wp2
  refine bodyPost_ret (v := .tuple #[.agg #[.int .i64 n, .int .i64 T, .slice va vn vc], .int .i64 0]) (by simp [results, Try.results23, go_sem, q0, q1, q2, ql]) rfl ⟨_, rfl, ?_, ?_⟩
  · exact OwnII.lower (OwnII.setCell (OwnII.setCell (OwnII.setCell O4.out (by simp) _) (by simp) _) (by simp) _) (by omega)
  · exact ((B4.out.setCell (by simp) _).setCell (by simp) _).setCell (by simp) _
end Go.Proofs.Ytceobhmbnkheiaa
namespace Go.Proofs.Ytceobhmbnkheiaa
open Go.RowKit Go.Sort
def RowsB (n : Nat) (T : Int) (xss : List (List Int)) : Prop := xss.length = n ∧ ∀ r ∈ xss, r.length = n ∧ ∀ x ∈ r, 0 ≤ x ∧ x ≤ T
theorem chain_rowsB {n : Nat} {t : Int} {ms : List (Int × List Int)} (h : mapsOk n t ms) : RowsB n t (chainM n ms) := by
  refine ⟨chainM_len n ms, fun r hr => ?_⟩
  rw [List.mem_iff_getElem] at hr
  obtain ⟨s, hs, rfl⟩ := hr
  have hs' : s < n := by rw [chainM_len] at hs; exact hs
  have e : (chainM n ms)[s] = (chainM n ms).getD s [] := by rw [List.getD_eq_getElem?_getD, List.getElem?_eq_getElem hs]; rfl
  obtain ⟨h1, h2, _⟩ := chain_rows h hs'
  rw [e]
  exact ⟨h1, h2⟩
def mulE (xss yss : List (List Int)) (s t k : Nat) : Int := (xss.getD s []).getD k 0 * (yss.getD k []).getD t 0
theorem mulC_rows (n : Nat) (a b : List (List Int)) : rowsF (fun s t => sumN n (mulE a b s t)) n n = mulC n a b := rfl
theorem RowsB.at2 {n : Nat} {T : Int} {xss : List (List Int)} (h : RowsB n T xss) {s k : Nat} (hs : s < n) (hk : k < n) : ∃ (h1 : s < xss.length) (h2 : k < xss[s].length), (xss.getD s []).getD k 0 = xss[s][k] ∧ 0 ≤ xss[s][k] ∧ xss[s][k] ≤ T := by
  have h1 : s < xss.length := by rw [h.1]; exact hs
  have hr := h.2 _ (List.getElem_mem h1)
  have h2 : k < xss[s].length := by rw [hr.1]; exact hk
  refine ⟨h1, h2, ?_, hr.2 _ (List.getElem_mem h2)⟩
  rw [List.getD_eq_getElem?_getD (l := xss), List.getElem?_eq_getElem h1, List.getD_eq_getElem?_getD]
  show (xss[s])[k]?.getD 0 = _
  rw [List.getElem?_eq_getElem h2]; rfl
theorem mulE_le {n : Nat} {T U : Int} {xss yss : List (List Int)} (hx : RowsB n T xss) (hy : RowsB n U yss) (hT : T ≤ 60) (hU : U ≤ 60) {s t k : Nat} (hs : s < n) (ht : t < n) (hk : k < n) : 0 ≤ mulE xss yss s t k ∧ mulE xss yss s t k ≤ 3600 := by
  obtain ⟨_, _, e1, a1, a2⟩ := hx.at2 hs hk
  obtain ⟨_, _, e2, b1, b2⟩ := hy.at2 hk ht
  unfold mulE
  rw [e1, e2]
  refine ⟨Int.mul_nonneg a1 b1, ?_⟩
  have := Int.mul_le_mul (show xss[s][k] ≤ 60 by omega) (show yss[k][t] ≤ 60 by omega) b1 (by omega)
  omega
theorem mulS_le {n : Nat} {T U : Int} {xss yss : List (List Int)} (hx : RowsB n T xss) (hy : RowsB n U yss) (hT : T ≤ 60) (hU : U ≤ 60) {s t : Nat} (hs : s < n) (ht : t < n) : ∀ {k : Nat}, k ≤ n → 0 ≤ sumN k (mulE xss yss s t) ∧ sumN k (mulE xss yss s t) ≤ 3600 * (k : Int)
  | 0, _ => by rw [sumN_zero]; omega
  | k + 1, h => by
    have h1 := mulS_le hx hy hT hU hs ht (k := k) (by omega)
    have h2 := mulE_le hx hy hT hU hs ht (k := k) (by omega)
    rw [sumN_succ]; omega

set_option maxRecDepth 100000 in
set_option maxHeartbeats 4000000 in
theorem thenClo_any {u v : Value} {xss yss : List (List Int)} {T U : Int} (b c n s t : Nat) (w : World) (hb : MpAt w b n T u) (hc : MpAt w c n U v) (ha : SlII w u xss) (hd : SlII w v yss) (hx : RowsB n T xss) (hy : RowsB n U yss) (hT : T ≤ 60) (hU : U ≤ 60) (hn : n ≤ 6) (hs : s < n) (ht : t < n) :
    Calls Try.prog 91 #[.int .i64 s, .int .i64 t, .pointer (some ⟨b, 0, none⟩), .pointer (some ⟨c, 0, none⟩)] w fun e w' => e = .returned (.int .i64 (sumN n (mulE xss yss s t))) ∧ Below w.heap.size w w' := by
  have HA := Lib.hid (fun W (h : Below w.heap.size w W) => ha.below h)
  have HD := Lib.hid (fun W (h : Below w.heap.size w W) => hd.below h)
  obtain ⟨a, ca, rfl, hca, hca2⟩ := ha.formJ
  obtain ⟨d, cd, rfl, hcd, hcd2⟩ := hd.formJ
  have HX := Lib.hid (fun W (h : Below w.heap.size w W) => hb.below h)
  have HY := Lib.hid (fun W (h : Below w.heap.size w W) => hc.below h)
  have HRX := Lib.hid hx
  have HRY := Lib.hid hy
  have HXL := Lib.hid hx.1
  have HYL := Lib.hid hy.1
  obtain ⟨x0, x1, x2, x3⟩ := hb
  clear hx hy ha hd hc
  go_enter Try.func91, Try.ntmps91
  go_wp2
  clear x0 x1 x2 x3
  go_loopw [7, 11] (fun sm iv wr => ∃ (i : Nat) (S : Int), i ≤ n ∧ sm = .int .i64 S ∧ iv = .int .i64 i ∧ Hid (S = sumN i (mulE xss yss s t)) ∧ Below w.heap.size w wr) (fun _ iv _ => n - (intOf iv).toNat)
  case atStart => exact ⟨0, 0, Nat.zero_le _, rfl, rfl, Lib.hid rfl, Below.refl _ _⟩
  case round =>
    obtain ⟨i, S, hi, rfl, rfl, hS, hbw⟩ := hrel
    have HBW := Lib.hid hbw
    by_cases him : i < n
    · have i1 : (i : Int) < (n : Int) := by omega
      have i0 : (0 : Int) ≤ (i : Int) := by omega
      have i2 : (0 : Int) ≤ (s : Int) := by omega
      have i3 : (0 : Int) ≤ (t : Int) := by omega
      obtain ⟨h1, h2, e1, a1, a2⟩ := HRX.out.at2 hs him
      obtain ⟨h3, h4, e2, c1, c2⟩ := HRY.out.at2 him ht
      obtain ⟨x0, x1, x2, x3⟩ := HX.out _ hbw
      obtain ⟨y0, y1, y2, y3⟩ := HY.out _ hbw
      obtain ⟨ba, oa, ra, rfl, ga, sa⟩ := (HA.out _ hbw).atJ h1
      obtain ⟨bd, od, rd, rfl, gd, sd⟩ := (HD.out _ hbw).atJ h3
      obtain ⟨ua, uc, rfl, _, _, ur⟩ := sa
      obtain ⟨va, vc, rfl, _, _, vr⟩ := sd
      obtain ⟨ub, uo, rfl, gu⟩ := ur.one (i64s_get h2)
      obtain ⟨vb, vo, rfl, gv⟩ := vr.one (i64s_get h4)
      have i4 : (s : Int) < (xss.length : Int) := by omega
      have i5 : (i : Int) < (yss.length : Int) := by omega
      have i6 : (i : Int) < (xss[s].length : Int) := by omega
      have i7 : (t : Int) < (yss[i].length : Int) := by omega
      have hst := sumN_succ i (mulE xss yss s t)
      have hm : mulE xss yss s t i = xss[s][i] * yss[i][t] := by unfold mulE; rw [e1, e2]
      have hmb := mulE_le HRX.out HRY.out hT hU hs ht him
      have hsb := mulS_le HRX.out HRY.out hT hU hs ht hi
      rw [hm, ← hS.out] at hst
      rw [hm] at hmb
      rw [← hS.out] at hsb
      clear e1 e2 ur vr
      generalize xss[s][i] = p at *
      generalize yss[i][t] = q at *
      generalize xss[s].length = L1 at *
      generalize yss[i].length = L2 at *
      have r1 : IntKind.i64.wrap (p * q) = p * q := IntWalk.i64_in _ (by omega)
      have r2 : IntKind.i64.wrap (S + p * q) = S + p * q := IntWalk.i64_in _ (by omega)
      have HST := Lib.hid hst
      have k1 := fun d os => cell_regrown x3 d os
      have k2 := fun d os => cell_regrown y3 d os
      have k3 := fun d os => cell_regrown ga d os
      have k4 := fun d os => cell_regrown gd d os
      have k5 := fun d os => cell_regrown gu d os
      have k6 := fun d os => cell_regrown gv d os
      clear hst hm hmb hsb a1 a2 c1 c2
      go_wp2_with fail
      refine wp_region_quiet_below (by kernel_rfl) (by kernel_rfl) ?_
      repeat (first | go_big_quiet_skip | quiet_step (fail))
      refine wpQuiet_nil ?_
      intro _ hw'
      obtain ⟨⟨dq, osq⟩, hw''⟩ := hw'
      subst hw''
      have bq0 := below_regrown wr dq osq
      have bq := hbw.trans (bq0.mono hbw.size)
      have z1 := x1
      clear z1
      obtain ⟨y0, y1, y2, y3⟩ := HX.out _ bq
      generalize grow (redrawn wr dq) osq = wq at bq bq0 ⊢
      clear k1 k2 k3 k4 k5 k6
      go_wp2
      go_roundw
      case rel => exact ⟨i + 1, S + p * q, by omega, rfl, by go_num, Lib.hid HST.out.symm, bq⟩
      case measure => simp [intOf]; omega
    · obtain rfl : i = n := by omega
      have HE := Lib.hid hS.out
      go_wp2
      go_ret
      exact ⟨by rw [HE.out]; rfl, HBW.out⟩
end Go.Proofs.Ytceobhmbnkheiaa
namespace Go.Proofs.Ytceobhmbnkheiaa
open Go.RowKit Go.Sort
def EqAt (T U : Nat) (xss yss : List (List Int)) (s t : Nat) : Prop := (xss.getD s []).getD t 0 * (U : Int) = (yss.getD s []).getD t 0 * (T : Int)
def alike (n T U : Nat) (xss yss : List (List Int)) : Bool := (List.range n).all fun s => (List.range n).all fun t => decide ((xss.getD s []).getD t 0 * (U : Int) = (yss.getD s []).getD t 0 * (T : Int))
theorem alike_yes {n T U : Nat} {xss yss : List (List Int)} (h : ∀ s t, s < n → t < n → EqAt T U xss yss s t) : alike n T U xss yss = true := by
  unfold alike
  rw [List.all_eq_true]
  intro s hs
  rw [List.all_eq_true]
  intro t ht
  rw [List.mem_range] at hs ht
  rw [decide_eq_true_eq]
  exact h s t hs ht
theorem alike_no {n T U : Nat} {xss yss : List (List Int)} {s t : Nat} (hs : s < n) (ht : t < n) (h : ¬ EqAt T U xss yss s t) : alike n T U xss yss = false := by
  rw [Bool.eq_false_iff]
  intro e
  unfold alike at e
  rw [List.all_eq_true] at e
  have e1 := e s (by rw [List.mem_range]; exact hs)
  rw [List.all_eq_true] at e1
  have e2 := e1 t (by rw [List.mem_range]; exact ht)
  rw [decide_eq_true_eq] at e2
  exact h e2
theorem alike_refl (n T : Nat) (xss : List (List Int)) : alike n T T xss xss = true := alike_yes (fun _ _ _ _ => rfl)
/-- the same up to a place -/
def EqTo (n T U : Nat) (xss yss : List (List Int)) (s t : Nat) : Prop := (∀ s' t', s' < s → t' < n → EqAt T U xss yss s' t') ∧ ∀ t', t' < t → EqAt T U xss yss s t'
theorem EqTo.zero (n T U : Nat) (xss yss : List (List Int)) : EqTo n T U xss yss 0 0 := ⟨fun _ _ h => by omega, fun _ h => by omega⟩
theorem EqTo.next {n T U : Nat} {xss yss : List (List Int)} {s t : Nat} (h : EqTo n T U xss yss s t) (e : EqAt T U xss yss s t) : EqTo n T U xss yss s (t + 1) := ⟨h.1, fun t' ht' => by
  by_cases e1 : t' = t
  · subst e1; exact e
  · exact h.2 t' (by omega)⟩
theorem EqTo.row {n T U : Nat} {xss yss : List (List Int)} {s : Nat} (h : EqTo n T U xss yss s n) : EqTo n T U xss yss (s + 1) 0 := ⟨fun s' t' hs' ht' => by
  by_cases e1 : s' = s
  · subst e1; exact h.2 t' ht'
  · exact h.1 s' t' (by omega) ht', fun _ h => by omega⟩
theorem EqTo.all {n T U : Nat} {xss yss : List (List Int)} (h : EqTo n T U xss yss n 0) : alike n T U xss yss = true := alike_yes (fun s t hs ht => h.1 s t hs ht)

set_option maxRecDepth 100000 in
set_option maxHeartbeats 8000000 in
theorem f6alike_any {u v : Value} {xss yss : List (List Int)} (n T U : Nat) (w : World) (ha : SlII w u xss) (hb : SlII w v yss) (hx : RowsB n T xss) (hy : RowsB n U yss) (hT : T ≤ 60) (hU : U ≤ 60) (hn : n ≤ 6) :
    Calls Try.prog 34 #[.agg #[.int .i64 n, .int .i64 T, u], .agg #[.int .i64 n, .int .i64 U, v]] w fun e w' => e = .returned (.bool (alike n T U xss yss)) ∧ Below w.heap.size w w' := by
  have HA := Lib.hid (fun W (h : Below w.heap.size w W) => ha.below h)
  have HB := Lib.hid (fun W (h : Below w.heap.size w W) => hb.below h)
  obtain ⟨a, ca, rfl, hca, hca2⟩ := ha.formJ
  obtain ⟨b, cb, rfl, hcb, hcb2⟩ := hb.formJ
  unfold maxLen at hca2 hcb2
  obtain ⟨W1, hW1⟩ : ∃ W1, W1 = w.alloc (.cells #[.int .i64 n, .int .i64 T, .slice a xss.length ca] 52) := ⟨_, rfl⟩
  obtain ⟨W2, hW2⟩ : ∃ W2, W2 = W1.alloc (.cells #[.int .i64 n, .int .i64 U, .slice b yss.length cb] 52) := ⟨_, rfl⟩
  have z1 : W1.heap.size = w.heap.size + 1 := by rw [hW1]; simp
  have b1 : Below w.heap.size w W1 := by rw [hW1]; exact (Below.refl _ _).alloc (Nat.le_refl _) _
  have b2 : Below W1.heap.size W1 W2 := by rw [hW2]; exact (Below.refl _ _).alloc (Nat.le_refl _) _
  have X := Lib.hid (show MpAt W2 w.heap.size n T (.slice a xss.length ca) from (show MpAt W1 w.heap.size n T (.slice a xss.length ca) by rw [hW1]; exact MpAt.newC w n T _).below b2)
  have Y := Lib.hid (show MpAt W2 (w.heap.size + 1) n U (.slice b yss.length cb) by rw [hW2, ← z1]; exact MpAt.newC W1 n U _)
  have BX := Lib.hid (b1.trans (b2.mono b1.size))
  have HW1 := Lib.hid hW1.symm
  have HW2 := Lib.hid hW2.symm
  have B0 := Lib.hid (Below.refl W2.heap.size W2)
  have HRX := Lib.hid hx
  have HRY := Lib.hid hy
  have HXL := Lib.hid hx.1
  have HYL := Lib.hid hy.1
  have q1 : ((n : Int) != (n : Int)) = false := by simp
  have q3 : ((xss.length : Int) != (yss.length : Int)) = false := by rw [hx.1, hy.1]; simp
  obtain ⟨x0, x1, x2, x3⟩ := X.out
  obtain ⟨y0, y1, y2, y3⟩ := Y.out
  clear ha hb hx hy hW1 hW2 b1 b2 z1
  go_enter Try.func34, Try.ntmps34
  go_upto_region 1 with (fail)
  rw [HW1.out, HW2.out]
  go_wp2
  clear x0 x1 x2 x3 y0 y1 y2 y3 q3
  go_loopw [5] (fun sv wr => ∃ s : Nat, s ≤ n ∧ sv = .int .i64 s ∧ Hid (EqTo n T U xss yss s 0) ∧ Below W2.heap.size W2 wr) (fun sv _ => n - (intOf sv).toNat)
  case atStart => exact ⟨0, Nat.zero_le _, rfl, Lib.hid (EqTo.zero _ _ _ _ _), B0.out⟩
  case round =>
    clear B0
    obtain ⟨s, hs, rfl, heq, hbw⟩ := hrel
    have HBW := Lib.hid hbw
    have HBw := Lib.hid (BX.out.trans (hbw.mono BX.out.size))
    obtain ⟨x0, x1, x2, x3⟩ := X.out.below hbw
    obtain ⟨y0, y1, y2, y3⟩ := Y.out.below hbw
    have s0 : (0 : Int) ≤ (s : Int) := by omega
    clear hbw
    by_cases hsn : s < n
    · have hsx : s < xss.length := by rw [HXL.out]; exact hsn
      have hsy : s < yss.length := by rw [HYL.out]; exact hsn
      have s1 : (s : Int) < (xss.length : Int) := by omega
      have s2 : (s : Int) < (yss.length : Int) := by omega
      obtain ⟨xb, xo, xr, rfl, gx, sx⟩ := (HA.out _ HBw.out).atJ hsx
      obtain ⟨yb, yo, yr, rfl, gy, sy⟩ := (HB.out _ HBw.out).atJ hsy
      obtain ⟨xa, xc, rfl, hxc, hxc2, _⟩ := id sx
      obtain ⟨ya, yc, rfl, hyc, hyc2, _⟩ := id sy
      have hlx := (HRX.out.2 _ (List.getElem_mem hsx)).1
      have hly := (HRY.out.2 _ (List.getElem_mem hsy)).1
      have HLX := Lib.hid hlx
      have HLY := Lib.hid hly
      have q4 : ((xss[s].length : Int) != (yss[s].length : Int)) = false := by rw [hlx, hly]; simp
      have SX := Lib.hid (fun W (h : Below wr.heap.size wr W) => sx.below h)
      have SY := Lib.hid (fun W (h : Below wr.heap.size wr W) => sy.below h)
      have KX := Lib.hid (fun W (h : Below wr.heap.size wr W) => (h.cell (p := ⟨xb, xo + s, none⟩) (cell_lt gx)).trans gx)
      have KY := Lib.hid (fun W (h : Below wr.heap.size wr W) => (h.cell (p := ⟨yb, yo + s, none⟩) (cell_lt gy)).trans gy)
      have k1 := fun d os => cell_regrown x3 d os
      have k2 := fun d os => cell_regrown y3 d os
      have k3 := fun d os => cell_regrown gx d os
      have k4 := fun d os => cell_regrown gy d os
      obtain ⟨wo, rfl⟩ : ∃ wo : World, wo = wr := ⟨_, rfl⟩
      clear hlx hly sx sy
      go_wp2_with fail
      refine wp_region_quiet_below (by kernel_rfl) (by kernel_rfl) ?_
      repeat (first | go_big_quiet_skip | quiet_step (fail))
      refine wpQuiet_nil ?_
      intro _ hw'
      obtain ⟨⟨dq, osq⟩, hw''⟩ := hw'
      subst hw''
      have bq := below_regrown wo dq osq
      generalize grow (redrawn wo dq) osq = w5 at bq ⊢
      have B5 := Lib.hid bq
      clear k1 k2 k3 k4 gx gy x0 x1 x2 x3 y0 y1 y2 y3 bq
      go_wp2
      go_loopw [6] (fun tv wi => ∃ t : Nat, t ≤ n ∧ tv = .int .i64 t ∧ Hid (EqTo n T U xss yss s t) ∧ Below wo.heap.size wo wi) (fun tv _ => n - (intOf tv).toNat)
      case atStart => exact ⟨0, Nat.zero_le _, rfl, heq, B5.out⟩
      case round =>
        clear B5 heq
        obtain ⟨t, ht, rfl, heq, hbi⟩ := hrel
        have HBI := Lib.hid hbi
        have HBI2 := Lib.hid (HBW.out.trans (hbi.mono HBW.out.size))
        obtain ⟨x0, x1, x2, x3⟩ := X.out.below HBI2.out
        obtain ⟨y0, y1, y2, y3⟩ := Y.out.below HBI2.out
        have gx := KX.out _ hbi
        have gy := KY.out _ hbi
        have t0 : (0 : Int) ≤ (t : Int) := by omega
        clear hbi
        by_cases htn : t < n
        · obtain ⟨h1, h2, e1, a1, a2⟩ := HRX.out.at2 hsn htn
          obtain ⟨h3, h4, e2, c1, c2⟩ := HRY.out.at2 hsn htn
          have t1 : (t : Int) < (xss[s].length : Int) := by omega
          have t2 : (t : Int) < (yss[s].length : Int) := by omega
          obtain ⟨ub, uo, rfl, _, gu⟩ := (SX.out _ HBI.out).at_ h2
          obtain ⟨vb, vo, rfl, _, gv⟩ := (SY.out _ HBI.out).at_ h4
          have hd : EqAt T U xss yss s t ↔ xss[s][t] * (U : Int) = yss[s][t] * (T : Int) := by unfold EqAt; rw [e1, e2]
          clear e1 e2
          generalize xss[s][t] = p at *
          generalize yss[s][t] = r at *
          have HD := Lib.hid hd
          have m1 : p * (U : Int) ≤ 60 * 60 := Int.mul_le_mul (by omega) (by omega) (by omega) (by omega)
          have m2 : 0 ≤ p * (U : Int) := Int.mul_nonneg a1 (by omega)
          have m3 : r * (T : Int) ≤ 60 * 60 := Int.mul_le_mul (by omega) (by omega) (by omega) (by omega)
          have m4 : 0 ≤ r * (T : Int) := Int.mul_nonneg c1 (by omega)
          obtain ⟨P, hP⟩ : ∃ P, P = p * (U : Int) := ⟨_, rfl⟩
          obtain ⟨Q, hQ⟩ : ∃ Q, Q = r * (T : Int) := ⟨_, rfl⟩
          have r1 : IntKind.i64.wrap (p * (U : Int)) = P := by rw [hP]; exact IntWalk.i64_in _ (by omega)
          have r2 : IntKind.i64.wrap (r * (T : Int)) = Q := by rw [hQ]; exact IntWalk.i64_in _ (by omega)
          rw [← hP, ← hQ] at HD
          clear hd m1 m2 m3 m4 hP hQ
          have k1 := fun d os => cell_regrown x3 d os
          have k2 := fun d os => cell_regrown y3 d os
          have k3 := fun d os => cell_regrown gx d os
          have k4 := fun d os => cell_regrown gy d os
          have k5 := fun d os => cell_regrown x2 d os
          have k6 := fun d os => cell_regrown y2 d os
          have k7 := fun d os => cell_regrown gu d os
          have k8 := fun d os => cell_regrown gv d os
          by_cases e : P = Q
          · have hne : (P != Q) = false := by simp [e]
            have HE := Lib.hid (HD.out.2 e)
            clear e
            go_wp2_with fail
            refine wp_region_quiet_below (by kernel_rfl) (by kernel_rfl) ?_
            repeat (first | go_big_quiet_skip | quiet_step (fail))
            refine wpQuiet_nil ?_
            intro _ hw'
            obtain ⟨⟨dq, osq⟩, hw''⟩ := hw'
            subst hw''
            have bq := HBI.out.trans ((below_regrown wr dq osq).mono HBI.out.size)
            generalize grow (redrawn wr dq) osq = w6 at bq ⊢
            clear k1 k2 k3 k4 k5 k6 k7 k8 gu gv gx gy x0 x1 x2 x3 y0 y1 y2 y3
            go_wp2
            go_roundw
            case rel => exact ⟨t + 1, by omega, by go_num, Lib.hid (heq.out.next HE.out), bq⟩
            case measure => simp [intOf]; omega
          · have hne : (P != Q) = true := by simp [e]
            have HE := Lib.hid (alike_no hsn htn (fun h => e (HD.out.1 h)))
            clear e
            go_wp2_with fail
            refine wp_region_quiet_below (by kernel_rfl) (by kernel_rfl) ?_
            repeat (first | go_big_quiet_skip | quiet_step (fail))
            refine wpQuiet_nil ?_
            intro _ hw'
            obtain ⟨⟨dq, osq⟩, hw''⟩ := hw'
            subst hw''
            have bq := HBI.out.trans ((below_regrown wr dq osq).mono HBI.out.size)
            generalize grow (redrawn wr dq) osq = w6 at bq ⊢
            have BQ := Lib.hid (HBw.out.trans (bq.mono HBw.out.size))
            clear k1 k2 k3 k4 k5 k6 k7 k8 gu gv gx gy x0 x1 x2 x3 y0 y1 y2 y3 bq
            go_wp2
            go_ret
            exact ⟨by rw [HE.out]; rfl, BQ.out⟩
        · obtain rfl : t = n := by omega
          have t1 : ¬ (t : Int) < (xss[s].length : Int) := by have := HLX.out; omega
          go_wp2
          go_roundw
          case rel => exact ⟨s + 1, by omega, by go_num, Lib.hid heq.out.row, HBI2.out⟩
          case measure => simp [intOf]; omega
    · obtain rfl : s = n := by omega
      have s1 : ¬ (s : Int) < (xss.length : Int) := by have := HXL.out; omega
      have HE := Lib.hid heq.out.all
      go_wp2
      go_ret
      exact ⟨by rw [HE.out]; rfl, HBw.out⟩
end Go.Proofs.Ytceobhmbnkheiaa
namespace Go.Proofs.Ytceobhmbnkheiaa
open Go.RowKit Go.Sort

set_option maxRecDepth 100000 in
set_option maxHeartbeats 8000000 in
theorem ImplAreMapsOf_any {u v : Value} {xss : List (List Int)} {ms : List (Int × List Int)} (n T U : Nat) (w : World) (ha : SlII w u xss) (hb : SlM w v ms) (hx : RowsB n T xss) (hok : chainOk n T xss = true) (hv : mapsOk n U ms) (hT : T ≤ 60) :
    Calls Try.prog 33 #[.agg #[.int .i64 n, .int .i64 T, u], .agg #[.int .i64 n, .int .i64 U, v]] w fun e w' => e = .returned (.tuple #[.bool (alike n T U xss (chainM n ms)), .int .i64 0]) ∧ Below w.heap.size w w' := by
  have HA := Lib.hid (fun W (h : Below w.heap.size w W) => ha.below h)
  have HB := Lib.hid (fun W (h : Below w.heap.size w W) => hb.below h)
  obtain ⟨a, ca, rfl, hca, hca2⟩ := ha.formJ
  obtain ⟨b, cb, rfl, hcb, hcb2⟩ := hb.form
  unfold maxLen at hca2 hcb2
  obtain ⟨⟨hn1, hn6⟩, ⟨hu1, hu60⟩, _⟩ := id hv
  have hn : n ≤ 6 := by omega
  have hU : U ≤ 60 := by omega
  obtain ⟨W1, hW1⟩ : ∃ W1, W1 = w.alloc (.cells #[.int .i64 n, .int .i64 T, .slice a xss.length ca] 52) := ⟨_, rfl⟩
  obtain ⟨W2, hW2⟩ : ∃ W2, W2 = W1.alloc (.cells #[.int .i64 n, .int .i64 U, .slice b ms.length cb] 26) := ⟨_, rfl⟩
  have z1 : W1.heap.size = w.heap.size + 1 := by rw [hW1]; simp
  have b1 : Below w.heap.size w W1 := by rw [hW1]; exact (Below.refl _ _).alloc (Nat.le_refl _) _
  have b2 : Below W1.heap.size W1 W2 := by rw [hW2]; exact (Below.refl _ _).alloc (Nat.le_refl _) _
  have X := Lib.hid (show MpAt W2 w.heap.size n T (.slice a xss.length ca) from (show MpAt W1 w.heap.size n T (.slice a xss.length ca) by rw [hW1]; exact MpAt.newC w n T _).below b2)
  have Y := Lib.hid (show MpAt W2 (w.heap.size + 1) n U (.slice b ms.length cb) by rw [hW2, ← z1]; exact MpAt.new W1 n U _)
  have BX := Lib.hid (b1.trans (b2.mono b1.size))
  have HW1 := Lib.hid hW1.symm
  have HW2 := Lib.hid hW2.symm
  have HRX := Lib.hid hx
  have HRY := Lib.hid (chain_rowsB hv)
  have HXL := Lib.hid hx.1
  have HYL := Lib.hid (chain_rowsB hv).1
  have HOK := Lib.hid hok
  have HV := Lib.hid hv
  have q1 : ((n : Int) != (n : Int)) = false := by simp
  obtain ⟨x0, x1, x2, x3⟩ := X.out
  obtain ⟨y0, y1, y2, y3⟩ := Y.out
  clear ha hb hx hok hv hW1 hW2 b1 b2 z1
  go_enter Try.func33, Try.ntmps33
  go_wp2_with fail
  rw [HW1.out, HW2.out]
  refine (ValidChain_any n T _ (HA.out _ BX.out)).mono ?_
  rintro e w3 ⟨he, b3⟩
  rw [HOK.out] at he
  subst he
  have B3 := Lib.hid (BX.out.trans (b3.mono BX.out.size))
  have X3 := Lib.hid (fun W (h : Below w3.heap.size w3 W) => (X.out.below b3).below h)
  have Y3 := Lib.hid (fun W (h : Below w3.heap.size w3 W) => (Y.out.below b3).below h)
  clear b3 x0 x1 x2 x3 y0 y1 y2 y3
  obtain ⟨y0, y1, y2, y3⟩ := Y3.out _ (Below.refl _ _)
  go_wp2_with fail
  refine (ValidMaps_ok _ (HB.out _ B3.out) HV.out).mono ?_
  rintro e w4 ⟨rfl, b4⟩
  have B4 := Lib.hid (B3.out.trans (b4.mono B3.out.size))
  have X4 := Lib.hid (fun W (h : Below w4.heap.size w4 W) => X3.out W (b4.trans (h.mono b4.size)))
  have Y4 := Lib.hid (fun W (h : Below w4.heap.size w4 W) => Y3.out W (b4.trans (h.mono b4.size)))
  clear b4 y0 y1 y2 y3
  obtain ⟨y0, y1, y2, y3⟩ := Y4.out _ (Below.refl _ _)
  obtain ⟨x0, x1, x2, x3⟩ := X4.out _ (Below.refl _ _)
  go_wp2_with fail
  refine (chain_any n U _ (HB.out _ B4.out) HV.out).mono ?_
  rintro e w5 ⟨r, rfl, o5, b5⟩
  have B5 := Lib.hid (B4.out.trans (b5.mono B4.out.size))
  have X5 := Lib.hid (fun W (h : Below w5.heap.size w5 W) => X4.out W (b5.trans (h.mono b5.size)))
  clear x0 x1 x2 x3 y0 y1 y2 y3
  obtain ⟨yss, hyss⟩ : ∃ yss, yss = chainM n ms := ⟨_, rfl⟩
  have s5 := o5.sl
  rw [← hyss] at s5 HRY HYL
  have HYS := Lib.hid hyss
  obtain ⟨d, cd, rfl, hcd, hcd2⟩ := s5.formJ
  unfold maxLen at hcd2
  obtain ⟨W6, hW6⟩ : ∃ W6, W6 = w5.alloc (.cells #[.int .i64 n, .int .i64 U, .slice d yss.length cd] 52) := ⟨_, rfl⟩
  have b6 : Below w5.heap.size w5 W6 := by rw [hW6]; exact (Below.refl _ _).alloc (Nat.le_refl _) _
  have B6 := Lib.hid (B5.out.trans (b6.mono B5.out.size))
  have HX := Lib.hid (fun W (h : Below W6.heap.size W6 W) => X5.out W (b6.trans (h.mono b6.size)))
  have HD := Lib.hid (fun W (h : Below W6.heap.size W6 W) => (show MpAt W6 w5.heap.size n U (.slice d yss.length cd) by rw [hW6]; exact MpAt.newC w5 n U _).below h)
  have HS := Lib.hid (fun W (h : Below W6.heap.size W6 W) => (s5.below b6).below h)
  have HW6 := Lib.hid hW6.symm
  have B0 := Lib.hid (Below.refl W6.heap.size W6)
  clear b5 b6 o5 s5 hyss hW6
  go_upto_region 6 with (fail)
  rw [HW6.out]
  obtain ⟨x0, x1, x2, x3⟩ := HX.out _ B0.out
  go_wp2
  clear x0 x1 x2 x3
  go_loopw [29] (fun sv wr => ∃ s : Nat, s ≤ n ∧ sv = .int .i64 s ∧ Hid (EqTo n T U xss yss s 0) ∧ Below W6.heap.size W6 wr) (fun sv _ => n - (intOf sv).toNat)
  case atStart => exact ⟨0, Nat.zero_le _, rfl, Lib.hid (EqTo.zero _ _ _ _ _), B0.out⟩
  case round =>
    clear B0
    obtain ⟨s, hs, rfl, heq, hbw⟩ := hrel
    have HBW := Lib.hid hbw
    have HBw := Lib.hid (B6.out.trans (hbw.mono B6.out.size))
    have s0 : (0 : Int) ≤ (s : Int) := by omega
    clear hbw
    by_cases hsn : s < n
    · have hsx : s < xss.length := by rw [HXL.out]; exact hsn
      have hsy : s < yss.length := by rw [HYL.out]; exact hsn
      have s1 : (s : Int) < (xss.length : Int) := by omega
      have s2 : (s : Int) < (yss.length : Int) := by omega
      obtain ⟨xb, xo, xr, rfl, gx, sx⟩ := (HA.out _ HBw.out).atJ hsx
      obtain ⟨yb, yo, yr, rfl, gy, sy⟩ := (HS.out _ HBW.out).atJ hsy
      obtain ⟨xa, xc, rfl, hxc, hxc2, _⟩ := id sx
      obtain ⟨ya, yc, rfl, hyc, hyc2, _⟩ := id sy
      have hlx := (HRX.out.2 _ (List.getElem_mem hsx)).1
      have hly := (HRY.out.2 _ (List.getElem_mem hsy)).1
      have HLX := Lib.hid hlx
      have HLY := Lib.hid hly
      have SX := Lib.hid (fun W (h : Below wr.heap.size wr W) => sx.below h)
      have SY := Lib.hid (fun W (h : Below wr.heap.size wr W) => sy.below h)
      have KY := Lib.hid (fun W (h : Below wr.heap.size wr W) => (h.cell (p := ⟨yb, yo + s, none⟩) (cell_lt gy)).trans gy)
      obtain ⟨wo, rfl⟩ : ∃ wo : World, wo = wr := ⟨_, rfl⟩
      clear hlx hly sx sy gy
      go_wp2
      clear gx
      go_loopw [36] (fun tv wi => ∃ t : Nat, t ≤ n ∧ tv = .int .i64 t ∧ Hid (EqTo n T U xss yss s t) ∧ Below wo.heap.size wo wi) (fun tv _ => n - (intOf tv).toNat)
      case atStart => exact ⟨0, Nat.zero_le _, rfl, heq, Below.refl _ _⟩
      case round =>
        clear heq
        obtain ⟨t, ht, rfl, heq, hbi⟩ := hrel
        have HBI := Lib.hid hbi
        have HBI2 := Lib.hid (HBW.out.trans (hbi.mono HBW.out.size))
        obtain ⟨x0, x1, x2, x3⟩ := HX.out _ HBI2.out
        obtain ⟨y0, y1, y2, y3⟩ := HD.out _ HBI2.out
        have gy := KY.out _ hbi
        have t0 : (0 : Int) ≤ (t : Int) := by omega
        clear hbi
        by_cases htn : t < n
        · obtain ⟨h1, h2, e1, a1, a2⟩ := HRX.out.at2 hsn htn
          obtain ⟨h3, h4, e2, c1, c2⟩ := HRY.out.at2 hsn htn
          have t1 : (t : Int) < (xss[s].length : Int) := by omega
          have t2 : (t : Int) < (yss[s].length : Int) := by omega
          obtain ⟨ub, uo, rfl, _, gu⟩ := (SX.out _ HBI.out).at_ h2
          obtain ⟨vb, vo, rfl, _, gv⟩ := (SY.out _ HBI.out).at_ h4
          have hd : EqAt T U xss yss s t ↔ xss[s][t] * (U : Int) = yss[s][t] * (T : Int) := by unfold EqAt; rw [e1, e2]
          clear e1 e2
          generalize xss[s][t] = p at *
          generalize yss[s][t] = r at *
          have HD := Lib.hid hd
          have m1 : p * (U : Int) ≤ 60 * 60 := Int.mul_le_mul (by omega) (by omega) (by omega) (by omega)
          have m2 : 0 ≤ p * (U : Int) := Int.mul_nonneg a1 (by omega)
          have m3 : r * (T : Int) ≤ 60 * 60 := Int.mul_le_mul (by omega) (by omega) (by omega) (by omega)
          have m4 : 0 ≤ r * (T : Int) := Int.mul_nonneg c1 (by omega)
          obtain ⟨P, hP⟩ : ∃ P, P = p * (U : Int) := ⟨_, rfl⟩
          obtain ⟨Q, hQ⟩ : ∃ Q, Q = r * (T : Int) := ⟨_, rfl⟩
          have r1 : IntKind.i64.wrap (p * (U : Int)) = P := by rw [hP]; exact IntWalk.i64_in _ (by omega)
          have r2 : IntKind.i64.wrap (r * (T : Int)) = Q := by rw [hQ]; exact IntWalk.i64_in _ (by omega)
          rw [← hP, ← hQ] at HD
          clear hd m1 m2 m3 m4 hP hQ
          have k1 := fun d os => cell_regrown y3 d os
          have k2 := fun d os => cell_regrown y2 d os
          have k3 := fun d os => cell_regrown gy d os
          have k4 := fun d os => cell_regrown x2 d os
          have k5 := fun d os => cell_regrown gv d os
          by_cases e : P = Q
          · have hne : (P != Q) = false := by simp [e]
            have HE := Lib.hid (HD.out.2 e)
            clear e
            go_wp2_with fail
            refine wp_region_quiet_below (by kernel_rfl) (by kernel_rfl) ?_
            repeat (first | go_big_quiet_skip | quiet_step (fail))
            refine wpQuiet_nil ?_
            intro _ hw'
            obtain ⟨⟨dq, osq⟩, hw''⟩ := hw'
            subst hw''
            have bq := HBI.out.trans ((below_regrown wr dq osq).mono HBI.out.size)
            generalize grow (redrawn wr dq) osq = w6 at bq ⊢
            clear k1 k2 k3 k4 k5 gu gv gy x0 x1 x2 x3 y0 y1 y2 y3
            go_wp2
            go_roundw
            case rel => exact ⟨t + 1, by omega, by go_num, Lib.hid (heq.out.next HE.out), bq⟩
            case measure => simp [intOf]; omega
          · have hne : (P != Q) = true := by simp [e]
            have HE := Lib.hid (show alike n T U xss (chainM n ms) = false from by rw [← HYS.out]; exact alike_no hsn htn (fun h => e (HD.out.1 h)))
            clear e
            go_wp2_with fail
            refine wp_region_quiet_below (by kernel_rfl) (by kernel_rfl) ?_
            repeat (first | go_big_quiet_skip | quiet_step (fail))
            refine wpQuiet_nil ?_
            intro _ hw'
            obtain ⟨⟨dq, osq⟩, hw''⟩ := hw'
            subst hw''
            have bq := HBI.out.trans ((below_regrown wr dq osq).mono HBI.out.size)
            generalize grow (redrawn wr dq) osq = w6 at bq ⊢
            have BQ := Lib.hid (HBw.out.trans (bq.mono HBw.out.size))
            clear k1 k2 k3 k4 k5 gu gv gy x0 x1 x2 x3 y0 y1 y2 y3 bq
            go_wp2
            go_ret2
            exact ⟨by rw [HE.out]; rfl, BQ.out⟩
        · obtain rfl : t = n := by omega
          have t1 : ¬ (t : Int) < (xss[s].length : Int) := by have := HLX.out; omega
          go_wp2
          go_roundw
          case rel => exact ⟨s + 1, by omega, by go_num, Lib.hid heq.out.row, HBI2.out⟩
          case measure => simp [intOf]; omega
    · obtain rfl : s = n := by omega
      have s1 : ¬ (s : Int) < (xss.length : Int) := by have := HXL.out; omega
      have HE := Lib.hid (show alike s T U xss (chainM s ms) = true from by rw [← HYS.out]; exact heq.out.all)
      go_wp2
      go_ret2
      exact ⟨by rw [HE.out]; rfl, HBw.out⟩
end Go.Proofs.Ytceobhmbnkheiaa
