/-
  FnExactCanRecolour: both answer the same, and leave what they are given as it was. With it: Steps between colourings: the reference's lists of places. CanRecolour: the reference's side.
-/
import Derived.Test.YtjbjkfahfjoigaaZRowCanRecolour22
import Derived.Test.YtjbjkfahfjoigaaZRowCanRecolour19
import Derived.Test.YtjbjkfahfjoigaaZRowCanRecolour18
import Derived.Test.YtjbjkfahfjoigaaZRowCanRecolour15
import Derived.Test.YtjbjkfahfjoigaaZRowCanRecolour4
import Derived.Deep.RegionWith
import Derived.Deep.DeepCutAuto
set_option linter.unusedVariables false
set_option linter.unusedSimpArgs false
namespace Go.Proofs.Ytjbjkfahfjoigaa
open Go.RowKit Go.Sort Go.Maps
theorem flatN_len {α : Type} {m : Nat} (f : Nat → List α) (h : ∀ i, (f i).length ≤ m) : ∀ k, ((List.range k).flatMap f).length ≤ k * m
  | 0 => by simp
  | k + 1 => by
    have h1 := flatN_len f h k
    have h2 := h k
    rw [flatN_succ, List.length_append, Nat.add_mul]
    omega
theorem own_fsX {α : Type} {F : Flat α} {w w' : World} {base : Nat} {v : Value} {xs : List α} {S : Nat → Prop} (h : F.Own w base v xs) (hf : Fs S w w') (hn : ∀ g, v.ownBlock = some g → ¬ S g) : F.Own w' base v xs := by
  refine ⟨h.1, ?_⟩
  rcases h.2 with h2 | ⟨g, c, cur, rfl, h2, h3, h4⟩
  · exact .inl h2
  · refine .inr ⟨g, c, cur, rfl, h2, ?_, h4⟩
    rw [hf.block g (Array.getElem?_eq_some_iff.1 h3).1 (hn g rfl)]; exact h3
/-- one number more on a list in block g; what stays is told -/
theorem append_two {ops : Array Oper} {rest : List Oper} {o : Oper} {a : Act} {Q : Exit → Act → World → Prop} (w : World) (y : Int) (s x : Operand) (hg : o.guard = none)
    (ho : o.op = .call { callee := .builtin .append, args := #[s, x], argTypes := #[42, 42] })
    {base g c : Nat} {xs : List Int} (hs : a.eval s = .slice (some ⟨g, 0, none⟩) xs.length c) (hown : OwnI w base (.slice (some ⟨g, 0, none⟩) xs.length c) xs) {t : Nat} (hx : a.eval x = .slice (some ⟨w.heap.size, 0, none⟩) 1 1)
    (hlen : xs.length < 16777216) (hbase : base ≤ w.heap.size)
    (h : ∀ g' c' w', OwnI w' base (.slice (some ⟨g', 0, none⟩) (xs ++ [y]).length c') (xs ++ [y]) → Fs (fun k => k = g) (w.alloc (.cells #[.int .i64 y] t)) w' → (g' = g ∨ w.heap.size < g') → wpList Try.prog ops Q rest (a.put o.dst (.slice (some ⟨g', 0, none⟩) (xs ++ [y]).length c')) w') : wpList Try.prog ops Q (o :: rest) a (w.alloc (.cells #[.int .i64 y] t)) := by
  obtain ⟨i0, hi, hz0, hz1, hz2⟩ := info_parts info2
  have hzA : (w.alloc (.cells #[.int .i64 y] t)).heap.size = w.heap.size + 1 := by simp
  have hownA := hown.below ((Below.refl _ _).alloc (Nat.le_refl _) (.cells #[.int .i64 y] t))
  have hgb := hown.lt g rfl
  refine wpList_append_arg _ hg s x 42 ho 2 i0 (.int .i64 0) 1 8 Try.underlying42 hi hz0 hz1 hz2 rfl (by decide) g 0 xs.length c (i64s xs) hs (by simp [i64s]) ?_ ⟨w.heap.size, 0, none⟩ 1 1 [.int .i64 y] hx rfl (cell_one_new _ _ _) (by intro u hu; simp at hu; subst hu; rfl) ?_ ?_ ?_ ?_ ?_
  · intro j u hj
    have hj2 : j < xs.length := by have := (List.getElem?_eq_some_iff.1 hj).1; simpa [i64s] using this
    rw [i64s_get hj2] at hj
    rw [Nat.zero_add, ← hj]
    exact OwnI.cell hownA hj2
  · intro hr j hj
    have hj0 : j = 0 := by simpa using hj
    subst hj0
    rw [Nat.mul_one, Nat.add_zero, Nat.zero_add]
    exact ⟨hownA.capCell (by omega), hownA.free _⟩
  · obtain ⟨_, _, he, _, hc, _⟩ := hown.sl
    simp only [Value.slice.injEq] at he
    obtain ⟨_, _, rfl⟩ := he
    simp [maxLen]; omega
  · omega
  · intro hr
    rw [Nat.mul_one, Nat.zero_add]
    have h1 := hownA.grow1 (by omega) y
    have e : (xs ++ [y]).length = xs.length + 1 := by simp
    rw [← e] at h1
    rw [← e]
    exact h g c _ h1 (Fs.set (S := fun k => k = g) (Fs.refl _ _) (a := ⟨g, xs.length, none⟩) rfl (.int .i64 y)) (.inl rfl)
  · intro _ v' w' h1 h2
    have e : (xs ++ [y]).length = xs.length + 1 := by simp
    have ho1 : OwnI w' (w.alloc (.cells #[.int .i64 y] t)).heap.size v' (xs ++ [y]) := by
      unfold OwnI
      rw [e]
      have : i64s (xs ++ [y]) = i64s xs ++ [.int .i64 y] := by simp [i64s]
      rw [this]; exact h1
    rcases ho1.forms with ⟨_, h4⟩ | ⟨g', c', rfl, h4, _⟩
    · simp at h4
    · exact h g' c' w' (ho1.lower (by omega)) (Fs.of_grown h2 (fun g hg => by cases hg)) (.inr (by omega))
def toL (TT : Nat → List Nat) (i : Nat) : List (List Nat) := (List.range i).map TT
theorem toL_succ (TT : Nat → List Nat) (i : Nat) : toL TT (i + 1) = toL TT i ++ [TT i] := by unfold toL; rw [List.range_succ, List.map_append]; rfl
theorem toL_len (TT : Nat → List Nat) (i : Nat) : (toL TT i).length = i := by unfold toL; rw [List.length_map, List.length_range]
def flL (f : Nat → List Nat) (i : Nat) : List Nat := (List.range i).flatMap f
theorem flL_succ (f : Nat → List Nat) (i : Nat) : flL f (i + 1) = flL f i ++ f i := flatN_succ f i
def rowL (P t : List Nat) (j : Nat) : List Nat := P ++ t.take j
theorem rowL_zero (P t : List Nat) : rowL P t 0 = P := by unfold rowL; rw [List.take_zero, List.append_nil]
theorem rowL_len (P t : List Nat) (j : Nat) : (rowL P t j).length ≤ P.length + j := by unfold rowL; rw [List.length_append, List.length_take]; omega

set_option maxHeartbeats 1000000 in
theorem l08At_any {v u : Value} {D : List (List Int)} {x : List Int} (w : World) (ha : SlII w v D) (hu : SlI w u x) (hD : D.length ≤ 100000) :
    Calls Try.prog 60 #[v, u] w fun e w' => e = .returned (.int .i64 (findFrom D x 0)) ∧ Below w.heap.size w w' := by
  have HA := Lib.hid (fun W (h : Below w.heap.size w W) => ha.below h)
  have HU := Lib.hid (fun W (h : Below w.heap.size w W) => hu.below h)
  obtain ⟨a, ca, us, rfl, _⟩ := ha
  obtain ⟨xa, xc, rfl, _⟩ := hu
  go_enter Try.func60, Try.ntmps60
  go_wp2
  go_loopw [5] (fun i wr => ∃ k : Nat, k ≤ D.length ∧ i = .int .i64 k ∧ Hid (findFrom D x 0 = findFrom (D.drop k) x k) ∧ Below w.heap.size w wr) (fun i _ => D.length - (intOf i).toNat)
  case atStart => exact ⟨0, Nat.zero_le _, rfl, rfl, Below.refl _ _⟩
  case round =>
    obtain ⟨k, hk, rfl, hfr, hbr⟩ := hrel
    by_cases hlt : k < D.length
    · obtain ⟨b, off, ra, rc, rfl, hb, gc, sc⟩ := (HA.out wr hbr).nthJ hlt
      have HS := Lib.hid (findFrom_step (x := x) hlt)
      have i1 : (k : Int) < (D.length : Int) := by omega
      have i0 : (0 : Int) ≤ (k : Int) := by omega
      have KS := Lib.hid (l00Same_any wr sc (HU.out wr hbr))
      generalize hdd : decide (D[k] = x) = d at KS
      have HDD := Lib.hid hdd
      generalize D[k].length = dl at gc KS
      have HBR := Lib.hid hbr
      clear hdd sc hbr
      go_wp2_with fail
      refine KS.out.mono ?_
      rintro e w2 ⟨rfl, b2⟩
      have B2 := Lib.hid (HBR.out.trans (b2.mono HBR.out.size))
      clear b2
      cases d
      · go_wp2
        go_roundw
        case rel => exact ⟨k + 1, by omega, by go_num, by unfold Hid at *; rw [hfr, HS, if_neg (of_decide_eq_false HDD)], B2.out⟩
        case measure => simp [intOf]; omega
      · go_wp2
        go_ret
        exact ⟨ri (by rw [hfr.out, HS.out, if_pos (of_decide_eq_true HDD.out)]), B2.out⟩
    · obtain rfl : k = D.length := by omega
      go_wp2
      go_ret
      exact ⟨ri (by rw [hfr.out]; simp [findFrom]), hbr⟩

set_option maxRecDepth 100000 in
set_option maxHeartbeats 8000000 in
theorem l08Steps_any {v u : Value} {es D : List (List Int)} (b o m q : Nat) (w : World) (hc : GraphAt w b o m v) (ha : SlII w v es) (hd : SlII w u D) (hE : EdgesB m es) (hm : m ≤ 5) (hq : q ≤ 4)
    (hDl : D.length ≤ 1000) (hmem : ∀ x ∈ D, x.length = m) (hset : ∀ x ∈ D, ∀ node, node < m → ∀ c ∈ freeL es x node q, x.set node c ∈ D) :
    Calls Try.prog 30 #[.pointer (some ⟨b, o, none⟩), .int .i64 q, u] w fun e w' => ∃ r wv, e = .returned (.tuple #[r, wv]) ∧ GIn.Own w' w.heap.size r ((List.range D.length).map (tosC D es q m)) ∧ (∃ wa wn wc, wv = .slice wa wn wc) ∧ Below w.heap.size w w' := by
  have HC := Lib.hid (fun W (h : Below w.heap.size w W) => hc.below h)
  have HDD := Lib.hid (fun W (h : Below w.heap.size w W) => hd.below h)
  have HFR := Lib.hid (fun (z : Value) (x : List Int) (node : Nat) W (h : Below w.heap.size w W) (hz : SlI W z x) (hx : x.length = m) => l08Free_any b o m (node : Int) q W (hc.below h) (ha.below h) hz hE hx (by omega) (by omega))
  have HMEM := Lib.hid hmem
  have HSET := Lib.hid hset
  obtain ⟨da, dc, dus, rfl, _⟩ := hd
  have E1 := Lib.hid ((FRow.Own.empty (G := GIn) w (base := w.heap.size) (Nat.le_refl _)).below ((Below.refl _ _).alloc (Nat.le_refl _) (.cells #[] 42)))
  have e2 := FRow.Own.empty (G := GII) (w.alloc (.cells #[] 55)) (base := w.heap.size) (by simp)
  rw [show (w.alloc (.cells #[] 55)).heap.size = w.heap.size + 1 from by simp] at e2
  have E2 := Lib.hid e2
  clear e2
  have B0 := Lib.hid (((Below.refl w.heap.size w).alloc (Nat.le_refl _) (.cells #[] 55)).alloc (by simp) (.cells #[] 42))
  obtain ⟨TT, hTT⟩ : ∃ TT, TT = tosC D es q m := ⟨_, rfl⟩
  have HTT := Lib.hid hTT
  rw [← hTT]
  clear hc ha hE hmem hset hTT
  go_enter Try.func30, Try.ntmps30
  go_wp2
  go_loopw [8, 9, 10] (fun tv wv iv wr => ∃ (i : Nat) (WS : List (List Int)), i ≤ D.length ∧ iv = .int .i64 i ∧ GIn.Own wr w.heap.size tv (toL TT i) ∧ GII.Own wr w.heap.size wv WS ∧ WS.length ≤ i ∧ Below w.heap.size w wr) (fun _ _ iv _ => D.length - (intOf iv).toNat)
  case atStart => exact ⟨0, [], Nat.zero_le _, rfl, E1.out, E2.out, Nat.le_refl _, B0.out⟩
  case round =>
    clear E1 E2 B0
    obtain ⟨wo, hwo⟩ : ∃ wo : World, wo = wr := ⟨_, rfl⟩
    subst hwo
    obtain ⟨i, WS, hi, rfl, hto, hws, hwl, hbw⟩ := hrel
    have HBW := Lib.hid hbw
    have HMLL := Lib.hid (toL_len TT i)
    have HTO := Lib.hid hto
    have HWS := Lib.hid hws
    obtain ⟨ta, tc, rfl, _⟩ := hto.sl.form
    obtain ⟨wa, wc, rfl, _⟩ := hws.sl.form
    clear hto hws
    by_cases hiD : i < D.length
    · have i1 : (i : Int) < (D.length : Int) := by omega
      have i0 : (0 : Int) ≤ (i : Int) := by omega
      obtain ⟨db, dof, xa, xc, hae, hdb, gd0, sd⟩ := (HDD.out w (Below.refl _ _)).nthJ hiD
      subst hae
      obtain ⟨x, hx⟩ : ∃ x, x = D[i] := ⟨_, rfl⟩
      have hxm : x ∈ D := by rw [hx]; exact List.getElem_mem hiD
      have hxl := HMEM.out x hxm
      rw [← hx] at gd0 sd
      rw [hxl] at gd0 sd
      have HXM := Lib.hid hxm
      have HXL := Lib.hid hxl
      have HX := Lib.hid (fun V (h : Below w.heap.size w V) => And.intro (sd.below h) (show V.cell? ⟨db, dof + i, none⟩ = some (.slice xa m xc) from by rw [h.cell (p := ⟨db, dof + i, none⟩) hdb]; exact gd0))
      have HTT2 := Lib.hid (show TT i = (List.range m).flatMap (tgtC D es q x) from by rw [HTT.out, tosC_at hiD, ← hx])
      have HMS := Lib.hid (show toL TT (i + 1) = toL TT i ++ [TT i] from toL_succ TT i)
      have HFL := Lib.hid (fun node => show (tgtC D es q x node).length ≤ 4 from by unfold tgtC; rw [List.length_map]; exact Nat.le_trans (freeL_length es x node q) hq)
      have E3 := Lib.hid ((Flat.Own.empty (F := FIn) wo (base := wo.heap.size) (Nat.le_refl _)).below ((Below.refl _ _).alloc (Nat.le_refl _) (.cells #[] 2)))
      have e4 := OwnI.empty (wo.alloc (.cells #[] 3)) (base := wo.heap.size) (by simp)
      rw [show (wo.alloc (.cells #[] 3)).heap.size = wo.heap.size + 1 from by simp] at e4
      have E4 := Lib.hid e4
      have B3 := Lib.hid (((Below.refl wo.heap.size wo).alloc (Nat.le_refl _) (.cells #[] 3)).alloc (by simp) (.cells #[] 2))
      have hz0 := hbw.size
      clear hx hxm hxl gd0 sd e4 hbw
      go_wp2
      go_loopw [11, 12, 13] (fun rv lv nv wi => ∃ (nd : Nat) (ws : List Int) (g c : Nat), nd ≤ m ∧ nv = .int .i64 nd ∧ FIn.Own wi wo.heap.size rv (flL (tgtC D es q x) nd) ∧ lv = .slice (some ⟨g, 0, none⟩) ws.length c ∧ OwnI wi wo.heap.size (.slice (some ⟨g, 0, none⟩) ws.length c) ws ∧ ws.length ≤ nd * 4 ∧ Below wo.heap.size wo wi) (fun _ _ nv _ => m - (intOf nv).toNat)
      case atStart => exact ⟨0, [], _, 0, Nat.zero_le _, rfl, E3.out, rfl, E4.out, Nat.le_refl _, B3.out⟩
      case round =>
        clear E3 E4 B3
        obtain ⟨wi, hwi⟩ : ∃ wi : World, wi = wr := ⟨_, rfl⟩
        subst hwi
        obtain ⟨nd, ws, g, c, hnd, rfl, hrow, rfl, hls, hwsl, hbi⟩ := hrel
        have HBI := Lib.hid hbi
        have HBWi := Lib.hid (HBW.out.trans (hbi.mono HBW.out.size))
        obtain ⟨ra, rn, rc, rfl, hrn⟩ := FIn_form hrow
        have hrn' := hrn.out
        subst hrn'
        have hpl : (flL (tgtC D es q x) nd).length ≤ nd * 4 := flatN_len (tgtC D es q x) HFL.out nd
        have HROW := Lib.hid hrow
        have HLS := Lib.hid hls
        obtain ⟨_, c0, c1⟩ := HC.out wi HBWi.out
        by_cases hndm : nd < m
        · have j1 : (nd : Int) < (m : Int) := by omega
          have j0 : (0 : Int) ≤ (nd : Int) := by omega
          have HS1 := Lib.hid (flL_succ (tgtC D es q x) nd)
          generalize flL (tgtC D es q x) nd = P at HROW hpl HS1 ⊢
          have gd := (HX.out wi HBWi.out).2
          have KF := Lib.hid (HFR.out (.slice xa m xc) x nd wi HBWi.out (HX.out wi HBWi.out).1 HXL.out)
          clear hrow hls hbi hrn
          go_wp2_with fail
          refine KF.out.mono ?_
          rintro e wf ⟨fv, rfl, of, bf⟩
          obtain ⟨fa, fn, fc, rfl, hfn⟩ := of.form
          have hfn' := hfn.out
          subst hfn'
          have hXL := freeL_length es x nd q
          obtain ⟨FX, hFX⟩ : ∃ FX, FX = freeL es x nd q := ⟨_, rfl⟩
          have HFX := Lib.hid hFX
          rw [← hFX] at of hXL ⊢
          have OF := Lib.hid of
          have HNE := Lib.hid (fun gf (h : (Value.slice fa FX.length fc).ownBlock = some gf) => show gf ≠ g from by
            have h1 := (of.lt gf h).1
            have h2 := (HLS.out.lt g rfl).2
            omega)
          have BFo := Lib.hid (HBI.out.trans (bf.mono HBI.out.size))
          have ROWf := Lib.hid (show FIn.Own wf wo.heap.size (.slice ra P.length rc) (rowL P (tgtC D es q x nd) 0) from by
            rw [rowL_zero]; exact HROW.out.below bf)
          have LSf := Lib.hid (HLS.out.below bf)
          have hzi : wi.heap.size ≤ wf.heap.size := bf.size
          clear of bf hfn hFX KF c0 c1 gd
          go_wp2
          go_loopw [11, 12, 15] (fun rv lv kv wj => ∃ (j : Nat) (ws : List Int) (g c : Nat), j ≤ FX.length ∧ kv = .int .i64 j ∧ FIn.Own wj wo.heap.size rv (rowL P (tgtC D es q x nd) j) ∧ lv = .slice (some ⟨g, 0, none⟩) ws.length c ∧ OwnI wj wo.heap.size (.slice (some ⟨g, 0, none⟩) ws.length c) ws ∧ ws.length ≤ nd * 4 + j ∧ OwnI wj wi.heap.size (.slice fa FX.length fc) FX ∧ Hid (∀ gf, (Value.slice fa FX.length fc).ownBlock = some gf → gf ≠ g) ∧ Below wo.heap.size wo wj ∧ wi.heap.size ≤ wj.heap.size) (fun _ _ kv _ => FX.length - (intOf kv).toNat)
          case atStart => exact ⟨0, ws, g, c, Nat.zero_le _, rfl, ROWf.out, rfl, LSf.out, by omega, OF.out, HNE, BFo.out, hzi⟩
          case round =>
            clear ROWf LSf OF HNE BFo hzi HROW HLS hwsl
            obtain ⟨wj, hwj⟩ : ∃ wj : World, wj = wr := ⟨_, rfl⟩
            subst hwj
            obtain ⟨j, ws, g, c, hj, rfl, hrow, rfl, hls, hwsl, hof, hne, hbj, hzj⟩ := hrel
            have HBJ := Lib.hid hbj
            have HBWj := Lib.hid (HBW.out.trans (hbj.mono HBW.out.size))
            obtain ⟨ra2, rn2, rc2, rfl, hrn⟩ := FIn_form hrow
            have hrn' := hrn.out
            subst hrn'
            have HROW := Lib.hid hrow
            have HLS := Lib.hid hls
            have HOF := Lib.hid hof
            by_cases hjX : j < FX.length
            · obtain ⟨cb, co, hce, _, gc⟩ := hof.sl.at_ hjX
              have hq : fa = some ⟨cb, co, none⟩ := hce
              subst hq
              have hcm : FX[j] ∈ freeL es x nd q := by rw [← HFX.out]; exact List.getElem_mem hjX
              have hsm := HSET.out x HXM.out nd hndm _ hcm
              have HTK := Lib.hid (show (tgtC D es q x nd).take (j + 1) = (tgtC D es q x nd).take j ++ [idxC D (x.set nd FX[j])] from by
                have h := tgtC_take (D := D) (es := es) (q := q) (node := nd) (j := j) (x := x) (by rw [← HFX.out]; exact hjX)
                simp only [← HFX.out] at h
                exact h)
              obtain ⟨cv, hcv⟩ : ∃ cv, cv = FX[j] := ⟨_, rfl⟩
              rw [← hcv] at gc hsm HTK
              obtain ⟨hk, hk2, hff⟩ := idxC_at hsm
              obtain ⟨k, hkk⟩ : ∃ k, k = idxC D (x.set nd cv) := ⟨_, rfl⟩
              rw [← hkk] at HTK hff
              have HFF := Lib.hid hff
              have j2 : (j : Int) < (FX.length : Int) := by omega
              have j3 : (0 : Int) ≤ (j : Int) := by omega
              have gd := (HX.out wj HBWj.out).2
              have KO := Lib.hid (l00Own_any wj (HX.out wj HBWj.out).1 (by rw [HXL.out]; omega))
              have hrl : (rowL P (tgtC D es q x nd) j).length ≤ 1000 := by
                have := rowL_len P (tgtC D es q x nd) j
                omega
              have HRL := Lib.hid hrl
              have HGB := Lib.hid (show wo.heap.size ≤ g from (hls.lt g rfl).1)
              have HGL := Lib.hid (show g < wj.heap.size from (hls.lt g rfl).2)
              have HDG := Lib.hid (show ∀ gr, (Value.slice ra2 (rowL P (tgtC D es q x nd) j).length rc2).ownBlock = some gr → gr ≠ g from fun gr h e => by
                subst e
                have h1 : FI.Own wj wo.heap.size (.slice (some ⟨gr, 0, none⟩) ws.length c) ws := by rw [FI_own]; exact hls
                exact flat_apart (G := FIn) (F := FI) (by decide) h1 hrow rfl h)
              clear hrow hls hof hbj hcm hk2 hk hkk hcv hce hff hsm hrn hrl
              go_wp2_with fail
              refine KO.out.mono ?_
              rintro e w5 ⟨yv, rfl, oy, b5⟩
              have hym : x.length = m := HXL.out
              rcases oy.forms with ⟨_, hnil⟩ | ⟨yg, yc, rfl, hyb, hys, _⟩
              · rw [hnil] at hym; simp at hym; omega
              · rw [hym] at oy ⊢
                have of5 := HOF.out.below b5
                obtain ⟨cb2, co2, hce2, _, gc5⟩ := of5.sl.at_ hjX
                have hq2 : cb = cb2 ∧ co = co2 := by simpa using hce2
                obtain ⟨rfl, rfl⟩ := hq2
                have gcv : w5.cell? ⟨cb, co + j, none⟩ = some (.int .i64 cv) := by rw [b5.cell (p := ⟨cb, co + j, none⟩) (cell_lt gc)]; exact gc
                obtain ⟨z0, gy⟩ : ∃ z, w5.cell? ⟨yg, nd, none⟩ = some (.int .i64 z) := ⟨_, OwnI.cell oy (i := nd) (by rw [hym]; exact hndm)⟩
                have fy := oy.free nd
                have hly := cell_lt gy
                have OY := Lib.hid (oy.set nd cv)
                have B6 := Lib.hid (b5.setCell (p := ⟨yg, nd, none⟩) hyb (.int .i64 cv))
                have KA := Lib.hid (l08At_any (w5.setCell ⟨yg, nd, none⟩ (.int .i64 cv)) (HDD.out _ (HBWj.out.trans (B6.out.mono HBWj.out.size))) OY.out.sl (by omega))
                rw [HFF.out] at KA
                clear gc5 hce2 of5 b5 gc oy hym KO
                go_wp2_with fail
                refine KA.out.mono ?_
                rintro e w7 ⟨rfl, b7⟩
                have B67 := Lib.hid (B6.out.trans (b7.mono B6.out.size))
                have hrow7 := HROW.out.below B67.out
                have LS7 := Lib.hid (HLS.out.below B67.out)
                have OF7 := Lib.hid (HOF.out.below B67.out)
                have hz7 : wo.heap.size ≤ w7.heap.size := Nat.le_trans HBJ.out.size B67.out.size
                have hz70 := hz7
                have hll : (rowL P (tgtC D es q x nd) j).length < 16777216 := by have := HRL.out; omega
                have bx : Below w7.heap.size w7 (w7.alloc (.cells #[.int .i64 k] 3)) := (Below.refl _ _).alloc (Nat.le_refl _) _
                have ROWA := Lib.hid (hrow7.below bx)
                have LSA := Lib.hid (LS7.out.below bx)
                have OFA := Lib.hid (OF7.out.below bx)
                clear b7 gcv gy fy hly bx KA
                go_wp2_with (at_builtin; refine append_int w7 k _ _ rfl rfl rfl hrow7 rfl rfl hll hz7 ?_)
                intro v9 w9 o9 b9 g9
                have LS9 := Lib.hid (OwnI.keptInt LSA.out ROWA.out g9)
                have OF9 := Lib.hid (OwnI.keptInt OFA.out ROWA.out g9)
                have hz79 : w7.heap.size < w9.heap.size := by have := g9.size; simp at this; omega
                have B9 := Lib.hid ((HBJ.out.trans (B67.out.mono HBJ.out.size)).trans (((Below.refl _ _).alloc hz70 _).trans b9))
                obtain ⟨r9, n9, c9, rfl, hn9⟩ := FIn_form o9
                have hn9' := hn9.out
                subst hn9'
                have ls9 := LS9.out
                have hz9 : wo.heap.size ≤ w9.heap.size := by omega
                have hl2 : ws.length < 16777216 := by omega
                have hdz : ¬ ((FX.length : Int) = 0) := by omega
                have O9 := Lib.hid o9
                clear g9 b9 hrow7 hn9 o9
                go_wp2_with (at_builtin; refine append_two w9 _ _ _ rfl rfl rfl ls9 rfl hl2 hz9 ?_)
                intro g' c' wA oA fA hg'
                obtain ⟨w2, hw2⟩ : ∃ w2, w2 = ws ++ [12 / (FX.length : Int)] := ⟨_, rfl⟩
                have hw2l : w2.length = ws.length + 1 := by rw [hw2]; simp
                rw [← hw2, ← hw2l] at oA
                rw [← hw2l]
                have bz : Below w9.heap.size w9 (w9.alloc (.cells #[.int .i64 (12 / (FX.length : Int))] 2)) := (Below.refl _ _).alloc (Nat.le_refl _) _
                have rowA := own_fsX (O9.out.below bz) fA (fun gr hr e => by
                  subst e
                  have h1 : FI.Own w9 wo.heap.size (.slice (some ⟨gr, 0, none⟩) ws.length c) ws := by rw [FI_own]; exact LS9.out
                  exact flat_apart (G := FIn) (F := FI) (by decide) h1 O9.out rfl hr)
                have ofA : FI.Own wA wi.heap.size (.slice (some ⟨cb, co, none⟩) FX.length fc) FX := by
                  have h1 : FI.Own w9 wi.heap.size (.slice (some ⟨cb, co, none⟩) FX.length fc) FX := by rw [FI_own]; exact OF9.out
                  exact own_fsX (h1.below bz) fA (fun gf hf e => hne.out gf hf e)
                rw [FI_own] at ofA
                have HNA := Lib.hid (fun gf (h : (Value.slice (some ⟨cb, co, none⟩) FX.length fc).ownBlock = some gf) => show gf ≠ g' from by
                  have h1 := hne.out gf h
                  have h2 := (OF9.out.lt gf h).2
                  rcases hg' with e | e
                  · rw [e]; exact h1
                  · omega)
                have BAA := Lib.hid ((B9.out.trans (bz.mono hz9)).trans (fA.below (by simp; omega) (fun k hk => by subst hk; exact HGB.out)))
                have hzA : wi.heap.size ≤ wA.heap.size := by have := fA.size; simp at this; have := B67.out.size; omega
                have hre : rowL P (tgtC D es q x nd) (j + 1) = rowL P (tgtC D es q x nd) j ++ [k] := by unfold rowL; rw [HTK.out, List.append_assoc]
                have hrl1 : (rowL P (tgtC D es q x nd) j ++ [k]).length = (rowL P (tgtC D es q x nd) j).length + 1 := by simp
                rw [hrl1, ← hre] at rowA
                have RA := Lib.hid rowA
                have OA := Lib.hid oA
                have OFF := Lib.hid ofA
                clear rowA ofA oA fA bz ls9 hg' hw2 hre hrl1
                go_wp2
                go_roundw
                case rel => exact ⟨j + 1, w2, g', c', by omega, by go_num, RA.out, rfl, OA.out, by omega, OFF.out, HNA, BAA.out, hzA⟩
                case measure => simp [intOf]; omega
            · obtain rfl : j = FX.length := by omega
              have HL3 := Lib.hid (show rowL P (tgtC D es q x nd) FX.length = flL (tgtC D es q x) (nd + 1) from by
                unfold rowL
                rw [HFX.out, tgtC_all, HS1.out])
              have hrow3 : FIn.Own wj wo.heap.size (.slice ra2 (rowL P (tgtC D es q x nd) FX.length).length rc2) (flL (tgtC D es q x) (nd + 1)) := by rw [← HL3.out]; exact HROW.out
              have HR3 := Lib.hid hrow3
              have hw4 : ws.length ≤ (nd + 1) * 4 := by omega
              clear hrow hls hof hbj hrn hrow3
              go_wp2
              go_roundw
              case rel => exact ⟨nd + 1, ws, g, c, by omega, by go_num, HR3.out, rfl, HLS.out, hw4, HBJ.out⟩
              case measure => simp [intOf]; omega
        · obtain rfl : nd = m := by omega
          have hrowT : FIn.Own wi w.heap.size (.slice ra (flL (tgtC D es q x) nd).length rc) (TT i) := by
            rw [HTT2.out]; exact HROW.out.lower HBW.out.size
          have hto1 := HTO.out.below hbi
          have HT1 := Lib.hid hto1
          have HW1 := Lib.hid (HWS.out.below hbi)
          have hln : (toL TT i).length < 16777216 := by have := HMLL.out; omega
          have hz := HBWi.out.size
          generalize (flL (tgtC D es q x) nd).length = rl at hrowT ⊢
          have BA := Lib.hid ((Below.refl wi.heap.size wi).alloc (Nat.le_refl _) (.cells #[.slice ra rl rc] 55))
          clear hrow hls hbi hrn HROW
          go_wp2_with (at_builtin; refine FRow.append GIn wi _ _ rfl rfl rfl hto1 hrowT rfl rfl hln hz ?_)
          intro v7 w7 o7 b7 f7
          rw [← HMS.out] at o7
          have WS7 := Lib.hid ((HW1.out.below BA.out).fsT f7 (fun g hg => (HT1.out.below BA.out).typed hg) (by decide) (by decide))
          have ls7 : FI.Own w7 wo.heap.size (.slice (some ⟨g, 0, none⟩) ws.length c) ws := by
            have h1 : FI.Own wi wo.heap.size (.slice (some ⟨g, 0, none⟩) ws.length c) ws := by rw [FI_own]; exact HLS.out
            exact (h1.below BA.out).fsT f7 (fun g hg => (HT1.out.below BA.out).typed hg) (by decide)
          have B7 := Lib.hid ((HBWi.out.alloc HBWi.out.size (.cells #[.slice ra rl rc] 55)).trans b7)
          obtain ⟨t7, c7, rfl, _⟩ := o7.sl.form
          have O7 := Lib.hid o7
          have ws7 := WS7.out
          have ls7b := ls7.lower (base' := w.heap.size) HBW.out.size
          have hz7 := B7.out.size
          have hl7 : WS.length < 16777216 := by omega
          have BC := Lib.hid ((Below.refl w7.heap.size w7).alloc (Nat.le_refl _) (.cells #[.slice (some ⟨g, 0, none⟩) ws.length c] 42))
          clear b7 f7 o7 ls7 hto1 hrowT
          go_wp2_with (at_builtin; refine FRow.append GII w7 _ _ rfl rfl rfl ws7 ls7b rfl rfl hl7 hz7 ?_)
          intro v8 w8 o8 b8 f8
          have TO8 := Lib.hid ((O7.out.below BC.out).fsT f8 (fun g hg => (WS7.out.below BC.out).typed hg) (by decide) (by decide))
          have B8 := Lib.hid ((B7.out.alloc B7.out.size (.cells #[.slice (some ⟨g, 0, none⟩) ws.length c] 42)).trans b8)
          have hw8 : (WS ++ [ws]).length ≤ i + 1 := by simp; omega
          have O8 := Lib.hid o8
          clear b8 f8 o8 ws7 ls7b
          go_wp2
          go_roundw
          case rel => exact ⟨i + 1, WS ++ [ws], by omega, by go_num, TO8.out, O8.out, hw8, B8.out⟩
          case measure => simp [intOf]; omega
    · obtain rfl : i = D.length := by omega
      go_wp2
      refine bodyPost_ret (v := .tuple #[.slice ta (toL TT D.length).length tc, .slice wa WS.length wc]) (by simp [results, Try.results30, go_sem]) rfl ?_
      exact ⟨_, _, rfl, HTO.out, ⟨_, _, _, rfl⟩, HBW.out⟩
end Go.Proofs.Ytjbjkfahfjoigaa
namespace Go.Proofs.Ytjbjkfahfjoigaa
open Go.RowKit Go.Sort Go.Maps
theorem visit_get {L : List Nat} {p k : Nat} (h : p < L.length) : (visit L k)[p]? = L[p]? := by
  unfold visit
  split
  · rfl
  · rw [List.getElem?_append_left h]
theorem visAll_get : ∀ {ts L : List Nat} {p : Nat}, p < L.length → (visAll L ts)[p]? = L[p]?
  | [], _, _, _ => rfl
  | k :: ts, L, p, h => by
    have h1 := visAll_len L [k]
    have h2 : p < (visit L k).length := Nat.lt_of_lt_of_le h h1
    show (visAll (visit L k) ts)[p]? = L[p]?
    rw [visAll_get h2, visit_get h]

set_option maxRecDepth 100000 in
set_option maxHeartbeats 8000000 in
theorem SpecCanRecolour_any {v : Value} {es : List (List Int)} (n q : Int) (w : World) (ha : SlII w v es) :
    Calls Try.prog 11 #[.agg #[.int .i64 n, v], .int .i64 q] w fun e w' => e = .returned (tupBI (canR n es q)) ∧ Below w.heap.size w w' := by
  have HA := Lib.hid (fun W (h : Below w.heap.size w W) => ha.below h)
  obtain ⟨a, ca, us, rfl, _⟩ := ha
  have b1 : Below w.heap.size w (w.alloc (.cells #[.int .i64 n, .slice a es.length ca] 35)) := (Below.refl _ _).alloc (Nat.le_refl _) _
  have X := Lib.hid (graphAt_new w n (.slice a es.length ca))
  have hR : canR n es q = if askedC n es q true = 0 then (if 260 < (listC q.toNat n.toNat es).length then (false, 3) else if (listC q.toNat n.toNat es).length = 0 then (true, 0) else (decide ((runL (tosC (listC q.toNat n.toNat es) es q.toNat n.toNat) (listC q.toNat n.toNat es).length 0 [0]).length = (listC q.toNat n.toNat es).length), 0)) else (false, askedC n es q true) := rfl
  have hok := fun h => askedC_ok (n := n) (q := q) (es := es) (r := true) h
  generalize hcd : askedC n es q true = cd at hR hok
  have HCD := Lib.hid hcd
  have HRR := Lib.hid hR
  have HOK := Lib.hid hok
  clear hR hcd hok
  by_cases hz : cd = 0
  · obtain ⟨hg, hq1, hq4, _⟩ := HOK.out hz
    obtain ⟨m, rfl, hm1, hm5, hE, hes⟩ := graphOk_all hg
    obtain ⟨qn, rfl⟩ := Int.eq_ofNat_of_zero_le (show 0 ≤ q by omega)
    have HR3 := Lib.hid (show canR (m : Int) es (qn : Int) = if 260 < (listC qn m es).length then (false, 3) else if (listC qn m es).length = 0 then (true, 0) else (decide ((runL (tosC (listC qn m es) es qn m) (listC qn m es).length 0 [0]).length = (listC qn m es).length), 0) from by rw [HRR.out, if_pos hz, Int.toNat_natCast, Int.toNat_natCast])
    have HMEM := Lib.hid (fun x (h : x ∈ listC qn m es) => (listC_mem.1 h).1)
    have HSET := Lib.hid (fun x (h : x ∈ listC qn m es) node (hn : node < m) c (hc : c ∈ freeL es x node qn) => listC_set hE h hn hc)
    have HLC := Lib.hid (show colS qn (List.replicate m (-1)) es m (qn ^ m) = listC qn m es from col_law (by omega) _ _)
    have HE := Lib.hid hE
    generalize listC qn m es = D at HR3 HMEM HSET HLC
    obtain ⟨TT, hTT⟩ : ∃ TT, TT = tosC D es qn m := ⟨_, rfl⟩
    rw [← hTT] at HR3
    have HTT := Lib.hid hTT
    have HTL := Lib.hid (show ∀ u, u < D.length → ∀ k ∈ TT u, k < D.length from by
      intro u hu k hk
      rw [hTT, tosC_at hu, List.mem_flatMap] at hk
      obtain ⟨nd, hnd, hk⟩ := hk
      rw [List.mem_range] at hnd
      unfold tgtC at hk
      rw [List.mem_map] at hk
      obtain ⟨c, hc, rfl⟩ := hk
      exact (idxC_at (HSET.out _ (List.getElem_mem hu) nd hnd c hc)).1)
    have ht : (cd != 0) = false := by simp [hz]
    have HB1 := Lib.hid b1
    obtain ⟨W1, hW1⟩ : ∃ W1, W1 = w.alloc (.cells #[.int .i64 m, .slice a es.length ca] 35) := ⟨_, rfl⟩
    rw [← hW1] at X HB1
    have HW1 := Lib.hid hW1.symm
    have hz1 : w.heap.size < W1.heap.size := X.out.1
    clear hz hg hE HOK hTT b1 hW1
    go_enter Try.func11, Try.ntmps11
    go_upto_region 1 with (fail)
    rw [HW1.out]
    go_wp2_with fail
    refine (l08Asked_any w.heap.size 0 (m : Int) (qn : Int) true W1 X.out (HA.out _ HB1.out)).mono ?_
    rintro e w2 ⟨rfl, b2⟩
    rw [HCD.out]
    have HB2 := Lib.hid (HB1.out.trans (b2.mono HB1.out.size))
    have X2 := Lib.hid (X.out.below b2)
    obtain ⟨_, c0, c1⟩ := X2.out
    simp only [Nat.zero_add] at c0 c1
    clear b2
    go_wp2_with fail
    refine (l08Open_any m w2 (by omega)).mono ?_
    rintro e wp ⟨pv, rfl, op, bp⟩
    obtain ⟨pa, pn, pc, rfl, hpn⟩ := op.form
    have HBP := Lib.hid (HB2.out.trans (bp.mono HB2.out.size))
    have XP := Lib.hid (X2.out.below bp)
    have KA := Lib.hid (l08All_any w.heap.size 0 m qn wp XP.out (HA.out _ HBP.out) op.sl HE.out hm1 hm5 (by omega) (by omega) (by simp))
    clear c0 c1 op bp hpn
    go_wp2_with fail
    refine KA.out.mono ?_
    rw [HLC.out]
    rintro e w3 ⟨lv, rfl, ol, b3⟩
    obtain ⟨la, ln, lc, rfl, hln⟩ := ol.form
    have hln' := hln.out
    subst hln'
    have HB3 := Lib.hid (HBP.out.trans (b3.mono HBP.out.size))
    have X3 := Lib.hid (XP.out.below b3)
    have OL := Lib.hid (fun V (h : Below w3.heap.size w3 V) => ol.sl.below h)
    clear b3 ol hln KA
    by_cases hbig : 260 < D.length
    · have t1 : (260 : Int) < (D.length : Int) := by omega
      go_wp2
      go_ret2
      rw [HR3.out, if_pos hbig]
      exact ⟨rfl, HB3.out⟩
    · have t1 : ¬ (260 : Int) < (D.length : Int) := by omega
      have HBG := Lib.hid hbig
      by_cases h0 : D.length = 0
      · have t0 : ((D.length : Int) == 0) = true := by rw [h0]; rfl
        have H0 := Lib.hid h0
        go_wp2
        go_ret2
        rw [HR3.out, if_neg HBG.out, if_pos H0.out]
        exact ⟨rfl, HB3.out⟩
      · have t0 : ((D.length : Int) == 0) = false := by rw [beq_eq_false_iff_ne]; omega
        have H0 := Lib.hid h0
        have hD0 : 0 < D.length := by omega
        have KS := Lib.hid (l08Steps_any w.heap.size 0 m qn w3 X3.out (HA.out _ HB3.out) (OL.out w3 (Below.refl _ _)) HE.out hm5 (by omega) (by omega) (fun x hx => (HMEM.out x hx).1) HSET.out)
        rw [← HTT.out] at KS
        clear h0
        go_wp2_with fail
        refine KS.out.mono ?_
        rintro e ws ⟨tv, wv, rfl, oto, ⟨wa, wn, wc, rfl⟩, bs⟩
        obtain ⟨ta, tc, rfl, _⟩ := oto.sl.form
        have hml : ((List.range D.length).map TT).length = D.length := by simp
        rw [hml] at oto ⊢
        have OT := Lib.hid (fun V (h : Below ws.heap.size ws V) => oto.sl.below h)
        have HBS := Lib.hid (HB3.out.trans (bs.mono HB3.out.size))
        clear oto bs hml KS
        go_wp2_with (at_make; refine Flat.make FB _ _ _ false rfl rfl rfl D.length rfl rfl rfl rfl (by omega) (FB_made D.length) ?_)
        intro w4 o4 b4 z4
        have h40 : 0 < (List.replicate D.length false).length := by simp; exact hD0
        have g4 := FB_at o4 h40
        have f4 := o4.free 0
        generalize (List.replicate D.length false)[0] = bv at g4
        have o5 := FB_set o4 0 true
        rw [marksL_one] at o5
        have hz5 : (w4.setCell ⟨ws.heap.size, 0, none⟩ (.bool true)).heap.size = w4.heap.size := by simp
        have bA : Below (w4.setCell ⟨ws.heap.size, 0, none⟩ (.bool true)).heap.size (w4.setCell ⟨ws.heap.size, 0, none⟩ (.bool true)) ((w4.setCell ⟨ws.heap.size, 0, none⟩ (.bool true)).alloc (.cells #[.int .i64 (0 : Nat)] 3)) := (Below.refl _ _).alloc (Nat.le_refl _) _
        have l5 := FIn_one (w4.setCell ⟨ws.heap.size, 0, none⟩ (.bool true)) 0 (base := w4.heap.size) (by rw [hz5]; exact Nat.le_refl _)
        rw [hz5] at l5
        have O5 := Lib.hid (o5.below bA)
        have L5 := Lib.hid l5
        have B5 := Lib.hid ((b4.setCell (p := ⟨ws.heap.size, 0, none⟩) (Nat.le_refl _) (.bool true)).trans (bA.mono (by rw [hz5]; exact b4.size)))
        have j1 : (0 : Int) < (D.length : Int) := by omega
        have hz34 : ws.heap.size < w4.heap.size := z4
        clear o4 b4 o5 l5 bA z4 h40 hz5
        go_wp2
        go_loopw [11, 12] (fun lv iv wr => ∃ (p : Nat) (L : List Nat), iv = .int .i64 p ∧ p ≤ L.length ∧ Hid (OkL D.length L) ∧ Hid (runL TT (D.length - p) p L = runL TT D.length 0 [0]) ∧ FB.Own wr ws.heap.size (.slice (some ⟨ws.heap.size, 0, none⟩) D.length D.length) (marksL D.length L) ∧ FIn.Own wr w4.heap.size lv L ∧ Below ws.heap.size ws wr ∧ w4.heap.size ≤ wr.heap.size) (fun _ iv _ => D.length - (intOf iv).toNat)
        case atStart => exact ⟨0, [0], rfl, by simp, Lib.hid (OkL.one hD0), rfl, O5.out, L5.out, B5.out, by simp⟩
        case round =>
          clear O5 L5 B5 g4 f4
          obtain ⟨p, L, rfl, hp, hI, hrun, hfb, hown, hbw, hzr⟩ := hrel
          have hLn := hI.out.len
          have HBW := Lib.hid hbw
          have HFB := Lib.hid hfb
          have HO := Lib.hid hown
          by_cases hpl : p < L.length
          · obtain ⟨u, hu⟩ : ∃ u, u = L[p] := ⟨_, rfl⟩
            have hun : u < D.length := by rw [hu]; exact hI.out.lt _ (List.getElem_mem hpl)
            have HLP := Lib.hid (show L[p]? = some u from by rw [List.getElem?_eq_getElem hpl, hu])
            obtain ⟨tb, tof, xa, xc, hae, htb, gt0, st0⟩ := (OT.out ws (Below.refl _ _)).at_ (i := u) (by simp; exact hun)
            have hq : ta = some ⟨tb, tof, none⟩ := hae
            subst hq
            have hrow : ((List.range D.length).map TT)[u]'(by simp; exact hun) = TT u := by simp
            rw [hrow] at gt0 st0
            obtain ⟨TU, hTU⟩ : ∃ TU, TU = TT u := ⟨_, rfl⟩
            have HTU := Lib.hid hTU
            rw [← hTU] at gt0 st0
            have htul : TU.length ≤ 20 := by
              rw [hTU, HTT.out, tosC_at hun]
              refine Nat.le_trans (flatN_len (m := 4) (tgtC D es qn D[u]) (fun nd => by unfold tgtC; rw [List.length_map]; exact Nat.le_trans (freeL_length _ _ _ _) (by omega)) m) (by omega)
            have HTB := Lib.hid (show ∀ k ∈ TU, k < D.length from by rw [hTU]; exact HTL.out u hun)
            have HX := Lib.hid (fun V (h : Below ws.heap.size ws V) => And.intro (st0.below h) (show V.cell? ⟨tb, tof + u, none⟩ = some (.slice xa TU.length xc) from by rw [h.cell (p := ⟨tb, tof + u, none⟩) htb]; exact gt0))
            have HRN := Lib.hid (show runL TT (D.length - (p + 1)) (p + 1) (visAll L TU) = runL TT D.length 0 [0] from by
              have e1 : L.getD p 0 = u := by rw [List.getD_eq_getElem?_getD, List.getElem?_eq_getElem hpl, hu]; rfl
              rw [← hrun.out, show D.length - p = (D.length - (p + 1)) + 1 from by omega, runL_step TT hpl, e1, hTU])
            have i1 : (p : Int) < (L.length : Int) := by omega
            have i0 : (0 : Int) ≤ (p : Int) := by omega
            have HPL := Lib.hid hpl
            have HRW := Lib.hid (Below.refl ws.heap.size wr)
            obtain ⟨ya, yn, yc, rfl, hyn⟩ := FIn_form hown
            have hyn' := hyn.out
            subst hyn'
            obtain ⟨wo, hwo⟩ : ∃ wo : World, wo = wr := ⟨_, rfl⟩
            subst hwo
            clear hfb hown hbw hrun hu gt0 st0 hae hpl hrow hTU hyn
            go_wp2
            go_loopw [11, 13] (fun lv jv wi => ∃ (j : Nat) (L2 : List Nat), jv = .int .i64 j ∧ j ≤ TU.length ∧ Hid (OkL D.length L2) ∧ Hid (L2 = visAll L (TU.take j)) ∧ FB.Own wi ws.heap.size (.slice (some ⟨ws.heap.size, 0, none⟩) D.length D.length) (marksL D.length L2) ∧ FIn.Own wi w4.heap.size lv L2 ∧ Below ws.heap.size wo wi ∧ w4.heap.size ≤ wi.heap.size) (fun _ jv _ => TU.length - (intOf jv).toNat)
            case atStart => exact ⟨0, L, rfl, Nat.zero_le _, hI, rfl, HFB.out, HO.out, HRW.out, hzr⟩
            case round =>
              clear HRW
              obtain ⟨wi, hwi⟩ : ∃ wi : World, wi = wr := ⟨_, rfl⟩
              subst hwi
              obtain ⟨j, L2, rfl, hj, hI2, hL2, hfb, hown, hbi, hzi⟩ := hrel
              have HBi := Lib.hid (HBW.out.trans hbi)
              have HFB2 := Lib.hid hfb
              have HO2 := Lib.hid hown
              have HBI := Lib.hid hbi
              have hLn2 := hI2.out.len
              obtain ⟨za, zn, zc, rfl, hzn⟩ := FIn_form hown
              have hzn' := hzn.out
              subst hzn'
              have hpL2 : p < L2.length := by rw [hL2.out]; exact Nat.lt_of_lt_of_le HPL.out (visAll_len L _)
              have hL2p : L2[p] = u := by
                have h := visAll_get (ts := TU.take j) (L := L) HPL.out
                rw [← hL2.out, HLP.out, List.getElem?_eq_getElem hpL2] at h
                exact Option.some.inj h
              obtain ⟨lb, lo, rfl, _, gl⟩ := FIn_at hown.sl hpL2
              rw [hL2p] at gl
              have gt := (HX.out wi HBi.out).2
              have i4 : (p : Int) < (L2.length : Int) := by omega
              have i5 : (u : Int) < (D.length : Int) := by omega
              have i6 : (0 : Int) ≤ (u : Int) := by omega
              by_cases hjT : j < TU.length
              · obtain ⟨cb, co, hce, _, gc⟩ := FIn_at (HX.out wi HBi.out).1 hjT
                have hq : xa = some ⟨cb, co, none⟩ := hce
                subst hq
                have hkn := HTB.out _ (List.getElem_mem hjT)
                have HTK := Lib.hid (show TU.take (j + 1) = TU.take j ++ [TU[j]] from List.take_succ_eq_append_getElem hjT)
                obtain ⟨k, hk⟩ : ∃ k, k = TU[j] := ⟨_, rfl⟩
                rw [← hk] at gc hkn HTK
                have HKK := Lib.hid hkn
                have HLV := Lib.hid (show visAll L (TU.take (j + 1)) = visit L2 k from by rw [HTK.out, visAll_add, ← hL2.out])
                have i7 : (j : Int) < (TU.length : Int) := by omega
                have i8 : (0 : Int) ≤ (j : Int) := by omega
                have i9 : (k : Int) < (D.length : Int) := by omega
                have ia : (0 : Int) ≤ (k : Int) := by omega
                have hkm : k < (marksL D.length L2).length := by rw [marksL_len]; exact hkn
                have gm := FB_at hfb hkm
                rw [marksL_get hkm] at gm
                have fm := hfb.free k
                have hls7 : ws.heap.size < wi.heap.size := cell_lt gm
                generalize hM : decide (k ∈ L2) = Mk at gm
                have HM := Lib.hid hM
                clear hM hfb hown hbi hk hce hkm hL2p hzn
                cases Mk
                · have hnm : k ∉ L2 := by have := HM.out; rwa [decide_eq_false_iff_not] at this
                  have HI3 := Lib.hid (hI2.out.new HKK.out hnm)
                  have HV3 := Lib.hid (show L2 ++ [k] = visAll L (TU.take (j + 1)) from by rw [HLV.out]; unfold visit; rw [if_neg hnm])
                  have o8 := FB_set HFB2.out k true
                  rw [marksL_add] at o8
                  have hzs : (wi.setCell ⟨ws.heap.size, k, none⟩ (.bool true)).heap.size = wi.heap.size := by simp
                  have f8 := Fs.set (S := fun i => i = ws.heap.size) (Fs.refl _ wi) (a := ⟨ws.heap.size, k, none⟩) rfl (.bool true)
                  have l8 := flat_fs2 HO2.out f8 (fun i hi => by omega)
                  have b8 : Below ws.heap.size wo (wi.setCell ⟨ws.heap.size, k, none⟩ (.bool true)) := HBI.out.setCell (Nat.le_refl _) _
                  have O8 := Lib.hid o8
                  have B8 := Lib.hid b8
                  have hll : L2.length < 16777216 := by omega
                  have hz8 : w4.heap.size ≤ (wi.setCell ⟨ws.heap.size, k, none⟩ (.bool true)).heap.size := by rw [hzs]; omega
                  clear o8 b8 hnm f8
                  go_wp2_with (at_builtin; refine append_int _ k _ _ rfl rfl rfl l8 hzs rfl hll hz8 ?_)
                  intro v9 w9 o9 b9 g9
                  have hb9 : Below w4.heap.size (wi.setCell ⟨ws.heap.size, k, none⟩ (.bool true)) w9 := ((Below.refl _ _).alloc hz8 _).trans b9
                  have F9 := Lib.hid (FB_inB O8.out hb9 hz34)
                  have B9 := Lib.hid (B8.out.trans (hb9.mono (Nat.le_of_lt hz34)))
                  have hz9 : w4.heap.size ≤ w9.heap.size := Nat.le_trans hz8 hb9.size
                  have O9 := Lib.hid o9
                  clear b9 hb9 l8 hz8 hzs o9 g9
                  go_wp2
                  go_roundw
                  case rel => exact ⟨j + 1, L2 ++ [k], by go_num, by omega, HI3, HV3, F9.out, O9.out, B9.out, hz9⟩
                  case measure => simp [intOf]; omega
                · have hm : k ∈ L2 := by have := HM.out; rwa [decide_eq_true_eq] at this
                  have HV3 := Lib.hid (show L2 = visAll L (TU.take (j + 1)) from by rw [HLV.out]; unfold visit; rw [if_pos hm])
                  clear hm
                  go_wp2
                  go_roundw
                  case rel => exact ⟨j + 1, L2, by go_num, by omega, hI2, HV3, HFB2.out, HO2.out, HBI.out, hzi⟩
                  case measure => simp [intOf]; omega
              · obtain rfl : j = TU.length := by omega
                have HLL := Lib.hid (show L2 = visAll L TU from by rw [hL2.out, List.take_length])
                have HRR2 := Lib.hid (show runL TT (D.length - (p + 1)) (p + 1) L2 = runL TT D.length 0 [0] from by rw [HLL.out]; exact HRN.out)
                have HPL2 := Lib.hid (show p + 1 ≤ L2.length from hpL2)
                clear hfb hown hzn hbi hL2p
                go_wp2
                go_roundw
                case rel => exact ⟨p + 1, L2, by go_num, HPL2.out, hI2, HRR2, HFB2.out, HO2.out, HBi.out, hzi⟩
                case measure => simp [intOf]; omega
          · obtain rfl : p = L.length := by omega
            obtain ⟨ya, yn, yc, rfl, hyn⟩ := FIn_form hown
            have hyn' := hyn.out
            subst hyn'
            have HFIN := Lib.hid (show L = runL TT D.length 0 [0] from by rw [← hrun.out, runL_end TT (by omega)])
            have HQ := Lib.hid (show ((L.length : Int) == (D.length : Int)) = decide (L.length = D.length) from by
              rw [Bool.eq_iff_iff]; simp; omega)
            clear hfb hown hyn
            go_wp2
            go_ret2
            rw [HR3.out, if_neg HBG.out, if_neg H0.out, ← HFIN.out]
            exact ⟨by rw [HQ.out]; rfl, HBS.out.trans (HBW.out.mono HBS.out.size)⟩
  · have ht : (cd != 0) = true := by simp [hz]
    have HZ := Lib.hid hz
    clear hz
    go_enter Try.func11, Try.ntmps11
    go_wp2_with fail
    refine (l08Asked_any w.heap.size 0 n q true _ X.out (HA.out _ b1)).mono ?_
    rintro e w2 ⟨rfl, b2⟩
    rw [HCD.out]
    go_wp2
    go_ret2
    rw [HRR.out, if_neg HZ.out]
    exact ⟨rfl, b1.trans (b2.mono b1.size)⟩
end Go.Proofs.Ytjbjkfahfjoigaa
namespace Go.Proofs.Ytjbjkfahfjoigaa
open Go.RowKit Go.Sort
set_option linter.unusedVariables false
set_option maxRecDepth 100000 in
set_option maxHeartbeats 4000000 in
theorem FnExactCanRecolour_walk {u0 : Value} {xss0 : List (List Int)} (n0 : Int) (a1 : Int) (w : World) (ha0 : SlII w u0 xss0) :
    Calls Try.prog 4 #[.agg #[.int .i64 n0, u0], .int .i64 a1] w fun e w' => e = .returned (.bool true) ∧ Below w.heap.size w w' := by
  obtain ⟨pa0, pc0, pu0, rfl, _⟩ := id ha0
  have hb0 : Below w.heap.size w (w.alloc (argGr n0 (.slice pa0 xss0.length pc0))) := ((Below.refl w.heap.size w).alloc (by simp) (argGr n0 (.slice pa0 xss0.length pc0)))
  have A0 := Lib.hid (argGrBox w n0 (.slice pa0 xss0.length pc0))
  have H0 := Lib.hid (fun W (h : Below w.heap.size w W) => ha0.below h)
  clear ha0
  have hr0 := szII_range 1048576 xss0 (by omega)
  generalize hz0 : szII 1048576 xss0 = l0 at hr0
  have HZ0 := Lib.hid hz0
  clear hz0
  go_enter Try.func4, Try.ntmps4
  obtain ⟨_, q00, q01⟩ := A0.out
  simp only [Nat.zero_add] at q00 q01
  go_wp2_with fail
  refine (szGraph_any n0 1048576 _ (H0.out _ hb0) (by omega) (by omega)).mono ?_
  rintro e w1 ⟨rfl, b1⟩
  rw [HZ0.out]
  have hb1 := hb0.trans (b1.mono hb0.size)
  have A0_1 := Lib.hid (A0.out.below b1)
  clear b1 A0 q00 q01
  by_cases hl0 : l0 < 0
  · go_wp2
    go_ret
    exact ⟨rfl, hb1⟩
  obtain ⟨hxl0, hxr0⟩ := szII_ok HZ0.out hl0
  have HXR0 := Lib.hid hxr0
  clear hxr0
  generalize hR : canR n0 xss0 a1 = R
  have HR := Lib.hid hR
  clear hR
  obtain ⟨r0, r1⟩ := R
  obtain ⟨_, q00, q01⟩ := A0_1.out
  simp only [Nat.zero_add] at q00 q01
  go_wp2_with fail
  refine (toGraph_any n0 _ (H0.out _ hb1) hxl0 HXR0.out).mono ?_
  rintro e w2 ⟨vs0, rfl, os0, b2⟩
  have hb2 := hb1.trans (b2.mono hb1.size)
  have A0_2 := Lib.hid (A0_1.out.below b2)
  clear b2 A0_1 q00 q01
  obtain ⟨ys0a, ys0c, ys0u, rfl, _⟩ := id os0.sl
  have Os0 := Lib.hid os0
  clear os0
  go_wp2_with fail
  refine (SpecCanRecolour_any n0 a1 _ Os0.out.sl).mono ?_
  rintro e w3 ⟨rfl, b3⟩
  rw [HR.out]
  unfold tupBI
  have hb3 := hb2.trans (b3.mono hb2.size)
  have A0_3 := Lib.hid (A0_2.out.below b3)
  have Os0_3 := Lib.hid (Os0.out.below b3)
  clear b3 A0_2 Os0 
  clear Os0_3
  obtain ⟨_, q00, q01⟩ := A0_3.out
  simp only [Nat.zero_add] at q00 q01
  go_wp2_with fail
  refine (toGraph_any n0 _ (H0.out _ hb3) hxl0 HXR0.out).mono ?_
  rintro e w4 ⟨vx0, rfl, ox0, b4⟩
  have hb4 := hb3.trans (b4.mono hb3.size)
  have A0_4 := Lib.hid (A0_3.out.below b4)
  clear b4 A0_3 q00 q01
  obtain ⟨yx0a, yx0c, yx0u, rfl, _⟩ := id ox0.sl
  have Ox0 := Lib.hid ox0
  clear ox0
  have bx0 : Below w4.heap.size w4 (w4.alloc (grObj n0 (.slice yx0a xss0.length yx0c))) := (Below.refl _ _).alloc (Nat.le_refl _) _
  have A0_x0 := Lib.hid (A0_4.out.below bx0)
  have Ox0_x0 := Lib.hid (Ox0.out.below bx0)
  have X0 := Lib.hid (grBox w4 n0 (.slice yx0a xss0.length yx0c))
  have hbx0 := hb4.trans (bx0.mono hb4.size)
  have hsx0 : w.heap.size ≤ w4.heap.size := hb4.size
  clear bx0 A0_4 Ox0
  obtain ⟨_, x00, x01⟩ := X0.out
  simp only [Nat.zero_add] at x00 x01
  go_wp2_with fail
  refine (ImplCanRecolour_any n0 a1 _ Ox0_x0.out.sl).mono ?_
  rintro e w5 ⟨rfl, b5⟩
  rw [HR.out]
  unfold tupBI
  have hb5 := hbx0.trans (b5.mono hbx0.size)
  have A0_5 := Lib.hid (A0_x0.out.below b5)
  have Ox0_5 := Lib.hid (Ox0_x0.out.below b5)
  have X0_5 := Lib.hid (X0.out.below b5)
  clear b5 A0_x0 Ox0_x0 X0 x00 x01
  have hr_0 : (r0 != r0) = false := by simp
  have hr_1 : (r1 != r1) = false := by simp
  go_upto_region 10 with (fail)
  go_cut [43] (fun sz wx => sz = .bool false ∧ Below w5.heap.size w5 wx)
  case first =>
    have hbz := (Below.refl w5.heap.size w5).drew
    obtain ⟨_, x0, x1⟩ := X0_5.out
    obtain ⟨_, q0, q1⟩ := A0_5.out
    simp only [Nat.zero_add] at x0 x1 q0 q1
    go_region_with (first
      | (go_at_call 12; (with_reducible refine (toGraph_any n0 _ (H0.out _ (hb5.trans (hbz.mono hb5.size))) hxl0 HXR0.out).mono ?_); rintro e w' ⟨vx, rfl, hv, b⟩; have sx := hv.sl; have hbz := hbz.trans (b.mono hbz.size); clear hv; obtain ⟨_, r0, r1⟩ := X0_5.out.below hbz; simp only [Nat.zero_add] at r0 r1)
      | (go_at_call 14; (with_reducible refine (eqGraph_refl n0 _ (Ox0_5.out.below hbz).sl sx).mono ?_); rintro e w' ⟨rfl, b⟩; have hbz := hbz.trans (b.mono hbz.size)))
    all_goals (go_wp2_with fail; go_meet; exact ⟨rfl, hbz⟩)
  case rest =>
    obtain ⟨rfl, hbc⟩ := hcut
    rename_i w6
    have hb6 := hb5.trans (hbc.mono hb5.size)
    have A0_6 := Lib.hid (A0_5.out.below hbc)
    have Ox0_6 := Lib.hid (Ox0_5.out.below hbc)
    have X0_6 := Lib.hid (X0_5.out.below hbc)
    clear hbc A0_5 Ox0_5 X0_5 
    go_wp2
    go_ret
    exact ⟨rfl, hb6⟩
end Go.Proofs.Ytjbjkfahfjoigaa
