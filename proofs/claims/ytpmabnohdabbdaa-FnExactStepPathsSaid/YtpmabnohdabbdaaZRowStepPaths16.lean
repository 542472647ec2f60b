/-
  Reachable states: the program's search, members of marks. With it: StepByDraw and RunByDraws, both sides, for valid arguments.
-/
import Derived.Test.YtpmabnohdabbdaaZRowStepPaths7
import Derived.Test.YtpmabnohdabbdaaZRowStepPaths14
import Derived.Test.YtpmabnohdabbdaaZRowStepPaths4
import Derived.Test.YtpmabnohdabbdaaZRowStepPaths9
import Derived.Test.YtpmabnohdabbdaaZRowStepPaths5
set_option linter.unusedVariables false
set_option linter.unusedSimpArgs false
namespace Go.Proofs.Ytpmabnohdabbdaa
open Go.RowKit Go.Sort
theorem OwnI.lit1 (w : World) {base : Nat} (hb : base ≤ w.heap.size) (x : Int) : OwnI (w.alloc (.cells #[.int .i64 x] 2)) base (.slice (some ⟨w.heap.size, 0, none⟩) 1 1) [x] :=
  World.ownsRow_lit (base := base) (e := 2) (size := 1) w #[.int .i64 x] 1 hb (by simp [maxLen]) (by simp)
theorem step_appJ {ops : Array Oper} {o : Oper} {a : Act} {K : Act → World → Prop} {Q : Exit → Act → World → Prop} {E : Prop} {w w0 w1 : World} (hg : o.guard = none) (s x : Operand)
    (ho : o.op = .call { callee := .builtin .append, args := #[s, x], argTypes := #[59, 59] })
    {g : Nat} {v : Value} {xs : List Int} {y : Int} (hs : a.eval s = v) (hown : OwnI w1 w0.heap.size v xs) (h01 : Below w0.heap.size w0 w1) (h1w : Below w1.heap.size w1 w) (hx : a.eval x = .slice (some ⟨g, 0, none⟩) 1 1) (hc : w.cell? ⟨g, 0, none⟩ = some (.int .i64 y)) (hlen : xs.length < 16777216)
    (h : ∀ v' w', OwnI w' w0.heap.size v' (xs ++ [y]) → Below w0.heap.size w0 w' → K (a.put o.dst v') w') : if Region.wanted o (yielded ops a.tmps) = true then Oper.wp Try.prog o a w K Q else E := by
  have h0w := h01.trans (h1w.mono h01.size)
  have hown' := hown.below h1w
  exact stepAppI w s x hg ho hs hown' hx hc hlen h0w.size (fun v' w' k1 k2 => h v' w' k1 (h0w.trans (hown'.grown k2 h0w.size)))
end Go.Proofs.Ytpmabnohdabbdaa
namespace Go.Proofs.Ytpmabnohdabbdaa
open Go.RowKit Go.Sort
theorem own_inB {w w' : World} {base e size n g c B : Nat} {xs : List Value} (h : w.ownsRow base e size (.slice (some ⟨g, 0, none⟩) n c) n xs) (hb : Below B w w') (hg : g < B) : w'.ownsRow base e size (.slice (some ⟨g, 0, none⟩) n c) n xs := by
  refine ⟨h.1, ?_⟩
  rcases h.2 with ⟨h1, _⟩ | ⟨g', c', cur, h1, h2, h3, h4⟩
  · simp at h1
  · refine .inr ⟨g', c', cur, h1, h2, ?_, h4⟩
    simp only [Value.slice.injEq, Option.some.injEq, Addr.mk.injEq] at h1
    obtain ⟨⟨rfl, _⟩, _⟩ := h1
    rw [hb.block g hg]; exact h3

theorem FB_set {w : World} {base g n c : Nat} {xs : List Bool} (h : FB.Own w base (.slice (some ⟨g, 0, none⟩) n c) xs) (i : Nat) (x : Bool) :
    FB.Own (w.setCell ⟨g, i, none⟩ (.bool x)) base (.slice (some ⟨g, 0, none⟩) n c) (xs.set i x) := by
  obtain rfl := h.len_of
  have := (World.ownsRow.stored (base := base) h i (.bool x)).1
  unfold Flat.Own
  rw [List.length_set, FB_encs]
  rw [FB_encs] at this
  simpa [List.map_set] using this
theorem FB_at {w : World} {base g n c : Nat} {xs : List Bool} (h : FB.Own w base (.slice (some ⟨g, 0, none⟩) n c) xs) {i : Nat} (hi : i < xs.length) : w.cell? ⟨g, i, none⟩ = some (.bool xs[i]) := by
  have := h.cell (i := i) (j := 0) hi (by decide)
  have e : i * FB.size + 0 = i := by show i * 1 + 0 = i; omega
  rw [e] at this
  exact this
theorem FB_inB {w w' : World} {base g n c B : Nat} {xs : List Bool} (h : FB.Own w base (.slice (some ⟨g, 0, none⟩) n c) xs) (hb : Below B w w') (hg : g < B) : FB.Own w' base (.slice (some ⟨g, 0, none⟩) n c) xs := by
  obtain rfl := h.len_of
  exact own_inB h hb hg
/-- append(v, y) on an owned []int64, the new block's number given -/
theorem append_i64J {ops : Array Oper} {rest : List Oper} {o : Oper} {a : Act} {Q : Exit → Act → World → Prop} (w : World) (y : Int) (s x : Operand) (hg : o.guard = none)
    (ho : o.op = .call { callee := .builtin .append, args := #[s, x], argTypes := #[59, 59] })
    {base : Nat} {v : Value} {xs : List Int} (hs : a.eval s = v) (hown : OwnI w base v xs) {t g0 : Nat} (hg0 : w.heap.size = g0) (hx : a.eval x = .slice (some ⟨g0, 0, none⟩) 1 1)
    (hlen : xs.length < 16777216) (hbase : base ≤ w.heap.size)
    (h : ∀ v' w', OwnI w' base v' (xs ++ [y]) → Below base (w.alloc (.cells #[.int .i64 y] t)) w' → w.heap.size < w'.heap.size → wpList Try.prog ops Q rest (a.put o.dst v') w') : wpList Try.prog ops Q (o :: rest) a (w.alloc (.cells #[.int .i64 y] t)) := by
  subst hg0
  exact append_i64 w y s x hg ho hs hown hx hlen hbase h
def intsL (L : List Nat) : List Int := L.map fun (t : Nat) => (t : Int)
theorem intsL_len (L : List Nat) : (intsL L).length = L.length := by simp [intsL]
theorem intsL_get {L : List Nat} {i : Nat} (h : i < (intsL L).length) : (intsL L)[i] = ((L[i]'(by rw [intsL_len] at h; exact h) : Nat) : Int) := by simp [intsL]
theorem intsL_add (L : List Nat) (j : Nat) : intsL (L ++ [j]) = intsL L ++ [(j : Int)] := by simp [intsL]
theorem marksL_one (n s : Nat) : (List.replicate n false).set s true = marksL n [s] := by
  rw [← marksL_nil, marksL_add]; rfl
theorem wtN_at {xss : List (List Int)} {s t : Nat} (hs : s < xss.length) (ht : t < xss[s].length) : wtN xss s t = xss[s][t] := by
  unfold wtN
  rw [gD_at hs, gD_at ht]
theorem SlII.nthJ {w : World} {ad : Option Addr} {n c : Nat} {xss : List (List Int)} (h : SlII w (.slice ad n c) xss) {i : Nat} (hi : i < xss.length) :
    ∃ b off ra rc, ad = some ⟨b, off, none⟩ ∧ b < w.heap.size ∧ w.cell? ⟨b, off + i, none⟩ = some (.slice ra xss[i].length rc) ∧ SlI w (.slice ra xss[i].length rc) xss[i] := by
  obtain ⟨ad', c', vs, he, _, _, h4, h5, h6⟩ := h
  simp only [Value.slice.injEq] at he
  obtain ⟨rfl, _, rfl⟩ := he
  have hv : i < vs.length := by omega
  have hs := h6 i hi vs[i] (List.getElem?_eq_getElem hv)
  obtain ⟨b, off, h7, h7b, h8⟩ := h5 i _ (List.getElem?_eq_getElem hv)
  obtain ⟨ra, rc, he, h9, h10, h11⟩ := id hs
  rw [he] at h8
  exact ⟨b, off, ra, rc, h7, h7b, h8, ra, rc, rfl, h9, h10, h11⟩

set_option maxRecDepth 100000 in
set_option maxHeartbeats 8000000 in
theorem reach_any {v : Value} {xss : List (List Int)} {t : Int} (n k : Nat) (w : World) (ha : SlII w v xss) (hv : chainOk n t xss = true) (hk : k < n) :
    Calls Try.prog 198 #[.agg #[.int .i64 n, .int .i64 t, v], .int .i64 k] w fun e w' => ∃ g, e = .returned (.slice (some ⟨g, 0, none⟩) n n) ∧ FB.Own w' w.heap.size (.slice (some ⟨g, 0, none⟩) n n) (reachB xss n k) ∧ Below w.heap.size w w' := by
  have HA := Lib.hid (fun W (h : Below w.heap.size w W) => ha.below h)
  obtain ⟨a, ca, us, rfl, _, _, _, _, _⟩ := ha
  obtain ⟨⟨hn1, hn2⟩, ⟨ht1, ht2⟩, hnx, _⟩ := chainOk_parts0 hv
  have hnx' : xss.length = n := by omega
  have HNX := Lib.hid hnx'
  rw [hnx'] at HA ⊢
  have HV := Lib.hid hv
  have BX := Lib.hid (chBelow w n t (.slice a n ca))
  have X := Lib.hid (chBox w n t (.slice a n ca))
  obtain ⟨W1, hW1⟩ : ∃ W1, W1 = w.alloc (chObj n t (.slice a n ca)) := ⟨_, rfl⟩
  rw [← hW1] at BX X
  have Z1 := Lib.hid (show W1.heap.size = w.heap.size + 1 by rw [hW1]; simp)
  have HW1 := Lib.hid hW1
  clear hv hnx hnx' hW1
  go_enter Try.func198, Try.ntmps198
  go_wp2_with (at_make; refine Flat.make FB _ _ _ false rfl rfl rfl n rfl rfl rfl rfl (by omega) (FB_made n) ?_)
  intro w2 o2 b2 z2
  have b2 : Below W1.heap.size W1 w2 := by rw [Z1.out, HW1.out]; exact b2
  have hkl : k < (List.replicate n false).length := by simp; exact hk
  have gk := FB_at o2 hkl
  have fk := o2.free k
  have o3 := FB_set o2 k true
  rw [marksL_one] at o3
  generalize (List.replicate n false)[k] = bv at gk
  have i0 : (0 : Int) ≤ (k : Int) := by omega
  have i1 : (k : Int) < (n : Int) := by omega
  have hzs : (w2.setCell ⟨w.heap.size + 1, k, none⟩ (.bool true)).heap.size = w2.heap.size := by simp
  have l4 := OwnI.lit1 (w2.setCell ⟨w.heap.size + 1, k, none⟩ (.bool true)) (base := w2.heap.size) (by rw [hzs]; exact Nat.le_refl _) k
  rw [hzs] at l4
  have bA : Below (w2.setCell ⟨w.heap.size + 1, k, none⟩ (.bool true)).heap.size (w2.setCell ⟨w.heap.size + 1, k, none⟩ (.bool true)) ((w2.setCell ⟨w.heap.size + 1, k, none⟩ (.bool true)).alloc (.cells #[.int .i64 k] 2)) := (Below.refl _ _).alloc (Nat.le_refl _) _
  have O4 := Lib.hid (o3.below bA)
  have L4 := Lib.hid l4
  have b3 : Below W1.heap.size W1 (w2.setCell ⟨w.heap.size + 1, k, none⟩ (.bool true)) := b2.setCell (by rw [Z1.out]; exact Nat.le_refl _) _
  have B4 := Lib.hid (b3.trans (bA.mono (by rw [Z1.out, hzs]; omega)))
  have hz2 : w.heap.size + 1 < w2.heap.size := z2
  clear o2 b2 b3 o3 l4 bA hzs z2 hkl
  obtain ⟨c00, x0, x1, x2⟩ := X.out
  go_wp2
  go_loopw [6, 7] (fun lv i wr => ∃ (q : Nat) (L : List Nat), i = .int .i64 q ∧ q ≤ L.length ∧ Hid (BfsI xss n k L q 0) ∧ FB.Own wr (w.heap.size + 1) (.slice (some ⟨w.heap.size + 1, 0, none⟩) n n) (marksL n L) ∧ OwnI wr w2.heap.size lv (intsL L) ∧ Below W1.heap.size W1 wr ∧ w2.heap.size ≤ wr.heap.size) (fun _ i _ => n + 1 - (intOf i).toNat)
  case atStart => exact ⟨0, [k], rfl, by simp, Lib.hid (BfsI.first hk), O4.out, L4.out, B4.out, by simp⟩
  case round =>
    clear O4 L4 B4 x0 x1 x2 c00 gk fk i0 i1
    obtain ⟨q, L, rfl, hq, hI, hfb, hown, hbw, hzr⟩ := hrel
    have hLn := hI.out.len
    have HBW := Lib.hid hbw
    have HFB := Lib.hid hfb
    have HO := Lib.hid hown
    clear hfb hown
    by_cases hql : q < L.length
    · have bw2 := BX.out.trans (hbw.mono BX.out.size)
      obtain ⟨c00, x0, x1, x2⟩ := X.out.below hbw
      simp only [Nat.zero_add] at x0 x1 x2
      have hqi : q < (intsL L).length := by rw [intsL_len]; exact hql
      obtain ⟨la, lc, rfl, _, _, _⟩ := id HO.out.sl
      obtain ⟨_, _, he, _, _, rd⟩ := HO.out.sl
      simp only [Value.slice.injEq] at he
      obtain ⟨rfl, _, rfl⟩ := he
      obtain ⟨lb, lo, rfl, gl⟩ := rd.one (i64s_get hqi)
      rw [intsL_get hqi] at gl
      obtain ⟨u, hu⟩ : ∃ u, u = L[q] := ⟨_, rfl⟩
      rw [← hu] at gl
      have hun : u < n := by rw [hu]; exact (hI.out.all _ (List.getElem_mem hql)).1
      have hux : u < xss.length := by rw [HNX.out]; exact hun
      obtain ⟨b, off, ra, rc, rfl, hb, gr, sr⟩ := (HA.out w (Below.refl _ _)).nthJ hux
      rw [← bw2.cell (p := ⟨b, off + u, none⟩) hb] at gr
      have hrl : xss[u].length = n := by obtain ⟨_, hl, _⟩ := rowB_of HV.out hux; have := HNX.out; omega
      rw [hrl] at gr sr
      have hlen := intsL_len L
      rw [hlen] at HO ⊢
      have HU := Lib.hid (show L[q]? = some u by rw [hu]; exact List.getElem?_eq_getElem hql)
      have HUX := Lib.hid hux
      have HRL := Lib.hid hrl
      have SR := Lib.hid (fun W (h : Below w.heap.size w W) => sr.below h)
      have k0 := fun d os => cell_regrown x2 d os
      have k1 := fun d os => cell_regrown gl d os
      have k2 := fun d os => cell_regrown gr d os
      have i0 : (0 : Int) ≤ (q : Int) := by omega
      have i1 : (q : Int) < (L.length : Int) := by omega
      have i2 : (0 : Int) ≤ (u : Int) := by omega
      have i3 : (u : Int) < (n : Int) := by omega
      clear rd hu hlen sr hqi bw2 hbw
      go_wp2_with fail
      refine wp_region_quiet_below (by kernel_rfl) (by kernel_rfl) ?_
      repeat (first | go_big_quiet_skip | quiet_step (fail))
      refine wpQuiet_nil ?_
      intro _ hw'
      obtain ⟨⟨dq, osq⟩, hw''⟩ := hw'
      subst hw''
      have bq0 := below_regrown wr dq osq
      generalize grow (redrawn wr dq) osq = wq at bq0 ⊢
      have HB2 := Lib.hid (HBW.out.trans (bq0.mono HBW.out.size))
      have HF2 := Lib.hid (HFB.out.below bq0)
      have HO2 := Lib.hid (HO.out.below bq0)
      have hzq : w2.heap.size ≤ wq.heap.size := Nat.le_trans hzr bq0.size
      have hql' := hql
      clear k0 k1 k2 x0 x1 x2 c00 gl gr bq0 HBW HFB HO hrl
      go_wp2
      go_loopw [6, 33] (fun lv x w3 => ∃ (j : Nat) (L' : List Nat), x = .int .i64 j ∧ j ≤ n ∧ q < L'.length ∧ Hid (BfsI xss n k L' q j) ∧ Hid (L'[q]? = some u) ∧ FB.Own w3 (w.heap.size + 1) (.slice (some ⟨w.heap.size + 1, 0, none⟩) n n) (marksL n L') ∧ OwnI w3 w2.heap.size lv (intsL L') ∧ Below W1.heap.size W1 w3 ∧ w2.heap.size ≤ w3.heap.size) (fun _ x _ => n - (intOf x).toNat)
      case atStart => exact ⟨0, L, rfl, Nat.zero_le _, hql', hI, HU, HF2.out, HO2.out, HB2.out, hzq⟩
      case round =>
        clear HF2 HO2 HB2 hzq
        obtain ⟨j, L', rfl, hj, hqL, hI', hU', hfb, hown, hbw, hz3⟩ := hrel
        have HFB := Lib.hid hfb
        have HO := Lib.hid hown
        have HBW := Lib.hid hbw
        have hLn' := hI'.out.len
        by_cases hjn : j < n
        · have i4 : (j : Int) < (n : Int) := by omega
          have i5 : (0 : Int) ≤ (j : Int) := by omega
          have hjr : j < xss[u].length := Nat.lt_of_lt_of_eq hjn HRL.out.symm
          obtain ⟨rb, ro, rfl, _, gx⟩ := (SR.out _ (BX.out.trans (hbw.mono BX.out.size))).at_ hjr
          have HWT := Lib.hid (wtN_at (s := u) (t := j) hux hjr)
          generalize xss[u][j] = x at gx HWT
          have hjm : j < (marksL n L').length := by rw [marksL_len]; exact hjn
          have gm := FB_at hfb hjm
          rw [marksL_get hjm] at gm
          generalize hM : decide (j ∈ L') = M at gm
          have HM := Lib.hid hM
          have fm := hfb.free j
          have HLU := Lib.hid (show L'[q] = u from by have := hU'.out; rw [List.getElem?_eq_getElem hqL] at this; simpa using this)
          clear hfb hown hM hjm
          by_cases hx : 0 < x
          · cases M
            · have hnm : j ∉ L' := by have := HM.out; rwa [decide_eq_false_iff_not] at this
              have HI2 := Lib.hid (hI'.out.add hk hqL hjn (by rw [HLU.out, HWT.out]; exact hx) hnm)
              have HRM := Lib.hid (hI'.out.room hjn hnm)
              have o6 := FB_set HFB.out j true
              rw [marksL_add] at o6
              have hzs : (wr.setCell ⟨w.heap.size + 1, j, none⟩ (.bool true)).heap.size = wr.heap.size := by simp
              have l6 := HO.out.fs (Fs.set (S := fun k => k = w.heap.size + 1) (Fs.refl _ wr) (a := ⟨w.heap.size + 1, j, none⟩) rfl (.bool true)) (fun k hk => by omega)
              have b6 : Below W1.heap.size W1 (wr.setCell ⟨w.heap.size + 1, j, none⟩ (.bool true)) := hbw.setCell (by rw [Z1.out]; exact Nat.le_refl _) _
              have O6 := Lib.hid o6
              have B6 := Lib.hid b6
              have hll : (intsL L').length < 16777216 := by rw [intsL_len]; omega
              have hz6 : w2.heap.size ≤ (wr.setCell ⟨w.heap.size + 1, j, none⟩ (.bool true)).heap.size := by rw [hzs]; exact hz3
              clear o6 b6 hnm hbw hI
              go_wp2_with (at_builtin; refine append_i64J _ j _ _ rfl rfl rfl l6 hzs rfl hll hz6 ?_)
              intro v7 w7 o7 b7 z7
              have hb7 : Below w2.heap.size (wr.setCell ⟨w.heap.size + 1, j, none⟩ (.bool true)) w7 := ((Below.refl _ _).alloc hz6 _).trans b7
              have F7 := Lib.hid (FB_inB O6.out hb7 hz2)
              have B7 := Lib.hid (B6.out.trans (hb7.mono (by rw [Z1.out]; omega)))
              have hz7 : w2.heap.size ≤ w7.heap.size := Nat.le_trans hz6 hb7.size
              rw [← intsL_add] at o7
              clear b7 hb7 l6 hz6 hzs
              go_wp2
              go_roundw
              case rel => exact ⟨j + 1, L' ++ [j], by go_num, by omega, by simp; omega, HI2, Lib.hid (by rw [List.getElem?_append_left hqL]; exact hU'.out), F7.out, o7, B7.out, hz7⟩
              case measure => simp [intOf]; omega
            · have hm : j ∈ L' := by have := HM.out; rwa [decide_eq_true_eq] at this
              have HI2 := Lib.hid (hI'.out.skip hqL (.inr hm))
              clear hm hbw hI
              go_wp2
              go_roundw
              case rel => exact ⟨j + 1, L', by go_num, by omega, hqL, HI2, hU', HFB.out, HO.out, HBW.out, hz3⟩
              case measure => simp [intOf]; omega
          · have HI2 := Lib.hid (hI'.out.skip (j := j) hqL (.inl (by rw [HLU.out, HWT.out]; exact hx)))
            clear hbw hI
            go_wp2
            go_roundw
            case rel => exact ⟨j + 1, L', by go_num, by omega, hqL, HI2, hU', HFB.out, HO.out, HBW.out, hz3⟩
            case measure => simp [intOf]; omega
        · obtain rfl : j = n := by omega
          have HI2 := Lib.hid hI'.out.next
          clear hbw hI hfb hown
          go_wp2
          go_roundw
          case rel => exact ⟨q + 1, L', by go_num, by omega, HI2, HFB.out, HO.out, HBW.out, hz3⟩
          case measure => simp [intOf]; omega
    · obtain rfl : q = L.length := by omega
      have HRES := Lib.hid (show FB.Own wr (w.heap.size + 1) (.slice (some ⟨w.heap.size + 1, 0, none⟩) n n) (reachB xss n k) from by rw [← hI.out.marks]; exact HFB.out)
      obtain ⟨la, lc, rfl, _, _, _⟩ := id HO.out.sl
      rw [intsL_len] at HO ⊢
      go_wp2
      go_ret
      exact ⟨_, rfl, HRES.out.lower (by omega), BX.out.trans (hbw.mono BX.out.size)⟩
end Go.Proofs.Ytpmabnohdabbdaa
