/-
  Chains and services: counted, copied, compared.
-/
import Derived.Test.YthbbnjpadmcbmaaChainImpl
namespace Go.Proofs.Ythbbnjpadmcbmaa
open Go.RowKit Go.Sort
set_option maxHeartbeats 400000 in
theorem szChain_any {u : Value} {xss : List (List Int)} (s t l : Int) (w : World) (ha : SlII w u xss) (h0 : 0 ≤ l) (h1 : l ≤ 1048576) :
    Calls Try.prog 65 #[.agg #[.int .i64 s, .int .i64 t, u], .int .i64 l] w fun e w' => e = .returned (.int .i64 (szII l xss)) ∧ Below w.heap.size w w' := by
  have hr := szII_range l xss h1
  obtain ⟨a, ca, us, rfl, hca, hca', hul, hrd, hrow⟩ := ha
  have ha : ∀ u : World, Below w.heap.size w u → SlII u (.slice a xss.length ca) xss := fun u hb => SlII.below ⟨a, ca, us, rfl, hca, hca', hul, hrd, hrow⟩ hb
  have HA := Lib.hid ha
  clear ha hca hca' hul hrd hrow
  go_enter Try.func65, Try.ntmps65
  go_wp2_with fail
  refine (szInt64SS_any l _ (HA.out _ ((Below.refl _ _).alloc (Nat.le_refl _) _)) h0 h1).mono ?_
  rintro e w1 ⟨rfl, b1⟩
  generalize hz : szII l xss = q at hr ⊢
  have HZ := Lib.hid hz
  clear hz
  by_cases hq : q < 0
  · obtain rfl : q = -1 := by omega
    go_wp2
    go_ret
    exact ⟨ri HZ.out.symm, ((Below.refl _ _).alloc (Nat.le_refl _) _).trans (b1.mono (by simp))⟩
  · go_wp2
    go_ret
    exact ⟨ri HZ.out.symm, ((Below.refl _ _).alloc (Nat.le_refl _) _).trans (b1.mono (by simp))⟩
set_option maxHeartbeats 800000 in
theorem toChain_any {u : Value} {xss : List (List Int)} (s t : Int) (w : World) (ha : SlII w u xss) (hl : xss.length ≤ 1048576) (hrl : ∀ r ∈ xss, r.length ≤ 1048576) :
    Calls Try.prog 69 #[.agg #[.int .i64 s, .int .i64 t, u]] w fun e w' => ∃ v, e = .returned (.agg #[.int .i64 s, .int .i64 t, v]) ∧ OwnII w' w.heap.size v xss ∧ Below w.heap.size w w' := by
  obtain ⟨a, ca, us, rfl, hca, hca', hul, hrd, hrow⟩ := ha
  have ha : ∀ u : World, Below w.heap.size w u → SlII u (.slice a xss.length ca) xss := fun u hb => SlII.below ⟨a, ca, us, rfl, hca, hca', hul, hrd, hrow⟩ hb
  have HA := Lib.hid ha
  have HL := Lib.hid hrl
  clear ha hca hca' hul hrd hrow hrl
  go_enter Try.func69, Try.ntmps69
  go_wp2_with fail
  refine (toInt64SS_any _ (HA.out _ ((((Below.refl _ _).alloc (Nat.le_refl _) _).alloc (by simp) _).alloc (by simp <;> omega) _)) hl HL.out).mono ?_
  rintro e w1 ⟨v, rfl, hv, b1⟩
  obtain ⟨ad, cc, _, rfl, _⟩ := id hv.sl
  have c0 := b1.cell (p := ⟨w.heap.size + 1 + 1, 0, none⟩) (by simp <;> omega)
  have cf0 := b1.frozen (p := ⟨w.heap.size + 1 + 1, 0, none⟩) (by simp <;> omega)
  have c1 := b1.cell (p := ⟨w.heap.size + 1 + 1, 1, none⟩) (by simp <;> omega)
  have cf1 := b1.frozen (p := ⟨w.heap.size + 1 + 1, 1, none⟩) (by simp <;> omega)
  have c2 := b1.cell (p := ⟨w.heap.size + 1 + 1, 2, none⟩) (by simp <;> omega)
  have cf2 := b1.frozen (p := ⟨w.heap.size + 1 + 1, 2, none⟩) (by simp <;> omega)
  have d0 := b1.cell (p := ⟨w.heap.size + 1, 0, none⟩) (by simp <;> omega)
  have df0 := b1.frozen (p := ⟨w.heap.size + 1, 0, none⟩) (by simp <;> omega)
  have d1 := b1.cell (p := ⟨w.heap.size + 1, 1, none⟩) (by simp <;> omega)
  have df1 := b1.frozen (p := ⟨w.heap.size + 1, 1, none⟩) (by simp <;> omega)
  have d2 := b1.cell (p := ⟨w.heap.size + 1, 2, none⟩) (by simp <;> omega)
  have df2 := b1.frozen (p := ⟨w.heap.size + 1, 2, none⟩) (by simp <;> omega)
  simp [go_sem] at c0 cf0 c1 cf1 c2 cf2 d0 df0 d1 df1 d2 df2
  have z1 := b1.size
  simp at z1
  go_wp2
  refine bodyPost_ret (v := .agg #[.int .i64 s, .int .i64 t, .slice ad xss.length cc]) (by simp [results, Try.results69, go_sem, d0, d1, d2]) rfl ⟨_, rfl, ?_, ?_⟩
  · exact ((((hv.setCell (by simp) _).setCell (by simp <;> omega) _).setCell (by simp <;> omega) _).setCell (by simp <;> omega) _).lower (by simp <;> omega)
  · exact ((((((((Below.refl _ _).alloc (Nat.le_refl _) _).alloc (by simp) _).alloc (by simp <;> omega) _).trans (b1.mono (by simp <;> omega))).setCell (by simp <;> omega) _).setCell (by simp) _).setCell (by simp) _).setCell (by simp) _
def chSame (s t : Int) (xss : List (List Int)) (s' t' : Int) (yss : List (List Int)) : Bool := decide (s = s') && (decide (t = t') && decide (xss = yss))
set_option maxHeartbeats 400000 in
theorem eqChain_any {u v : Value} {xss yss : List (List Int)} (s t s' t' : Int) (w : World) (ha : SlII w u xss) (hb : SlII w v yss) :
    Calls Try.prog 73 #[.agg #[.int .i64 s, .int .i64 t, u], .agg #[.int .i64 s', .int .i64 t', v]] w fun e w' => e = .returned (.bool (chSame s t xss s' t' yss)) ∧ Below w.heap.size w w' := by
  obtain ⟨a, ca, h1⟩ := id ha
  obtain ⟨b, cb, h2⟩ := id hb
  obtain ⟨us, rfl, _⟩ := h1
  obtain ⟨vs, rfl, _⟩ := h2
  have HA := Lib.hid ha
  have HB := Lib.hid hb
  clear ha hb
  have bb := ((Below.refl w.heap.size w).alloc (Nat.le_refl _) (.cells #[.int .i64 s, .int .i64 t, .slice a xss.length ca] 35)).alloc (by simp) (.cells #[.int .i64 s', .int .i64 t', .slice b yss.length cb] 35)
  by_cases hn : s = s'
  · subst hn
    have ht : (s != s) = false := by simp
    by_cases hm : t = t'
    · subst hm
      have ht2 : (t != t) = false := by simp
      go_enter Try.func73, Try.ntmps73
      go_wp2_with fail
      refine (eqInt64SS_any _ (HA.out.below bb) (HB.out.below bb)).mono ?_
      rintro e w1 ⟨rfl, b1⟩
      generalize hd : decide (xss = yss) = d
      have HD := Lib.hid hd
      clear hd
      cases d
      · go_wp2
        go_ret
        exact ⟨rb (by unfold chSame; rw [HD.out]; simp), bb.trans (b1.mono (by simp <;> omega))⟩
      · go_wp2
        go_ret
        exact ⟨rb (by unfold chSame; rw [HD.out]; simp), bb.trans (b1.mono (by simp <;> omega))⟩
    · have ht2 : (t != t') = true := by simp [hm]
      have HM := Lib.hid hm
      clear hm
      go_enter Try.func73, Try.ntmps73
      go_wp2
      go_ret
      exact ⟨rb (by simp [chSame, HM.out]), bb⟩
  · have ht : (s != s') = true := by simp [hn]
    have HN := Lib.hid hn
    clear hn
    go_enter Try.func73, Try.ntmps73
    go_wp2
    go_ret
    exact ⟨rb (by simp [chSame, HN.out]), bb⟩


/-- a service's six cells -/
def svA (s t : Int) (v : Value) (base samples workers : Int) : Value := .agg #[.int .i64 s, .int .i64 t, v, .int .i64 base, .int .i64 samples, .int .i64 workers]
set_option maxHeartbeats 400000 in
theorem szService_any {u : Value} {xss : List (List Int)} (s t bs sm wk l : Int) (w : World) (ha : SlII w u xss) (h0 : 0 ≤ l) (h1 : l ≤ 1048576) :
    Calls Try.prog 13 #[.agg #[.int .i64 s, .int .i64 t, u, .int .i64 bs, .int .i64 sm, .int .i64 wk], .int .i64 l] w fun e w' => e = .returned (.int .i64 (szII l xss)) ∧ Below w.heap.size w w' := by
  have hr := szII_range l xss h1
  obtain ⟨a, ca, us, rfl, hca, hca', hul, hrd, hrow⟩ := ha
  have ha : ∀ u : World, Below w.heap.size w u → SlII u (.slice a xss.length ca) xss := fun u hb => SlII.below ⟨a, ca, us, rfl, hca, hca', hul, hrd, hrow⟩ hb
  have HA := Lib.hid ha
  clear ha hca hca' hul hrd hrow
  go_enter Try.func13, Try.ntmps13
  go_wp2_with fail
  refine (szChain_any s t l _ (HA.out _ ((Below.refl _ _).alloc (Nat.le_refl _) _)) h0 h1).mono ?_
  rintro e w1 ⟨rfl, b1⟩
  generalize hz : szII l xss = q at hr ⊢
  have HZ := Lib.hid hz
  clear hz
  by_cases hq : q < 0
  · obtain rfl : q = -1 := by omega
    go_wp2
    go_ret
    exact ⟨ri HZ.out.symm, ((Below.refl _ _).alloc (Nat.le_refl _) _).trans (b1.mono (by simp))⟩
  · go_wp2
    go_ret
    exact ⟨ri HZ.out.symm, ((Below.refl _ _).alloc (Nat.le_refl _) _).trans (b1.mono (by simp))⟩
set_option maxHeartbeats 1000000 in
theorem toService_any {u : Value} {xss : List (List Int)} (s t bs sm wk : Int) (w : World) (ha : SlII w u xss) (hl : xss.length ≤ 1048576) (hrl : ∀ r ∈ xss, r.length ≤ 1048576) :
    Calls Try.prog 16 #[.agg #[.int .i64 s, .int .i64 t, u, .int .i64 bs, .int .i64 sm, .int .i64 wk]] w fun e w' => ∃ v, e = .returned (.agg #[.int .i64 s, .int .i64 t, v, .int .i64 bs, .int .i64 sm, .int .i64 wk]) ∧ OwnII w' w.heap.size v xss ∧ Below w.heap.size w w' := by
  obtain ⟨a, ca, us, rfl, hca, hca', hul, hrd, hrow⟩ := ha
  have ha : ∀ u : World, Below w.heap.size w u → SlII u (.slice a xss.length ca) xss := fun u hb => SlII.below ⟨a, ca, us, rfl, hca, hca', hul, hrd, hrow⟩ hb
  have HA := Lib.hid ha
  have HL := Lib.hid hrl
  clear ha hca hca' hul hrd hrow hrl
  go_enter Try.func16, Try.ntmps16
  go_wp2_with fail
  refine (toChain_any s t _ (HA.out _ ((((Below.refl _ _).alloc (Nat.le_refl _) _).alloc (by simp) _).alloc (by simp <;> omega) _)) hl HL.out).mono ?_
  rintro e w1 ⟨v, rfl, hv, b1⟩
  obtain ⟨ad, cc, _, rfl, _⟩ := id hv.sl
  have c0 := b1.cell (p := ⟨w.heap.size + 1 + 1, 0, none⟩) (by simp <;> omega)
  have cf0 := b1.frozen (p := ⟨w.heap.size + 1 + 1, 0, none⟩) (by simp <;> omega)
  have c1 := b1.cell (p := ⟨w.heap.size + 1 + 1, 1, none⟩) (by simp <;> omega)
  have cf1 := b1.frozen (p := ⟨w.heap.size + 1 + 1, 1, none⟩) (by simp <;> omega)
  have c2 := b1.cell (p := ⟨w.heap.size + 1 + 1, 2, none⟩) (by simp <;> omega)
  have cf2 := b1.frozen (p := ⟨w.heap.size + 1 + 1, 2, none⟩) (by simp <;> omega)
  have c3 := b1.cell (p := ⟨w.heap.size + 1 + 1, 3, none⟩) (by simp <;> omega)
  have cf3 := b1.frozen (p := ⟨w.heap.size + 1 + 1, 3, none⟩) (by simp <;> omega)
  have c4 := b1.cell (p := ⟨w.heap.size + 1 + 1, 4, none⟩) (by simp <;> omega)
  have cf4 := b1.frozen (p := ⟨w.heap.size + 1 + 1, 4, none⟩) (by simp <;> omega)
  have c5 := b1.cell (p := ⟨w.heap.size + 1 + 1, 5, none⟩) (by simp <;> omega)
  have cf5 := b1.frozen (p := ⟨w.heap.size + 1 + 1, 5, none⟩) (by simp <;> omega)
  have d0 := b1.cell (p := ⟨w.heap.size + 1, 0, none⟩) (by simp <;> omega)
  have df0 := b1.frozen (p := ⟨w.heap.size + 1, 0, none⟩) (by simp <;> omega)
  have d1 := b1.cell (p := ⟨w.heap.size + 1, 1, none⟩) (by simp <;> omega)
  have df1 := b1.frozen (p := ⟨w.heap.size + 1, 1, none⟩) (by simp <;> omega)
  have d2 := b1.cell (p := ⟨w.heap.size + 1, 2, none⟩) (by simp <;> omega)
  have df2 := b1.frozen (p := ⟨w.heap.size + 1, 2, none⟩) (by simp <;> omega)
  have d3 := b1.cell (p := ⟨w.heap.size + 1, 3, none⟩) (by simp <;> omega)
  have df3 := b1.frozen (p := ⟨w.heap.size + 1, 3, none⟩) (by simp <;> omega)
  have d4 := b1.cell (p := ⟨w.heap.size + 1, 4, none⟩) (by simp <;> omega)
  have df4 := b1.frozen (p := ⟨w.heap.size + 1, 4, none⟩) (by simp <;> omega)
  have d5 := b1.cell (p := ⟨w.heap.size + 1, 5, none⟩) (by simp <;> omega)
  have df5 := b1.frozen (p := ⟨w.heap.size + 1, 5, none⟩) (by simp <;> omega)
  have e0 := b1.cell (p := ⟨w.heap.size, 0, none⟩) (by simp <;> omega)
  have e1 := b1.cell (p := ⟨w.heap.size, 1, none⟩) (by simp <;> omega)
  have e2 := b1.cell (p := ⟨w.heap.size, 2, none⟩) (by simp <;> omega)
  have e3 := b1.cell (p := ⟨w.heap.size, 3, none⟩) (by simp <;> omega)
  have e4 := b1.cell (p := ⟨w.heap.size, 4, none⟩) (by simp <;> omega)
  have e5 := b1.cell (p := ⟨w.heap.size, 5, none⟩) (by simp <;> omega)
  simp [go_sem] at c0 cf0 c1 cf1 c2 cf2 c3 cf3 c4 cf4 c5 cf5 d0 df0 d1 df1 d2 df2 d3 df3 d4 df4 d5 df5 e0 e1 e2 e3 e4 e5
  have z1 := b1.size
  simp at z1
  go_wp2
  refine bodyPost_ret (v := .agg #[.int .i64 s, .int .i64 t, .slice ad xss.length cc, .int .i64 bs, .int .i64 sm, .int .i64 wk]) (by simp [results, Try.results16, go_sem, d0, d1, d2, d3, d4, d5]) rfl ⟨_, rfl, ?_, ?_⟩
  · refine OwnII.lower (base := w.heap.size + 1 + 1 + 1) ?_ (by omega)
    repeat (refine OwnII.setCell ?_ (by simp <;> omega) _)
    simpa using hv
  · repeat (refine Below.setCell ?_ (by simp <;> omega) _)
    exact ((((Below.refl _ _).alloc (Nat.le_refl _) _).alloc (by simp) _).alloc (by simp <;> omega) _).trans (b1.mono (by simp <;> omega))
def svSame (s t : Int) (xss : List (List Int)) (bs sm wk s' t' : Int) (yss : List (List Int)) (bs' sm' wk' : Int) : Bool := chSame s t xss s' t' yss && (decide (bs = bs') && (decide (sm = sm') && decide (wk = wk')))
set_option maxHeartbeats 1000000 in
/-- equal services are told to be equal -/
theorem eqService_same {u v : Value} {xss : List (List Int)} (s t bs sm wk : Int) (w : World) (ha : SlII w u xss) (hb : SlII w v xss) :
    Calls Try.prog 20 #[.agg #[.int .i64 s, .int .i64 t, u, .int .i64 bs, .int .i64 sm, .int .i64 wk], .agg #[.int .i64 s, .int .i64 t, v, .int .i64 bs, .int .i64 sm, .int .i64 wk]] w fun e w' => e = .returned (.bool true) ∧ Below w.heap.size w w' := by
  obtain ⟨a, ca, h1⟩ := id ha
  obtain ⟨b, cb, h2⟩ := id hb
  obtain ⟨us, rfl, _⟩ := h1
  obtain ⟨vs, rfl, _⟩ := h2
  have HA := Lib.hid ha
  have HB := Lib.hid hb
  clear ha hb
  have bb := ((Below.refl w.heap.size w).alloc (Nat.le_refl _) (.cells #[.int .i64 s, .int .i64 t, .slice a xss.length ca, .int .i64 bs, .int .i64 sm, .int .i64 wk] 37)).alloc (by simp) (.cells #[.int .i64 s, .int .i64 t, .slice b xss.length cb, .int .i64 bs, .int .i64 sm, .int .i64 wk] 37)
  have t1 : (bs != bs) = false := by simp
  have t2 : (sm != sm) = false := by simp
  have t3 : (wk != wk) = false := by simp
  go_enter Try.func20, Try.ntmps20
  go_wp2_with fail
  refine (eqChain_any s t s t _ (HA.out.below bb) (HB.out.below bb)).mono ?_
  rintro e w1 ⟨rfl, b1⟩
  have c3 := b1.cell (p := ⟨w.heap.size, 3, none⟩) (by simp <;> omega)
  have d3 := b1.cell (p := ⟨w.heap.size + 1, 3, none⟩) (by simp <;> omega)
  have c4 := b1.cell (p := ⟨w.heap.size, 4, none⟩) (by simp <;> omega)
  have d4 := b1.cell (p := ⟨w.heap.size + 1, 4, none⟩) (by simp <;> omega)
  have c5 := b1.cell (p := ⟨w.heap.size, 5, none⟩) (by simp <;> omega)
  have d5 := b1.cell (p := ⟨w.heap.size + 1, 5, none⟩) (by simp <;> omega)
  simp [go_sem] at c3 c4 c5 d3 d4 d5
  rw [show chSame s t xss s t xss = true by simp [chSame]]
  go_wp2
  go_ret
  exact ⟨rfl, bb.trans (b1.mono (by simp <;> omega))⟩
def serviceOk (s t : Int) (xss : List (List Int)) (bs sm wk : Int) : Bool := chainOk s t xss && (inR sm 1 8 && (inR wk 1 4 && inR bs 0 999999992))
end Go.Proofs.Ythbbnjpadmcbmaa
