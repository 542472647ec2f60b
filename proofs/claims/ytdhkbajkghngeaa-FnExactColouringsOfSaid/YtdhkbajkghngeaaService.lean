/-
  Chains and services: counted, copied, compared.
-/
import Derived.Test.YtdhkbajkghngeaaChainImpl
namespace Go.Proofs.Ytdhkbajkghngeaa
open Go.RowKit Go.Sort
set_option maxHeartbeats 400000 in
theorem szChain_any {u : Value} {xss : List (List Int)} (s t l : Int) (w : World) (ha : SlII w u xss) (h0 : 0 ≤ l) (h1 : l ≤ 1048576) :
    Calls Try.prog 34 #[.agg #[.int .i64 s, .int .i64 t, u], .int .i64 l] w fun e w' => e = .returned (.int .i64 (szII l xss)) ∧ Below w.heap.size w w' := by
  have hr := szII_range l xss h1
  obtain ⟨a, ca, us, rfl, hca, hca', hul, hrd, hrow⟩ := ha
  have ha : ∀ u : World, Below w.heap.size w u → SlII u (.slice a xss.length ca) xss := fun u hb => SlII.below ⟨a, ca, us, rfl, hca, hca', hul, hrd, hrow⟩ hb
  have HA := Lib.hid ha
  clear ha hca hca' hul hrd hrow
  go_enter Try.func34, Try.ntmps34
  go_wp2_with fail
  refine (szInt64SS_any l _ (HA.out _ ((Below.refl _ _).alloc (Nat.le_refl _) _)) h0 h1).mono ?_
  rintro e w1 ⟨rfl, b1⟩
  generalize hz : szII l xss = q at hr ⊢
  have HZ := Lib.hid hz
  clear hz
  by_cases hq : q < 0
  · obtain rfl : q = -1 := by omega
    go_wp2
    go_ret
    exact ⟨ri HZ.out.symm, ((Below.refl _ _).alloc (Nat.le_refl _) _).trans (b1.mono (by simp))⟩
  · go_wp2
    go_ret
    exact ⟨ri HZ.out.symm, ((Below.refl _ _).alloc (Nat.le_refl _) _).trans (b1.mono (by simp))⟩
set_option maxHeartbeats 800000 in
theorem toChain_any {u : Value} {xss : List (List Int)} (s t : Int) (w : World) (ha : SlII w u xss) (hl : xss.length ≤ 1048576) (hrl : ∀ r ∈ xss, r.length ≤ 1048576) :
    Calls Try.prog 36 #[.agg #[.int .i64 s, .int .i64 t, u]] w fun e w' => ∃ v, e = .returned (.agg #[.int .i64 s, .int .i64 t, v]) ∧ OwnII w' w.heap.size v xss ∧ Below w.heap.size w w' := by
  obtain ⟨a, ca, us, rfl, hca, hca', hul, hrd, hrow⟩ := ha
  have ha : ∀ u : World, Below w.heap.size w u → SlII u (.slice a xss.length ca) xss := fun u hb => SlII.below ⟨a, ca, us, rfl, hca, hca', hul, hrd, hrow⟩ hb
  have HA := Lib.hid ha
  have HL := Lib.hid hrl
  clear ha hca hca' hul hrd hrow hrl
  go_enter Try.func36, Try.ntmps36
  go_wp2_with fail
  refine (toInt64SS_any _ (HA.out _ ((((Below.refl _ _).alloc (Nat.le_refl _) _).alloc (by simp) _).alloc (by simp <;> omega) _)) hl HL.out).mono ?_
  rintro e w1 ⟨v, rfl, hv, b1⟩
  obtain ⟨ad, cc, _, rfl, _⟩ := id hv.sl
  have c0 := b1.cell (p := ⟨w.heap.size + 1 + 1, 0, none⟩) (by simp <;> omega)
  have cf0 := b1.frozen (p := ⟨w.heap.size + 1 + 1, 0, none⟩) (by simp <;> omega)
  have c1 := b1.cell (p := ⟨w.heap.size + 1 + 1, 1, none⟩) (by simp <;> omega)
  have cf1 := b1.frozen (p := ⟨w.heap.size + 1 + 1, 1, none⟩) (by simp <;> omega)
  have c2 := b1.cell (p := ⟨w.heap.size + 1 + 1, 2, none⟩) (by simp <;> omega)
  have cf2 := b1.frozen (p := ⟨w.heap.size + 1 + 1, 2, none⟩) (by simp <;> omega)
  have d0 := b1.cell (p := ⟨w.heap.size + 1, 0, none⟩) (by simp <;> omega)
  have df0 := b1.frozen (p := ⟨w.heap.size + 1, 0, none⟩) (by simp <;> omega)
  have d1 := b1.cell (p := ⟨w.heap.size + 1, 1, none⟩) (by simp <;> omega)
  have df1 := b1.frozen (p := ⟨w.heap.size + 1, 1, none⟩) (by simp <;> omega)
  have d2 := b1.cell (p := ⟨w.heap.size + 1, 2, none⟩) (by simp <;> omega)
  have df2 := b1.frozen (p := ⟨w.heap.size + 1, 2, none⟩) (by simp <;> omega)
  simp [go_sem] at c0 cf0 c1 cf1 c2 cf2 d0 df0 d1 df1 d2 df2
  have z1 := b1.size
  simp at z1
  go_wp2
  refine bodyPost_ret (v := .agg #[.int .i64 s, .int .i64 t, .slice ad xss.length cc]) (by simp [results, Try.results36, go_sem, d0, d1, d2]) rfl ⟨_, rfl, ?_, ?_⟩
  · exact ((((hv.setCell (by simp) _).setCell (by simp <;> omega) _).setCell (by simp <;> omega) _).setCell (by simp <;> omega) _).lower (by simp <;> omega)
  · exact ((((((((Below.refl _ _).alloc (Nat.le_refl _) _).alloc (by simp) _).alloc (by simp <;> omega) _).trans (b1.mono (by simp <;> omega))).setCell (by simp <;> omega) _).setCell (by simp) _).setCell (by simp) _).setCell (by simp) _
def chSame (s t : Int) (xss : List (List Int)) (s' t' : Int) (yss : List (List Int)) : Bool := decide (s = s') && (decide (t = t') && decide (xss = yss))
set_option maxHeartbeats 400000 in
theorem eqChain_any {u v : Value} {xss yss : List (List Int)} (s t s' t' : Int) (w : World) (ha : SlII w u xss) (hb : SlII w v yss) :
    Calls Try.prog 38 #[.agg #[.int .i64 s, .int .i64 t, u], .agg #[.int .i64 s', .int .i64 t', v]] w fun e w' => e = .returned (.bool (chSame s t xss s' t' yss)) ∧ Below w.heap.size w w' := by
  obtain ⟨a, ca, h1⟩ := id ha
  obtain ⟨b, cb, h2⟩ := id hb
  obtain ⟨us, rfl, _⟩ := h1
  obtain ⟨vs, rfl, _⟩ := h2
  have HA := Lib.hid ha
  have HB := Lib.hid hb
  clear ha hb
  have bb := ((Below.refl w.heap.size w).alloc (Nat.le_refl _) (.cells #[.int .i64 s, .int .i64 t, .slice a xss.length ca] 51)).alloc (by simp) (.cells #[.int .i64 s', .int .i64 t', .slice b yss.length cb] 51)
  by_cases hn : s = s'
  · subst hn
    have ht : (s != s) = false := by simp
    by_cases hm : t = t'
    · subst hm
      have ht2 : (t != t) = false := by simp
      go_enter Try.func38, Try.ntmps38
      go_wp2_with fail
      refine (eqInt64SS_any _ (HA.out.below bb) (HB.out.below bb)).mono ?_
      rintro e w1 ⟨rfl, b1⟩
      generalize hd : decide (xss = yss) = d
      have HD := Lib.hid hd
      clear hd
      cases d
      · go_wp2
        go_ret
        exact ⟨rb (by unfold chSame; rw [HD.out]; simp), bb.trans (b1.mono (by simp <;> omega))⟩
      · go_wp2
        go_ret
        exact ⟨rb (by unfold chSame; rw [HD.out]; simp), bb.trans (b1.mono (by simp <;> omega))⟩
    · have ht2 : (t != t') = true := by simp [hm]
      have HM := Lib.hid hm
      clear hm
      go_enter Try.func38, Try.ntmps38
      go_wp2
      go_ret
      exact ⟨rb (by simp [chSame, HM.out]), bb⟩
  · have ht : (s != s') = true := by simp [hn]
    have HN := Lib.hid hn
    clear hn
    go_enter Try.func38, Try.ntmps38
    go_wp2
    go_ret
    exact ⟨rb (by simp [chSame, HN.out]), bb⟩

end Go.Proofs.Ytdhkbajkghngeaa
