/-
  Graphs: copied, counted, compared.
-/
import Derived.Test.YtmhpbkckmjdojaaBaseII
namespace Go.Proofs.Ytmhpbkckmjdojaa
open Go.RowKit Go.Sort
def graphV (n : Int) (v : Value) : Value := .agg #[.int .i64 n, v]
set_option maxHeartbeats 400000 in
theorem szGraph_any {u : Value} {xss : List (List Int)} (n l : Int) (w : World) (ha : SlII w u xss) (h0 : 0 ≤ l) (h1 : l ≤ 1048576) :
    Calls Try.prog 6 #[.agg #[.int .i64 n, u], .int .i64 l] w fun e w' => e = .returned (.int .i64 (szII l xss)) ∧ Below w.heap.size w w' := by
  have hr := szII_range l xss h1
  obtain ⟨a, ca, us, rfl, hca, hca', hul, hrd, hrow⟩ := ha
  have ha : ∀ u : World, Below w.heap.size w u → SlII u (.slice a xss.length ca) xss := fun u hb => SlII.below ⟨a, ca, us, rfl, hca, hca', hul, hrd, hrow⟩ hb
  have HA := Lib.hid ha
  clear ha hca hca' hul hrd hrow
  go_enter Try.func6, Try.ntmps6
  go_wp2_with fail
  refine (szInt64SS_any l _ (HA.out _ ((Below.refl _ _).alloc (Nat.le_refl _) _)) h0 h1).mono ?_
  rintro e w1 ⟨rfl, b1⟩
  generalize hz : szII l xss = q at hr ⊢
  have HZ := Lib.hid hz
  clear hz
  by_cases hq : q < 0
  · obtain rfl : q = -1 := by omega
    go_wp2
    go_ret
    exact ⟨ri HZ.out.symm, ((Below.refl _ _).alloc (Nat.le_refl _) _).trans (b1.mono (by simp))⟩
  · go_wp2
    go_ret
    exact ⟨ri HZ.out.symm, ((Below.refl _ _).alloc (Nat.le_refl _) _).trans (b1.mono (by simp))⟩
set_option maxHeartbeats 400000 in
theorem toGraph_any {u : Value} {xss : List (List Int)} (n : Int) (w : World) (ha : SlII w u xss) (hl : xss.length ≤ 1048576) (hrl : ∀ r ∈ xss, r.length ≤ 1048576) :
    Calls Try.prog 8 #[.agg #[.int .i64 n, u]] w fun e w' => ∃ v, e = .returned (.agg #[.int .i64 n, v]) ∧ OwnII w' w.heap.size v xss ∧ Below w.heap.size w w' := by
  obtain ⟨a, ca, us, rfl, hca, hca', hul, hrd, hrow⟩ := ha
  have ha : ∀ u : World, Below w.heap.size w u → SlII u (.slice a xss.length ca) xss := fun u hb => SlII.below ⟨a, ca, us, rfl, hca, hca', hul, hrd, hrow⟩ hb
  have HA := Lib.hid ha
  have HL := Lib.hid hrl
  clear ha hca hca' hul hrd hrow hrl
  go_enter Try.func8, Try.ntmps8
  go_wp2_with fail
  refine (toInt64SS_any _ (HA.out _ ((((Below.refl _ _).alloc (Nat.le_refl _) _).alloc (by simp) _).alloc (by simp <;> omega) _)) hl HL.out).mono ?_
  rintro e w1 ⟨v, rfl, hv, b1⟩
  obtain ⟨ad, cc, _, rfl, _⟩ := id hv.sl
  have c2 := b1.cell (p := ⟨w.heap.size + 1 + 1, 0, none⟩) (by simp)
  have c3 := b1.cell (p := ⟨w.heap.size + 1 + 1, 1, none⟩) (by simp)
  have f3 := b1.frozen (p := ⟨w.heap.size + 1 + 1, 1, none⟩) (by simp)
  have d0 := b1.cell (p := ⟨w.heap.size + 1, 0, none⟩) (by simp)
  have d1 := b1.cell (p := ⟨w.heap.size + 1, 1, none⟩) (by simp)
  have e0 := b1.frozen (p := ⟨w.heap.size + 1, 0, none⟩) (by simp)
  have e1 := b1.frozen (p := ⟨w.heap.size + 1, 1, none⟩) (by simp)
  simp [go_sem] at c2 c3 f3 d0 d1 e0 e1
  have z1 := b1.size
  simp at z1
  go_wp2
  refine bodyPost_ret (v := .agg #[.int .i64 n, .slice ad xss.length cc]) (by simp [results, Try.results8, go_sem, d0, d1]) rfl ⟨_, rfl, ?_, ?_⟩
  · exact (((hv.setCell (by simp) _).setCell (by simp <;> omega) _).setCell (by simp <;> omega) _).lower (by simp <;> omega)
  · exact (((((((Below.refl _ _).alloc (Nat.le_refl _) _).alloc (by simp) _).alloc (by simp <;> omega) _).trans (b1.mono (by simp <;> omega))).setCell (by simp <;> omega) _).setCell (by simp) _).setCell (by simp) _
set_option maxHeartbeats 400000 in
theorem eqGraph_any {u v : Value} {xss yss : List (List Int)} (n m : Int) (w : World) (ha : SlII w u xss) (hb : SlII w v yss) :
    Calls Try.prog 12 #[.agg #[.int .i64 n, u], .agg #[.int .i64 m, v]] w fun e w' => e = .returned (.bool (decide (n = m) && decide (xss = yss))) ∧ Below w.heap.size w w' := by
  obtain ⟨a, ca, h1⟩ := id ha
  obtain ⟨b, cb, h2⟩ := id hb
  obtain ⟨us, rfl, _⟩ := h1
  obtain ⟨vs, rfl, _⟩ := h2
  have HA := Lib.hid ha
  have HB := Lib.hid hb
  clear ha hb
  by_cases hn : n = m
  · subst hn
    have ht : (n != n) = false := by simp
    go_enter Try.func12, Try.ntmps12
    go_wp2_with fail
    have bb := ((Below.refl w.heap.size w).alloc (Nat.le_refl _) (.cells #[.int .i64 n, .slice a xss.length ca] 29)).alloc (by simp) (.cells #[.int .i64 n, .slice b yss.length cb] 29)
    refine (eqInt64SS_any _ (HA.out.below bb) (HB.out.below bb)).mono ?_
    rintro e w1 ⟨rfl, b1⟩
    generalize hd : decide (xss = yss) = d
    have HD := Lib.hid hd
    clear hd
    cases d
    · go_wp2
      go_ret
      exact ⟨rb (by rw [HD.out]; simp), bb.trans (b1.mono (by simp <;> omega))⟩
    · go_wp2
      go_ret
      exact ⟨rb (by rw [HD.out]; simp), bb.trans (b1.mono (by simp <;> omega))⟩
  · have ht : (n != m) = true := by simp [hn]
    have HN := Lib.hid hn
    clear hn
    go_enter Try.func12, Try.ntmps12
    go_wp2
    go_ret
    exact ⟨rb (by simp [HN.out]), ((Below.refl _ _).alloc (Nat.le_refl _) _).alloc (by simp) _⟩
end Go.Proofs.Ytmhpbkckmjdojaa
