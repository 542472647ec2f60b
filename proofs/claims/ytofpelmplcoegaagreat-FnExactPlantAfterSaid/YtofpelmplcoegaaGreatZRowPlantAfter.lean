/-
  FnExactPlantAfter: the row.
-/
import Derived.Test.YtofpelmplcoegaaGreatZRowPlantAfter41
import Derived.Test.YtofpelmplcoegaaGreatZRowPlantAfter3
import Derived.Test.YtofpelmplcoegaaGreatZRowPlantAfter24
set_option linter.unusedVariables false
set_option linter.unusedSimpArgs false
namespace Go.Proofs.YtofpelmplcoegaaGreat.fnExactPlantAfter
open Go.ChangeShapes Go.WideShapes Go.ChangeAt Go.RowKit Go.Joins
open Go.ChangeMaps (open_string shut_string)
set_option linter.unusedVariables false
theorem own : ownKnob Tryz.prog.godebug = none := by kernel_rfl
set_option maxRecDepth 100000 in
set_option maxHeartbeats 1000000 in
theorem lifted (os : Os) (started : os.Started) (H : Type) (enc : TypeId × Value → H) :
    ReturnsInHanded {} Tryz.checked os 3 .any (Rows.fnExactPlantAfterSpec.pre6 enc Tryz.prog Tryz.f3 Rows.fnExactPlantAfterRow.domain false) (Rows.fnExactPlantAfterSpec.post enc Tryz.prog Tryz.f3 false true false false) := by
  refine returnsInHanded_of_change (C := Tryz.checked) own started (by kernel_rfl) Tryz.func3
    (ChangeSpec.witness6 (enc := enc) (C := Tryz.checked) false ⟨#[], #[.agg #[.int .i64 0, .int .i64 0, .slice none 0 0, .int .i64 0, .int .i64 0, .int .i64 0], .slice none 0 0], []⟩ 8 (by kernel_rfl) (by kernel_rfl) (by kernel_rfl) (by kernel_rfl)) ?_
  intro W base args ds gs before hval0 hW hcnd _
  have hval : ∀ (j : Nat) t v, Tryz.f3.params[j]? = some t → args[j]? = some v → Value.okWide Tryz.prog W .any base t v := hval0
  have hW' := hW
  obtain ⟨p, q, hA0, hV, rfl, hfz, hnd⟩ := hW
  have hA : DataW.TrodAll enc Tryz.prog W 0 (fun _ => true) true Tryz.f3.params.toList args.toList ds p := hA0
  rw [Tryz.params3] at hA hval
  obtain ⟨v0, vs0, d0, ds0, p0, q0, hargs, rfl, rfl, h0, r0⟩ := trodAll_cons hA
  obtain ⟨v1, vs1, d1, ds1, p1, q1, rfl, rfl, rfl, h1, r1⟩ := trodAll_cons r0
  obtain ⟨rfl, rfl, rfl⟩ := trodAll_nil r1
  obtain rfl : args = #[v0, v1] := by cases args; simp_all
  obtain ⟨rfl, rfl⟩ := trodVars_none hV
  have k0 := h0
  have lt0 : ∀ x ∈ p0, x.block < W.heap.size := by obtain ⟨m, hm⟩ := k0; exact DataW.trod_lt m _ _ _ hm
  have k1 := h1
  have lt1 : ∀ x ∈ p1, x.block < W.heap.size := by obtain ⟨m, hm⟩ := k1; exact DataW.trod_lt m _ _ _ hm
  obtain ⟨s0, t0, u0, xss0, bs0, sm0, wk0, rfl, sl0, ws0, wt0, wx0, wb0, wm0, ww0⟩ := open_service_arg (hval 0 26 v0 rfl rfl) h0
  obtain ⟨ai1, li1, ci1, rfl⟩ := okWide_slice Tryz.underlying27 (hval 1 27 v1 rfl rfl)
  obtain ⟨xs1, sl1, wd1⟩ : ∃ xs, FDeedL.Sl W (.slice ai1 li1 ci1) xs ∧ ∀ y ∈ xs, (-9223372036854775808 ≤ y.1 ∧ y.1 ≤ 9223372036854775807) ∧ (-9223372036854775808 ≤ y.2 ∧ y.2 ≤ 9223372036854775807) := by obtain ⟨fu, hf⟩ := h1; exact open_deeds (by simpa [Value.cells] using hf)
  clear hA0 hval0
  refine (FnExactPlantAfter_walk s0 t0 bs0 sm0 wk0 W sl0 sl1).mono fun e W' ⟨he, bel⟩ => ?_
  subst he
  exact ⟨_, rfl, _, _, _, [], _, [], hW', trodAll_mk1 (shut_bool Tryz.underlying4 _), (trodAll_cons_mk (Below.trod laidOut (by kernel_rfl) (of_decide_eq_true (by kernel_rfl)) k0 bel lt0) (trodAll_cons_mk (Below.trod laidOut (by kernel_rfl) (of_decide_eq_true (by kernel_rfl)) k1 bel lt1) trodAll_mk0)), rfl, bel.frame _, fun h => by cases h⟩
theorem q0 : Rows.fnExactPlantAfterRow.wf (OpenSpec.ofChange Rows.fnExactPlantAfterSpec) = true := by kernel_rfl
theorem q3 : Tryz.f3.params.all (Tryz.checked.prog.readableRec ·) = true := by kernel_rfl
theorem q4 : namedTie Tryz.checked.prog Rows.fnExactPlantAfterRow.named Rows.fnExactPlantAfterSpec.vars = true := by kernel_rfl
theorem q5 : (Rows.fnExactPlantAfterRow.stops == []) = true := by kernel_rfl
theorem q6 : (Tryz.checked.prog.stops == []) = true := by kernel_rfl
theorem q7 : (Rows.fnExactPlantAfterRow.knobs == []) = true := by kernel_rfl
theorem q8 : (Tryz.checked.prog.stopKnobs == []) = true := by kernel_rfl
theorem q9 : (Rows.fnExactPlantAfterRow.inPlace == Tryz.checked.prog.inPlace 3) = true := by kernel_rfl
theorem q10 : (Rows.fnExactPlantAfterRow.unfollowed == Tryz.checked.prog.unfollowed 3) = true := by kernel_rfl
theorem q11 : (Rows.fnExactPlantAfterRow.recurses == Tryz.checked.prog.recurses 3) = true := by kernel_rfl
theorem q12 : (Rows.fnExactPlantAfterRow.named == Tryz.checked.prog.varsNamed 3) = true := by kernel_rfl
theorem q13 : (Rows.fnExactPlantAfterRow.maps == (Tryz.f3.params.toList ++ Rows.fnExactPlantAfterSpec.plain.varTypes Tryz.checked.prog).any (Tryz.checked.prog.mapsRec ·)) = true := by kernel_rfl
theorem q14 : (Rows.fnExactPlantAfterRow.ifaces == (Tryz.f3.params.toList ++ Rows.fnExactPlantAfterSpec.plain.varTypes Tryz.checked.prog).any (Tryz.checked.prog.ifacesRec ·)) = true := by kernel_rfl
theorem q15 : (Rows.fnExactPlantAfterRow.mapsOut == Tryz.checked.prog.mapsAmong Tryz.f3.resultTypes.toList) = true := by kernel_rfl
theorem q16 : (Rows.fnExactPlantAfterRow.loops == (Tryz.f3.params.toList ++ Rows.fnExactPlantAfterSpec.plain.varTypes Tryz.checked.prog).any (Tryz.checked.prog.loopsFrom ·)) = true := by kernel_rfl
theorem q17 : (Rows.fnExactPlantAfterRow.wideKeys == (Tryz.f3.params.toList ++ Rows.fnExactPlantAfterSpec.plain.varTypes Tryz.checked.prog ++ Tryz.f3.resultTypes.toList).any (Tryz.checked.prog.wideKeysFrom ·)) = true := by kernel_rfl
theorem q18 : Rows.fnExactPlantAfterSpec.vars.all (Tryz.checked.prog.varReadable ·) = true := by kernel_rfl
theorem q19 : Tryz.f3.resultTypes.all (fun t => Tryz.checked.prog.readableRec t && decide (t < Tryz.checked.prog.types.size)) = true := by kernel_rfl
theorem q20 : (Rows.fnExactPlantAfterRow.ifacesOut == Tryz.f3.resultTypes.toList.any (Tryz.checked.prog.ifacesRec ·)) = true := by kernel_rfl
theorem q21 : (Rows.fnExactPlantAfterRow.loopsOut == Tryz.f3.resultTypes.toList.any (Tryz.checked.prog.loopsFrom ·)) = true := by kernel_rfl
theorem q23 : Rows.fnExactPlantAfterRow.shortTexts.isNone = true := by kernel_rfl
theorem q28 : (Rows.fnExactPlantAfterRow.kinds == (if Rows.fnExactPlantAfterRow.domain.isEmpty then [] else Tryz.f3.params.toList.map fun t => match Tryz.checked.prog.underlying t with | some (.int k) => some k | _ => none)) = true := by kernel_rfl
theorem q29 : (Rows.fnExactPlantAfterRow.pinned == Rows.fnExactPlantAfterRow.pinnedBy) = true := by kernel_rfl
theorem q30 : (Rows.fnExactPlantAfterRow.veiled == (Tryz.f3.params.toList ++ Rows.fnExactPlantAfterSpec.plain.varTypes Tryz.checked.prog ++ Tryz.f3.resultTypes.toList).any (Tryz.checked.prog.veiledRec ·)) = true := by kernel_rfl
theorem q31 : Rows.fnExactPlantAfterRow.veiledFits Tryz.checked.prog Tryz.f3.params.toList (Tryz.f3.params.toList ++ Rows.fnExactPlantAfterSpec.plain.varTypes Tryz.checked.prog ++ Tryz.f3.resultTypes.toList) = true := by kernel_rfl
set_option maxRecDepth 100000 in
theorem facts : joinedFacts Tryz.checked.prog 3 Tryz.f3 Rows.fnExactPlantAfterSpec Rows.fnExactPlantAfterRow = true := by
  unfold joinedFacts
  exact and_tt (and_tt (and_tt (and_tt (and_tt (and_tt (and_tt (and_tt (and_tt (and_tt (and_tt (and_tt (and_tt (and_tt (and_tt (and_tt (and_tt (and_tt (and_tt (and_tt (and_tt (and_tt (and_tt (and_tt (and_tt (and_tt (and_tt (and_tt (and_tt (and_tt (and_tt (q0) fLaid) fMaps) q3) q4) q5) q6) q7) q8) q9) q10) q11) q12) q13) q14) q15) q16) q17) q18) q19) q20) q21) fKeys) q23) fHeard) fEnter) fFinal) fMake) q28) q29) q30) q31
theorem named : Tryz.checked.prog.funcNamed Rows.fnExactPlantAfterRow.func = some 3 := by kernel_rfl
theorem inst : Tryz.f3.isInstance Tryz.checked.prog Rows.fnExactPlantAfterRow.origin Rows.fnExactPlantAfterRow.targs := of_decide_eq_true (by kernel_rfl)
theorem wrap : Tryz.f3.isWrapper Tryz.checked.prog Rows.fnExactPlantAfterRow.wrapper Rows.fnExactPlantAfterRow.mainSum := by unfold Func.isWrapper; first | (rw [if_pos (by decide +kernel)]; kernel_rfl) | (rw [if_neg (by decide +kernel)]; exact ⟨rfl, rfl⟩)
theorem holds : Rows.FnExactPlantAfterSaid :=
  OpenClaim.holds_of_wide 3 Tryz.f3 rfl rfl rfl rfl rfl rfl rfl ⟨rfl, rfl, rfl, rfl, rfl⟩ rfl rfl rfl rfl rfl named Tryz.func3 facts inst wrap
    (fun os started H enc _ => lifted os started H enc)
end Go.Proofs.YtofpelmplcoegaaGreat.fnExactPlantAfter
