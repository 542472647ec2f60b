/-
  FnExactStepPaths: the row.
-/
import Derived.Test.YtpmabnohdabbdaaZRowStepPaths26
import Derived.Test.YtpmabnohdabbdaaZRowStepPaths3
import Derived.Test.YtpmabnohdabbdaaZRowStepPaths15
set_option linter.unusedVariables false
set_option linter.unusedSimpArgs false
namespace Go.Proofs.Ytpmabnohdabbdaa.fnExactStepPaths
open Go.ChangeShapes Go.WideShapes Go.ChangeAt Go.RowKit Go.Joins
open Go.ChangeMaps (open_string shut_string)
set_option linter.unusedVariables false
theorem own : ownKnob Try.prog.godebug = none := by kernel_rfl
set_option maxRecDepth 100000 in
set_option maxHeartbeats 1000000 in
theorem lifted (os : Os) (started : os.Started) (H : Type) (enc : TypeId × Value → H) :
    ReturnsInHanded {} Try.checked os 5 .any (Rows.fnExactStepPathsSpec.pre6 enc Try.prog Try.f5 Rows.fnExactStepPathsRow.domain false) (Rows.fnExactStepPathsSpec.post enc Try.prog Try.f5 false true false false) := by
  refine returnsInHanded_of_change (C := Try.checked) own started (by kernel_rfl) Try.func5
    (ChangeSpec.witness6 (enc := enc) (C := Try.checked) false ⟨#[], #[.agg #[.int .i64 0, .int .i64 0, .slice none 0 0], .agg #[.int .i64 0, .int .i64 0, .slice none 0 0]], []⟩ 8 (by kernel_rfl) (by kernel_rfl) (by kernel_rfl) (by kernel_rfl)) ?_
  intro W base args ds gs before hval0 hW hcnd _
  have hval : ∀ (j : Nat) t v, Try.f5.params[j]? = some t → args[j]? = some v → Value.okWide Try.prog W .any base t v := hval0
  have hW' := hW
  obtain ⟨p, q, hA0, hV, rfl, hfz, hnd⟩ := hW
  have hA : DataW.TrodAll enc Try.prog W 0 (fun _ => true) true Try.f5.params.toList args.toList ds p := hA0
  rw [Try.params5] at hA hval
  obtain ⟨v0, vs0, d0, ds0, p0, q0, hargs, rfl, rfl, h0, r0⟩ := trodAll_cons hA
  obtain ⟨v1, vs1, d1, ds1, p1, q1, rfl, rfl, rfl, h1, r1⟩ := trodAll_cons r0
  obtain ⟨rfl, rfl, rfl⟩ := trodAll_nil r1
  obtain rfl : args = #[v0, v1] := by cases args; simp_all
  obtain ⟨rfl, rfl⟩ := trodVars_none hV
  have k0 := h0
  have lt0 : ∀ x ∈ p0, x.block < W.heap.size := by obtain ⟨m, hm⟩ := k0; exact DataW.trod_lt m _ _ _ hm
  have k1 := h1
  have lt1 : ∀ x ∈ p1, x.block < W.heap.size := by obtain ⟨m, hm⟩ := k1; exact DataW.trod_lt m _ _ _ hm
  obtain ⟨s0, t0, u0, xss0, rfl, sl0, ws0, wt0, wx0⟩ := open_chain_arg (hval 0 33 v0 rfl rfl) h0
  obtain ⟨s1, t1, u1, xss1, rfl, sl1, ws1, wt1, wx1⟩ := open_chain_arg (hval 1 33 v1 rfl rfl) h1
  clear hA0 hval0
  refine (FnExactStepPaths_walk s0 t0 s1 t1 W sl0 sl1).mono fun e W' ⟨he, bel⟩ => ?_
  subst he
  exact ⟨_, rfl, _, _, _, [], _, [], hW', trodAll_mk1 (shut_bool Try.underlying4 _), (trodAll_cons_mk (Below.trod laidOut (by kernel_rfl) (of_decide_eq_true (by kernel_rfl)) k0 bel lt0) (trodAll_cons_mk (Below.trod laidOut (by kernel_rfl) (of_decide_eq_true (by kernel_rfl)) k1 bel lt1) trodAll_mk0)), rfl, bel.frame _, fun h => by cases h⟩
theorem q0 : Rows.fnExactStepPathsRow.wf (OpenSpec.ofChange Rows.fnExactStepPathsSpec) = true := by kernel_rfl
theorem q3 : Try.f5.params.all (Try.checked.prog.readableRec ·) = true := by kernel_rfl
theorem q4 : namedTie Try.checked.prog Rows.fnExactStepPathsRow.named Rows.fnExactStepPathsSpec.vars = true := by kernel_rfl
theorem q5 : (Rows.fnExactStepPathsRow.stops == []) = true := by kernel_rfl
theorem q6 : (Try.checked.prog.stops == []) = true := by kernel_rfl
theorem q7 : (Rows.fnExactStepPathsRow.knobs == []) = true := by kernel_rfl
theorem q8 : (Try.checked.prog.stopKnobs == []) = true := by kernel_rfl
theorem q9 : (Rows.fnExactStepPathsRow.inPlace == Try.checked.prog.inPlace 5) = true := by kernel_rfl
theorem q10 : (Rows.fnExactStepPathsRow.unfollowed == Try.checked.prog.unfollowed 5) = true := by kernel_rfl
theorem q11 : (Rows.fnExactStepPathsRow.recurses == Try.checked.prog.recurses 5) = true := by kernel_rfl
theorem q12 : (Rows.fnExactStepPathsRow.named == Try.checked.prog.varsNamed 5) = true := by kernel_rfl
theorem q13 : (Rows.fnExactStepPathsRow.maps == (Try.f5.params.toList ++ Rows.fnExactStepPathsSpec.plain.varTypes Try.checked.prog).any (Try.checked.prog.mapsRec ·)) = true := by kernel_rfl
theorem q14 : (Rows.fnExactStepPathsRow.ifaces == (Try.f5.params.toList ++ Rows.fnExactStepPathsSpec.plain.varTypes Try.checked.prog).any (Try.checked.prog.ifacesRec ·)) = true := by kernel_rfl
theorem q15 : (Rows.fnExactStepPathsRow.mapsOut == Try.checked.prog.mapsAmong Try.f5.resultTypes.toList) = true := by kernel_rfl
theorem q16 : (Rows.fnExactStepPathsRow.loops == (Try.f5.params.toList ++ Rows.fnExactStepPathsSpec.plain.varTypes Try.checked.prog).any (Try.checked.prog.loopsFrom ·)) = true := by kernel_rfl
theorem q17 : (Rows.fnExactStepPathsRow.wideKeys == (Try.f5.params.toList ++ Rows.fnExactStepPathsSpec.plain.varTypes Try.checked.prog ++ Try.f5.resultTypes.toList).any (Try.checked.prog.wideKeysFrom ·)) = true := by kernel_rfl
theorem q18 : Rows.fnExactStepPathsSpec.vars.all (Try.checked.prog.varReadable ·) = true := by kernel_rfl
theorem q19 : Try.f5.resultTypes.all (fun t => Try.checked.prog.readableRec t && decide (t < Try.checked.prog.types.size)) = true := by kernel_rfl
theorem q20 : (Rows.fnExactStepPathsRow.ifacesOut == Try.f5.resultTypes.toList.any (Try.checked.prog.ifacesRec ·)) = true := by kernel_rfl
theorem q21 : (Rows.fnExactStepPathsRow.loopsOut == Try.f5.resultTypes.toList.any (Try.checked.prog.loopsFrom ·)) = true := by kernel_rfl
theorem q23 : Rows.fnExactStepPathsRow.shortTexts.isNone = true := by kernel_rfl
theorem q28 : (Rows.fnExactStepPathsRow.kinds == (if Rows.fnExactStepPathsRow.domain.isEmpty then [] else Try.f5.params.toList.map fun t => match Try.checked.prog.underlying t with | some (.int k) => some k | _ => none)) = true := by kernel_rfl
theorem q29 : (Rows.fnExactStepPathsRow.pinned == Rows.fnExactStepPathsRow.pinnedBy) = true := by kernel_rfl
theorem q30 : (Rows.fnExactStepPathsRow.veiled == (Try.f5.params.toList ++ Rows.fnExactStepPathsSpec.plain.varTypes Try.checked.prog ++ Try.f5.resultTypes.toList).any (Try.checked.prog.veiledRec ·)) = true := by kernel_rfl
theorem q31 : Rows.fnExactStepPathsRow.veiledFits Try.checked.prog Try.f5.params.toList (Try.f5.params.toList ++ Rows.fnExactStepPathsSpec.plain.varTypes Try.checked.prog ++ Try.f5.resultTypes.toList) = true := by kernel_rfl
set_option maxRecDepth 100000 in
theorem facts : joinedFacts Try.checked.prog 5 Try.f5 Rows.fnExactStepPathsSpec Rows.fnExactStepPathsRow = true := by
  unfold joinedFacts
  exact and_tt (and_tt (and_tt (and_tt (and_tt (and_tt (and_tt (and_tt (and_tt (and_tt (and_tt (and_tt (and_tt (and_tt (and_tt (and_tt (and_tt (and_tt (and_tt (and_tt (and_tt (and_tt (and_tt (and_tt (and_tt (and_tt (and_tt (and_tt (and_tt (and_tt (and_tt (q0) fLaid) fMaps) q3) q4) q5) q6) q7) q8) q9) q10) q11) q12) q13) q14) q15) q16) q17) q18) q19) q20) q21) fKeys) q23) fHeard) fEnter) fFinal) fMake) q28) q29) q30) q31
theorem named : Try.checked.prog.funcNamed Rows.fnExactStepPathsRow.func = some 5 := by kernel_rfl
theorem inst : Try.f5.isInstance Try.checked.prog Rows.fnExactStepPathsRow.origin Rows.fnExactStepPathsRow.targs := of_decide_eq_true (by kernel_rfl)
theorem wrap : Try.f5.isWrapper Try.checked.prog Rows.fnExactStepPathsRow.wrapper Rows.fnExactStepPathsRow.mainSum := by unfold Func.isWrapper; first | (rw [if_pos (by decide +kernel)]; kernel_rfl) | (rw [if_neg (by decide +kernel)]; exact ⟨rfl, rfl⟩)
theorem holds : Rows.FnExactStepPathsSaid :=
  OpenClaim.holds_of_wide 5 Try.f5 rfl rfl rfl rfl rfl rfl rfl ⟨rfl, rfl, rfl, rfl, rfl⟩ rfl rfl rfl rfl rfl named Try.func5 facts inst wrap
    (fun os started H enc _ => lifted os started H enc)
end Go.Proofs.Ytpmabnohdabbdaa.fnExactStepPaths
