/-
  FnExactChangeSet: the row.
-/
import Derived.Test.YtenemohjmemoiaaZRowChangeSet6
import Derived.Test.YtenemohjmemoiaaZRowChangeSet7
set_option linter.unusedVariables false
set_option linter.unusedSimpArgs false
namespace Go.Proofs.Ytenemohjmemoiaa.fnExactChangeSet
open Go.ChangeShapes Go.WideShapes Go.ChangeAt Go.RowKit Go.Joins
open Go.ChangeMaps (open_string shut_string)
set_option linter.unusedVariables false
theorem own : ownKnob Try.prog.godebug = none := by kernel_rfl
set_option maxRecDepth 100000 in
set_option maxHeartbeats 1000000 in
theorem lifted (os : Os) (started : os.Started) (H : Type) (enc : TypeId × Value → H) :
    ReturnsInHanded {} Try.checked os 4 .any (Rows.fnExactChangeSetSpec.pre6 enc Try.prog Try.f4 Rows.fnExactChangeSetRow.domain false) (Rows.fnExactChangeSetSpec.post enc Try.prog Try.f4 false true false false) := by
  refine returnsInHanded_of_change (C := Try.checked) own started (by kernel_rfl) Try.func4
    (ChangeSpec.witness6 (enc := enc) (C := Try.checked) false ⟨#[], #[.agg #[.int .i64 0, .slice none 0 0], .int .i64 0, .slice none 0 0, .int .i64 0, .int .i64 0], []⟩ 8 (by kernel_rfl) (by kernel_rfl) (by kernel_rfl) (by kernel_rfl)) ?_
  intro W base args ds gs before hval0 hW hcnd _
  have hval : ∀ (j : Nat) t v, Try.f4.params[j]? = some t → args[j]? = some v → Value.okWide Try.prog W .any base t v := hval0
  have hW' := hW
  obtain ⟨p, q, hA0, hV, rfl, hfz, hnd⟩ := hW
  have hA : DataW.TrodAll enc Try.prog W 0 (fun _ => true) true Try.f4.params.toList args.toList ds p := hA0
  rw [Try.params4] at hA hval
  obtain ⟨v0, vs0, d0, ds0, p0, q0, hargs, rfl, rfl, h0, r0⟩ := trodAll_cons hA
  obtain ⟨v1, vs1, d1, ds1, p1, q1, rfl, rfl, rfl, h1, r1⟩ := trodAll_cons r0
  obtain ⟨v2, vs2, d2, ds2, p2, q2, rfl, rfl, rfl, h2, r2⟩ := trodAll_cons r1
  obtain ⟨v3, vs3, d3, ds3, p3, q3, rfl, rfl, rfl, h3, r3⟩ := trodAll_cons r2
  obtain ⟨v4, vs4, d4, ds4, p4, q4, rfl, rfl, rfl, h4, r4⟩ := trodAll_cons r3
  obtain ⟨rfl, rfl, rfl⟩ := trodAll_nil r4
  obtain rfl : args = #[v0, v1, v2, v3, v4] := by cases args; simp_all
  obtain ⟨rfl, rfl⟩ := trodVars_none hV
  have k0 := h0
  have lt0 : ∀ x ∈ p0, x.block < W.heap.size := by obtain ⟨m, hm⟩ := k0; exact DataW.trod_lt m _ _ _ hm
  have k1 := h1
  have lt1 : ∀ x ∈ p1, x.block < W.heap.size := by obtain ⟨m, hm⟩ := k1; exact DataW.trod_lt m _ _ _ hm
  have k2 := h2
  have lt2 : ∀ x ∈ p2, x.block < W.heap.size := by obtain ⟨m, hm⟩ := k2; exact DataW.trod_lt m _ _ _ hm
  have k3 := h3
  have lt3 : ∀ x ∈ p3, x.block < W.heap.size := by obtain ⟨m, hm⟩ := k3; exact DataW.trod_lt m _ _ _ hm
  have k4 := h4
  have lt4 : ∀ x ∈ p4, x.block < W.heap.size := by obtain ⟨m, hm⟩ := k4; exact DataW.trod_lt m _ _ _ hm
  obtain ⟨c00, c01, y00, y01, m0, rfl, rfl, rfl, hy00, hy01⟩ := open_agg2 Try.underlying30 (by kernel_rfl) (show Try.prog.cellsOf 30 = 2 by kernel_rfl) (hval 0 30 v0 rfl rfl) h0
  obtain ⟨n0, e0, hq0, wn0⟩ := DataW.trod_int Try.underlying2 hy00
  simp at e0
  subst e0
  obtain ⟨xss0, sl0, wb0⟩ := open_SlII hy01
  obtain ⟨a1, rfl, rfl, rfl, w1⟩ := open_int Try.underlying2 (hval 1 2 v1 rfl rfl) h1
  obtain ⟨ai2, li2, ci2, rfl⟩ := okWide_slice Try.underlying31 (hval 2 31 v2 rfl rfl)
  obtain ⟨xs2, sl2, wf2⟩ : ∃ xs, SlI W (.slice ai2 li2 ci2) xs ∧ WfL xs := by obtain ⟨fu, hf⟩ := h2; exact open_SlI (by simpa [Value.cells] using hf)
  obtain ⟨a3, rfl, rfl, rfl, w3⟩ := open_int Try.underlying2 (hval 3 2 v3 rfl rfl) h3
  obtain ⟨a4, rfl, rfl, rfl, w4⟩ := open_int Try.underlying2 (hval 4 2 v4 rfl rfl) h4
  clear hA0 hval0
  refine (FnExactChangeSet_walk n0 a1 a3 a4 W sl0 sl2).mono fun e W' ⟨he, bel⟩ => ?_
  subst he
  exact ⟨_, rfl, _, _, _, [], _, [], hW', trodAll_mk1 (shut_bool Try.underlying4 _), (trodAll_cons_mk (Below.trod laidOut (by kernel_rfl) (of_decide_eq_true (by kernel_rfl)) k0 bel lt0) (trodAll_cons_mk (Below.trod laidOut (by kernel_rfl) (of_decide_eq_true (by kernel_rfl)) k1 bel lt1) (trodAll_cons_mk (Below.trod laidOut (by kernel_rfl) (of_decide_eq_true (by kernel_rfl)) k2 bel lt2) (trodAll_cons_mk (Below.trod laidOut (by kernel_rfl) (of_decide_eq_true (by kernel_rfl)) k3 bel lt3) (trodAll_cons_mk (Below.trod laidOut (by kernel_rfl) (of_decide_eq_true (by kernel_rfl)) k4 bel lt4) trodAll_mk0))))), rfl, bel.frame _, fun h => by cases h⟩
theorem q0 : Rows.fnExactChangeSetRow.wf (OpenSpec.ofChange Rows.fnExactChangeSetSpec) = true := by kernel_rfl
theorem q3 : Try.f4.params.all (Try.checked.prog.readableRec ·) = true := by kernel_rfl
theorem q4 : namedTie Try.checked.prog Rows.fnExactChangeSetRow.named Rows.fnExactChangeSetSpec.vars = true := by kernel_rfl
theorem q5 : (Rows.fnExactChangeSetRow.stops == []) = true := by kernel_rfl
theorem q6 : (Try.checked.prog.stops == []) = true := by kernel_rfl
theorem q7 : (Rows.fnExactChangeSetRow.knobs == []) = true := by kernel_rfl
theorem q8 : (Try.checked.prog.stopKnobs == []) = true := by kernel_rfl
theorem q9 : (Rows.fnExactChangeSetRow.inPlace == Try.checked.prog.inPlace 4) = true := by kernel_rfl
theorem q10 : (Rows.fnExactChangeSetRow.unfollowed == Try.checked.prog.unfollowed 4) = true := by kernel_rfl
theorem q11 : (Rows.fnExactChangeSetRow.recurses == Try.checked.prog.recurses 4) = true := by kernel_rfl
theorem q12 : (Rows.fnExactChangeSetRow.named == Try.checked.prog.varsNamed 4) = true := by kernel_rfl
theorem q13 : (Rows.fnExactChangeSetRow.maps == (Try.f4.params.toList ++ Rows.fnExactChangeSetSpec.plain.varTypes Try.checked.prog).any (Try.checked.prog.mapsRec ·)) = true := by kernel_rfl
theorem q14 : (Rows.fnExactChangeSetRow.ifaces == (Try.f4.params.toList ++ Rows.fnExactChangeSetSpec.plain.varTypes Try.checked.prog).any (Try.checked.prog.ifacesRec ·)) = true := by kernel_rfl
theorem q15 : (Rows.fnExactChangeSetRow.mapsOut == Try.checked.prog.mapsAmong Try.f4.resultTypes.toList) = true := by kernel_rfl
theorem q16 : (Rows.fnExactChangeSetRow.loops == (Try.f4.params.toList ++ Rows.fnExactChangeSetSpec.plain.varTypes Try.checked.prog).any (Try.checked.prog.loopsFrom ·)) = true := by kernel_rfl
theorem q17 : (Rows.fnExactChangeSetRow.wideKeys == (Try.f4.params.toList ++ Rows.fnExactChangeSetSpec.plain.varTypes Try.checked.prog ++ Try.f4.resultTypes.toList).any (Try.checked.prog.wideKeysFrom ·)) = true := by kernel_rfl
theorem q18 : Rows.fnExactChangeSetSpec.vars.all (Try.checked.prog.varReadable ·) = true := by kernel_rfl
theorem q19 : Try.f4.resultTypes.all (fun t => Try.checked.prog.readableRec t && decide (t < Try.checked.prog.types.size)) = true := by kernel_rfl
theorem q20 : (Rows.fnExactChangeSetRow.ifacesOut == Try.f4.resultTypes.toList.any (Try.checked.prog.ifacesRec ·)) = true := by kernel_rfl
theorem q21 : (Rows.fnExactChangeSetRow.loopsOut == Try.f4.resultTypes.toList.any (Try.checked.prog.loopsFrom ·)) = true := by kernel_rfl
theorem q23 : Rows.fnExactChangeSetRow.shortTexts.isNone = true := by kernel_rfl
theorem q28 : (Rows.fnExactChangeSetRow.kinds == (if Rows.fnExactChangeSetRow.domain.isEmpty then [] else Try.f4.params.toList.map fun t => match Try.checked.prog.underlying t with | some (.int k) => some k | _ => none)) = true := by kernel_rfl
theorem q29 : (Rows.fnExactChangeSetRow.pinned == Rows.fnExactChangeSetRow.pinnedBy) = true := by kernel_rfl
theorem q30 : (Rows.fnExactChangeSetRow.veiled == (Try.f4.params.toList ++ Rows.fnExactChangeSetSpec.plain.varTypes Try.checked.prog ++ Try.f4.resultTypes.toList).any (Try.checked.prog.veiledRec ·)) = true := by kernel_rfl
theorem q31 : Rows.fnExactChangeSetRow.veiledFits Try.checked.prog Try.f4.params.toList (Try.f4.params.toList ++ Rows.fnExactChangeSetSpec.plain.varTypes Try.checked.prog ++ Try.f4.resultTypes.toList) = true := by kernel_rfl
set_option maxRecDepth 100000 in
theorem facts : joinedFacts Try.checked.prog 4 Try.f4 Rows.fnExactChangeSetSpec Rows.fnExactChangeSetRow = true := by
  unfold joinedFacts
  exact and_tt (and_tt (and_tt (and_tt (and_tt (and_tt (and_tt (and_tt (and_tt (and_tt (and_tt (and_tt (and_tt (and_tt (and_tt (and_tt (and_tt (and_tt (and_tt (and_tt (and_tt (and_tt (and_tt (and_tt (and_tt (and_tt (and_tt (and_tt (and_tt (and_tt (and_tt (q0) fLaid) fMaps) q3) q4) q5) q6) q7) q8) q9) q10) q11) q12) q13) q14) q15) q16) q17) q18) q19) q20) q21) fKeys) q23) fHeard) fEnter) fFinal) fMake) q28) q29) q30) q31
theorem named : Try.checked.prog.funcNamed Rows.fnExactChangeSetRow.func = some 4 := by kernel_rfl
theorem inst : Try.f4.isInstance Try.checked.prog Rows.fnExactChangeSetRow.origin Rows.fnExactChangeSetRow.targs := of_decide_eq_true (by kernel_rfl)
theorem wrap : Try.f4.isWrapper Try.checked.prog Rows.fnExactChangeSetRow.wrapper Rows.fnExactChangeSetRow.mainSum := by unfold Func.isWrapper; first | (rw [if_pos (by decide +kernel)]; kernel_rfl) | (rw [if_neg (by decide +kernel)]; exact ⟨rfl, rfl⟩)
theorem holds : Rows.FnExactChangeSetSaid :=
  OpenClaim.holds_of_wide 4 Try.f4 rfl rfl rfl rfl rfl rfl rfl ⟨rfl, rfl, rfl, rfl, rfl⟩ rfl rfl rfl rfl rfl named Try.func4 facts inst wrap
    (fun os started H enc _ => lifted os started H enc)
end Go.Proofs.Ytenemohjmemoiaa.fnExactChangeSet
