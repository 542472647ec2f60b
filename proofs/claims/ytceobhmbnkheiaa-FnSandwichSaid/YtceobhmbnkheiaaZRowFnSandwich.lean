/-
  FnSandwich: the row.
-/
import Derived.Test.YtceobhmbnkheiaaZRowFnSandwich19
import Derived.Test.YtceobhmbnkheiaaZRowFnSandwich3
import Derived.Test.YtceobhmbnkheiaaZRowFnSandwich9
set_option linter.unusedVariables false
set_option linter.unusedSimpArgs false
namespace Go.Proofs.Ytceobhmbnkheiaa.fnSandwich
open Go.ChangeShapes Go.WideShapes Go.ChangeAt Go.RowKit Go.Joins
open Go.ChangeMaps (open_string shut_string)
set_option linter.unusedVariables false
theorem own : ownKnob Try.prog.godebug = none := by kernel_rfl
set_option maxRecDepth 100000 in
set_option maxHeartbeats 1000000 in
theorem lifted (os : Os) (started : os.Started) (H : Type) (enc : TypeId × Value → H) :
    ReturnsInHanded {} Try.checked os 3 .any (Rows.fnSandwichSpec.pre6 enc Try.prog Try.f3 Rows.fnSandwichRow.domain false) (Rows.fnSandwichSpec.post enc Try.prog Try.f3 false true false false) := by
  refine returnsInHanded_of_change (C := Try.checked) own started (by kernel_rfl) Try.func3
    (ChangeSpec.witness6 (enc := enc) (C := Try.checked) false ⟨#[], #[.slice none 0 0, .slice none 0 0], []⟩ 8 (by kernel_rfl) (by kernel_rfl) (by kernel_rfl) (by kernel_rfl)) ?_
  intro W base args ds gs before hval0 hW hcnd _
  have hval : ∀ (j : Nat) t v, Try.f3.params[j]? = some t → args[j]? = some v → Value.okWide Try.prog W .any base t v := hval0
  have hW' := hW
  obtain ⟨p, q, hA0, hV, rfl, hfz, hnd⟩ := hW
  have hA : DataW.TrodAll enc Try.prog W 0 (fun _ => true) true Try.f3.params.toList args.toList ds p := hA0
  rw [Try.params3] at hA hval
  obtain ⟨v0, vs0, d0, ds0, p0, q0, hargs, rfl, rfl, h0, r0⟩ := trodAll_cons hA
  obtain ⟨v1, vs1, d1, ds1, p1, q1, rfl, rfl, rfl, h1, r1⟩ := trodAll_cons r0
  obtain ⟨rfl, rfl, rfl⟩ := trodAll_nil r1
  obtain rfl : args = #[v0, v1] := by cases args; simp_all
  obtain ⟨rfl, rfl⟩ := trodVars_none hV
  have k0 := h0
  have lt0 : ∀ x ∈ p0, x.block < W.heap.size := by obtain ⟨m, hm⟩ := k0; exact DataW.trod_lt m _ _ _ hm
  have k1 := h1
  have lt1 : ∀ x ∈ p1, x.block < W.heap.size := by obtain ⟨m, hm⟩ := k1; exact DataW.trod_lt m _ _ _ hm
  obtain ⟨ai0, li0, ci0, rfl⟩ := okWide_slice Try.underlying22 (hval 0 22 v0 rfl rfl)
  obtain ⟨xs0, hx0, hc0, hl0, hr0, hb0⟩ : ∃ xs : List Int, xs.length = li0 ∧ li0 ≤ ci0 ∧ ci0 ≤ maxLen ∧ Rd W ai0 (xs.map (.int .u8)) ∧ ∀ x ∈ xs, 0 ≤ x ∧ x < 256 := by obtain ⟨fu, hf⟩ := h0; exact open_SlU (by simpa [Value.cells] using hf)
  obtain ⟨ai1, li1, ci1, rfl⟩ := okWide_slice Try.underlying22 (hval 1 22 v1 rfl rfl)
  obtain ⟨xs1, hx1, hc1, hl1, hr1, hb1⟩ : ∃ xs : List Int, xs.length = li1 ∧ li1 ≤ ci1 ∧ ci1 ≤ maxLen ∧ Rd W ai1 (xs.map (.int .u8)) ∧ ∀ x ∈ xs, 0 ≤ x ∧ x < 256 := by obtain ⟨fu, hf⟩ := h1; exact open_SlU (by simpa [Value.cells] using hf)
  clear hA0 hval0
  refine (FnSandwich_walk ai0 ai1 li0 li1 ci0 ci1 W (Nat.le_trans hc0 hl0) (Nat.le_trans hc1 hl1) hx0 hr0 hb0 hx1 hr1 hb1).mono fun e W' ⟨he, bel⟩ => ?_
  subst he
  exact ⟨_, rfl, _, _, _, [], _, [], hW', trodAll_mk1 (shut_bool Try.underlying4 _), (trodAll_cons_mk (Below.trod laidOut (by kernel_rfl) (of_decide_eq_true (by kernel_rfl)) k0 bel lt0) (trodAll_cons_mk (Below.trod laidOut (by kernel_rfl) (of_decide_eq_true (by kernel_rfl)) k1 bel lt1) trodAll_mk0)), rfl, bel.frame _, fun h => by cases h⟩
theorem q0 : Rows.fnSandwichRow.wf (OpenSpec.ofChange Rows.fnSandwichSpec) = true := by kernel_rfl
theorem q3 : Try.f3.params.all (Try.checked.prog.readableRec ·) = true := by kernel_rfl
theorem q4 : namedTie Try.checked.prog Rows.fnSandwichRow.named Rows.fnSandwichSpec.vars = true := by kernel_rfl
theorem q5 : (Rows.fnSandwichRow.stops == []) = true := by kernel_rfl
theorem q6 : (Try.checked.prog.stops == []) = true := by kernel_rfl
theorem q7 : (Rows.fnSandwichRow.knobs == []) = true := by kernel_rfl
theorem q8 : (Try.checked.prog.stopKnobs == []) = true := by kernel_rfl
theorem q9 : (Rows.fnSandwichRow.inPlace == Try.checked.prog.inPlace 3) = true := by kernel_rfl
theorem q10 : (Rows.fnSandwichRow.unfollowed == Try.checked.prog.unfollowed 3) = true := by kernel_rfl
theorem q11 : (Rows.fnSandwichRow.recurses == Try.checked.prog.recurses 3) = true := by kernel_rfl
theorem q12 : (Rows.fnSandwichRow.named == Try.checked.prog.varsNamed 3) = true := by kernel_rfl
theorem q13 : (Rows.fnSandwichRow.maps == (Try.f3.params.toList ++ Rows.fnSandwichSpec.plain.varTypes Try.checked.prog).any (Try.checked.prog.mapsRec ·)) = true := by kernel_rfl
theorem q14 : (Rows.fnSandwichRow.ifaces == (Try.f3.params.toList ++ Rows.fnSandwichSpec.plain.varTypes Try.checked.prog).any (Try.checked.prog.ifacesRec ·)) = true := by kernel_rfl
theorem q15 : (Rows.fnSandwichRow.mapsOut == Try.checked.prog.mapsAmong Try.f3.resultTypes.toList) = true := by kernel_rfl
theorem q16 : (Rows.fnSandwichRow.loops == (Try.f3.params.toList ++ Rows.fnSandwichSpec.plain.varTypes Try.checked.prog).any (Try.checked.prog.loopsFrom ·)) = true := by kernel_rfl
theorem q17 : (Rows.fnSandwichRow.wideKeys == (Try.f3.params.toList ++ Rows.fnSandwichSpec.plain.varTypes Try.checked.prog ++ Try.f3.resultTypes.toList).any (Try.checked.prog.wideKeysFrom ·)) = true := by kernel_rfl
theorem q18 : Rows.fnSandwichSpec.vars.all (Try.checked.prog.varReadable ·) = true := by kernel_rfl
theorem q19 : Try.f3.resultTypes.all (fun t => Try.checked.prog.readableRec t && decide (t < Try.checked.prog.types.size)) = true := by kernel_rfl
theorem q20 : (Rows.fnSandwichRow.ifacesOut == Try.f3.resultTypes.toList.any (Try.checked.prog.ifacesRec ·)) = true := by kernel_rfl
theorem q21 : (Rows.fnSandwichRow.loopsOut == Try.f3.resultTypes.toList.any (Try.checked.prog.loopsFrom ·)) = true := by kernel_rfl
theorem q23 : Rows.fnSandwichRow.shortTexts.isNone = true := by kernel_rfl
theorem q28 : (Rows.fnSandwichRow.kinds == (if Rows.fnSandwichRow.domain.isEmpty then [] else Try.f3.params.toList.map fun t => match Try.checked.prog.underlying t with | some (.int k) => some k | _ => none)) = true := by kernel_rfl
theorem q29 : (Rows.fnSandwichRow.pinned == Rows.fnSandwichRow.pinnedBy) = true := by kernel_rfl
theorem q30 : (Rows.fnSandwichRow.veiled == (Try.f3.params.toList ++ Rows.fnSandwichSpec.plain.varTypes Try.checked.prog ++ Try.f3.resultTypes.toList).any (Try.checked.prog.veiledRec ·)) = true := by kernel_rfl
theorem q31 : Rows.fnSandwichRow.veiledFits Try.checked.prog Try.f3.params.toList (Try.f3.params.toList ++ Rows.fnSandwichSpec.plain.varTypes Try.checked.prog ++ Try.f3.resultTypes.toList) = true := by kernel_rfl
set_option maxRecDepth 100000 in
theorem facts : joinedFacts Try.checked.prog 3 Try.f3 Rows.fnSandwichSpec Rows.fnSandwichRow = true := by
  unfold joinedFacts
  exact and_tt (and_tt (and_tt (and_tt (and_tt (and_tt (and_tt (and_tt (and_tt (and_tt (and_tt (and_tt (and_tt (and_tt (and_tt (and_tt (and_tt (and_tt (and_tt (and_tt (and_tt (and_tt (and_tt (and_tt (and_tt (and_tt (and_tt (and_tt (and_tt (and_tt (and_tt (q0) fLaid) fMaps) q3) q4) q5) q6) q7) q8) q9) q10) q11) q12) q13) q14) q15) q16) q17) q18) q19) q20) q21) fKeys) q23) fHeard) fEnter) fFinal) fMake) q28) q29) q30) q31
theorem named : Try.checked.prog.funcNamed Rows.fnSandwichRow.func = some 3 := by kernel_rfl
theorem inst : Try.f3.isInstance Try.checked.prog Rows.fnSandwichRow.origin Rows.fnSandwichRow.targs := of_decide_eq_true (by kernel_rfl)
theorem wrap : Try.f3.isWrapper Try.checked.prog Rows.fnSandwichRow.wrapper Rows.fnSandwichRow.mainSum := by unfold Func.isWrapper; first | (rw [if_pos (by decide +kernel)]; kernel_rfl) | (rw [if_neg (by decide +kernel)]; exact ⟨rfl, rfl⟩)
theorem holds : Rows.FnSandwichSaid :=
  OpenClaim.holds_of_wide 3 Try.f3 rfl rfl rfl rfl rfl rfl rfl ⟨rfl, rfl, rfl, rfl, rfl⟩ rfl rfl rfl rfl rfl named Try.func3 facts inst wrap
    (fun os started H enc _ => lifted os started H enc)
end Go.Proofs.Ytceobhmbnkheiaa.fnSandwich
