/-
  FnMaps: the row.
-/
import Derived.Test.YtceobhmbnkheiaaZRowFnMaps34
import Derived.Test.YtceobhmbnkheiaaZRowFnMaps3
import Derived.Test.YtceobhmbnkheiaaZRowFnMaps14
set_option linter.unusedVariables false
set_option linter.unusedSimpArgs false
namespace Go.Proofs.Ytceobhmbnkheiaa.fnMaps
open Go.ChangeShapes Go.WideShapes Go.ChangeAt Go.RowKit Go.Joins
open Go.ChangeMaps (open_string shut_string)
set_option linter.unusedVariables false
theorem own : ownKnob Try.prog.godebug = none := by kernel_rfl
set_option maxRecDepth 100000 in
set_option maxHeartbeats 1000000 in
theorem lifted (os : Os) (started : os.Started) (H : Type) (enc : TypeId × Value → H) :
    ReturnsInHanded {} Try.checked os 4 .any (Rows.fnMapsSpec.pre6 enc Try.prog Try.f4 Rows.fnMapsRow.domain false) (Rows.fnMapsSpec.post enc Try.prog Try.f4 false true false false) := by
  refine returnsInHanded_of_change (C := Try.checked) own started (by kernel_rfl) Try.func4
    (ChangeSpec.witness6 (enc := enc) (C := Try.checked) false ⟨#[], #[.slice none 0 0, .slice none 0 0], []⟩ 8 (by kernel_rfl) (by kernel_rfl) (by kernel_rfl) (by kernel_rfl)) ?_
  intro W base args ds gs before hval0 hW hcnd _
  have hval : ∀ (j : Nat) t v, Try.f4.params[j]? = some t → args[j]? = some v → Value.okWide Try.prog W .any base t v := hval0
  have hW' := hW
  obtain ⟨p, q, hA0, hV, rfl, hfz, hnd⟩ := hW
  have hA : DataW.TrodAll enc Try.prog W 0 (fun _ => true) true Try.f4.params.toList args.toList ds p := hA0
  rw [Try.params4] at hA hval
  obtain ⟨v0, vs0, d0, ds0, p0, q0, hargs, rfl, rfl, h0, r0⟩ := trodAll_cons hA
  obtain ⟨v1, vs1, d1, ds1, p1, q1, rfl, rfl, rfl, h1, r1⟩ := trodAll_cons r0
  obtain ⟨rfl, rfl, rfl⟩ := trodAll_nil r1
  obtain rfl : args = #[v0, v1] := by cases args; simp_all
  obtain ⟨rfl, rfl⟩ := trodVars_none hV
  have k0 := h0
  have lt0 : ∀ x ∈ p0, x.block < W.heap.size := by obtain ⟨m, hm⟩ := k0; exact DataW.trod_lt m _ _ _ hm
  have k1 := h1
  have lt1 : ∀ x ∈ p1, x.block < W.heap.size := by obtain ⟨m, hm⟩ := k1; exact DataW.trod_lt m _ _ _ hm
  obtain ⟨ai0, li0, ci0, rfl⟩ := okWide_slice Try.underlying22 (hval 0 22 v0 rfl rfl)
  obtain ⟨xs0, hx0, hc0, hl0, hr0, hb0⟩ : ∃ xs : List Int, xs.length = li0 ∧ li0 ≤ ci0 ∧ ci0 ≤ maxLen ∧ Rd W ai0 (xs.map (.int .u8)) ∧ ∀ x ∈ xs, 0 ≤ x ∧ x < 256 := by obtain ⟨fu, hf⟩ := h0; exact open_SlU (by simpa [Value.cells] using hf)
  obtain ⟨ai1, li1, ci1, rfl⟩ := okWide_slice Try.underlying22 (hval 1 22 v1 rfl rfl)
  obtain ⟨xs1, hx1, hc1, hl1, hr1, hb1⟩ : ∃ xs : List Int, xs.length = li1 ∧ li1 ≤ ci1 ∧ ci1 ≤ maxLen ∧ Rd W ai1 (xs.map (.int .u8)) ∧ ∀ x ∈ xs, 0 ≤ x ∧ x < 256 := by obtain ⟨fu, hf⟩ := h1; exact open_SlU (by simpa [Value.cells] using hf)
  clear hA0 hval0
  refine (FnMaps_walk ai0 ai1 li0 li1 ci0 ci1 W (Nat.le_trans hc0 hl0) (Nat.le_trans hc1 hl1) hx0 hr0 hb0 hx1 hr1 hb1).mono fun e W' ⟨he, bel⟩ => ?_
  subst he
  exact ⟨_, rfl, _, _, _, [], _, [], hW', trodAll_mk1 (shut_bool Try.underlying4 _), (trodAll_cons_mk (Below.trod laidOut (by kernel_rfl) (of_decide_eq_true (by kernel_rfl)) k0 bel lt0) (trodAll_cons_mk (Below.trod laidOut (by kernel_rfl) (of_decide_eq_true (by kernel_rfl)) k1 bel lt1) trodAll_mk0)), rfl, bel.frame _, fun h => by cases h⟩
theorem q0 : Rows.fnMapsRow.wf (OpenSpec.ofChange Rows.fnMapsSpec) = true := by kernel_rfl
theorem q3 : Try.f4.params.all (Try.checked.prog.readableRec ·) = true := by kernel_rfl
theorem q4 : namedTie Try.checked.prog Rows.fnMapsRow.named Rows.fnMapsSpec.vars = true := by kernel_rfl
theorem q5 : (Rows.fnMapsRow.stops == []) = true := by kernel_rfl
theorem q6 : (Try.checked.prog.stops == []) = true := by kernel_rfl
theorem q7 : (Rows.fnMapsRow.knobs == []) = true := by kernel_rfl
theorem q8 : (Try.checked.prog.stopKnobs == []) = true := by kernel_rfl
theorem q9 : (Rows.fnMapsRow.inPlace == Try.checked.prog.inPlace 4) = true := by kernel_rfl
theorem q10 : (Rows.fnMapsRow.unfollowed == Try.checked.prog.unfollowed 4) = true := by kernel_rfl
theorem q11 : (Rows.fnMapsRow.recurses == Try.checked.prog.recurses 4) = true := by kernel_rfl
theorem q12 : (Rows.fnMapsRow.named == Try.checked.prog.varsNamed 4) = true := by kernel_rfl
theorem q13 : (Rows.fnMapsRow.maps == (Try.f4.params.toList ++ Rows.fnMapsSpec.plain.varTypes Try.checked.prog).any (Try.checked.prog.mapsRec ·)) = true := by kernel_rfl
theorem q14 : (Rows.fnMapsRow.ifaces == (Try.f4.params.toList ++ Rows.fnMapsSpec.plain.varTypes Try.checked.prog).any (Try.checked.prog.ifacesRec ·)) = true := by kernel_rfl
theorem q15 : (Rows.fnMapsRow.mapsOut == Try.checked.prog.mapsAmong Try.f4.resultTypes.toList) = true := by kernel_rfl
theorem q16 : (Rows.fnMapsRow.loops == (Try.f4.params.toList ++ Rows.fnMapsSpec.plain.varTypes Try.checked.prog).any (Try.checked.prog.loopsFrom ·)) = true := by kernel_rfl
theorem q17 : (Rows.fnMapsRow.wideKeys == (Try.f4.params.toList ++ Rows.fnMapsSpec.plain.varTypes Try.checked.prog ++ Try.f4.resultTypes.toList).any (Try.checked.prog.wideKeysFrom ·)) = true := by kernel_rfl
theorem q18 : Rows.fnMapsSpec.vars.all (Try.checked.prog.varReadable ·) = true := by kernel_rfl
theorem q19 : Try.f4.resultTypes.all (fun t => Try.checked.prog.readableRec t && decide (t < Try.checked.prog.types.size)) = true := by kernel_rfl
theorem q20 : (Rows.fnMapsRow.ifacesOut == Try.f4.resultTypes.toList.any (Try.checked.prog.ifacesRec ·)) = true := by kernel_rfl
theorem q21 : (Rows.fnMapsRow.loopsOut == Try.f4.resultTypes.toList.any (Try.checked.prog.loopsFrom ·)) = true := by kernel_rfl
theorem q23 : Rows.fnMapsRow.shortTexts.isNone = true := by kernel_rfl
theorem q28 : (Rows.fnMapsRow.kinds == (if Rows.fnMapsRow.domain.isEmpty then [] else Try.f4.params.toList.map fun t => match Try.checked.prog.underlying t with | some (.int k) => some k | _ => none)) = true := by kernel_rfl
theorem q29 : (Rows.fnMapsRow.pinned == Rows.fnMapsRow.pinnedBy) = true := by kernel_rfl
theorem q30 : (Rows.fnMapsRow.veiled == (Try.f4.params.toList ++ Rows.fnMapsSpec.plain.varTypes Try.checked.prog ++ Try.f4.resultTypes.toList).any (Try.checked.prog.veiledRec ·)) = true := by kernel_rfl
theorem q31 : Rows.fnMapsRow.veiledFits Try.checked.prog Try.f4.params.toList (Try.f4.params.toList ++ Rows.fnMapsSpec.plain.varTypes Try.checked.prog ++ Try.f4.resultTypes.toList) = true := by kernel_rfl
set_option maxRecDepth 100000 in
theorem facts : joinedFacts Try.checked.prog 4 Try.f4 Rows.fnMapsSpec Rows.fnMapsRow = true := by
  unfold joinedFacts
  exact and_tt (and_tt (and_tt (and_tt (and_tt (and_tt (and_tt (and_tt (and_tt (and_tt (and_tt (and_tt (and_tt (and_tt (and_tt (and_tt (and_tt (and_tt (and_tt (and_tt (and_tt (and_tt (and_tt (and_tt (and_tt (and_tt (and_tt (and_tt (and_tt (and_tt (and_tt (q0) fLaid) fMaps) q3) q4) q5) q6) q7) q8) q9) q10) q11) q12) q13) q14) q15) q16) q17) q18) q19) q20) q21) fKeys) q23) fHeard) fEnter) fFinal) fMake) q28) q29) q30) q31
theorem named : Try.checked.prog.funcNamed Rows.fnMapsRow.func = some 4 := by kernel_rfl
theorem inst : Try.f4.isInstance Try.checked.prog Rows.fnMapsRow.origin Rows.fnMapsRow.targs := of_decide_eq_true (by kernel_rfl)
theorem wrap : Try.f4.isWrapper Try.checked.prog Rows.fnMapsRow.wrapper Rows.fnMapsRow.mainSum := by unfold Func.isWrapper; first | (rw [if_pos (by decide +kernel)]; kernel_rfl) | (rw [if_neg (by decide +kernel)]; exact ⟨rfl, rfl⟩)
theorem holds : Rows.FnMapsSaid :=
  OpenClaim.holds_of_wide 4 Try.f4 rfl rfl rfl rfl rfl rfl rfl ⟨rfl, rfl, rfl, rfl, rfl⟩ rfl rfl rfl rfl rfl named Try.func4 facts inst wrap
    (fun os started H enc _ => lifted os started H enc)
end Go.Proofs.Ytceobhmbnkheiaa.fnMaps
