/-
  FnPlantScript: the row.
-/
import Derived.Test.YtofpelmplcoegaaGreatZRowFnPlantScript42
import Derived.Test.YtofpelmplcoegaaGreatZRowFnPlantScript3
import Derived.Test.YtofpelmplcoegaaGreatZRowFnPlantScript15
set_option linter.unusedVariables false
set_option linter.unusedSimpArgs false
namespace Go.Proofs.YtofpelmplcoegaaGreat.fnPlantScript
open Go.ChangeShapes Go.WideShapes Go.ChangeAt Go.RowKit Go.Joins
open Go.ChangeMaps (open_string shut_string)
set_option linter.unusedVariables false
theorem own : ownKnob Tryz.prog.godebug = none := by kernel_rfl
set_option maxRecDepth 100000 in
set_option maxHeartbeats 1000000 in
theorem lifted (os : Os) (started : os.Started) (H : Type) (enc : TypeId × Value → H) :
    ReturnsInHanded {} Tryz.checked os 4 .any (Rows.fnPlantScriptSpec.pre6 enc Tryz.prog Tryz.f4 Rows.fnPlantScriptRow.domain false) (Rows.fnPlantScriptSpec.post enc Tryz.prog Tryz.f4 false true false false) := by
  refine returnsInHanded_of_change (C := Tryz.checked) own started (by kernel_rfl) Tryz.func4
    (ChangeSpec.witness6 (enc := enc) (C := Tryz.checked) false ⟨#[], #[.slice none 0 0, .slice none 0 0], []⟩ 8 (by kernel_rfl) (by kernel_rfl) (by kernel_rfl) (by kernel_rfl)) ?_
  intro W base args ds gs before hval0 hW hcnd _
  have hval : ∀ (j : Nat) t v, Tryz.f4.params[j]? = some t → args[j]? = some v → Value.okWide Tryz.prog W .any base t v := hval0
  have hW' := hW
  obtain ⟨p, q, hA0, hV, rfl, hfz, hnd⟩ := hW
  have hA : DataW.TrodAll enc Tryz.prog W 0 (fun _ => true) true Tryz.f4.params.toList args.toList ds p := hA0
  rw [Tryz.params4] at hA hval
  obtain ⟨v0, vs0, d0, ds0, p0, q0, hargs, rfl, rfl, h0, r0⟩ := trodAll_cons hA
  obtain ⟨v1, vs1, d1, ds1, p1, q1, rfl, rfl, rfl, h1, r1⟩ := trodAll_cons r0
  obtain ⟨rfl, rfl, rfl⟩ := trodAll_nil r1
  obtain rfl : args = #[v0, v1] := by cases args; simp_all
  obtain ⟨rfl, rfl⟩ := trodVars_none hV
  have k0 := h0
  have lt0 : ∀ x ∈ p0, x.block < W.heap.size := by obtain ⟨m, hm⟩ := k0; exact DataW.trod_lt m _ _ _ hm
  have k1 := h1
  have lt1 : ∀ x ∈ p1, x.block < W.heap.size := by obtain ⟨m, hm⟩ := k1; exact DataW.trod_lt m _ _ _ hm
  obtain ⟨ai0, li0, ci0, rfl⟩ := okWide_slice Tryz.underlying53 (hval 0 53 v0 rfl rfl)
  obtain ⟨xs0, hx0, hc0, hl0, hr0, hb0⟩ : ∃ xs : List Int, xs.length = li0 ∧ li0 ≤ ci0 ∧ ci0 ≤ maxLen ∧ Rd W ai0 (xs.map (.int .u8)) ∧ ∀ x ∈ xs, 0 ≤ x ∧ x < 256 := by obtain ⟨fu, hf⟩ := h0; exact open_SlU (by simpa [Value.cells] using hf)
  obtain ⟨ai1, li1, ci1, rfl⟩ := okWide_slice Tryz.underlying53 (hval 1 53 v1 rfl rfl)
  obtain ⟨xs1, hx1, hc1, hl1, hr1, hb1⟩ : ∃ xs : List Int, xs.length = li1 ∧ li1 ≤ ci1 ∧ ci1 ≤ maxLen ∧ Rd W ai1 (xs.map (.int .u8)) ∧ ∀ x ∈ xs, 0 ≤ x ∧ x < 256 := by obtain ⟨fu, hf⟩ := h1; exact open_SlU (by simpa [Value.cells] using hf)
  clear hA0 hval0
  refine (FnPlantScript_walk ai0 ai1 li0 li1 ci0 ci1 W (Nat.le_trans hc0 hl0) (Nat.le_trans hc1 hl1) hx0 hr0 hb0 hx1 hr1 hb1).mono fun e W' ⟨he, bel⟩ => ?_
  subst he
  exact ⟨_, rfl, _, _, _, [], _, [], hW', trodAll_mk1 (shut_bool Tryz.underlying4 _), (trodAll_cons_mk (Below.trod laidOut (by kernel_rfl) (of_decide_eq_true (by kernel_rfl)) k0 bel lt0) (trodAll_cons_mk (Below.trod laidOut (by kernel_rfl) (of_decide_eq_true (by kernel_rfl)) k1 bel lt1) trodAll_mk0)), rfl, bel.frame _, fun h => by cases h⟩
theorem q0 : Rows.fnPlantScriptRow.wf (OpenSpec.ofChange Rows.fnPlantScriptSpec) = true := by kernel_rfl
theorem q3 : Tryz.f4.params.all (Tryz.checked.prog.readableRec ·) = true := by kernel_rfl
theorem q4 : namedTie Tryz.checked.prog Rows.fnPlantScriptRow.named Rows.fnPlantScriptSpec.vars = true := by kernel_rfl
theorem q5 : (Rows.fnPlantScriptRow.stops == []) = true := by kernel_rfl
theorem q6 : (Tryz.checked.prog.stops == []) = true := by kernel_rfl
theorem q7 : (Rows.fnPlantScriptRow.knobs == []) = true := by kernel_rfl
theorem q8 : (Tryz.checked.prog.stopKnobs == []) = true := by kernel_rfl
theorem q9 : (Rows.fnPlantScriptRow.inPlace == Tryz.checked.prog.inPlace 4) = true := by kernel_rfl
theorem q10 : (Rows.fnPlantScriptRow.unfollowed == Tryz.checked.prog.unfollowed 4) = true := by kernel_rfl
theorem q11 : (Rows.fnPlantScriptRow.recurses == Tryz.checked.prog.recurses 4) = true := by kernel_rfl
theorem q12 : (Rows.fnPlantScriptRow.named == Tryz.checked.prog.varsNamed 4) = true := by kernel_rfl
theorem q13 : (Rows.fnPlantScriptRow.maps == (Tryz.f4.params.toList ++ Rows.fnPlantScriptSpec.plain.varTypes Tryz.checked.prog).any (Tryz.checked.prog.mapsRec ·)) = true := by kernel_rfl
theorem q14 : (Rows.fnPlantScriptRow.ifaces == (Tryz.f4.params.toList ++ Rows.fnPlantScriptSpec.plain.varTypes Tryz.checked.prog).any (Tryz.checked.prog.ifacesRec ·)) = true := by kernel_rfl
theorem q15 : (Rows.fnPlantScriptRow.mapsOut == Tryz.checked.prog.mapsAmong Tryz.f4.resultTypes.toList) = true := by kernel_rfl
theorem q16 : (Rows.fnPlantScriptRow.loops == (Tryz.f4.params.toList ++ Rows.fnPlantScriptSpec.plain.varTypes Tryz.checked.prog).any (Tryz.checked.prog.loopsFrom ·)) = true := by kernel_rfl
theorem q17 : (Rows.fnPlantScriptRow.wideKeys == (Tryz.f4.params.toList ++ Rows.fnPlantScriptSpec.plain.varTypes Tryz.checked.prog ++ Tryz.f4.resultTypes.toList).any (Tryz.checked.prog.wideKeysFrom ·)) = true := by kernel_rfl
theorem q18 : Rows.fnPlantScriptSpec.vars.all (Tryz.checked.prog.varReadable ·) = true := by kernel_rfl
theorem q19 : Tryz.f4.resultTypes.all (fun t => Tryz.checked.prog.readableRec t && decide (t < Tryz.checked.prog.types.size)) = true := by kernel_rfl
theorem q20 : (Rows.fnPlantScriptRow.ifacesOut == Tryz.f4.resultTypes.toList.any (Tryz.checked.prog.ifacesRec ·)) = true := by kernel_rfl
theorem q21 : (Rows.fnPlantScriptRow.loopsOut == Tryz.f4.resultTypes.toList.any (Tryz.checked.prog.loopsFrom ·)) = true := by kernel_rfl
theorem q23 : Rows.fnPlantScriptRow.shortTexts.isNone = true := by kernel_rfl
theorem q28 : (Rows.fnPlantScriptRow.kinds == (if Rows.fnPlantScriptRow.domain.isEmpty then [] else Tryz.f4.params.toList.map fun t => match Tryz.checked.prog.underlying t with | some (.int k) => some k | _ => none)) = true := by kernel_rfl
theorem q29 : (Rows.fnPlantScriptRow.pinned == Rows.fnPlantScriptRow.pinnedBy) = true := by kernel_rfl
theorem q30 : (Rows.fnPlantScriptRow.veiled == (Tryz.f4.params.toList ++ Rows.fnPlantScriptSpec.plain.varTypes Tryz.checked.prog ++ Tryz.f4.resultTypes.toList).any (Tryz.checked.prog.veiledRec ·)) = true := by kernel_rfl
theorem q31 : Rows.fnPlantScriptRow.veiledFits Tryz.checked.prog Tryz.f4.params.toList (Tryz.f4.params.toList ++ Rows.fnPlantScriptSpec.plain.varTypes Tryz.checked.prog ++ Tryz.f4.resultTypes.toList) = true := by kernel_rfl
set_option maxRecDepth 100000 in
theorem facts : joinedFacts Tryz.checked.prog 4 Tryz.f4 Rows.fnPlantScriptSpec Rows.fnPlantScriptRow = true := by
  unfold joinedFacts
  exact and_tt (and_tt (and_tt (and_tt (and_tt (and_tt (and_tt (and_tt (and_tt (and_tt (and_tt (and_tt (and_tt (and_tt (and_tt (and_tt (and_tt (and_tt (and_tt (and_tt (and_tt (and_tt (and_tt (and_tt (and_tt (and_tt (and_tt (and_tt (and_tt (and_tt (and_tt (q0) fLaid) fMaps) q3) q4) q5) q6) q7) q8) q9) q10) q11) q12) q13) q14) q15) q16) q17) q18) q19) q20) q21) fKeys) q23) fHeard) fEnter) fFinal) fMake) q28) q29) q30) q31
theorem named : Tryz.checked.prog.funcNamed Rows.fnPlantScriptRow.func = some 4 := by kernel_rfl
theorem inst : Tryz.f4.isInstance Tryz.checked.prog Rows.fnPlantScriptRow.origin Rows.fnPlantScriptRow.targs := of_decide_eq_true (by kernel_rfl)
theorem wrap : Tryz.f4.isWrapper Tryz.checked.prog Rows.fnPlantScriptRow.wrapper Rows.fnPlantScriptRow.mainSum := by unfold Func.isWrapper; first | (rw [if_pos (by decide +kernel)]; kernel_rfl) | (rw [if_neg (by decide +kernel)]; exact ⟨rfl, rfl⟩)
theorem holds : Rows.FnPlantScriptSaid :=
  OpenClaim.holds_of_wide 4 Tryz.f4 rfl rfl rfl rfl rfl rfl rfl ⟨rfl, rfl, rfl, rfl, rfl⟩ rfl rfl rfl rfl rfl named Tryz.func4 facts inst wrap
    (fun os started H enc _ => lifted os started H enc)
end Go.Proofs.YtofpelmplcoegaaGreat.fnPlantScript
