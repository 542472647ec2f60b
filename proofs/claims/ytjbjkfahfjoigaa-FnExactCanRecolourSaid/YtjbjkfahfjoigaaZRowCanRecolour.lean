/-
  FnExactCanRecolour: the row.
-/
import Derived.Test.YtjbjkfahfjoigaaZRowCanRecolour23
import Derived.Test.YtjbjkfahfjoigaaZRowCanRecolour3
import Derived.Test.YtjbjkfahfjoigaaZRowCanRecolour16
set_option linter.unusedVariables false
set_option linter.unusedSimpArgs false
namespace Go.Proofs.Ytjbjkfahfjoigaa.fnExactCanRecolour
open Go.ChangeShapes Go.WideShapes Go.ChangeAt Go.RowKit Go.Joins
open Go.ChangeMaps (open_string shut_string)
set_option linter.unusedVariables false
theorem own : ownKnob Try.prog.godebug = none := by kernel_rfl
set_option maxRecDepth 100000 in
set_option maxHeartbeats 1000000 in
theorem lifted (os : Os) (started : os.Started) (H : Type) (enc : TypeId × Value → H) :
    ReturnsInHanded {} Try.checked os 4 .any (Rows.fnExactCanRecolourSpec.pre6 enc Try.prog Try.f4 Rows.fnExactCanRecolourRow.domain false) (Rows.fnExactCanRecolourSpec.post enc Try.prog Try.f4 false true false false) := by
  refine returnsInHanded_of_change (C := Try.checked) own started (by kernel_rfl) Try.func4
    (ChangeSpec.witness6 (enc := enc) (C := Try.checked) false ⟨#[], #[.agg #[.int .i64 0, .slice none 0 0], .int .i64 0], []⟩ 8 (by kernel_rfl) (by kernel_rfl) (by kernel_rfl) (by kernel_rfl)) ?_
  intro W base args ds gs before hval0 hW hcnd _
  have hval : ∀ (j : Nat) t v, Try.f4.params[j]? = some t → args[j]? = some v → Value.okWide Try.prog W .any base t v := hval0
  have hW' := hW
  obtain ⟨p, q, hA0, hV, rfl, hfz, hnd⟩ := hW
  have hA : DataW.TrodAll enc Try.prog W 0 (fun _ => true) true Try.f4.params.toList args.toList ds p := hA0
  rw [Try.params4] at hA hval
  obtain ⟨v0, vs0, d0, ds0, p0, q0, hargs, rfl, rfl, h0, r0⟩ := trodAll_cons hA
  obtain ⟨v1, vs1, d1, ds1, p1, q1, rfl, rfl, rfl, h1, r1⟩ := trodAll_cons r0
  obtain ⟨rfl, rfl, rfl⟩ := trodAll_nil r1
  obtain rfl : args = #[v0, v1] := by cases args; simp_all
  obtain ⟨rfl, rfl⟩ := trodVars_none hV
  have k0 := h0
  have lt0 : ∀ x ∈ p0, x.block < W.heap.size := by obtain ⟨m, hm⟩ := k0; exact DataW.trod_lt m _ _ _ hm
  have k1 := h1
  have lt1 : ∀ x ∈ p1, x.block < W.heap.size := by obtain ⟨m, hm⟩ := k1; exact DataW.trod_lt m _ _ _ hm
  obtain ⟨c00, c01, y00, y01, m0, rfl, rfl, rfl, hy00, hy01⟩ := open_agg2 Try.underlying31 (by kernel_rfl) (show Try.prog.cellsOf 31 = 2 by kernel_rfl) (hval 0 31 v0 rfl rfl) h0
  obtain ⟨n0, e0, hq0, wn0⟩ := DataW.trod_int Try.underlying2 hy00
  simp at e0
  subst e0
  obtain ⟨xss0, sl0, wb0⟩ := open_SlII hy01
  obtain ⟨a1, rfl, rfl, rfl, w1⟩ := open_int Try.underlying2 (hval 1 2 v1 rfl rfl) h1
  clear hA0 hval0
  refine (FnExactCanRecolour_walk n0 a1 W sl0).mono fun e W' ⟨he, bel⟩ => ?_
  subst he
  exact ⟨_, rfl, _, _, _, [], _, [], hW', trodAll_mk1 (shut_bool Try.underlying4 _), (trodAll_cons_mk (Below.trod laidOut (by kernel_rfl) (of_decide_eq_true (by kernel_rfl)) k0 bel lt0) (trodAll_cons_mk (Below.trod laidOut (by kernel_rfl) (of_decide_eq_true (by kernel_rfl)) k1 bel lt1) trodAll_mk0)), rfl, bel.frame _, fun h => by cases h⟩
theorem q0 : Rows.fnExactCanRecolourRow.wf (OpenSpec.ofChange Rows.fnExactCanRecolourSpec) = true := by kernel_rfl
theorem q3 : Try.f4.params.all (Try.checked.prog.readableRec ·) = true := by kernel_rfl
theorem q4 : namedTie Try.checked.prog Rows.fnExactCanRecolourRow.named Rows.fnExactCanRecolourSpec.vars = true := by kernel_rfl
theorem q5 : (Rows.fnExactCanRecolourRow.stops == []) = true := by kernel_rfl
theorem q6 : (Try.checked.prog.stops == []) = true := by kernel_rfl
theorem q7 : (Rows.fnExactCanRecolourRow.knobs == []) = true := by kernel_rfl
theorem q8 : (Try.checked.prog.stopKnobs == []) = true := by kernel_rfl
theorem q9 : (Rows.fnExactCanRecolourRow.inPlace == Try.checked.prog.inPlace 4) = true := by kernel_rfl
theorem q10 : (Rows.fnExactCanRecolourRow.unfollowed == Try.checked.prog.unfollowed 4) = true := by kernel_rfl
theorem q11 : (Rows.fnExactCanRecolourRow.recurses == Try.checked.prog.recurses 4) = true := by kernel_rfl
theorem q12 : (Rows.fnExactCanRecolourRow.named == Try.checked.prog.varsNamed 4) = true := by kernel_rfl
theorem q13 : (Rows.fnExactCanRecolourRow.maps == (Try.f4.params.toList ++ Rows.fnExactCanRecolourSpec.plain.varTypes Try.checked.prog).any (Try.checked.prog.mapsRec ·)) = true := by kernel_rfl
theorem q14 : (Rows.fnExactCanRecolourRow.ifaces == (Try.f4.params.toList ++ Rows.fnExactCanRecolourSpec.plain.varTypes Try.checked.prog).any (Try.checked.prog.ifacesRec ·)) = true := by kernel_rfl
theorem q15 : (Rows.fnExactCanRecolourRow.mapsOut == Try.checked.prog.mapsAmong Try.f4.resultTypes.toList) = true := by kernel_rfl
theorem q16 : (Rows.fnExactCanRecolourRow.loops == (Try.f4.params.toList ++ Rows.fnExactCanRecolourSpec.plain.varTypes Try.checked.prog).any (Try.checked.prog.loopsFrom ·)) = true := by kernel_rfl
theorem q17 : (Rows.fnExactCanRecolourRow.wideKeys == (Try.f4.params.toList ++ Rows.fnExactCanRecolourSpec.plain.varTypes Try.checked.prog ++ Try.f4.resultTypes.toList).any (Try.checked.prog.wideKeysFrom ·)) = true := by kernel_rfl
theorem q18 : Rows.fnExactCanRecolourSpec.vars.all (Try.checked.prog.varReadable ·) = true := by kernel_rfl
theorem q19 : Try.f4.resultTypes.all (fun t => Try.checked.prog.readableRec t && decide (t < Try.checked.prog.types.size)) = true := by kernel_rfl
theorem q20 : (Rows.fnExactCanRecolourRow.ifacesOut == Try.f4.resultTypes.toList.any (Try.checked.prog.ifacesRec ·)) = true := by kernel_rfl
theorem q21 : (Rows.fnExactCanRecolourRow.loopsOut == Try.f4.resultTypes.toList.any (Try.checked.prog.loopsFrom ·)) = true := by kernel_rfl
theorem q23 : Rows.fnExactCanRecolourRow.shortTexts.isNone = true := by kernel_rfl
theorem q28 : (Rows.fnExactCanRecolourRow.kinds == (if Rows.fnExactCanRecolourRow.domain.isEmpty then [] else Try.f4.params.toList.map fun t => match Try.checked.prog.underlying t with | some (.int k) => some k | _ => none)) = true := by kernel_rfl
theorem q29 : (Rows.fnExactCanRecolourRow.pinned == Rows.fnExactCanRecolourRow.pinnedBy) = true := by kernel_rfl
theorem q30 : (Rows.fnExactCanRecolourRow.veiled == (Try.f4.params.toList ++ Rows.fnExactCanRecolourSpec.plain.varTypes Try.checked.prog ++ Try.f4.resultTypes.toList).any (Try.checked.prog.veiledRec ·)) = true := by kernel_rfl
theorem q31 : Rows.fnExactCanRecolourRow.veiledFits Try.checked.prog Try.f4.params.toList (Try.f4.params.toList ++ Rows.fnExactCanRecolourSpec.plain.varTypes Try.checked.prog ++ Try.f4.resultTypes.toList) = true := by kernel_rfl
set_option maxRecDepth 100000 in
theorem facts : joinedFacts Try.checked.prog 4 Try.f4 Rows.fnExactCanRecolourSpec Rows.fnExactCanRecolourRow = true := by
  unfold joinedFacts
  exact and_tt (and_tt (and_tt (and_tt (and_tt (and_tt (and_tt (and_tt (and_tt (and_tt (and_tt (and_tt (and_tt (and_tt (and_tt (and_tt (and_tt (and_tt (and_tt (and_tt (and_tt (and_tt (and_tt (and_tt (and_tt (and_tt (and_tt (and_tt (and_tt (and_tt (and_tt (q0) fLaid) fMaps) q3) q4) q5) q6) q7) q8) q9) q10) q11) q12) q13) q14) q15) q16) q17) q18) q19) q20) q21) fKeys) q23) fHeard) fEnter) fFinal) fMake) q28) q29) q30) q31
theorem named : Try.checked.prog.funcNamed Rows.fnExactCanRecolourRow.func = some 4 := by kernel_rfl
theorem inst : Try.f4.isInstance Try.checked.prog Rows.fnExactCanRecolourRow.origin Rows.fnExactCanRecolourRow.targs := of_decide_eq_true (by kernel_rfl)
theorem wrap : Try.f4.isWrapper Try.checked.prog Rows.fnExactCanRecolourRow.wrapper Rows.fnExactCanRecolourRow.mainSum := by unfold Func.isWrapper; first | (rw [if_pos (by decide +kernel)]; kernel_rfl) | (rw [if_neg (by decide +kernel)]; exact ⟨rfl, rfl⟩)
theorem holds : Rows.FnExactCanRecolourSaid :=
  OpenClaim.holds_of_wide 4 Try.f4 rfl rfl rfl rfl rfl rfl rfl ⟨rfl, rfl, rfl, rfl, rfl⟩ rfl rfl rfl rfl rfl named Try.func4 facts inst wrap
    (fun os started H enc _ => lifted os started H enc)
end Go.Proofs.Ytjbjkfahfjoigaa.fnExactCanRecolour
