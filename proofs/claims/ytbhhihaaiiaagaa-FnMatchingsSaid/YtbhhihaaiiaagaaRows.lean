/-
  No cell of these rows narrows 'for every input' (looked for: loops, veiled, ifaces, maps, wideKeys, modest, calm, conditions, laid).
  DERIVED. THE GIVEN ROWS OF THIS SEAT. 3 by the template 'for every input the law returns true; each argument reads behind the call as it read before'; 0 by the template 'total and deterministic' (their statements: YtbhhihaaiiaagaaTotals.lean).
  GIVEN WITH THE SEED: the statements are not yours to turn. If you find one false, say at which input.
  Laid BY PROGRAM, IN A SANDBOX (cutbox-rows.mjs): the forced cells as the released guide's own fill.sh prints them over the translation 92ec0d24f450f876… (all of the seat's roots in one cut). By AI agents, Wed Nov 11 2026. No macro, syntax, notation, axiom, sorry.
-/
import Derived.Test.YtbhhihaaiiaagaaChecked
import GoSem.Claim
import GoSem.ClaimJoined
import GoSem.ClaimMapViews
import Derived.JoinedTies
import Derived.KernelRfl
namespace Go.Proofs.Ytbhhihaaiiaagaa
/- THE CELL 'sum', in the pinned program and in every row, IS THE sha256 OF THE DUMP (.gsa) THAT YtbhhihaaiiaagaaProg.lean LOADS. Nothing in Lean hashes anything: it is a label: what it is worth is what the hold of that sum in a sandbox is worth. -/
noncomputable def Try.pinned : Pinned := { name := "ytbhhihaaiiaagaa", sum := "92ec0d24f450f87638f6dc301d2b2a756ed8f94242c3ae3087c258a528d32fd6", checked := Try.checked }
namespace Rows
def none {H : Type} : Left H := { results := [], args := [] }

/-- 'laws.FnExactColourPolynomial': WHATEVER THE INPUT: true; the input reads as it did. -/
def fnExactColourPolynomialSpec : ChangeSpec := { name := "fnExactColourPolynomial", fn := fun _ => fun
  | [d] => { results := [.lit (.bool true)], args := [d] }
  | _ => none }
def fnExactColourPolynomialRow : OpenClaim := { program := "ytbhhihaaiiaagaa", sum := "92ec0d24f450f87638f6dc301d2b2a756ed8f94242c3ae3087c258a528d32fd6", func := "loop.example/g01118/laws.FnExactColourPolynomial", spec := "fnExactColourPolynomial", apart := false }
def FnExactColourPolynomialSaid : Prop := fnExactColourPolynomialRow.holds Try.pinned (OpenSpec.ofChange fnExactColourPolynomialSpec)

/-- ITS FALSE NEIGHBOUR: 'it returns false'. Refute it at one input. -/
def fnExactColourPolynomialWrong : ChangeSpec := { name := "fnExactColourPolynomial", fn := fun _ => fun
  | [d] => { results := [.lit (.bool false)], args := [d] }
  | _ => none }
def FnExactColourPolynomialWrongFalsely : Prop := fnExactColourPolynomialRow.holds Try.pinned (OpenSpec.ofChange fnExactColourPolynomialWrong)

/-- 'laws.FnExactMatchingCounts': WHATEVER THE INPUT: true; the input reads as it did. -/
def fnExactMatchingCountsSpec : ChangeSpec := { name := "fnExactMatchingCounts", fn := fun _ => fun
  | [d] => { results := [.lit (.bool true)], args := [d] }
  | _ => none }
def fnExactMatchingCountsRow : OpenClaim := { program := "ytbhhihaaiiaagaa", sum := "92ec0d24f450f87638f6dc301d2b2a756ed8f94242c3ae3087c258a528d32fd6", func := "loop.example/g01118/laws.FnExactMatchingCounts", spec := "fnExactMatchingCounts", unfollowed := true, recurses := true, apart := false }
def FnExactMatchingCountsSaid : Prop := fnExactMatchingCountsRow.holds Try.pinned (OpenSpec.ofChange fnExactMatchingCountsSpec)

/-- ITS FALSE NEIGHBOUR: 'it returns false'. Refute it at one input. -/
def fnExactMatchingCountsWrong : ChangeSpec := { name := "fnExactMatchingCounts", fn := fun _ => fun
  | [d] => { results := [.lit (.bool false)], args := [d] }
  | _ => none }
def FnExactMatchingCountsWrongFalsely : Prop := fnExactMatchingCountsRow.holds Try.pinned (OpenSpec.ofChange fnExactMatchingCountsWrong)

/-- 'laws.FnMatchings': WHATEVER THE INPUT: true; the input reads as it did. -/
def fnMatchingsSpec : ChangeSpec := { name := "fnMatchings", fn := fun _ => fun
  | [d1, d2] => { results := [.lit (.bool true)], args := [d1, d2] }
  | _ => none }
def fnMatchingsRow : OpenClaim := { program := "ytbhhihaaiiaagaa", sum := "92ec0d24f450f87638f6dc301d2b2a756ed8f94242c3ae3087c258a528d32fd6", func := "loop.example/g01118/laws.FnMatchings", spec := "fnMatchings", unfollowed := true, recurses := true, apart := false }
def FnMatchingsSaid : Prop := fnMatchingsRow.holds Try.pinned (OpenSpec.ofChange fnMatchingsSpec)

/-- ITS FALSE NEIGHBOUR: 'it returns false'. Refute it at one input. -/
def fnMatchingsWrong : ChangeSpec := { name := "fnMatchings", fn := fun _ => fun
  | [d1, d2] => { results := [.lit (.bool false)], args := [d1, d2] }
  | _ => none }
def FnMatchingsWrongFalsely : Prop := fnMatchingsRow.holds Try.pinned (OpenSpec.ofChange fnMatchingsWrong)

/- THE SECOND FORM. 'bulk': how many values and letters a reading holds, each counted each time it is reached (what is shared counts as often as it is met; a slice's spare places count too). A statement '..UptoSaid' is the law's where the arguments, and the package variables that the reading takes, are together of bulk at most 1048576: NARROWER than '..Said'. Prove '..Said' where nothing that the law and all that it calls make is longer than what came in: it says more and counts as full. Else prove '..UptoSaid'. A law counts once. -/
mutual
def uptoBulk {H : Type} : DataW H → Nat
  | .lit (.string bytes) => bytes.length + 1
  | .lit _ => 1
  | .nil => 1
  | .ptr d => uptoBulk d + 1
  | .slice elems spare => uptoBulkAll elems + uptoBulkAll spare + 1
  | .agg parts => uptoBulkAll parts + 1
  | .iface _ d => uptoBulk d + 1
  | .map entries => uptoBulkEntries entries + 1
  | .held _ => 1
def uptoBulkAll {H : Type} : List (DataW H) → Nat
  | [] => 0
  | d :: r => uptoBulk d + uptoBulkAll r
def uptoBulkEntries {H : Type} : List (Lit × DataW H) → Nat
  | [] => 0
  | x :: r => uptoBulkEntry x + uptoBulkEntries r
def uptoBulkEntry {H : Type} : Lit × DataW H → Nat
  | (.string bytes, d) => bytes.length + uptoBulk d + 1
  | (_, d) => uptoBulk d + 1
 end
def uptoSmall : (H : Type) → List (DataW H) → Bool := fun _ ds => decide (uptoBulkAll ds ≤ 1048576)
def OpenSpec.upto (s : _root_.Go.ChangeSpec) : _root_.Go.OpenSpec := { _root_.Go.OpenSpec.ofChange s with cond := some uptoSmall }

/-- 'laws.FnExactColourPolynomial', WHERE WHAT IT READS IS OF BULK AT MOST 1048576: true; the input reads as it did. -/
def fnExactColourPolynomialUptoRow : OpenClaim := { program := "ytbhhihaaiiaagaa", sum := "92ec0d24f450f87638f6dc301d2b2a756ed8f94242c3ae3087c258a528d32fd6", func := "loop.example/g01118/laws.FnExactColourPolynomial", spec := "fnExactColourPolynomial", apart := false, narrowed := true }
def FnExactColourPolynomialUptoSaid : Prop := fnExactColourPolynomialUptoRow.holds Try.pinned (OpenSpec.upto fnExactColourPolynomialSpec)

/-- 'laws.FnExactMatchingCounts', WHERE WHAT IT READS IS OF BULK AT MOST 1048576: true; the input reads as it did. -/
def fnExactMatchingCountsUptoRow : OpenClaim := { program := "ytbhhihaaiiaagaa", sum := "92ec0d24f450f87638f6dc301d2b2a756ed8f94242c3ae3087c258a528d32fd6", func := "loop.example/g01118/laws.FnExactMatchingCounts", spec := "fnExactMatchingCounts", unfollowed := true, recurses := true, apart := false, narrowed := true }
def FnExactMatchingCountsUptoSaid : Prop := fnExactMatchingCountsUptoRow.holds Try.pinned (OpenSpec.upto fnExactMatchingCountsSpec)

/-- 'laws.FnMatchings', WHERE WHAT IT READS IS OF BULK AT MOST 1048576: true; the input reads as it did. -/
def fnMatchingsUptoRow : OpenClaim := { program := "ytbhhihaaiiaagaa", sum := "92ec0d24f450f87638f6dc301d2b2a756ed8f94242c3ae3087c258a528d32fd6", func := "loop.example/g01118/laws.FnMatchings", spec := "fnMatchings", unfollowed := true, recurses := true, apart := false, narrowed := true }
def FnMatchingsUptoSaid : Prop := fnMatchingsUptoRow.holds Try.pinned (OpenSpec.upto fnMatchingsSpec)

end Rows
end Go.Proofs.Ytbhhihaaiiaagaa
