/-
  No cell of these rows narrows 'for every input' (looked for: loops, veiled, ifaces, maps, wideKeys, modest, calm, conditions, laid).
  DERIVED. THE GIVEN ROWS OF THIS SEAT. 3 by the template 'for every input the law returns true; each argument reads behind the call as it read before'; 0 by the template 'total and deterministic' (their statements: YtmhpbkckmjdojaaTotals.lean).
  GIVEN WITH THE SEED: the statements are not yours to turn. If you find one false, say at which input.
  Laid BY PROGRAM, IN A SANDBOX (cutbox-rows.mjs): the forced cells as the released guide's own fill.sh prints them over the translation 4c5e7db313259e73… (all of the seat's roots in one cut). By AI agents, Wed Nov 11 2026. No macro, syntax, notation, axiom, sorry.
-/
import Derived.Test.YtmhpbkckmjdojaaChecked
import GoSem.Claim
import GoSem.ClaimJoined
import GoSem.ClaimMapViews
import Derived.JoinedTies
import Derived.KernelRfl
namespace Go.Proofs.Ytmhpbkckmjdojaa
/- THE CELL 'sum', in the pinned program and in every row, IS THE sha256 OF THE DUMP (.gsa) THAT YtmhpbkckmjdojaaProg.lean LOADS. Nothing in Lean hashes anything: it is a label: what it is worth is what the hold of that sum in a sandbox is worth. -/
noncomputable def Try.pinned : Pinned := { name := "ytmhpbkckmjdojaa", sum := "4c5e7db313259e733295f9ef167dc7e3a59d0982aba52a3524f02322b2a52a00", checked := Try.checked }
namespace Rows
def none {H : Type} : Left H := { results := [], args := [] }

/-- 'laws.FnExactColouringsOf': WHATEVER THE INPUT: true; the input reads as it did. -/
def fnExactColouringsOfSpec : ChangeSpec := { name := "fnExactColouringsOf", fn := fun _ => fun
  | [d1, d2, d3] => { results := [.lit (.bool true)], args := [d1, d2, d3] }
  | _ => none }
def fnExactColouringsOfRow : OpenClaim := { program := "ytmhpbkckmjdojaa", sum := "4c5e7db313259e733295f9ef167dc7e3a59d0982aba52a3524f02322b2a52a00", func := "loop.example/g01118/laws.FnExactColouringsOf", spec := "fnExactColouringsOf", unfollowed := true, recurses := true, apart := false }
def FnExactColouringsOfSaid : Prop := fnExactColouringsOfRow.holds Try.pinned (OpenSpec.ofChange fnExactColouringsOfSpec)

/-- ITS FALSE NEIGHBOUR: 'it returns false'. Refute it at one input. -/
def fnExactColouringsOfWrong : ChangeSpec := { name := "fnExactColouringsOf", fn := fun _ => fun
  | [d1, d2, d3] => { results := [.lit (.bool false)], args := [d1, d2, d3] }
  | _ => none }
def FnExactColouringsOfWrongFalsely : Prop := fnExactColouringsOfRow.holds Try.pinned (OpenSpec.ofChange fnExactColouringsOfWrong)

/-- 'laws.FnExactIndependentCounts': WHATEVER THE INPUT: true; the input reads as it did. -/
def fnExactIndependentCountsSpec : ChangeSpec := { name := "fnExactIndependentCounts", fn := fun _ => fun
  | [d] => { results := [.lit (.bool true)], args := [d] }
  | _ => none }
def fnExactIndependentCountsRow : OpenClaim := { program := "ytmhpbkckmjdojaa", sum := "4c5e7db313259e733295f9ef167dc7e3a59d0982aba52a3524f02322b2a52a00", func := "loop.example/g01118/laws.FnExactIndependentCounts", spec := "fnExactIndependentCounts", unfollowed := true, recurses := true, apart := false }
def FnExactIndependentCountsSaid : Prop := fnExactIndependentCountsRow.holds Try.pinned (OpenSpec.ofChange fnExactIndependentCountsSpec)

/-- ITS FALSE NEIGHBOUR: 'it returns false'. Refute it at one input. -/
def fnExactIndependentCountsWrong : ChangeSpec := { name := "fnExactIndependentCounts", fn := fun _ => fun
  | [d] => { results := [.lit (.bool false)], args := [d] }
  | _ => none }
def FnExactIndependentCountsWrongFalsely : Prop := fnExactIndependentCountsRow.holds Try.pinned (OpenSpec.ofChange fnExactIndependentCountsWrong)

/-- 'laws.FnExactChangeSet': WHATEVER THE INPUT: true; the input reads as it did. -/
def fnExactChangeSetSpec : ChangeSpec := { name := "fnExactChangeSet", fn := fun _ => fun
  | [d1, d2, d3, d4, d5] => { results := [.lit (.bool true)], args := [d1, d2, d3, d4, d5] }
  | _ => none }
def fnExactChangeSetRow : OpenClaim := { program := "ytmhpbkckmjdojaa", sum := "4c5e7db313259e733295f9ef167dc7e3a59d0982aba52a3524f02322b2a52a00", func := "loop.example/g01118/laws.FnExactChangeSet", spec := "fnExactChangeSet", unfollowed := true, recurses := true, apart := false }
def FnExactChangeSetSaid : Prop := fnExactChangeSetRow.holds Try.pinned (OpenSpec.ofChange fnExactChangeSetSpec)

/-- ITS FALSE NEIGHBOUR: 'it returns false'. Refute it at one input. -/
def fnExactChangeSetWrong : ChangeSpec := { name := "fnExactChangeSet", fn := fun _ => fun
  | [d1, d2, d3, d4, d5] => { results := [.lit (.bool false)], args := [d1, d2, d3, d4, d5] }
  | _ => none }
def FnExactChangeSetWrongFalsely : Prop := fnExactChangeSetRow.holds Try.pinned (OpenSpec.ofChange fnExactChangeSetWrong)

/- THE SECOND FORM. 'bulk': how many values and letters a reading holds, each counted each time it is reached (what is shared counts as often as it is met; a slice's spare places count too). A statement '..UptoSaid' is the law's where the arguments, and the package variables that the reading takes, are together of bulk at most 1048576: NARROWER than '..Said'. Prove '..Said' where nothing that the law and all that it calls make is longer than what came in: it says more and counts as full. Else prove '..UptoSaid'. A law counts once. -/
mutual
def uptoBulk {H : Type} : DataW H → Nat
  | .lit (.string bytes) => bytes.length + 1
  | .lit _ => 1
  | .nil => 1
  | .ptr d => uptoBulk d + 1
  | .slice elems spare => uptoBulkAll elems + uptoBulkAll spare + 1
  | .agg parts => uptoBulkAll parts + 1
  | .iface _ d => uptoBulk d + 1
  | .map entries => uptoBulkEntries entries + 1
  | .held _ => 1
def uptoBulkAll {H : Type} : List (DataW H) → Nat
  | [] => 0
  | d :: r => uptoBulk d + uptoBulkAll r
def uptoBulkEntries {H : Type} : List (Lit × DataW H) → Nat
  | [] => 0
  | x :: r => uptoBulkEntry x + uptoBulkEntries r
def uptoBulkEntry {H : Type} : Lit × DataW H → Nat
  | (.string bytes, d) => bytes.length + uptoBulk d + 1
  | (_, d) => uptoBulk d + 1
 end
def uptoSmall : (H : Type) → List (DataW H) → Bool := fun _ ds => decide (uptoBulkAll ds ≤ 1048576)
def OpenSpec.upto (s : _root_.Go.ChangeSpec) : _root_.Go.OpenSpec := { _root_.Go.OpenSpec.ofChange s with cond := some uptoSmall }

/-- 'laws.FnExactColouringsOf', WHERE WHAT IT READS IS OF BULK AT MOST 1048576: true; the input reads as it did. -/
def fnExactColouringsOfUptoRow : OpenClaim := { program := "ytmhpbkckmjdojaa", sum := "4c5e7db313259e733295f9ef167dc7e3a59d0982aba52a3524f02322b2a52a00", func := "loop.example/g01118/laws.FnExactColouringsOf", spec := "fnExactColouringsOf", unfollowed := true, recurses := true, apart := false, narrowed := true }
def FnExactColouringsOfUptoSaid : Prop := fnExactColouringsOfUptoRow.holds Try.pinned (OpenSpec.upto fnExactColouringsOfSpec)

/-- 'laws.FnExactIndependentCounts', WHERE WHAT IT READS IS OF BULK AT MOST 1048576: true; the input reads as it did. -/
def fnExactIndependentCountsUptoRow : OpenClaim := { program := "ytmhpbkckmjdojaa", sum := "4c5e7db313259e733295f9ef167dc7e3a59d0982aba52a3524f02322b2a52a00", func := "loop.example/g01118/laws.FnExactIndependentCounts", spec := "fnExactIndependentCounts", unfollowed := true, recurses := true, apart := false, narrowed := true }
def FnExactIndependentCountsUptoSaid : Prop := fnExactIndependentCountsUptoRow.holds Try.pinned (OpenSpec.upto fnExactIndependentCountsSpec)

/-- 'laws.FnExactChangeSet', WHERE WHAT IT READS IS OF BULK AT MOST 1048576: true; the input reads as it did. -/
def fnExactChangeSetUptoRow : OpenClaim := { program := "ytmhpbkckmjdojaa", sum := "4c5e7db313259e733295f9ef167dc7e3a59d0982aba52a3524f02322b2a52a00", func := "loop.example/g01118/laws.FnExactChangeSet", spec := "fnExactChangeSet", unfollowed := true, recurses := true, apart := false, narrowed := true }
def FnExactChangeSetUptoSaid : Prop := fnExactChangeSetUptoRow.holds Try.pinned (OpenSpec.upto fnExactChangeSetSpec)

end Rows
end Go.Proofs.Ytmhpbkckmjdojaa
