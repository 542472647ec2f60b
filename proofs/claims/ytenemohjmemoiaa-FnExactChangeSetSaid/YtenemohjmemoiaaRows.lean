/-
  No cell of these rows narrows 'for every input' (looked for: loops, veiled, ifaces, maps, wideKeys, modest, calm, conditions, laid).
  DERIVED. THE GIVEN ROWS OF THIS SEAT. 6 by the template 'for every input the law returns true; each argument reads behind the call as it read before'; 0 by the template 'total and deterministic' (their statements: YtenemohjmemoiaaTotals.lean).
  GIVEN WITH THE SEED: the statements are not yours to turn. If you find one false, say at which input.
  Laid BY PROGRAM, IN A SANDBOX (cutbox-rows.mjs): the forced cells as the released guide's own fill.sh prints them over the translation 5d7f60d69551a850… (all of the seat's roots in one cut). By AI agents, Wed Nov 11 2026. No macro, syntax, notation, axiom, sorry.
-/
import Derived.Test.YtenemohjmemoiaaChecked
import GoSem.Claim
import GoSem.ClaimJoined
import GoSem.ClaimMapViews
import Derived.JoinedTies
import Derived.KernelRfl
namespace Go.Proofs.Ytenemohjmemoiaa
/- THE CELL 'sum', in the pinned program and in every row, IS THE sha256 OF THE DUMP (.gsa) THAT YtenemohjmemoiaaProg.lean LOADS. Nothing in Lean hashes anything: it is a label: what it is worth is what the hold of that sum in a sandbox is worth. -/
noncomputable def Try.pinned : Pinned := { name := "ytenemohjmemoiaa", sum := "5d7f60d69551a850589f8fe9f7cc3948405119679ac2e40c1255749b65dad42f", checked := Try.checked }
namespace Rows
def none {H : Type} : Left H := { results := [], args := [] }

/-- 'laws.FnExactReadGraph': WHATEVER THE INPUT: true; the input reads as it did. -/
def fnExactReadGraphSpec : ChangeSpec := { name := "fnExactReadGraph", fn := fun _ => fun
  | [d] => { results := [.lit (.bool true)], args := [d] }
  | _ => none }
def fnExactReadGraphRow : OpenClaim := { program := "ytenemohjmemoiaa", sum := "5d7f60d69551a850589f8fe9f7cc3948405119679ac2e40c1255749b65dad42f", func := "loop.example/g01118/laws.FnExactReadGraph", spec := "fnExactReadGraph", recurses := true, apart := false }
def FnExactReadGraphSaid : Prop := fnExactReadGraphRow.holds Try.pinned (OpenSpec.ofChange fnExactReadGraphSpec)

/-- ITS FALSE NEIGHBOUR: 'it returns false'. Refute it at one input. -/
def fnExactReadGraphWrong : ChangeSpec := { name := "fnExactReadGraph", fn := fun _ => fun
  | [d] => { results := [.lit (.bool false)], args := [d] }
  | _ => none }
def FnExactReadGraphWrongFalsely : Prop := fnExactReadGraphRow.holds Try.pinned (OpenSpec.ofChange fnExactReadGraphWrong)

/-- 'laws.FnExactChangeSet': WHATEVER THE INPUT: true; the input reads as it did. -/
def fnExactChangeSetSpec : ChangeSpec := { name := "fnExactChangeSet", fn := fun _ => fun
  | [d1, d2, d3, d4, d5] => { results := [.lit (.bool true)], args := [d1, d2, d3, d4, d5] }
  | _ => none }
def fnExactChangeSetRow : OpenClaim := { program := "ytenemohjmemoiaa", sum := "5d7f60d69551a850589f8fe9f7cc3948405119679ac2e40c1255749b65dad42f", func := "loop.example/g01118/laws.FnExactChangeSet", spec := "fnExactChangeSet", unfollowed := true, recurses := true, apart := false }
def FnExactChangeSetSaid : Prop := fnExactChangeSetRow.holds Try.pinned (OpenSpec.ofChange fnExactChangeSetSpec)

/-- ITS FALSE NEIGHBOUR: 'it returns false'. Refute it at one input. -/
def fnExactChangeSetWrong : ChangeSpec := { name := "fnExactChangeSet", fn := fun _ => fun
  | [d1, d2, d3, d4, d5] => { results := [.lit (.bool false)], args := [d1, d2, d3, d4, d5] }
  | _ => none }
def FnExactChangeSetWrongFalsely : Prop := fnExactChangeSetRow.holds Try.pinned (OpenSpec.ofChange fnExactChangeSetWrong)

/-- 'laws.FnForward': WHATEVER THE INPUT: true; the input reads as it did. -/
def fnForwardSpec : ChangeSpec := { name := "fnForward", fn := fun _ => fun
  | [d1, d2] => { results := [.lit (.bool true)], args := [d1, d2] }
  | _ => none }
def fnForwardRow : OpenClaim := { program := "ytenemohjmemoiaa", sum := "5d7f60d69551a850589f8fe9f7cc3948405119679ac2e40c1255749b65dad42f", func := "loop.example/g01118/laws.FnForward", spec := "fnForward", unfollowed := true, recurses := true, apart := false }
def FnForwardSaid : Prop := fnForwardRow.holds Try.pinned (OpenSpec.ofChange fnForwardSpec)

/-- ITS FALSE NEIGHBOUR: 'it returns false'. Refute it at one input. -/
def fnForwardWrong : ChangeSpec := { name := "fnForward", fn := fun _ => fun
  | [d1, d2] => { results := [.lit (.bool false)], args := [d1, d2] }
  | _ => none }
def FnForwardWrongFalsely : Prop := fnForwardRow.holds Try.pinned (OpenSpec.ofChange fnForwardWrong)

/-- 'laws.FnClasses': WHATEVER THE INPUT: true; the input reads as it did. -/
def fnClassesSpec : ChangeSpec := { name := "fnClasses", fn := fun _ => fun
  | [d1, d2] => { results := [.lit (.bool true)], args := [d1, d2] }
  | _ => none }
def fnClassesRow : OpenClaim := { program := "ytenemohjmemoiaa", sum := "5d7f60d69551a850589f8fe9f7cc3948405119679ac2e40c1255749b65dad42f", func := "loop.example/g01118/laws.FnClasses", spec := "fnClasses", unfollowed := true, recurses := true, apart := false }
def FnClassesSaid : Prop := fnClassesRow.holds Try.pinned (OpenSpec.ofChange fnClassesSpec)

/-- ITS FALSE NEIGHBOUR: 'it returns false'. Refute it at one input. -/
def fnClassesWrong : ChangeSpec := { name := "fnClasses", fn := fun _ => fun
  | [d1, d2] => { results := [.lit (.bool false)], args := [d1, d2] }
  | _ => none }
def FnClassesWrongFalsely : Prop := fnClassesRow.holds Try.pinned (OpenSpec.ofChange fnClassesWrong)

/-- 'laws.FnPastRun': WHATEVER THE INPUT: true; the input reads as it did. -/
def fnPastRunSpec : ChangeSpec := { name := "fnPastRun", fn := fun _ => fun
  | [d1, d2] => { results := [.lit (.bool true)], args := [d1, d2] }
  | _ => none }
def fnPastRunRow : OpenClaim := { program := "ytenemohjmemoiaa", sum := "5d7f60d69551a850589f8fe9f7cc3948405119679ac2e40c1255749b65dad42f", func := "loop.example/g01118/laws.FnPastRun", spec := "fnPastRun", unfollowed := true, recurses := true, apart := false }
def FnPastRunSaid : Prop := fnPastRunRow.holds Try.pinned (OpenSpec.ofChange fnPastRunSpec)

/-- ITS FALSE NEIGHBOUR: 'it returns false'. Refute it at one input. -/
def fnPastRunWrong : ChangeSpec := { name := "fnPastRun", fn := fun _ => fun
  | [d1, d2] => { results := [.lit (.bool false)], args := [d1, d2] }
  | _ => none }
def FnPastRunWrongFalsely : Prop := fnPastRunRow.holds Try.pinned (OpenSpec.ofChange fnPastRunWrong)

/-- 'laws.FnWindows': WHATEVER THE INPUT: true; the input reads as it did. -/
def fnWindowsSpec : ChangeSpec := { name := "fnWindows", fn := fun _ => fun
  | [d1, d2] => { results := [.lit (.bool true)], args := [d1, d2] }
  | _ => none }
def fnWindowsRow : OpenClaim := { program := "ytenemohjmemoiaa", sum := "5d7f60d69551a850589f8fe9f7cc3948405119679ac2e40c1255749b65dad42f", func := "loop.example/g01118/laws.FnWindows", spec := "fnWindows", unfollowed := true, recurses := true, apart := false }
def FnWindowsSaid : Prop := fnWindowsRow.holds Try.pinned (OpenSpec.ofChange fnWindowsSpec)

/-- ITS FALSE NEIGHBOUR: 'it returns false'. Refute it at one input. -/
def fnWindowsWrong : ChangeSpec := { name := "fnWindows", fn := fun _ => fun
  | [d1, d2] => { results := [.lit (.bool false)], args := [d1, d2] }
  | _ => none }
def FnWindowsWrongFalsely : Prop := fnWindowsRow.holds Try.pinned (OpenSpec.ofChange fnWindowsWrong)

/- THE SECOND FORM. 'bulk': how many values and letters a reading holds, each counted each time it is reached (what is shared counts as often as it is met; a slice's spare places count too). A statement '..UptoSaid' is the law's where the arguments, and the package variables that the reading takes, are together of bulk at most 1048576: NARROWER than '..Said'. Prove '..Said' where nothing that the law and all that it calls make is longer than what came in: it says more and counts as full. Else prove '..UptoSaid'. A law counts once. -/
mutual
def uptoBulk {H : Type} : DataW H → Nat
  | .lit (.string bytes) => bytes.length + 1
  | .lit _ => 1
  | .nil => 1
  | .ptr d => uptoBulk d + 1
  | .slice elems spare => uptoBulkAll elems + uptoBulkAll spare + 1
  | .agg parts => uptoBulkAll parts + 1
  | .iface _ d => uptoBulk d + 1
  | .map entries => uptoBulkEntries entries + 1
  | .held _ => 1
def uptoBulkAll {H : Type} : List (DataW H) → Nat
  | [] => 0
  | d :: r => uptoBulk d + uptoBulkAll r
def uptoBulkEntries {H : Type} : List (Lit × DataW H) → Nat
  | [] => 0
  | x :: r => uptoBulkEntry x + uptoBulkEntries r
def uptoBulkEntry {H : Type} : Lit × DataW H → Nat
  | (.string bytes, d) => bytes.length + uptoBulk d + 1
  | (_, d) => uptoBulk d + 1
 end
def uptoSmall : (H : Type) → List (DataW H) → Bool := fun _ ds => decide (uptoBulkAll ds ≤ 1048576)
def OpenSpec.upto (s : _root_.Go.ChangeSpec) : _root_.Go.OpenSpec := { _root_.Go.OpenSpec.ofChange s with cond := some uptoSmall }

/-- 'laws.FnExactReadGraph', WHERE WHAT IT READS IS OF BULK AT MOST 1048576: true; the input reads as it did. -/
def fnExactReadGraphUptoRow : OpenClaim := { program := "ytenemohjmemoiaa", sum := "5d7f60d69551a850589f8fe9f7cc3948405119679ac2e40c1255749b65dad42f", func := "loop.example/g01118/laws.FnExactReadGraph", spec := "fnExactReadGraph", recurses := true, apart := false, narrowed := true }
def FnExactReadGraphUptoSaid : Prop := fnExactReadGraphUptoRow.holds Try.pinned (OpenSpec.upto fnExactReadGraphSpec)

/-- 'laws.FnExactChangeSet', WHERE WHAT IT READS IS OF BULK AT MOST 1048576: true; the input reads as it did. -/
def fnExactChangeSetUptoRow : OpenClaim := { program := "ytenemohjmemoiaa", sum := "5d7f60d69551a850589f8fe9f7cc3948405119679ac2e40c1255749b65dad42f", func := "loop.example/g01118/laws.FnExactChangeSet", spec := "fnExactChangeSet", unfollowed := true, recurses := true, apart := false, narrowed := true }
def FnExactChangeSetUptoSaid : Prop := fnExactChangeSetUptoRow.holds Try.pinned (OpenSpec.upto fnExactChangeSetSpec)

/-- 'laws.FnForward', WHERE WHAT IT READS IS OF BULK AT MOST 1048576: true; the input reads as it did. -/
def fnForwardUptoRow : OpenClaim := { program := "ytenemohjmemoiaa", sum := "5d7f60d69551a850589f8fe9f7cc3948405119679ac2e40c1255749b65dad42f", func := "loop.example/g01118/laws.FnForward", spec := "fnForward", unfollowed := true, recurses := true, apart := false, narrowed := true }
def FnForwardUptoSaid : Prop := fnForwardUptoRow.holds Try.pinned (OpenSpec.upto fnForwardSpec)

/-- 'laws.FnClasses', WHERE WHAT IT READS IS OF BULK AT MOST 1048576: true; the input reads as it did. -/
def fnClassesUptoRow : OpenClaim := { program := "ytenemohjmemoiaa", sum := "5d7f60d69551a850589f8fe9f7cc3948405119679ac2e40c1255749b65dad42f", func := "loop.example/g01118/laws.FnClasses", spec := "fnClasses", unfollowed := true, recurses := true, apart := false, narrowed := true }
def FnClassesUptoSaid : Prop := fnClassesUptoRow.holds Try.pinned (OpenSpec.upto fnClassesSpec)

/-- 'laws.FnPastRun', WHERE WHAT IT READS IS OF BULK AT MOST 1048576: true; the input reads as it did. -/
def fnPastRunUptoRow : OpenClaim := { program := "ytenemohjmemoiaa", sum := "5d7f60d69551a850589f8fe9f7cc3948405119679ac2e40c1255749b65dad42f", func := "loop.example/g01118/laws.FnPastRun", spec := "fnPastRun", unfollowed := true, recurses := true, apart := false, narrowed := true }
def FnPastRunUptoSaid : Prop := fnPastRunUptoRow.holds Try.pinned (OpenSpec.upto fnPastRunSpec)

/-- 'laws.FnWindows', WHERE WHAT IT READS IS OF BULK AT MOST 1048576: true; the input reads as it did. -/
def fnWindowsUptoRow : OpenClaim := { program := "ytenemohjmemoiaa", sum := "5d7f60d69551a850589f8fe9f7cc3948405119679ac2e40c1255749b65dad42f", func := "loop.example/g01118/laws.FnWindows", spec := "fnWindows", unfollowed := true, recurses := true, apart := false, narrowed := true }
def FnWindowsUptoSaid : Prop := fnWindowsUptoRow.holds Try.pinned (OpenSpec.upto fnWindowsSpec)

end Rows
end Go.Proofs.Ytenemohjmemoiaa
