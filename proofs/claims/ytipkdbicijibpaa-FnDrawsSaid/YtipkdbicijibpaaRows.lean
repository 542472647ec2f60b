/-
  No cell of these rows narrows 'for every input' (looked for: loops, veiled, ifaces, maps, wideKeys, modest, calm, conditions, laid).
  DERIVED. THE GIVEN ROWS OF THIS SEAT. 5 by the template 'for every input the law returns true; each argument reads behind the call as it read before'; 0 by the template 'total and deterministic' (their statements: YtipkdbicijibpaaTotals.lean).
  GIVEN WITH THE SEED: the statements are not yours to turn. If you find one false, say at which input.
  Laid BY PROGRAM, IN A SANDBOX (cutbox-rows.mjs): the forced cells as the released guide's own fill.sh prints them over the translation 97ec8d021e12ede5… (all of the seat's roots in one cut). By AI agents, Wed Nov 11 2026. No macro, syntax, notation, axiom, sorry.
-/
import Derived.Test.YtipkdbicijibpaaChecked
import GoSem.Claim
import GoSem.ClaimJoined
import GoSem.ClaimMapViews
import Derived.JoinedTies
import Derived.KernelRfl
namespace Go.Proofs.Ytipkdbicijibpaa
/- THE CELL 'sum', in the pinned program and in every row, IS THE sha256 OF THE DUMP (.gsa) THAT YtipkdbicijibpaaProg.lean LOADS. Nothing in Lean hashes anything: it is a label: what it is worth is what the hold of that sum in a sandbox is worth. -/
noncomputable def Try.pinned : Pinned := { name := "ytipkdbicijibpaa", sum := "97ec8d021e12ede5474b51f82a81bdeb4fc0a3237c95e055f3da1b11838198d8", checked := Try.checked }
namespace Rows
def none {H : Type} : Left H := { results := [], args := [] }

/-- 'laws.FnDraws': WHATEVER THE INPUT: true; the input reads as it did. -/
def fnDrawsSpec : ChangeSpec := { name := "fnDraws", fn := fun _ => fun
  | [d1, d2] => { results := [.lit (.bool true)], args := [d1, d2] }
  | _ => none }
def fnDrawsRow : OpenClaim := { program := "ytipkdbicijibpaa", sum := "97ec8d021e12ede5474b51f82a81bdeb4fc0a3237c95e055f3da1b11838198d8", func := "loop.example/g01118/laws.FnDraws", spec := "fnDraws", unfollowed := true, recurses := true, apart := false }
def FnDrawsSaid : Prop := fnDrawsRow.holds Try.pinned (OpenSpec.ofChange fnDrawsSpec)

/-- ITS FALSE NEIGHBOUR: 'it returns false'. Refute it at one input. -/
def fnDrawsWrong : ChangeSpec := { name := "fnDraws", fn := fun _ => fun
  | [d1, d2] => { results := [.lit (.bool false)], args := [d1, d2] }
  | _ => none }
def FnDrawsWrongFalsely : Prop := fnDrawsRow.holds Try.pinned (OpenSpec.ofChange fnDrawsWrong)

/-- 'laws.FnForward': WHATEVER THE INPUT: true; the input reads as it did. -/
def fnForwardSpec : ChangeSpec := { name := "fnForward", fn := fun _ => fun
  | [d1, d2] => { results := [.lit (.bool true)], args := [d1, d2] }
  | _ => none }
def fnForwardRow : OpenClaim := { program := "ytipkdbicijibpaa", sum := "97ec8d021e12ede5474b51f82a81bdeb4fc0a3237c95e055f3da1b11838198d8", func := "loop.example/g01118/laws.FnForward", spec := "fnForward", unfollowed := true, recurses := true, apart := false }
def FnForwardSaid : Prop := fnForwardRow.holds Try.pinned (OpenSpec.ofChange fnForwardSpec)

/-- ITS FALSE NEIGHBOUR: 'it returns false'. Refute it at one input. -/
def fnForwardWrong : ChangeSpec := { name := "fnForward", fn := fun _ => fun
  | [d1, d2] => { results := [.lit (.bool false)], args := [d1, d2] }
  | _ => none }
def FnForwardWrongFalsely : Prop := fnForwardRow.holds Try.pinned (OpenSpec.ofChange fnForwardWrong)

/-- 'laws.FnPastRun': WHATEVER THE INPUT: true; the input reads as it did. -/
def fnPastRunSpec : ChangeSpec := { name := "fnPastRun", fn := fun _ => fun
  | [d1, d2] => { results := [.lit (.bool true)], args := [d1, d2] }
  | _ => none }
def fnPastRunRow : OpenClaim := { program := "ytipkdbicijibpaa", sum := "97ec8d021e12ede5474b51f82a81bdeb4fc0a3237c95e055f3da1b11838198d8", func := "loop.example/g01118/laws.FnPastRun", spec := "fnPastRun", unfollowed := true, recurses := true, apart := false }
def FnPastRunSaid : Prop := fnPastRunRow.holds Try.pinned (OpenSpec.ofChange fnPastRunSpec)

/-- ITS FALSE NEIGHBOUR: 'it returns false'. Refute it at one input. -/
def fnPastRunWrong : ChangeSpec := { name := "fnPastRun", fn := fun _ => fun
  | [d1, d2] => { results := [.lit (.bool false)], args := [d1, d2] }
  | _ => none }
def FnPastRunWrongFalsely : Prop := fnPastRunRow.holds Try.pinned (OpenSpec.ofChange fnPastRunWrong)

/-- 'laws.FnSandwich': WHATEVER THE INPUT: true; the input reads as it did. -/
def fnSandwichSpec : ChangeSpec := { name := "fnSandwich", fn := fun _ => fun
  | [d1, d2] => { results := [.lit (.bool true)], args := [d1, d2] }
  | _ => none }
def fnSandwichRow : OpenClaim := { program := "ytipkdbicijibpaa", sum := "97ec8d021e12ede5474b51f82a81bdeb4fc0a3237c95e055f3da1b11838198d8", func := "loop.example/g01118/laws.FnSandwich", spec := "fnSandwich", unfollowed := true, recurses := true, apart := false }
def FnSandwichSaid : Prop := fnSandwichRow.holds Try.pinned (OpenSpec.ofChange fnSandwichSpec)

/-- ITS FALSE NEIGHBOUR: 'it returns false'. Refute it at one input. -/
def fnSandwichWrong : ChangeSpec := { name := "fnSandwich", fn := fun _ => fun
  | [d1, d2] => { results := [.lit (.bool false)], args := [d1, d2] }
  | _ => none }
def FnSandwichWrongFalsely : Prop := fnSandwichRow.holds Try.pinned (OpenSpec.ofChange fnSandwichWrong)

/-- 'laws.FnClasses': WHATEVER THE INPUT: true; the input reads as it did. -/
def fnClassesSpec : ChangeSpec := { name := "fnClasses", fn := fun _ => fun
  | [d1, d2] => { results := [.lit (.bool true)], args := [d1, d2] }
  | _ => none }
def fnClassesRow : OpenClaim := { program := "ytipkdbicijibpaa", sum := "97ec8d021e12ede5474b51f82a81bdeb4fc0a3237c95e055f3da1b11838198d8", func := "loop.example/g01118/laws.FnClasses", spec := "fnClasses", unfollowed := true, recurses := true, apart := false }
def FnClassesSaid : Prop := fnClassesRow.holds Try.pinned (OpenSpec.ofChange fnClassesSpec)

/-- ITS FALSE NEIGHBOUR: 'it returns false'. Refute it at one input. -/
def fnClassesWrong : ChangeSpec := { name := "fnClasses", fn := fun _ => fun
  | [d1, d2] => { results := [.lit (.bool false)], args := [d1, d2] }
  | _ => none }
def FnClassesWrongFalsely : Prop := fnClassesRow.holds Try.pinned (OpenSpec.ofChange fnClassesWrong)

/- THE SECOND FORM. 'bulk': how many values and letters a reading holds, each counted each time it is reached (what is shared counts as often as it is met; a slice's spare places count too). A statement '..UptoSaid' is the law's where the arguments, and the package variables that the reading takes, are together of bulk at most 1048576: NARROWER than '..Said'. Prove '..Said' where nothing that the law and all that it calls make is longer than what came in: it says more and counts as full. Else prove '..UptoSaid'. A law counts once. -/
mutual
def uptoBulk {H : Type} : DataW H → Nat
  | .lit (.string bytes) => bytes.length + 1
  | .lit _ => 1
  | .nil => 1
  | .ptr d => uptoBulk d + 1
  | .slice elems spare => uptoBulkAll elems + uptoBulkAll spare + 1
  | .agg parts => uptoBulkAll parts + 1
  | .iface _ d => uptoBulk d + 1
  | .map entries => uptoBulkEntries entries + 1
  | .held _ => 1
def uptoBulkAll {H : Type} : List (DataW H) → Nat
  | [] => 0
  | d :: r => uptoBulk d + uptoBulkAll r
def uptoBulkEntries {H : Type} : List (Lit × DataW H) → Nat
  | [] => 0
  | x :: r => uptoBulkEntry x + uptoBulkEntries r
def uptoBulkEntry {H : Type} : Lit × DataW H → Nat
  | (.string bytes, d) => bytes.length + uptoBulk d + 1
  | (_, d) => uptoBulk d + 1
 end
def uptoSmall : (H : Type) → List (DataW H) → Bool := fun _ ds => decide (uptoBulkAll ds ≤ 1048576)
def OpenSpec.upto (s : _root_.Go.ChangeSpec) : _root_.Go.OpenSpec := { _root_.Go.OpenSpec.ofChange s with cond := some uptoSmall }

/-- 'laws.FnDraws', WHERE WHAT IT READS IS OF BULK AT MOST 1048576: true; the input reads as it did. -/
def fnDrawsUptoRow : OpenClaim := { program := "ytipkdbicijibpaa", sum := "97ec8d021e12ede5474b51f82a81bdeb4fc0a3237c95e055f3da1b11838198d8", func := "loop.example/g01118/laws.FnDraws", spec := "fnDraws", unfollowed := true, recurses := true, apart := false, narrowed := true }
def FnDrawsUptoSaid : Prop := fnDrawsUptoRow.holds Try.pinned (OpenSpec.upto fnDrawsSpec)

/-- 'laws.FnForward', WHERE WHAT IT READS IS OF BULK AT MOST 1048576: true; the input reads as it did. -/
def fnForwardUptoRow : OpenClaim := { program := "ytipkdbicijibpaa", sum := "97ec8d021e12ede5474b51f82a81bdeb4fc0a3237c95e055f3da1b11838198d8", func := "loop.example/g01118/laws.FnForward", spec := "fnForward", unfollowed := true, recurses := true, apart := false, narrowed := true }
def FnForwardUptoSaid : Prop := fnForwardUptoRow.holds Try.pinned (OpenSpec.upto fnForwardSpec)

/-- 'laws.FnPastRun', WHERE WHAT IT READS IS OF BULK AT MOST 1048576: true; the input reads as it did. -/
def fnPastRunUptoRow : OpenClaim := { program := "ytipkdbicijibpaa", sum := "97ec8d021e12ede5474b51f82a81bdeb4fc0a3237c95e055f3da1b11838198d8", func := "loop.example/g01118/laws.FnPastRun", spec := "fnPastRun", unfollowed := true, recurses := true, apart := false, narrowed := true }
def FnPastRunUptoSaid : Prop := fnPastRunUptoRow.holds Try.pinned (OpenSpec.upto fnPastRunSpec)

/-- 'laws.FnSandwich', WHERE WHAT IT READS IS OF BULK AT MOST 1048576: true; the input reads as it did. -/
def fnSandwichUptoRow : OpenClaim := { program := "ytipkdbicijibpaa", sum := "97ec8d021e12ede5474b51f82a81bdeb4fc0a3237c95e055f3da1b11838198d8", func := "loop.example/g01118/laws.FnSandwich", spec := "fnSandwich", unfollowed := true, recurses := true, apart := false, narrowed := true }
def FnSandwichUptoSaid : Prop := fnSandwichUptoRow.holds Try.pinned (OpenSpec.upto fnSandwichSpec)

/-- 'laws.FnClasses', WHERE WHAT IT READS IS OF BULK AT MOST 1048576: true; the input reads as it did. -/
def fnClassesUptoRow : OpenClaim := { program := "ytipkdbicijibpaa", sum := "97ec8d021e12ede5474b51f82a81bdeb4fc0a3237c95e055f3da1b11838198d8", func := "loop.example/g01118/laws.FnClasses", spec := "fnClasses", unfollowed := true, recurses := true, apart := false, narrowed := true }
def FnClassesUptoSaid : Prop := fnClassesUptoRow.holds Try.pinned (OpenSpec.upto fnClassesSpec)

end Rows
end Go.Proofs.Ytipkdbicijibpaa
