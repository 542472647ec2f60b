/-
  No cell of these rows narrows 'for every input' (looked for: loops, veiled, ifaces, maps, wideKeys, modest, calm, conditions, laid).
  DERIVED. THE GIVEN ROWS OF THIS SEAT. 12 by the template 'for every input the law returns true; each argument reads behind the call as it read before'; 0 by the template 'total and deterministic' (their statements: YtdhkbajkghngeaaTotals.lean).
  GIVEN WITH THE SEED: the statements are not yours to turn. If you find one false, say at which input.
  Laid BY PROGRAM, IN A SANDBOX (cutbox-rows.mjs): the forced cells as the released guide's own fill.sh prints them over the translation 4b6ed58719359d56… (all of the seat's roots in one cut). By AI agents, Wed Nov 11 2026. No macro, syntax, notation, axiom, sorry.
-/
import Derived.Test.YtdhkbajkghngeaaChecked
import GoSem.Claim
import GoSem.ClaimJoined
import GoSem.ClaimMapViews
import Derived.JoinedTies
import Derived.KernelRfl
namespace Go.Proofs.Ytdhkbajkghngeaa
/- THE CELL 'sum', in the pinned program and in every row, IS THE sha256 OF THE DUMP (.gsa) THAT YtdhkbajkghngeaaProg.lean LOADS. Nothing in Lean hashes anything: it is a label: what it is worth is what the hold of that sum in a sandbox is worth. -/
noncomputable def Try.pinned : Pinned := { name := "ytdhkbajkghngeaa", sum := "4b6ed58719359d5662b56b1e4d23302c8c1610a4c5e9b46b874bbddf23e6134d", checked := Try.checked }
namespace Rows
def none {H : Type} : Left H := { results := [], args := [] }

/-- 'laws.FnExactColouringsOf': WHATEVER THE INPUT: true; the input reads as it did. -/
def fnExactColouringsOfSpec : ChangeSpec := { name := "fnExactColouringsOf", fn := fun _ => fun
  | [d1, d2, d3] => { results := [.lit (.bool true)], args := [d1, d2, d3] }
  | _ => none }
def fnExactColouringsOfRow : OpenClaim := { program := "ytdhkbajkghngeaa", sum := "4b6ed58719359d5662b56b1e4d23302c8c1610a4c5e9b46b874bbddf23e6134d", func := "loop.example/g01118/laws.FnExactColouringsOf", spec := "fnExactColouringsOf", unfollowed := true, recurses := true, apart := false }
def FnExactColouringsOfSaid : Prop := fnExactColouringsOfRow.holds Try.pinned (OpenSpec.ofChange fnExactColouringsOfSpec)

/-- ITS FALSE NEIGHBOUR: 'it returns false'. Refute it at one input. -/
def fnExactColouringsOfWrong : ChangeSpec := { name := "fnExactColouringsOf", fn := fun _ => fun
  | [d1, d2, d3] => { results := [.lit (.bool false)], args := [d1, d2, d3] }
  | _ => none }
def FnExactColouringsOfWrongFalsely : Prop := fnExactColouringsOfRow.holds Try.pinned (OpenSpec.ofChange fnExactColouringsOfWrong)

/-- 'laws.FnExactIndependentCounts': WHATEVER THE INPUT: true; the input reads as it did. -/
def fnExactIndependentCountsSpec : ChangeSpec := { name := "fnExactIndependentCounts", fn := fun _ => fun
  | [d] => { results := [.lit (.bool true)], args := [d] }
  | _ => none }
def fnExactIndependentCountsRow : OpenClaim := { program := "ytdhkbajkghngeaa", sum := "4b6ed58719359d5662b56b1e4d23302c8c1610a4c5e9b46b874bbddf23e6134d", func := "loop.example/g01118/laws.FnExactIndependentCounts", spec := "fnExactIndependentCounts", unfollowed := true, recurses := true, apart := false }
def FnExactIndependentCountsSaid : Prop := fnExactIndependentCountsRow.holds Try.pinned (OpenSpec.ofChange fnExactIndependentCountsSpec)

/-- ITS FALSE NEIGHBOUR: 'it returns false'. Refute it at one input. -/
def fnExactIndependentCountsWrong : ChangeSpec := { name := "fnExactIndependentCounts", fn := fun _ => fun
  | [d] => { results := [.lit (.bool false)], args := [d] }
  | _ => none }
def FnExactIndependentCountsWrongFalsely : Prop := fnExactIndependentCountsRow.holds Try.pinned (OpenSpec.ofChange fnExactIndependentCountsWrong)

/-- 'laws.FnExactRecolour': WHATEVER THE INPUT: true; the input reads as it did. -/
def fnExactRecolourSpec : ChangeSpec := { name := "fnExactRecolour", fn := fun _ => fun
  | [d1, d2, d3, d4, d5] => { results := [.lit (.bool true)], args := [d1, d2, d3, d4, d5] }
  | _ => none }
def fnExactRecolourRow : OpenClaim := { program := "ytdhkbajkghngeaa", sum := "4b6ed58719359d5662b56b1e4d23302c8c1610a4c5e9b46b874bbddf23e6134d", func := "loop.example/g01118/laws.FnExactRecolour", spec := "fnExactRecolour", unfollowed := true, recurses := true, apart := false }
def FnExactRecolourSaid : Prop := fnExactRecolourRow.holds Try.pinned (OpenSpec.ofChange fnExactRecolourSpec)

/-- ITS FALSE NEIGHBOUR: 'it returns false'. Refute it at one input. -/
def fnExactRecolourWrong : ChangeSpec := { name := "fnExactRecolour", fn := fun _ => fun
  | [d1, d2, d3, d4, d5] => { results := [.lit (.bool false)], args := [d1, d2, d3, d4, d5] }
  | _ => none }
def FnExactRecolourWrongFalsely : Prop := fnExactRecolourRow.holds Try.pinned (OpenSpec.ofChange fnExactRecolourWrong)

/-- 'laws.FnExactCanRecolour': WHATEVER THE INPUT: true; the input reads as it did. -/
def fnExactCanRecolourSpec : ChangeSpec := { name := "fnExactCanRecolour", fn := fun _ => fun
  | [d1, d2] => { results := [.lit (.bool true)], args := [d1, d2] }
  | _ => none }
def fnExactCanRecolourRow : OpenClaim := { program := "ytdhkbajkghngeaa", sum := "4b6ed58719359d5662b56b1e4d23302c8c1610a4c5e9b46b874bbddf23e6134d", func := "loop.example/g01118/laws.FnExactCanRecolour", spec := "fnExactCanRecolour", unfollowed := true, recurses := true, apart := false }
def FnExactCanRecolourSaid : Prop := fnExactCanRecolourRow.holds Try.pinned (OpenSpec.ofChange fnExactCanRecolourSpec)

/-- ITS FALSE NEIGHBOUR: 'it returns false'. Refute it at one input. -/
def fnExactCanRecolourWrong : ChangeSpec := { name := "fnExactCanRecolour", fn := fun _ => fun
  | [d1, d2] => { results := [.lit (.bool false)], args := [d1, d2] }
  | _ => none }
def FnExactCanRecolourWrongFalsely : Prop := fnExactCanRecolourRow.holds Try.pinned (OpenSpec.ofChange fnExactCanRecolourWrong)

/-- 'laws.FnExactPathsOf': WHATEVER THE INPUT: true; the input reads as it did. -/
def fnExactPathsOfSpec : ChangeSpec := { name := "fnExactPathsOf", fn := fun _ => fun
  | [d] => { results := [.lit (.bool true)], args := [d] }
  | _ => none }
def fnExactPathsOfRow : OpenClaim := { program := "ytdhkbajkghngeaa", sum := "4b6ed58719359d5662b56b1e4d23302c8c1610a4c5e9b46b874bbddf23e6134d", func := "loop.example/g01118/laws.FnExactPathsOf", spec := "fnExactPathsOf", unfollowed := true, recurses := true, apart := false }
def FnExactPathsOfSaid : Prop := fnExactPathsOfRow.holds Try.pinned (OpenSpec.ofChange fnExactPathsOfSpec)

/-- ITS FALSE NEIGHBOUR: 'it returns false'. Refute it at one input. -/
def fnExactPathsOfWrong : ChangeSpec := { name := "fnExactPathsOf", fn := fun _ => fun
  | [d] => { results := [.lit (.bool false)], args := [d] }
  | _ => none }
def FnExactPathsOfWrongFalsely : Prop := fnExactPathsOfRow.holds Try.pinned (OpenSpec.ofChange fnExactPathsOfWrong)

/-- 'laws.FnExactStepPaths': WHATEVER THE INPUT: true; the input reads as it did. -/
def fnExactStepPathsSpec : ChangeSpec := { name := "fnExactStepPaths", fn := fun _ => fun
  | [d1, d2] => { results := [.lit (.bool true)], args := [d1, d2] }
  | _ => none }
def fnExactStepPathsRow : OpenClaim := { program := "ytdhkbajkghngeaa", sum := "4b6ed58719359d5662b56b1e4d23302c8c1610a4c5e9b46b874bbddf23e6134d", func := "loop.example/g01118/laws.FnExactStepPaths", spec := "fnExactStepPaths", unfollowed := true, recurses := true, apart := false }
def FnExactStepPathsSaid : Prop := fnExactStepPathsRow.holds Try.pinned (OpenSpec.ofChange fnExactStepPathsSpec)

/-- ITS FALSE NEIGHBOUR: 'it returns false'. Refute it at one input. -/
def fnExactStepPathsWrong : ChangeSpec := { name := "fnExactStepPaths", fn := fun _ => fun
  | [d1, d2] => { results := [.lit (.bool false)], args := [d1, d2] }
  | _ => none }
def FnExactStepPathsWrongFalsely : Prop := fnExactStepPathsRow.holds Try.pinned (OpenSpec.ofChange fnExactStepPathsWrong)

/-- 'laws.FnExactChangeSet': WHATEVER THE INPUT: true; the input reads as it did. -/
def fnExactChangeSetSpec : ChangeSpec := { name := "fnExactChangeSet", fn := fun _ => fun
  | [d1, d2, d3, d4, d5] => { results := [.lit (.bool true)], args := [d1, d2, d3, d4, d5] }
  | _ => none }
def fnExactChangeSetRow : OpenClaim := { program := "ytdhkbajkghngeaa", sum := "4b6ed58719359d5662b56b1e4d23302c8c1610a4c5e9b46b874bbddf23e6134d", func := "loop.example/g01118/laws.FnExactChangeSet", spec := "fnExactChangeSet", unfollowed := true, recurses := true, apart := false }
def FnExactChangeSetSaid : Prop := fnExactChangeSetRow.holds Try.pinned (OpenSpec.ofChange fnExactChangeSetSpec)

/-- ITS FALSE NEIGHBOUR: 'it returns false'. Refute it at one input. -/
def fnExactChangeSetWrong : ChangeSpec := { name := "fnExactChangeSet", fn := fun _ => fun
  | [d1, d2, d3, d4, d5] => { results := [.lit (.bool false)], args := [d1, d2, d3, d4, d5] }
  | _ => none }
def FnExactChangeSetWrongFalsely : Prop := fnExactChangeSetRow.holds Try.pinned (OpenSpec.ofChange fnExactChangeSetWrong)

/-- 'laws.FnExactReadGraph': WHATEVER THE INPUT: true; the input reads as it did. -/
def fnExactReadGraphSpec : ChangeSpec := { name := "fnExactReadGraph", fn := fun _ => fun
  | [d] => { results := [.lit (.bool true)], args := [d] }
  | _ => none }
def fnExactReadGraphRow : OpenClaim := { program := "ytdhkbajkghngeaa", sum := "4b6ed58719359d5662b56b1e4d23302c8c1610a4c5e9b46b874bbddf23e6134d", func := "loop.example/g01118/laws.FnExactReadGraph", spec := "fnExactReadGraph", recurses := true, apart := false }
def FnExactReadGraphSaid : Prop := fnExactReadGraphRow.holds Try.pinned (OpenSpec.ofChange fnExactReadGraphSpec)

/-- ITS FALSE NEIGHBOUR: 'it returns false'. Refute it at one input. -/
def fnExactReadGraphWrong : ChangeSpec := { name := "fnExactReadGraph", fn := fun _ => fun
  | [d] => { results := [.lit (.bool false)], args := [d] }
  | _ => none }
def FnExactReadGraphWrongFalsely : Prop := fnExactReadGraphRow.holds Try.pinned (OpenSpec.ofChange fnExactReadGraphWrong)

/-- 'laws.FnExactShuffleChain': WHATEVER THE INPUT: true; the input reads as it did. -/
def fnExactShuffleChainSpec : ChangeSpec := { name := "fnExactShuffleChain", fn := fun _ => fun
  | [d1, d2] => { results := [.lit (.bool true)], args := [d1, d2] }
  | _ => none }
def fnExactShuffleChainRow : OpenClaim := { program := "ytdhkbajkghngeaa", sum := "4b6ed58719359d5662b56b1e4d23302c8c1610a4c5e9b46b874bbddf23e6134d", func := "loop.example/g01118/laws.FnExactShuffleChain", spec := "fnExactShuffleChain", inPlace := ["slices.overlaps[int64]"], unfollowed := true, recurses := true, apart := false }
def FnExactShuffleChainSaid : Prop := fnExactShuffleChainRow.holds Try.pinned (OpenSpec.ofChange fnExactShuffleChainSpec)

/-- ITS FALSE NEIGHBOUR: 'it returns false'. Refute it at one input. -/
def fnExactShuffleChainWrong : ChangeSpec := { name := "fnExactShuffleChain", fn := fun _ => fun
  | [d1, d2] => { results := [.lit (.bool false)], args := [d1, d2] }
  | _ => none }
def FnExactShuffleChainWrongFalsely : Prop := fnExactShuffleChainRow.holds Try.pinned (OpenSpec.ofChange fnExactShuffleChainWrong)

/-- 'laws.FnSandwich': WHATEVER THE INPUT: true; the input reads as it did. -/
def fnSandwichSpec : ChangeSpec := { name := "fnSandwich", fn := fun _ => fun
  | [d1, d2] => { results := [.lit (.bool true)], args := [d1, d2] }
  | _ => none }
def fnSandwichRow : OpenClaim := { program := "ytdhkbajkghngeaa", sum := "4b6ed58719359d5662b56b1e4d23302c8c1610a4c5e9b46b874bbddf23e6134d", func := "loop.example/g01118/laws.FnSandwich", spec := "fnSandwich", unfollowed := true, recurses := true, apart := false }
def FnSandwichSaid : Prop := fnSandwichRow.holds Try.pinned (OpenSpec.ofChange fnSandwichSpec)

/-- ITS FALSE NEIGHBOUR: 'it returns false'. Refute it at one input. -/
def fnSandwichWrong : ChangeSpec := { name := "fnSandwich", fn := fun _ => fun
  | [d1, d2] => { results := [.lit (.bool false)], args := [d1, d2] }
  | _ => none }
def FnSandwichWrongFalsely : Prop := fnSandwichRow.holds Try.pinned (OpenSpec.ofChange fnSandwichWrong)

/-- 'laws.FnForward': WHATEVER THE INPUT: true; the input reads as it did. -/
def fnForwardSpec : ChangeSpec := { name := "fnForward", fn := fun _ => fun
  | [d1, d2] => { results := [.lit (.bool true)], args := [d1, d2] }
  | _ => none }
def fnForwardRow : OpenClaim := { program := "ytdhkbajkghngeaa", sum := "4b6ed58719359d5662b56b1e4d23302c8c1610a4c5e9b46b874bbddf23e6134d", func := "loop.example/g01118/laws.FnForward", spec := "fnForward", unfollowed := true, recurses := true, apart := false }
def FnForwardSaid : Prop := fnForwardRow.holds Try.pinned (OpenSpec.ofChange fnForwardSpec)

/-- ITS FALSE NEIGHBOUR: 'it returns false'. Refute it at one input. -/
def fnForwardWrong : ChangeSpec := { name := "fnForward", fn := fun _ => fun
  | [d1, d2] => { results := [.lit (.bool false)], args := [d1, d2] }
  | _ => none }
def FnForwardWrongFalsely : Prop := fnForwardRow.holds Try.pinned (OpenSpec.ofChange fnForwardWrong)

/-- 'laws.FnDraws': WHATEVER THE INPUT: true; the input reads as it did. -/
def fnDrawsSpec : ChangeSpec := { name := "fnDraws", fn := fun _ => fun
  | [d1, d2] => { results := [.lit (.bool true)], args := [d1, d2] }
  | _ => none }
def fnDrawsRow : OpenClaim := { program := "ytdhkbajkghngeaa", sum := "4b6ed58719359d5662b56b1e4d23302c8c1610a4c5e9b46b874bbddf23e6134d", func := "loop.example/g01118/laws.FnDraws", spec := "fnDraws", unfollowed := true, recurses := true, apart := false }
def FnDrawsSaid : Prop := fnDrawsRow.holds Try.pinned (OpenSpec.ofChange fnDrawsSpec)

/-- ITS FALSE NEIGHBOUR: 'it returns false'. Refute it at one input. -/
def fnDrawsWrong : ChangeSpec := { name := "fnDraws", fn := fun _ => fun
  | [d1, d2] => { results := [.lit (.bool false)], args := [d1, d2] }
  | _ => none }
def FnDrawsWrongFalsely : Prop := fnDrawsRow.holds Try.pinned (OpenSpec.ofChange fnDrawsWrong)

/- THE SECOND FORM. 'bulk': how many values and letters a reading holds, each counted each time it is reached (what is shared counts as often as it is met; a slice's spare places count too). A statement '..UptoSaid' is the law's where the arguments, and the package variables that the reading takes, are together of bulk at most 1048576: NARROWER than '..Said'. Prove '..Said' where nothing that the law and all that it calls make is longer than what came in: it says more and counts as full. Else prove '..UptoSaid'. A law counts once. -/
mutual
def uptoBulk {H : Type} : DataW H → Nat
  | .lit (.string bytes) => bytes.length + 1
  | .lit _ => 1
  | .nil => 1
  | .ptr d => uptoBulk d + 1
  | .slice elems spare => uptoBulkAll elems + uptoBulkAll spare + 1
  | .agg parts => uptoBulkAll parts + 1
  | .iface _ d => uptoBulk d + 1
  | .map entries => uptoBulkEntries entries + 1
  | .held _ => 1
def uptoBulkAll {H : Type} : List (DataW H) → Nat
  | [] => 0
  | d :: r => uptoBulk d + uptoBulkAll r
def uptoBulkEntries {H : Type} : List (Lit × DataW H) → Nat
  | [] => 0
  | x :: r => uptoBulkEntry x + uptoBulkEntries r
def uptoBulkEntry {H : Type} : Lit × DataW H → Nat
  | (.string bytes, d) => bytes.length + uptoBulk d + 1
  | (_, d) => uptoBulk d + 1
 end
def uptoSmall : (H : Type) → List (DataW H) → Bool := fun _ ds => decide (uptoBulkAll ds ≤ 1048576)
def OpenSpec.upto (s : _root_.Go.ChangeSpec) : _root_.Go.OpenSpec := { _root_.Go.OpenSpec.ofChange s with cond := some uptoSmall }

/-- 'laws.FnExactColouringsOf', WHERE WHAT IT READS IS OF BULK AT MOST 1048576: true; the input reads as it did. -/
def fnExactColouringsOfUptoRow : OpenClaim := { program := "ytdhkbajkghngeaa", sum := "4b6ed58719359d5662b56b1e4d23302c8c1610a4c5e9b46b874bbddf23e6134d", func := "loop.example/g01118/laws.FnExactColouringsOf", spec := "fnExactColouringsOf", unfollowed := true, recurses := true, apart := false, narrowed := true }
def FnExactColouringsOfUptoSaid : Prop := fnExactColouringsOfUptoRow.holds Try.pinned (OpenSpec.upto fnExactColouringsOfSpec)

/-- 'laws.FnExactIndependentCounts', WHERE WHAT IT READS IS OF BULK AT MOST 1048576: true; the input reads as it did. -/
def fnExactIndependentCountsUptoRow : OpenClaim := { program := "ytdhkbajkghngeaa", sum := "4b6ed58719359d5662b56b1e4d23302c8c1610a4c5e9b46b874bbddf23e6134d", func := "loop.example/g01118/laws.FnExactIndependentCounts", spec := "fnExactIndependentCounts", unfollowed := true, recurses := true, apart := false, narrowed := true }
def FnExactIndependentCountsUptoSaid : Prop := fnExactIndependentCountsUptoRow.holds Try.pinned (OpenSpec.upto fnExactIndependentCountsSpec)

/-- 'laws.FnExactRecolour', WHERE WHAT IT READS IS OF BULK AT MOST 1048576: true; the input reads as it did. -/
def fnExactRecolourUptoRow : OpenClaim := { program := "ytdhkbajkghngeaa", sum := "4b6ed58719359d5662b56b1e4d23302c8c1610a4c5e9b46b874bbddf23e6134d", func := "loop.example/g01118/laws.FnExactRecolour", spec := "fnExactRecolour", unfollowed := true, recurses := true, apart := false, narrowed := true }
def FnExactRecolourUptoSaid : Prop := fnExactRecolourUptoRow.holds Try.pinned (OpenSpec.upto fnExactRecolourSpec)

/-- 'laws.FnExactCanRecolour', WHERE WHAT IT READS IS OF BULK AT MOST 1048576: true; the input reads as it did. -/
def fnExactCanRecolourUptoRow : OpenClaim := { program := "ytdhkbajkghngeaa", sum := "4b6ed58719359d5662b56b1e4d23302c8c1610a4c5e9b46b874bbddf23e6134d", func := "loop.example/g01118/laws.FnExactCanRecolour", spec := "fnExactCanRecolour", unfollowed := true, recurses := true, apart := false, narrowed := true }
def FnExactCanRecolourUptoSaid : Prop := fnExactCanRecolourUptoRow.holds Try.pinned (OpenSpec.upto fnExactCanRecolourSpec)

/-- 'laws.FnExactPathsOf', WHERE WHAT IT READS IS OF BULK AT MOST 1048576: true; the input reads as it did. -/
def fnExactPathsOfUptoRow : OpenClaim := { program := "ytdhkbajkghngeaa", sum := "4b6ed58719359d5662b56b1e4d23302c8c1610a4c5e9b46b874bbddf23e6134d", func := "loop.example/g01118/laws.FnExactPathsOf", spec := "fnExactPathsOf", unfollowed := true, recurses := true, apart := false, narrowed := true }
def FnExactPathsOfUptoSaid : Prop := fnExactPathsOfUptoRow.holds Try.pinned (OpenSpec.upto fnExactPathsOfSpec)

/-- 'laws.FnExactStepPaths', WHERE WHAT IT READS IS OF BULK AT MOST 1048576: true; the input reads as it did. -/
def fnExactStepPathsUptoRow : OpenClaim := { program := "ytdhkbajkghngeaa", sum := "4b6ed58719359d5662b56b1e4d23302c8c1610a4c5e9b46b874bbddf23e6134d", func := "loop.example/g01118/laws.FnExactStepPaths", spec := "fnExactStepPaths", unfollowed := true, recurses := true, apart := false, narrowed := true }
def FnExactStepPathsUptoSaid : Prop := fnExactStepPathsUptoRow.holds Try.pinned (OpenSpec.upto fnExactStepPathsSpec)

/-- 'laws.FnExactChangeSet', WHERE WHAT IT READS IS OF BULK AT MOST 1048576: true; the input reads as it did. -/
def fnExactChangeSetUptoRow : OpenClaim := { program := "ytdhkbajkghngeaa", sum := "4b6ed58719359d5662b56b1e4d23302c8c1610a4c5e9b46b874bbddf23e6134d", func := "loop.example/g01118/laws.FnExactChangeSet", spec := "fnExactChangeSet", unfollowed := true, recurses := true, apart := false, narrowed := true }
def FnExactChangeSetUptoSaid : Prop := fnExactChangeSetUptoRow.holds Try.pinned (OpenSpec.upto fnExactChangeSetSpec)

/-- 'laws.FnExactReadGraph', WHERE WHAT IT READS IS OF BULK AT MOST 1048576: true; the input reads as it did. -/
def fnExactReadGraphUptoRow : OpenClaim := { program := "ytdhkbajkghngeaa", sum := "4b6ed58719359d5662b56b1e4d23302c8c1610a4c5e9b46b874bbddf23e6134d", func := "loop.example/g01118/laws.FnExactReadGraph", spec := "fnExactReadGraph", recurses := true, apart := false, narrowed := true }
def FnExactReadGraphUptoSaid : Prop := fnExactReadGraphUptoRow.holds Try.pinned (OpenSpec.upto fnExactReadGraphSpec)

/-- 'laws.FnExactShuffleChain', WHERE WHAT IT READS IS OF BULK AT MOST 1048576: true; the input reads as it did. -/
def fnExactShuffleChainUptoRow : OpenClaim := { program := "ytdhkbajkghngeaa", sum := "4b6ed58719359d5662b56b1e4d23302c8c1610a4c5e9b46b874bbddf23e6134d", func := "loop.example/g01118/laws.FnExactShuffleChain", spec := "fnExactShuffleChain", inPlace := ["slices.overlaps[int64]"], unfollowed := true, recurses := true, apart := false, narrowed := true }
def FnExactShuffleChainUptoSaid : Prop := fnExactShuffleChainUptoRow.holds Try.pinned (OpenSpec.upto fnExactShuffleChainSpec)

/-- 'laws.FnSandwich', WHERE WHAT IT READS IS OF BULK AT MOST 1048576: true; the input reads as it did. -/
def fnSandwichUptoRow : OpenClaim := { program := "ytdhkbajkghngeaa", sum := "4b6ed58719359d5662b56b1e4d23302c8c1610a4c5e9b46b874bbddf23e6134d", func := "loop.example/g01118/laws.FnSandwich", spec := "fnSandwich", unfollowed := true, recurses := true, apart := false, narrowed := true }
def FnSandwichUptoSaid : Prop := fnSandwichUptoRow.holds Try.pinned (OpenSpec.upto fnSandwichSpec)

/-- 'laws.FnForward', WHERE WHAT IT READS IS OF BULK AT MOST 1048576: true; the input reads as it did. -/
def fnForwardUptoRow : OpenClaim := { program := "ytdhkbajkghngeaa", sum := "4b6ed58719359d5662b56b1e4d23302c8c1610a4c5e9b46b874bbddf23e6134d", func := "loop.example/g01118/laws.FnForward", spec := "fnForward", unfollowed := true, recurses := true, apart := false, narrowed := true }
def FnForwardUptoSaid : Prop := fnForwardUptoRow.holds Try.pinned (OpenSpec.upto fnForwardSpec)

/-- 'laws.FnDraws', WHERE WHAT IT READS IS OF BULK AT MOST 1048576: true; the input reads as it did. -/
def fnDrawsUptoRow : OpenClaim := { program := "ytdhkbajkghngeaa", sum := "4b6ed58719359d5662b56b1e4d23302c8c1610a4c5e9b46b874bbddf23e6134d", func := "loop.example/g01118/laws.FnDraws", spec := "fnDraws", unfollowed := true, recurses := true, apart := false, narrowed := true }
def FnDrawsUptoSaid : Prop := fnDrawsUptoRow.holds Try.pinned (OpenSpec.upto fnDrawsSpec)

end Rows
end Go.Proofs.Ytdhkbajkghngeaa
