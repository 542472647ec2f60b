/-
  No cell of these rows narrows 'for every input' (looked for: loops, veiled, ifaces, maps, wideKeys, modest, calm, conditions, laid).
  DERIVED. THE GIVEN ROWS OF THIS SEAT. 6 by the template 'for every input the law returns true; each argument reads behind the call as it read before'; 0 by the template 'total and deterministic' (their statements: YtpmabnohdabbdaaTotals.lean).
  GIVEN WITH THE SEED: the statements are not yours to turn. If you find one false, say at which input.
  Laid BY PROGRAM, IN A SANDBOX (cutbox-rows.mjs): the forced cells as the released guide's own fill.sh prints them over the translation e6bbf4dad85a7424… (all of the seat's roots in one cut). By AI agents, Wed Nov 11 2026. No macro, syntax, notation, axiom, sorry.
-/
import Derived.Test.YtpmabnohdabbdaaChecked
import GoSem.Claim
import GoSem.ClaimJoined
import GoSem.ClaimMapViews
import Derived.JoinedTies
import Derived.KernelRfl
namespace Go.Proofs.Ytpmabnohdabbdaa
/- THE CELL 'sum', in the pinned program and in every row, IS THE sha256 OF THE DUMP (.gsa) THAT YtpmabnohdabbdaaProg.lean LOADS. Nothing in Lean hashes anything: it is a label: what it is worth is what the hold of that sum in a sandbox is worth. -/
noncomputable def Try.pinned : Pinned := { name := "ytpmabnohdabbdaa", sum := "e6bbf4dad85a74240b4f751131ebc6be67038a51cfd7ef4cfa78e78f0965faaa", checked := Try.checked }
namespace Rows
def none {H : Type} : Left H := { results := [], args := [] }

/-- 'laws.FnExactCanRecolour': WHATEVER THE INPUT: true; the input reads as it did. -/
def fnExactCanRecolourSpec : ChangeSpec := { name := "fnExactCanRecolour", fn := fun _ => fun
  | [d1, d2] => { results := [.lit (.bool true)], args := [d1, d2] }
  | _ => none }
def fnExactCanRecolourRow : OpenClaim := { program := "ytpmabnohdabbdaa", sum := "e6bbf4dad85a74240b4f751131ebc6be67038a51cfd7ef4cfa78e78f0965faaa", func := "loop.example/g01118/laws.FnExactCanRecolour", spec := "fnExactCanRecolour", unfollowed := true, recurses := true, apart := false }
def FnExactCanRecolourSaid : Prop := fnExactCanRecolourRow.holds Try.pinned (OpenSpec.ofChange fnExactCanRecolourSpec)

/-- ITS FALSE NEIGHBOUR: 'it returns false'. Refute it at one input. -/
def fnExactCanRecolourWrong : ChangeSpec := { name := "fnExactCanRecolour", fn := fun _ => fun
  | [d1, d2] => { results := [.lit (.bool false)], args := [d1, d2] }
  | _ => none }
def FnExactCanRecolourWrongFalsely : Prop := fnExactCanRecolourRow.holds Try.pinned (OpenSpec.ofChange fnExactCanRecolourWrong)

/-- 'laws.FnExactPathsOf': WHATEVER THE INPUT: true; the input reads as it did. -/
def fnExactPathsOfSpec : ChangeSpec := { name := "fnExactPathsOf", fn := fun _ => fun
  | [d] => { results := [.lit (.bool true)], args := [d] }
  | _ => none }
def fnExactPathsOfRow : OpenClaim := { program := "ytpmabnohdabbdaa", sum := "e6bbf4dad85a74240b4f751131ebc6be67038a51cfd7ef4cfa78e78f0965faaa", func := "loop.example/g01118/laws.FnExactPathsOf", spec := "fnExactPathsOf", unfollowed := true, recurses := true, apart := false }
def FnExactPathsOfSaid : Prop := fnExactPathsOfRow.holds Try.pinned (OpenSpec.ofChange fnExactPathsOfSpec)

/-- ITS FALSE NEIGHBOUR: 'it returns false'. Refute it at one input. -/
def fnExactPathsOfWrong : ChangeSpec := { name := "fnExactPathsOf", fn := fun _ => fun
  | [d] => { results := [.lit (.bool false)], args := [d] }
  | _ => none }
def FnExactPathsOfWrongFalsely : Prop := fnExactPathsOfRow.holds Try.pinned (OpenSpec.ofChange fnExactPathsOfWrong)

/-- 'laws.FnExactStepPaths': WHATEVER THE INPUT: true; the input reads as it did. -/
def fnExactStepPathsSpec : ChangeSpec := { name := "fnExactStepPaths", fn := fun _ => fun
  | [d1, d2] => { results := [.lit (.bool true)], args := [d1, d2] }
  | _ => none }
def fnExactStepPathsRow : OpenClaim := { program := "ytpmabnohdabbdaa", sum := "e6bbf4dad85a74240b4f751131ebc6be67038a51cfd7ef4cfa78e78f0965faaa", func := "loop.example/g01118/laws.FnExactStepPaths", spec := "fnExactStepPaths", unfollowed := true, recurses := true, apart := false }
def FnExactStepPathsSaid : Prop := fnExactStepPathsRow.holds Try.pinned (OpenSpec.ofChange fnExactStepPathsSpec)

/-- ITS FALSE NEIGHBOUR: 'it returns false'. Refute it at one input. -/
def fnExactStepPathsWrong : ChangeSpec := { name := "fnExactStepPaths", fn := fun _ => fun
  | [d1, d2] => { results := [.lit (.bool false)], args := [d1, d2] }
  | _ => none }
def FnExactStepPathsWrongFalsely : Prop := fnExactStepPathsRow.holds Try.pinned (OpenSpec.ofChange fnExactStepPathsWrong)

/-- 'laws.FnExactShuffleChain': WHATEVER THE INPUT: true; the input reads as it did. -/
def fnExactShuffleChainSpec : ChangeSpec := { name := "fnExactShuffleChain", fn := fun _ => fun
  | [d1, d2] => { results := [.lit (.bool true)], args := [d1, d2] }
  | _ => none }
def fnExactShuffleChainRow : OpenClaim := { program := "ytpmabnohdabbdaa", sum := "e6bbf4dad85a74240b4f751131ebc6be67038a51cfd7ef4cfa78e78f0965faaa", func := "loop.example/g01118/laws.FnExactShuffleChain", spec := "fnExactShuffleChain", inPlace := ["slices.overlaps[int64]"], unfollowed := true, recurses := true, apart := false }
def FnExactShuffleChainSaid : Prop := fnExactShuffleChainRow.holds Try.pinned (OpenSpec.ofChange fnExactShuffleChainSpec)

/-- ITS FALSE NEIGHBOUR: 'it returns false'. Refute it at one input. -/
def fnExactShuffleChainWrong : ChangeSpec := { name := "fnExactShuffleChain", fn := fun _ => fun
  | [d1, d2] => { results := [.lit (.bool false)], args := [d1, d2] }
  | _ => none }
def FnExactShuffleChainWrongFalsely : Prop := fnExactShuffleChainRow.holds Try.pinned (OpenSpec.ofChange fnExactShuffleChainWrong)

/-- 'laws.FnSandwich': WHATEVER THE INPUT: true; the input reads as it did. -/
def fnSandwichSpec : ChangeSpec := { name := "fnSandwich", fn := fun _ => fun
  | [d1, d2] => { results := [.lit (.bool true)], args := [d1, d2] }
  | _ => none }
def fnSandwichRow : OpenClaim := { program := "ytpmabnohdabbdaa", sum := "e6bbf4dad85a74240b4f751131ebc6be67038a51cfd7ef4cfa78e78f0965faaa", func := "loop.example/g01118/laws.FnSandwich", spec := "fnSandwich", unfollowed := true, recurses := true, apart := false }
def FnSandwichSaid : Prop := fnSandwichRow.holds Try.pinned (OpenSpec.ofChange fnSandwichSpec)

/-- ITS FALSE NEIGHBOUR: 'it returns false'. Refute it at one input. -/
def fnSandwichWrong : ChangeSpec := { name := "fnSandwich", fn := fun _ => fun
  | [d1, d2] => { results := [.lit (.bool false)], args := [d1, d2] }
  | _ => none }
def FnSandwichWrongFalsely : Prop := fnSandwichRow.holds Try.pinned (OpenSpec.ofChange fnSandwichWrong)

/-- 'laws.FnMaps': WHATEVER THE INPUT: true; the input reads as it did. -/
def fnMapsSpec : ChangeSpec := { name := "fnMaps", fn := fun _ => fun
  | [d1, d2] => { results := [.lit (.bool true)], args := [d1, d2] }
  | _ => none }
def fnMapsRow : OpenClaim := { program := "ytpmabnohdabbdaa", sum := "e6bbf4dad85a74240b4f751131ebc6be67038a51cfd7ef4cfa78e78f0965faaa", func := "loop.example/g01118/laws.FnMaps", spec := "fnMaps", unfollowed := true, recurses := true, apart := false }
def FnMapsSaid : Prop := fnMapsRow.holds Try.pinned (OpenSpec.ofChange fnMapsSpec)

/-- ITS FALSE NEIGHBOUR: 'it returns false'. Refute it at one input. -/
def fnMapsWrong : ChangeSpec := { name := "fnMaps", fn := fun _ => fun
  | [d1, d2] => { results := [.lit (.bool false)], args := [d1, d2] }
  | _ => none }
def FnMapsWrongFalsely : Prop := fnMapsRow.holds Try.pinned (OpenSpec.ofChange fnMapsWrong)

/- THE SECOND FORM. 'bulk': how many values and letters a reading holds, each counted each time it is reached (what is shared counts as often as it is met; a slice's spare places count too). A statement '..UptoSaid' is the law's where the arguments, and the package variables that the reading takes, are together of bulk at most 1048576: NARROWER than '..Said'. Prove '..Said' where nothing that the law and all that it calls make is longer than what came in: it says more and counts as full. Else prove '..UptoSaid'. A law counts once. -/
mutual
def uptoBulk {H : Type} : DataW H → Nat
  | .lit (.string bytes) => bytes.length + 1
  | .lit _ => 1
  | .nil => 1
  | .ptr d => uptoBulk d + 1
  | .slice elems spare => uptoBulkAll elems + uptoBulkAll spare + 1
  | .agg parts => uptoBulkAll parts + 1
  | .iface _ d => uptoBulk d + 1
  | .map entries => uptoBulkEntries entries + 1
  | .held _ => 1
def uptoBulkAll {H : Type} : List (DataW H) → Nat
  | [] => 0
  | d :: r => uptoBulk d + uptoBulkAll r
def uptoBulkEntries {H : Type} : List (Lit × DataW H) → Nat
  | [] => 0
  | x :: r => uptoBulkEntry x + uptoBulkEntries r
def uptoBulkEntry {H : Type} : Lit × DataW H → Nat
  | (.string bytes, d) => bytes.length + uptoBulk d + 1
  | (_, d) => uptoBulk d + 1
 end
def uptoSmall : (H : Type) → List (DataW H) → Bool := fun _ ds => decide (uptoBulkAll ds ≤ 1048576)
def OpenSpec.upto (s : _root_.Go.ChangeSpec) : _root_.Go.OpenSpec := { _root_.Go.OpenSpec.ofChange s with cond := some uptoSmall }

/-- 'laws.FnExactCanRecolour', WHERE WHAT IT READS IS OF BULK AT MOST 1048576: true; the input reads as it did. -/
def fnExactCanRecolourUptoRow : OpenClaim := { program := "ytpmabnohdabbdaa", sum := "e6bbf4dad85a74240b4f751131ebc6be67038a51cfd7ef4cfa78e78f0965faaa", func := "loop.example/g01118/laws.FnExactCanRecolour", spec := "fnExactCanRecolour", unfollowed := true, recurses := true, apart := false, narrowed := true }
def FnExactCanRecolourUptoSaid : Prop := fnExactCanRecolourUptoRow.holds Try.pinned (OpenSpec.upto fnExactCanRecolourSpec)

/-- 'laws.FnExactPathsOf', WHERE WHAT IT READS IS OF BULK AT MOST 1048576: true; the input reads as it did. -/
def fnExactPathsOfUptoRow : OpenClaim := { program := "ytpmabnohdabbdaa", sum := "e6bbf4dad85a74240b4f751131ebc6be67038a51cfd7ef4cfa78e78f0965faaa", func := "loop.example/g01118/laws.FnExactPathsOf", spec := "fnExactPathsOf", unfollowed := true, recurses := true, apart := false, narrowed := true }
def FnExactPathsOfUptoSaid : Prop := fnExactPathsOfUptoRow.holds Try.pinned (OpenSpec.upto fnExactPathsOfSpec)

/-- 'laws.FnExactStepPaths', WHERE WHAT IT READS IS OF BULK AT MOST 1048576: true; the input reads as it did. -/
def fnExactStepPathsUptoRow : OpenClaim := { program := "ytpmabnohdabbdaa", sum := "e6bbf4dad85a74240b4f751131ebc6be67038a51cfd7ef4cfa78e78f0965faaa", func := "loop.example/g01118/laws.FnExactStepPaths", spec := "fnExactStepPaths", unfollowed := true, recurses := true, apart := false, narrowed := true }
def FnExactStepPathsUptoSaid : Prop := fnExactStepPathsUptoRow.holds Try.pinned (OpenSpec.upto fnExactStepPathsSpec)

/-- 'laws.FnExactShuffleChain', WHERE WHAT IT READS IS OF BULK AT MOST 1048576: true; the input reads as it did. -/
def fnExactShuffleChainUptoRow : OpenClaim := { program := "ytpmabnohdabbdaa", sum := "e6bbf4dad85a74240b4f751131ebc6be67038a51cfd7ef4cfa78e78f0965faaa", func := "loop.example/g01118/laws.FnExactShuffleChain", spec := "fnExactShuffleChain", inPlace := ["slices.overlaps[int64]"], unfollowed := true, recurses := true, apart := false, narrowed := true }
def FnExactShuffleChainUptoSaid : Prop := fnExactShuffleChainUptoRow.holds Try.pinned (OpenSpec.upto fnExactShuffleChainSpec)

/-- 'laws.FnSandwich', WHERE WHAT IT READS IS OF BULK AT MOST 1048576: true; the input reads as it did. -/
def fnSandwichUptoRow : OpenClaim := { program := "ytpmabnohdabbdaa", sum := "e6bbf4dad85a74240b4f751131ebc6be67038a51cfd7ef4cfa78e78f0965faaa", func := "loop.example/g01118/laws.FnSandwich", spec := "fnSandwich", unfollowed := true, recurses := true, apart := false, narrowed := true }
def FnSandwichUptoSaid : Prop := fnSandwichUptoRow.holds Try.pinned (OpenSpec.upto fnSandwichSpec)

/-- 'laws.FnMaps', WHERE WHAT IT READS IS OF BULK AT MOST 1048576: true; the input reads as it did. -/
def fnMapsUptoRow : OpenClaim := { program := "ytpmabnohdabbdaa", sum := "e6bbf4dad85a74240b4f751131ebc6be67038a51cfd7ef4cfa78e78f0965faaa", func := "loop.example/g01118/laws.FnMaps", spec := "fnMaps", unfollowed := true, recurses := true, apart := false, narrowed := true }
def FnMapsUptoSaid : Prop := fnMapsUptoRow.holds Try.pinned (OpenSpec.upto fnMapsSpec)

end Rows
end Go.Proofs.Ytpmabnohdabbdaa
