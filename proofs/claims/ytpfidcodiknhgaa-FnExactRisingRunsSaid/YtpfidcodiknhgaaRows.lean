/-
  No cell of these rows narrows 'for every input' (looked for: loops, veiled, ifaces, maps, wideKeys, modest, calm, conditions, laid).
  DERIVED. THE GIVEN ROWS OF THIS SEAT. 6 by the template 'for every input the law returns true; each argument reads behind the call as it read before'; 0 by the template 'total and deterministic' (their statements: YtpfidcodiknhgaaTotals.lean).
  GIVEN WITH THE SEED: the statements are not yours to turn. If you find one false, say at which input.
  Laid BY PROGRAM, IN A SANDBOX (cutbox-rows.mjs): the forced cells as the released guide's own fill.sh prints them over the translation 149128b119e19b30… (all of the seat's roots in one cut). By AI agents, Wed Nov 11 2026. No macro, syntax, notation, axiom, sorry.
-/
import Derived.Test.YtpfidcodiknhgaaChecked
import GoSem.Claim
import GoSem.ClaimJoined
import GoSem.ClaimMapViews
import Derived.JoinedTies
import Derived.KernelRfl
namespace Go.Proofs.Ytpfidcodiknhgaa
/- THE CELL 'sum', in the pinned program and in every row, IS THE sha256 OF THE DUMP (.gsa) THAT YtpfidcodiknhgaaProg.lean LOADS. Nothing in Lean hashes anything: it is a label: what it is worth is what the hold of that sum in a sandbox is worth. -/
noncomputable def Try.pinned : Pinned := { name := "ytpfidcodiknhgaa", sum := "149128b119e19b30c76617b3b5bc9a53385833ce6244cc611228b18e0105e56f", checked := Try.checked }
namespace Rows
def none {H : Type} : Left H := { results := [], args := [] }

/-- 'laws.FnExactValidDeed': WHATEVER THE INPUT: true; the input reads as it did. -/
def fnExactValidDeedSpec : ChangeSpec := { name := "fnExactValidDeed", fn := fun _ => fun
  | [d] => { results := [.lit (.bool true)], args := [d] }
  | _ => none }
def fnExactValidDeedRow : OpenClaim := { program := "ytpfidcodiknhgaa", sum := "149128b119e19b30c76617b3b5bc9a53385833ce6244cc611228b18e0105e56f", func := "loop.example/g01118/laws.FnExactValidDeed", spec := "fnExactValidDeed", apart := false }
def FnExactValidDeedSaid : Prop := fnExactValidDeedRow.holds Try.pinned (OpenSpec.ofChange fnExactValidDeedSpec)

/-- ITS FALSE NEIGHBOUR: 'it returns false'. Refute it at one input. -/
def fnExactValidDeedWrong : ChangeSpec := { name := "fnExactValidDeed", fn := fun _ => fun
  | [d] => { results := [.lit (.bool false)], args := [d] }
  | _ => none }
def FnExactValidDeedWrongFalsely : Prop := fnExactValidDeedRow.holds Try.pinned (OpenSpec.ofChange fnExactValidDeedWrong)

/-- 'laws.FnExactDrawsOf': WHATEVER THE INPUT: true; the input reads as it did. -/
def fnExactDrawsOfSpec : ChangeSpec := { name := "fnExactDrawsOf", fn := fun _ => fun
  | [d1, d2, d3] => { results := [.lit (.bool true)], args := [d1, d2, d3] }
  | _ => none }
def fnExactDrawsOfRow : OpenClaim := { program := "ytpfidcodiknhgaa", sum := "149128b119e19b30c76617b3b5bc9a53385833ce6244cc611228b18e0105e56f", func := "loop.example/g01118/laws.FnExactDrawsOf", spec := "fnExactDrawsOf", apart := false }
def FnExactDrawsOfSaid : Prop := fnExactDrawsOfRow.holds Try.pinned (OpenSpec.ofChange fnExactDrawsOfSpec)

/-- ITS FALSE NEIGHBOUR: 'it returns false'. Refute it at one input. -/
def fnExactDrawsOfWrong : ChangeSpec := { name := "fnExactDrawsOf", fn := fun _ => fun
  | [d1, d2, d3] => { results := [.lit (.bool false)], args := [d1, d2, d3] }
  | _ => none }
def FnExactDrawsOfWrongFalsely : Prop := fnExactDrawsOfRow.holds Try.pinned (OpenSpec.ofChange fnExactDrawsOfWrong)

/-- 'laws.FnExactDeedText': WHATEVER THE INPUT: true; the input reads as it did. -/
def fnExactDeedTextSpec : ChangeSpec := { name := "fnExactDeedText", fn := fun _ => fun
  | [d] => { results := [.lit (.bool true)], args := [d] }
  | _ => none }
def fnExactDeedTextRow : OpenClaim := { program := "ytpfidcodiknhgaa", sum := "149128b119e19b30c76617b3b5bc9a53385833ce6244cc611228b18e0105e56f", func := "loop.example/g01118/laws.FnExactDeedText", spec := "fnExactDeedText", recurses := true, apart := false }
def FnExactDeedTextSaid : Prop := fnExactDeedTextRow.holds Try.pinned (OpenSpec.ofChange fnExactDeedTextSpec)

/-- ITS FALSE NEIGHBOUR: 'it returns false'. Refute it at one input. -/
def fnExactDeedTextWrong : ChangeSpec := { name := "fnExactDeedText", fn := fun _ => fun
  | [d] => { results := [.lit (.bool false)], args := [d] }
  | _ => none }
def FnExactDeedTextWrongFalsely : Prop := fnExactDeedTextRow.holds Try.pinned (OpenSpec.ofChange fnExactDeedTextWrong)

/-- 'laws.FnExactDeckAt': WHATEVER THE INPUT: true; the input reads as it did. -/
def fnExactDeckAtSpec : ChangeSpec := { name := "fnExactDeckAt", fn := fun _ => fun
  | [d1, d2] => { results := [.lit (.bool true)], args := [d1, d2] }
  | _ => none }
def fnExactDeckAtRow : OpenClaim := { program := "ytpfidcodiknhgaa", sum := "149128b119e19b30c76617b3b5bc9a53385833ce6244cc611228b18e0105e56f", func := "loop.example/g01118/laws.FnExactDeckAt", spec := "fnExactDeckAt", unfollowed := true, recurses := true, apart := false }
def FnExactDeckAtSaid : Prop := fnExactDeckAtRow.holds Try.pinned (OpenSpec.ofChange fnExactDeckAtSpec)

/-- ITS FALSE NEIGHBOUR: 'it returns false'. Refute it at one input. -/
def fnExactDeckAtWrong : ChangeSpec := { name := "fnExactDeckAt", fn := fun _ => fun
  | [d1, d2] => { results := [.lit (.bool false)], args := [d1, d2] }
  | _ => none }
def FnExactDeckAtWrongFalsely : Prop := fnExactDeckAtRow.holds Try.pinned (OpenSpec.ofChange fnExactDeckAtWrong)

/-- 'laws.FnExactSameGraph': WHATEVER THE INPUT: true; the input reads as it did. -/
def fnExactSameGraphSpec : ChangeSpec := { name := "fnExactSameGraph", fn := fun _ => fun
  | [d1, d2] => { results := [.lit (.bool true)], args := [d1, d2] }
  | _ => none }
def fnExactSameGraphRow : OpenClaim := { program := "ytpfidcodiknhgaa", sum := "149128b119e19b30c76617b3b5bc9a53385833ce6244cc611228b18e0105e56f", func := "loop.example/g01118/laws.FnExactSameGraph", spec := "fnExactSameGraph", unfollowed := true, recurses := true, apart := false }
def FnExactSameGraphSaid : Prop := fnExactSameGraphRow.holds Try.pinned (OpenSpec.ofChange fnExactSameGraphSpec)

/-- ITS FALSE NEIGHBOUR: 'it returns false'. Refute it at one input. -/
def fnExactSameGraphWrong : ChangeSpec := { name := "fnExactSameGraph", fn := fun _ => fun
  | [d1, d2] => { results := [.lit (.bool false)], args := [d1, d2] }
  | _ => none }
def FnExactSameGraphWrongFalsely : Prop := fnExactSameGraphRow.holds Try.pinned (OpenSpec.ofChange fnExactSameGraphWrong)

/-- 'laws.FnExactRisingRuns': WHATEVER THE INPUT: true; the input reads as it did. -/
def fnExactRisingRunsSpec : ChangeSpec := { name := "fnExactRisingRuns", fn := fun _ => fun
  | [d] => { results := [.lit (.bool true)], args := [d] }
  | _ => none }
def fnExactRisingRunsRow : OpenClaim := { program := "ytpfidcodiknhgaa", sum := "149128b119e19b30c76617b3b5bc9a53385833ce6244cc611228b18e0105e56f", func := "loop.example/g01118/laws.FnExactRisingRuns", spec := "fnExactRisingRuns", apart := false }
def FnExactRisingRunsSaid : Prop := fnExactRisingRunsRow.holds Try.pinned (OpenSpec.ofChange fnExactRisingRunsSpec)

/-- ITS FALSE NEIGHBOUR: 'it returns false'. Refute it at one input. -/
def fnExactRisingRunsWrong : ChangeSpec := { name := "fnExactRisingRuns", fn := fun _ => fun
  | [d] => { results := [.lit (.bool false)], args := [d] }
  | _ => none }
def FnExactRisingRunsWrongFalsely : Prop := fnExactRisingRunsRow.holds Try.pinned (OpenSpec.ofChange fnExactRisingRunsWrong)

/- THE SECOND FORM. 'bulk': how many values and letters a reading holds, each counted each time it is reached (what is shared counts as often as it is met; a slice's spare places count too). A statement '..UptoSaid' is the law's where the arguments, and the package variables that the reading takes, are together of bulk at most 1048576: NARROWER than '..Said'. Prove '..Said' where nothing that the law and all that it calls make is longer than what came in: it says more and counts as full. Else prove '..UptoSaid'. A law counts once. -/
mutual
def uptoBulk {H : Type} : DataW H → Nat
  | .lit (.string bytes) => bytes.length + 1
  | .lit _ => 1
  | .nil => 1
  | .ptr d => uptoBulk d + 1
  | .slice elems spare => uptoBulkAll elems + uptoBulkAll spare + 1
  | .agg parts => uptoBulkAll parts + 1
  | .iface _ d => uptoBulk d + 1
  | .map entries => uptoBulkEntries entries + 1
  | .held _ => 1
def uptoBulkAll {H : Type} : List (DataW H) → Nat
  | [] => 0
  | d :: r => uptoBulk d + uptoBulkAll r
def uptoBulkEntries {H : Type} : List (Lit × DataW H) → Nat
  | [] => 0
  | x :: r => uptoBulkEntry x + uptoBulkEntries r
def uptoBulkEntry {H : Type} : Lit × DataW H → Nat
  | (.string bytes, d) => bytes.length + uptoBulk d + 1
  | (_, d) => uptoBulk d + 1
 end
def uptoSmall : (H : Type) → List (DataW H) → Bool := fun _ ds => decide (uptoBulkAll ds ≤ 1048576)
def OpenSpec.upto (s : _root_.Go.ChangeSpec) : _root_.Go.OpenSpec := { _root_.Go.OpenSpec.ofChange s with cond := some uptoSmall }

/-- 'laws.FnExactValidDeed', WHERE WHAT IT READS IS OF BULK AT MOST 1048576: true; the input reads as it did. -/
def fnExactValidDeedUptoRow : OpenClaim := { program := "ytpfidcodiknhgaa", sum := "149128b119e19b30c76617b3b5bc9a53385833ce6244cc611228b18e0105e56f", func := "loop.example/g01118/laws.FnExactValidDeed", spec := "fnExactValidDeed", apart := false, narrowed := true }
def FnExactValidDeedUptoSaid : Prop := fnExactValidDeedUptoRow.holds Try.pinned (OpenSpec.upto fnExactValidDeedSpec)

/-- 'laws.FnExactDrawsOf', WHERE WHAT IT READS IS OF BULK AT MOST 1048576: true; the input reads as it did. -/
def fnExactDrawsOfUptoRow : OpenClaim := { program := "ytpfidcodiknhgaa", sum := "149128b119e19b30c76617b3b5bc9a53385833ce6244cc611228b18e0105e56f", func := "loop.example/g01118/laws.FnExactDrawsOf", spec := "fnExactDrawsOf", apart := false, narrowed := true }
def FnExactDrawsOfUptoSaid : Prop := fnExactDrawsOfUptoRow.holds Try.pinned (OpenSpec.upto fnExactDrawsOfSpec)

/-- 'laws.FnExactDeedText', WHERE WHAT IT READS IS OF BULK AT MOST 1048576: true; the input reads as it did. -/
def fnExactDeedTextUptoRow : OpenClaim := { program := "ytpfidcodiknhgaa", sum := "149128b119e19b30c76617b3b5bc9a53385833ce6244cc611228b18e0105e56f", func := "loop.example/g01118/laws.FnExactDeedText", spec := "fnExactDeedText", recurses := true, apart := false, narrowed := true }
def FnExactDeedTextUptoSaid : Prop := fnExactDeedTextUptoRow.holds Try.pinned (OpenSpec.upto fnExactDeedTextSpec)

/-- 'laws.FnExactDeckAt', WHERE WHAT IT READS IS OF BULK AT MOST 1048576: true; the input reads as it did. -/
def fnExactDeckAtUptoRow : OpenClaim := { program := "ytpfidcodiknhgaa", sum := "149128b119e19b30c76617b3b5bc9a53385833ce6244cc611228b18e0105e56f", func := "loop.example/g01118/laws.FnExactDeckAt", spec := "fnExactDeckAt", unfollowed := true, recurses := true, apart := false, narrowed := true }
def FnExactDeckAtUptoSaid : Prop := fnExactDeckAtUptoRow.holds Try.pinned (OpenSpec.upto fnExactDeckAtSpec)

/-- 'laws.FnExactSameGraph', WHERE WHAT IT READS IS OF BULK AT MOST 1048576: true; the input reads as it did. -/
def fnExactSameGraphUptoRow : OpenClaim := { program := "ytpfidcodiknhgaa", sum := "149128b119e19b30c76617b3b5bc9a53385833ce6244cc611228b18e0105e56f", func := "loop.example/g01118/laws.FnExactSameGraph", spec := "fnExactSameGraph", unfollowed := true, recurses := true, apart := false, narrowed := true }
def FnExactSameGraphUptoSaid : Prop := fnExactSameGraphUptoRow.holds Try.pinned (OpenSpec.upto fnExactSameGraphSpec)

/-- 'laws.FnExactRisingRuns', WHERE WHAT IT READS IS OF BULK AT MOST 1048576: true; the input reads as it did. -/
def fnExactRisingRunsUptoRow : OpenClaim := { program := "ytpfidcodiknhgaa", sum := "149128b119e19b30c76617b3b5bc9a53385833ce6244cc611228b18e0105e56f", func := "loop.example/g01118/laws.FnExactRisingRuns", spec := "fnExactRisingRuns", apart := false, narrowed := true }
def FnExactRisingRunsUptoSaid : Prop := fnExactRisingRunsUptoRow.holds Try.pinned (OpenSpec.upto fnExactRisingRunsSpec)

end Rows
end Go.Proofs.Ytpfidcodiknhgaa
