/-
  No cell of these rows narrows 'for every input' (looked for: loops, veiled, ifaces, maps, wideKeys, modest, calm, conditions, laid).
  DERIVED. THE GIVEN ROWS OF THIS SEAT. 6 by the template 'for every input the law returns true; each argument reads behind the call as it read before'; 0 by the template 'total and deterministic' (their statements: YtijpkcdalmlaiaaTotals.lean).
  GIVEN WITH THE SEED: the statements are not yours to turn. If you find one false, say at which input.
  Laid BY PROGRAM, IN A SANDBOX (cutbox-rows.mjs): the forced cells as the released guide's own fill.sh prints them over the translation 3dbcb9e0bc2f0fba… (all of the seat's roots in one cut). By AI agents, Wed Nov 11 2026. No macro, syntax, notation, axiom, sorry.
-/
import Derived.Test.YtijpkcdalmlaiaaChecked
import GoSem.Claim
import GoSem.ClaimJoined
import GoSem.ClaimMapViews
import Derived.JoinedTies
import Derived.KernelRfl
namespace Go.Proofs.Ytijpkcdalmlaiaa
/- THE CELL 'sum', in the pinned program and in every row, IS THE sha256 OF THE DUMP (.gsa) THAT YtijpkcdalmlaiaaProg.lean LOADS. Nothing in Lean hashes anything: it is a label: what it is worth is what the hold of that sum in a sandbox is worth. -/
noncomputable def Try.pinned : Pinned := { name := "ytijpkcdalmlaiaa", sum := "3dbcb9e0bc2f0fbaa005136bbfbbae962f5d50b91c22fba0b921f84a3a4dc865", checked := Try.checked }
namespace Rows
def none {H : Type} : Left H := { results := [], args := [] }

/-- 'laws.FnExactHandedOut': WHATEVER THE INPUT: true; the input reads as it did. -/
def fnExactHandedOutSpec : ChangeSpec := { name := "fnExactHandedOut", fn := fun _ => fun
  | [d1, d2] => { results := [.lit (.bool true)], args := [d1, d2] }
  | _ => none }
def fnExactHandedOutRow : OpenClaim := { program := "ytijpkcdalmlaiaa", sum := "3dbcb9e0bc2f0fbaa005136bbfbbae962f5d50b91c22fba0b921f84a3a4dc865", func := "loop.example/g01118/laws.FnExactHandedOut", spec := "fnExactHandedOut", unfollowed := true, recurses := true, apart := false }
def FnExactHandedOutSaid : Prop := fnExactHandedOutRow.holds Try.pinned (OpenSpec.ofChange fnExactHandedOutSpec)

/-- ITS FALSE NEIGHBOUR: 'it returns false'. Refute it at one input. -/
def fnExactHandedOutWrong : ChangeSpec := { name := "fnExactHandedOut", fn := fun _ => fun
  | [d1, d2] => { results := [.lit (.bool false)], args := [d1, d2] }
  | _ => none }
def FnExactHandedOutWrongFalsely : Prop := fnExactHandedOutRow.holds Try.pinned (OpenSpec.ofChange fnExactHandedOutWrong)

/-- 'laws.FnExactFinishDeeds': WHATEVER THE INPUT: true; the input reads as it did. -/
def fnExactFinishDeedsSpec : ChangeSpec := { name := "fnExactFinishDeeds", fn := fun _ => fun
  | [d1, d2] => { results := [.lit (.bool true)], args := [d1, d2] }
  | _ => none }
def fnExactFinishDeedsRow : OpenClaim := { program := "ytijpkcdalmlaiaa", sum := "3dbcb9e0bc2f0fbaa005136bbfbbae962f5d50b91c22fba0b921f84a3a4dc865", func := "loop.example/g01118/laws.FnExactFinishDeeds", spec := "fnExactFinishDeeds", unfollowed := true, recurses := true, apart := false }
def FnExactFinishDeedsSaid : Prop := fnExactFinishDeedsRow.holds Try.pinned (OpenSpec.ofChange fnExactFinishDeedsSpec)

/-- ITS FALSE NEIGHBOUR: 'it returns false'. Refute it at one input. -/
def fnExactFinishDeedsWrong : ChangeSpec := { name := "fnExactFinishDeeds", fn := fun _ => fun
  | [d1, d2] => { results := [.lit (.bool false)], args := [d1, d2] }
  | _ => none }
def FnExactFinishDeedsWrongFalsely : Prop := fnExactFinishDeedsRow.holds Try.pinned (OpenSpec.ofChange fnExactFinishDeedsWrong)

/-- 'laws.FnExactRunScript': WHATEVER THE INPUT: true; the input reads as it did. -/
def fnExactRunScriptSpec : ChangeSpec := { name := "fnExactRunScript", fn := fun _ => fun
  | [d1, d2] => { results := [.lit (.bool true)], args := [d1, d2] }
  | _ => none }
def fnExactRunScriptRow : OpenClaim := { program := "ytijpkcdalmlaiaa", sum := "3dbcb9e0bc2f0fbaa005136bbfbbae962f5d50b91c22fba0b921f84a3a4dc865", func := "loop.example/g01118/laws.FnExactRunScript", spec := "fnExactRunScript", recurses := true, apart := false }
def FnExactRunScriptSaid : Prop := fnExactRunScriptRow.holds Try.pinned (OpenSpec.ofChange fnExactRunScriptSpec)

/-- ITS FALSE NEIGHBOUR: 'it returns false'. Refute it at one input. -/
def fnExactRunScriptWrong : ChangeSpec := { name := "fnExactRunScript", fn := fun _ => fun
  | [d1, d2] => { results := [.lit (.bool false)], args := [d1, d2] }
  | _ => none }
def FnExactRunScriptWrongFalsely : Prop := fnExactRunScriptRow.holds Try.pinned (OpenSpec.ofChange fnExactRunScriptWrong)

/-- 'laws.FnDeeds': WHATEVER THE INPUT: true; the input reads as it did. -/
def fnDeedsSpec : ChangeSpec := { name := "fnDeeds", fn := fun _ => fun
  | [d1, d2] => { results := [.lit (.bool true)], args := [d1, d2] }
  | _ => none }
def fnDeedsRow : OpenClaim := { program := "ytijpkcdalmlaiaa", sum := "3dbcb9e0bc2f0fbaa005136bbfbbae962f5d50b91c22fba0b921f84a3a4dc865", func := "loop.example/g01118/laws.FnDeeds", spec := "fnDeeds", unfollowed := true, recurses := true, apart := false }
def FnDeedsSaid : Prop := fnDeedsRow.holds Try.pinned (OpenSpec.ofChange fnDeedsSpec)

/-- ITS FALSE NEIGHBOUR: 'it returns false'. Refute it at one input. -/
def fnDeedsWrong : ChangeSpec := { name := "fnDeeds", fn := fun _ => fun
  | [d1, d2] => { results := [.lit (.bool false)], args := [d1, d2] }
  | _ => none }
def FnDeedsWrongFalsely : Prop := fnDeedsRow.holds Try.pinned (OpenSpec.ofChange fnDeedsWrong)

/-- 'laws.FnPlantPackets': WHATEVER THE INPUT: true; the input reads as it did. -/
def fnPlantPacketsSpec : ChangeSpec := { name := "fnPlantPackets", fn := fun _ => fun
  | [d1, d2] => { results := [.lit (.bool true)], args := [d1, d2] }
  | _ => none }
def fnPlantPacketsRow : OpenClaim := { program := "ytijpkcdalmlaiaa", sum := "3dbcb9e0bc2f0fbaa005136bbfbbae962f5d50b91c22fba0b921f84a3a4dc865", func := "loop.example/g01118/laws.FnPlantPackets", spec := "fnPlantPackets", unfollowed := true, recurses := true, apart := false }
def FnPlantPacketsSaid : Prop := fnPlantPacketsRow.holds Try.pinned (OpenSpec.ofChange fnPlantPacketsSpec)

/-- ITS FALSE NEIGHBOUR: 'it returns false'. Refute it at one input. -/
def fnPlantPacketsWrong : ChangeSpec := { name := "fnPlantPackets", fn := fun _ => fun
  | [d1, d2] => { results := [.lit (.bool false)], args := [d1, d2] }
  | _ => none }
def FnPlantPacketsWrongFalsely : Prop := fnPlantPacketsRow.holds Try.pinned (OpenSpec.ofChange fnPlantPacketsWrong)

/-- 'laws.FnFinish': WHATEVER THE INPUT: true; the input reads as it did. -/
def fnFinishSpec : ChangeSpec := { name := "fnFinish", fn := fun _ => fun
  | [d1, d2] => { results := [.lit (.bool true)], args := [d1, d2] }
  | _ => none }
def fnFinishRow : OpenClaim := { program := "ytijpkcdalmlaiaa", sum := "3dbcb9e0bc2f0fbaa005136bbfbbae962f5d50b91c22fba0b921f84a3a4dc865", func := "loop.example/g01118/laws.FnFinish", spec := "fnFinish", unfollowed := true, recurses := true, apart := false }
def FnFinishSaid : Prop := fnFinishRow.holds Try.pinned (OpenSpec.ofChange fnFinishSpec)

/-- ITS FALSE NEIGHBOUR: 'it returns false'. Refute it at one input. -/
def fnFinishWrong : ChangeSpec := { name := "fnFinish", fn := fun _ => fun
  | [d1, d2] => { results := [.lit (.bool false)], args := [d1, d2] }
  | _ => none }
def FnFinishWrongFalsely : Prop := fnFinishRow.holds Try.pinned (OpenSpec.ofChange fnFinishWrong)

/- THE SECOND FORM. 'bulk': how many values and letters a reading holds, each counted each time it is reached (what is shared counts as often as it is met; a slice's spare places count too). A statement '..UptoSaid' is the law's where the arguments, and the package variables that the reading takes, are together of bulk at most 1048576: NARROWER than '..Said'. Prove '..Said' where nothing that the law and all that it calls make is longer than what came in: it says more and counts as full. Else prove '..UptoSaid'. A law counts once. -/
mutual
def uptoBulk {H : Type} : DataW H → Nat
  | .lit (.string bytes) => bytes.length + 1
  | .lit _ => 1
  | .nil => 1
  | .ptr d => uptoBulk d + 1
  | .slice elems spare => uptoBulkAll elems + uptoBulkAll spare + 1
  | .agg parts => uptoBulkAll parts + 1
  | .iface _ d => uptoBulk d + 1
  | .map entries => uptoBulkEntries entries + 1
  | .held _ => 1
def uptoBulkAll {H : Type} : List (DataW H) → Nat
  | [] => 0
  | d :: r => uptoBulk d + uptoBulkAll r
def uptoBulkEntries {H : Type} : List (Lit × DataW H) → Nat
  | [] => 0
  | x :: r => uptoBulkEntry x + uptoBulkEntries r
def uptoBulkEntry {H : Type} : Lit × DataW H → Nat
  | (.string bytes, d) => bytes.length + uptoBulk d + 1
  | (_, d) => uptoBulk d + 1
 end
def uptoSmall : (H : Type) → List (DataW H) → Bool := fun _ ds => decide (uptoBulkAll ds ≤ 1048576)
def OpenSpec.upto (s : _root_.Go.ChangeSpec) : _root_.Go.OpenSpec := { _root_.Go.OpenSpec.ofChange s with cond := some uptoSmall }

/-- 'laws.FnExactHandedOut', WHERE WHAT IT READS IS OF BULK AT MOST 1048576: true; the input reads as it did. -/
def fnExactHandedOutUptoRow : OpenClaim := { program := "ytijpkcdalmlaiaa", sum := "3dbcb9e0bc2f0fbaa005136bbfbbae962f5d50b91c22fba0b921f84a3a4dc865", func := "loop.example/g01118/laws.FnExactHandedOut", spec := "fnExactHandedOut", unfollowed := true, recurses := true, apart := false, narrowed := true }
def FnExactHandedOutUptoSaid : Prop := fnExactHandedOutUptoRow.holds Try.pinned (OpenSpec.upto fnExactHandedOutSpec)

/-- 'laws.FnExactFinishDeeds', WHERE WHAT IT READS IS OF BULK AT MOST 1048576: true; the input reads as it did. -/
def fnExactFinishDeedsUptoRow : OpenClaim := { program := "ytijpkcdalmlaiaa", sum := "3dbcb9e0bc2f0fbaa005136bbfbbae962f5d50b91c22fba0b921f84a3a4dc865", func := "loop.example/g01118/laws.FnExactFinishDeeds", spec := "fnExactFinishDeeds", unfollowed := true, recurses := true, apart := false, narrowed := true }
def FnExactFinishDeedsUptoSaid : Prop := fnExactFinishDeedsUptoRow.holds Try.pinned (OpenSpec.upto fnExactFinishDeedsSpec)

/-- 'laws.FnExactRunScript', WHERE WHAT IT READS IS OF BULK AT MOST 1048576: true; the input reads as it did. -/
def fnExactRunScriptUptoRow : OpenClaim := { program := "ytijpkcdalmlaiaa", sum := "3dbcb9e0bc2f0fbaa005136bbfbbae962f5d50b91c22fba0b921f84a3a4dc865", func := "loop.example/g01118/laws.FnExactRunScript", spec := "fnExactRunScript", recurses := true, apart := false, narrowed := true }
def FnExactRunScriptUptoSaid : Prop := fnExactRunScriptUptoRow.holds Try.pinned (OpenSpec.upto fnExactRunScriptSpec)

/-- 'laws.FnDeeds', WHERE WHAT IT READS IS OF BULK AT MOST 1048576: true; the input reads as it did. -/
def fnDeedsUptoRow : OpenClaim := { program := "ytijpkcdalmlaiaa", sum := "3dbcb9e0bc2f0fbaa005136bbfbbae962f5d50b91c22fba0b921f84a3a4dc865", func := "loop.example/g01118/laws.FnDeeds", spec := "fnDeeds", unfollowed := true, recurses := true, apart := false, narrowed := true }
def FnDeedsUptoSaid : Prop := fnDeedsUptoRow.holds Try.pinned (OpenSpec.upto fnDeedsSpec)

/-- 'laws.FnPlantPackets', WHERE WHAT IT READS IS OF BULK AT MOST 1048576: true; the input reads as it did. -/
def fnPlantPacketsUptoRow : OpenClaim := { program := "ytijpkcdalmlaiaa", sum := "3dbcb9e0bc2f0fbaa005136bbfbbae962f5d50b91c22fba0b921f84a3a4dc865", func := "loop.example/g01118/laws.FnPlantPackets", spec := "fnPlantPackets", unfollowed := true, recurses := true, apart := false, narrowed := true }
def FnPlantPacketsUptoSaid : Prop := fnPlantPacketsUptoRow.holds Try.pinned (OpenSpec.upto fnPlantPacketsSpec)

/-- 'laws.FnFinish', WHERE WHAT IT READS IS OF BULK AT MOST 1048576: true; the input reads as it did. -/
def fnFinishUptoRow : OpenClaim := { program := "ytijpkcdalmlaiaa", sum := "3dbcb9e0bc2f0fbaa005136bbfbbae962f5d50b91c22fba0b921f84a3a4dc865", func := "loop.example/g01118/laws.FnFinish", spec := "fnFinish", unfollowed := true, recurses := true, apart := false, narrowed := true }
def FnFinishUptoSaid : Prop := fnFinishUptoRow.holds Try.pinned (OpenSpec.upto fnFinishSpec)

end Rows
end Go.Proofs.Ytijpkcdalmlaiaa
