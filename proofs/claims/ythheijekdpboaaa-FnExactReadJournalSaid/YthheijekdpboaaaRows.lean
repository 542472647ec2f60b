/-
  No cell of these rows narrows 'for every input' (looked for: loops, veiled, ifaces, maps, wideKeys, modest, calm, conditions, laid).
  DERIVED. THE GIVEN ROWS OF THIS SEAT. 12 by the template 'for every input the law returns true; each argument reads behind the call as it read before'; 0 by the template 'total and deterministic' (their statements: YthheijekdpboaaaTotals.lean).
  GIVEN WITH THE SEED: the statements are not yours to turn. If you find one false, say at which input.
  Laid BY PROGRAM, IN A SANDBOX (cutbox-rows.mjs): the forced cells as the released guide's own fill.sh prints them over the translation ddffe92a84bf9a22… (all of the seat's roots in one cut). By AI agents, Wed Nov 11 2026. No macro, syntax, notation, axiom, sorry.
-/
import Derived.Test.YthheijekdpboaaaChecked
import GoSem.Claim
import GoSem.ClaimJoined
import GoSem.ClaimMapViews
import Derived.JoinedTies
import Derived.KernelRfl
namespace Go.Proofs.Ythheijekdpboaaa
/- THE CELL 'sum', in the pinned program and in every row, IS THE sha256 OF THE DUMP (.gsa) THAT YthheijekdpboaaaProg.lean LOADS. Nothing in Lean hashes anything: it is a label: what it is worth is what the hold of that sum in a sandbox is worth. -/
noncomputable def Try.pinned : Pinned := { name := "ythheijekdpboaaa", sum := "ddffe92a84bf9a224de06fdf0b1f8dc4ad1316ce8b72217892dc0d7e49c28537", checked := Try.checked }
namespace Rows
def none {H : Type} : Left H := { results := [], args := [] }

/-- 'laws.FnExactValidService': WHATEVER THE INPUT: true; the input reads as it did. -/
def fnExactValidServiceSpec : ChangeSpec := { name := "fnExactValidService", fn := fun _ => fun
  | [d] => { results := [.lit (.bool true)], args := [d] }
  | _ => none }
def fnExactValidServiceRow : OpenClaim := { program := "ythheijekdpboaaa", sum := "ddffe92a84bf9a224de06fdf0b1f8dc4ad1316ce8b72217892dc0d7e49c28537", func := "loop.example/g01118/laws.FnExactValidService", spec := "fnExactValidService", apart := false }
def FnExactValidServiceSaid : Prop := fnExactValidServiceRow.holds Try.pinned (OpenSpec.ofChange fnExactValidServiceSpec)

/-- ITS FALSE NEIGHBOUR: 'it returns false'. Refute it at one input. -/
def fnExactValidServiceWrong : ChangeSpec := { name := "fnExactValidService", fn := fun _ => fun
  | [d] => { results := [.lit (.bool false)], args := [d] }
  | _ => none }
def FnExactValidServiceWrongFalsely : Prop := fnExactValidServiceRow.holds Try.pinned (OpenSpec.ofChange fnExactValidServiceWrong)

/-- 'laws.FnExactReadDeed': WHATEVER THE INPUT: true; the input reads as it did. -/
def fnExactReadDeedSpec : ChangeSpec := { name := "fnExactReadDeed", fn := fun _ => fun
  | [d] => { results := [.lit (.bool true)], args := [d] }
  | _ => none }
def fnExactReadDeedRow : OpenClaim := { program := "ythheijekdpboaaa", sum := "ddffe92a84bf9a224de06fdf0b1f8dc4ad1316ce8b72217892dc0d7e49c28537", func := "loop.example/g01118/laws.FnExactReadDeed", spec := "fnExactReadDeed", apart := false }
def FnExactReadDeedSaid : Prop := fnExactReadDeedRow.holds Try.pinned (OpenSpec.ofChange fnExactReadDeedSpec)

/-- ITS FALSE NEIGHBOUR: 'it returns false'. Refute it at one input. -/
def fnExactReadDeedWrong : ChangeSpec := { name := "fnExactReadDeed", fn := fun _ => fun
  | [d] => { results := [.lit (.bool false)], args := [d] }
  | _ => none }
def FnExactReadDeedWrongFalsely : Prop := fnExactReadDeedRow.holds Try.pinned (OpenSpec.ofChange fnExactReadDeedWrong)

/-- 'laws.FnExactValidRecord': WHATEVER THE INPUT: true; the input reads as it did. -/
def fnExactValidRecordSpec : ChangeSpec := { name := "fnExactValidRecord", fn := fun _ => fun
  | [d1, d2] => { results := [.lit (.bool true)], args := [d1, d2] }
  | _ => none }
def fnExactValidRecordRow : OpenClaim := { program := "ythheijekdpboaaa", sum := "ddffe92a84bf9a224de06fdf0b1f8dc4ad1316ce8b72217892dc0d7e49c28537", func := "loop.example/g01118/laws.FnExactValidRecord", spec := "fnExactValidRecord", apart := false }
def FnExactValidRecordSaid : Prop := fnExactValidRecordRow.holds Try.pinned (OpenSpec.ofChange fnExactValidRecordSpec)

/-- ITS FALSE NEIGHBOUR: 'it returns false'. Refute it at one input. -/
def fnExactValidRecordWrong : ChangeSpec := { name := "fnExactValidRecord", fn := fun _ => fun
  | [d1, d2] => { results := [.lit (.bool false)], args := [d1, d2] }
  | _ => none }
def FnExactValidRecordWrongFalsely : Prop := fnExactValidRecordRow.holds Try.pinned (OpenSpec.ofChange fnExactValidRecordWrong)

/-- 'laws.FnExactWindowByDraws': WHATEVER THE INPUT: true; the input reads as it did. -/
def fnExactWindowByDrawsSpec : ChangeSpec := { name := "fnExactWindowByDraws", fn := fun _ => fun
  | [d1, d2] => { results := [.lit (.bool true)], args := [d1, d2] }
  | _ => none }
def fnExactWindowByDrawsRow : OpenClaim := { program := "ythheijekdpboaaa", sum := "ddffe92a84bf9a224de06fdf0b1f8dc4ad1316ce8b72217892dc0d7e49c28537", func := "loop.example/g01118/laws.FnExactWindowByDraws", spec := "fnExactWindowByDraws", unfollowed := true, recurses := true, apart := false }
def FnExactWindowByDrawsSaid : Prop := fnExactWindowByDrawsRow.holds Try.pinned (OpenSpec.ofChange fnExactWindowByDrawsSpec)

/-- ITS FALSE NEIGHBOUR: 'it returns false'. Refute it at one input. -/
def fnExactWindowByDrawsWrong : ChangeSpec := { name := "fnExactWindowByDraws", fn := fun _ => fun
  | [d1, d2] => { results := [.lit (.bool false)], args := [d1, d2] }
  | _ => none }
def FnExactWindowByDrawsWrongFalsely : Prop := fnExactWindowByDrawsRow.holds Try.pinned (OpenSpec.ofChange fnExactWindowByDrawsWrong)

/-- 'laws.FnExactWindowOf': WHATEVER THE INPUT: true; the input reads as it did. -/
def fnExactWindowOfSpec : ChangeSpec := { name := "fnExactWindowOf", fn := fun _ => fun
  | [d1, d2, d3] => { results := [.lit (.bool true)], args := [d1, d2, d3] }
  | _ => none }
def fnExactWindowOfRow : OpenClaim := { program := "ythheijekdpboaaa", sum := "ddffe92a84bf9a224de06fdf0b1f8dc4ad1316ce8b72217892dc0d7e49c28537", func := "loop.example/g01118/laws.FnExactWindowOf", spec := "fnExactWindowOf", apart := false }
def FnExactWindowOfSaid : Prop := fnExactWindowOfRow.holds Try.pinned (OpenSpec.ofChange fnExactWindowOfSpec)

/-- ITS FALSE NEIGHBOUR: 'it returns false'. Refute it at one input. -/
def fnExactWindowOfWrong : ChangeSpec := { name := "fnExactWindowOf", fn := fun _ => fun
  | [d1, d2, d3] => { results := [.lit (.bool false)], args := [d1, d2, d3] }
  | _ => none }
def FnExactWindowOfWrongFalsely : Prop := fnExactWindowOfRow.holds Try.pinned (OpenSpec.ofChange fnExactWindowOfWrong)

/-- 'laws.FnWindows': WHATEVER THE INPUT: true; the input reads as it did. -/
def fnWindowsSpec : ChangeSpec := { name := "fnWindows", fn := fun _ => fun
  | [d1, d2] => { results := [.lit (.bool true)], args := [d1, d2] }
  | _ => none }
def fnWindowsRow : OpenClaim := { program := "ythheijekdpboaaa", sum := "ddffe92a84bf9a224de06fdf0b1f8dc4ad1316ce8b72217892dc0d7e49c28537", func := "loop.example/g01118/laws.FnWindows", spec := "fnWindows", unfollowed := true, recurses := true, apart := false }
def FnWindowsSaid : Prop := fnWindowsRow.holds Try.pinned (OpenSpec.ofChange fnWindowsSpec)

/-- ITS FALSE NEIGHBOUR: 'it returns false'. Refute it at one input. -/
def fnWindowsWrong : ChangeSpec := { name := "fnWindows", fn := fun _ => fun
  | [d1, d2] => { results := [.lit (.bool false)], args := [d1, d2] }
  | _ => none }
def FnWindowsWrongFalsely : Prop := fnWindowsRow.holds Try.pinned (OpenSpec.ofChange fnWindowsWrong)

/-- 'laws.FnExactSampleOf': WHATEVER THE INPUT: true; the input reads as it did. -/
def fnExactSampleOfSpec : ChangeSpec := { name := "fnExactSampleOf", fn := fun _ => fun
  | [d1, d2] => { results := [.lit (.bool true)], args := [d1, d2] }
  | _ => none }
def fnExactSampleOfRow : OpenClaim := { program := "ythheijekdpboaaa", sum := "ddffe92a84bf9a224de06fdf0b1f8dc4ad1316ce8b72217892dc0d7e49c28537", func := "loop.example/g01118/laws.FnExactSampleOf", spec := "fnExactSampleOf", apart := false }
def FnExactSampleOfSaid : Prop := fnExactSampleOfRow.holds Try.pinned (OpenSpec.ofChange fnExactSampleOfSpec)

/-- ITS FALSE NEIGHBOUR: 'it returns false'. Refute it at one input. -/
def fnExactSampleOfWrong : ChangeSpec := { name := "fnExactSampleOf", fn := fun _ => fun
  | [d1, d2] => { results := [.lit (.bool false)], args := [d1, d2] }
  | _ => none }
def FnExactSampleOfWrongFalsely : Prop := fnExactSampleOfRow.holds Try.pinned (OpenSpec.ofChange fnExactSampleOfWrong)

/-- 'laws.FnExactJournalText': WHATEVER THE INPUT: true; the input reads as it did. -/
def fnExactJournalTextSpec : ChangeSpec := { name := "fnExactJournalText", fn := fun _ => fun
  | [d1, d2] => { results := [.lit (.bool true)], args := [d1, d2] }
  | _ => none }
def fnExactJournalTextRow : OpenClaim := { program := "ythheijekdpboaaa", sum := "ddffe92a84bf9a224de06fdf0b1f8dc4ad1316ce8b72217892dc0d7e49c28537", func := "loop.example/g01118/laws.FnExactJournalText", spec := "fnExactJournalText", unfollowed := true, recurses := true, apart := false }
def FnExactJournalTextSaid : Prop := fnExactJournalTextRow.holds Try.pinned (OpenSpec.ofChange fnExactJournalTextSpec)

/-- ITS FALSE NEIGHBOUR: 'it returns false'. Refute it at one input. -/
def fnExactJournalTextWrong : ChangeSpec := { name := "fnExactJournalText", fn := fun _ => fun
  | [d1, d2] => { results := [.lit (.bool false)], args := [d1, d2] }
  | _ => none }
def FnExactJournalTextWrongFalsely : Prop := fnExactJournalTextRow.holds Try.pinned (OpenSpec.ofChange fnExactJournalTextWrong)

/-- 'laws.FnExactDeskAfter': WHATEVER THE INPUT: true; the input reads as it did. -/
def fnExactDeskAfterSpec : ChangeSpec := { name := "fnExactDeskAfter", fn := fun _ => fun
  | [d1, d2] => { results := [.lit (.bool true)], args := [d1, d2] }
  | _ => none }
def fnExactDeskAfterRow : OpenClaim := { program := "ythheijekdpboaaa", sum := "ddffe92a84bf9a224de06fdf0b1f8dc4ad1316ce8b72217892dc0d7e49c28537", func := "loop.example/g01118/laws.FnExactDeskAfter", spec := "fnExactDeskAfter", unfollowed := true, recurses := true, apart := false }
def FnExactDeskAfterSaid : Prop := fnExactDeskAfterRow.holds Try.pinned (OpenSpec.ofChange fnExactDeskAfterSpec)

/-- ITS FALSE NEIGHBOUR: 'it returns false'. Refute it at one input. -/
def fnExactDeskAfterWrong : ChangeSpec := { name := "fnExactDeskAfter", fn := fun _ => fun
  | [d1, d2] => { results := [.lit (.bool false)], args := [d1, d2] }
  | _ => none }
def FnExactDeskAfterWrongFalsely : Prop := fnExactDeskAfterRow.holds Try.pinned (OpenSpec.ofChange fnExactDeskAfterWrong)

/-- 'laws.FnExactReadJournal': WHATEVER THE INPUT: true; the input reads as it did. -/
def fnExactReadJournalSpec : ChangeSpec := { name := "fnExactReadJournal", fn := fun _ => fun
  | [d1, d2] => { results := [.lit (.bool true)], args := [d1, d2] }
  | _ => none }
def fnExactReadJournalRow : OpenClaim := { program := "ythheijekdpboaaa", sum := "ddffe92a84bf9a224de06fdf0b1f8dc4ad1316ce8b72217892dc0d7e49c28537", func := "loop.example/g01118/laws.FnExactReadJournal", spec := "fnExactReadJournal", apart := false }
def FnExactReadJournalSaid : Prop := fnExactReadJournalRow.holds Try.pinned (OpenSpec.ofChange fnExactReadJournalSpec)

/-- ITS FALSE NEIGHBOUR: 'it returns false'. Refute it at one input. -/
def fnExactReadJournalWrong : ChangeSpec := { name := "fnExactReadJournal", fn := fun _ => fun
  | [d1, d2] => { results := [.lit (.bool false)], args := [d1, d2] }
  | _ => none }
def FnExactReadJournalWrongFalsely : Prop := fnExactReadJournalRow.holds Try.pinned (OpenSpec.ofChange fnExactReadJournalWrong)

/-- 'laws.FnJournal': WHATEVER THE INPUT: true; the input reads as it did. -/
def fnJournalSpec : ChangeSpec := { name := "fnJournal", fn := fun _ => fun
  | [d1, d2] => { results := [.lit (.bool true)], args := [d1, d2] }
  | _ => none }
def fnJournalRow : OpenClaim := { program := "ythheijekdpboaaa", sum := "ddffe92a84bf9a224de06fdf0b1f8dc4ad1316ce8b72217892dc0d7e49c28537", func := "loop.example/g01118/laws.FnJournal", spec := "fnJournal", unfollowed := true, recurses := true, apart := false }
def FnJournalSaid : Prop := fnJournalRow.holds Try.pinned (OpenSpec.ofChange fnJournalSpec)

/-- ITS FALSE NEIGHBOUR: 'it returns false'. Refute it at one input. -/
def fnJournalWrong : ChangeSpec := { name := "fnJournal", fn := fun _ => fun
  | [d1, d2] => { results := [.lit (.bool false)], args := [d1, d2] }
  | _ => none }
def FnJournalWrongFalsely : Prop := fnJournalRow.holds Try.pinned (OpenSpec.ofChange fnJournalWrong)

/-- 'laws.FnDraws': WHATEVER THE INPUT: true; the input reads as it did. -/
def fnDrawsSpec : ChangeSpec := { name := "fnDraws", fn := fun _ => fun
  | [d1, d2] => { results := [.lit (.bool true)], args := [d1, d2] }
  | _ => none }
def fnDrawsRow : OpenClaim := { program := "ythheijekdpboaaa", sum := "ddffe92a84bf9a224de06fdf0b1f8dc4ad1316ce8b72217892dc0d7e49c28537", func := "loop.example/g01118/laws.FnDraws", spec := "fnDraws", unfollowed := true, recurses := true, apart := false }
def FnDrawsSaid : Prop := fnDrawsRow.holds Try.pinned (OpenSpec.ofChange fnDrawsSpec)

/-- ITS FALSE NEIGHBOUR: 'it returns false'. Refute it at one input. -/
def fnDrawsWrong : ChangeSpec := { name := "fnDraws", fn := fun _ => fun
  | [d1, d2] => { results := [.lit (.bool false)], args := [d1, d2] }
  | _ => none }
def FnDrawsWrongFalsely : Prop := fnDrawsRow.holds Try.pinned (OpenSpec.ofChange fnDrawsWrong)

/- THE SECOND FORM. 'bulk': how many values and letters a reading holds, each counted each time it is reached (what is shared counts as often as it is met; a slice's spare places count too). A statement '..UptoSaid' is the law's where the arguments, and the package variables that the reading takes, are together of bulk at most 1048576: NARROWER than '..Said'. Prove '..Said' where nothing that the law and all that it calls make is longer than what came in: it says more and counts as full. Else prove '..UptoSaid'. A law counts once. -/
mutual
def uptoBulk {H : Type} : DataW H → Nat
  | .lit (.string bytes) => bytes.length + 1
  | .lit _ => 1
  | .nil => 1
  | .ptr d => uptoBulk d + 1
  | .slice elems spare => uptoBulkAll elems + uptoBulkAll spare + 1
  | .agg parts => uptoBulkAll parts + 1
  | .iface _ d => uptoBulk d + 1
  | .map entries => uptoBulkEntries entries + 1
  | .held _ => 1
def uptoBulkAll {H : Type} : List (DataW H) → Nat
  | [] => 0
  | d :: r => uptoBulk d + uptoBulkAll r
def uptoBulkEntries {H : Type} : List (Lit × DataW H) → Nat
  | [] => 0
  | x :: r => uptoBulkEntry x + uptoBulkEntries r
def uptoBulkEntry {H : Type} : Lit × DataW H → Nat
  | (.string bytes, d) => bytes.length + uptoBulk d + 1
  | (_, d) => uptoBulk d + 1
 end
def uptoSmall : (H : Type) → List (DataW H) → Bool := fun _ ds => decide (uptoBulkAll ds ≤ 1048576)
def OpenSpec.upto (s : _root_.Go.ChangeSpec) : _root_.Go.OpenSpec := { _root_.Go.OpenSpec.ofChange s with cond := some uptoSmall }

/-- 'laws.FnExactValidService', WHERE WHAT IT READS IS OF BULK AT MOST 1048576: true; the input reads as it did. -/
def fnExactValidServiceUptoRow : OpenClaim := { program := "ythheijekdpboaaa", sum := "ddffe92a84bf9a224de06fdf0b1f8dc4ad1316ce8b72217892dc0d7e49c28537", func := "loop.example/g01118/laws.FnExactValidService", spec := "fnExactValidService", apart := false, narrowed := true }
def FnExactValidServiceUptoSaid : Prop := fnExactValidServiceUptoRow.holds Try.pinned (OpenSpec.upto fnExactValidServiceSpec)

/-- 'laws.FnExactReadDeed', WHERE WHAT IT READS IS OF BULK AT MOST 1048576: true; the input reads as it did. -/
def fnExactReadDeedUptoRow : OpenClaim := { program := "ythheijekdpboaaa", sum := "ddffe92a84bf9a224de06fdf0b1f8dc4ad1316ce8b72217892dc0d7e49c28537", func := "loop.example/g01118/laws.FnExactReadDeed", spec := "fnExactReadDeed", apart := false, narrowed := true }
def FnExactReadDeedUptoSaid : Prop := fnExactReadDeedUptoRow.holds Try.pinned (OpenSpec.upto fnExactReadDeedSpec)

/-- 'laws.FnExactValidRecord', WHERE WHAT IT READS IS OF BULK AT MOST 1048576: true; the input reads as it did. -/
def fnExactValidRecordUptoRow : OpenClaim := { program := "ythheijekdpboaaa", sum := "ddffe92a84bf9a224de06fdf0b1f8dc4ad1316ce8b72217892dc0d7e49c28537", func := "loop.example/g01118/laws.FnExactValidRecord", spec := "fnExactValidRecord", apart := false, narrowed := true }
def FnExactValidRecordUptoSaid : Prop := fnExactValidRecordUptoRow.holds Try.pinned (OpenSpec.upto fnExactValidRecordSpec)

/-- 'laws.FnExactWindowByDraws', WHERE WHAT IT READS IS OF BULK AT MOST 1048576: true; the input reads as it did. -/
def fnExactWindowByDrawsUptoRow : OpenClaim := { program := "ythheijekdpboaaa", sum := "ddffe92a84bf9a224de06fdf0b1f8dc4ad1316ce8b72217892dc0d7e49c28537", func := "loop.example/g01118/laws.FnExactWindowByDraws", spec := "fnExactWindowByDraws", unfollowed := true, recurses := true, apart := false, narrowed := true }
def FnExactWindowByDrawsUptoSaid : Prop := fnExactWindowByDrawsUptoRow.holds Try.pinned (OpenSpec.upto fnExactWindowByDrawsSpec)

/-- 'laws.FnExactWindowOf', WHERE WHAT IT READS IS OF BULK AT MOST 1048576: true; the input reads as it did. -/
def fnExactWindowOfUptoRow : OpenClaim := { program := "ythheijekdpboaaa", sum := "ddffe92a84bf9a224de06fdf0b1f8dc4ad1316ce8b72217892dc0d7e49c28537", func := "loop.example/g01118/laws.FnExactWindowOf", spec := "fnExactWindowOf", apart := false, narrowed := true }
def FnExactWindowOfUptoSaid : Prop := fnExactWindowOfUptoRow.holds Try.pinned (OpenSpec.upto fnExactWindowOfSpec)

/-- 'laws.FnWindows', WHERE WHAT IT READS IS OF BULK AT MOST 1048576: true; the input reads as it did. -/
def fnWindowsUptoRow : OpenClaim := { program := "ythheijekdpboaaa", sum := "ddffe92a84bf9a224de06fdf0b1f8dc4ad1316ce8b72217892dc0d7e49c28537", func := "loop.example/g01118/laws.FnWindows", spec := "fnWindows", unfollowed := true, recurses := true, apart := false, narrowed := true }
def FnWindowsUptoSaid : Prop := fnWindowsUptoRow.holds Try.pinned (OpenSpec.upto fnWindowsSpec)

/-- 'laws.FnExactSampleOf', WHERE WHAT IT READS IS OF BULK AT MOST 1048576: true; the input reads as it did. -/
def fnExactSampleOfUptoRow : OpenClaim := { program := "ythheijekdpboaaa", sum := "ddffe92a84bf9a224de06fdf0b1f8dc4ad1316ce8b72217892dc0d7e49c28537", func := "loop.example/g01118/laws.FnExactSampleOf", spec := "fnExactSampleOf", apart := false, narrowed := true }
def FnExactSampleOfUptoSaid : Prop := fnExactSampleOfUptoRow.holds Try.pinned (OpenSpec.upto fnExactSampleOfSpec)

/-- 'laws.FnExactJournalText', WHERE WHAT IT READS IS OF BULK AT MOST 1048576: true; the input reads as it did. -/
def fnExactJournalTextUptoRow : OpenClaim := { program := "ythheijekdpboaaa", sum := "ddffe92a84bf9a224de06fdf0b1f8dc4ad1316ce8b72217892dc0d7e49c28537", func := "loop.example/g01118/laws.FnExactJournalText", spec := "fnExactJournalText", unfollowed := true, recurses := true, apart := false, narrowed := true }
def FnExactJournalTextUptoSaid : Prop := fnExactJournalTextUptoRow.holds Try.pinned (OpenSpec.upto fnExactJournalTextSpec)

/-- 'laws.FnExactDeskAfter', WHERE WHAT IT READS IS OF BULK AT MOST 1048576: true; the input reads as it did. -/
def fnExactDeskAfterUptoRow : OpenClaim := { program := "ythheijekdpboaaa", sum := "ddffe92a84bf9a224de06fdf0b1f8dc4ad1316ce8b72217892dc0d7e49c28537", func := "loop.example/g01118/laws.FnExactDeskAfter", spec := "fnExactDeskAfter", unfollowed := true, recurses := true, apart := false, narrowed := true }
def FnExactDeskAfterUptoSaid : Prop := fnExactDeskAfterUptoRow.holds Try.pinned (OpenSpec.upto fnExactDeskAfterSpec)

/-- 'laws.FnExactReadJournal', WHERE WHAT IT READS IS OF BULK AT MOST 1048576: true; the input reads as it did. -/
def fnExactReadJournalUptoRow : OpenClaim := { program := "ythheijekdpboaaa", sum := "ddffe92a84bf9a224de06fdf0b1f8dc4ad1316ce8b72217892dc0d7e49c28537", func := "loop.example/g01118/laws.FnExactReadJournal", spec := "fnExactReadJournal", apart := false, narrowed := true }
def FnExactReadJournalUptoSaid : Prop := fnExactReadJournalUptoRow.holds Try.pinned (OpenSpec.upto fnExactReadJournalSpec)

/-- 'laws.FnJournal', WHERE WHAT IT READS IS OF BULK AT MOST 1048576: true; the input reads as it did. -/
def fnJournalUptoRow : OpenClaim := { program := "ythheijekdpboaaa", sum := "ddffe92a84bf9a224de06fdf0b1f8dc4ad1316ce8b72217892dc0d7e49c28537", func := "loop.example/g01118/laws.FnJournal", spec := "fnJournal", unfollowed := true, recurses := true, apart := false, narrowed := true }
def FnJournalUptoSaid : Prop := fnJournalUptoRow.holds Try.pinned (OpenSpec.upto fnJournalSpec)

/-- 'laws.FnDraws', WHERE WHAT IT READS IS OF BULK AT MOST 1048576: true; the input reads as it did. -/
def fnDrawsUptoRow : OpenClaim := { program := "ythheijekdpboaaa", sum := "ddffe92a84bf9a224de06fdf0b1f8dc4ad1316ce8b72217892dc0d7e49c28537", func := "loop.example/g01118/laws.FnDraws", spec := "fnDraws", unfollowed := true, recurses := true, apart := false, narrowed := true }
def FnDrawsUptoSaid : Prop := fnDrawsUptoRow.holds Try.pinned (OpenSpec.upto fnDrawsSpec)

end Rows
end Go.Proofs.Ythheijekdpboaaa
