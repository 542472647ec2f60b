/-
  No cell of these rows narrows 'for every input' (looked for: loops, veiled, ifaces, maps, wideKeys, modest, calm, conditions, laid).
  DERIVED. THE GIVEN ROWS OF THIS SEAT. 12 by the template 'for every input the law returns true; each argument reads behind the call as it read before'; 0 by the template 'total and deterministic' (their statements: YtbokklbbnaibdaaTotals.lean).
  GIVEN WITH THE SEED: the statements are not yours to turn. If you find one false, say at which input.
  Laid BY PROGRAM, IN A SANDBOX (cutbox-rows.mjs): the forced cells as the released guide's own fill.sh prints them over the translation b7a76313e81d66ed… (all of the seat's roots in one cut). By AI agents, Wed Nov 11 2026. No macro, syntax, notation, axiom, sorry.
-/
import Derived.Test.YtbokklbbnaibdaaChecked
import GoSem.Claim
import GoSem.ClaimJoined
import GoSem.ClaimMapViews
import Derived.JoinedTies
import Derived.KernelRfl
namespace Go.Proofs.Ytbokklbbnaibdaa
/- THE CELL 'sum', in the pinned program and in every row, IS THE sha256 OF THE DUMP (.gsa) THAT YtbokklbbnaibdaaProg.lean LOADS. Nothing in Lean hashes anything: it is a label: what it is worth is what the hold of that sum in a sandbox is worth. -/
noncomputable def Try.pinned : Pinned := { name := "ytbokklbbnaibdaa", sum := "b7a76313e81d66ed0bfee62bd352dc42da7032aa0fa0998ad5c1f799344d71f3", checked := Try.checked }
namespace Rows
def none {H : Type} : Left H := { results := [], args := [] }

/-- 'laws.FnExactDeckAt': WHATEVER THE INPUT: true; the input reads as it did. -/
def fnExactDeckAtSpec : ChangeSpec := { name := "fnExactDeckAt", fn := fun _ => fun
  | [d1, d2] => { results := [.lit (.bool true)], args := [d1, d2] }
  | _ => none }
def fnExactDeckAtRow : OpenClaim := { program := "ytbokklbbnaibdaa", sum := "b7a76313e81d66ed0bfee62bd352dc42da7032aa0fa0998ad5c1f799344d71f3", func := "loop.example/g01118/laws.FnExactDeckAt", spec := "fnExactDeckAt", unfollowed := true, recurses := true, apart := false }
def FnExactDeckAtSaid : Prop := fnExactDeckAtRow.holds Try.pinned (OpenSpec.ofChange fnExactDeckAtSpec)

/-- ITS FALSE NEIGHBOUR: 'it returns false'. Refute it at one input. -/
def fnExactDeckAtWrong : ChangeSpec := { name := "fnExactDeckAt", fn := fun _ => fun
  | [d1, d2] => { results := [.lit (.bool false)], args := [d1, d2] }
  | _ => none }
def FnExactDeckAtWrongFalsely : Prop := fnExactDeckAtRow.holds Try.pinned (OpenSpec.ofChange fnExactDeckAtWrong)

/-- 'laws.FnExactDeckNumber': WHATEVER THE INPUT: true; the input reads as it did. -/
def fnExactDeckNumberSpec : ChangeSpec := { name := "fnExactDeckNumber", fn := fun _ => fun
  | [d] => { results := [.lit (.bool true)], args := [d] }
  | _ => none }
def fnExactDeckNumberRow : OpenClaim := { program := "ytbokklbbnaibdaa", sum := "b7a76313e81d66ed0bfee62bd352dc42da7032aa0fa0998ad5c1f799344d71f3", func := "loop.example/g01118/laws.FnExactDeckNumber", spec := "fnExactDeckNumber", unfollowed := true, recurses := true, apart := false }
def FnExactDeckNumberSaid : Prop := fnExactDeckNumberRow.holds Try.pinned (OpenSpec.ofChange fnExactDeckNumberSpec)

/-- ITS FALSE NEIGHBOUR: 'it returns false'. Refute it at one input. -/
def fnExactDeckNumberWrong : ChangeSpec := { name := "fnExactDeckNumber", fn := fun _ => fun
  | [d] => { results := [.lit (.bool false)], args := [d] }
  | _ => none }
def FnExactDeckNumberWrongFalsely : Prop := fnExactDeckNumberRow.holds Try.pinned (OpenSpec.ofChange fnExactDeckNumberWrong)

/-- 'laws.FnExactValidGraph': WHATEVER THE INPUT: true; the input reads as it did. -/
def fnExactValidGraphSpec : ChangeSpec := { name := "fnExactValidGraph", fn := fun _ => fun
  | [d] => { results := [.lit (.bool true)], args := [d] }
  | _ => none }
def fnExactValidGraphRow : OpenClaim := { program := "ytbokklbbnaibdaa", sum := "b7a76313e81d66ed0bfee62bd352dc42da7032aa0fa0998ad5c1f799344d71f3", func := "loop.example/g01118/laws.FnExactValidGraph", spec := "fnExactValidGraph", apart := false }
def FnExactValidGraphSaid : Prop := fnExactValidGraphRow.holds Try.pinned (OpenSpec.ofChange fnExactValidGraphSpec)

/-- ITS FALSE NEIGHBOUR: 'it returns false'. Refute it at one input. -/
def fnExactValidGraphWrong : ChangeSpec := { name := "fnExactValidGraph", fn := fun _ => fun
  | [d] => { results := [.lit (.bool false)], args := [d] }
  | _ => none }
def FnExactValidGraphWrongFalsely : Prop := fnExactValidGraphRow.holds Try.pinned (OpenSpec.ofChange fnExactValidGraphWrong)

/-- 'laws.FnExactIsColouring': WHATEVER THE INPUT: true; the input reads as it did. -/
def fnExactIsColouringSpec : ChangeSpec := { name := "fnExactIsColouring", fn := fun _ => fun
  | [d1, d2, d3] => { results := [.lit (.bool true)], args := [d1, d2, d3] }
  | _ => none }
def fnExactIsColouringRow : OpenClaim := { program := "ytbokklbbnaibdaa", sum := "b7a76313e81d66ed0bfee62bd352dc42da7032aa0fa0998ad5c1f799344d71f3", func := "loop.example/g01118/laws.FnExactIsColouring", spec := "fnExactIsColouring", unfollowed := true, recurses := true, apart := false }
def FnExactIsColouringSaid : Prop := fnExactIsColouringRow.holds Try.pinned (OpenSpec.ofChange fnExactIsColouringSpec)

/-- ITS FALSE NEIGHBOUR: 'it returns false'. Refute it at one input. -/
def fnExactIsColouringWrong : ChangeSpec := { name := "fnExactIsColouring", fn := fun _ => fun
  | [d1, d2, d3] => { results := [.lit (.bool false)], args := [d1, d2, d3] }
  | _ => none }
def FnExactIsColouringWrongFalsely : Prop := fnExactIsColouringRow.holds Try.pinned (OpenSpec.ofChange fnExactIsColouringWrong)

/-- 'laws.FnExactGraphText': WHATEVER THE INPUT: true; the input reads as it did. -/
def fnExactGraphTextSpec : ChangeSpec := { name := "fnExactGraphText", fn := fun _ => fun
  | [d] => { results := [.lit (.bool true)], args := [d] }
  | _ => none }
def fnExactGraphTextRow : OpenClaim := { program := "ytbokklbbnaibdaa", sum := "b7a76313e81d66ed0bfee62bd352dc42da7032aa0fa0998ad5c1f799344d71f3", func := "loop.example/g01118/laws.FnExactGraphText", spec := "fnExactGraphText", recurses := true, apart := false }
def FnExactGraphTextSaid : Prop := fnExactGraphTextRow.holds Try.pinned (OpenSpec.ofChange fnExactGraphTextSpec)

/-- ITS FALSE NEIGHBOUR: 'it returns false'. Refute it at one input. -/
def fnExactGraphTextWrong : ChangeSpec := { name := "fnExactGraphText", fn := fun _ => fun
  | [d] => { results := [.lit (.bool false)], args := [d] }
  | _ => none }
def FnExactGraphTextWrongFalsely : Prop := fnExactGraphTextRow.holds Try.pinned (OpenSpec.ofChange fnExactGraphTextWrong)

/-- 'laws.FnExactIsIndependent': WHATEVER THE INPUT: true; the input reads as it did. -/
def fnExactIsIndependentSpec : ChangeSpec := { name := "fnExactIsIndependent", fn := fun _ => fun
  | [d1, d2] => { results := [.lit (.bool true)], args := [d1, d2] }
  | _ => none }
def fnExactIsIndependentRow : OpenClaim := { program := "ytbokklbbnaibdaa", sum := "b7a76313e81d66ed0bfee62bd352dc42da7032aa0fa0998ad5c1f799344d71f3", func := "loop.example/g01118/laws.FnExactIsIndependent", spec := "fnExactIsIndependent", unfollowed := true, recurses := true, apart := false }
def FnExactIsIndependentSaid : Prop := fnExactIsIndependentRow.holds Try.pinned (OpenSpec.ofChange fnExactIsIndependentSpec)

/-- ITS FALSE NEIGHBOUR: 'it returns false'. Refute it at one input. -/
def fnExactIsIndependentWrong : ChangeSpec := { name := "fnExactIsIndependent", fn := fun _ => fun
  | [d1, d2] => { results := [.lit (.bool false)], args := [d1, d2] }
  | _ => none }
def FnExactIsIndependentWrongFalsely : Prop := fnExactIsIndependentRow.holds Try.pinned (OpenSpec.ofChange fnExactIsIndependentWrong)

/-- 'laws.FnExactColourPolynomial': WHATEVER THE INPUT: true; the input reads as it did. -/
def fnExactColourPolynomialSpec : ChangeSpec := { name := "fnExactColourPolynomial", fn := fun _ => fun
  | [d] => { results := [.lit (.bool true)], args := [d] }
  | _ => none }
def fnExactColourPolynomialRow : OpenClaim := { program := "ytbokklbbnaibdaa", sum := "b7a76313e81d66ed0bfee62bd352dc42da7032aa0fa0998ad5c1f799344d71f3", func := "loop.example/g01118/laws.FnExactColourPolynomial", spec := "fnExactColourPolynomial", apart := false }
def FnExactColourPolynomialSaid : Prop := fnExactColourPolynomialRow.holds Try.pinned (OpenSpec.ofChange fnExactColourPolynomialSpec)

/-- ITS FALSE NEIGHBOUR: 'it returns false'. Refute it at one input. -/
def fnExactColourPolynomialWrong : ChangeSpec := { name := "fnExactColourPolynomial", fn := fun _ => fun
  | [d] => { results := [.lit (.bool false)], args := [d] }
  | _ => none }
def FnExactColourPolynomialWrongFalsely : Prop := fnExactColourPolynomialRow.holds Try.pinned (OpenSpec.ofChange fnExactColourPolynomialWrong)

/-- 'laws.FnExactLineGraph': WHATEVER THE INPUT: true; the input reads as it did. -/
def fnExactLineGraphSpec : ChangeSpec := { name := "fnExactLineGraph", fn := fun _ => fun
  | [d] => { results := [.lit (.bool true)], args := [d] }
  | _ => none }
def fnExactLineGraphRow : OpenClaim := { program := "ytbokklbbnaibdaa", sum := "b7a76313e81d66ed0bfee62bd352dc42da7032aa0fa0998ad5c1f799344d71f3", func := "loop.example/g01118/laws.FnExactLineGraph", spec := "fnExactLineGraph", apart := false }
def FnExactLineGraphSaid : Prop := fnExactLineGraphRow.holds Try.pinned (OpenSpec.ofChange fnExactLineGraphSpec)

/-- ITS FALSE NEIGHBOUR: 'it returns false'. Refute it at one input. -/
def fnExactLineGraphWrong : ChangeSpec := { name := "fnExactLineGraph", fn := fun _ => fun
  | [d] => { results := [.lit (.bool false)], args := [d] }
  | _ => none }
def FnExactLineGraphWrongFalsely : Prop := fnExactLineGraphRow.holds Try.pinned (OpenSpec.ofChange fnExactLineGraphWrong)

/-- 'laws.FnExactCountColourings': WHATEVER THE INPUT: true; the input reads as it did. -/
def fnExactCountColouringsSpec : ChangeSpec := { name := "fnExactCountColourings", fn := fun _ => fun
  | [d1, d2] => { results := [.lit (.bool true)], args := [d1, d2] }
  | _ => none }
def fnExactCountColouringsRow : OpenClaim := { program := "ytbokklbbnaibdaa", sum := "b7a76313e81d66ed0bfee62bd352dc42da7032aa0fa0998ad5c1f799344d71f3", func := "loop.example/g01118/laws.FnExactCountColourings", spec := "fnExactCountColourings", unfollowed := true, recurses := true, apart := false }
def FnExactCountColouringsSaid : Prop := fnExactCountColouringsRow.holds Try.pinned (OpenSpec.ofChange fnExactCountColouringsSpec)

/-- ITS FALSE NEIGHBOUR: 'it returns false'. Refute it at one input. -/
def fnExactCountColouringsWrong : ChangeSpec := { name := "fnExactCountColourings", fn := fun _ => fun
  | [d1, d2] => { results := [.lit (.bool false)], args := [d1, d2] }
  | _ => none }
def FnExactCountColouringsWrongFalsely : Prop := fnExactCountColouringsRow.holds Try.pinned (OpenSpec.ofChange fnExactCountColouringsWrong)

/-- 'laws.FnExactMatchingCounts': WHATEVER THE INPUT: true; the input reads as it did. -/
def fnExactMatchingCountsSpec : ChangeSpec := { name := "fnExactMatchingCounts", fn := fun _ => fun
  | [d] => { results := [.lit (.bool true)], args := [d] }
  | _ => none }
def fnExactMatchingCountsRow : OpenClaim := { program := "ytbokklbbnaibdaa", sum := "b7a76313e81d66ed0bfee62bd352dc42da7032aa0fa0998ad5c1f799344d71f3", func := "loop.example/g01118/laws.FnExactMatchingCounts", spec := "fnExactMatchingCounts", unfollowed := true, recurses := true, apart := false }
def FnExactMatchingCountsSaid : Prop := fnExactMatchingCountsRow.holds Try.pinned (OpenSpec.ofChange fnExactMatchingCountsSpec)

/-- ITS FALSE NEIGHBOUR: 'it returns false'. Refute it at one input. -/
def fnExactMatchingCountsWrong : ChangeSpec := { name := "fnExactMatchingCounts", fn := fun _ => fun
  | [d] => { results := [.lit (.bool false)], args := [d] }
  | _ => none }
def FnExactMatchingCountsWrongFalsely : Prop := fnExactMatchingCountsRow.holds Try.pinned (OpenSpec.ofChange fnExactMatchingCountsWrong)

/-- 'laws.FnExactFreeColours': WHATEVER THE INPUT: true; the input reads as it did. -/
def fnExactFreeColoursSpec : ChangeSpec := { name := "fnExactFreeColours", fn := fun _ => fun
  | [d1, d2, d3, d4] => { results := [.lit (.bool true)], args := [d1, d2, d3, d4] }
  | _ => none }
def fnExactFreeColoursRow : OpenClaim := { program := "ytbokklbbnaibdaa", sum := "b7a76313e81d66ed0bfee62bd352dc42da7032aa0fa0998ad5c1f799344d71f3", func := "loop.example/g01118/laws.FnExactFreeColours", spec := "fnExactFreeColours", unfollowed := true, recurses := true, apart := false }
def FnExactFreeColoursSaid : Prop := fnExactFreeColoursRow.holds Try.pinned (OpenSpec.ofChange fnExactFreeColoursSpec)

/-- ITS FALSE NEIGHBOUR: 'it returns false'. Refute it at one input. -/
def fnExactFreeColoursWrong : ChangeSpec := { name := "fnExactFreeColours", fn := fun _ => fun
  | [d1, d2, d3, d4] => { results := [.lit (.bool false)], args := [d1, d2, d3, d4] }
  | _ => none }
def FnExactFreeColoursWrongFalsely : Prop := fnExactFreeColoursRow.holds Try.pinned (OpenSpec.ofChange fnExactFreeColoursWrong)

/-- 'laws.FnMatchings': WHATEVER THE INPUT: true; the input reads as it did. -/
def fnMatchingsSpec : ChangeSpec := { name := "fnMatchings", fn := fun _ => fun
  | [d1, d2] => { results := [.lit (.bool true)], args := [d1, d2] }
  | _ => none }
def fnMatchingsRow : OpenClaim := { program := "ytbokklbbnaibdaa", sum := "b7a76313e81d66ed0bfee62bd352dc42da7032aa0fa0998ad5c1f799344d71f3", func := "loop.example/g01118/laws.FnMatchings", spec := "fnMatchings", unfollowed := true, recurses := true, apart := false }
def FnMatchingsSaid : Prop := fnMatchingsRow.holds Try.pinned (OpenSpec.ofChange fnMatchingsSpec)

/-- ITS FALSE NEIGHBOUR: 'it returns false'. Refute it at one input. -/
def fnMatchingsWrong : ChangeSpec := { name := "fnMatchings", fn := fun _ => fun
  | [d1, d2] => { results := [.lit (.bool false)], args := [d1, d2] }
  | _ => none }
def FnMatchingsWrongFalsely : Prop := fnMatchingsRow.holds Try.pinned (OpenSpec.ofChange fnMatchingsWrong)

/- THE SECOND FORM. 'bulk': how many values and letters a reading holds, each counted each time it is reached (what is shared counts as often as it is met; a slice's spare places count too). A statement '..UptoSaid' is the law's where the arguments, and the package variables that the reading takes, are together of bulk at most 1048576: NARROWER than '..Said'. Prove '..Said' where nothing that the law and all that it calls make is longer than what came in: it says more and counts as full. Else prove '..UptoSaid'. A law counts once. -/
mutual
def uptoBulk {H : Type} : DataW H → Nat
  | .lit (.string bytes) => bytes.length + 1
  | .lit _ => 1
  | .nil => 1
  | .ptr d => uptoBulk d + 1
  | .slice elems spare => uptoBulkAll elems + uptoBulkAll spare + 1
  | .agg parts => uptoBulkAll parts + 1
  | .iface _ d => uptoBulk d + 1
  | .map entries => uptoBulkEntries entries + 1
  | .held _ => 1
def uptoBulkAll {H : Type} : List (DataW H) → Nat
  | [] => 0
  | d :: r => uptoBulk d + uptoBulkAll r
def uptoBulkEntries {H : Type} : List (Lit × DataW H) → Nat
  | [] => 0
  | x :: r => uptoBulkEntry x + uptoBulkEntries r
def uptoBulkEntry {H : Type} : Lit × DataW H → Nat
  | (.string bytes, d) => bytes.length + uptoBulk d + 1
  | (_, d) => uptoBulk d + 1
 end
def uptoSmall : (H : Type) → List (DataW H) → Bool := fun _ ds => decide (uptoBulkAll ds ≤ 1048576)
def OpenSpec.upto (s : _root_.Go.ChangeSpec) : _root_.Go.OpenSpec := { _root_.Go.OpenSpec.ofChange s with cond := some uptoSmall }

/-- 'laws.FnExactDeckAt', WHERE WHAT IT READS IS OF BULK AT MOST 1048576: true; the input reads as it did. -/
def fnExactDeckAtUptoRow : OpenClaim := { program := "ytbokklbbnaibdaa", sum := "b7a76313e81d66ed0bfee62bd352dc42da7032aa0fa0998ad5c1f799344d71f3", func := "loop.example/g01118/laws.FnExactDeckAt", spec := "fnExactDeckAt", unfollowed := true, recurses := true, apart := false, narrowed := true }
def FnExactDeckAtUptoSaid : Prop := fnExactDeckAtUptoRow.holds Try.pinned (OpenSpec.upto fnExactDeckAtSpec)

/-- 'laws.FnExactDeckNumber', WHERE WHAT IT READS IS OF BULK AT MOST 1048576: true; the input reads as it did. -/
def fnExactDeckNumberUptoRow : OpenClaim := { program := "ytbokklbbnaibdaa", sum := "b7a76313e81d66ed0bfee62bd352dc42da7032aa0fa0998ad5c1f799344d71f3", func := "loop.example/g01118/laws.FnExactDeckNumber", spec := "fnExactDeckNumber", unfollowed := true, recurses := true, apart := false, narrowed := true }
def FnExactDeckNumberUptoSaid : Prop := fnExactDeckNumberUptoRow.holds Try.pinned (OpenSpec.upto fnExactDeckNumberSpec)

/-- 'laws.FnExactValidGraph', WHERE WHAT IT READS IS OF BULK AT MOST 1048576: true; the input reads as it did. -/
def fnExactValidGraphUptoRow : OpenClaim := { program := "ytbokklbbnaibdaa", sum := "b7a76313e81d66ed0bfee62bd352dc42da7032aa0fa0998ad5c1f799344d71f3", func := "loop.example/g01118/laws.FnExactValidGraph", spec := "fnExactValidGraph", apart := false, narrowed := true }
def FnExactValidGraphUptoSaid : Prop := fnExactValidGraphUptoRow.holds Try.pinned (OpenSpec.upto fnExactValidGraphSpec)

/-- 'laws.FnExactIsColouring', WHERE WHAT IT READS IS OF BULK AT MOST 1048576: true; the input reads as it did. -/
def fnExactIsColouringUptoRow : OpenClaim := { program := "ytbokklbbnaibdaa", sum := "b7a76313e81d66ed0bfee62bd352dc42da7032aa0fa0998ad5c1f799344d71f3", func := "loop.example/g01118/laws.FnExactIsColouring", spec := "fnExactIsColouring", unfollowed := true, recurses := true, apart := false, narrowed := true }
def FnExactIsColouringUptoSaid : Prop := fnExactIsColouringUptoRow.holds Try.pinned (OpenSpec.upto fnExactIsColouringSpec)

/-- 'laws.FnExactGraphText', WHERE WHAT IT READS IS OF BULK AT MOST 1048576: true; the input reads as it did. -/
def fnExactGraphTextUptoRow : OpenClaim := { program := "ytbokklbbnaibdaa", sum := "b7a76313e81d66ed0bfee62bd352dc42da7032aa0fa0998ad5c1f799344d71f3", func := "loop.example/g01118/laws.FnExactGraphText", spec := "fnExactGraphText", recurses := true, apart := false, narrowed := true }
def FnExactGraphTextUptoSaid : Prop := fnExactGraphTextUptoRow.holds Try.pinned (OpenSpec.upto fnExactGraphTextSpec)

/-- 'laws.FnExactIsIndependent', WHERE WHAT IT READS IS OF BULK AT MOST 1048576: true; the input reads as it did. -/
def fnExactIsIndependentUptoRow : OpenClaim := { program := "ytbokklbbnaibdaa", sum := "b7a76313e81d66ed0bfee62bd352dc42da7032aa0fa0998ad5c1f799344d71f3", func := "loop.example/g01118/laws.FnExactIsIndependent", spec := "fnExactIsIndependent", unfollowed := true, recurses := true, apart := false, narrowed := true }
def FnExactIsIndependentUptoSaid : Prop := fnExactIsIndependentUptoRow.holds Try.pinned (OpenSpec.upto fnExactIsIndependentSpec)

/-- 'laws.FnExactColourPolynomial', WHERE WHAT IT READS IS OF BULK AT MOST 1048576: true; the input reads as it did. -/
def fnExactColourPolynomialUptoRow : OpenClaim := { program := "ytbokklbbnaibdaa", sum := "b7a76313e81d66ed0bfee62bd352dc42da7032aa0fa0998ad5c1f799344d71f3", func := "loop.example/g01118/laws.FnExactColourPolynomial", spec := "fnExactColourPolynomial", apart := false, narrowed := true }
def FnExactColourPolynomialUptoSaid : Prop := fnExactColourPolynomialUptoRow.holds Try.pinned (OpenSpec.upto fnExactColourPolynomialSpec)

/-- 'laws.FnExactLineGraph', WHERE WHAT IT READS IS OF BULK AT MOST 1048576: true; the input reads as it did. -/
def fnExactLineGraphUptoRow : OpenClaim := { program := "ytbokklbbnaibdaa", sum := "b7a76313e81d66ed0bfee62bd352dc42da7032aa0fa0998ad5c1f799344d71f3", func := "loop.example/g01118/laws.FnExactLineGraph", spec := "fnExactLineGraph", apart := false, narrowed := true }
def FnExactLineGraphUptoSaid : Prop := fnExactLineGraphUptoRow.holds Try.pinned (OpenSpec.upto fnExactLineGraphSpec)

/-- 'laws.FnExactCountColourings', WHERE WHAT IT READS IS OF BULK AT MOST 1048576: true; the input reads as it did. -/
def fnExactCountColouringsUptoRow : OpenClaim := { program := "ytbokklbbnaibdaa", sum := "b7a76313e81d66ed0bfee62bd352dc42da7032aa0fa0998ad5c1f799344d71f3", func := "loop.example/g01118/laws.FnExactCountColourings", spec := "fnExactCountColourings", unfollowed := true, recurses := true, apart := false, narrowed := true }
def FnExactCountColouringsUptoSaid : Prop := fnExactCountColouringsUptoRow.holds Try.pinned (OpenSpec.upto fnExactCountColouringsSpec)

/-- 'laws.FnExactMatchingCounts', WHERE WHAT IT READS IS OF BULK AT MOST 1048576: true; the input reads as it did. -/
def fnExactMatchingCountsUptoRow : OpenClaim := { program := "ytbokklbbnaibdaa", sum := "b7a76313e81d66ed0bfee62bd352dc42da7032aa0fa0998ad5c1f799344d71f3", func := "loop.example/g01118/laws.FnExactMatchingCounts", spec := "fnExactMatchingCounts", unfollowed := true, recurses := true, apart := false, narrowed := true }
def FnExactMatchingCountsUptoSaid : Prop := fnExactMatchingCountsUptoRow.holds Try.pinned (OpenSpec.upto fnExactMatchingCountsSpec)

/-- 'laws.FnExactFreeColours', WHERE WHAT IT READS IS OF BULK AT MOST 1048576: true; the input reads as it did. -/
def fnExactFreeColoursUptoRow : OpenClaim := { program := "ytbokklbbnaibdaa", sum := "b7a76313e81d66ed0bfee62bd352dc42da7032aa0fa0998ad5c1f799344d71f3", func := "loop.example/g01118/laws.FnExactFreeColours", spec := "fnExactFreeColours", unfollowed := true, recurses := true, apart := false, narrowed := true }
def FnExactFreeColoursUptoSaid : Prop := fnExactFreeColoursUptoRow.holds Try.pinned (OpenSpec.upto fnExactFreeColoursSpec)

/-- 'laws.FnMatchings', WHERE WHAT IT READS IS OF BULK AT MOST 1048576: true; the input reads as it did. -/
def fnMatchingsUptoRow : OpenClaim := { program := "ytbokklbbnaibdaa", sum := "b7a76313e81d66ed0bfee62bd352dc42da7032aa0fa0998ad5c1f799344d71f3", func := "loop.example/g01118/laws.FnMatchings", spec := "fnMatchings", unfollowed := true, recurses := true, apart := false, narrowed := true }
def FnMatchingsUptoSaid : Prop := fnMatchingsUptoRow.holds Try.pinned (OpenSpec.upto fnMatchingsSpec)

end Rows
end Go.Proofs.Ytbokklbbnaibdaa
