/-
  The reference's reading of a line of a journal.
-/
import Derived.Test.YthheijekdpboaaaParseUp
import Derived.Test.YthheijekdpboaaaParseGot
import Derived.Test.YthheijekdpboaaaParseOut
import Derived.Test.YthheijekdpboaaaParseNone
namespace Go.Proofs.Ythheijekdpboaaa
open Go.RowKit Go.Sort
theorem l09Parse_any {u : Value} (line : ByteArray) (b o : Nat) (st t bs sm wk : Int) (w : World) (hc : ServAt w b o st t u bs sm wk) (h3 : 1 ≤ sm) (h4 : sm ≤ 8) (h1 : 1 ≤ st) (h2 : st ≤ 6) (hs : line.size ≤ 1048576) :
    Calls Try.prog 111 #[.pointer (some ⟨b, o, none⟩), .string line] w fun e w' => ParseP st sm line e ∧ Below w.heap.size w w' := by
  by_cases hx : (cuts line 32).getD 0 ⟨#[]⟩ = upB
  · exact l09Parse_up line b o st t bs sm wk w hc h3 h4 h1 h2 hs hx
  · by_cases hy : (cuts line 32).getD 0 ⟨#[]⟩ = gotB
    · exact l09Parse_got line b o st t bs sm wk w hc h3 h4 h1 h2 hs hy
    · by_cases hz : (cuts line 32).getD 0 ⟨#[]⟩ = outB
      · exact l09Parse_out line b o st t bs sm wk w hc h3 h4 h1 h2 hs hz
      · exact l09Parse_none line b o st t bs sm wk w hc h3 h4 h1 h2 hs ⟨hx, hy, hz⟩
end Go.Proofs.Ythheijekdpboaaa
