/-
  Which chains are valid: the program's look.
-/
import Derived.Test.YtbokklbbnaibdaaChain
namespace Go.Proofs.Ytbokklbbnaibdaa
open Go.RowKit Go.Sort
end Go.Proofs.Ytbokklbbnaibdaa
