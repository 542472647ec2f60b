/-
  Which chains are valid: the program's look.
-/
import Derived.Test.YtbhhihaaiiaagaaChain
namespace Go.Proofs.Ytbhhihaaiiaagaa
open Go.RowKit Go.Sort
end Go.Proofs.Ytbhhihaaiiaagaa
