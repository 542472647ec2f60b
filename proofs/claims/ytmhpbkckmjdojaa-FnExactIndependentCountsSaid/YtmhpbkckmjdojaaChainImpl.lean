/-
  Which chains are valid: the program's look.
-/
import Derived.Test.YtmhpbkckmjdojaaChain
namespace Go.Proofs.Ytmhpbkckmjdojaa
open Go.RowKit Go.Sort
end Go.Proofs.Ytmhpbkckmjdojaa
