/-
  A search by impl.deckIndex$1.
-/
import Derived.Test.YtmhpbkckmjdojaaSearchL
namespace Go.Proofs.Ytmhpbkckmjdojaa
open Go.RowKit Go.Sort
end Go.Proofs.Ytmhpbkckmjdojaa
