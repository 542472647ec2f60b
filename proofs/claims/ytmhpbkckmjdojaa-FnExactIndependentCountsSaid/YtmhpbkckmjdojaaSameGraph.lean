/-
  SameGraph, both.
-/
import Derived.Test.YtmhpbkckmjdojaaGraph
namespace Go.Proofs.Ytmhpbkckmjdojaa
open Go.RowKit Go.Sort
end Go.Proofs.Ytmhpbkckmjdojaa
