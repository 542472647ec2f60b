/-
  A search by (impl.Graph).areColours$1.
-/
import Derived.Test.YtbhhihaaiiaagaaSearchL
namespace Go.Proofs.Ytbhhihaaiiaagaa
open Go.RowKit Go.Sort
end Go.Proofs.Ytbhhihaaiiaagaa
