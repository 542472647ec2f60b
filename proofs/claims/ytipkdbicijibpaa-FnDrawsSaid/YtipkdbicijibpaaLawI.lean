/-
  Small words for laws whose arguments are []int64.
-/
import Derived.Test.YtipkdbicijibpaaBaseII
namespace Go.Proofs.Ytipkdbicijibpaa
open Go.RowKit
end Go.Proofs.Ytipkdbicijibpaa
