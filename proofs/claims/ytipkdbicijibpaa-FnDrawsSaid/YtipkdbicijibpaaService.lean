/-
  Chains and services: counted, copied, compared.
-/
import Derived.Test.YtipkdbicijibpaaChainImpl
namespace Go.Proofs.Ytipkdbicijibpaa
open Go.RowKit Go.Sort
def chSame (s t : Int) (xss : List (List Int)) (s' t' : Int) (yss : List (List Int)) : Bool := decide (s = s') && (decide (t = t') && decide (xss = yss))
end Go.Proofs.Ytipkdbicijibpaa
