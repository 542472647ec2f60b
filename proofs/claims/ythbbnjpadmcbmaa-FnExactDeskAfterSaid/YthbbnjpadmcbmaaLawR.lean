/-
  Small words for laws whose arguments are slices of structs.
-/
import Derived.Test.YthbbnjpadmcbmaaLawI
import Derived.Test.YthbbnjpadmcbmaaLawLib
namespace Go.Proofs.Ythbbnjpadmcbmaa
open Go.RowKit
theorem sz1_ok {l q : Int} {n : Nat} (h : sz1 l n = q) (hq : ¬ q < 0) (hl : l ≤ 1048576) : n ≤ 1048576 := by
  unfold sz1 at h; split at h <;> omega
end Go.Proofs.Ythbbnjpadmcbmaa
