/-
  Arguments opened: from the row's reading to the walks' words.
-/
import Derived.Test.YtpfidcodiknhgaaLib
import Derived.ProofKit
import Derived.OpenShut
import Derived.Lib.SmallJoins
import Derived.Deep.Slices
namespace Go.Proofs.Ytpfidcodiknhgaa
open Go.ChangeShapes Go.WideShapes Go.ChangeAt Go.RowKit Go.Joins
theorem laidOut : laidOutB Try.prog = true := by kernel_rfl
end Go.Proofs.Ytpfidcodiknhgaa
