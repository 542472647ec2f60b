/-
  The closed facts that all rows of this seat share, each by itself.
-/
import Derived.Test.YtipkdbicijibpaaLib
namespace Go.Proofs.Ytipkdbicijibpaa
open Go.RowKit
theorem and_tt {a b : Bool} (ha : a = true) (hb : b = true) : (a && b) = true := by rw [ha, hb]; rfl
theorem fLaid : laidOutB Try.checked.prog = true := by kernel_rfl
theorem fMaps : mapsRowed Try.checked.prog = true := by kernel_rfl
theorem fKeys : (true == Try.checked.prog.plainKeys) = true := by kernel_rfl
theorem fHeard : Try.checked.prog.stopsHeard = true := by kernel_rfl
theorem fEnter : Try.checked.prog.mayEnter = true := by kernel_rfl
theorem fFinal : (false == Try.checked.prog.liftsFinal) = true := by kernel_rfl
theorem fMake : (Try.checked.prog.make == some Make.cut) = true := by kernel_rfl
end Go.Proofs.Ytipkdbicijibpaa
