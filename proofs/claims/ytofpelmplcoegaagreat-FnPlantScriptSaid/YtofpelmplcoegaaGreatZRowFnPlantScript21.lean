/-
  StepByDraw and RunByDraws, both sides, for valid arguments.
-/
import Derived.Test.YtofpelmplcoegaaGreatZRowFnPlantScript8
import Derived.Test.YtofpelmplcoegaaGreatZRowFnPlantScript14
import Derived.Test.YtofpelmplcoegaaGreatZRowFnPlantScript6
import Derived.Test.YtofpelmplcoegaaGreatZRowFnPlantScript9
set_option linter.unusedVariables false
set_option linter.unusedSimpArgs false
namespace Go.Proofs.YtofpelmplcoegaaGreat
open Go.RowKit Go.Sort
end Go.Proofs.YtofpelmplcoegaaGreat
