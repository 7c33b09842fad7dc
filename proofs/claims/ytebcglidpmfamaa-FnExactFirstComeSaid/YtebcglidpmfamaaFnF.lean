/- A part of the proof that the law of this seat answers true for every input, without a condition. -/
import Derived.Test.YtebcglidpmfamaaFnE
set_option linter.all false
set_option linter.unusedVariables false
set_option linter.unusedSimpArgs false
set_option pp.maxSteps 150
set_option maxRecDepth 100000
namespace Go.Eng
open Go Go.Proofs
-- not in this seat: slices.IndexFunc[impl.File,impl.Spot]
-- not in this seat: slices.ContainsFunc[impl.File,impl.Spot]
-- not in this seat: slices.IndexFunc[[]int64,int64]
-- not in this seat: slices.ContainsFunc[[]int64,int64]
end Go.Eng
