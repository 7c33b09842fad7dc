/- A part of the proof that the law of this seat answers true for every input, without a condition. -/
import Derived.Test.YtebcglidpmfamaaFnC
set_option linter.all false
set_option linter.unusedVariables false
set_option linter.unusedSimpArgs false
set_option pp.maxSteps 150
set_option maxRecDepth 100000
namespace Go.Eng
open Go Go.Proofs
/-- spec's l01Is. -/
def isV (r : RoomV) (p : SpotV) : Bool := (decide (0 ≤ p.x) && decide (p.x ≤ r.wide - 1)) && (decide (0 ≤ p.y) && decide (p.y ≤ r.high - 1))
-- not in this seat: spec.l01Is
attribute [irreducible] isV
end Go.Eng
