/- A part of the proof that the law of this seat answers true for every input, without a condition. -/
import Derived.Test.YtebcglidpmfamaaEngU
import Derived.Laws.StructEq
set_option linter.all false
set_option linter.unusedVariables false
namespace Go.Eng
open Go Go.Proofs
-- not in this seat: impl.Spot
theorem spotC_inv {H : Hp} {env : List (Nat × Nat)} {a b : Int} {x : Value} (h : Rep H env (.agg [i8 a, i8 b]) x) : x = .agg #[.int .i8 a, .int .i8 b] := by
  cases h with
  | agg h => cases h with
    | cons h1 _ h2 => cases h1; cases h2 with
      | cons h3 _ h4 => cases h3; cases h4; rfl
-- not in this seat: impl.Spot
-- not in this seat: impl.Spot
end Go.Eng
