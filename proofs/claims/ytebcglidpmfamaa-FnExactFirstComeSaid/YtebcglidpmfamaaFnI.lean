/- A part of the proof that the law of this seat answers true for every input, without a condition. -/
import Derived.Test.YtebcglidpmfamaaFnH
set_option linter.all false
set_option linter.unusedVariables false
set_option linter.unusedSimpArgs false
set_option pp.maxSteps 150
set_option maxRecDepth 100000
namespace Go.Eng
open Go Go.Proofs
-- not in this seat: slices.Clone[impl.File,impl.Spot]
/-- A list that is turned round from both ends. -/
def revE {α : Type} (l : List α) (d : α) (i k : Nat) : α := (if k < i ∨ l.length ≤ k + i then l.reverse else l).getD k d
theorem rev_zero {α : Type} {l : List α} {d : α} {j : Nat} (hj : j < l.length) : revE l d 0 j = l.getD j d := by
  unfold revE; rw [if_neg (by omega)]
theorem rev_get {α : Type} {l : List α} {d : α} {j : Nat} (hj : j < l.length) : l.reverse.getD j d = l.getD (l.length - 1 - j) d := by
  rw [getD_lt (by simpa using hj), getD_lt (by omega), List.getElem_reverse]
theorem rev_end {α : Type} {l : List α} {d : α} {i j : Nat} (h : ¬ (i : Int) < (l.length : Int) - 1 - i) (hj : j < l.length) : revE l d i j = l.reverse.getD j d := by
  unfold revE
  split
  · rfl
  · rw [rev_get hj, show l.length - 1 - j = j by omega]
theorem rev_step {α : Type} {l : List α} {d : α} {enc : α → List SV} {i a b j : Nat} (h : (i : Int) < (l.length : Int) - 1 - i) (ha : a = i) (hb : b = l.length - 1 - i) (hj : j < l.length) :
    setG (setG (fun k => enc (revE l d i k)) a (enc (revE l d i b))) b (enc (revE l d i a)) j = enc (revE l d (i + 1) j) := by
  subst ha; subst hb
  rw [setG_eq, setG_eq]
  by_cases h1 : j = l.length - 1 - a
  · rw [if_pos h1, h1]
    unfold revE
    rw [if_neg (by omega), if_pos (by omega), rev_get (by omega), show l.length - 1 - (l.length - 1 - a) = a by omega]
  · rw [if_neg h1]
    by_cases h2 : j = a
    · rw [if_pos h2, h2]
      unfold revE
      rw [if_neg (by omega), if_pos (by omega), rev_get (by omega)]
    · rw [if_neg h2]
      unfold revE
      by_cases h3 : j < a ∨ l.length ≤ j + a
      · rw [if_pos h3, if_pos (by omega)]
      · rw [if_neg h3, if_neg (by omega)]
-- not in this seat: slices.Reverse[impl.File,impl.Spot]
end Go.Eng
