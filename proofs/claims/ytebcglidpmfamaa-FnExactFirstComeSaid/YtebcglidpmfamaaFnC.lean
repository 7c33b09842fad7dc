/- A part of the proof that the law of this seat answers true for every input, without a condition. -/
import Derived.Test.YtebcglidpmfamaaFnB
import Derived.Test.YtebcglidpmfamaaEngV
set_option linter.all false
set_option linter.unusedVariables false
set_option linter.unusedSimpArgs false
set_option pp.maxSteps 150
set_option maxRecDepth 100000
namespace Go.Eng
open Go Go.Proofs
theorem getD_mem {l : List SpotV} {i : Nat} (h : (i : Int) < l.length) : l.getD i ⟨0, 0⟩ ∈ l := by
  have h : i < l.length := by omega
  rw [List.getD_eq_getElem?_getD, List.getElem?_eq_getElem h]
  exact List.getElem_mem h
theorem has_at {l : List SpotV} {i : Nat} {p : SpotV} (h : (i : Int) < l.length) (hx : (l.getD i ⟨0, 0⟩).x = p.x) (hy : (l.getD i ⟨0, 0⟩).y = p.y) : true = decide (p ∈ l) := by
  symm; rw [decide_eq_true_iff]
  have := getD_mem h
  have e : l.getD i ⟨0, 0⟩ = p := by cases p; cases hh : l.getD i ⟨0, 0⟩; simp_all
  rw [e] at this; exact this
theorem has_not {l : List SpotV} {i : Nat} {p : SpotV} (h : ¬ ((i : Int) < l.length)) (hn : ∀ j, j < i → l.getD j ⟨0, 0⟩ ≠ p) : false = decide (p ∈ l) := by
  symm; rw [decide_eq_false_iff_not]
  intro hm
  obtain ⟨j, hj, e⟩ := List.getElem_of_mem hm
  refine hn j (by omega) ?_
  rw [List.getD_eq_getElem?_getD, List.getElem?_eq_getElem hj]; exact e
-- not in this seat: spec.l01Has
end Go.Eng
