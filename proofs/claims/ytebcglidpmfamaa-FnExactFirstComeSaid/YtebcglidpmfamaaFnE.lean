/- A part of the proof that the law of this seat answers true for every input, without a condition. -/
import Derived.Test.YtebcglidpmfamaaFnD
set_option linter.all false
set_option linter.unusedVariables false
set_option linter.unusedSimpArgs false
set_option pp.maxSteps 150
set_option maxRecDepth 100000
namespace Go.Eng
open Go Go.Proofs
/-- The place of the first element of which a test holds, or -1. -/
def firstIdx {α : Type} (p : α → Bool) (l : List α) : Int := if l.any p then (l.findIdx p : Int) else -1
theorem getD_lt {α : Type} {l : List α} {i : Nat} {d : α} (h : i < l.length) : l.getD i d = l[i] := by
  rw [List.getD_eq_getElem?_getD, List.getElem?_eq_getElem h]; rfl
theorem firstIdx_at {α : Type} {d : α} {p : α → Bool} {l : List α} {i : Nat} (h : (i : Int) < l.length) (hn : ∀ j, j < i → p (l.getD j d) = false) (hp : p (l.getD i d) = true) : (i : Int) = firstIdx p l := by
  have h' : i < l.length := by omega
  rw [getD_lt h'] at hp
  unfold firstIdx
  rw [if_pos (List.any_eq_true.2 ⟨_, List.getElem_mem h', hp⟩)]
  rw [(List.findIdx_eq h').2 ⟨hp, fun j hj => by have := hn j hj; rwa [getD_lt (by omega)] at this⟩]
theorem firstIdx_not {α : Type} {d : α} {p : α → Bool} {l : List α} {i : Nat} (h : ¬ ((i : Int) < l.length)) (hn : ∀ j, j < i → p (l.getD j d) = false) : -1 = firstIdx p l := by
  unfold firstIdx
  rw [if_neg]
  intro ha
  obtain ⟨x, hx, hp⟩ := List.any_eq_true.1 ha
  obtain ⟨j, hj, rfl⟩ := List.getElem_of_mem hx
  have := hn j (by omega)
  rw [getD_lt hj, hp] at this
  cases this
theorem firstIdx_ge {α : Type} {p : α → Bool} {l : List α} : decide (0 ≤ firstIdx p l) = l.any p := by
  unfold firstIdx
  cases l.any p <;> simp
theorem spot_ext' {p q : SpotV} (hx : p.x = q.x) (hy : p.y = q.y) : q = p := by cases p; cases q; simp_all
-- not in this seat: slices.Index[impl.File,impl.Spot]
-- not in this seat: slices.Contains[impl.File,impl.Spot]
theorem side4 {P : Int → Prop} (h0 : P 0) (h1 : P 1) (h2 : P 2) (h3 : P 3) (i : Nat) (h : i < 4) : P i := by
  rcases i with _ | _ | _ | _ | i <;> first | assumption | omega
def sideTo (a b : SpotV) : Int := if nextV a 0 = b then 0 else if nextV a 1 = b then 1 else if nextV a 2 = b then 2 else if nextV a 3 = b then 3 else -1
theorem sideTo_at {a b : SpotV} {i : Nat} (h : (i : Int) < 4) (hn : ∀ j : Nat, j < i → nextV a j ≠ b) (hx : (nextV a i).x = b.x) (hy : (nextV a i).y = b.y) : (i : Int) = sideTo a b := by
  have e : nextV a i = b := by cases b; cases hh : nextV a i; simp_all
  have h0 : 0 < i → nextV a 0 ≠ b := hn 0; have h1 : 1 < i → nextV a 1 ≠ b := hn 1; have h2 : 2 < i → nextV a 2 ≠ b := hn 2
  unfold sideTo
  rcases i with _ | _ | _ | _ | i
  · rw [if_pos (show nextV a 0 = b from e)]; rfl
  · rw [if_neg (h0 (by omega)), if_pos (show nextV a 1 = b from e)]; rfl
  · rw [if_neg (h0 (by omega)), if_neg (h1 (by omega)), if_pos (show nextV a 2 = b from e)]; rfl
  · rw [if_neg (h0 (by omega)), if_neg (h1 (by omega)), if_neg (h2 (by omega)), if_pos (show nextV a 3 = b from e)]; rfl
  · omega
theorem sideTo_not {a b : SpotV} {i : Nat} (h : ¬ (i : Int) < 4) (hn : ∀ j : Nat, j < i → nextV a j ≠ b) : -1 = sideTo a b := by
  unfold sideTo
  rw [if_neg (show nextV a 0 ≠ b from hn 0 (by omega)), if_neg (show nextV a 1 ≠ b from hn 1 (by omega)), if_neg (show nextV a 2 ≠ b from hn 2 (by omega)), if_neg (show nextV a 3 ≠ b from hn 3 (by omega))]
-- not in this seat: impl.SideTo
-- not in this seat: spec.l01To
attribute [irreducible] sideTo
end Go.Eng
