/- A part of the proof that the law of this seat answers true for every input, without a condition. -/
import Derived.Test.YtebcglidpmfamaaFnK
set_option linter.all false
set_option linter.unusedVariables false
set_option linter.unusedSimpArgs false
set_option pp.maxSteps 150
set_option maxRecDepth 100000
namespace Go.Eng
open Go Go.Proofs
def isMoveV (m : Int) : Bool := decide (0 ≤ m) && decide (m ≤ 5)
-- not in this seat: impl.isMove
-- not in this seat: spec.l02Move
attribute [irreducible] isMoveV
theorem isMoveV_iff {m : Int} : isMoveV m = true ↔ 0 ≤ m ∧ m ≤ 5 := by unfold isMoveV; simp
-- not in this seat: impl.walkCode$1
theorem told_bad {l : List Int} {i : Nat} (h : (i : Int) < l.length) (hn : isMoveV (l.getD (i : Int).toNat 0) = false) : false = l.all isMoveV := by
  rw [Int.toNat_natCast] at hn
  symm; rw [List.all_eq_false]
  have h' : i < l.length := by omega
  rw [getD_lt h'] at hn
  exact ⟨_, List.getElem_mem h', by rw [hn]; simp⟩
theorem told_good {l : List Int} {i : Nat} (h : ¬ (i : Int) < l.length) (hn : ∀ j, j < i → isMoveV (l.getD j 0) = true) : true = l.all isMoveV := by
  symm; rw [List.all_eq_true]
  intro x hx
  obtain ⟨j, hj, rfl⟩ := List.getElem_of_mem hx
  have := hn j (by omega)
  rwa [getD_lt hj] at this
-- not in this seat: spec.l02Told
/-- The code of a file and moves. -/
def walkCodeV (r : RoomV) (l : List SpotV) (ms : List Int) : Int := if validV r && fileOkV r l then (if 60 < ms.length then 3 else if ms.all isMoveV then 0 else 2) else 1
section
variable {r : RoomV} {l : List SpotV} {ms : List Int}
theorem walkCodeV_bad (h : (validV r && fileOkV r l) = false) : 1 = walkCodeV r l ms := by unfold walkCodeV; rw [h]; rfl
theorem walkCodeV_long (h : (validV r && fileOkV r l) = true) (h2 : (ms.length : Int) > 60) : 3 = walkCodeV r l ms := by unfold walkCodeV; rw [h, if_pos rfl, if_pos (by omega)]
theorem walkCodeV_moves (h : (validV r && fileOkV r l) = true) (h2 : ¬ (ms.length : Int) > 60) : (if ms.all isMoveV then (0 : Int) else 2) = walkCodeV r l ms := by unfold walkCodeV; conv => rhs; rw [h, if_pos rfl, if_neg (show ¬ 60 < ms.length by omega)]
end
-- not in this seat: impl.walkCode
-- not in this seat: spec.l02Walked
theorem fileOk_len {r : RoomV} {l : List SpotV} (h : fileOkV r l = true) : 1 ≤ l.length ∧ l.length ≤ 12 := by
  unfold fileOkV chainV at h
  simp only [Bool.and_eq_true, decide_eq_true_eq] at h
  exact h.2.2
structure WalkOk (r : RoomV) (l : List SpotV) (ms : List Int) : Prop where
  valid : validV r = true
  file : fileOkV r l = true
  len : ms.length ≤ 60
  moves : ∀ i, i < ms.length → 0 ≤ ms.getD i 0 ∧ ms.getD i 0 ≤ 5
theorem walkOk_of {r : RoomV} {l : List SpotV} {ms : List Int} (h : walkCodeV r l ms = 0) : WalkOk r l ms := by
  unfold walkCodeV at h
  split at h
  · rename_i hv
    simp only [Bool.and_eq_true] at hv
    split at h
    · omega
    · split at h
      · rename_i ha
        refine ⟨hv.1, hv.2, by omega, fun i hi => ?_⟩
        rw [List.all_eq_true] at ha
        rw [getD_lt hi]
        exact isMoveV_iff.1 (ha _ (List.getElem_mem hi))
      · omega
  · omega
attribute [irreducible] walkCodeV
-- not in this seat: (impl.File).walk
-- not in this seat: spec.l02Walk
def firstBadV (r : RoomV) (l : List SpotV) (ms : List Int) : Int × Int :=
  if walkCodeV r l ms = 0 then (if (walkV r l ms).length = ms.length then (0, 6) else ((walkV r l ms).length, 0)) else (0, walkCodeV r l ms)
section
variable {r : RoomV} {l : List SpotV} {ms : List Int}
theorem firstBadV_code (h : walkCodeV r l ms ≠ 0) : SLe (.tup [i64 0, i64 (walkCodeV r l ms)]) (.tup [i64 (firstBadV r l ms).1, i64 (firstBadV r l ms).2]) := by
  unfold firstBadV; rw [if_neg h]; exact SLe.refl _
theorem firstBadV_none (h : walkCodeV r l ms = 0) (h2 : ((walkV r l ms).length : Int) = ms.length) : SLe (.tup [i64 0, i64 6]) (.tup [i64 (firstBadV r l ms).1, i64 (firstBadV r l ms).2]) := by
  unfold firstBadV; rw [if_pos h, if_pos (by omega)]; exact SLe.refl _
theorem firstBadV_some (h : walkCodeV r l ms = 0) (h2 : ¬ ((walkV r l ms).length : Int) = ms.length) : SLe (.tup [i64 (walkV r l ms).length, i64 0]) (.tup [i64 (firstBadV r l ms).1, i64 (firstBadV r l ms).2]) := by
  unfold firstBadV; rw [if_pos h, if_neg (by omega)]; exact SLe.refl _
end
-- not in this seat: impl.FirstBadMove
-- not in this seat: spec.FirstBadMove
attribute [irreducible] firstBadV
-- not in this seat: laws.FnExactFirstBadMove
end Go.Eng
