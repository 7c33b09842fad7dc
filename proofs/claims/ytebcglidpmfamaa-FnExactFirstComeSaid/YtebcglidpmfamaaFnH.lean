/- A part of the proof that the law of this seat answers true for every input, without a condition. -/
import Derived.Test.YtebcglidpmfamaaFnG
set_option linter.all false
set_option linter.unusedVariables false
set_option linter.unusedSimpArgs false
set_option pp.maxSteps 150
set_option maxRecDepth 100000
namespace Go.Eng
open Go Go.Proofs
def chainBad (l : List SpotV) (i : Nat) : Bool := decide (l.getD i ⟨0, 0⟩ ∈ l.take i) || (decide (0 < i) && decide (sideTo (l.getD (i - 1) ⟨0, 0⟩) (l.getD i ⟨0, 0⟩) < 0))
def chainV (l : List SpotV) : Bool := (List.range l.length).all (fun i => !chainBad l i) && (decide (1 ≤ l.length) && decide (l.length ≤ 12))
theorem chainV_bad {l : List SpotV} (i : Nat) (h : (i : Int) < l.length) (hb : chainBad l i = true) : false = chainV l := by
  unfold chainV
  symm
  rw [Bool.and_eq_false_iff]
  left
  rw [List.all_eq_false]
  exact ⟨i, List.mem_range.2 (by omega), by simp [hb]⟩
theorem chainV_good {l : List SpotV} {i : Nat} (h : ¬ (i : Int) < l.length) (hb : ∀ j, j < i → chainBad l j = false) : chainV l = (decide (1 ≤ (l.length : Int)) && decide ((l.length : Int) ≤ 12)) := by
  unfold chainV
  rw [List.all_eq_true.2 (fun x hx => by rw [hb x (by have := List.mem_range.1 hx; omega)]; rfl), Bool.true_and]
  congr 1 <;> (rw [Bool.eq_iff_iff]; simp; try omega)
theorem take_file {l : List SpotV} {n : Nat} {i : Nat} {g : Nat → List SV} (hi : i ≤ l.length) (hn : n = i) (hg : ∀ j, j < i → g j = fileG l j) : SLe (.rs n 2 g) (fileS (l.take i)) := by
  refine SLe.rs' (by simp; omega) (fun j hj => ?_)
  have : j < i := by simp at hj; omega
  rw [hg j this]
  simp [fileG, List.getD_eq_getElem?_getD, List.getElem?_take, this]
theorem chainBad_mem {l : List SpotV} {i : Nat} (h : l.getD (i : Int).toNat ⟨0, 0⟩ ∈ l.take i) : chainBad l i = true := by
  rw [Int.toNat_natCast] at h
  unfold chainBad; rw [decide_eq_true h]; rfl
theorem chainBad_side {l : List SpotV} {i : Nat} (h1 : (i : Int) > 0) (h2 : sideTo (l.getD ((i : Int) - 1).toNat ⟨0, 0⟩) (l.getD (i : Int).toNat ⟨0, 0⟩) < 0) : chainBad l i = true := by
  rw [Int.toNat_natCast, show ((i : Int) - 1).toNat = i - 1 by omega] at h2
  unfold chainBad; rw [decide_eq_true h2, decide_eq_true (show 0 < i by omega)]; simp
theorem chainBad_no {l : List SpotV} {i : Nat} (h : ¬ l.getD (i : Int).toNat ⟨0, 0⟩ ∈ l.take i) (h1 : (i : Int) > 0 → ¬ sideTo (l.getD ((i : Int) - 1).toNat ⟨0, 0⟩) (l.getD (i : Int).toNat ⟨0, 0⟩) < 0) : chainBad l i = false := by
  rw [Int.toNat_natCast] at h
  unfold chainBad; rw [decide_eq_false h, Bool.false_or]
  by_cases hi : 0 < i
  · have := h1 (by omega)
    rw [Int.toNat_natCast, show ((i : Int) - 1).toNat = i - 1 by omega] at this
    rw [decide_eq_false this]; simp
  · rw [decide_eq_false hi]; rfl
theorem below {P : Nat → Prop} {i : Nat} (h : ∀ j, j < i → P j) (hi : P i) : ∀ j, j < i + 1 → P j := fun j hj => by
  rcases Nat.lt_or_ge j i with hlt | hge
  · exact h j hlt
  · have : j = i := by omega
    subst this; exact hi
attribute [irreducible] chainBad
-- not in this seat: impl.size[impl.Spot]
-- not in this seat: impl.size[impl.File]
-- not in this seat: impl.unless
-- not in this seat: (impl.File).isChain
-- not in this seat: spec.l02Line
attribute [irreducible] chainV
def fileOkV (r : RoomV) (l : List SpotV) : Bool := l.all (fun p => freeV r p) && chainV l
theorem all_bad {r : RoomV} {l : List SpotV} {i : Nat} (h : (i : Int) < l.length) (hn : freeV r (l.getD (i : Int).toNat ⟨0, 0⟩) = false) : false = fileOkV r l := by
  rw [Int.toNat_natCast] at hn
  unfold fileOkV; symm
  rw [Bool.and_eq_false_iff]; left
  rw [List.all_eq_false]
  exact ⟨_, getD_mem h, by rw [hn]; simp⟩
theorem all_good {r : RoomV} {l : List SpotV} {i : Nat} (h : ¬ (i : Int) < l.length) (hn : ∀ j, j < i → freeV r (l.getD j ⟨0, 0⟩) = true) : chainV l = fileOkV r l := by
  unfold fileOkV
  rw [List.all_eq_true.2, Bool.true_and]
  intro x hx
  obtain ⟨j, hj, rfl⟩ := List.getElem_of_mem hx
  have := hn j (by omega)
  rwa [getD_lt hj] at this
-- not in this seat: spec.l02File
-- not in this seat: spec.l02Ok
theorem any_not {α : Type} (f : α → Bool) (l : List α) : (l.any fun x => !f x) = !l.all f := by
  induction l with
  | nil => rfl
  | cons x l ih => simp only [List.any_cons, List.all_cons, ih]; cases f x <;> simp
-- not in this seat: (impl.File).isFile$1
-- not in this seat: (impl.File).isFile
-- not in this seat: impl.ValidFile
attribute [irreducible] fileOkV
end Go.Eng
