/- A part of the proof that the law of this seat answers true for every input, without a condition. -/
import Derived.Test.YtebcglidpmfamaaFnJ
set_option linter.all false
set_option linter.unusedVariables false
set_option linter.unusedSimpArgs false
set_option pp.maxSteps 150
set_option maxRecDepth 100000
namespace Go.Eng
open Go Go.Proofs
theorem wrap_i8 (n : Int) : IntKind.i8.wrap n = if n % 256 ≥ 128 then n % 256 - 256 else n % 256 := by
  unfold IntKind.wrap
  simp [IntKind.bits, IntKind.signed]
theorem in8_wrap (n : Int) : in8 (IntKind.i8.wrap n) := by
  rw [wrap_i8]; unfold in8; split <;> omega
theorem nextV_ok {p : SpotV} (h : SpotOk p) (m : Int) : SpotOk (nextV p m) := by
  unfold nextV
  split
  · exact ⟨h.x, in8_wrap _⟩
  · split
    · exact ⟨in8_wrap _, h.y⟩
    · split
      · exact ⟨h.x, in8_wrap _⟩
      · split
        · exact ⟨in8_wrap _, h.y⟩
        · exact h
theorem nextV_ne {p : SpotV} (h : SpotOk p) {m : Int} (h0 : 0 ≤ m) (h3 : m < 4) : nextV p m ≠ p := by
  have hx := h.x
  have hy := h.y
  unfold in8 at hx hy
  obtain ⟨x, y⟩ := p
  have key : ∀ n : Int, IntKind.i8.wrap (n + 1) ≠ n ∧ IntKind.i8.wrap (n - 1) ≠ n := fun n => by
    rw [wrap_i8, wrap_i8]
    constructor <;> (split <;> omega)
  unfold nextV
  rcases (show m = 0 ∨ m = 1 ∨ m = 2 ∨ m = 3 by omega) with rfl | rfl | rfl | rfl
  · intro e; simp at e; exact (key y).2 e
  · intro e; simp at e; exact (key x).1 e
  · intro e; simp at e; exact (key y).1 e
  · intro e; simp at e; exact (key x).2 e
theorem getD_ok {l : List SpotV} (hp : ∀ p ∈ l, SpotOk p) (j : Nat) : SpotOk (l.getD j ⟨0, 0⟩) := by
  by_cases h : j < l.length
  · exact hp _ (getD_mem (by omega))
  · rw [List.getD_eq_getElem?_getD, List.getElem?_eq_none (by omega)]
    exact ⟨⟨by decide, by decide⟩, ⟨by decide, by decide⟩⟩
theorem movedV_ok {l : List SpotV} (hp : ∀ p ∈ l, SpotOk p) (m : Int) : ∀ p ∈ movedV l m, SpotOk p := by
  unfold movedV
  intro p h
  split at h
  · exact hp p (by simpa using h)
  · split at h
    · rcases List.mem_cons.1 h with rfl | h
      · exact nextV_ok (getD_ok hp 0) m
      · exact hp p ((List.dropLast_sublist l).subset h)
    · exact hp p h
attribute [local irreducible] nextV movedV
/-- Whether a move can be made. -/
def canV (r : RoomV) (l : List SpotV) (m : Int) : Bool :=
  decide (4 ≤ m) || (freeV r (nextV (l.getD 0 ⟨0, 0⟩) m) && !decide (nextV (l.getD 0 ⟨0, 0⟩) m ∈ l.take (l.length - 1)) && (decide (l.length ≠ 2) || decide (l.getD (l.length - 1) ⟨0, 0⟩ ≠ nextV (l.getD 0 ⟨0, 0⟩) m)))
section
variable {r : RoomV} {l : List SpotV} {m : Int}
theorem canV_ge (h : m ≥ 4) : true = canV r l m := by unfold canV; rw [decide_eq_true (show 4 ≤ m from h)]; rfl
theorem canV_free (h : ¬ m ≥ 4) (hf : freeV r (nextV (l.getD (Int.toNat 0) ⟨0, 0⟩) m) = false) : false = canV r l m := by
  unfold canV
  rw [show freeV r (nextV (l.getD 0 ⟨0, 0⟩) m) = false from hf, decide_eq_false (show ¬ 4 ≤ m by omega)]; rfl
theorem canV_mem (h : ¬ m ≥ 4) (hf : nextV (l.getD (Int.toNat 0) ⟨0, 0⟩) m ∈ l.take (l.length - 1)) : false = canV r l m := by
  unfold canV
  rw [decide_eq_true (show nextV (l.getD 0 ⟨0, 0⟩) m ∈ l.take (l.length - 1) from hf), decide_eq_false (show ¬ 4 ≤ m by omega)]; simp
theorem canV_last (h : ¬ m ≥ 4) (h1 : freeV r (nextV (l.getD (Int.toNat 0) ⟨0, 0⟩) m) = true) (h2 : ¬ nextV (l.getD (Int.toNat 0) ⟨0, 0⟩) m ∈ l.take (l.length - 1)) :
    (decide (l.length ≠ 2) || decide (l.getD (l.length - 1) ⟨0, 0⟩ ≠ nextV (l.getD 0 ⟨0, 0⟩) m)) = canV r l m := by
  unfold canV
  rw [show freeV r (nextV (l.getD 0 ⟨0, 0⟩) m) = true from h1, decide_eq_false (show ¬ 4 ≤ m by omega), decide_eq_false (show ¬ nextV (l.getD 0 ⟨0, 0⟩) m ∈ l.take (l.length - 1) from h2)]; simp
theorem canV_long (h : ¬ m ≥ 4) (h1 : freeV r (nextV (l.getD (Int.toNat 0) ⟨0, 0⟩) m) = true) (h2 : ¬ nextV (l.getD (Int.toNat 0) ⟨0, 0⟩) m ∈ l.take (l.length - 1)) (h3 : ¬ (l.length : Int) = 2) : true = canV r l m := by
  rw [← canV_last h h1 h2, decide_eq_true (show l.length ≠ 2 by omega)]; rfl
theorem canV_two (h : ¬ m ≥ 4) (h1 : freeV r (nextV (l.getD (Int.toNat 0) ⟨0, 0⟩) m) = true) (h2 : ¬ nextV (l.getD (Int.toNat 0) ⟨0, 0⟩) m ∈ l.take (l.length - 1)) (h3 : (l.length : Int) = 2) {p : SpotV} (hp : p = l.getD (l.length - 1) ⟨0, 0⟩) :
    (!(p.x == (nextV (l.getD (Int.toNat 0) ⟨0, 0⟩) m).x && p.y == (nextV (l.getD (Int.toNat 0) ⟨0, 0⟩) m).y)) = canV r l m := by
  rw [← canV_last h h1 h2, ← hp, decide_eq_false (show ¬ l.length ≠ 2 by omega), Bool.false_or, Int.toNat_zero]
  generalize nextV (l.getD 0 ⟨0, 0⟩) m = q
  obtain ⟨x, y⟩ := p
  obtain ⟨z, t⟩ := q
  rw [Bool.eq_iff_iff]
  simp
end
-- not in this seat: spec.l02Can
section
variable {r : RoomV} {l : List SpotV} {m : Int}
theorem canI_long (h : ¬ m ≥ 4) (h1 : freeV r (nextV (l.getD (Int.toNat 0) ⟨0, 0⟩) m) = true) (h2 : ¬ nextV (l.getD (Int.toNat 0) ⟨0, 0⟩) m ∈ l.take (l.length - 1)) (h3 : (l.length : Int) > 2) : true = canV r l m := canV_long h h1 h2 (by omega)
theorem canI_short (hp : ∀ p ∈ l, SpotOk p) (h0 : 0 ≤ m) (hlen : 1 ≤ l.length) (h : ¬ m ≥ 4) (h1 : freeV r (nextV (l.getD (Int.toNat 0) ⟨0, 0⟩) m) = true) (h2 : ¬ nextV (l.getD (Int.toNat 0) ⟨0, 0⟩) m ∈ l.take (l.length - 1)) (h3 : ¬ (l.length : Int) > 2) {p : SpotV} (hpp : p = l.getD (l.length - 1) ⟨0, 0⟩) :
    (!((nextV (l.getD (Int.toNat 0) ⟨0, 0⟩) m).x == p.x && (nextV (l.getD (Int.toNat 0) ⟨0, 0⟩) m).y == p.y)) = canV r l m := by
  by_cases h4 : l.length = 2
  · rw [← canV_two h h1 h2 (by omega) hpp]
    congr 1
    generalize nextV (l.getD (Int.toNat 0) ⟨0, 0⟩) m = q
    rw [Bool.eq_iff_iff]; simp only [Bool.and_eq_true, beq_iff_eq]
    constructor <;> (rintro ⟨a, b⟩; exact ⟨a.symm, b.symm⟩)
  · rw [← canV_last h h1 h2, decide_eq_true h4, Bool.true_or]
    have hone : l.length = 1 := by omega
    subst hpp
    rw [hone, show 1 - 1 = 0 from rfl, Int.toNat_zero]
    have hne := nextV_ne (getD_ok hp 0) h0 (by omega : m < 4)
    generalize nextV (l.getD 0 ⟨0, 0⟩) m = q at *
    generalize l.getD 0 ⟨0, 0⟩ = p at *
    obtain ⟨x, y⟩ := p
    obtain ⟨z, t⟩ := q
    simp at hne ⊢
    by_cases hz : z = x
    · exact .inr (hne hz)
    · exact .inl hz
end
-- not in this seat: (impl.File).can
/-- The files behind moves, up to the first one that cannot be made. -/
def walkV (r : RoomV) : List SpotV → List Int → List (List SpotV)
  | _, [] => []
  | l, m :: ms => if canV r l m then movedV l m :: walkV r (movedV l m) ms else []
def filesG (ll : List (List SpotV)) : Nat → List SV := fun j => [fileS (ll.getD j [])]
def filesS (ll : List (List SpotV)) : SV := .rs ll.length 1 (filesG ll)
theorem walkV_stop {r : RoomV} {f : List SpotV} {ms : List Int} {i : Nat} (h : (i : Int) < ms.length) (hc : canV r f (ms.getD (i : Int).toNat 0) = false) : walkV r f (ms.drop i) = [] := by
  rw [Int.toNat_natCast, getD_lt (by omega)] at hc
  rw [List.drop_eq_getElem_cons (by omega)]
  unfold walkV; rw [hc]; rfl
theorem walkV_end {r : RoomV} {f : List SpotV} {ms : List Int} {i : Nat} (h : ¬ (i : Int) < ms.length) : walkV r f (ms.drop i) = [] := by
  rw [List.drop_eq_nil_of_le (by omega)]
  unfold walkV; rfl
theorem walkV_go {r : RoomV} {f : List SpotV} {ms : List Int} {i : Nat} (h : (i : Int) < ms.length) (hc : canV r f (ms.getD (i : Int).toNat 0) = true) : walkV r f (ms.drop i) = movedV f (ms.getD (i : Int).toNat 0) :: walkV r (movedV f (ms.getD (i : Int).toNat 0)) (ms.drop (i + 1)) := by
  rw [Int.toNat_natCast, getD_lt (by omega)] at *
  rw [List.drop_eq_getElem_cons (by omega)]
  rw [walkV, if_pos hc]
attribute [irreducible] canV walkV
/-- What a walk has come to. -/
structure WalkI (r : RoomV) (l : List SpotV) (ms : List Int) (i : Nat) (f : List SpotV) (out : List (List SpotV)) : Prop where
  le : i ≤ ms.length
  len : out.length = i
  ok : ∀ p ∈ f, SpotOk p
  flen : f.length = l.length
  eq : out ++ walkV r f (ms.drop i) = walkV r l ms
theorem WalkI.step {r : RoomV} {l : List SpotV} {ms : List Int} {i : Nat} {f : List SpotV} {out : List (List SpotV)} (hi : WalkI r l ms i f out) (hl : 1 ≤ l.length) (h : (i : Int) < ms.length) (hc : canV r f (ms.getD (i : Int).toNat 0) = true) :
    WalkI r l ms (i + 1) (movedV f (ms.getD (i : Int).toNat 0)) (out ++ [movedV f (ms.getD (i : Int).toNat 0)]) :=
  ⟨by omega, by simp [hi.len], movedV_ok hi.ok _, by rw [movedV_len (by rw [hi.flen]; exact hl), hi.flen], by rw [← hi.eq, walkV_go h hc]; simp⟩
theorem filesG_snoc {out : List (List SpotV)} {i : Nat} (hi : out.length = i) (f : List SpotV) {g : Nat → List SV} (hg : g 0 = [fileS f]) {j : Nat} (hj : j < i + 1) : catG (filesG out) i g j = filesG (out ++ [f]) j := by
  subst hi
  rw [catG_eq]
  unfold filesG
  by_cases h : j < out.length
  · rw [if_pos h]; simp [List.getD_eq_getElem?_getD, List.getElem?_append_left h]
  · have : j = out.length := by omega
    subst this
    rw [if_neg h, Nat.sub_self, hg]; simp
-- not in this seat: impl.File
-- not in this seat: spec.l02Walk
-- not in this seat: (impl.File).walk
end Go.Eng
