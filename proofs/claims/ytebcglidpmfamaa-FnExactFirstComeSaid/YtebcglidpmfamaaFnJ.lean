/- A part of the proof that the law of this seat answers true for every input, without a condition. -/
import Derived.Test.YtebcglidpmfamaaFnI
set_option linter.all false
set_option linter.unusedVariables false
set_option linter.unusedSimpArgs false
set_option pp.maxSteps 150
set_option maxRecDepth 100000
namespace Go.Eng
open Go Go.Proofs
/-- The file behind a move. -/
def movedV (l : List SpotV) (m : Int) : List SpotV := if m = 4 then l.reverse else if m < 4 then nextV (l.getD 0 ⟨0, 0⟩) m :: l.dropLast else l
theorem movedV_len {l : List SpotV} {m : Int} (h : 1 ≤ l.length) : (movedV l m).length = l.length := by
  unfold movedV; split
  · simp
  · split
    · simp; omega
    · rfl
theorem movedV_go {l : List SpotV} {m : Int} (h : 1 ≤ l.length) (h4 : ¬ m = 4) (hm : m < 4) (v : List SV) (hv : v = spotC (nextV (l.getD (Int.toNat 0) ⟨0, 0⟩) m)) {n : Nat} (hn : n = l.length - 1) {j : Nat} (hj : j < l.length) :
    setG (copyG (fileG l) (Int.toNat 1) n (fileG l)) (0 + Int.toNat 0) v j = fileG (movedV l m) j := by
  subst hv; subst hn
  unfold movedV
  rw [if_neg h4, if_pos hm, setG_eq]
  by_cases h0 : j = 0
  · subst h0; simp [fileG]
  · rw [if_neg (by simpa using h0), copyG_eq, if_pos (by simp; omega)]
    obtain ⟨j, rfl⟩ : ∃ i, j = i + 1 := ⟨j - 1, by omega⟩
    unfold fileG
    rw [getD_lt (by simp; omega), getD_lt (by simp; omega)]
    simp
theorem movedV_turn {l : List SpotV} {m : Int} (h4 : m = 4) (j : Nat) : spotC (l.reverse.getD j ⟨0, 0⟩) = fileG (movedV l m) j := by
  unfold movedV; rw [if_pos h4]; rfl
theorem movedV_wait {l : List SpotV} {m : Int} (h4 : ¬ m = 4) (hm : ¬ m < 4) (j : Nat) : fileG l j = fileG (movedV l m) j := by
  unfold movedV; rw [if_neg h4, if_neg hm]
theorem min_one {n : Nat} : n.min ((n : Int).toNat - Int.toNat 1) = n - 1 := by
  rw [Int.toNat_natCast]; exact Nat.min_eq_right (by show n - 1 ≤ n; omega)
-- not in this seat: (impl.File).moved
theorem file_le {l m : List SpotV} {n : Nat} {g : Nat → List SV} (hn : n = m.length) (hg : ∀ j, j < m.length → g j = fileG m j) : SLe (.rs n 2 g) (fileS m) := SLe.rs' hn hg
-- not in this seat: (impl.File).moved
/-- One element more, at the end of what has been taken. -/
theorem take_cat {l : List SpotV} {i : Nat} {g : Nat → List SV} (hi : i < l.length) (hg : g 0 = spotC (l.getD i ⟨0, 0⟩)) {j : Nat} (hj : j < i + 1) : catG (fileG (l.take i)) i g j = fileG (l.take (i + 1)) j := by
  rw [catG_eq]
  by_cases h : j < i
  · rw [if_pos h]; simp [fileG, List.getD_eq_getElem?_getD, List.getElem?_take, h, show j < i + 1 by omega]
  · have : j = i := by omega
    subst this
    rw [if_neg h, Nat.sub_self, hg]
    simp [fileG, List.getD_eq_getElem?_getD, List.getElem?_take]
theorem made_go {l : List SpotV} {m : Int} (h : 1 ≤ l.length) (h4 : ¬ m = 4) (hm : m < 4) {f g g' : Nat → List SV} (hf : g 0 = spotC (nextV (l.getD (Int.toNat 0) ⟨0, 0⟩) m)) (hg : ∀ j, g' j = fileG l j) {j : Nat} (hj : j < l.length) : catG (catG f 0 g) 1 g' j = fileG (movedV l m) j := by
  unfold movedV
  rw [if_neg h4, if_pos hm, catG_eq]
  by_cases h0 : j < 1
  · rw [if_pos h0, catG_zero]
    have : j = 0 := by omega
    subst this
    rw [hf]; rfl
  · rw [if_neg h0]
    obtain ⟨j, rfl⟩ : ∃ i, j = i + 1 := ⟨j - 1, by omega⟩
    rw [Nat.add_sub_cancel, hg]
    unfold fileG
    rw [getD_lt (by omega), getD_lt (by simp; omega)]
    simp
theorem rev_at {l : List SpotV} {i : Nat} (h : (0 : Int) ≤ (l.length : Int) - 1 - i) : l.getD ((l.length : Int) - 1 - i).toNat ⟨0, 0⟩ = l.reverse.getD i ⟨0, 0⟩ := by
  rw [rev_get (by omega), show ((l.length : Int) - 1 - i).toNat = l.length - 1 - i by omega]
-- not in this seat: spec.l02Made
-- not in this seat: spec.l02Made
end Go.Eng
