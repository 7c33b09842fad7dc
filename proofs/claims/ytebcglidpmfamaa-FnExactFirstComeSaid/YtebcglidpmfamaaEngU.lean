/- A part of the proof that the law of this seat answers true for every input, without a condition. -/
import Derived.Test.YtebcglidpmfamaaEngT
set_option linter.all false
set_option linter.unusedVariables false
namespace Go.Eng
open Go
theorem EqP.b {p q : Bool} (h : p = q) : EqP (.b p) (.v (.bool q)) := ⟨h ▸ SLe.bool' p⟩
theorem EqP.bb {p q : Bool} (h : p = q) : EqP (.v (.bool p)) (.v (.bool q)) := ⟨h ▸ SLe.refl _⟩
theorem EqP.int {k : IntKind} {m n : Int} (h : m = n) : EqP (.v (.int k m)) (.v (.int k n)) := ⟨h ▸ SLe.refl _⟩
theorem EqP.eq {x y : SV} (h : x = y) : EqP x y := ⟨h ▸ SLe.refl _⟩
theorem SLe.b {p q : Bool} (h : p = q) : SLe (.b p) (.v (.bool q)) := h ▸ SLe.bool' p
theorem SLe.int {k : IntKind} {m n : Int} (h : m = n) : SLe (.v (.int k m)) (.v (.int k n)) := h ▸ SLe.refl _
theorem BS.dec {c : Prop} {d : Decidable c} {F : Bool → Prop} (t : c → F true) (f : ¬ c → F false) : BS (@decide c d) F := ⟨fun h => t (of_decide_eq_true h), fun h => f (of_decide_eq_false h)⟩
theorem BS.nt {p : Bool} {F : Bool → Prop} (t : BS p fun b => F (!b)) : BS (!p) F := ⟨fun h => (by have := t.out; rwa [h] at this), fun h => (by have := t.out; rwa [h] at this)⟩
theorem BS.eq {a b : Int} {F : Bool → Prop} (t : a = b → F true) (f : a ≠ b → F false) : BS (a == b) F := ⟨fun h => t (by simpa using h), fun h => f (by simpa using h)⟩
theorem BS.ne {a b : Int} {F : Bool → Prop} (t : a ≠ b → F true) (f : a = b → F false) : BS (a != b) F := ⟨fun h => t (by simpa using h), fun h => f (by simpa using h)⟩
theorem BS.an {p q : Bool} {F : Bool → Prop} (t : BS p fun b => match b with
    | true => BS q F
    | false => F false) : BS (p && q) F := by
  have := t.out
  cases p with
  | true => simpa using (show BS q F from this)
  | false => exact ⟨fun h => (by cases h), fun _ => this⟩
theorem BS.or {p q : Bool} {F : Bool → Prop} (t : BS p fun b => match b with
    | true => F true
    | false => BS q F) : BS (p || q) F := by
  have := t.out
  cases p with
  | false => simpa using (show BS q F from this)
  | true => exact ⟨fun _ => this, fun h => (by cases h)⟩
theorem BS.imp {p : Bool} {Q : Prop} {F : Bool → Prop} (h : p = true → Q) (t : p = true → Q → F true) (f : p = false → F false) : BS p F := ⟨fun e => t e (h e), f⟩
theorem SLe.rs' {n m sz : Nat} {f g : Nat → List SV} (hn : n = m) (h : ∀ j, j < m → f j = g j) : SLe (.rs n sz f) (.rs m sz g) := by
  subst hn; exact SLe.rs h
theorem SLe.mr' {i lo n m sz : Nat} (hn : n = m) : SLe (.mr i lo n sz) (.mr i lo m sz) := by
  subst hn; exact SLe.refl _
theorem ChLe.row' {n m sz : Nat} {e : TypeId} {f g : Nat → List SV} (hn : n = m) (h : ∀ j, j < m → f j = g j) : ChLe (.row n sz e f) (.row m sz e g) := by
  subst hn; exact ChLe.row h
theorem catG_zero (f g : Nat → List SV) (j : Nat) : catG f 0 g j = g j := by
  unfold catG
  have : Nat.blt j 0 = false := by cases hb : Nat.blt j 0 with
    | false => rfl
    | true => rw [Nat.blt_eq] at hb; omega
  simp only [this]; rfl
theorem nbeq (j i : Nat) : Nat.beq j i = decide (j = i) := by
  cases hb : Nat.beq j i with
  | false => simp; intro e; subst e; simp at hb
  | true => simp [Nat.eq_of_beq_eq_true hb]
theorem nblt (j i : Nat) : Nat.blt j i = decide (j < i) := by
  cases hb : Nat.blt j i with
  | false => symm; rw [decide_eq_false_iff_not, ← Nat.blt_eq, hb]; simp
  | true => symm; rw [decide_eq_true_iff, ← Nat.blt_eq]; exact hb
def i64 (n : Int) : SV := .v (.int .i64 n)
def i8 (n : Int) : SV := .v (.int .i8 n)
def u16 (n : Int) : SV := .v (.int .u16 n)
def bl (p : Bool) : SV := .v (.bool p)
def in8 (n : Int) : Prop := -128 ≤ n ∧ n ≤ 127
def inU16 (n : Int) : Prop := 0 ≤ n ∧ n ≤ 65535
theorem catG_eq (f g : Nat → List SV) (n j : Nat) : catG f n g j = if j < n then f j else g (j - n) := by
  unfold catG
  rw [nblt]
  by_cases h : j < n <;> simp [h]
theorem setG_eq (f : Nat → List SV) (k : Nat) (r : List SV) (j : Nat) : setG f k r j = if j = k then r else f j := by
  unfold setG
  rw [nbeq]
  by_cases h : j = k <;> simp [h]
end Go.Eng
