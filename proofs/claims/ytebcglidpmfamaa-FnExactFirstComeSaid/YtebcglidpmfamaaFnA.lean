/- A part of the proof that the law of this seat answers true for every input, without a condition. -/
import Derived.Test.YtebcglidpmfamaaEngU
set_option linter.all false
set_option linter.unusedVariables false
set_option linter.unusedSimpArgs false
set_option pp.maxSteps 150
set_option maxRecDepth 100000
namespace Go.Eng
open Go Go.Proofs
theorem follows_ok : Try.prog.follows .mixedOrders = true := rfl
structure SpotV where
  x : Int
  y : Int
structure RoomV where
  wide : Int
  high : Int
  wall : Nat → Int
def spotC (p : SpotV) : List SV := [i8 p.x, i8 p.y]
def spotS (p : SpotV) : SV := .agg (spotC p)
def fileG (l : List SpotV) : Nat → List SV := fun j => spotC (l.getD j ⟨0, 0⟩)
def fileS (l : List SpotV) : SV := .rs l.length 2 (fileG l)
def intG (l : List Int) : Nat → List SV := fun j => [i64 (l.getD j 0)]
def intS (l : List Int) : SV := .rs l.length 1 (intG l)
def roomC (r : RoomV) : List SV := [i8 r.wide, i8 r.high, .arr 10 1 (fun y => [u16 (r.wall y)])]
def roomS (r : RoomV) : SV := .agg (roomC r)
theorem take_step {α : Type} {l : List α} {i : Nat} {d : α} (hi : i < l.length) (j : Nat) : (if j = i then l.getD i d else (l.take i).getD j d) = (l.take (i + 1)).getD j d := by
  simp only [List.getD_eq_getElem?_getD, List.getElem?_take]
  by_cases h : j = i
  · subst h; simp
  · rw [if_neg h]
    by_cases h1 : j < i
    · simp [h1, show j < i + 1 by omega]
    · simp [h1, show ¬ j < i + 1 by omega]
theorem setG_step {α : Type} {l : List α} {i : Nat} {d : α} {enc : α → List SV} (hi : i < l.length) (j : Nat) : setG (fun j => enc ((l.take i).getD j d)) i (enc (l.getD i d)) j = enc ((l.take (i + 1)).getD j d) := by
  rw [← take_step hi]
  unfold setG
  rw [nbeq]
  by_cases h : j = i <;> simp [h]
theorem fileG_step {l : List SpotV} {i k : Nat} {v : List SV} (hi : i < l.length) (hk : k = i) (hv : v = spotC (l.getD i ⟨0, 0⟩)) (j : Nat) : setG (fileG (l.take i)) k v j = fileG (l.take (i + 1)) j := by
  subst hk; subst hv; exact setG_step hi j
theorem intG_step {l : List Int} {i k : Nat} {v : List SV} (hi : i < l.length) (hk : k = i) (hv : v = [i64 (l.getD i 0)]) (j : Nat) : setG (intG (l.take i)) k v j = intG (l.take (i + 1)) j := by
  subst hk; subst hv; exact setG_step (enc := fun n => [i64 n]) hi j
-- not in this seat: laws.toSpot
-- not in this seat: laws.toFile
-- not in this seat: laws.toInt64S
theorem eq_of_getD {α : Type} {d : α} {l m : List α} (h : l.length = m.length) (k : ∀ j, j < l.length → l.getD j d = m.getD j d) : l = m := by
  apply List.ext_getElem h
  intro j h1 h2
  have := k j h1
  rw [List.getD_eq_getElem?_getD, List.getD_eq_getElem?_getD, List.getElem?_eq_getElem h1, List.getElem?_eq_getElem h2] at this
  simpa using this
theorem dec_len {α : Type} {l m : List α} {d : Decidable (l = m)} (h : ¬ ((l.length : Int) = m.length)) : false = @decide (l = m) d := by
  symm; rw [decide_eq_false_iff_not]; intro e; subst e; exact h rfl
theorem dec_at {α : Type} {d : α} {l m : List α} {dd : Decidable (l = m)} (j : Nat) (h : l.getD j d ≠ m.getD j d) : false = @decide (l = m) dd := by
  symm; rw [decide_eq_false_iff_not]; intro e; subst e; exact h rfl
theorem dec_all {α : Type} {d : α} {l m : List α} {dd : Decidable (l = m)} (h : (l.length : Int) = m.length) {i : Nat} (hi : i ≤ l.length) (hn : ¬ ((i : Int) < l.length)) (k : ∀ j, j < i → l.getD j d = m.getD j d) : true = @decide (l = m) dd := by
  symm; rw [decide_eq_true_iff]
  exact eq_of_getD (by omega) (fun j hj => k j (by omega))
deriving instance DecidableEq for SpotV
-- not in this seat: laws.eqSpot
theorem spec8 (l m : List Int) (hl : l.length ≤ 1048576) (hm : m.length ≤ 1048576) : Spec Try.prog 8 [intS l, intS m] (bl (decide (l = m))) := by
  refine spec_vc trX_ok follows_ok ⟨[], [], []⟩ Try.func8 rfl rfl ?_
  repeat' ((conv => whnf); first
    | exact trivial
    | refine EqP.b (dec_len (by assumption))
    | refine And.intro ⟨(by first | exact trivial | (and_intros <;> exact trivial) | (unfold inI64; omega) | omega | (simp only [and_true, true_and, inI64, Int.toNat_natCast]; omega))⟩ ?_
    | refine And.intro (SLe.refl _) ?_
    | refine And.intro (ChLe.refl _) ?_
    | refine NbP.mk (fun _ => ?_) ?_
    | refine SetP.mk ⟨_, _, _, _, _, rfl, rfl, rfl, rfl, rfl, setG_self _ _ _, rfl, ?_⟩
    | refine SetP.mk ⟨_, _, _, _, _, rfl, rfl, rfl, rfl, rfl, rfl, rfl, ?_⟩
    | refine BS.dec (fun _ => ?_) (fun _ => ?_)
    | refine BS.eq (fun _ => ?_) (fun _ => ?_)
    | refine BS.ne (fun _ => ?_) (fun _ => ?_)
    | refine BS.nt ?_
    | refine BS.an ?_
    | refine BS.or ?_
    | refine BS.mk (fun _ => ?_) (fun _ => ?_)
    | refine RegP.mk (by kernel_rfl)
    | refine EqP.mk (SLe.refl _)
    | refine EqP.b ?_
    | refine EqP.bb ?_
    | refine EqP.int ?_
    | exact (rfl : okRen _ _ _ = true)
    | exact SLe.refl _
    | exact ChLe.refl _
    | refine And.intro ?_ ?_)
  conv => whnf
  refine LoopP.intro (α := Nat) (fun i => [(5, i64 i)]) (fun i => []) (fun i => i ≤ l.length ∧ ∀ j, j < i → l.getD j 0 = m.getD j 0) (fun i => l.length - i) 0 ?_ ?_ ⟨by omega, fun j hj => by omega⟩ (fun i hi => ?_)
  rotate_left 2
  have hi1 : i ≤ l.length := hi.1
  have hi2 : ∀ j, j < i → l.getD j 0 = m.getD j 0 := hi.2
  repeat' ((conv => whnf); first
    | exact trivial
    | refine EqP.b (dec_at (d := 0) i (by assumption))
    | refine EqP.b (dec_all (d := 0) (by assumption) hi1 (by assumption) hi2)
    | refine BackP.intro [] (i + 1) rfl ?_ ?_ ⟨by omega, fun j hj => (by rcases Nat.lt_or_ge j i with hlt | hge; exact hi2 j hlt; (have : j = i := by omega); subst this; assumption)⟩ (by omega)
    | refine And.intro ⟨(by first | exact trivial | (and_intros <;> exact trivial) | (unfold inI64; omega) | omega | (simp only [and_true, true_and, inI64, Int.toNat_natCast]; omega))⟩ ?_
    | refine And.intro (SLe.refl _) ?_
    | refine And.intro (ChLe.refl _) ?_
    | refine NbP.mk (fun _ => ?_) ?_
    | refine SetP.mk ⟨_, _, _, _, _, rfl, rfl, rfl, rfl, rfl, setG_self _ _ _, rfl, ?_⟩
    | refine SetP.mk ⟨_, _, _, _, _, rfl, rfl, rfl, rfl, rfl, rfl, rfl, ?_⟩
    | refine BS.dec (fun _ => ?_) (fun _ => ?_)
    | refine BS.eq (fun _ => ?_) (fun _ => ?_)
    | refine BS.ne (fun _ => ?_) (fun _ => ?_)
    | refine BS.nt ?_
    | refine BS.an ?_
    | refine BS.or ?_
    | refine BS.mk (fun _ => ?_) (fun _ => ?_)
    | refine RegP.mk (by kernel_rfl)
    | refine EqP.mk (SLe.refl _)
    | refine EqP.b ?_
    | refine EqP.bb ?_
    | refine EqP.int ?_
    | exact (rfl : okRen _ _ _ = true)
    | exact SLe.refl _
    | exact ChLe.refl _
    | refine And.intro ?_ ?_)
  all_goals trace_state
-- not in this seat: laws.eqFile
-- not in this seat: laws.szFile
-- not in this seat: laws.toUint16A10
-- not in this seat: laws.toRoom
end Go.Eng
