/- A part of the proof that the law of this seat answers true for every input, without a condition. -/
import Derived.Test.YtebcglidpmfamaaFnA
set_option linter.all false
set_option linter.unusedVariables false
set_option linter.unusedSimpArgs false
set_option pp.maxSteps 150
set_option maxRecDepth 100000
namespace Go.Eng
open Go Go.Proofs
def nextV (p : SpotV) (m : Int) : SpotV :=
  if m = 0 then ⟨p.x, IntKind.i8.wrap (p.y - 1)⟩ else if m = 1 then ⟨IntKind.i8.wrap (p.x + 1), p.y⟩ else if m = 2 then ⟨p.x, IntKind.i8.wrap (p.y + 1)⟩ else if m = 3 then ⟨IntKind.i8.wrap (p.x - 1), p.y⟩ else p
-- not in this seat: impl.NextSpot
-- not in this seat: spec.l01Next
theorem spec25 (a b c : Int) : Spec Try.prog 25 [i64 a, i64 b, i64 c] (bl (decide (b ≤ a) && decide (a ≤ c))) := by
  refine spec_vc trX_ok follows_ok ⟨[], [], []⟩ Try.func25 rfl rfl ?_
  repeat' ((conv => whnf); first
    | exact trivial
    | refine And.intro ⟨(by first | exact trivial | (and_intros <;> exact trivial) | (unfold inI64; omega) | omega | (simp only [and_true, true_and, inI64, Int.toNat_natCast]; omega))⟩ ?_
    | refine And.intro (SLe.refl _) ?_
    | refine And.intro (ChLe.refl _) ?_
    | refine NbP.mk (fun _ => ?_) ?_
    | refine SetP.mk ⟨_, _, _, _, _, rfl, rfl, rfl, rfl, rfl, setG_self _ _ _, rfl, ?_⟩
    | refine SetP.mk ⟨_, _, _, _, _, rfl, rfl, rfl, rfl, rfl, rfl, rfl, ?_⟩
    | refine BS.dec (fun _ => ?_) (fun _ => ?_)
    | refine BS.eq (fun _ => ?_) (fun _ => ?_)
    | refine BS.ne (fun _ => ?_) (fun _ => ?_)
    | refine BS.nt ?_
    | refine BS.an ?_
    | refine BS.or ?_
    | refine BS.mk (fun _ => ?_) (fun _ => ?_)
    | refine RegP.mk (by kernel_rfl)
    | refine EqP.mk (SLe.refl _)
    | refine EqP.b ?_
    | refine EqP.bb ?_
    | refine EqP.int ?_
    | exact (rfl : okRen _ _ _ = true)
    | exact SLe.refl _
    | exact ChLe.refl _
    | refine And.intro ?_ ?_)
  all_goals (simp_all; try omega)
theorem spec22 (a b c : Int) : Spec Try.prog 22 [i64 a, i64 b, i64 c] (bl (decide (b ≤ a) && decide (a ≤ c))) := by
  refine spec_vc trX_ok follows_ok ⟨[], [], []⟩ Try.func22 rfl rfl ?_
  repeat' ((conv => whnf); first
    | exact trivial
    | refine And.intro ⟨(by first | exact trivial | (and_intros <;> exact trivial) | (unfold inI64; omega) | omega | (simp only [and_true, true_and, inI64, Int.toNat_natCast]; omega))⟩ ?_
    | refine And.intro (SLe.refl _) ?_
    | refine And.intro (ChLe.refl _) ?_
    | refine NbP.mk (fun _ => ?_) ?_
    | refine SetP.mk ⟨_, _, _, _, _, rfl, rfl, rfl, rfl, rfl, setG_self _ _ _, rfl, ?_⟩
    | refine SetP.mk ⟨_, _, _, _, _, rfl, rfl, rfl, rfl, rfl, rfl, rfl, ?_⟩
    | refine BS.dec (fun _ => ?_) (fun _ => ?_)
    | refine BS.eq (fun _ => ?_) (fun _ => ?_)
    | refine BS.ne (fun _ => ?_) (fun _ => ?_)
    | refine BS.nt ?_
    | refine BS.an ?_
    | refine BS.or ?_
    | refine BS.mk (fun _ => ?_) (fun _ => ?_)
    | refine RegP.mk (by kernel_rfl)
    | refine EqP.mk (SLe.refl _)
    | refine EqP.b ?_
    | refine EqP.bb ?_
    | refine EqP.int ?_
    | exact (rfl : okRen _ _ _ = true)
    | exact SLe.refl _
    | exact ChLe.refl _
    | refine And.intro ?_ ?_)
  all_goals (simp_all; try omega)
structure RoomOk (r : RoomV) : Prop where
  wide : in8 r.wide
  high : in8 r.high
  wall : ∀ y, y < 10 → inU16 (r.wall y)
structure SpotOk (p : SpotV) : Prop where
  x : in8 p.x
  y : in8 p.y
/-- impl's isCell. -/
def isCellV (r : RoomV) (p : SpotV) : Bool := (decide (0 ≤ p.x) && decide (p.x ≤ (if 10 < r.wide then 10 else r.wide) - 1)) && (decide (0 ≤ p.y) && decide (p.y ≤ (if 10 < r.high then 10 else r.high) - 1))
-- not in this seat: (impl.Room).isCell
def rowBad (r : RoomV) (y : Nat) : Bool := ((r.wall y).fdiv (2 ^ (min r.wide.toNat 16)) != 0) || (decide (r.high ≤ y) && (r.wall y != 0))
def validV (r : RoomV) : Bool := (decide (1 ≤ r.wide) && decide (r.wide ≤ 10)) && (decide (1 ≤ r.high) && decide (r.high ≤ 10)) && (List.range 10).all fun y => !rowBad r y
theorem validV_bad {r : RoomV} (y : Nat) (hy : y < 10) (h : rowBad r y = true) : false = validV r := by
  symm
  simp only [validV, Bool.and_eq_false_iff]
  right
  rw [List.all_eq_false]
  exact ⟨y, List.mem_range.2 hy, by simp [h]⟩
theorem validV_good {r : RoomV} (h1 : 1 ≤ r.wide ∧ r.wide ≤ 10) (h2 : 1 ≤ r.high ∧ r.high ≤ 10) (h : ∀ y, y < 10 → rowBad r y = false) : true = validV r := by
  symm
  simp only [validV, Bool.and_eq_true, decide_eq_true_eq, List.all_eq_true, List.mem_range]
  exact ⟨⟨h1, h2⟩, fun y hy => by rw [h y hy]; rfl⟩
-- not in this seat: impl.ValidRoom
-- not in this seat: spec.l01Ok
attribute [irreducible] isCellV validV
end Go.Eng
