/- A part of the proof that the law of this seat answers true for every input, without a condition. -/
import Derived.Test.YtmjmpncapodlaaaFnC
set_option linter.all false
set_option linter.unusedVariables false
set_option linter.unusedSimpArgs false
set_option pp.maxSteps 150
set_option maxRecDepth 100000
namespace Go.Eng
open Go Go.Proofs
/-- spec's l01Is. -/
def isV (r : RoomV) (p : SpotV) : Bool := (decide (0 ≤ p.x) && decide (p.x ≤ r.wide - 1)) && (decide (0 ≤ p.y) && decide (p.y ≤ r.high - 1))
theorem spec48 (r : RoomV) (p : SpotV) (hr : RoomOk r) (hp : SpotOk p) : Spec Try.prog 48 [.rp (roomC r), spotS p] (bl (isV r p)) := by
  have h1 := hr.wide
  have h2 := hr.high
  have h3 := hp.x
  have h4 := hp.y
  unfold in8 at h1 h2 h3 h4
  refine spec_vc trX_ok follows_ok ⟨[], [], []⟩ Try.func48 rfl rfl ?_
  repeat' ((conv => whnf); first
    | exact trivial
    | refine CallP.mk ⟨_, .inl ⟨rfl, (spec46 _ _ _)⟩, ?_⟩
    | refine And.intro ⟨(by first | exact trivial | (and_intros <;> exact trivial) | (unfold inI64; omega) | omega | (simp only [and_true, true_and, inI64, Int.toNat_natCast]; omega))⟩ ?_
    | refine And.intro (SLe.refl _) ?_
    | refine And.intro (ChLe.refl _) ?_
    | refine NbP.mk (fun _ => ?_) ?_
    | refine BS.dec (fun _ => ?_) (fun _ => ?_)
    | refine BS.eq (fun _ => ?_) (fun _ => ?_)
    | refine BS.ne (fun _ => ?_) (fun _ => ?_)
    | refine BS.nt ?_
    | refine BS.an ?_
    | refine BS.or ?_
    | refine BS.mk (fun _ => ?_) (fun _ => ?_)
    | refine RegP.mk (by kernel_rfl)
    | refine EqP.mk (SLe.refl _)
    | refine EqP.b ?_
    | refine EqP.bb ?_
    | refine EqP.int ?_
    | exact (rfl : okRen _ _ _ = true)
    | exact SLe.refl _
    | exact ChLe.refl _
    | refine And.intro ?_ ?_)
  all_goals (simp_all [isV]; try omega)
attribute [irreducible] isV
end Go.Eng
