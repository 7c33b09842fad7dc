/- A part of the proof that the law of this seat answers true for every input, without a condition. -/
import Derived.Test.YtmjmpncapodlaaaFnE
set_option linter.all false
set_option linter.unusedVariables false
set_option linter.unusedSimpArgs false
set_option pp.maxSteps 150
set_option maxRecDepth 100000
namespace Go.Eng
open Go Go.Proofs
theorem spec57 (l : List SpotV) (g : FuncId) (cap : List SV) (p : SpotV → Bool) (hc : closedL cap = true) (hg : ∀ i, i < l.length → Spec Try.prog g (spotS (l.getD i ⟨0, 0⟩) :: cap) (bl (p (l.getD i ⟨0, 0⟩)))) (hl : (l.length : Int) ≤ 9223372036854775807) :
    Spec Try.prog 57 [fileS l, .fn (.func g) [] cap] (i64 (firstIdx p l)) := by
  refine spec_vc trX_ok follows_ok ⟨[], [], []⟩ Try.func57 rfl rfl ?_
  repeat' ((conv => whnf); first
    | exact trivial
    | refine And.intro ⟨(by first | exact trivial | (and_intros <;> exact trivial) | (unfold inI64; omega) | omega | (simp only [and_true, true_and, inI64, Int.toNat_natCast]; omega))⟩ ?_
    | refine And.intro (SLe.refl _) ?_
    | refine And.intro (ChLe.refl _) ?_
    | refine NbP.mk (fun _ => ?_) ?_
    | refine BS.dec (fun _ => ?_) (fun _ => ?_)
    | refine BS.eq (fun _ => ?_) (fun _ => ?_)
    | refine BS.ne (fun _ => ?_) (fun _ => ?_)
    | refine BS.nt ?_
    | refine BS.an ?_
    | refine BS.or ?_
    | refine BS.mk (fun _ => ?_) (fun _ => ?_)
    | refine RegP.mk (by kernel_rfl)
    | refine EqP.mk (SLe.refl _)
    | refine EqP.b ?_
    | refine EqP.bb ?_
    | refine EqP.int ?_
    | exact (rfl : okRen _ _ _ = true)
    | exact SLe.refl _
    | exact ChLe.refl _
    | refine And.intro ?_ ?_)
  conv => whnf
  refine LoopP.intro (α := Nat) (fun i => [(8, i64 i)]) (fun _ => []) (fun i => i ≤ l.length ∧ ∀ j, j < i → p (l.getD j ⟨0, 0⟩) = false) (fun i => l.length - i) 0 ?_ ?_ ⟨by omega, fun j hj => by omega⟩ (fun i hi => ?_)
  rotate_left 2
  have hi1 : i ≤ l.length := hi.1
  have hi2 : ∀ j, j < i → p (l.getD j ⟨0, 0⟩) = false := hi.2
  repeat' ((conv => whnf); first
    | exact trivial
    | exact SLe.ren (closed_fn hc)
    | refine And.intro (SLe.ren (closed_fn hc)) ?_
    | refine CallP.mk ⟨_, .inl ⟨hc, hg _ (by omega)⟩, ?_⟩
    | refine EqP.int (firstIdx_at (d := ⟨0, 0⟩) (by assumption) hi2 (by assumption))
    | refine EqP.int (firstIdx_not (d := ⟨0, 0⟩) (by assumption) hi2)
    | refine BackP.intro [] (i + 1) rfl ?_ ?_ ⟨by omega, fun j hj => (by rcases Nat.lt_or_ge j i with hlt | hge; exact hi2 j hlt; (have : j = i := by omega); subst this; assumption)⟩ (by omega)
    | refine And.intro ⟨(by first | exact trivial | (and_intros <;> exact trivial) | (unfold inI64; omega) | omega | (simp only [and_true, true_and, inI64, Int.toNat_natCast]; omega))⟩ ?_
    | refine And.intro (SLe.refl _) ?_
    | refine And.intro (ChLe.refl _) ?_
    | refine NbP.mk (fun _ => ?_) ?_
    | refine BS.dec (fun _ => ?_) (fun _ => ?_)
    | refine BS.eq (fun _ => ?_) (fun _ => ?_)
    | refine BS.ne (fun _ => ?_) (fun _ => ?_)
    | refine BS.nt ?_
    | refine BS.an ?_
    | refine BS.or ?_
    | refine BS.mk (fun _ => ?_) (fun _ => ?_)
    | refine RegP.mk (by kernel_rfl)
    | refine EqP.mk (SLe.refl _)
    | refine EqP.b ?_
    | refine EqP.bb ?_
    | refine EqP.int ?_
    | exact (rfl : okRen _ _ _ = true)
    | exact SLe.refl _
    | exact ChLe.refl _
    | refine And.intro ?_ ?_)
theorem spec50 (l : List SpotV) (g : FuncId) (cap : List SV) (p : SpotV → Bool) (hc : closedL cap = true) (hg : ∀ i, i < l.length → Spec Try.prog g (spotS (l.getD i ⟨0, 0⟩) :: cap) (bl (p (l.getD i ⟨0, 0⟩)))) (hl : (l.length : Int) ≤ 9223372036854775807) :
    Spec Try.prog 50 [fileS l, .fn (.func g) [] cap] (bl (l.any p)) := by
  refine spec_vc trX_ok follows_ok ⟨[], [], []⟩ Try.func50 rfl rfl ?_
  repeat' ((conv => whnf); first
    | exact trivial
    | refine CallP.mk ⟨_, .inl ⟨closed_two rfl (closed_fn hc), spec57 _ _ _ p hc hg hl⟩, ?_⟩
    | refine And.intro ⟨(by first | exact trivial | (and_intros <;> exact trivial) | (unfold inI64; omega) | omega | (simp only [and_true, true_and, inI64, Int.toNat_natCast]; omega))⟩ ?_
    | refine And.intro (SLe.refl _) ?_
    | refine And.intro (ChLe.refl _) ?_
    | refine NbP.mk (fun _ => ?_) ?_
    | refine BS.dec (fun _ => ?_) (fun _ => ?_)
    | refine BS.eq (fun _ => ?_) (fun _ => ?_)
    | refine BS.ne (fun _ => ?_) (fun _ => ?_)
    | refine BS.nt ?_
    | refine BS.an ?_
    | refine BS.or ?_
    | refine BS.mk (fun _ => ?_) (fun _ => ?_)
    | refine RegP.mk (by kernel_rfl)
    | refine EqP.mk (SLe.refl _)
    | refine EqP.b ?_
    | refine EqP.bb ?_
    | refine EqP.int ?_
    | exact (rfl : okRen _ _ _ = true)
    | exact SLe.refl _
    | exact ChLe.refl _
    | refine And.intro ?_ ?_)
  all_goals exact firstIdx_ge
theorem spec39 (l : List Int) (g : FuncId) (cap : List SV) (p : Int → Bool) (hc : closedL cap = true) (hg : ∀ i, i < l.length → Spec Try.prog g (i64 (l.getD i 0) :: cap) (bl (p (l.getD i 0)))) (hl : (l.length : Int) ≤ 9223372036854775807) :
    Spec Try.prog 39 [intS l, .fn (.func g) [] cap] (i64 (firstIdx p l)) := by
  refine spec_vc trX_ok follows_ok ⟨[], [], []⟩ Try.func39 rfl rfl ?_
  repeat' ((conv => whnf); first
    | exact trivial
    | refine And.intro ⟨(by first | exact trivial | (and_intros <;> exact trivial) | (unfold inI64; omega) | omega | (simp only [and_true, true_and, inI64, Int.toNat_natCast]; omega))⟩ ?_
    | refine And.intro (SLe.refl _) ?_
    | refine And.intro (ChLe.refl _) ?_
    | refine NbP.mk (fun _ => ?_) ?_
    | refine BS.dec (fun _ => ?_) (fun _ => ?_)
    | refine BS.eq (fun _ => ?_) (fun _ => ?_)
    | refine BS.ne (fun _ => ?_) (fun _ => ?_)
    | refine BS.nt ?_
    | refine BS.an ?_
    | refine BS.or ?_
    | refine BS.mk (fun _ => ?_) (fun _ => ?_)
    | refine RegP.mk (by kernel_rfl)
    | refine EqP.mk (SLe.refl _)
    | refine EqP.b ?_
    | refine EqP.bb ?_
    | refine EqP.int ?_
    | exact (rfl : okRen _ _ _ = true)
    | exact SLe.refl _
    | exact ChLe.refl _
    | refine And.intro ?_ ?_)
  conv => whnf
  refine LoopP.intro (α := Nat) (fun i => [(8, i64 i)]) (fun _ => []) (fun i => i ≤ l.length ∧ ∀ j, j < i → p (l.getD j 0) = false) (fun i => l.length - i) 0 ?_ ?_ ⟨by omega, fun j hj => by omega⟩ (fun i hi => ?_)
  rotate_left 2
  have hi1 : i ≤ l.length := hi.1
  have hi2 : ∀ j, j < i → p (l.getD j 0) = false := hi.2
  repeat' ((conv => whnf); first
    | exact trivial
    | exact SLe.ren (closed_fn hc)
    | refine And.intro (SLe.ren (closed_fn hc)) ?_
    | refine CallP.mk ⟨_, .inl ⟨hc, hg _ (by omega)⟩, ?_⟩
    | refine EqP.int (firstIdx_at (d := 0) (by assumption) hi2 (by assumption))
    | refine EqP.int (firstIdx_not (d := 0) (by assumption) hi2)
    | refine BackP.intro [] (i + 1) rfl ?_ ?_ ⟨by omega, fun j hj => (by rcases Nat.lt_or_ge j i with hlt | hge; exact hi2 j hlt; (have : j = i := by omega); subst this; assumption)⟩ (by omega)
    | refine And.intro ⟨(by first | exact trivial | (and_intros <;> exact trivial) | (unfold inI64; omega) | omega | (simp only [and_true, true_and, inI64, Int.toNat_natCast]; omega))⟩ ?_
    | refine And.intro (SLe.refl _) ?_
    | refine And.intro (ChLe.refl _) ?_
    | refine NbP.mk (fun _ => ?_) ?_
    | refine BS.dec (fun _ => ?_) (fun _ => ?_)
    | refine BS.eq (fun _ => ?_) (fun _ => ?_)
    | refine BS.ne (fun _ => ?_) (fun _ => ?_)
    | refine BS.nt ?_
    | refine BS.an ?_
    | refine BS.or ?_
    | refine BS.mk (fun _ => ?_) (fun _ => ?_)
    | refine RegP.mk (by kernel_rfl)
    | refine EqP.mk (SLe.refl _)
    | refine EqP.b ?_
    | refine EqP.bb ?_
    | refine EqP.int ?_
    | exact (rfl : okRen _ _ _ = true)
    | exact SLe.refl _
    | exact ChLe.refl _
    | refine And.intro ?_ ?_)
theorem spec26 (l : List Int) (g : FuncId) (cap : List SV) (p : Int → Bool) (hc : closedL cap = true) (hg : ∀ i, i < l.length → Spec Try.prog g (i64 (l.getD i 0) :: cap) (bl (p (l.getD i 0)))) (hl : (l.length : Int) ≤ 9223372036854775807) :
    Spec Try.prog 26 [intS l, .fn (.func g) [] cap] (bl (l.any p)) := by
  refine spec_vc trX_ok follows_ok ⟨[], [], []⟩ Try.func26 rfl rfl ?_
  repeat' ((conv => whnf); first
    | exact trivial
    | refine CallP.mk ⟨_, .inl ⟨closed_two rfl (closed_fn hc), spec39 _ _ _ p hc hg hl⟩, ?_⟩
    | refine And.intro ⟨(by first | exact trivial | (and_intros <;> exact trivial) | (unfold inI64; omega) | omega | (simp only [and_true, true_and, inI64, Int.toNat_natCast]; omega))⟩ ?_
    | refine And.intro (SLe.refl _) ?_
    | refine And.intro (ChLe.refl _) ?_
    | refine NbP.mk (fun _ => ?_) ?_
    | refine BS.dec (fun _ => ?_) (fun _ => ?_)
    | refine BS.eq (fun _ => ?_) (fun _ => ?_)
    | refine BS.ne (fun _ => ?_) (fun _ => ?_)
    | refine BS.nt ?_
    | refine BS.an ?_
    | refine BS.or ?_
    | refine BS.mk (fun _ => ?_) (fun _ => ?_)
    | refine RegP.mk (by kernel_rfl)
    | refine EqP.mk (SLe.refl _)
    | refine EqP.b ?_
    | refine EqP.bb ?_
    | refine EqP.int ?_
    | exact (rfl : okRen _ _ _ = true)
    | exact SLe.refl _
    | exact ChLe.refl _
    | refine And.intro ?_ ?_)
  all_goals exact firstIdx_ge
end Go.Eng
