/- A part of the proof that the law of this seat answers true for every input, without a condition. -/
import Derived.Test.YtebcglidpmfamaaFnQ
set_option linter.all false
set_option linter.unusedVariables false
set_option linter.unusedSimpArgs false
set_option pp.maxSteps 150
set_option maxRecDepth 100000
namespace Go.Eng
open Go Go.Proofs
theorem specE26 (l : List Int) (g : FuncId) (cap : List SV) (c : Int → Int → Int) (hc : closedL cap = true) (hl : l.length < 20) (hg : ∀ a ∈ l, ∀ b ∈ l, Spec Try.prog g (i64 a :: i64 b :: cap) (i64 (c a b))) :
    CallOkE Try.prog [.row l.length 1 2 (intG l)] 26 [.mr 0 0 l.length 1, i64 l.length, .fn (.func g) [] cap] (.tup []) [.row l.length 1 2 (intG (isortC (fun a b => decide (c a b < 0)) l))] := by
  refine specE_vc trX_ok follows_ok ⟨[18, 27, 43, 60], [], []⟩ Try.func26 rfl rfl ?_
  conv => whnf
  refine LoopP.intro (α := Unit) (fun _ => [(7, i64 0), (8, i64 20)]) (fun _ => []) (fun _ => True) (fun _ => 0) () ?_ ?_ trivial (fun _ _ => ?_)
  rotate_left 2
  repeat' ((conv => whnf); first
    | exact trivial
    | (exfalso; omega)
    | refine And.intro (SLe.ren (closed_fn hc)) ?_
    | exact SLe.ren (closed_fn hc)
    | refine CallE.mk ⟨_, _, CallOkE.sub [0] (specE28 l g cap c hc (by omega) hg) rfl rfl rfl rfl ?_ ?_, ?_⟩
    | exact ⟨SLe.refl _, SLe.refl _, SLe.refl _, SLe.ren (closed_fn hc), trivial⟩
    | refine And.intro ⟨(by first | exact trivial | (and_intros <;> exact trivial) | (unfold inI64; omega) | omega | (simp only [and_true, true_and, inI64, Int.toNat_natCast]; omega))⟩ ?_
    | refine And.intro (SLe.refl _) ?_
    | refine And.intro (ChLe.refl _) ?_
    | refine NbP.mk (fun _ => ?_) ?_
    | refine SetP.mk ⟨_, _, _, _, _, rfl, rfl, rfl, rfl, rfl, setG_self _ _ _, rfl, ?_⟩
    | refine SetP.mk ⟨_, _, _, _, _, rfl, rfl, rfl, rfl, rfl, rfl, rfl, ?_⟩
    | refine BS.dec (fun _ => ?_) (fun _ => ?_)
    | refine BS.eq (fun _ => ?_) (fun _ => ?_)
    | refine BS.ne (fun _ => ?_) (fun _ => ?_)
    | refine BS.nt ?_
    | refine BS.an ?_
    | refine BS.or ?_
    | refine BS.mk (fun _ => ?_) (fun _ => ?_)
    | refine RegP.mk (by kernel_rfl)
    | refine EqP.mk (SLe.refl _)
    | refine EqP.b ?_
    | refine EqP.bb ?_
    | refine EqP.int ?_
    | exact (rfl : okRen _ _ _ = true)
    | exact SLe.refl _
    | exact ChLe.refl _
    | refine And.intro ?_ ?_)
  refine LoopP.intro (α := Unit) (fun _ => [(6, i64 20)]) (fun _ => []) (fun _ => True) (fun _ => 0) () ?_ ?_ trivial (fun _ _ => ?_)
  rotate_left 2
  repeat' ((conv => whnf); first
    | exact trivial
    | (exfalso; omega)
    | (refine EndP.mk ⟨[], [0], ?_⟩; (conv => whnf); refine And.intro rfl ?_)
    | refine And.intro ⟨(by first | exact trivial | (and_intros <;> exact trivial) | (unfold inI64; omega) | omega | (simp only [and_true, true_and, inI64, Int.toNat_natCast]; omega))⟩ ?_
    | refine And.intro (SLe.refl _) ?_
    | refine And.intro (ChLe.refl _) ?_
    | refine NbP.mk (fun _ => ?_) ?_
    | refine SetP.mk ⟨_, _, _, _, _, rfl, rfl, rfl, rfl, rfl, setG_self _ _ _, rfl, ?_⟩
    | refine SetP.mk ⟨_, _, _, _, _, rfl, rfl, rfl, rfl, rfl, rfl, rfl, ?_⟩
    | refine BS.dec (fun _ => ?_) (fun _ => ?_)
    | refine BS.eq (fun _ => ?_) (fun _ => ?_)
    | refine BS.ne (fun _ => ?_) (fun _ => ?_)
    | refine BS.nt ?_
    | refine BS.an ?_
    | refine BS.or ?_
    | refine BS.mk (fun _ => ?_) (fun _ => ?_)
    | refine RegP.mk (by kernel_rfl)
    | refine EqP.mk (SLe.refl _)
    | refine EqP.b ?_
    | refine EqP.bb ?_
    | refine EqP.int ?_
    | exact (rfl : okRen _ _ _ = true)
    | exact SLe.refl _
    | exact ChLe.refl _
    | refine And.intro ?_ ?_)
  all_goals
    repeat' ((conv => whnf); first
      | exact trivial
      | refine And.intro (SLe.ren (closed_fn hc)) ?_
      | exact SLe.ren (closed_fn hc)
      | refine And.intro ⟨(by first | exact trivial | (and_intros <;> exact trivial) | (unfold inI64; omega) | omega | (simp only [and_true, true_and, inI64, Int.toNat_natCast]; omega))⟩ ?_
      | refine And.intro (SLe.refl _) ?_
      | refine And.intro (ChLe.refl _) ?_
      | refine NbP.mk (fun _ => ?_) ?_
      | refine SetP.mk ⟨_, _, _, _, _, rfl, rfl, rfl, rfl, rfl, setG_self _ _ _, rfl, ?_⟩
      | refine SetP.mk ⟨_, _, _, _, _, rfl, rfl, rfl, rfl, rfl, rfl, rfl, ?_⟩
      | refine BS.dec (fun _ => ?_) (fun _ => ?_)
      | refine BS.eq (fun _ => ?_) (fun _ => ?_)
      | refine BS.ne (fun _ => ?_) (fun _ => ?_)
      | refine BS.nt ?_
      | refine BS.an ?_
      | refine BS.or ?_
      | refine BS.mk (fun _ => ?_) (fun _ => ?_)
      | refine RegP.mk (by kernel_rfl)
      | refine EqP.mk (SLe.refl _)
      | refine EqP.b ?_
      | refine EqP.bb ?_
      | refine EqP.int ?_
      | exact (rfl : okRen _ _ _ = true)
      | exact SLe.refl _
      | exact ChLe.refl _
      | refine And.intro ?_ ?_)
  all_goals (try (conv => whnf)); trace_state
theorem specE19 (l : List Int) (g : FuncId) (cap : List SV) (c : Int → Int → Int) (hc : closedL cap = true) (hl : l.length < 20) (hg : ∀ a ∈ l, ∀ b ∈ l, Spec Try.prog g (i64 a :: i64 b :: cap) (i64 (c a b))) :
    CallOkE Try.prog [.row l.length 1 2 (intG l)] 19 [.mr 0 0 l.length 1, .fn (.func g) [] cap] (.tup []) [.row l.length 1 2 (intG (isortC (fun a b => decide (c a b < 0)) l))] := by
  refine specE_vc trX_ok follows_ok ⟨[8], [], []⟩ Try.func19 rfl rfl ?_
  repeat' ((conv => whnf); first
    | exact trivial
    | refine CallE.mk ⟨_, _, CallOkE.sub [0] (specE26 l g cap c hc hl hg) rfl rfl rfl rfl ?_ ?_, ?_⟩
    | exact ⟨SLe.refl _, SLe.refl _, SLe.ren (closed_fn hc), trivial⟩
    | (refine EndP.mk ⟨[], [0], ?_⟩; (conv => whnf); refine And.intro rfl ?_)
    | refine And.intro ⟨(by first | exact trivial | (and_intros <;> exact trivial) | (unfold inI64; omega) | omega | (simp only [and_true, true_and, inI64, Int.toNat_natCast]; omega))⟩ ?_
    | refine And.intro (SLe.refl _) ?_
    | refine And.intro (ChLe.refl _) ?_
    | refine NbP.mk (fun _ => ?_) ?_
    | refine SetP.mk ⟨_, _, _, _, _, rfl, rfl, rfl, rfl, rfl, setG_self _ _ _, rfl, ?_⟩
    | refine SetP.mk ⟨_, _, _, _, _, rfl, rfl, rfl, rfl, rfl, rfl, rfl, ?_⟩
    | refine BS.dec (fun _ => ?_) (fun _ => ?_)
    | refine BS.eq (fun _ => ?_) (fun _ => ?_)
    | refine BS.ne (fun _ => ?_) (fun _ => ?_)
    | refine BS.nt ?_
    | refine BS.an ?_
    | refine BS.or ?_
    | refine BS.mk (fun _ => ?_) (fun _ => ?_)
    | refine RegP.mk (by kernel_rfl)
    | refine EqP.mk (SLe.refl _)
    | refine EqP.b ?_
    | refine EqP.bb ?_
    | refine EqP.int ?_
    | exact (rfl : okRen _ _ _ = true)
    | exact SLe.refl _
    | exact ChLe.refl _
    | refine And.intro ?_ ?_)
  all_goals (try (conv => whnf)); trace_state
end Go.Eng
