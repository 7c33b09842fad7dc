/- A part of the proof that the law of this seat answers true for every input, without a condition. -/
import Derived.Test.YtmjmpncapodlaaaFnH
set_option linter.all false
set_option linter.unusedVariables false
set_option linter.unusedSimpArgs false
set_option pp.maxSteps 150
set_option maxRecDepth 100000
namespace Go.Eng
open Go Go.Proofs
theorem specE44 (l : List SpotV) (hl : l.length ≤ 1048576) : CallOkE Try.prog [] 44 [fileS l] (.mr 0 0 l.length 2) [.row l.length 2 47 (fileG l)] := by
  refine specE_vc trX_ok follows_ok ⟨[], [], []⟩ Try.func44 rfl rfl ?_
  repeat' ((conv => whnf); first
    | exact trivial
    | (refine EndP.mk ⟨[(0, 2, 47)], [0], ?_⟩; (conv => whnf); refine And.intro rfl ?_)
    | (refine EndP.mk ⟨[], [1], ?_⟩; (conv => whnf); refine And.intro rfl ?_)
    | exact SLe.mr' (by omega)
    | exact ChLe.row' (by omega) (fun j hj => by first | omega | exact catG_zero _ _ j)
    | refine And.intro ⟨(by first | exact trivial | (and_intros <;> exact trivial) | (unfold inI64; omega) | omega | (simp only [and_true, true_and, inI64, Int.toNat_natCast]; omega))⟩ ?_
    | refine And.intro (SLe.refl _) ?_
    | refine And.intro (ChLe.refl _) ?_
    | refine NbP.mk (fun _ => ?_) ?_
    | refine BS.dec (fun _ => ?_) (fun _ => ?_)
    | refine BS.eq (fun _ => ?_) (fun _ => ?_)
    | refine BS.ne (fun _ => ?_) (fun _ => ?_)
    | refine BS.nt ?_
    | refine BS.an ?_
    | refine BS.or ?_
    | refine BS.mk (fun _ => ?_) (fun _ => ?_)
    | refine RegP.mk (by kernel_rfl)
    | refine EqP.mk (SLe.refl _)
    | refine EqP.b ?_
    | refine EqP.bb ?_
    | refine EqP.int ?_
    | exact (rfl : okRen _ _ _ = true)
    | exact SLe.refl _
    | exact ChLe.refl _
    | refine And.intro ?_ ?_)
  all_goals (conv => whnf); trace_state
/-- A list that is turned round from both ends. -/
def revE {α : Type} (l : List α) (d : α) (i k : Nat) : α := (if k < i ∨ l.length ≤ k + i then l.reverse else l).getD k d
theorem rev_zero {α : Type} {l : List α} {d : α} {j : Nat} (hj : j < l.length) : revE l d 0 j = l.getD j d := by
  unfold revE; rw [if_neg (by omega)]
theorem rev_get {α : Type} {l : List α} {d : α} {j : Nat} (hj : j < l.length) : l.reverse.getD j d = l.getD (l.length - 1 - j) d := by
  rw [getD_lt (by simpa using hj), getD_lt (by omega), List.getElem_reverse]
theorem rev_end {α : Type} {l : List α} {d : α} {i j : Nat} (h : ¬ (i : Int) < (l.length : Int) - 1 - i) (hj : j < l.length) : revE l d i j = l.reverse.getD j d := by
  unfold revE
  split
  · rfl
  · rw [rev_get hj, show l.length - 1 - j = j by omega]
theorem rev_step {α : Type} {l : List α} {d : α} {enc : α → List SV} {i a b j : Nat} (h : (i : Int) < (l.length : Int) - 1 - i) (ha : a = i) (hb : b = l.length - 1 - i) (hj : j < l.length) :
    setG (setG (fun k => enc (revE l d i k)) a (enc (revE l d i b))) b (enc (revE l d i a)) j = enc (revE l d (i + 1) j) := by
  subst ha; subst hb
  rw [setG_eq, setG_eq]
  by_cases h1 : j = l.length - 1 - a
  · rw [if_pos h1, h1]
    unfold revE
    rw [if_neg (by omega), if_pos (by omega), rev_get (by omega), show l.length - 1 - (l.length - 1 - a) = a by omega]
  · rw [if_neg h1]
    by_cases h2 : j = a
    · rw [if_pos h2, h2]
      unfold revE
      rw [if_neg (by omega), if_pos (by omega), rev_get (by omega)]
    · rw [if_neg h2]
      unfold revE
      by_cases h3 : j < a ∨ l.length ≤ j + a
      · rw [if_pos h3, if_pos (by omega)]
      · rw [if_neg h3, if_neg (by omega)]
theorem specE45 (l : List SpotV) (hl : l.length ≤ 1048576) : CallOkE Try.prog [.row l.length 2 47 (fun k => spotC (l.getD k ⟨0, 0⟩))] 45 [.mr 0 0 l.length 2] (.tup []) [.row l.length 2 47 (fun k => spotC (l.reverse.getD k ⟨0, 0⟩))] := by
  refine specE_vc trX_ok follows_ok ⟨[], [], []⟩ Try.func45 rfl rfl ?_
  repeat' ((conv => whnf); first
    | exact trivial
    | refine And.intro ⟨(by first | exact trivial | (and_intros <;> exact trivial) | (unfold inI64; omega) | omega | (simp only [and_true, true_and, inI64, Int.toNat_natCast]; omega))⟩ ?_
    | refine And.intro (SLe.refl _) ?_
    | refine And.intro (ChLe.refl _) ?_
    | refine NbP.mk (fun _ => ?_) ?_
    | refine BS.dec (fun _ => ?_) (fun _ => ?_)
    | refine BS.eq (fun _ => ?_) (fun _ => ?_)
    | refine BS.ne (fun _ => ?_) (fun _ => ?_)
    | refine BS.nt ?_
    | refine BS.an ?_
    | refine BS.or ?_
    | refine BS.mk (fun _ => ?_) (fun _ => ?_)
    | refine RegP.mk (by kernel_rfl)
    | refine EqP.mk (SLe.refl _)
    | refine EqP.b ?_
    | refine EqP.bb ?_
    | refine EqP.int ?_
    | exact (rfl : okRen _ _ _ = true)
    | exact SLe.refl _
    | exact ChLe.refl _
    | refine And.intro ?_ ?_)
  conv => whnf
  refine LoopP.intro (α := Nat) (fun i => [(2, i64 i), (3, i64 ((l.length : Int) - 1 - i))]) (fun i => [(0, .row l.length 2 47 (fun k => spotC (revE l ⟨0, 0⟩ i k)))]) (fun i => i ≤ l.length) (fun i => l.length - i) 0 ?_ ?_ (by omega) (fun i hi => ?_)
  rotate_left 2
  have hi1 : i ≤ l.length := hi
  repeat' ((conv => whnf); first
    | exact trivial
    | refine BackP.intro [0] (i + 1) rfl ?_ ?_ (by omega) (by omega)
    | exact ChLe.row (fun j hj => rev_step (enc := spotC) (d := ⟨0, 0⟩) (by omega) (by omega) (by omega) hj)
    | (refine EndP.mk ⟨[], [0], ?_⟩; (conv => whnf); refine And.intro rfl ?_)
    | exact ChLe.row (fun j hj => congrArg spotC (rev_end (by omega) hj))
    | exact SLe.of_eq (congrArg i64 (by omega))
    | refine And.intro ⟨(by first | exact trivial | (and_intros <;> exact trivial) | (unfold inI64; omega) | omega | (simp only [and_true, true_and, inI64, Int.toNat_natCast]; omega))⟩ ?_
    | refine And.intro (SLe.refl _) ?_
    | refine And.intro (ChLe.refl _) ?_
    | refine NbP.mk (fun _ => ?_) ?_
    | refine BS.dec (fun _ => ?_) (fun _ => ?_)
    | refine BS.eq (fun _ => ?_) (fun _ => ?_)
    | refine BS.ne (fun _ => ?_) (fun _ => ?_)
    | refine BS.nt ?_
    | refine BS.an ?_
    | refine BS.or ?_
    | refine BS.mk (fun _ => ?_) (fun _ => ?_)
    | refine RegP.mk (by kernel_rfl)
    | refine EqP.mk (SLe.refl _)
    | refine EqP.b ?_
    | refine EqP.bb ?_
    | refine EqP.int ?_
    | exact (rfl : okRen _ _ _ = true)
    | exact SLe.refl _
    | exact ChLe.refl _
    | refine And.intro ?_ ?_)
  all_goals
    repeat' ((conv => whnf); first
      | exact trivial
      | refine And.intro (SLe.of_eq (congrArg i64 (by omega))) ?_
      | exact ChLe.row (fun j hj => congrArg spotC (rev_zero (d := ⟨0, 0⟩) hj).symm)
      | refine And.intro ⟨(by first | exact trivial | (and_intros <;> exact trivial) | (unfold inI64; omega) | omega | (simp only [and_true, true_and, inI64, Int.toNat_natCast]; omega))⟩ ?_
      | refine And.intro (SLe.refl _) ?_
      | refine And.intro (ChLe.refl _) ?_
      | refine NbP.mk (fun _ => ?_) ?_
      | refine BS.dec (fun _ => ?_) (fun _ => ?_)
      | refine BS.eq (fun _ => ?_) (fun _ => ?_)
      | refine BS.ne (fun _ => ?_) (fun _ => ?_)
      | refine BS.nt ?_
      | refine BS.an ?_
      | refine BS.or ?_
      | refine BS.mk (fun _ => ?_) (fun _ => ?_)
      | refine RegP.mk (by kernel_rfl)
      | refine EqP.mk (SLe.refl _)
      | refine EqP.b ?_
      | refine EqP.bb ?_
      | refine EqP.int ?_
      | exact (rfl : okRen _ _ _ = true)
      | exact SLe.refl _
      | exact ChLe.refl _
      | refine And.intro ?_ ?_)
end Go.Eng
