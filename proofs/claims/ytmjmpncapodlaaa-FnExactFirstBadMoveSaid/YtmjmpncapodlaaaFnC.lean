/- A part of the proof that the law of this seat answers true for every input, without a condition. -/
import Derived.Test.YtmjmpncapodlaaaFnB
import Derived.Test.YtmjmpncapodlaaaEngV
set_option linter.all false
set_option linter.unusedVariables false
set_option linter.unusedSimpArgs false
set_option pp.maxSteps 150
set_option maxRecDepth 100000
namespace Go.Eng
open Go Go.Proofs
theorem getD_mem {l : List SpotV} {i : Nat} (h : (i : Int) < l.length) : l.getD i ⟨0, 0⟩ ∈ l := by
  have h : i < l.length := by omega
  rw [List.getD_eq_getElem?_getD, List.getElem?_eq_getElem h]
  exact List.getElem_mem h
theorem has_at {l : List SpotV} {i : Nat} {p : SpotV} (h : (i : Int) < l.length) (hx : (l.getD i ⟨0, 0⟩).x = p.x) (hy : (l.getD i ⟨0, 0⟩).y = p.y) : true = decide (p ∈ l) := by
  symm; rw [decide_eq_true_iff]
  have := getD_mem h
  have e : l.getD i ⟨0, 0⟩ = p := by cases p; cases hh : l.getD i ⟨0, 0⟩; simp_all
  rw [e] at this; exact this
theorem has_not {l : List SpotV} {i : Nat} {p : SpotV} (h : ¬ ((i : Int) < l.length)) (hn : ∀ j, j < i → l.getD j ⟨0, 0⟩ ≠ p) : false = decide (p ∈ l) := by
  symm; rw [decide_eq_false_iff_not]
  intro hm
  obtain ⟨j, hj, e⟩ := List.getElem_of_mem hm
  refine hn j (by omega) ?_
  rw [List.getD_eq_getElem?_getD, List.getElem?_eq_getElem hj]; exact e
theorem spec36 (l : List SpotV) (p : SpotV) (hl : (l.length : Int) ≤ 9223372036854775807) : Spec Try.prog 36 [fileS l, spotS p] (bl (decide (p ∈ l))) := by
  refine spec_vc trX_ok follows_ok ⟨[], [], []⟩ Try.func36 rfl rfl ?_
  conv => whnf
  refine LoopP.intro (α := Nat) (fun i => [(5, i64 i)]) (fun _ => []) (fun i => i ≤ l.length ∧ ∀ j, j < i → l.getD j ⟨0, 0⟩ ≠ p) (fun i => l.length - i) 0 ?_ ?_ ⟨by omega, fun j hj => by omega⟩ (fun i hi => ?_)
  rotate_left 2
  have hi1 : i ≤ l.length := hi.1
  have hi2 : ∀ j, j < i → l.getD j ⟨0, 0⟩ ≠ p := hi.2
  repeat' ((conv => whnf); first
    | exact trivial
    | refine other_eqSpot rfl rfl rfl ?_
    | refine EqP.b (has_at (by assumption) (by assumption) (by assumption))
    | refine EqP.b (has_not (by assumption) hi2)
    | refine BackP.intro [0] (i + 1) rfl ?_ ?_ ⟨by omega, fun j hj => (by rcases Nat.lt_or_ge j i with hlt | hge; exact hi2 j hlt; (have : j = i := by omega); subst this; intro e; simp_all)⟩ (by omega)
    | refine And.intro ⟨(by first | exact trivial | (and_intros <;> exact trivial) | (unfold inI64; omega) | omega | (simp only [and_true, true_and, inI64, Int.toNat_natCast]; omega))⟩ ?_
    | refine And.intro (SLe.refl _) ?_
    | refine And.intro (ChLe.refl _) ?_
    | refine NbP.mk (fun _ => ?_) ?_
    | refine BS.dec (fun _ => ?_) (fun _ => ?_)
    | refine BS.eq (fun _ => ?_) (fun _ => ?_)
    | refine BS.ne (fun _ => ?_) (fun _ => ?_)
    | refine BS.nt ?_
    | refine BS.an ?_
    | refine BS.or ?_
    | refine BS.mk (fun _ => ?_) (fun _ => ?_)
    | refine RegP.mk (by kernel_rfl)
    | refine EqP.mk (SLe.refl _)
    | refine EqP.b ?_
    | refine EqP.bb ?_
    | refine EqP.int ?_
    | exact (rfl : okRen _ _ _ = true)
    | exact SLe.refl _
    | exact ChLe.refl _
    | refine And.intro ?_ ?_)
end Go.Eng
