/- A part of the proof that the law of this seat answers true for every input, without a condition. -/
import Derived.Test.YtmjmpncapodlaaaFnD
set_option linter.all false
set_option linter.unusedVariables false
set_option linter.unusedSimpArgs false
set_option pp.maxSteps 150
set_option maxRecDepth 100000
namespace Go.Eng
open Go Go.Proofs
/-- The place of the first element of which a test holds, or -1. -/
def firstIdx {α : Type} (p : α → Bool) (l : List α) : Int := if l.any p then (l.findIdx p : Int) else -1
theorem getD_lt {α : Type} {l : List α} {i : Nat} {d : α} (h : i < l.length) : l.getD i d = l[i] := by
  rw [List.getD_eq_getElem?_getD, List.getElem?_eq_getElem h]; rfl
theorem firstIdx_at {α : Type} {d : α} {p : α → Bool} {l : List α} {i : Nat} (h : (i : Int) < l.length) (hn : ∀ j, j < i → p (l.getD j d) = false) (hp : p (l.getD i d) = true) : (i : Int) = firstIdx p l := by
  have h' : i < l.length := by omega
  rw [getD_lt h'] at hp
  unfold firstIdx
  rw [if_pos (List.any_eq_true.2 ⟨_, List.getElem_mem h', hp⟩)]
  rw [(List.findIdx_eq h').2 ⟨hp, fun j hj => by have := hn j hj; rwa [getD_lt (by omega)] at this⟩]
theorem firstIdx_not {α : Type} {d : α} {p : α → Bool} {l : List α} {i : Nat} (h : ¬ ((i : Int) < l.length)) (hn : ∀ j, j < i → p (l.getD j d) = false) : -1 = firstIdx p l := by
  unfold firstIdx
  rw [if_neg]
  intro ha
  obtain ⟨x, hx, hp⟩ := List.any_eq_true.1 ha
  obtain ⟨j, hj, rfl⟩ := List.getElem_of_mem hx
  have := hn j (by omega)
  rw [getD_lt hj, hp] at this
  cases this
theorem firstIdx_ge {α : Type} {p : α → Bool} {l : List α} : decide (0 ≤ firstIdx p l) = l.any p := by
  unfold firstIdx
  cases l.any p <;> simp
theorem spot_ext' {p q : SpotV} (hx : p.x = q.x) (hy : p.y = q.y) : q = p := by cases p; cases q; simp_all
theorem spec53 (l : List SpotV) (p : SpotV) (hl : (l.length : Int) ≤ 9223372036854775807) : Spec Try.prog 53 [fileS l, spotS p] (i64 (firstIdx (fun x => decide (x = p)) l)) := by
  refine spec_vc trX_ok follows_ok ⟨[], [], []⟩ Try.func53 rfl rfl ?_
  repeat' ((conv => whnf); first
    | exact trivial
    | refine And.intro ⟨(by first | exact trivial | (and_intros <;> exact trivial) | (unfold inI64; omega) | omega | (simp only [and_true, true_and, inI64, Int.toNat_natCast]; omega))⟩ ?_
    | refine And.intro (SLe.refl _) ?_
    | refine And.intro (ChLe.refl _) ?_
    | refine NbP.mk (fun _ => ?_) ?_
    | refine BS.dec (fun _ => ?_) (fun _ => ?_)
    | refine BS.eq (fun _ => ?_) (fun _ => ?_)
    | refine BS.ne (fun _ => ?_) (fun _ => ?_)
    | refine BS.nt ?_
    | refine BS.an ?_
    | refine BS.or ?_
    | refine BS.mk (fun _ => ?_) (fun _ => ?_)
    | refine RegP.mk (by kernel_rfl)
    | refine EqP.mk (SLe.refl _)
    | refine EqP.b ?_
    | refine EqP.bb ?_
    | refine EqP.int ?_
    | exact (rfl : okRen _ _ _ = true)
    | exact SLe.refl _
    | exact ChLe.refl _
    | refine And.intro ?_ ?_)
  conv => whnf
  refine LoopP.intro (α := Nat) (fun i => [(8, i64 i)]) (fun _ => []) (fun i => i ≤ l.length ∧ ∀ j, j < i → l.getD j ⟨0, 0⟩ ≠ p) (fun i => l.length - i) 0 ?_ ?_ ⟨by omega, fun j hj => by omega⟩ (fun i hi => ?_)
  rotate_left 2
  have hi1 : i ≤ l.length := hi.1
  have hi2 : ∀ j, j < i → l.getD j ⟨0, 0⟩ ≠ p := hi.2
  repeat' ((conv => whnf); first
    | exact trivial
    | refine other_eqSpot rfl rfl rfl ?_
    | refine EqP.int (firstIdx_at (d := ⟨0, 0⟩) (by assumption) (by simpa using hi2) (by rw [decide_eq_true_iff]; exact spot_ext' (by assumption) (by assumption)))
    | refine EqP.int (firstIdx_not (d := ⟨0, 0⟩) (by assumption) (by simpa using hi2))
    | refine BackP.intro [0] (i + 1) rfl ?_ ?_ ⟨by omega, fun j hj => (by rcases Nat.lt_or_ge j i with hlt | hge; exact hi2 j hlt; (have : j = i := by omega); subst this; intro e; simp_all)⟩ (by omega)
    | refine And.intro ⟨(by first | exact trivial | (and_intros <;> exact trivial) | (unfold inI64; omega) | omega | (simp only [and_true, true_and, inI64, Int.toNat_natCast]; omega))⟩ ?_
    | refine And.intro (SLe.refl _) ?_
    | refine And.intro (ChLe.refl _) ?_
    | refine NbP.mk (fun _ => ?_) ?_
    | refine BS.dec (fun _ => ?_) (fun _ => ?_)
    | refine BS.eq (fun _ => ?_) (fun _ => ?_)
    | refine BS.ne (fun _ => ?_) (fun _ => ?_)
    | refine BS.nt ?_
    | refine BS.an ?_
    | refine BS.or ?_
    | refine BS.mk (fun _ => ?_) (fun _ => ?_)
    | refine RegP.mk (by kernel_rfl)
    | refine EqP.mk (SLe.refl _)
    | refine EqP.b ?_
    | refine EqP.bb ?_
    | refine EqP.int ?_
    | exact (rfl : okRen _ _ _ = true)
    | exact SLe.refl _
    | exact ChLe.refl _
    | refine And.intro ?_ ?_)
  all_goals trace_state
theorem spec43 (l : List SpotV) (p : SpotV) (hl : (l.length : Int) ≤ 9223372036854775807) : Spec Try.prog 43 [fileS l, spotS p] (bl (decide (p ∈ l))) := by
  refine spec_vc trX_ok follows_ok ⟨[], [], []⟩ Try.func43 rfl rfl ?_
  repeat' ((conv => whnf); first
    | exact trivial
    | refine CallP.mk ⟨_, .inl ⟨rfl, (spec53 _ _ hl)⟩, ?_⟩
    | refine And.intro ⟨(by first | exact trivial | (and_intros <;> exact trivial) | (unfold inI64; omega) | omega | (simp only [and_true, true_and, inI64, Int.toNat_natCast]; omega))⟩ ?_
    | refine And.intro (SLe.refl _) ?_
    | refine And.intro (ChLe.refl _) ?_
    | refine NbP.mk (fun _ => ?_) ?_
    | refine BS.dec (fun _ => ?_) (fun _ => ?_)
    | refine BS.eq (fun _ => ?_) (fun _ => ?_)
    | refine BS.ne (fun _ => ?_) (fun _ => ?_)
    | refine BS.nt ?_
    | refine BS.an ?_
    | refine BS.or ?_
    | refine BS.mk (fun _ => ?_) (fun _ => ?_)
    | refine RegP.mk (by kernel_rfl)
    | refine EqP.mk (SLe.refl _)
    | refine EqP.b ?_
    | refine EqP.bb ?_
    | refine EqP.int ?_
    | exact (rfl : okRen _ _ _ = true)
    | exact SLe.refl _
    | exact ChLe.refl _
    | refine And.intro ?_ ?_)
  all_goals (show decide (0 ≤ firstIdx _ l) = _; rw [firstIdx_ge, Bool.eq_iff_iff]; simp)
theorem side4 {P : Int → Prop} (h0 : P 0) (h1 : P 1) (h2 : P 2) (h3 : P 3) (i : Nat) (h : i < 4) : P i := by
  rcases i with _ | _ | _ | _ | i <;> first | assumption | omega
def sideTo (a b : SpotV) : Int := if nextV a 0 = b then 0 else if nextV a 1 = b then 1 else if nextV a 2 = b then 2 else if nextV a 3 = b then 3 else -1
theorem sideTo_at {a b : SpotV} {i : Nat} (h : (i : Int) < 4) (hn : ∀ j : Nat, j < i → nextV a j ≠ b) (hx : (nextV a i).x = b.x) (hy : (nextV a i).y = b.y) : (i : Int) = sideTo a b := by
  have e : nextV a i = b := by cases b; cases hh : nextV a i; simp_all
  have h0 : 0 < i → nextV a 0 ≠ b := hn 0; have h1 : 1 < i → nextV a 1 ≠ b := hn 1; have h2 : 2 < i → nextV a 2 ≠ b := hn 2
  unfold sideTo
  rcases i with _ | _ | _ | _ | i
  · rw [if_pos (show nextV a 0 = b from e)]; rfl
  · rw [if_neg (h0 (by omega)), if_pos (show nextV a 1 = b from e)]; rfl
  · rw [if_neg (h0 (by omega)), if_neg (h1 (by omega)), if_pos (show nextV a 2 = b from e)]; rfl
  · rw [if_neg (h0 (by omega)), if_neg (h1 (by omega)), if_neg (h2 (by omega)), if_pos (show nextV a 3 = b from e)]; rfl
  · omega
theorem sideTo_not {a b : SpotV} {i : Nat} (h : ¬ (i : Int) < 4) (hn : ∀ j : Nat, j < i → nextV a j ≠ b) : -1 = sideTo a b := by
  unfold sideTo
  rw [if_neg (show nextV a 0 ≠ b from hn 0 (by omega)), if_neg (show nextV a 1 ≠ b from hn 1 (by omega)), if_neg (show nextV a 2 ≠ b from hn 2 (by omega)), if_neg (show nextV a 3 ≠ b from hn 3 (by omega))]
theorem spec55 (a b : SpotV) : Spec Try.prog 55 [spotS a, spotS b] (i64 (sideTo a b)) := by
  refine spec_vc trX_ok follows_ok ⟨[], [], []⟩ Try.func55 rfl rfl ?_
  conv => whnf
  refine LoopP.intro (α := Nat) (fun i => [(6, i64 i)]) (fun _ => []) (fun i => i ≤ 4 ∧ ∀ j : Nat, j < i → nextV a j ≠ b) (fun i => 4 - i) 0 ?_ ?_ ⟨by omega, fun j hj => by omega⟩ (fun i hi => ?_)
  rotate_left 2
  have hi1 : i ≤ 4 := hi.1
  have hi2 : ∀ j : Nat, j < i → nextV a j ≠ b := hi.2
  repeat' ((conv => whnf); first
    | exact trivial
    | refine CallP.mk ⟨_, .inl ⟨rfl, (spec41 _ _)⟩, ?_⟩
    | refine other_eqSpot rfl rfl rfl ?_
    | refine EqP.int (sideTo_at (by assumption) hi2 (by assumption) (by assumption))
    | refine EqP.int (sideTo_not (by assumption) hi2)
    | refine BackP.intro [0, 1] (i + 1) rfl ?_ ?_ ⟨by omega, fun j hj => (by rcases Nat.lt_or_ge j i with hlt | hge; exact hi2 j hlt; (have : j = i := by omega); subst this; intro e; simp_all)⟩ (by omega)
    | refine And.intro ⟨(by first | exact trivial | (and_intros <;> exact trivial) | (unfold inI64; omega) | omega | (simp only [and_true, true_and, inI64, Int.toNat_natCast]; omega))⟩ ?_
    | refine And.intro (SLe.refl _) ?_
    | refine And.intro (ChLe.refl _) ?_
    | refine NbP.mk (fun _ => ?_) ?_
    | refine BS.dec (fun _ => ?_) (fun _ => ?_)
    | refine BS.eq (fun _ => ?_) (fun _ => ?_)
    | refine BS.ne (fun _ => ?_) (fun _ => ?_)
    | refine BS.nt ?_
    | refine BS.an ?_
    | refine BS.or ?_
    | refine BS.mk (fun _ => ?_) (fun _ => ?_)
    | refine RegP.mk (by kernel_rfl)
    | refine EqP.mk (SLe.refl _)
    | refine EqP.b ?_
    | refine EqP.bb ?_
    | refine EqP.int ?_
    | exact (rfl : okRen _ _ _ = true)
    | exact SLe.refl _
    | exact ChLe.refl _
    | refine And.intro ?_ ?_)
  all_goals trace_state
theorem spec54 (a b : SpotV) : Spec Try.prog 54 [spotS a, spotS b] (i64 (sideTo a b)) := by
  refine spec_vc trX_ok follows_ok ⟨[], [], []⟩ Try.func54 rfl rfl ?_
  conv => whnf
  refine LoopP.intro (α := Nat) (fun i => [(5, i64 i)]) (fun _ => []) (fun i => i ≤ 4 ∧ ∀ j : Nat, j < i → nextV a j ≠ b) (fun i => 4 - i) 0 ?_ ?_ ⟨by omega, fun j hj => by omega⟩ (fun i hi => ?_)
  rotate_left 2
  have hi1 : i ≤ 4 := hi.1
  have hi2 : ∀ j : Nat, j < i → nextV a j ≠ b := hi.2
  repeat' ((conv => whnf); first
    | exact trivial
    | refine CallP.mk ⟨_, .inl ⟨rfl, (spec34 _ _)⟩, ?_⟩
    | refine other_eqSpot rfl rfl rfl ?_
    | refine EqP.int (sideTo_at (by assumption) hi2 (by assumption) (by assumption))
    | refine EqP.int (sideTo_not (by assumption) hi2)
    | refine BackP.intro [0, 1] (i + 1) rfl ?_ ?_ ⟨by omega, fun j hj => (by rcases Nat.lt_or_ge j i with hlt | hge; exact hi2 j hlt; (have : j = i := by omega); subst this; intro e; simp_all)⟩ (by omega)
    | refine And.intro ⟨(by first | exact trivial | (and_intros <;> exact trivial) | (unfold inI64; omega) | omega | (simp only [and_true, true_and, inI64, Int.toNat_natCast]; omega))⟩ ?_
    | refine And.intro (SLe.refl _) ?_
    | refine And.intro (ChLe.refl _) ?_
    | refine NbP.mk (fun _ => ?_) ?_
    | refine BS.dec (fun _ => ?_) (fun _ => ?_)
    | refine BS.eq (fun _ => ?_) (fun _ => ?_)
    | refine BS.ne (fun _ => ?_) (fun _ => ?_)
    | refine BS.nt ?_
    | refine BS.an ?_
    | refine BS.or ?_
    | refine BS.mk (fun _ => ?_) (fun _ => ?_)
    | refine RegP.mk (by kernel_rfl)
    | refine EqP.mk (SLe.refl _)
    | refine EqP.b ?_
    | refine EqP.bb ?_
    | refine EqP.int ?_
    | exact (rfl : okRen _ _ _ = true)
    | exact SLe.refl _
    | exact ChLe.refl _
    | refine And.intro ?_ ?_)
  all_goals trace_state
attribute [irreducible] sideTo
end Go.Eng
