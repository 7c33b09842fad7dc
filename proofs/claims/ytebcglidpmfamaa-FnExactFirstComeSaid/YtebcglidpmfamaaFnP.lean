/- A part of the proof that the law of this seat answers true for every input, without a condition. -/
import Derived.Test.YtebcglidpmfamaaFnO
set_option linter.all false
set_option linter.unusedVariables false
set_option linter.unusedSimpArgs false
set_option pp.maxSteps 150
set_option maxRecDepth 100000
namespace Go.Eng
open Go Go.Proofs
theorem specE14 (l : List Int) (hl : l.length ≤ 1048576) : CallOkE Try.prog [] 14 [intS l] (.mr 0 0 l.length 1) [.row l.length 1 2 (intG l)] := by
  refine specE_vc trX_ok follows_ok ⟨[], [], []⟩ Try.func14 rfl rfl ?_
  repeat' ((conv => whnf); first
    | exact trivial
    | (refine EndP.mk ⟨[], [1], ?_⟩; (conv => whnf); refine And.intro rfl ?_)
    | exact SLe.mr' (by omega)
    | exact ChLe.row' (by omega) (fun j hj => catG_zero _ _ j)
    | refine And.intro ⟨(by first | exact trivial | (and_intros <;> exact trivial) | (unfold inI64; omega) | omega | (simp only [and_true, true_and, inI64, Int.toNat_natCast]; omega))⟩ ?_
    | refine And.intro (SLe.refl _) ?_
    | refine And.intro (ChLe.refl _) ?_
    | refine NbP.mk (fun _ => ?_) ?_
    | refine SetP.mk ⟨_, _, _, _, _, rfl, rfl, rfl, rfl, rfl, setG_self _ _ _, rfl, ?_⟩
    | refine SetP.mk ⟨_, _, _, _, _, rfl, rfl, rfl, rfl, rfl, rfl, rfl, ?_⟩
    | refine BS.dec (fun _ => ?_) (fun _ => ?_)
    | refine BS.eq (fun _ => ?_) (fun _ => ?_)
    | refine BS.ne (fun _ => ?_) (fun _ => ?_)
    | refine BS.nt ?_
    | refine BS.an ?_
    | refine BS.or ?_
    | refine BS.mk (fun _ => ?_) (fun _ => ?_)
    | refine RegP.mk (by kernel_rfl)
    | refine EqP.mk (SLe.refl _)
    | refine EqP.b ?_
    | refine EqP.bb ?_
    | refine EqP.int ?_
    | exact (rfl : okRen _ _ _ = true)
    | exact SLe.refl _
    | exact ChLe.refl _
    | refine And.intro ?_ ?_)
/-- One element more at the end. -/
theorem snoc_cat {α : Type} (G : List α → Nat → List SV) (enc : α → List SV) (d : α) (hG : ∀ l j, G l j = enc (l.getD j d)) {out : List α} {x : α} {i j : Nat} {g : Nat → List SV} (hi : i = out.length) (hg : g 0 = enc x) (hj : j < i + 1) : catG (G out) i g j = G (out ++ [x]) j := by
  subst hi
  rw [catG_eq, hG, hG]
  by_cases h : j < out.length
  · rw [if_pos h]; simp [List.getD_eq_getElem?_getD, List.getElem?_append_left h]
  · have : j = out.length := by omega
    subst this
    rw [if_neg h, Nat.sub_self, hg]; simp
/-- The numbers below n of which a test holds. -/
def indicesV (p : Nat → Bool) (n : Nat) : List Int := ((List.range n).filter p).map fun (i : Nat) => (i : Int)
theorem indicesV_yes {p : Nat → Bool} {i : Nat} (h : p i = true) : indicesV p (i + 1) = indicesV p i ++ [(i : Int)] := by
  unfold indicesV; rw [List.range_succ]; simp [h]
theorem indicesV_no {p : Nat → Bool} {i : Nat} (h : p i = false) : indicesV p (i + 1) = indicesV p i := by
  unfold indicesV; rw [List.range_succ]; simp [h]
theorem indicesV_len (p : Nat → Bool) (n : Nat) : (indicesV p n).length ≤ n := by
  unfold indicesV
  rw [List.length_map]
  exact Nat.le_trans (List.length_filter_le _ _) (by simp)
theorem specE17 (n : Nat) (g : FuncId) (cap : List SV) (p : Nat → Bool) (hc : closedL cap = true) (hn : n ≤ 1048576) (hg : ∀ i : Nat, i < n → Spec Try.prog g (i64 i :: cap) (bl (p i))) :
    CallOkE Try.prog [] 17 [i64 n, .fn (.func g) [] cap] (.mr 0 0 (indicesV p n).length 1) [.row (indicesV p n).length 1 2 (intG (indicesV p n))] := by
  refine specE_vc trX_ok follows_ok ⟨[], [], []⟩ Try.func17 rfl rfl ?_
  repeat' ((conv => whnf); first
    | exact trivial
    | refine And.intro ⟨(by first | exact trivial | (and_intros <;> exact trivial) | (unfold inI64; omega) | omega | (simp only [and_true, true_and, inI64, Int.toNat_natCast]; omega))⟩ ?_
    | refine And.intro (SLe.refl _) ?_
    | refine And.intro (ChLe.refl _) ?_
    | refine NbP.mk (fun _ => ?_) ?_
    | refine SetP.mk ⟨_, _, _, _, _, rfl, rfl, rfl, rfl, rfl, setG_self _ _ _, rfl, ?_⟩
    | refine SetP.mk ⟨_, _, _, _, _, rfl, rfl, rfl, rfl, rfl, rfl, rfl, ?_⟩
    | refine BS.dec (fun _ => ?_) (fun _ => ?_)
    | refine BS.eq (fun _ => ?_) (fun _ => ?_)
    | refine BS.ne (fun _ => ?_) (fun _ => ?_)
    | refine BS.nt ?_
    | refine BS.an ?_
    | refine BS.or ?_
    | refine BS.mk (fun _ => ?_) (fun _ => ?_)
    | refine RegP.mk (by kernel_rfl)
    | refine EqP.mk (SLe.refl _)
    | refine EqP.b ?_
    | refine EqP.bb ?_
    | refine EqP.int ?_
    | exact (rfl : okRen _ _ _ = true)
    | exact SLe.refl _
    | exact ChLe.refl _
    | refine And.intro ?_ ?_)
  refine LoopP.intro (α := Nat) (fun i => [(5, .mr 0 0 (indicesV p i).length 1), (9, i64 i), (7, .junk)]) (fun i => [(0, .row (indicesV p i).length 1 2 (intG (indicesV p i)))]) (fun i => i ≤ n) (fun i => n - i) 0 ?_ ?_ (by omega) (fun i hi => ?_)
  rotate_left 2
  have hi1 : i ≤ n := hi
  have hlen := indicesV_len p i
  repeat' ((conv => whnf); first
    | exact trivial
    | refine And.intro (SLe.ren (closed_fn hc)) ?_
    | exact SLe.ren (closed_fn hc)
    | refine CallP.mk ⟨_, .inl ⟨hc, hg _ (by omega)⟩, ?_⟩
    | refine BackP.intro [1] (i + 1) rfl ?_ ?_ (by omega) (by omega)
    | refine BackP.intro [0] (i + 1) rfl ?_ ?_ (by omega) (by omega)
    | refine And.intro (SLe.mr' (by rw [indicesV_yes (by assumption)]; simp)) ?_
    | refine And.intro (SLe.mr' (by rw [indicesV_no (by assumption)])) ?_
    | exact ChLe.row' (by rw [indicesV_yes (by assumption)]; simp) (fun j hj => by rw [indicesV_yes (by assumption)] at hj ⊢; exact snoc_cat intG (fun n => [i64 n]) 0 (fun _ _ => rfl) rfl rfl (by simpa using hj))
    | exact ChLe.row' (by rw [indicesV_no (by assumption)]) (fun j hj => by rw [indicesV_no (by assumption)])
    | (refine EndP.mk ⟨[], [0], ?_⟩; (conv => whnf); refine And.intro rfl ?_)
    | exact ChLe.row' (by rw [show i = n by omega]) (fun j hj => by rw [show i = n by omega])
    | exact SLe.mr' (by rw [show i = n by omega])
    | refine And.intro ⟨(by first | exact trivial | (and_intros <;> exact trivial) | (unfold inI64; omega) | omega | (simp only [and_true, true_and, inI64, Int.toNat_natCast]; omega))⟩ ?_
    | refine And.intro (SLe.refl _) ?_
    | refine And.intro (ChLe.refl _) ?_
    | refine NbP.mk (fun _ => ?_) ?_
    | refine SetP.mk ⟨_, _, _, _, _, rfl, rfl, rfl, rfl, rfl, setG_self _ _ _, rfl, ?_⟩
    | refine SetP.mk ⟨_, _, _, _, _, rfl, rfl, rfl, rfl, rfl, rfl, rfl, ?_⟩
    | refine BS.dec (fun _ => ?_) (fun _ => ?_)
    | refine BS.eq (fun _ => ?_) (fun _ => ?_)
    | refine BS.ne (fun _ => ?_) (fun _ => ?_)
    | refine BS.nt ?_
    | refine BS.an ?_
    | refine BS.or ?_
    | refine BS.mk (fun _ => ?_) (fun _ => ?_)
    | refine RegP.mk (by kernel_rfl)
    | refine EqP.mk (SLe.refl _)
    | refine EqP.b ?_
    | refine EqP.bb ?_
    | refine EqP.int ?_
    | exact (rfl : okRen _ _ _ = true)
    | exact SLe.refl _
    | exact ChLe.refl _
    | refine And.intro ?_ ?_)
  all_goals
    repeat' ((conv => whnf); first
      | exact trivial
      | refine And.intro (SLe.ren (closed_fn hc)) ?_
      | refine And.intro (SLe.mr' (by simp [indicesV])) ?_
      | exact ChLe.row' (by simp [indicesV]) (fun j hj => by simp [indicesV] at hj)
      | refine And.intro ⟨(by first | exact trivial | (and_intros <;> exact trivial) | (unfold inI64; omega) | omega | (simp only [and_true, true_and, inI64, Int.toNat_natCast]; omega))⟩ ?_
      | refine And.intro (SLe.refl _) ?_
      | refine And.intro (ChLe.refl _) ?_
      | refine NbP.mk (fun _ => ?_) ?_
      | refine SetP.mk ⟨_, _, _, _, _, rfl, rfl, rfl, rfl, rfl, setG_self _ _ _, rfl, ?_⟩
      | refine SetP.mk ⟨_, _, _, _, _, rfl, rfl, rfl, rfl, rfl, rfl, rfl, ?_⟩
      | refine BS.dec (fun _ => ?_) (fun _ => ?_)
      | refine BS.eq (fun _ => ?_) (fun _ => ?_)
      | refine BS.ne (fun _ => ?_) (fun _ => ?_)
      | refine BS.nt ?_
      | refine BS.an ?_
      | refine BS.or ?_
      | refine BS.mk (fun _ => ?_) (fun _ => ?_)
      | refine RegP.mk (by kernel_rfl)
      | refine EqP.mk (SLe.refl _)
      | refine EqP.b ?_
      | refine EqP.bb ?_
      | refine EqP.int ?_
      | exact (rfl : okRen _ _ _ = true)
      | exact SLe.refl _
      | exact ChLe.refl _
      | refine And.intro ?_ ?_)
end Go.Eng
