/- A part of the proof that the law of this seat answers true for every input, without a condition. -/
import Derived.Test.YtebcglidpmfamaaFnN
set_option linter.all false
set_option linter.unusedVariables false
set_option linter.unusedSimpArgs false
set_option pp.maxSteps 150
set_option maxRecDepth 100000
namespace Go.Eng
open Go Go.Proofs
def markG (k : Int) (n i : Nat) (g : Nat → List SV) : Nat → List SV := fun j => if j < i then [i64 (k + j)] else g j
theorem mark_step {k : Int} {n i a j : Nat} {g : Nat → List SV} {v : List SV} (ha : a = i) (hv : v = [i64 (k + i)]) : setG (markG k n i g) a v j = markG k n (i + 1) g j := by
  subst ha; subst hv
  rw [setG_eq]
  unfold markG
  by_cases h : j = a
  · rw [if_pos h, if_pos (by omega), h]
  · rw [if_neg h]
    by_cases h2 : j < a
    · rw [if_pos h2, if_pos (by omega)]
    · rw [if_neg h2, if_neg (by omega)]
theorem specE11 (n : Nat) (k : Int) (g : Nat → List SV) (hn : n ≤ 1048576) (h0 : 0 ≤ k) (hk : k ≤ 1048576) : CallOkE Try.prog [.row n 1 2 g] 11 [.mr 0 0 n 1, i64 k] (i64 (k + n)) [.row n 1 2 (fun j => [i64 (k + j)])] := by
  refine specE_vc trX_ok follows_ok ⟨[], [], []⟩ Try.func11 rfl rfl ?_
  repeat' ((conv => whnf); first
    | exact trivial
    | refine And.intro ⟨(by first | exact trivial | (and_intros <;> exact trivial) | (unfold inI64; omega) | omega | (simp only [and_true, true_and, inI64, Int.toNat_natCast]; omega))⟩ ?_
    | refine And.intro (SLe.refl _) ?_
    | refine And.intro (ChLe.refl _) ?_
    | refine NbP.mk (fun _ => ?_) ?_
    | refine SetP.mk ⟨_, _, _, _, _, rfl, rfl, rfl, rfl, rfl, setG_self _ _ _, rfl, ?_⟩
    | refine SetP.mk ⟨_, _, _, _, _, rfl, rfl, rfl, rfl, rfl, rfl, rfl, ?_⟩
    | refine BS.dec (fun _ => ?_) (fun _ => ?_)
    | refine BS.eq (fun _ => ?_) (fun _ => ?_)
    | refine BS.ne (fun _ => ?_) (fun _ => ?_)
    | refine BS.nt ?_
    | refine BS.an ?_
    | refine BS.or ?_
    | refine BS.mk (fun _ => ?_) (fun _ => ?_)
    | refine RegP.mk (by kernel_rfl)
    | refine EqP.mk (SLe.refl _)
    | refine EqP.b ?_
    | refine EqP.bb ?_
    | refine EqP.int ?_
    | exact (rfl : okRen _ _ _ = true)
    | exact SLe.refl _
    | exact ChLe.refl _
    | refine And.intro ?_ ?_)
  refine LoopP.intro (α := Nat) (fun i => [(1, i64 (k + i)), (5, i64 i)]) (fun i => [(0, .row n 1 2 (markG k n i g))]) (fun i => i ≤ n) (fun i => n - i) 0 ?_ ?_ (by omega) (fun i hi => ?_)
  rotate_left 2
  have hi1 : i ≤ n := hi
  repeat' ((conv => whnf); first
    | exact trivial
    | refine BackP.intro [0] (i + 1) rfl ?_ ?_ (by omega) (by omega)
    | refine And.intro (SLe.of_eq (congrArg i64 (by omega))) ?_
    | exact ChLe.row (fun j hj => mark_step (by first | omega | (simp; done) | (simp; omega)) (by rfl))
    | (refine EndP.mk ⟨[], [0], ?_⟩; (conv => whnf); refine And.intro rfl ?_)
    | exact ChLe.row (fun j hj => if_pos (by omega))
    | exact SLe.of_eq (congrArg i64 (by omega))
    | refine And.intro ⟨(by first | exact trivial | (and_intros <;> exact trivial) | (unfold inI64; omega) | omega | (simp only [and_true, true_and, inI64, Int.toNat_natCast]; omega))⟩ ?_
    | refine And.intro (SLe.refl _) ?_
    | refine And.intro (ChLe.refl _) ?_
    | refine NbP.mk (fun _ => ?_) ?_
    | refine SetP.mk ⟨_, _, _, _, _, rfl, rfl, rfl, rfl, rfl, setG_self _ _ _, rfl, ?_⟩
    | refine SetP.mk ⟨_, _, _, _, _, rfl, rfl, rfl, rfl, rfl, rfl, rfl, ?_⟩
    | refine BS.dec (fun _ => ?_) (fun _ => ?_)
    | refine BS.eq (fun _ => ?_) (fun _ => ?_)
    | refine BS.ne (fun _ => ?_) (fun _ => ?_)
    | refine BS.nt ?_
    | refine BS.an ?_
    | refine BS.or ?_
    | refine BS.mk (fun _ => ?_) (fun _ => ?_)
    | refine RegP.mk (by kernel_rfl)
    | refine EqP.mk (SLe.refl _)
    | refine EqP.b ?_
    | refine EqP.bb ?_
    | refine EqP.int ?_
    | exact (rfl : okRen _ _ _ = true)
    | exact SLe.refl _
    | exact ChLe.refl _
    | refine And.intro ?_ ?_)
  all_goals
    repeat' ((conv => whnf); first
      | exact trivial
      | refine And.intro (SLe.of_eq (congrArg i64 (by omega))) ?_
      | exact ChLe.row (fun j hj => (if_neg (by omega)).symm)
      | refine And.intro ⟨(by first | exact trivial | (and_intros <;> exact trivial) | (unfold inI64; omega) | omega | (simp only [and_true, true_and, inI64, Int.toNat_natCast]; omega))⟩ ?_
      | refine And.intro (SLe.refl _) ?_
      | refine And.intro (ChLe.refl _) ?_
      | refine NbP.mk (fun _ => ?_) ?_
      | refine SetP.mk ⟨_, _, _, _, _, rfl, rfl, rfl, rfl, rfl, setG_self _ _ _, rfl, ?_⟩
      | refine SetP.mk ⟨_, _, _, _, _, rfl, rfl, rfl, rfl, rfl, rfl, rfl, ?_⟩
      | refine BS.dec (fun _ => ?_) (fun _ => ?_)
      | refine BS.eq (fun _ => ?_) (fun _ => ?_)
      | refine BS.ne (fun _ => ?_) (fun _ => ?_)
      | refine BS.nt ?_
      | refine BS.an ?_
      | refine BS.or ?_
      | refine BS.mk (fun _ => ?_) (fun _ => ?_)
      | refine RegP.mk (by kernel_rfl)
      | refine EqP.mk (SLe.refl _)
      | refine EqP.b ?_
      | refine EqP.bb ?_
      | refine EqP.int ?_
      | exact (rfl : okRen _ _ _ = true)
      | exact SLe.refl _
      | exact ChLe.refl _
      | refine And.intro ?_ ?_)
theorem spec12 (n : Nat) (k : Int) (hn : n ≤ 1048576) (h0 : 0 ≤ k) (hk : k ≤ 1048576) : Spec Try.prog 12 [.rs n 1 (fun j => [i64 (k + j)]), i64 k] (i64 (k + n)) := by
  refine spec_vc trX_ok follows_ok ⟨[], [], []⟩ Try.func12 rfl rfl ?_
  repeat' ((conv => whnf); first
    | exact trivial
    | refine And.intro ⟨(by first | exact trivial | (and_intros <;> exact trivial) | (unfold inI64; omega) | omega | (simp only [and_true, true_and, inI64, Int.toNat_natCast]; omega))⟩ ?_
    | refine And.intro (SLe.refl _) ?_
    | refine And.intro (ChLe.refl _) ?_
    | refine NbP.mk (fun _ => ?_) ?_
    | refine SetP.mk ⟨_, _, _, _, _, rfl, rfl, rfl, rfl, rfl, setG_self _ _ _, rfl, ?_⟩
    | refine SetP.mk ⟨_, _, _, _, _, rfl, rfl, rfl, rfl, rfl, rfl, rfl, ?_⟩
    | refine BS.dec (fun _ => ?_) (fun _ => ?_)
    | refine BS.eq (fun _ => ?_) (fun _ => ?_)
    | refine BS.ne (fun _ => ?_) (fun _ => ?_)
    | refine BS.nt ?_
    | refine BS.an ?_
    | refine BS.or ?_
    | refine BS.mk (fun _ => ?_) (fun _ => ?_)
    | refine RegP.mk (by kernel_rfl)
    | refine EqP.mk (SLe.refl _)
    | refine EqP.b ?_
    | refine EqP.bb ?_
    | refine EqP.int ?_
    | exact (rfl : okRen _ _ _ = true)
    | exact SLe.refl _
    | exact ChLe.refl _
    | refine And.intro ?_ ?_)
  refine LoopP.intro (α := Nat) (fun i => [(1, i64 (k + i)), (5, i64 i)]) (fun i => []) (fun i => i ≤ n) (fun i => n - i) 0 ?_ ?_ (by omega) (fun i hi => ?_)
  rotate_left 2
  have hi1 : i ≤ n := hi
  repeat' ((conv => whnf); first
    | exact trivial
    | refine BackP.intro [] (i + 1) rfl ?_ ?_ (by omega) (by omega)
    | refine And.intro (SLe.of_eq (congrArg i64 (by omega))) ?_
    | exact EqP.mk (SLe.of_eq (congrArg i64 (by omega)))
    | refine And.intro ⟨(by first | exact trivial | (and_intros <;> exact trivial) | (unfold inI64; omega) | omega | (simp only [and_true, true_and, inI64, Int.toNat_natCast]; omega))⟩ ?_
    | refine And.intro (SLe.refl _) ?_
    | refine And.intro (ChLe.refl _) ?_
    | refine NbP.mk (fun _ => ?_) ?_
    | refine SetP.mk ⟨_, _, _, _, _, rfl, rfl, rfl, rfl, rfl, setG_self _ _ _, rfl, ?_⟩
    | refine SetP.mk ⟨_, _, _, _, _, rfl, rfl, rfl, rfl, rfl, rfl, rfl, ?_⟩
    | refine BS.dec (fun _ => ?_) (fun _ => ?_)
    | refine BS.eq (fun _ => ?_) (fun _ => ?_)
    | refine BS.ne (fun _ => ?_) (fun _ => ?_)
    | refine BS.nt ?_
    | refine BS.an ?_
    | refine BS.or ?_
    | refine BS.mk (fun _ => ?_) (fun _ => ?_)
    | refine RegP.mk (by kernel_rfl)
    | refine EqP.mk (SLe.refl _)
    | refine EqP.b ?_
    | refine EqP.bb ?_
    | refine EqP.int ?_
    | exact (rfl : okRen _ _ _ = true)
    | exact SLe.refl _
    | exact ChLe.refl _
    | refine And.intro ?_ ?_)
  all_goals
    repeat' ((conv => whnf); first
      | exact trivial
      | refine And.intro (SLe.of_eq (congrArg i64 (by omega))) ?_
      | refine And.intro ⟨(by first | exact trivial | (and_intros <;> exact trivial) | (unfold inI64; omega) | omega | (simp only [and_true, true_and, inI64, Int.toNat_natCast]; omega))⟩ ?_
      | refine And.intro (SLe.refl _) ?_
      | refine And.intro (ChLe.refl _) ?_
      | refine NbP.mk (fun _ => ?_) ?_
      | refine SetP.mk ⟨_, _, _, _, _, rfl, rfl, rfl, rfl, rfl, setG_self _ _ _, rfl, ?_⟩
      | refine SetP.mk ⟨_, _, _, _, _, rfl, rfl, rfl, rfl, rfl, rfl, rfl, ?_⟩
      | refine BS.dec (fun _ => ?_) (fun _ => ?_)
      | refine BS.eq (fun _ => ?_) (fun _ => ?_)
      | refine BS.ne (fun _ => ?_) (fun _ => ?_)
      | refine BS.nt ?_
      | refine BS.an ?_
      | refine BS.or ?_
      | refine BS.mk (fun _ => ?_) (fun _ => ?_)
      | refine RegP.mk (by kernel_rfl)
      | refine EqP.mk (SLe.refl _)
      | refine EqP.b ?_
      | refine EqP.bb ?_
      | refine EqP.int ?_
      | exact (rfl : okRen _ _ _ = true)
      | exact SLe.refl _
      | exact ChLe.refl _
      | refine And.intro ?_ ?_)
def w16 (n : Int) : Int := IntKind.i16.wrap n
def markP (k : Int) (i : Nat) (l : List PartyV) : Nat → List SV := fun j => [i16 (if j < i then w16 (k + 2 * j) else (l.getD j ⟨0, 0⟩).arrive), i16 (if j < i then w16 (k + 2 * j + 1) else (l.getD j ⟨0, 0⟩).size)]
theorem markP_step {k : Int} {i a j : Nat} {l : List PartyV} {u v : List SV} (ha : a = i) (hv : v = [i16 (w16 (k + 2 * i)), i16 (w16 (k + 2 * i + 1))]) : setG (setG (markP k i l) a u) a v j = markP k (i + 1) l j := by
  subst ha; subst hv
  rw [setG_eq, setG_eq]
  unfold markP
  by_cases h : j = a
  · rw [if_pos h, if_pos (by omega), if_pos (by omega), h]
  · rw [if_neg h, if_neg h]
    by_cases h2 : j < a
    · rw [if_pos h2, if_pos h2, if_pos (by omega), if_pos (by omega)]
    · rw [if_neg h2, if_neg h2, if_neg (by omega), if_neg (by omega)]
theorem markP_zero {k : Int} {l : List PartyV} {j : Nat} : partiesG l j = markP k 0 l j := by
  unfold markP
  rw [if_neg (by omega), if_neg (by omega)]; rfl
theorem specE10 (l : List PartyV) (k : Int) (hn : l.length ≤ 1048576) (h0 : 0 ≤ k) (hk : k ≤ 1048576) : CallOkE Try.prog [.row l.length 2 37 (partiesG l)] 10 [.mr 0 0 l.length 2, i64 k] (i64 (k + 2 * l.length)) [.row l.length 2 37 (markP k l.length l)] := by
  refine specE_vc trX_ok follows_ok ⟨[], [], []⟩ Try.func10 rfl rfl ?_
  repeat' ((conv => whnf); first
    | exact trivial
    | refine And.intro ⟨(by first | exact trivial | (and_intros <;> exact trivial) | (unfold inI64; omega) | omega | (simp only [and_true, true_and, inI64, Int.toNat_natCast]; omega))⟩ ?_
    | refine And.intro (SLe.refl _) ?_
    | refine And.intro (ChLe.refl _) ?_
    | refine NbP.mk (fun _ => ?_) ?_
    | refine SetP.mk ⟨_, _, _, _, _, rfl, rfl, rfl, rfl, rfl, setG_self _ _ _, rfl, ?_⟩
    | refine SetP.mk ⟨_, _, _, _, _, rfl, rfl, rfl, rfl, rfl, rfl, rfl, ?_⟩
    | refine BS.dec (fun _ => ?_) (fun _ => ?_)
    | refine BS.eq (fun _ => ?_) (fun _ => ?_)
    | refine BS.ne (fun _ => ?_) (fun _ => ?_)
    | refine BS.nt ?_
    | refine BS.an ?_
    | refine BS.or ?_
    | refine BS.mk (fun _ => ?_) (fun _ => ?_)
    | refine RegP.mk (by kernel_rfl)
    | refine EqP.mk (SLe.refl _)
    | refine EqP.b ?_
    | refine EqP.bb ?_
    | refine EqP.int ?_
    | exact (rfl : okRen _ _ _ = true)
    | exact SLe.refl _
    | exact ChLe.refl _
    | refine And.intro ?_ ?_)
  refine LoopP.intro (α := Nat) (fun i => [(1, i64 (k + 2 * i)), (5, i64 i)]) (fun i => [(0, .row l.length 2 37 (markP k i l))]) (fun i => i ≤ l.length) (fun i => l.length - i) 0 ?_ ?_ (by omega) (fun i hi => ?_)
  rotate_left 2
  have hi1 : i ≤ l.length := hi
  repeat' ((conv => whnf); first
    | exact trivial
    | refine BackP.intro [0] (i + 1) rfl ?_ ?_ (by omega) (by omega)
    | refine And.intro (SLe.of_eq (congrArg i64 (by omega))) ?_
    | exact ChLe.row (fun j hj => markP_step (by first | omega | (simp; done) | (simp; omega)) (by rfl))
    | (refine EndP.mk ⟨[], [0], ?_⟩; (conv => whnf); refine And.intro rfl ?_)
    | exact ChLe.row (fun j hj => by rw [show i = l.length by omega])
    | exact SLe.of_eq (congrArg i64 (by omega))
    | refine And.intro ⟨(by first | exact trivial | (and_intros <;> exact trivial) | (unfold inI64; omega) | omega | (simp only [and_true, true_and, inI64, Int.toNat_natCast]; omega))⟩ ?_
    | refine And.intro (SLe.refl _) ?_
    | refine And.intro (ChLe.refl _) ?_
    | refine NbP.mk (fun _ => ?_) ?_
    | refine SetP.mk ⟨_, _, _, _, _, rfl, rfl, rfl, rfl, rfl, setG_self _ _ _, rfl, ?_⟩
    | refine SetP.mk ⟨_, _, _, _, _, rfl, rfl, rfl, rfl, rfl, rfl, rfl, ?_⟩
    | refine BS.dec (fun _ => ?_) (fun _ => ?_)
    | refine BS.eq (fun _ => ?_) (fun _ => ?_)
    | refine BS.ne (fun _ => ?_) (fun _ => ?_)
    | refine BS.nt ?_
    | refine BS.an ?_
    | refine BS.or ?_
    | refine BS.mk (fun _ => ?_) (fun _ => ?_)
    | refine RegP.mk (by kernel_rfl)
    | refine EqP.mk (SLe.refl _)
    | refine EqP.b ?_
    | refine EqP.bb ?_
    | refine EqP.int ?_
    | exact (rfl : okRen _ _ _ = true)
    | exact SLe.refl _
    | exact ChLe.refl _
    | refine And.intro ?_ ?_)
  all_goals
    repeat' ((conv => whnf); first
      | exact trivial
      | refine And.intro (SLe.of_eq (congrArg i64 (by omega))) ?_
      | exact ChLe.row (fun j hj => markP_zero)
      | refine And.intro ⟨(by first | exact trivial | (and_intros <;> exact trivial) | (unfold inI64; omega) | omega | (simp only [and_true, true_and, inI64, Int.toNat_natCast]; omega))⟩ ?_
      | refine And.intro (SLe.refl _) ?_
      | refine And.intro (ChLe.refl _) ?_
      | refine NbP.mk (fun _ => ?_) ?_
      | refine SetP.mk ⟨_, _, _, _, _, rfl, rfl, rfl, rfl, rfl, setG_self _ _ _, rfl, ?_⟩
      | refine SetP.mk ⟨_, _, _, _, _, rfl, rfl, rfl, rfl, rfl, rfl, rfl, ?_⟩
      | refine BS.dec (fun _ => ?_) (fun _ => ?_)
      | refine BS.eq (fun _ => ?_) (fun _ => ?_)
      | refine BS.ne (fun _ => ?_) (fun _ => ?_)
      | refine BS.nt ?_
      | refine BS.an ?_
      | refine BS.or ?_
      | refine BS.mk (fun _ => ?_) (fun _ => ?_)
      | refine RegP.mk (by kernel_rfl)
      | refine EqP.mk (SLe.refl _)
      | refine EqP.b ?_
      | refine EqP.bb ?_
      | refine EqP.int ?_
      | exact (rfl : okRen _ _ _ = true)
      | exact SLe.refl _
      | exact ChLe.refl _
      | refine And.intro ?_ ?_)
end Go.Eng
