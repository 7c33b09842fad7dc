/- A part of the proof that the law of this seat answers true for every input, without a condition. -/
import Derived.Test.YtebcglidpmfamaaFnL
set_option linter.all false
set_option linter.unusedVariables false
set_option linter.unusedSimpArgs false
set_option pp.maxSteps 150
set_option maxRecDepth 100000
namespace Go.Eng
open Go Go.Proofs
theorem setG_list {α : Type} (G : List α → Nat → List SV) (enc : α → List SV) (d : α) (hG : ∀ l j, G l j = enc (l.getD j d)) {l : List α} {i k : Nat} {v : List SV} (hi : i < l.length) (hk : k = i) (hv : v = enc (l.getD i d)) (j : Nat) : setG (G (l.take i)) k v j = G (l.take (i + 1)) j := by
  subst hk; subst hv
  rw [setG_eq, hG, hG, ← take_step (d := d) hi j]
  split <;> rfl
def i16 (n : Int) : SV := .v (.int .i16 n)
def in16 (n : Int) : Prop := -32768 ≤ n ∧ n ≤ 32767
structure PartyV where
  arrive : Int
  size : Int
deriving instance DecidableEq for PartyV
structure PartyOk (p : PartyV) : Prop where
  arrive : in16 p.arrive
  size : in16 p.size
def partyC (p : PartyV) : List SV := [i16 p.arrive, i16 p.size]
def partyS (p : PartyV) : SV := .agg (partyC p)
def partiesG (l : List PartyV) : Nat → List SV := fun j => partyC (l.getD j ⟨0, 0⟩)
def partiesS (l : List PartyV) : SV := .rs l.length 2 (partiesG l)
theorem spec15 (p : PartyV) : Spec Try.prog 15 [partyS p] (partyS p) := by
  refine spec_vc trX_ok follows_ok ⟨[], [], []⟩ Try.func15 rfl rfl ?_
  repeat' ((conv => whnf); first
    | exact trivial
    | refine And.intro ⟨(by first | exact trivial | (and_intros <;> exact trivial) | (unfold inI64; omega) | omega | (simp only [and_true, true_and, inI64, Int.toNat_natCast]; omega))⟩ ?_
    | refine And.intro (SLe.refl _) ?_
    | refine And.intro (ChLe.refl _) ?_
    | refine NbP.mk (fun _ => ?_) ?_
    | refine SetP.mk ⟨_, _, _, _, _, rfl, rfl, rfl, rfl, rfl, setG_self _ _ _, rfl, ?_⟩
    | refine SetP.mk ⟨_, _, _, _, _, rfl, rfl, rfl, rfl, rfl, rfl, rfl, ?_⟩
    | refine BS.dec (fun _ => ?_) (fun _ => ?_)
    | refine BS.eq (fun _ => ?_) (fun _ => ?_)
    | refine BS.ne (fun _ => ?_) (fun _ => ?_)
    | refine BS.nt ?_
    | refine BS.an ?_
    | refine BS.or ?_
    | refine BS.mk (fun _ => ?_) (fun _ => ?_)
    | refine RegP.mk (by kernel_rfl)
    | refine EqP.mk (SLe.refl _)
    | refine EqP.b ?_
    | refine EqP.bb ?_
    | refine EqP.int ?_
    | exact (rfl : okRen _ _ _ = true)
    | exact SLe.refl _
    | exact ChLe.refl _
    | refine And.intro ?_ ?_)
theorem spec21 (p q : PartyV) : Spec Try.prog 21 [partyS p, partyS q] (bl (decide (p = q))) := by
  refine spec_vc trX_ok follows_ok ⟨[], [], []⟩ Try.func21 rfl rfl ?_
  repeat' ((conv => whnf); first
    | exact trivial
    | refine And.intro ⟨(by first | exact trivial | (and_intros <;> exact trivial) | (unfold inI64; omega) | omega | (simp only [and_true, true_and, inI64, Int.toNat_natCast]; omega))⟩ ?_
    | refine And.intro (SLe.refl _) ?_
    | refine And.intro (ChLe.refl _) ?_
    | refine NbP.mk (fun _ => ?_) ?_
    | refine SetP.mk ⟨_, _, _, _, _, rfl, rfl, rfl, rfl, rfl, setG_self _ _ _, rfl, ?_⟩
    | refine SetP.mk ⟨_, _, _, _, _, rfl, rfl, rfl, rfl, rfl, rfl, rfl, ?_⟩
    | refine BS.dec (fun _ => ?_) (fun _ => ?_)
    | refine BS.eq (fun _ => ?_) (fun _ => ?_)
    | refine BS.ne (fun _ => ?_) (fun _ => ?_)
    | refine BS.nt ?_
    | refine BS.an ?_
    | refine BS.or ?_
    | refine BS.mk (fun _ => ?_) (fun _ => ?_)
    | refine RegP.mk (by kernel_rfl)
    | refine EqP.mk (SLe.refl _)
    | refine EqP.b ?_
    | refine EqP.bb ?_
    | refine EqP.int ?_
    | exact (rfl : okRen _ _ _ = true)
    | exact SLe.refl _
    | exact ChLe.refl _
    | refine And.intro ?_ ?_)
  all_goals (cases p; cases q; simp_all)
theorem specE6 (l : List PartyV) (hl : l.length ≤ 1048576) : CallOkE Try.prog [] 6 [partiesS l] (.mr 0 0 l.length 2) [.row l.length 2 37 (partiesG l)] := by
  refine specE_vc trX_ok follows_ok ⟨[], [], []⟩ Try.func6 rfl rfl ?_
  repeat' ((conv => whnf); first
    | exact trivial
    | refine And.intro ⟨(by first | exact trivial | (and_intros <;> exact trivial) | (unfold inI64; omega) | omega | (simp only [and_true, true_and, inI64, Int.toNat_natCast]; omega))⟩ ?_
    | refine And.intro (SLe.refl _) ?_
    | refine And.intro (ChLe.refl _) ?_
    | refine NbP.mk (fun _ => ?_) ?_
    | refine SetP.mk ⟨_, _, _, _, _, rfl, rfl, rfl, rfl, rfl, setG_self _ _ _, rfl, ?_⟩
    | refine SetP.mk ⟨_, _, _, _, _, rfl, rfl, rfl, rfl, rfl, rfl, rfl, ?_⟩
    | refine BS.dec (fun _ => ?_) (fun _ => ?_)
    | refine BS.eq (fun _ => ?_) (fun _ => ?_)
    | refine BS.ne (fun _ => ?_) (fun _ => ?_)
    | refine BS.nt ?_
    | refine BS.an ?_
    | refine BS.or ?_
    | refine BS.mk (fun _ => ?_) (fun _ => ?_)
    | refine RegP.mk (by kernel_rfl)
    | refine EqP.mk (SLe.refl _)
    | refine EqP.b ?_
    | refine EqP.bb ?_
    | refine EqP.int ?_
    | exact (rfl : okRen _ _ _ = true)
    | exact SLe.refl _
    | exact ChLe.refl _
    | refine And.intro ?_ ?_)
  conv => whnf
  refine LoopP.intro (α := Nat) (fun i => [(4, i64 i)]) (fun i => [(0, .row l.length 2 37 (partiesG (l.take i)))]) (fun i => i ≤ l.length) (fun i => l.length - i) 0 ?_ ?_ (by omega) (fun i hi => ?_)
  rotate_left 2
  have hi1 : i ≤ l.length := hi
  repeat' ((conv => whnf); first
    | exact trivial
    | refine CallP.mk ⟨_, .inl ⟨rfl, (spec15 _)⟩, ?_⟩
    | refine BackP.intro [0] (i + 1) rfl ?_ ?_ (by omega) (by omega)
    | exact ChLe.row (fun j _ => setG_list partiesG partyC ⟨0, 0⟩ (fun _ _ => rfl) (by omega) (by first | omega | (simp; done) | (simp; omega)) (by rfl) j)
    | (refine EndP.mk ⟨[], [0], ?_⟩; (conv => whnf); refine And.intro rfl ?_)
    | exact ChLe.row (fun j _ => by rw [List.take_of_length_le (by omega)])
    | refine And.intro ⟨(by first | exact trivial | (and_intros <;> exact trivial) | (unfold inI64; omega) | omega | (simp only [and_true, true_and, inI64, Int.toNat_natCast]; omega))⟩ ?_
    | refine And.intro (SLe.refl _) ?_
    | refine And.intro (ChLe.refl _) ?_
    | refine NbP.mk (fun _ => ?_) ?_
    | refine SetP.mk ⟨_, _, _, _, _, rfl, rfl, rfl, rfl, rfl, setG_self _ _ _, rfl, ?_⟩
    | refine SetP.mk ⟨_, _, _, _, _, rfl, rfl, rfl, rfl, rfl, rfl, rfl, ?_⟩
    | refine BS.dec (fun _ => ?_) (fun _ => ?_)
    | refine BS.eq (fun _ => ?_) (fun _ => ?_)
    | refine BS.ne (fun _ => ?_) (fun _ => ?_)
    | refine BS.nt ?_
    | refine BS.an ?_
    | refine BS.or ?_
    | refine BS.mk (fun _ => ?_) (fun _ => ?_)
    | refine RegP.mk (by kernel_rfl)
    | refine EqP.mk (SLe.refl _)
    | refine EqP.b ?_
    | refine EqP.bb ?_
    | refine EqP.int ?_
    | exact (rfl : okRen _ _ _ = true)
    | exact SLe.refl _
    | exact ChLe.refl _
    | refine And.intro ?_ ?_)
  all_goals
    repeat' ((conv => whnf); first
      | exact trivial
      | exact ChLe.row (fun j _ => rfl)
      | refine And.intro ⟨(by first | exact trivial | (and_intros <;> exact trivial) | (unfold inI64; omega) | omega | (simp only [and_true, true_and, inI64, Int.toNat_natCast]; omega))⟩ ?_
      | refine And.intro (SLe.refl _) ?_
      | refine And.intro (ChLe.refl _) ?_
      | refine NbP.mk (fun _ => ?_) ?_
      | refine SetP.mk ⟨_, _, _, _, _, rfl, rfl, rfl, rfl, rfl, setG_self _ _ _, rfl, ?_⟩
      | refine SetP.mk ⟨_, _, _, _, _, rfl, rfl, rfl, rfl, rfl, rfl, rfl, ?_⟩
      | refine BS.dec (fun _ => ?_) (fun _ => ?_)
      | refine BS.eq (fun _ => ?_) (fun _ => ?_)
      | refine BS.ne (fun _ => ?_) (fun _ => ?_)
      | refine BS.nt ?_
      | refine BS.an ?_
      | refine BS.or ?_
      | refine BS.mk (fun _ => ?_) (fun _ => ?_)
      | refine RegP.mk (by kernel_rfl)
      | refine EqP.mk (SLe.refl _)
      | refine EqP.b ?_
      | refine EqP.bb ?_
      | refine EqP.int ?_
      | exact (rfl : okRen _ _ _ = true)
      | exact SLe.refl _
      | exact ChLe.refl _
      | refine And.intro ?_ ?_)
theorem spec6 (l : List PartyV) (hl : l.length ≤ 1048576) : Spec Try.prog 6 [partiesS l] (partiesS l) :=
  (Spec.ofE (specE6 l hl) rfl (by omega)).conv ⟨SLe.refl _, trivial⟩ (SLe.rs' rfl (fun j hj => by rw [Nat.zero_add]))
theorem spec9 (l m : List PartyV) (hl : l.length ≤ 1048576) (hm : m.length ≤ 1048576) : Spec Try.prog 9 [partiesS l, partiesS m] (bl (decide (l = m))) := by
  refine spec_vc trX_ok follows_ok ⟨[], [], []⟩ Try.func9 rfl rfl ?_
  repeat' ((conv => whnf); first
    | exact trivial
    | refine EqP.b (dec_len (by assumption))
    | refine And.intro ⟨(by first | exact trivial | (and_intros <;> exact trivial) | (unfold inI64; omega) | omega | (simp only [and_true, true_and, inI64, Int.toNat_natCast]; omega))⟩ ?_
    | refine And.intro (SLe.refl _) ?_
    | refine And.intro (ChLe.refl _) ?_
    | refine NbP.mk (fun _ => ?_) ?_
    | refine SetP.mk ⟨_, _, _, _, _, rfl, rfl, rfl, rfl, rfl, setG_self _ _ _, rfl, ?_⟩
    | refine SetP.mk ⟨_, _, _, _, _, rfl, rfl, rfl, rfl, rfl, rfl, rfl, ?_⟩
    | refine BS.dec (fun _ => ?_) (fun _ => ?_)
    | refine BS.eq (fun _ => ?_) (fun _ => ?_)
    | refine BS.ne (fun _ => ?_) (fun _ => ?_)
    | refine BS.nt ?_
    | refine BS.an ?_
    | refine BS.or ?_
    | refine BS.mk (fun _ => ?_) (fun _ => ?_)
    | refine RegP.mk (by kernel_rfl)
    | refine EqP.mk (SLe.refl _)
    | refine EqP.b ?_
    | refine EqP.bb ?_
    | refine EqP.int ?_
    | exact (rfl : okRen _ _ _ = true)
    | exact SLe.refl _
    | exact ChLe.refl _
    | refine And.intro ?_ ?_)
  conv => whnf
  refine LoopP.intro (α := Nat) (fun i => [(5, i64 i)]) (fun i => []) (fun i => i ≤ l.length ∧ ∀ j, j < i → l.getD j ⟨0, 0⟩ = m.getD j ⟨0, 0⟩) (fun i => l.length - i) 0 ?_ ?_ ⟨by omega, fun j hj => by omega⟩ (fun i hi => ?_)
  rotate_left 2
  have hi1 : i ≤ l.length := hi.1
  have hi2 : ∀ j, j < i → l.getD j ⟨0, 0⟩ = m.getD j ⟨0, 0⟩ := hi.2
  repeat' ((conv => whnf); first
    | exact trivial
    | refine CallP.mk ⟨_, .inl ⟨rfl, (spec21 _ _)⟩, ?_⟩
    | refine EqP.b (dec_at (d := ⟨0, 0⟩) i (by assumption))
    | refine EqP.b (dec_all (d := ⟨0, 0⟩) (by assumption) hi1 (by assumption) hi2)
    | refine BackP.intro [] (i + 1) rfl ?_ ?_ ⟨by omega, below hi2 (by assumption)⟩ (by omega)
    | refine And.intro ⟨(by first | exact trivial | (and_intros <;> exact trivial) | (unfold inI64; omega) | omega | (simp only [and_true, true_and, inI64, Int.toNat_natCast]; omega))⟩ ?_
    | refine And.intro (SLe.refl _) ?_
    | refine And.intro (ChLe.refl _) ?_
    | refine NbP.mk (fun _ => ?_) ?_
    | refine SetP.mk ⟨_, _, _, _, _, rfl, rfl, rfl, rfl, rfl, setG_self _ _ _, rfl, ?_⟩
    | refine SetP.mk ⟨_, _, _, _, _, rfl, rfl, rfl, rfl, rfl, rfl, rfl, ?_⟩
    | refine BS.dec (fun _ => ?_) (fun _ => ?_)
    | refine BS.eq (fun _ => ?_) (fun _ => ?_)
    | refine BS.ne (fun _ => ?_) (fun _ => ?_)
    | refine BS.nt ?_
    | refine BS.an ?_
    | refine BS.or ?_
    | refine BS.mk (fun _ => ?_) (fun _ => ?_)
    | refine RegP.mk (by kernel_rfl)
    | refine EqP.mk (SLe.refl _)
    | refine EqP.b ?_
    | refine EqP.bb ?_
    | refine EqP.int ?_
    | exact (rfl : okRen _ _ _ = true)
    | exact SLe.refl _
    | exact ChLe.refl _
    | refine And.intro ?_ ?_)
theorem spec4 (l : List PartyV) (n : Int) (hn : n ≤ 1048576) (h0 : 0 ≤ n) (hl : (l.length : Int) ≤ 9223372036854775807) : Spec Try.prog 4 [partiesS l, i64 n] (i64 (if n - l.length < 0 then -1 else n - l.length)) := by
  refine spec_vc trX_ok follows_ok ⟨[], [], []⟩ Try.func4 rfl rfl ?_
  repeat' ((conv => whnf); first
    | exact trivial
    | refine And.intro ⟨(by first | exact trivial | (and_intros <;> exact trivial) | (unfold inI64; omega) | omega | (simp only [and_true, true_and, inI64, Int.toNat_natCast]; omega))⟩ ?_
    | refine And.intro (SLe.refl _) ?_
    | refine And.intro (ChLe.refl _) ?_
    | refine NbP.mk (fun _ => ?_) ?_
    | refine SetP.mk ⟨_, _, _, _, _, rfl, rfl, rfl, rfl, rfl, setG_self _ _ _, rfl, ?_⟩
    | refine SetP.mk ⟨_, _, _, _, _, rfl, rfl, rfl, rfl, rfl, rfl, rfl, ?_⟩
    | refine BS.dec (fun _ => ?_) (fun _ => ?_)
    | refine BS.eq (fun _ => ?_) (fun _ => ?_)
    | refine BS.ne (fun _ => ?_) (fun _ => ?_)
    | refine BS.nt ?_
    | refine BS.an ?_
    | refine BS.or ?_
    | refine BS.mk (fun _ => ?_) (fun _ => ?_)
    | refine RegP.mk (by kernel_rfl)
    | refine EqP.mk (SLe.refl _)
    | refine EqP.b ?_
    | refine EqP.bb ?_
    | refine EqP.int ?_
    | exact (rfl : okRen _ _ _ = true)
    | exact SLe.refl _
    | exact ChLe.refl _
    | refine And.intro ?_ ?_)
  all_goals (split <;> omega)
theorem spec27 (l : List PartyV) (g : FuncId) (cap : List SV) (p : PartyV → Bool) (hc : closedL cap = true) (hg : ∀ i, i < l.length → Spec Try.prog g (partyS (l.getD i ⟨0, 0⟩) :: cap) (bl (p (l.getD i ⟨0, 0⟩)))) (hl : (l.length : Int) ≤ 9223372036854775807) :
    Spec Try.prog 27 [partiesS l, .fn (.func g) [] cap] (i64 (firstIdx p l)) := by
  refine spec_vc trX_ok follows_ok ⟨[], [], []⟩ Try.func27 rfl rfl ?_
  repeat' ((conv => whnf); first
    | exact trivial
    | refine And.intro ⟨(by first | exact trivial | (and_intros <;> exact trivial) | (unfold inI64; omega) | omega | (simp only [and_true, true_and, inI64, Int.toNat_natCast]; omega))⟩ ?_
    | refine And.intro (SLe.refl _) ?_
    | refine And.intro (ChLe.refl _) ?_
    | refine NbP.mk (fun _ => ?_) ?_
    | refine SetP.mk ⟨_, _, _, _, _, rfl, rfl, rfl, rfl, rfl, setG_self _ _ _, rfl, ?_⟩
    | refine SetP.mk ⟨_, _, _, _, _, rfl, rfl, rfl, rfl, rfl, rfl, rfl, ?_⟩
    | refine BS.dec (fun _ => ?_) (fun _ => ?_)
    | refine BS.eq (fun _ => ?_) (fun _ => ?_)
    | refine BS.ne (fun _ => ?_) (fun _ => ?_)
    | refine BS.nt ?_
    | refine BS.an ?_
    | refine BS.or ?_
    | refine BS.mk (fun _ => ?_) (fun _ => ?_)
    | refine RegP.mk (by kernel_rfl)
    | refine EqP.mk (SLe.refl _)
    | refine EqP.b ?_
    | refine EqP.bb ?_
    | refine EqP.int ?_
    | exact (rfl : okRen _ _ _ = true)
    | exact SLe.refl _
    | exact ChLe.refl _
    | refine And.intro ?_ ?_)
  conv => whnf
  refine LoopP.intro (α := Nat) (fun i => [(8, i64 i)]) (fun _ => []) (fun i => i ≤ l.length ∧ ∀ j, j < i → p (l.getD j ⟨0, 0⟩) = false) (fun i => l.length - i) 0 ?_ ?_ ⟨by omega, fun j hj => by omega⟩ (fun i hi => ?_)
  rotate_left 2
  have hi1 : i ≤ l.length := hi.1
  have hi2 : ∀ j, j < i → p (l.getD j ⟨0, 0⟩) = false := hi.2
  repeat' ((conv => whnf); first
    | exact trivial
    | exact SLe.ren (closed_fn hc)
    | refine And.intro (SLe.ren (closed_fn hc)) ?_
    | refine CallP.mk ⟨_, .inl ⟨hc, hg _ (by omega)⟩, ?_⟩
    | refine EqP.int (firstIdx_at (d := ⟨0, 0⟩) (by assumption) hi2 (by assumption))
    | refine EqP.int (firstIdx_not (d := ⟨0, 0⟩) (by assumption) hi2)
    | refine BackP.intro [] (i + 1) rfl ?_ ?_ ⟨by omega, fun j hj => (by rcases Nat.lt_or_ge j i with hlt | hge; exact hi2 j hlt; (have : j = i := by omega); subst this; assumption)⟩ (by omega)
    | refine And.intro ⟨(by first | exact trivial | (and_intros <;> exact trivial) | (unfold inI64; omega) | omega | (simp only [and_true, true_and, inI64, Int.toNat_natCast]; omega))⟩ ?_
    | refine And.intro (SLe.refl _) ?_
    | refine And.intro (ChLe.refl _) ?_
    | refine NbP.mk (fun _ => ?_) ?_
    | refine SetP.mk ⟨_, _, _, _, _, rfl, rfl, rfl, rfl, rfl, setG_self _ _ _, rfl, ?_⟩
    | refine SetP.mk ⟨_, _, _, _, _, rfl, rfl, rfl, rfl, rfl, rfl, rfl, ?_⟩
    | refine BS.dec (fun _ => ?_) (fun _ => ?_)
    | refine BS.eq (fun _ => ?_) (fun _ => ?_)
    | refine BS.ne (fun _ => ?_) (fun _ => ?_)
    | refine BS.nt ?_
    | refine BS.an ?_
    | refine BS.or ?_
    | refine BS.mk (fun _ => ?_) (fun _ => ?_)
    | refine RegP.mk (by kernel_rfl)
    | refine EqP.mk (SLe.refl _)
    | refine EqP.b ?_
    | refine EqP.bb ?_
    | refine EqP.int ?_
    | exact (rfl : okRen _ _ _ = true)
    | exact SLe.refl _
    | exact ChLe.refl _
    | refine And.intro ?_ ?_)
theorem spec23 (l : List PartyV) (g : FuncId) (cap : List SV) (p : PartyV → Bool) (hc : closedL cap = true) (hg : ∀ i, i < l.length → Spec Try.prog g (partyS (l.getD i ⟨0, 0⟩) :: cap) (bl (p (l.getD i ⟨0, 0⟩)))) (hl : (l.length : Int) ≤ 9223372036854775807) :
    Spec Try.prog 23 [partiesS l, .fn (.func g) [] cap] (bl (l.any p)) := by
  refine spec_vc trX_ok follows_ok ⟨[], [], []⟩ Try.func23 rfl rfl ?_
  repeat' ((conv => whnf); first
    | exact trivial
    | refine CallP.mk ⟨_, .inl ⟨closed_two rfl (closed_fn hc), spec27 _ _ _ p hc hg hl⟩, ?_⟩
    | refine And.intro ⟨(by first | exact trivial | (and_intros <;> exact trivial) | (unfold inI64; omega) | omega | (simp only [and_true, true_and, inI64, Int.toNat_natCast]; omega))⟩ ?_
    | refine And.intro (SLe.refl _) ?_
    | refine And.intro (ChLe.refl _) ?_
    | refine NbP.mk (fun _ => ?_) ?_
    | refine SetP.mk ⟨_, _, _, _, _, rfl, rfl, rfl, rfl, rfl, setG_self _ _ _, rfl, ?_⟩
    | refine SetP.mk ⟨_, _, _, _, _, rfl, rfl, rfl, rfl, rfl, rfl, rfl, ?_⟩
    | refine BS.dec (fun _ => ?_) (fun _ => ?_)
    | refine BS.eq (fun _ => ?_) (fun _ => ?_)
    | refine BS.ne (fun _ => ?_) (fun _ => ?_)
    | refine BS.nt ?_
    | refine BS.an ?_
    | refine BS.or ?_
    | refine BS.mk (fun _ => ?_) (fun _ => ?_)
    | refine RegP.mk (by kernel_rfl)
    | refine EqP.mk (SLe.refl _)
    | refine EqP.b ?_
    | refine EqP.bb ?_
    | refine EqP.int ?_
    | exact (rfl : okRen _ _ _ = true)
    | exact SLe.refl _
    | exact ChLe.refl _
    | refine And.intro ?_ ?_)
  all_goals exact firstIdx_ge
def partyOkV (p : PartyV) : Bool := (decide (0 ≤ p.arrive) && decide (p.arrive ≤ 1000)) && (decide (1 ≤ p.size) && decide (p.size ≤ 100))
def partiesOkV (l : List PartyV) : Bool := decide (l.length ≤ 6) && l.all partyOkV
theorem spec24 (p : PartyV) (hp : PartyOk p) : Spec Try.prog 24 [partyS p] (bl (!partyOkV p)) := by
  have h1 := hp.arrive
  have h2 := hp.size
  unfold in16 at h1 h2
  refine spec_vc trX_ok follows_ok ⟨[], [], []⟩ Try.func24 rfl rfl ?_
  repeat' ((conv => whnf); first
    | exact trivial
    | refine CallP.mk ⟨_, .inl ⟨rfl, (spec25 _ _ _)⟩, ?_⟩
    | refine And.intro ⟨(by first | exact trivial | (and_intros <;> exact trivial) | (unfold inI64; omega) | omega | (simp only [and_true, true_and, inI64, Int.toNat_natCast]; omega))⟩ ?_
    | refine And.intro (SLe.refl _) ?_
    | refine And.intro (ChLe.refl _) ?_
    | refine NbP.mk (fun _ => ?_) ?_
    | refine SetP.mk ⟨_, _, _, _, _, rfl, rfl, rfl, rfl, rfl, setG_self _ _ _, rfl, ?_⟩
    | refine SetP.mk ⟨_, _, _, _, _, rfl, rfl, rfl, rfl, rfl, rfl, rfl, ?_⟩
    | refine BS.dec (fun _ => ?_) (fun _ => ?_)
    | refine BS.eq (fun _ => ?_) (fun _ => ?_)
    | refine BS.ne (fun _ => ?_) (fun _ => ?_)
    | refine BS.nt ?_
    | refine BS.an ?_
    | refine BS.or ?_
    | refine BS.mk (fun _ => ?_) (fun _ => ?_)
    | refine RegP.mk (by kernel_rfl)
    | refine EqP.mk (SLe.refl _)
    | refine EqP.b ?_
    | refine EqP.bb ?_
    | refine EqP.int ?_
    | exact (rfl : okRen _ _ _ = true)
    | exact SLe.refl _
    | exact ChLe.refl _
    | refine And.intro ?_ ?_)
  all_goals (simp_all [partyOkV]; try omega)
theorem getD_party {l : List PartyV} (hp : ∀ p ∈ l, PartyOk p) (j : Nat) : PartyOk (l.getD j ⟨0, 0⟩) := by
  by_cases h : j < l.length
  · rw [getD_lt h]; exact hp _ (List.getElem_mem h)
  · rw [List.getD_eq_getElem?_getD, List.getElem?_eq_none (by omega)]
    exact ⟨⟨by decide, by decide⟩, ⟨by decide, by decide⟩⟩
theorem spec16 (l : List PartyV) (hp : ∀ p ∈ l, PartyOk p) (hl : (l.length : Int) ≤ 9223372036854775807) : Spec Try.prog 16 [partiesS l] (bl (partiesOkV l)) := by
  refine spec_vc trX_ok follows_ok ⟨[], [], []⟩ Try.func16 rfl rfl ?_
  repeat' ((conv => whnf); first
    | exact trivial
    | refine CallP.mk ⟨_, .inl ⟨rfl, spec23 l _ [] (fun p => !partyOkV p) rfl (fun i hi => spec24 _ (getD_party hp i)) hl⟩, ?_⟩
    | refine And.intro ⟨(by first | exact trivial | (and_intros <;> exact trivial) | (unfold inI64; omega) | omega | (simp only [and_true, true_and, inI64, Int.toNat_natCast]; omega))⟩ ?_
    | refine And.intro (SLe.refl _) ?_
    | refine And.intro (ChLe.refl _) ?_
    | refine NbP.mk (fun _ => ?_) ?_
    | refine SetP.mk ⟨_, _, _, _, _, rfl, rfl, rfl, rfl, rfl, setG_self _ _ _, rfl, ?_⟩
    | refine SetP.mk ⟨_, _, _, _, _, rfl, rfl, rfl, rfl, rfl, rfl, rfl, ?_⟩
    | refine BS.dec (fun _ => ?_) (fun _ => ?_)
    | refine BS.eq (fun _ => ?_) (fun _ => ?_)
    | refine BS.ne (fun _ => ?_) (fun _ => ?_)
    | refine BS.nt ?_
    | refine BS.an ?_
    | refine BS.or ?_
    | refine BS.mk (fun _ => ?_) (fun _ => ?_)
    | refine RegP.mk (by kernel_rfl)
    | refine EqP.mk (SLe.refl _)
    | refine EqP.b ?_
    | refine EqP.bb ?_
    | refine EqP.int ?_
    | exact (rfl : okRen _ _ _ = true)
    | exact SLe.refl _
    | exact ChLe.refl _
    | refine And.intro ?_ ?_)
  all_goals (first | (rw [any_not, Bool.not_not]; unfold partiesOkV; rw [decide_eq_true (by omega), Bool.true_and]) | (unfold partiesOkV; rw [decide_eq_false (by omega), Bool.false_and]))
theorem parties_bad {l : List PartyV} {i : Nat} (h : (i : Int) < l.length) (hn : partyOkV (l.getD (i : Int).toNat ⟨0, 0⟩) = false) : false = partiesOkV l := by
  rw [Int.toNat_natCast] at hn
  unfold partiesOkV; symm; rw [Bool.and_eq_false_iff]; right
  rw [List.all_eq_false]
  rw [getD_lt (by omega)] at hn
  exact ⟨_, List.getElem_mem (show i < l.length by omega), by rw [hn]; simp⟩
theorem parties_good {l : List PartyV} {i : Nat} (h : ¬ (i : Int) < l.length) (hn : ∀ j, j < i → partyOkV (l.getD j ⟨0, 0⟩) = true) : decide ((l.length : Int) ≤ 6) = partiesOkV l := by
  unfold partiesOkV
  rw [List.all_eq_true.2, Bool.and_true]
  · rw [Bool.eq_iff_iff]; simp; omega
  · intro x hx
    obtain ⟨j, hj, rfl⟩ := List.getElem_of_mem hx
    have := hn j (by omega)
    rwa [getD_lt hj] at this
theorem partyOk_false {p : PartyV} (h : ¬ (0 ≤ p.arrive ∧ p.arrive ≤ 1000 ∧ 1 ≤ p.size ∧ p.size ≤ 100)) : partyOkV p = false := by unfold partyOkV; simp; omega
theorem partyOk_true {p : PartyV} (h : 0 ≤ p.arrive ∧ p.arrive ≤ 1000 ∧ 1 ≤ p.size ∧ p.size ≤ 100) : partyOkV p = true := by unfold partyOkV; simp; omega
theorem spec13 (l : List PartyV) (hp : ∀ p ∈ l, PartyOk p) (hl : (l.length : Int) ≤ 9223372036854775807) : Spec Try.prog 13 [partiesS l] (bl (partiesOkV l)) := by
  refine spec_vc trX_ok follows_ok ⟨[], [], []⟩ Try.func13 rfl rfl ?_
  conv => whnf
  refine LoopP.intro (α := Nat) (fun i => [(3, i64 i)]) (fun _ => []) (fun i => i ≤ l.length ∧ ∀ j, j < i → partyOkV (l.getD j ⟨0, 0⟩) = true) (fun i => l.length - i) 0 ?_ ?_ ⟨by omega, fun j hj => by omega⟩ (fun i hi => ?_)
  rotate_left 2
  have hi1 : i ≤ l.length := hi.1
  have hi2 : ∀ j, j < i → partyOkV (l.getD j ⟨0, 0⟩) = true := hi.2
  have h1 := (getD_party hp (i : Int).toNat).arrive
  have h2 := (getD_party hp (i : Int).toNat).size
  unfold in16 at h1 h2
  repeat' ((conv => whnf); first
    | exact trivial
    | refine CallP.mk ⟨_, .inl ⟨rfl, (spec22 _ _ _)⟩, ?_⟩
    | first | refine EqP.b (parties_good (by assumption) hi2) | refine EqP.bb (parties_good (by assumption) hi2)
    | first | refine EqP.b (parties_bad (by assumption) (partyOk_false (by omega))) | refine EqP.bb (parties_bad (by assumption) (partyOk_false (by omega)))
    | refine BackP.intro [] (i + 1) rfl ?_ ?_ ⟨by omega, below hi2 (by rw [← Int.toNat_natCast i]; exact partyOk_true (by omega))⟩ (by omega)
    | refine And.intro ⟨(by first | exact trivial | (and_intros <;> exact trivial) | (unfold inI64; omega) | omega | (simp only [and_true, true_and, inI64, Int.toNat_natCast]; omega))⟩ ?_
    | refine And.intro (SLe.refl _) ?_
    | refine And.intro (ChLe.refl _) ?_
    | refine NbP.mk (fun _ => ?_) ?_
    | refine SetP.mk ⟨_, _, _, _, _, rfl, rfl, rfl, rfl, rfl, setG_self _ _ _, rfl, ?_⟩
    | refine SetP.mk ⟨_, _, _, _, _, rfl, rfl, rfl, rfl, rfl, rfl, rfl, ?_⟩
    | refine BS.dec (fun _ => ?_) (fun _ => ?_)
    | refine BS.eq (fun _ => ?_) (fun _ => ?_)
    | refine BS.ne (fun _ => ?_) (fun _ => ?_)
    | refine BS.nt ?_
    | refine BS.an ?_
    | refine BS.or ?_
    | refine BS.mk (fun _ => ?_) (fun _ => ?_)
    | refine RegP.mk (by kernel_rfl)
    | refine EqP.mk (SLe.refl _)
    | refine EqP.b ?_
    | refine EqP.bb ?_
    | refine EqP.int ?_
    | exact (rfl : okRen _ _ _ = true)
    | exact SLe.refl _
    | exact ChLe.refl _
    | refine And.intro ?_ ?_)
  all_goals (try (conv => whnf)); trace_state
end Go.Eng
