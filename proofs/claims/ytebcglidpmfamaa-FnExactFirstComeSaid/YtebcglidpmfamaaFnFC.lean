/- A part of the proof that the law of this seat answers true for every input, without a condition. -/
import Derived.Test.YtebcglidpmfamaaFnS
set_option linter.all false
set_option linter.unusedVariables false
set_option linter.unusedSimpArgs false
set_option pp.maxSteps 150
set_option maxRecDepth 100000
namespace Go.Eng
open Go Go.Proofs
attribute [local irreducible] firstComeV
theorem spec7 (l : List PartyV) (hp : ∀ p ∈ l, PartyOk p) (hl : (l.length : Int) ≤ 9223372036854775807) : Spec Try.prog 7 [partiesS l] (.tup [intS (firstComeV l).1, i64 (firstComeV l).2]) :=
  (Spec.ofE (specE7 l hp hl) rfl ⟨(by omega : _ ≤ _), trivial, trivial⟩).conv ⟨SLe.refl _, trivial⟩ (SLe.tup2 (SLe.rs' rfl (fun j hj => by rw [Nat.zero_add])) (SLe.refl _))
theorem spec5 (l : List PartyV) (hp : ∀ p ∈ l, PartyOk p) (hl : (l.length : Int) ≤ 9223372036854775807) : Spec Try.prog 5 [partiesS l] (.tup [intS (firstComeV l).1, i64 (firstComeV l).2]) :=
  (Spec.ofE (specE5 l hp hl) rfl ⟨(by omega : _ ≤ _), trivial, trivial⟩).conv ⟨SLe.refl _, trivial⟩ (SLe.tup2 (SLe.rs' rfl (fun j hj => by rw [Nat.zero_add])) (SLe.refl _))
theorem CallP.lendT {P : Program} {own : List Ch} {f : FuncId} {args args' args0 : List SV} {k : SV → Prop} {r : SV} {q : Prop} (h : Spec P f args0 r) (hs : scalS r = true) (hb : borL own args = some (q, args')) (hq : q) (ha : ALe args' args0) (hk : k r) : CallP P own f args k :=
  ⟨_, .inr ⟨hs, _, _, hb, hq, h.conv ha (SLe.refl _)⟩, hk⟩
theorem firstCome_len (l : List PartyV) : (firstComeV l).1.length ≤ 6 := by
  cases h : partiesOkV l with
  | true => rw [firstCome_ok h, isortC_len, indices_len]; exact partiesOk_len h
  | false => rw [firstCome_no h]; exact Nat.zero_le _
theorem spec3 (l : List PartyV) (hp : ∀ p ∈ l, PartyOk p) (hl : (l.length : Int) ≤ 9223372036854775807) : Spec Try.prog 3 [partiesS l] (bl true) := by
  have hfc := firstCome_len l
  refine spec_vc trX_ok follows_ok ⟨[26, 29, 48, 64], [], []⟩ Try.func3 rfl rfl ?_
  repeat' ((conv => whnf); first
    | exact trivial
    | refine CallP.mk ⟨_, .inl ⟨rfl, (spec4 l _ (by omega) (by omega) hl)⟩, ?_⟩
    | refine CallP.mk ⟨_, .inl ⟨rfl, (spec6 l (by omega))⟩, ?_⟩
    | refine CallP.mk ⟨_, .inl ⟨rfl, (spec5 l hp hl)⟩, ?_⟩
    | refine CallE.mk ⟨_, _, CallOkE.sub [] (specE6 l (by omega)) rfl rfl rfl rfl ?_ ?_, ?_⟩
    | refine CallP.mk ⟨_, .inl ⟨rfl, (spec7 l hp hl)⟩, ?_⟩
    | refine CallE.mk ⟨_, _, CallOkE.lend [] (specE7 l hp hl) rfl rfl rfl rfl rfl ?_ ?_ ?_ ?_, ?_⟩
    | refine CallP.lendT (spec8 (firstComeV l).1 (firstComeV l).1 (by omega) (by omega)) rfl rfl ?_ ?_ ?_
    | refine CallP.lendT (spec9 l l (by omega) (by omega)) rfl rfl ?_ ?_ ?_
    | refine CallE.mk ⟨_, _, CallOkE.sub [0] (specE10 l 1 (by omega) (by omega) (by omega)) rfl rfl rfl rfl ?_ ?_, ?_⟩
    | refine CallE.mk ⟨_, _, CallOkE.sub [1] (specE11 (firstComeV l).1.length 1 (intG (firstComeV l).1) (by omega) (by omega) (by omega)) rfl rfl rfl rfl ?_ ?_, ?_⟩
    | refine CallP.lendT (spec12 (firstComeV l).1.length 1 (by omega) (by omega) (by omega)) rfl rfl ?_ ?_ ?_
    | exact ⟨(by omega : _ ≤ _), trivial⟩
    | exact ⟨SLe.rs' rfl (fun j hj => by rw [Nat.zero_add]), trivial⟩
    | exact ⟨SLe.rs' rfl (fun j hj => by rw [Nat.zero_add]; rfl), SLe.rs' rfl (fun j hj => rfl), trivial⟩
    | exact ⟨SLe.rs' rfl (fun j hj => by rw [Nat.zero_add]; rfl), SLe.refl _, trivial⟩
    | exact ⟨SLe.rs' rfl (fun j hj => by rw [Nat.zero_add]), SLe.refl _, trivial⟩
    | exact ⟨trivial, trivial, trivial⟩
    | exact ⟨fun j => rfl, trivial⟩
    | exact ⟨(by omega : _ ≤ _), trivial, trivial⟩
    | exact ⟨SLe.mr' rfl, SLe.refl _, trivial⟩
    | exact ⟨ChLe.row (fun j hj => rfl), trivial⟩
    | refine And.intro ⟨(by first | exact trivial | (and_intros <;> exact trivial) | (unfold inI64; omega) | omega | (simp only [and_true, true_and, inI64, Int.toNat_natCast]; omega))⟩ ?_
    | refine And.intro (SLe.refl _) ?_
    | refine And.intro (ChLe.refl _) ?_
    | refine NbP.mk (fun _ => ?_) ?_
    | refine SetP.mk ⟨_, _, _, _, _, rfl, rfl, rfl, rfl, rfl, setG_self _ _ _, rfl, ?_⟩
    | refine SetP.mk ⟨_, _, _, _, _, rfl, rfl, rfl, rfl, rfl, rfl, rfl, ?_⟩
    | refine BS.dec (fun _ => ?_) (fun _ => ?_)
    | refine BS.eq (fun _ => ?_) (fun _ => ?_)
    | refine BS.ne (fun _ => ?_) (fun _ => ?_)
    | refine BS.nt ?_
    | refine BS.an ?_
    | refine BS.or ?_
    | refine BS.mk (fun _ => ?_) (fun _ => ?_)
    | refine RegP.mk (by kernel_rfl)
    | refine EqP.mk (SLe.refl _)
    | refine EqP.b ?_
    | refine EqP.bb ?_
    | refine EqP.int ?_
    | exact (rfl : okRen _ _ _ = true)
    | exact SLe.refl _
    | exact ChLe.refl _
    | refine And.intro ?_ ?_)
  all_goals first | rfl | exact absurd rfl (by assumption) | omega
end Go.Eng
