/- A part of the proof that the law of this seat answers true for every input, without a condition. -/
import Derived.Test.YtmjmpncapodlaaaFnG
set_option linter.all false
set_option linter.unusedVariables false
set_option linter.unusedSimpArgs false
set_option pp.maxSteps 150
set_option maxRecDepth 100000
namespace Go.Eng
open Go Go.Proofs
def chainBad (l : List SpotV) (i : Nat) : Bool := decide (l.getD i ⟨0, 0⟩ ∈ l.take i) || (decide (0 < i) && decide (sideTo (l.getD (i - 1) ⟨0, 0⟩) (l.getD i ⟨0, 0⟩) < 0))
def chainV (l : List SpotV) : Bool := (List.range l.length).all (fun i => !chainBad l i) && (decide (1 ≤ l.length) && decide (l.length ≤ 12))
theorem chainV_bad {l : List SpotV} (i : Nat) (h : (i : Int) < l.length) (hb : chainBad l i = true) : false = chainV l := by
  unfold chainV
  symm
  rw [Bool.and_eq_false_iff]
  left
  rw [List.all_eq_false]
  exact ⟨i, List.mem_range.2 (by omega), by simp [hb]⟩
theorem chainV_good {l : List SpotV} {i : Nat} (h : ¬ (i : Int) < l.length) (hb : ∀ j, j < i → chainBad l j = false) : chainV l = (decide (1 ≤ (l.length : Int)) && decide ((l.length : Int) ≤ 12)) := by
  unfold chainV
  rw [List.all_eq_true.2 (fun x hx => by rw [hb x (by have := List.mem_range.1 hx; omega)]; rfl), Bool.true_and]
  congr 1 <;> (rw [Bool.eq_iff_iff]; simp; try omega)
theorem take_file {l : List SpotV} {n : Nat} {i : Nat} {g : Nat → List SV} (hi : i ≤ l.length) (hn : n = i) (hg : ∀ j, j < i → g j = fileG l j) : SLe (.rs n 2 g) (fileS (l.take i)) := by
  refine SLe.rs' (by simp; omega) (fun j hj => ?_)
  have : j < i := by simp at hj; omega
  rw [hg j this]
  simp [fileG, List.getD_eq_getElem?_getD, List.getElem?_take, this]
theorem chainBad_mem {l : List SpotV} {i : Nat} (h : l.getD (i : Int).toNat ⟨0, 0⟩ ∈ l.take i) : chainBad l i = true := by
  rw [Int.toNat_natCast] at h
  unfold chainBad; rw [decide_eq_true h]; rfl
theorem chainBad_side {l : List SpotV} {i : Nat} (h1 : (i : Int) > 0) (h2 : sideTo (l.getD ((i : Int) - 1).toNat ⟨0, 0⟩) (l.getD (i : Int).toNat ⟨0, 0⟩) < 0) : chainBad l i = true := by
  rw [Int.toNat_natCast, show ((i : Int) - 1).toNat = i - 1 by omega] at h2
  unfold chainBad; rw [decide_eq_true h2, decide_eq_true (show 0 < i by omega)]; simp
theorem chainBad_no {l : List SpotV} {i : Nat} (h : ¬ l.getD (i : Int).toNat ⟨0, 0⟩ ∈ l.take i) (h1 : (i : Int) > 0 → ¬ sideTo (l.getD ((i : Int) - 1).toNat ⟨0, 0⟩) (l.getD (i : Int).toNat ⟨0, 0⟩) < 0) : chainBad l i = false := by
  rw [Int.toNat_natCast] at h
  unfold chainBad; rw [decide_eq_false h, Bool.false_or]
  by_cases hi : 0 < i
  · have := h1 (by omega)
    rw [Int.toNat_natCast, show ((i : Int) - 1).toNat = i - 1 by omega] at this
    rw [decide_eq_false this]; simp
  · rw [decide_eq_false hi]; rfl
theorem below {P : Nat → Prop} {i : Nat} (h : ∀ j, j < i → P j) (hi : P i) : ∀ j, j < i + 1 → P j := fun j hj => by
  rcases Nat.lt_or_ge j i with hlt | hge
  · exact h j hlt
  · have : j = i := by omega
    subst this; exact hi
attribute [irreducible] chainBad
theorem spec56 (l : List SpotV) : Spec Try.prog 56 [fileS l] (i64 l.length) := by
  refine spec_vc trX_ok follows_ok ⟨[], [], []⟩ Try.func56 rfl rfl ?_
  repeat' ((conv => whnf); first
    | exact trivial
    | refine And.intro ⟨(by first | exact trivial | (and_intros <;> exact trivial) | (unfold inI64; omega) | omega | (simp only [and_true, true_and, inI64, Int.toNat_natCast]; omega))⟩ ?_
    | refine And.intro (SLe.refl _) ?_
    | refine And.intro (ChLe.refl _) ?_
    | refine NbP.mk (fun _ => ?_) ?_
    | refine BS.dec (fun _ => ?_) (fun _ => ?_)
    | refine BS.eq (fun _ => ?_) (fun _ => ?_)
    | refine BS.ne (fun _ => ?_) (fun _ => ?_)
    | refine BS.nt ?_
    | refine BS.an ?_
    | refine BS.or ?_
    | refine BS.mk (fun _ => ?_) (fun _ => ?_)
    | refine RegP.mk (by kernel_rfl)
    | refine EqP.mk (SLe.refl _)
    | refine EqP.b ?_
    | refine EqP.bb ?_
    | refine EqP.int ?_
    | exact (rfl : okRen _ _ _ = true)
    | exact SLe.refl _
    | exact ChLe.refl _
    | refine And.intro ?_ ?_)
theorem spec18 (n : Nat) (g : Nat → List SV) : Spec Try.prog 18 [.rs n 1 g] (i64 n) := by
  refine spec_vc trX_ok follows_ok ⟨[], [], []⟩ Try.func18 rfl rfl ?_
  repeat' ((conv => whnf); first
    | exact trivial
    | refine And.intro ⟨(by first | exact trivial | (and_intros <;> exact trivial) | (unfold inI64; omega) | omega | (simp only [and_true, true_and, inI64, Int.toNat_natCast]; omega))⟩ ?_
    | refine And.intro (SLe.refl _) ?_
    | refine And.intro (ChLe.refl _) ?_
    | refine NbP.mk (fun _ => ?_) ?_
    | refine BS.dec (fun _ => ?_) (fun _ => ?_)
    | refine BS.eq (fun _ => ?_) (fun _ => ?_)
    | refine BS.ne (fun _ => ?_) (fun _ => ?_)
    | refine BS.nt ?_
    | refine BS.an ?_
    | refine BS.or ?_
    | refine BS.mk (fun _ => ?_) (fun _ => ?_)
    | refine RegP.mk (by kernel_rfl)
    | refine EqP.mk (SLe.refl _)
    | refine EqP.b ?_
    | refine EqP.bb ?_
    | refine EqP.int ?_
    | exact (rfl : okRen _ _ _ = true)
    | exact SLe.refl _
    | exact ChLe.refl _
    | refine And.intro ?_ ?_)
theorem spec25 (p : Bool) (c : Int) : Spec Try.prog 25 [bl p, i64 c] (i64 (if p then 0 else c)) := by
  refine spec_vc trX_ok follows_ok ⟨[], [], []⟩ Try.func25 rfl rfl ?_
  repeat' ((conv => whnf); first
    | exact trivial
    | refine And.intro ⟨(by first | exact trivial | (and_intros <;> exact trivial) | (unfold inI64; omega) | omega | (simp only [and_true, true_and, inI64, Int.toNat_natCast]; omega))⟩ ?_
    | refine And.intro (SLe.refl _) ?_
    | refine And.intro (ChLe.refl _) ?_
    | refine NbP.mk (fun _ => ?_) ?_
    | refine BS.dec (fun _ => ?_) (fun _ => ?_)
    | refine BS.eq (fun _ => ?_) (fun _ => ?_)
    | refine BS.ne (fun _ => ?_) (fun _ => ?_)
    | refine BS.nt ?_
    | refine BS.an ?_
    | refine BS.or ?_
    | refine BS.mk (fun _ => ?_) (fun _ => ?_)
    | refine RegP.mk (by kernel_rfl)
    | refine EqP.mk (SLe.refl _)
    | refine EqP.b ?_
    | refine EqP.bb ?_
    | refine EqP.int ?_
    | exact (rfl : okRen _ _ _ = true)
    | exact SLe.refl _
    | exact ChLe.refl _
    | refine And.intro ?_ ?_)
  all_goals simp_all
theorem spec49 (l : List SpotV) (hl : (l.length : Int) ≤ 9223372036854775807) : Spec Try.prog 49 [fileS l] (bl (chainV l)) := by
  refine spec_vc trX_ok follows_ok ⟨[], [], []⟩ Try.func49 rfl rfl ?_
  repeat' ((conv => whnf); first
    | exact trivial
    | refine And.intro ⟨(by first | exact trivial | (and_intros <;> exact trivial) | (unfold inI64; omega) | omega | (simp only [and_true, true_and, inI64, Int.toNat_natCast]; omega))⟩ ?_
    | refine And.intro (SLe.refl _) ?_
    | refine And.intro (ChLe.refl _) ?_
    | refine NbP.mk (fun _ => ?_) ?_
    | refine BS.dec (fun _ => ?_) (fun _ => ?_)
    | refine BS.eq (fun _ => ?_) (fun _ => ?_)
    | refine BS.ne (fun _ => ?_) (fun _ => ?_)
    | refine BS.nt ?_
    | refine BS.an ?_
    | refine BS.or ?_
    | refine BS.mk (fun _ => ?_) (fun _ => ?_)
    | refine RegP.mk (by kernel_rfl)
    | refine EqP.mk (SLe.refl _)
    | refine EqP.b ?_
    | refine EqP.bb ?_
    | refine EqP.int ?_
    | exact (rfl : okRen _ _ _ = true)
    | exact SLe.refl _
    | exact ChLe.refl _
    | refine And.intro ?_ ?_)
  conv => whnf
  refine LoopP.intro (α := Nat) (fun i => [(7, i64 i)]) (fun _ => []) (fun i => i ≤ l.length ∧ ∀ j, j < i → chainBad l j = false) (fun i => l.length - i) 0 ?_ ?_ ⟨by omega, fun j hj => by omega⟩ (fun i hi => ?_)
  rotate_left 2
  have hi1 : i ≤ l.length := hi.1
  have hi2 : ∀ j, j < i → chainBad l j = false := hi.2
  repeat' ((conv => whnf); first
    | exact trivial
    | refine CallP.mk ⟨_, .inl ⟨rfl, Spec.conv (spec43 (l.take i) _ (by simp; omega)) ⟨take_file hi1 (by simp) (fun j hj => by simp), SLe.refl _, trivial⟩ (SLe.refl _)⟩, ?_⟩
    | refine CallP.mk ⟨_, .inl ⟨rfl, (spec55 _ _)⟩, ?_⟩
    | refine CallP.mk ⟨_, .inl ⟨rfl, (spec56 _)⟩, ?_⟩
    | refine CallP.mk ⟨_, .inl ⟨rfl, (spec40 _ _ _)⟩, ?_⟩
    | first | refine EqP.b (chainV_bad i (by assumption) (chainBad_mem (by assumption))) | refine EqP.bb (chainV_bad i (by assumption) (chainBad_mem (by assumption)))
    | first | refine EqP.b (chainV_bad i (by assumption) (chainBad_side (by assumption) (by assumption))) | refine EqP.bb (chainV_bad i (by assumption) (chainBad_side (by assumption) (by assumption)))
    | first | refine EqP.b (chainV_good (by assumption) hi2).symm | refine EqP.bb (chainV_good (by assumption) hi2).symm
    | refine BackP.intro [] (i + 1) rfl ?_ ?_ ⟨by omega, below hi2 (chainBad_no (by assumption) (fun h => by first | assumption | (exfalso; omega)))⟩ (by omega)
    | refine And.intro ⟨(by first | exact trivial | (and_intros <;> exact trivial) | (unfold inI64; omega) | omega | (simp only [and_true, true_and, inI64, Int.toNat_natCast]; omega))⟩ ?_
    | refine And.intro (SLe.refl _) ?_
    | refine And.intro (ChLe.refl _) ?_
    | refine NbP.mk (fun _ => ?_) ?_
    | refine BS.dec (fun _ => ?_) (fun _ => ?_)
    | refine BS.eq (fun _ => ?_) (fun _ => ?_)
    | refine BS.ne (fun _ => ?_) (fun _ => ?_)
    | refine BS.nt ?_
    | refine BS.an ?_
    | refine BS.or ?_
    | refine BS.mk (fun _ => ?_) (fun _ => ?_)
    | refine RegP.mk (by kernel_rfl)
    | refine EqP.mk (SLe.refl _)
    | refine EqP.b ?_
    | refine EqP.bb ?_
    | refine EqP.int ?_
    | exact (rfl : okRen _ _ _ = true)
    | exact SLe.refl _
    | exact ChLe.refl _
    | refine And.intro ?_ ?_)
  all_goals trace_state
theorem spec47 (l : List SpotV) (hl : (l.length : Int) ≤ 9223372036854775807) : Spec Try.prog 47 [fileS l] (bl (chainV l)) := by
  refine spec_vc trX_ok follows_ok ⟨[], [], []⟩ Try.func47 rfl rfl ?_
  conv => whnf
  refine LoopP.intro (α := Nat) (fun i => [(3, i64 i)]) (fun _ => []) (fun i => i ≤ l.length ∧ ∀ j, j < i → chainBad l j = false) (fun i => l.length - i) 0 ?_ ?_ ⟨by omega, fun j hj => by omega⟩ (fun i hi => ?_)
  rotate_left 2
  have hi1 : i ≤ l.length := hi.1
  have hi2 : ∀ j, j < i → chainBad l j = false := hi.2
  repeat' ((conv => whnf); first
    | exact trivial
    | refine CallP.mk ⟨_, .inl ⟨rfl, Spec.conv (spec36 (l.take i) _ (by simp; omega)) ⟨take_file hi1 (by simp) (fun j hj => by simp), SLe.refl _, trivial⟩ (SLe.refl _)⟩, ?_⟩
    | refine CallP.mk ⟨_, .inl ⟨rfl, (spec54 _ _)⟩, ?_⟩
    | refine CallP.mk ⟨_, .inl ⟨rfl, (spec46 _ _ _)⟩, ?_⟩
    | first | refine EqP.b (chainV_bad i (by assumption) (chainBad_mem (by assumption))) | refine EqP.bb (chainV_bad i (by assumption) (chainBad_mem (by assumption)))
    | first | refine EqP.b (chainV_bad i (by assumption) (chainBad_side (by assumption) (by assumption))) | refine EqP.bb (chainV_bad i (by assumption) (chainBad_side (by assumption) (by assumption)))
    | first | refine EqP.b (chainV_good (by assumption) hi2).symm | refine EqP.bb (chainV_good (by assumption) hi2).symm
    | refine BackP.intro [] (i + 1) rfl ?_ ?_ ⟨by omega, below hi2 (chainBad_no (by assumption) (fun h => by first | assumption | (exfalso; omega)))⟩ (by omega)
    | refine And.intro ⟨(by first | exact trivial | (and_intros <;> exact trivial) | (unfold inI64; omega) | omega | (simp only [and_true, true_and, inI64, Int.toNat_natCast]; omega))⟩ ?_
    | refine And.intro (SLe.refl _) ?_
    | refine And.intro (ChLe.refl _) ?_
    | refine NbP.mk (fun _ => ?_) ?_
    | refine BS.dec (fun _ => ?_) (fun _ => ?_)
    | refine BS.eq (fun _ => ?_) (fun _ => ?_)
    | refine BS.ne (fun _ => ?_) (fun _ => ?_)
    | refine BS.nt ?_
    | refine BS.an ?_
    | refine BS.or ?_
    | refine BS.mk (fun _ => ?_) (fun _ => ?_)
    | refine RegP.mk (by kernel_rfl)
    | refine EqP.mk (SLe.refl _)
    | refine EqP.b ?_
    | refine EqP.bb ?_
    | refine EqP.int ?_
    | exact (rfl : okRen _ _ _ = true)
    | exact SLe.refl _
    | exact ChLe.refl _
    | refine And.intro ?_ ?_)
  all_goals trace_state
attribute [irreducible] chainV
def fileOkV (r : RoomV) (l : List SpotV) : Bool := l.all (fun p => freeV r p) && chainV l
theorem all_bad {r : RoomV} {l : List SpotV} {i : Nat} (h : (i : Int) < l.length) (hn : freeV r (l.getD (i : Int).toNat ⟨0, 0⟩) = false) : false = fileOkV r l := by
  rw [Int.toNat_natCast] at hn
  unfold fileOkV; symm
  rw [Bool.and_eq_false_iff]; left
  rw [List.all_eq_false]
  exact ⟨_, getD_mem h, by rw [hn]; simp⟩
theorem all_good {r : RoomV} {l : List SpotV} {i : Nat} (h : ¬ (i : Int) < l.length) (hn : ∀ j, j < i → freeV r (l.getD j ⟨0, 0⟩) = true) : chainV l = fileOkV r l := by
  unfold fileOkV
  rw [List.all_eq_true.2, Bool.true_and]
  intro x hx
  obtain ⟨j, hj, rfl⟩ := List.getElem_of_mem hx
  have := hn j (by omega)
  rwa [getD_lt hj] at this
theorem spec32 (r : RoomV) (l : List SpotV) (hr : RoomS r) (hp : ∀ p ∈ l, SpotOk p) (hl : (l.length : Int) ≤ 9223372036854775807) : Spec Try.prog 32 [.rp (roomC r), fileS l] (bl (fileOkV r l)) := by
  refine spec_vc trX_ok follows_ok ⟨[], [], []⟩ Try.func32 rfl rfl ?_
  conv => whnf
  refine LoopP.intro (α := Nat) (fun i => [(5, i64 i)]) (fun _ => []) (fun i => i ≤ l.length ∧ ∀ j, j < i → freeV r (l.getD j ⟨0, 0⟩) = true) (fun i => l.length - i) 0 ?_ ?_ ⟨by omega, fun j hj => by omega⟩ (fun i hi => ?_)
  rotate_left 2
  have hi1 : i ≤ l.length := hi.1
  have hi2 : ∀ j, j < i → freeV r (l.getD j ⟨0, 0⟩) = true := hi.2
  repeat' ((conv => whnf); first
    | exact trivial
    | refine CallP.mk ⟨_, .inl ⟨rfl, (spec35 r _ hr (hp _ (getD_mem (by omega))))⟩, ?_⟩
    | refine CallP.mk ⟨_, .inl ⟨rfl, (spec47 _ hl)⟩, ?_⟩
    | first | refine EqP.b (all_bad (by assumption) (by assumption)) | refine EqP.bb (all_bad (by assumption) (by assumption))
    | first | refine EqP.b (all_good (by assumption) hi2) | refine EqP.bb (all_good (by assumption) hi2)
    | refine BackP.intro [] (i + 1) rfl ?_ ?_ ⟨by omega, below hi2 (by assumption)⟩ (by omega)
    | refine And.intro ⟨(by first | exact trivial | (and_intros <;> exact trivial) | (unfold inI64; omega) | omega | (simp only [and_true, true_and, inI64, Int.toNat_natCast]; omega))⟩ ?_
    | refine And.intro (SLe.refl _) ?_
    | refine And.intro (ChLe.refl _) ?_
    | refine NbP.mk (fun _ => ?_) ?_
    | refine BS.dec (fun _ => ?_) (fun _ => ?_)
    | refine BS.eq (fun _ => ?_) (fun _ => ?_)
    | refine BS.ne (fun _ => ?_) (fun _ => ?_)
    | refine BS.nt ?_
    | refine BS.an ?_
    | refine BS.or ?_
    | refine BS.mk (fun _ => ?_) (fun _ => ?_)
    | refine RegP.mk (by kernel_rfl)
    | refine EqP.mk (SLe.refl _)
    | refine EqP.b ?_
    | refine EqP.bb ?_
    | refine EqP.int ?_
    | exact (rfl : okRen _ _ _ = true)
    | exact SLe.refl _
    | exact ChLe.refl _
    | refine And.intro ?_ ?_)
  all_goals trace_state
theorem spec20 (r : RoomV) (l : List SpotV) (hr : RoomOk r) (hp : ∀ p ∈ l, SpotOk p) (hl : (l.length : Int) ≤ 9223372036854775807) : Spec Try.prog 20 [.rp (roomC r), fileS l] (bl (validV r && fileOkV r l)) := by
  refine spec_vc trX_ok follows_ok ⟨[], [], []⟩ Try.func20 rfl rfl ?_
  repeat' ((conv => whnf); first
    | exact trivial
    | refine CallP.mk ⟨_, .inl ⟨rfl, (spec31 _ hr)⟩, ?_⟩
    | refine CallP.mk ⟨_, .inl ⟨rfl, (spec32 _ _ (RoomS.of hr (by assumption)) hp hl)⟩, ?_⟩
    | refine And.intro ⟨(by first | exact trivial | (and_intros <;> exact trivial) | (unfold inI64; omega) | omega | (simp only [and_true, true_and, inI64, Int.toNat_natCast]; omega))⟩ ?_
    | refine And.intro (SLe.refl _) ?_
    | refine And.intro (ChLe.refl _) ?_
    | refine NbP.mk (fun _ => ?_) ?_
    | refine BS.dec (fun _ => ?_) (fun _ => ?_)
    | refine BS.eq (fun _ => ?_) (fun _ => ?_)
    | refine BS.ne (fun _ => ?_) (fun _ => ?_)
    | refine BS.nt ?_
    | refine BS.an ?_
    | refine BS.or ?_
    | refine BS.mk (fun _ => ?_) (fun _ => ?_)
    | refine RegP.mk (by kernel_rfl)
    | refine EqP.mk (SLe.refl _)
    | refine EqP.b ?_
    | refine EqP.bb ?_
    | refine EqP.int ?_
    | exact (rfl : okRen _ _ _ = true)
    | exact SLe.refl _
    | exact ChLe.refl _
    | refine And.intro ?_ ?_)
  all_goals simp_all
theorem any_not {α : Type} (f : α → Bool) (l : List α) : (l.any fun x => !f x) = !l.all f := by
  induction l with
  | nil => rfl
  | cons x l ih => simp only [List.any_cons, List.all_cons, ih]; cases f x <;> simp
theorem spec51 (r : RoomV) (p : SpotV) (hr : RoomS r) (hp : SpotOk p) : Spec Try.prog 51 [spotS p, .rp (roomC r)] (bl (!freeV r p)) := by
  refine spec_vc trX_ok follows_ok ⟨[], [], []⟩ Try.func51 rfl rfl ?_
  repeat' ((conv => whnf); first
    | exact trivial
    | refine CallP.mk ⟨_, .inl ⟨rfl, (spec42 _ _ hr hp)⟩, ?_⟩
    | refine And.intro ⟨(by first | exact trivial | (and_intros <;> exact trivial) | (unfold inI64; omega) | omega | (simp only [and_true, true_and, inI64, Int.toNat_natCast]; omega))⟩ ?_
    | refine And.intro (SLe.refl _) ?_
    | refine And.intro (ChLe.refl _) ?_
    | refine NbP.mk (fun _ => ?_) ?_
    | refine BS.dec (fun _ => ?_) (fun _ => ?_)
    | refine BS.eq (fun _ => ?_) (fun _ => ?_)
    | refine BS.ne (fun _ => ?_) (fun _ => ?_)
    | refine BS.nt ?_
    | refine BS.an ?_
    | refine BS.or ?_
    | refine BS.mk (fun _ => ?_) (fun _ => ?_)
    | refine RegP.mk (by kernel_rfl)
    | refine EqP.mk (SLe.refl _)
    | refine EqP.b ?_
    | refine EqP.bb ?_
    | refine EqP.int ?_
    | exact (rfl : okRen _ _ _ = true)
    | exact SLe.refl _
    | exact ChLe.refl _
    | refine And.intro ?_ ?_)
  all_goals simp_all
theorem spec38 (r : RoomV) (l : List SpotV) (hr : RoomS r) (hp : ∀ p ∈ l, SpotOk p) (hl : (l.length : Int) ≤ 9223372036854775807) : Spec Try.prog 38 [fileS l, roomS r] (bl (fileOkV r l)) := by
  refine spec_vc trX_ok follows_ok ⟨[3], [], []⟩ Try.func38 rfl rfl ?_
  repeat' ((conv => whnf); first
    | exact trivial
    | refine CallP.mk ⟨_, .inl ⟨rfl, (spec49 _ hl)⟩, ?_⟩
    | refine CallP.mk ⟨_, .inl ⟨rfl, spec50 l _ _ (fun x => !freeV r x) rfl (fun i hi => spec51 r _ hr (hp _ (getD_mem (by omega)))) hl⟩, ?_⟩
    | refine And.intro ⟨(by first | exact trivial | (and_intros <;> exact trivial) | (unfold inI64; omega) | omega | (simp only [and_true, true_and, inI64, Int.toNat_natCast]; omega))⟩ ?_
    | refine And.intro (SLe.refl _) ?_
    | refine And.intro (ChLe.refl _) ?_
    | refine NbP.mk (fun _ => ?_) ?_
    | refine BS.dec (fun _ => ?_) (fun _ => ?_)
    | refine BS.eq (fun _ => ?_) (fun _ => ?_)
    | refine BS.ne (fun _ => ?_) (fun _ => ?_)
    | refine BS.nt ?_
    | refine BS.an ?_
    | refine BS.or ?_
    | refine BS.mk (fun _ => ?_) (fun _ => ?_)
    | refine RegP.mk (by kernel_rfl)
    | refine EqP.mk (SLe.refl _)
    | refine EqP.b ?_
    | refine EqP.bb ?_
    | refine EqP.int ?_
    | exact (rfl : okRen _ _ _ = true)
    | exact SLe.refl _
    | exact ChLe.refl _
    | refine And.intro ?_ ?_)
  all_goals (simp_all [fileOkV, any_not])
theorem spec24 (r : RoomV) (l : List SpotV) (hr : RoomOk r) (hp : ∀ p ∈ l, SpotOk p) (hl : (l.length : Int) ≤ 9223372036854775807) : Spec Try.prog 24 [roomS r, fileS l] (bl (validV r && fileOkV r l)) := by
  refine spec_vc trX_ok follows_ok ⟨[], [], []⟩ Try.func24 rfl rfl ?_
  repeat' ((conv => whnf); first
    | exact trivial
    | refine CallP.mk ⟨_, .inl ⟨rfl, (spec37 _ hr)⟩, ?_⟩
    | refine CallP.mk ⟨_, .inl ⟨rfl, (spec38 _ _ (RoomS.of hr (by assumption)) hp hl)⟩, ?_⟩
    | refine And.intro ⟨(by first | exact trivial | (and_intros <;> exact trivial) | (unfold inI64; omega) | omega | (simp only [and_true, true_and, inI64, Int.toNat_natCast]; omega))⟩ ?_
    | refine And.intro (SLe.refl _) ?_
    | refine And.intro (ChLe.refl _) ?_
    | refine NbP.mk (fun _ => ?_) ?_
    | refine BS.dec (fun _ => ?_) (fun _ => ?_)
    | refine BS.eq (fun _ => ?_) (fun _ => ?_)
    | refine BS.ne (fun _ => ?_) (fun _ => ?_)
    | refine BS.nt ?_
    | refine BS.an ?_
    | refine BS.or ?_
    | refine BS.mk (fun _ => ?_) (fun _ => ?_)
    | refine RegP.mk (by kernel_rfl)
    | refine EqP.mk (SLe.refl _)
    | refine EqP.b ?_
    | refine EqP.bb ?_
    | refine EqP.int ?_
    | exact (rfl : okRen _ _ _ = true)
    | exact SLe.refl _
    | exact ChLe.refl _
    | refine And.intro ?_ ?_)
  all_goals simp_all
attribute [irreducible] fileOkV
end Go.Eng
