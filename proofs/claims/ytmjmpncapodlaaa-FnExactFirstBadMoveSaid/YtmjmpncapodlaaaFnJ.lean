/- A part of the proof that the law of this seat answers true for every input, without a condition. -/
import Derived.Test.YtmjmpncapodlaaaFnI
set_option linter.all false
set_option linter.unusedVariables false
set_option linter.unusedSimpArgs false
set_option pp.maxSteps 150
set_option maxRecDepth 100000
namespace Go.Eng
open Go Go.Proofs
/-- The file behind a move. -/
def movedV (l : List SpotV) (m : Int) : List SpotV := if m = 4 then l.reverse else if m < 4 then nextV (l.getD 0 ⟨0, 0⟩) m :: l.dropLast else l
theorem movedV_len {l : List SpotV} {m : Int} (h : 1 ≤ l.length) : (movedV l m).length = l.length := by
  unfold movedV; split
  · simp
  · split
    · simp; omega
    · rfl
theorem movedV_go {l : List SpotV} {m : Int} (h : 1 ≤ l.length) (h4 : ¬ m = 4) (hm : m < 4) (v : List SV) (hv : v = spotC (nextV (l.getD (Int.toNat 0) ⟨0, 0⟩) m)) {n : Nat} (hn : n = l.length - 1) {j : Nat} (hj : j < l.length) :
    setG (copyG (fileG l) (Int.toNat 1) n (fileG l)) (0 + Int.toNat 0) v j = fileG (movedV l m) j := by
  subst hv; subst hn
  unfold movedV
  rw [if_neg h4, if_pos hm, setG_eq]
  by_cases h0 : j = 0
  · subst h0; simp [fileG]
  · rw [if_neg (by simpa using h0), copyG_eq, if_pos (by simp; omega)]
    obtain ⟨j, rfl⟩ : ∃ i, j = i + 1 := ⟨j - 1, by omega⟩
    unfold fileG
    rw [getD_lt (by simp; omega), getD_lt (by simp; omega)]
    simp
theorem movedV_turn {l : List SpotV} {m : Int} (h4 : m = 4) (j : Nat) : spotC (l.reverse.getD j ⟨0, 0⟩) = fileG (movedV l m) j := by
  unfold movedV; rw [if_pos h4]; rfl
theorem movedV_wait {l : List SpotV} {m : Int} (h4 : ¬ m = 4) (hm : ¬ m < 4) (j : Nat) : fileG l j = fileG (movedV l m) j := by
  unfold movedV; rw [if_neg h4, if_neg hm]
theorem min_one {n : Nat} : n.min ((n : Int).toNat - Int.toNat 1) = n - 1 := by
  rw [Int.toNat_natCast]; exact Nat.min_eq_right (by show n - 1 ≤ n; omega)
theorem specE30 (l : List SpotV) (m : Int) (h : 1 ≤ l.length) (hl : l.length ≤ 1048576) : CallOkE Try.prog [] 30 [fileS l, i64 m] (.mr 0 0 l.length 2) [.row l.length 2 47 (fileG (movedV l m))] := by
  refine specE_vc trX_ok follows_ok ⟨[7, 12], [], []⟩ Try.func30 rfl rfl ?_
  repeat' ((conv => whnf); first
    | exact trivial
    | refine CallE.mk ⟨_, _, CallOkE.sub [] (specE44 l hl) rfl rfl rfl rfl ?_ ?_, ?_⟩
    | refine CallE.mk ⟨_, _, CallOkE.sub [0] (specE45 l hl) rfl rfl rfl rfl ?_ ?_, ?_⟩
    | refine other_copy trX_ok rfl rfl rfl rfl rfl rfl trivial (by omega) ?_
    | refine CallP.mk ⟨_, .inl ⟨rfl, (spec41 _ _)⟩, ?_⟩
    | (refine EndP.mk ⟨[], [0], ?_⟩; (conv => whnf); refine And.intro rfl ?_)
    | exact ChLe.row (fun j hj => movedV_turn (by assumption) j)
    | exact ChLe.row (fun j hj => movedV_go h (by assumption) (by assumption) _ rfl min_one hj)
    | exact ChLe.row (fun j hj => movedV_wait (by assumption) (by assumption) j)
    | refine And.intro ⟨(by first | exact trivial | (and_intros <;> exact trivial) | (unfold inI64; omega) | omega | (simp only [and_true, true_and, inI64, Int.toNat_natCast]; omega))⟩ ?_
    | refine And.intro (SLe.refl _) ?_
    | refine And.intro (ChLe.refl _) ?_
    | refine NbP.mk (fun _ => ?_) ?_
    | refine BS.dec (fun _ => ?_) (fun _ => ?_)
    | refine BS.eq (fun _ => ?_) (fun _ => ?_)
    | refine BS.ne (fun _ => ?_) (fun _ => ?_)
    | refine BS.nt ?_
    | refine BS.an ?_
    | refine BS.or ?_
    | refine BS.mk (fun _ => ?_) (fun _ => ?_)
    | refine RegP.mk (by kernel_rfl)
    | refine EqP.mk (SLe.refl _)
    | refine EqP.b ?_
    | refine EqP.bb ?_
    | refine EqP.int ?_
    | exact (rfl : okRen _ _ _ = true)
    | exact SLe.refl _
    | exact ChLe.refl _
    | refine And.intro ?_ ?_)
  all_goals (try (conv => whnf)); trace_state
theorem file_le {l m : List SpotV} {n : Nat} {g : Nat → List SV} (hn : n = m.length) (hg : ∀ j, j < m.length → g j = fileG m j) : SLe (.rs n 2 g) (fileS m) := SLe.rs' hn hg
theorem spec30 (l : List SpotV) (m : Int) (h : 1 ≤ l.length) (hl : l.length ≤ 1048576) : Spec Try.prog 30 [fileS l, i64 m] (fileS (movedV l m)) :=
  (Spec.ofE (specE30 l m h hl) rfl (by omega)).conv ⟨SLe.refl _, SLe.refl _, trivial⟩ (SLe.rs' (movedV_len h).symm (fun j hj => by rw [Nat.zero_add]))

/-- One element more, at the end of what has been taken. -/
theorem take_cat {l : List SpotV} {i : Nat} {g : Nat → List SV} (hi : i < l.length) (hg : g 0 = spotC (l.getD i ⟨0, 0⟩)) {j : Nat} (hj : j < i + 1) : catG (fileG (l.take i)) i g j = fileG (l.take (i + 1)) j := by
  rw [catG_eq]
  by_cases h : j < i
  · rw [if_pos h]; simp [fileG, List.getD_eq_getElem?_getD, List.getElem?_take, h, show j < i + 1 by omega]
  · have : j = i := by omega
    subst this
    rw [if_neg h, Nat.sub_self, hg]
    simp [fileG, List.getD_eq_getElem?_getD, List.getElem?_take]
theorem made_go {l : List SpotV} {m : Int} (h : 1 ≤ l.length) (h4 : ¬ m = 4) (hm : m < 4) {f g g' : Nat → List SV} (hf : g 0 = spotC (nextV (l.getD (Int.toNat 0) ⟨0, 0⟩) m)) (hg : ∀ j, g' j = fileG l j) {j : Nat} (hj : j < l.length) : catG (catG f 0 g) 1 g' j = fileG (movedV l m) j := by
  unfold movedV
  rw [if_neg h4, if_pos hm, catG_eq]
  by_cases h0 : j < 1
  · rw [if_pos h0, catG_zero]
    have : j = 0 := by omega
    subst this
    rw [hf]; rfl
  · rw [if_neg h0]
    obtain ⟨j, rfl⟩ : ∃ i, j = i + 1 := ⟨j - 1, by omega⟩
    rw [Nat.add_sub_cancel, hg]
    unfold fileG
    rw [getD_lt (by omega), getD_lt (by simp; omega)]
    simp
theorem rev_at {l : List SpotV} {i : Nat} (h : (0 : Int) ≤ (l.length : Int) - 1 - i) : l.getD ((l.length : Int) - 1 - i).toNat ⟨0, 0⟩ = l.reverse.getD i ⟨0, 0⟩ := by
  rw [rev_get (by omega), show ((l.length : Int) - 1 - i).toNat = l.length - 1 - i by omega]
theorem specE23 (l : List SpotV) (m : Int) (h : 1 ≤ l.length) (hl : l.length ≤ 1048576) (hm : m ≤ 5) : CallOkE Try.prog [] 23 [fileS l, i64 m] (.mr 0 0 l.length 2) [.row l.length 2 47 (fileG (movedV l m))] := by
  refine specE_vc trX_ok follows_ok ⟨[], [], []⟩ Try.func23 rfl rfl ?_
  repeat' ((conv => whnf); first
    | exact trivial
    | refine CallP.mk ⟨_, .inl ⟨rfl, (spec34 _ _)⟩, ?_⟩
    | (refine EndP.mk ⟨[], [2], ?_⟩; (conv => whnf); refine And.intro rfl ?_)
    | (refine EndP.mk ⟨[], [1], ?_⟩; (conv => whnf); refine And.intro rfl ?_)
    | exact SLe.mr' (by omega)
    | exact ChLe.row' (by omega) (fun j hj => by rw [catG_zero]; exact movedV_wait (by omega) (by omega) j)
    | exact ChLe.row' (by omega) (fun j hj => made_go h (by assumption) (by omega) rfl (fun j => by simp) hj)
    | refine And.intro ⟨(by first | exact trivial | (and_intros <;> exact trivial) | (unfold inI64; omega) | omega | (simp only [and_true, true_and, inI64, Int.toNat_natCast]; omega))⟩ ?_
    | refine And.intro (SLe.refl _) ?_
    | refine And.intro (ChLe.refl _) ?_
    | refine NbP.mk (fun _ => ?_) ?_
    | refine BS.dec (fun _ => ?_) (fun _ => ?_)
    | refine BS.eq (fun _ => ?_) (fun _ => ?_)
    | refine BS.ne (fun _ => ?_) (fun _ => ?_)
    | refine BS.nt ?_
    | refine BS.an ?_
    | refine BS.or ?_
    | refine BS.mk (fun _ => ?_) (fun _ => ?_)
    | refine RegP.mk (by kernel_rfl)
    | refine EqP.mk (SLe.refl _)
    | refine EqP.b ?_
    | refine EqP.bb ?_
    | refine EqP.int ?_
    | exact (rfl : okRen _ _ _ = true)
    | exact SLe.refl _
    | exact ChLe.refl _
    | refine And.intro ?_ ?_)
  refine LoopP.intro (α := Nat) (fun i => [(5, .mr 0 0 i 2), (6, i64 ((l.length : Int) - 1 - i)), (7, .junk)]) (fun i => [(0, .row i 2 47 (fileG (l.reverse.take i)))]) (fun i => i ≤ l.length) (fun i => l.length - i) 0 ?_ ?_ (by omega) (fun i hi => ?_)
  rotate_left 2
  have hi1 : i ≤ l.length := hi
  repeat' ((conv => whnf); first
    | exact trivial
    | refine BackP.intro [1] (i + 1) rfl ?_ ?_ (by omega) (by omega)
    | refine And.intro (SLe.mr' (by omega)) ?_
    | refine And.intro (SLe.of_eq (congrArg i64 (by omega))) ?_
    | exact ChLe.row' (by omega) (fun j hj => take_cat (by simp; omega) (by exact congrArg spotC (rev_at (by omega))) hj)
    | (refine EndP.mk ⟨[], [0], ?_⟩; (conv => whnf); refine And.intro rfl ?_)
    | exact ChLe.row' (by omega) (fun j hj => by rw [List.take_of_length_le (by simp; omega)]; exact movedV_turn (by assumption) j)
    | exact SLe.mr' (by omega)
    | refine And.intro ⟨(by first | exact trivial | (and_intros <;> exact trivial) | (unfold inI64; omega) | omega | (simp only [and_true, true_and, inI64, Int.toNat_natCast]; omega))⟩ ?_
    | refine And.intro (SLe.refl _) ?_
    | refine And.intro (ChLe.refl _) ?_
    | refine NbP.mk (fun _ => ?_) ?_
    | refine BS.dec (fun _ => ?_) (fun _ => ?_)
    | refine BS.eq (fun _ => ?_) (fun _ => ?_)
    | refine BS.ne (fun _ => ?_) (fun _ => ?_)
    | refine BS.nt ?_
    | refine BS.an ?_
    | refine BS.or ?_
    | refine BS.mk (fun _ => ?_) (fun _ => ?_)
    | refine RegP.mk (by kernel_rfl)
    | refine EqP.mk (SLe.refl _)
    | refine EqP.b ?_
    | refine EqP.bb ?_
    | refine EqP.int ?_
    | exact (rfl : okRen _ _ _ = true)
    | exact SLe.refl _
    | exact ChLe.refl _
    | refine And.intro ?_ ?_)
  all_goals
    repeat' ((conv => whnf); first
      | exact trivial
      | refine And.intro (SLe.mr' (by omega)) ?_
      | refine And.intro (SLe.of_eq (congrArg i64 (by omega))) ?_
      | exact ChLe.row' (by omega) (fun j hj => by omega)
      | refine And.intro ⟨(by first | exact trivial | (and_intros <;> exact trivial) | (unfold inI64; omega) | omega | (simp only [and_true, true_and, inI64, Int.toNat_natCast]; omega))⟩ ?_
      | refine And.intro (SLe.refl _) ?_
      | refine And.intro (ChLe.refl _) ?_
      | refine NbP.mk (fun _ => ?_) ?_
      | refine BS.dec (fun _ => ?_) (fun _ => ?_)
      | refine BS.eq (fun _ => ?_) (fun _ => ?_)
      | refine BS.ne (fun _ => ?_) (fun _ => ?_)
      | refine BS.nt ?_
      | refine BS.an ?_
      | refine BS.or ?_
      | refine BS.mk (fun _ => ?_) (fun _ => ?_)
      | refine RegP.mk (by kernel_rfl)
      | refine EqP.mk (SLe.refl _)
      | refine EqP.b ?_
      | refine EqP.bb ?_
      | refine EqP.int ?_
      | exact (rfl : okRen _ _ _ = true)
      | exact SLe.refl _
      | exact ChLe.refl _
      | refine And.intro ?_ ?_)
theorem spec23 (l : List SpotV) (m : Int) (h : 1 ≤ l.length) (hl : l.length ≤ 1048576) (hm : m ≤ 5) : Spec Try.prog 23 [fileS l, i64 m] (fileS (movedV l m)) :=
  (Spec.ofE (specE23 l m h hl hm) rfl (by omega)).conv ⟨SLe.refl _, SLe.refl _, trivial⟩ (SLe.rs' (movedV_len h).symm (fun j hj => by rw [Nat.zero_add]))
end Go.Eng
