/- A part of the proof that the law of this seat answers true for every input, without a condition. -/
import Derived.Test.YtmjmpncapodlaaaFnK
set_option linter.all false
set_option linter.unusedVariables false
set_option linter.unusedSimpArgs false
set_option pp.maxSteps 150
set_option maxRecDepth 100000
namespace Go.Eng
open Go Go.Proofs
def isMoveV (m : Int) : Bool := decide (0 ≤ m) && decide (m ≤ 5)
theorem spec28 (m : Int) : Spec Try.prog 28 [i64 m] (bl (isMoveV m)) := by
  refine spec_vc trX_ok follows_ok ⟨[], [], []⟩ Try.func28 rfl rfl ?_
  repeat' ((conv => whnf); first
    | exact trivial
    | refine CallP.mk ⟨_, .inl ⟨rfl, (spec40 _ _ _)⟩, ?_⟩
    | refine And.intro ⟨(by first | exact trivial | (and_intros <;> exact trivial) | (unfold inI64; omega) | omega | (simp only [and_true, true_and, inI64, Int.toNat_natCast]; omega))⟩ ?_
    | refine And.intro (SLe.refl _) ?_
    | refine And.intro (ChLe.refl _) ?_
    | refine NbP.mk (fun _ => ?_) ?_
    | refine BS.dec (fun _ => ?_) (fun _ => ?_)
    | refine BS.eq (fun _ => ?_) (fun _ => ?_)
    | refine BS.ne (fun _ => ?_) (fun _ => ?_)
    | refine BS.nt ?_
    | refine BS.an ?_
    | refine BS.or ?_
    | refine BS.mk (fun _ => ?_) (fun _ => ?_)
    | refine RegP.mk (by kernel_rfl)
    | refine EqP.mk (SLe.refl _)
    | refine EqP.b ?_
    | refine EqP.bb ?_
    | refine EqP.int ?_
    | exact (rfl : okRen _ _ _ = true)
    | exact SLe.refl _
    | exact ChLe.refl _
    | refine And.intro ?_ ?_)
  all_goals simp_all [isMoveV]
theorem spec33 (m : Int) : Spec Try.prog 33 [i64 m] (bl (isMoveV m)) := by
  refine spec_vc trX_ok follows_ok ⟨[], [], []⟩ Try.func33 rfl rfl ?_
  repeat' ((conv => whnf); first
    | exact trivial
    | refine CallP.mk ⟨_, .inl ⟨rfl, (spec46 _ _ _)⟩, ?_⟩
    | refine And.intro ⟨(by first | exact trivial | (and_intros <;> exact trivial) | (unfold inI64; omega) | omega | (simp only [and_true, true_and, inI64, Int.toNat_natCast]; omega))⟩ ?_
    | refine And.intro (SLe.refl _) ?_
    | refine And.intro (ChLe.refl _) ?_
    | refine NbP.mk (fun _ => ?_) ?_
    | refine BS.dec (fun _ => ?_) (fun _ => ?_)
    | refine BS.eq (fun _ => ?_) (fun _ => ?_)
    | refine BS.ne (fun _ => ?_) (fun _ => ?_)
    | refine BS.nt ?_
    | refine BS.an ?_
    | refine BS.or ?_
    | refine BS.mk (fun _ => ?_) (fun _ => ?_)
    | refine RegP.mk (by kernel_rfl)
    | refine EqP.mk (SLe.refl _)
    | refine EqP.b ?_
    | refine EqP.bb ?_
    | refine EqP.int ?_
    | exact (rfl : okRen _ _ _ = true)
    | exact SLe.refl _
    | exact ChLe.refl _
    | refine And.intro ?_ ?_)
  all_goals simp_all [isMoveV]
attribute [irreducible] isMoveV
theorem isMoveV_iff {m : Int} : isMoveV m = true ↔ 0 ≤ m ∧ m ≤ 5 := by unfold isMoveV; simp
theorem spec27 (m : Int) : Spec Try.prog 27 [i64 m] (bl (!isMoveV m)) := by
  refine spec_vc trX_ok follows_ok ⟨[], [], []⟩ Try.func27 rfl rfl ?_
  repeat' ((conv => whnf); first
    | exact trivial
    | refine CallP.mk ⟨_, .inl ⟨rfl, (spec28 _)⟩, ?_⟩
    | refine And.intro ⟨(by first | exact trivial | (and_intros <;> exact trivial) | (unfold inI64; omega) | omega | (simp only [and_true, true_and, inI64, Int.toNat_natCast]; omega))⟩ ?_
    | refine And.intro (SLe.refl _) ?_
    | refine And.intro (ChLe.refl _) ?_
    | refine NbP.mk (fun _ => ?_) ?_
    | refine BS.dec (fun _ => ?_) (fun _ => ?_)
    | refine BS.eq (fun _ => ?_) (fun _ => ?_)
    | refine BS.ne (fun _ => ?_) (fun _ => ?_)
    | refine BS.nt ?_
    | refine BS.an ?_
    | refine BS.or ?_
    | refine BS.mk (fun _ => ?_) (fun _ => ?_)
    | refine RegP.mk (by kernel_rfl)
    | refine EqP.mk (SLe.refl _)
    | refine EqP.b ?_
    | refine EqP.bb ?_
    | refine EqP.int ?_
    | exact (rfl : okRen _ _ _ = true)
    | exact SLe.refl _
    | exact ChLe.refl _
    | refine And.intro ?_ ?_)
  all_goals simp_all
theorem told_bad {l : List Int} {i : Nat} (h : (i : Int) < l.length) (hn : isMoveV (l.getD (i : Int).toNat 0) = false) : false = l.all isMoveV := by
  rw [Int.toNat_natCast] at hn
  symm; rw [List.all_eq_false]
  have h' : i < l.length := by omega
  rw [getD_lt h'] at hn
  exact ⟨_, List.getElem_mem h', by rw [hn]; simp⟩
theorem told_good {l : List Int} {i : Nat} (h : ¬ (i : Int) < l.length) (hn : ∀ j, j < i → isMoveV (l.getD j 0) = true) : true = l.all isMoveV := by
  symm; rw [List.all_eq_true]
  intro x hx
  obtain ⟨j, hj, rfl⟩ := List.getElem_of_mem hx
  have := hn j (by omega)
  rwa [getD_lt hj] at this
theorem spec21 (l : List Int) (hl : (l.length : Int) ≤ 9223372036854775807) : Spec Try.prog 21 [intS l] (bl (l.all isMoveV)) := by
  refine spec_vc trX_ok follows_ok ⟨[], [], []⟩ Try.func21 rfl rfl ?_
  conv => whnf
  refine LoopP.intro (α := Nat) (fun i => [(3, i64 i)]) (fun _ => []) (fun i => i ≤ l.length ∧ ∀ j, j < i → isMoveV (l.getD j 0) = true) (fun i => l.length - i) 0 ?_ ?_ ⟨by omega, fun j hj => by omega⟩ (fun i hi => ?_)
  rotate_left 2
  have hi1 : i ≤ l.length := hi.1
  have hi2 : ∀ j, j < i → isMoveV (l.getD j 0) = true := hi.2
  repeat' ((conv => whnf); first
    | exact trivial
    | refine CallP.mk ⟨_, .inl ⟨rfl, (spec33 _)⟩, ?_⟩
    | first | refine EqP.b (told_bad (by assumption) (by assumption)) | refine EqP.bb (told_bad (by assumption) (by assumption))
    | first | refine EqP.b (told_good (by assumption) hi2) | refine EqP.bb (told_good (by assumption) hi2)
    | refine BackP.intro [] (i + 1) rfl ?_ ?_ ⟨by omega, below hi2 (by assumption)⟩ (by omega)
    | refine And.intro ⟨(by first | exact trivial | (and_intros <;> exact trivial) | (unfold inI64; omega) | omega | (simp only [and_true, true_and, inI64, Int.toNat_natCast]; omega))⟩ ?_
    | refine And.intro (SLe.refl _) ?_
    | refine And.intro (ChLe.refl _) ?_
    | refine NbP.mk (fun _ => ?_) ?_
    | refine BS.dec (fun _ => ?_) (fun _ => ?_)
    | refine BS.eq (fun _ => ?_) (fun _ => ?_)
    | refine BS.ne (fun _ => ?_) (fun _ => ?_)
    | refine BS.nt ?_
    | refine BS.an ?_
    | refine BS.or ?_
    | refine BS.mk (fun _ => ?_) (fun _ => ?_)
    | refine RegP.mk (by kernel_rfl)
    | refine EqP.mk (SLe.refl _)
    | refine EqP.b ?_
    | refine EqP.bb ?_
    | refine EqP.int ?_
    | exact (rfl : okRen _ _ _ = true)
    | exact SLe.refl _
    | exact ChLe.refl _
    | refine And.intro ?_ ?_)
/-- The code of a file and moves. -/
def walkCodeV (r : RoomV) (l : List SpotV) (ms : List Int) : Int := if validV r && fileOkV r l then (if 60 < ms.length then 3 else if ms.all isMoveV then 0 else 2) else 1
section
variable {r : RoomV} {l : List SpotV} {ms : List Int}
theorem walkCodeV_bad (h : (validV r && fileOkV r l) = false) : 1 = walkCodeV r l ms := by unfold walkCodeV; rw [h]; rfl
theorem walkCodeV_long (h : (validV r && fileOkV r l) = true) (h2 : (ms.length : Int) > 60) : 3 = walkCodeV r l ms := by unfold walkCodeV; rw [h, if_pos rfl, if_pos (by omega)]
theorem walkCodeV_moves (h : (validV r && fileOkV r l) = true) (h2 : ¬ (ms.length : Int) > 60) : (if ms.all isMoveV then (0 : Int) else 2) = walkCodeV r l ms := by unfold walkCodeV; conv => rhs; rw [h, if_pos rfl, if_neg (show ¬ 60 < ms.length by omega)]
end
theorem spec16 (r : RoomV) (l : List SpotV) (ms : List Int) (hr : RoomOk r) (hp : ∀ p ∈ l, SpotOk p) (hl : (l.length : Int) ≤ 9223372036854775807) (hm : (ms.length : Int) ≤ 9223372036854775807) : Spec Try.prog 16 [roomS r, fileS l, intS ms] (i64 (walkCodeV r l ms)) := by
  refine spec_vc trX_ok follows_ok ⟨[], [], []⟩ Try.func16 rfl rfl ?_
  have hb : ∀ p : Bool, p = true → True := fun _ _ => trivial
  repeat' ((conv => whnf); first
    | exact trivial
    | refine CallP.mk ⟨_, .inl ⟨rfl, (spec24 r l hr hp hl)⟩, ?_⟩
    | refine BS.imp (p := validV r && fileOkV r l) (fun h => h) (fun _ _ => ?_) (fun _ => ?_)
    | refine CallP.mk ⟨_, .inl ⟨rfl, (spec26 ms _ [] (fun m => !isMoveV m) rfl (fun i hi => spec27 _) hm)⟩, ?_⟩
    | refine CallP.mk ⟨_, .inl ⟨rfl, (spec25 _ _)⟩, ?_⟩
    | refine EqP.int (walkCodeV_bad (by assumption))
    | refine EqP.int (walkCodeV_long (by assumption) (by assumption))
    | refine EqP.int ?_
    | refine And.intro ⟨(by first | exact trivial | (and_intros <;> exact trivial) | (unfold inI64; omega) | omega | (simp only [and_true, true_and, inI64, Int.toNat_natCast]; omega))⟩ ?_
    | refine And.intro (SLe.refl _) ?_
    | refine And.intro (ChLe.refl _) ?_
    | refine NbP.mk (fun _ => ?_) ?_
    | refine BS.dec (fun _ => ?_) (fun _ => ?_)
    | refine BS.eq (fun _ => ?_) (fun _ => ?_)
    | refine BS.ne (fun _ => ?_) (fun _ => ?_)
    | refine BS.nt ?_
    | refine BS.an ?_
    | refine BS.or ?_
    | refine BS.mk (fun _ => ?_) (fun _ => ?_)
    | refine RegP.mk (by kernel_rfl)
    | refine EqP.mk (SLe.refl _)
    | refine EqP.b ?_
    | refine EqP.bb ?_
    | refine EqP.int ?_
    | exact (rfl : okRen _ _ _ = true)
    | exact SLe.refl _
    | exact ChLe.refl _
    | refine And.intro ?_ ?_)
  all_goals (rw [← walkCodeV_moves (by assumption) (by assumption), any_not]; cases ms.all isMoveV <;> rfl)
theorem spec12 (r : RoomV) (l : List SpotV) (ms : List Int) (hr : RoomOk r) (hp : ∀ p ∈ l, SpotOk p) (hl : (l.length : Int) ≤ 9223372036854775807) (hm : (ms.length : Int) ≤ 9223372036854775807) : Spec Try.prog 12 [.rp (roomC r), fileS l, intS ms] (i64 (walkCodeV r l ms)) := by
  refine spec_vc trX_ok follows_ok ⟨[], [], []⟩ Try.func12 rfl rfl ?_
  repeat' ((conv => whnf); first
    | exact trivial
    | refine CallP.mk ⟨_, .inl ⟨rfl, (spec20 r l hr hp hl)⟩, ?_⟩
    | refine BS.imp (p := validV r && fileOkV r l) (fun h => h) (fun _ _ => ?_) (fun _ => ?_)
    | refine CallP.mk ⟨_, .inl ⟨rfl, (spec21 _ hm)⟩, ?_⟩
    | refine EqP.int (walkCodeV_bad (by assumption))
    | refine EqP.int (walkCodeV_long (by assumption) (by assumption))
    | refine EqP.int ?_
    | refine And.intro ⟨(by first | exact trivial | (and_intros <;> exact trivial) | (unfold inI64; omega) | omega | (simp only [and_true, true_and, inI64, Int.toNat_natCast]; omega))⟩ ?_
    | refine And.intro (SLe.refl _) ?_
    | refine And.intro (ChLe.refl _) ?_
    | refine NbP.mk (fun _ => ?_) ?_
    | refine BS.dec (fun _ => ?_) (fun _ => ?_)
    | refine BS.eq (fun _ => ?_) (fun _ => ?_)
    | refine BS.ne (fun _ => ?_) (fun _ => ?_)
    | refine BS.nt ?_
    | refine BS.an ?_
    | refine BS.or ?_
    | refine BS.mk (fun _ => ?_) (fun _ => ?_)
    | refine RegP.mk (by kernel_rfl)
    | refine EqP.mk (SLe.refl _)
    | refine EqP.b ?_
    | refine EqP.bb ?_
    | refine EqP.int ?_
    | exact (rfl : okRen _ _ _ = true)
    | exact SLe.refl _
    | exact ChLe.refl _
    | refine And.intro ?_ ?_)
  all_goals (rw [← walkCodeV_moves (by assumption) (by assumption)]; simp_all)
theorem fileOk_len {r : RoomV} {l : List SpotV} (h : fileOkV r l = true) : 1 ≤ l.length ∧ l.length ≤ 12 := by
  unfold fileOkV chainV at h
  simp only [Bool.and_eq_true, decide_eq_true_eq] at h
  exact h.2.2
structure WalkOk (r : RoomV) (l : List SpotV) (ms : List Int) : Prop where
  valid : validV r = true
  file : fileOkV r l = true
  len : ms.length ≤ 60
  moves : ∀ i, i < ms.length → 0 ≤ ms.getD i 0 ∧ ms.getD i 0 ≤ 5
theorem walkOk_of {r : RoomV} {l : List SpotV} {ms : List Int} (h : walkCodeV r l ms = 0) : WalkOk r l ms := by
  unfold walkCodeV at h
  split at h
  · rename_i hv
    simp only [Bool.and_eq_true] at hv
    split at h
    · omega
    · split at h
      · rename_i ha
        refine ⟨hv.1, hv.2, by omega, fun i hi => ?_⟩
        rw [List.all_eq_true] at ha
        rw [getD_lt hi]
        exact isMoveV_iff.1 (ha _ (List.getElem_mem hi))
      · omega
  · omega
attribute [irreducible] walkCodeV
theorem spec17 (r : RoomV) (l : List SpotV) (ms : List Int) (hr : RoomOk r) (hp : ∀ p ∈ l, SpotOk p) (h : walkCodeV r l ms = 0) : Spec Try.prog 17 [fileS l, roomS r, intS ms] (filesS (walkV r l ms)) := by
  have hw := walkOk_of h
  have hf := fileOk_len hw.file
  exact (Spec.ofE (specE17 r l ms (RoomS.of hr hw.valid) hp hf.1 (by omega) hw.len hw.moves) rfl (by omega)).conv ⟨SLe.refl _, SLe.refl _, SLe.refl _, trivial⟩ (SLe.rs' rfl (fun j hj => by rw [Nat.zero_add]))
theorem spec13 (r : RoomV) (l : List SpotV) (ms : List Int) (hr : RoomOk r) (hp : ∀ p ∈ l, SpotOk p) (h : walkCodeV r l ms = 0) : Spec Try.prog 13 [.rp (roomC r), fileS l, intS ms] (filesS (walkV r l ms)) := by
  have hw := walkOk_of h
  have hf := fileOk_len hw.file
  exact (Spec.ofE (specE13 r l ms (RoomS.of hr hw.valid) hp hf.1 (by omega) hw.len hw.moves) rfl (by omega)).conv ⟨SLe.refl _, SLe.refl _, SLe.refl _, trivial⟩ (SLe.rs' rfl (fun j hj => by rw [Nat.zero_add]))
def firstBadV (r : RoomV) (l : List SpotV) (ms : List Int) : Int × Int :=
  if walkCodeV r l ms = 0 then (if (walkV r l ms).length = ms.length then (0, 6) else ((walkV r l ms).length, 0)) else (0, walkCodeV r l ms)
section
variable {r : RoomV} {l : List SpotV} {ms : List Int}
theorem firstBadV_code (h : walkCodeV r l ms ≠ 0) : SLe (.tup [i64 0, i64 (walkCodeV r l ms)]) (.tup [i64 (firstBadV r l ms).1, i64 (firstBadV r l ms).2]) := by
  unfold firstBadV; rw [if_neg h]; exact SLe.refl _
theorem firstBadV_none (h : walkCodeV r l ms = 0) (h2 : ((walkV r l ms).length : Int) = ms.length) : SLe (.tup [i64 0, i64 6]) (.tup [i64 (firstBadV r l ms).1, i64 (firstBadV r l ms).2]) := by
  unfold firstBadV; rw [if_pos h, if_pos (by omega)]; exact SLe.refl _
theorem firstBadV_some (h : walkCodeV r l ms = 0) (h2 : ¬ ((walkV r l ms).length : Int) = ms.length) : SLe (.tup [i64 (walkV r l ms).length, i64 0]) (.tup [i64 (firstBadV r l ms).1, i64 (firstBadV r l ms).2]) := by
  unfold firstBadV; rw [if_pos h, if_neg (by omega)]; exact SLe.refl _
end
theorem spec9 (r : RoomV) (l : List SpotV) (ms : List Int) (hr : RoomOk r) (hp : ∀ p ∈ l, SpotOk p) (hl : (l.length : Int) ≤ 9223372036854775807) (hm : (ms.length : Int) ≤ 9223372036854775807) : Spec Try.prog 9 [roomS r, fileS l, intS ms] (.tup [i64 (firstBadV r l ms).1, i64 (firstBadV r l ms).2]) := by
  refine spec_vc trX_ok follows_ok ⟨[], [], []⟩ Try.func9 rfl rfl ?_
  repeat' ((conv => whnf); first
    | exact trivial
    | refine CallP.mk ⟨_, .inl ⟨rfl, (spec16 r l ms hr hp hl hm)⟩, ?_⟩
    | refine CallP.mk ⟨_, .inl ⟨rfl, (spec17 r l ms hr hp (by assumption))⟩, ?_⟩
    | refine CallP.mk ⟨_, .inl ⟨rfl, (spec18 _ _)⟩, ?_⟩
    | exact EqP.mk (firstBadV_code (by assumption))
    | exact EqP.mk (firstBadV_none (by assumption) (by assumption))
    | exact EqP.mk (firstBadV_some (by assumption) (by assumption))
    | refine And.intro ⟨(by first | exact trivial | (and_intros <;> exact trivial) | (unfold inI64; omega) | omega | (simp only [and_true, true_and, inI64, Int.toNat_natCast]; omega))⟩ ?_
    | refine And.intro (SLe.refl _) ?_
    | refine And.intro (ChLe.refl _) ?_
    | refine NbP.mk (fun _ => ?_) ?_
    | refine BS.dec (fun _ => ?_) (fun _ => ?_)
    | refine BS.eq (fun _ => ?_) (fun _ => ?_)
    | refine BS.ne (fun _ => ?_) (fun _ => ?_)
    | refine BS.nt ?_
    | refine BS.an ?_
    | refine BS.or ?_
    | refine BS.mk (fun _ => ?_) (fun _ => ?_)
    | refine RegP.mk (by kernel_rfl)
    | refine EqP.mk (SLe.refl _)
    | refine EqP.b ?_
    | refine EqP.bb ?_
    | refine EqP.int ?_
    | exact (rfl : okRen _ _ _ = true)
    | exact SLe.refl _
    | exact ChLe.refl _
    | refine And.intro ?_ ?_)
theorem spec5 (r : RoomV) (l : List SpotV) (ms : List Int) (hr : RoomOk r) (hp : ∀ p ∈ l, SpotOk p) (hl : (l.length : Int) ≤ 9223372036854775807) (hm : (ms.length : Int) ≤ 9223372036854775807) : Spec Try.prog 5 [roomS r, fileS l, intS ms] (.tup [i64 (firstBadV r l ms).1, i64 (firstBadV r l ms).2]) := by
  refine spec_vc trX_ok follows_ok ⟨[3], [], []⟩ Try.func5 rfl rfl ?_
  repeat' ((conv => whnf); first
    | exact trivial
    | refine CallP.mk ⟨_, .inl ⟨rfl, (spec12 r l ms hr hp hl hm)⟩, ?_⟩
    | refine CallP.mk ⟨_, .inl ⟨rfl, (spec13 r l ms hr hp (by assumption))⟩, ?_⟩
    | exact EqP.mk (firstBadV_code (by assumption))
    | exact EqP.mk (firstBadV_none (by assumption) (by assumption))
    | exact EqP.mk (firstBadV_some (by assumption) (by assumption))
    | refine And.intro ⟨(by first | exact trivial | (and_intros <;> exact trivial) | (unfold inI64; omega) | omega | (simp only [and_true, true_and, inI64, Int.toNat_natCast]; omega))⟩ ?_
    | refine And.intro (SLe.refl _) ?_
    | refine And.intro (ChLe.refl _) ?_
    | refine NbP.mk (fun _ => ?_) ?_
    | refine BS.dec (fun _ => ?_) (fun _ => ?_)
    | refine BS.eq (fun _ => ?_) (fun _ => ?_)
    | refine BS.ne (fun _ => ?_) (fun _ => ?_)
    | refine BS.nt ?_
    | refine BS.an ?_
    | refine BS.or ?_
    | refine BS.mk (fun _ => ?_) (fun _ => ?_)
    | refine RegP.mk (by kernel_rfl)
    | refine EqP.mk (SLe.refl _)
    | refine EqP.b ?_
    | refine EqP.bb ?_
    | refine EqP.int ?_
    | exact (rfl : okRen _ _ _ = true)
    | exact SLe.refl _
    | exact ChLe.refl _
    | refine And.intro ?_ ?_)
attribute [irreducible] firstBadV
theorem spec3 (r : RoomV) (l : List SpotV) (ms : List Int) (hr : RoomOk r) (hp : ∀ p ∈ l, SpotOk p) (hl : (l.length : Int) ≤ 9223372036854775807) (hm : (ms.length : Int) ≤ 9223372036854775807) : Spec Try.prog 3 [roomS r, fileS l, intS ms] (bl true) := by
  refine spec_vc trX_ok follows_ok ⟨[], [], []⟩ Try.func3 rfl rfl ?_
  repeat' ((conv => whnf); first
    | exact trivial
    | refine CallP.mk ⟨_, .inl ⟨rfl, (spec4 l _ (by omega) (by omega) (by omega))⟩, ?_⟩
    | refine CallP.mk ⟨_, .inl ⟨rfl, (spec6 r)⟩, ?_⟩
    | refine CallP.mk ⟨_, .inl ⟨rfl, (spec7 l (by omega))⟩, ?_⟩
    | refine CallP.mk ⟨_, .inl ⟨rfl, (spec8 ms (by omega))⟩, ?_⟩
    | refine CallP.mk ⟨_, .inl ⟨rfl, (spec5 r l ms hr hp (by omega) (by omega))⟩, ?_⟩
    | refine CallP.mk ⟨_, .inl ⟨rfl, (spec9 r l ms hr hp (by omega) (by omega))⟩, ?_⟩
    | refine CallP.mk ⟨_, .inl ⟨rfl, (spec10 l l (by omega) (by omega))⟩, ?_⟩
    | refine CallP.mk ⟨_, .inl ⟨rfl, (spec11 ms ms (by omega) (by omega))⟩, ?_⟩
    | refine And.intro ⟨(by first | exact trivial | (and_intros <;> exact trivial) | (unfold inI64; omega) | omega | (simp only [and_true, true_and, inI64, Int.toNat_natCast]; omega))⟩ ?_
    | refine And.intro (SLe.refl _) ?_
    | refine And.intro (ChLe.refl _) ?_
    | refine NbP.mk (fun _ => ?_) ?_
    | refine BS.dec (fun _ => ?_) (fun _ => ?_)
    | refine BS.eq (fun _ => ?_) (fun _ => ?_)
    | refine BS.ne (fun _ => ?_) (fun _ => ?_)
    | refine BS.nt ?_
    | refine BS.an ?_
    | refine BS.or ?_
    | refine BS.mk (fun _ => ?_) (fun _ => ?_)
    | refine RegP.mk (by kernel_rfl)
    | refine EqP.mk (SLe.refl _)
    | refine EqP.b ?_
    | refine EqP.bb ?_
    | refine EqP.int ?_
    | exact (rfl : okRen _ _ _ = true)
    | exact SLe.refl _
    | exact ChLe.refl _
    | refine And.intro ?_ ?_)
  all_goals first | rfl | exact absurd rfl (by assumption)
end Go.Eng
