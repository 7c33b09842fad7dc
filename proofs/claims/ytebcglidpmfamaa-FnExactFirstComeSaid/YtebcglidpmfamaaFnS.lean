/- A part of the proof that the law of this seat answers true for every input, without a condition. -/
import Derived.Test.YtebcglidpmfamaaFnR
set_option linter.all false
set_option linter.unusedVariables false
set_option linter.unusedSimpArgs false
set_option pp.maxSteps 150
set_option maxRecDepth 100000
namespace Go.Eng
open Go Go.Proofs
theorem SLe.tup2 {a b c d : SV} (h : SLe a b) (k : SLe c d) : SLe (.tup [a, c]) (.tup [b, d]) := fun H env x hx => by
  cases hx with
  | tup hx => cases hx with
    | cons h1 hx => cases hx with
      | cons h2 hx => cases hx; exact .tup (.cons (h _ _ _ h1) (.cons (k _ _ _ h2) .nil))
theorem SLe.i64_eq {a b : Int} (h : a = b) : SLe (.v (.int .i64 a)) (i64 b) := by subst h; exact SLe.refl _
def arrC (l : List PartyV) (a b : Int) : Int := (l.getD a.toNat ⟨0, 0⟩).arrive - (l.getD b.toNat ⟨0, 0⟩).arrive
def arrLt (l : List PartyV) (a b : Int) : Bool := decide (arrC l a b < 0)
def firstComeV (l : List PartyV) : List Int × Int := if partiesOkV l then (isortC (arrLt l) (indicesV (fun _ => true) l.length), 0) else ([], 1)
theorem spec18 (n : Int) : Spec Try.prog 18 [i64 n] (bl true) := by
  refine spec_vc trX_ok follows_ok ⟨[], [], []⟩ Try.func18 rfl rfl ?_
  repeat' ((conv => whnf); first
    | exact trivial
    | refine And.intro ⟨(by first | exact trivial | (and_intros <;> exact trivial) | (unfold inI64; omega) | omega | (simp only [and_true, true_and, inI64, Int.toNat_natCast]; omega))⟩ ?_
    | refine And.intro (SLe.refl _) ?_
    | refine And.intro (ChLe.refl _) ?_
    | refine NbP.mk (fun _ => ?_) ?_
    | refine SetP.mk ⟨_, _, _, _, _, rfl, rfl, rfl, rfl, rfl, setG_self _ _ _, rfl, ?_⟩
    | refine SetP.mk ⟨_, _, _, _, _, rfl, rfl, rfl, rfl, rfl, rfl, rfl, ?_⟩
    | refine BS.dec (fun _ => ?_) (fun _ => ?_)
    | refine BS.eq (fun _ => ?_) (fun _ => ?_)
    | refine BS.ne (fun _ => ?_) (fun _ => ?_)
    | refine BS.nt ?_
    | refine BS.an ?_
    | refine BS.or ?_
    | refine BS.mk (fun _ => ?_) (fun _ => ?_)
    | refine RegP.mk (by kernel_rfl)
    | refine EqP.mk (SLe.refl _)
    | refine EqP.b ?_
    | refine EqP.bb ?_
    | refine EqP.int ?_
    | exact (rfl : okRen _ _ _ = true)
    | exact SLe.refl _
    | exact ChLe.refl _
    | refine And.intro ?_ ?_)
  all_goals rfl
theorem spec20 (l : List PartyV) (hp : ∀ p ∈ l, PartyOk p) (a b : Int) (ha : 0 ≤ a ∧ a < l.length) (hb : 0 ≤ b ∧ b < l.length) : Spec Try.prog 20 [i64 a, i64 b, .rp [partiesS l]] (i64 (arrC l a b)) := by
  have h1 := (getD_party hp a.toNat).arrive
  have h2 := (getD_party hp b.toNat).arrive
  unfold in16 at h1 h2
  refine spec_vc trX_ok follows_ok ⟨[], [], []⟩ Try.func20 rfl rfl ?_
  repeat' ((conv => whnf); first
    | exact trivial
    | refine And.intro ⟨(by first | exact trivial | (and_intros <;> exact trivial) | (unfold inI64; omega) | omega | (simp only [and_true, true_and, inI64, Int.toNat_natCast]; omega))⟩ ?_
    | refine And.intro (SLe.refl _) ?_
    | refine And.intro (ChLe.refl _) ?_
    | refine NbP.mk (fun _ => ?_) ?_
    | refine SetP.mk ⟨_, _, _, _, _, rfl, rfl, rfl, rfl, rfl, setG_self _ _ _, rfl, ?_⟩
    | refine SetP.mk ⟨_, _, _, _, _, rfl, rfl, rfl, rfl, rfl, rfl, rfl, ?_⟩
    | refine BS.dec (fun _ => ?_) (fun _ => ?_)
    | refine BS.eq (fun _ => ?_) (fun _ => ?_)
    | refine BS.ne (fun _ => ?_) (fun _ => ?_)
    | refine BS.nt ?_
    | refine BS.an ?_
    | refine BS.or ?_
    | refine BS.mk (fun _ => ?_) (fun _ => ?_)
    | refine RegP.mk (by kernel_rfl)
    | refine EqP.mk (SLe.refl _)
    | refine EqP.b ?_
    | refine EqP.bb ?_
    | refine EqP.int ?_
    | exact (rfl : okRen _ _ _ = true)
    | exact SLe.refl _
    | exact ChLe.refl _
    | refine And.intro ?_ ?_)
  all_goals rfl
theorem indices_all {n : Nat} {a : Int} (h : a ∈ indicesV (fun _ => true) n) : 0 ≤ a ∧ a < n := by
  unfold indicesV at h
  obtain ⟨i, hi, rfl⟩ := List.mem_map.1 h
  have := List.mem_range.1 (List.mem_filter.1 hi).1
  omega
theorem indices_len {n : Nat} : (indicesV (fun _ => true) n).length = n := by
  unfold indicesV; rw [List.length_map, List.filter_eq_self.2 (fun _ _ => rfl), List.length_range]
theorem partiesOk_len {l : List PartyV} (h : partiesOkV l = true) : l.length ≤ 6 := by
  unfold partiesOkV at h
  simp only [Bool.and_eq_true, decide_eq_true_eq] at h
  exact h.1
attribute [local irreducible] partiesOkV
theorem firstCome_ok {l : List PartyV} (h : partiesOkV l = true) : firstComeV l = (isortC (arrLt l) (indicesV (fun _ => true) l.length), 0) := by unfold firstComeV; rw [if_pos h]
theorem firstCome_no {l : List PartyV} (h : partiesOkV l = false) : firstComeV l = ([], 1) := by unfold firstComeV; rw [if_neg (by rw [h]; simp)]
theorem specE7 (l : List PartyV) (hp : ∀ p ∈ l, PartyOk p) (hl : (l.length : Int) ≤ 9223372036854775807) :
    CallOkE Try.prog [] 7 [partiesS l] (.tup [.mr 0 0 (firstComeV l).1.length 1, i64 (firstComeV l).2]) [.row (firstComeV l).1.length 1 2 (intG (firstComeV l).1)] := by
  refine specE_vc trX_ok follows_ok ⟨[1, 10, 13], [], []⟩ Try.func7 rfl rfl ?_
  repeat' ((conv => whnf); first
    | exact trivial
    | refine CallP.mk ⟨_, .inl ⟨rfl, (spec16 l hp hl)⟩, ?_⟩
    | refine BS.imp (fun h => partiesOk_len h) (fun _ hlen => ?_) (fun _ => ?_)
    | refine CallE.mk ⟨_, _, CallOkE.sub [] (specE17 l.length 18 [] (fun _ => true) rfl (by omega) (fun i hi => spec18 _)) rfl rfl rfl rfl ?_ ?_, ?_⟩
    | refine CallE.mk ⟨_, _, CallOkE.sub [0] (specE19 (indicesV (fun _ => true) l.length) 20 [.rp [partiesS l]] (arrC l) rfl (by rw [indices_len]; omega) (fun a ha b hb => spec20 l hp a b (indices_all ha) (indices_all hb))) rfl rfl rfl rfl ?_ ?_, ?_⟩
    | (refine EndP.mk ⟨[(0, 1, 2)], [0], ?_⟩; (conv => whnf); refine And.intro rfl ?_)
    | (refine EndP.mk ⟨[], [0], ?_⟩; (conv => whnf); refine And.intro rfl ?_)
    | exact ChLe.row' (by rw [firstCome_ok (by assumption), isortC_len]) (fun j hj => by rw [firstCome_ok (by assumption)]; rfl)
    | exact ChLe.row' (by rw [firstCome_no (by assumption)]; rfl) (fun j hj => by rw [firstCome_no (by assumption)] at hj; exact absurd hj (Nat.not_lt_zero _))
    | exact SLe.tup2 (SLe.mr' (by rw [firstCome_ok (by assumption), isortC_len])) (SLe.i64_eq (by rw [firstCome_ok (by assumption)]))
    | exact SLe.tup2 (SLe.mr' (by rw [firstCome_no (by assumption)]; rfl)) (SLe.i64_eq (by rw [firstCome_no (by assumption)]))
    | refine And.intro ⟨(by first | exact trivial | (and_intros <;> exact trivial) | (unfold inI64; omega) | omega | (simp only [and_true, true_and, inI64, Int.toNat_natCast]; omega))⟩ ?_
    | refine And.intro (SLe.refl _) ?_
    | refine And.intro (ChLe.refl _) ?_
    | refine NbP.mk (fun _ => ?_) ?_
    | refine SetP.mk ⟨_, _, _, _, _, rfl, rfl, rfl, rfl, rfl, setG_self _ _ _, rfl, ?_⟩
    | refine SetP.mk ⟨_, _, _, _, _, rfl, rfl, rfl, rfl, rfl, rfl, rfl, ?_⟩
    | refine BS.dec (fun _ => ?_) (fun _ => ?_)
    | refine BS.eq (fun _ => ?_) (fun _ => ?_)
    | refine BS.ne (fun _ => ?_) (fun _ => ?_)
    | refine BS.nt ?_
    | refine BS.an ?_
    | refine BS.or ?_
    | refine BS.mk (fun _ => ?_) (fun _ => ?_)
    | refine RegP.mk (by kernel_rfl)
    | refine EqP.mk (SLe.refl _)
    | refine EqP.b ?_
    | refine EqP.bb ?_
    | refine EqP.int ?_
    | exact (rfl : okRen _ _ _ = true)
    | exact SLe.refl _
    | exact ChLe.refl _
    | refine And.intro ?_ ?_)
  all_goals (try (conv => whnf)); trace_state
theorem ins_cat {A S : List Int} {x : Int} {n m : Nat} {g1 g2 : Nat → List SV} (hn : n = A.length) (hm : m = A.length + 1) (h1 : g1 0 = [i64 x]) (h2 : ∀ k, k < S.length → g2 k = [i64 (S.getD k 0)]) {j : Nat} (hj : j < A.length + S.length + 1) : catG (catG (intG (A ++ S)) n g1) m g2 j = intG (A ++ x :: S) j := by
  subst hn; subst hm
  rw [catG_eq, catG_eq]
  unfold intG
  by_cases h3 : j < A.length
  · rw [if_pos (by omega), if_pos h3]
    simp [List.getD_eq_getElem?_getD, List.getElem?_append_left h3]
  · by_cases h4 : j = A.length
    · rw [if_pos (by omega), if_neg h3, h4, Nat.sub_self, h1]
      simp [List.getD_eq_getElem?_getD]
    · rw [if_neg (by omega), h2 _ (by omega)]
      rw [List.getD_eq_getElem?_getD, List.getD_eq_getElem?_getD, List.getElem?_append_right (by omega)]
      obtain ⟨d, hd⟩ : ∃ d, j - A.length = d + 1 := ⟨j - A.length - 1, by omega⟩
      rw [hd, show j - (A.length + 1) = d by omega]; simp
theorem snoc_last {A S : List Int} (hA : A ≠ []) : A ++ S = A.dropLast ++ A.getLast hA :: S := by
  have e : (A.dropLast ++ [A.getLast hA]) ++ S = A.dropLast ++ A.getLast hA :: S := by simp
  rw [← e, List.dropLast_concat_getLast hA]
theorem drop_get {A S : List Int} {a j : Nat} (ha : a = A.length + j) : intG (A ++ S) a = intG S j := by
  subst ha
  unfold intG
  rw [List.getD_eq_getElem?_getD, List.getD_eq_getElem?_getD, List.getElem?_append_right (by omega), Nat.add_sub_cancel_left]
/-- The inner loop of the one who inserts: A and S are the two sides of the place. -/
structure ComeI (l : List PartyV) (i : Nat) (A S : List Int) : Prop where
  ins : InsI (arrLt l) (isortC (arrLt l) (indicesV (fun _ => true) i)) i A S
  lt : i < l.length
theorem ComeI.len {l : List PartyV} {i : Nat} {A S : List Int} (h : ComeI l i A S) : A.length + S.length = i := by
  have := congrArg List.length h.ins.eq
  rwa [isortC_len, indices_len, List.length_append] at this
theorem ComeI.get {l : List PartyV} {i : Nat} {A S : List Int} (h : ComeI l i A S) {j : Nat} (hj : j < i) : 0 ≤ (A ++ S).getD j 0 ∧ (A ++ S).getD j 0 < l.length := by
  have h1 := h.len
  have h2 := h.lt
  rw [getD_lt (by simp; omega)]
  have hm := List.getElem_mem (l := A ++ S) (n := j) (by simp; omega)
  generalize (A ++ S)[j]'(by simp; omega) = y at hm
  rw [h.ins.eq, isortC_mem] at hm
  have := indices_all hm
  omega
theorem arrLt_iff {l : List PartyV} {i : Nat} {y : Int} : ((l.getD (i : Int).toNat ⟨0, 0⟩).arrive < (l.getD y.toNat ⟨0, 0⟩).arrive) ↔ arrLt l i y = true := by
  unfold arrLt arrC; rw [decide_eq_true_iff]; omega
theorem ComeI.step {l : List PartyV} {i : Nat} {A S : List Int} (h : ComeI l i A S) (hA : (A.length : Int) > 0) {b : Nat} (hb : b = A.length - 1) (hp : (l.getD (i : Int).toNat ⟨0, 0⟩).arrive < (l.getD ((A ++ S).getD b 0).toNat ⟨0, 0⟩).arrive) : ComeI l i A.dropLast (A.getLast (ne_nil_of hA) :: S) := by
  rw [at_prev (ne_nil_of hA) hb, arrLt_iff] at hp
  exact ⟨h.ins.step (ne_nil_of hA) hp, h.lt⟩
theorem ComeI.done {l : List PartyV} {i : Nat} {A S : List Int} (h : ComeI l i A S) (hp : ∀ p, A.getLast? = some p → arrLt l i p = false) : A ++ (i : Int) :: S = isortC (arrLt l) (indicesV (fun _ => true) (i + 1)) := by
  rw [indicesV_yes rfl, isortC_snoc, ← h.ins.eq, insC_at S A h.ins.lt hp]
theorem ComeI.done0 {l : List PartyV} {i : Nat} {A S : List Int} (h : ComeI l i A S) (hp : ¬ (A.length : Int) > 0) : A ++ (i : Int) :: S = isortC (arrLt l) (indicesV (fun _ => true) (i + 1)) :=
  h.done fun p hl => by
    have : A = [] := List.length_eq_zero_iff.1 (by omega)
    subst this; cases hl
theorem ComeI.done1 {l : List PartyV} {i : Nat} {A S : List Int} (h : ComeI l i A S) (hA : (A.length : Int) > 0) {b : Nat} (hb : b = A.length - 1) (hp : ¬ (l.getD (i : Int).toNat ⟨0, 0⟩).arrive < (l.getD ((A ++ S).getD b 0).toNat ⟨0, 0⟩).arrive) : A ++ (i : Int) :: S = isortC (arrLt l) (indicesV (fun _ => true) (i + 1)) :=
  h.done fun p hl => by
    rw [at_prev (ne_nil_of hA) hb, arrLt_iff, Bool.not_eq_true] at hp
    rw [List.getLast?_eq_some_getLast (ne_nil_of hA)] at hl
    injection hl with hl
    rw [← hl]; exact hp
theorem specE5 (l : List PartyV) (hp : ∀ p ∈ l, PartyOk p) (hl : (l.length : Int) ≤ 9223372036854775807) :
    CallOkE Try.prog [] 5 [partiesS l] (.tup [.mr 0 0 (firstComeV l).1.length 1, i64 (firstComeV l).2]) [.row (firstComeV l).1.length 1 2 (intG (firstComeV l).1)] := by
  refine specE_vc trX_ok follows_ok ⟨[45], [], []⟩ Try.func5 rfl rfl ?_
  repeat' ((conv => whnf); first
    | exact trivial
    | refine CallP.mk ⟨_, .inl ⟨rfl, (spec13 l hp hl)⟩, ?_⟩
    | refine BS.imp (fun h => partiesOk_len h) (fun _ hlen => ?_) (fun _ => ?_)
    | (refine EndP.mk ⟨[], [0], ?_⟩; (conv => whnf); refine And.intro rfl ?_)
    | exact ChLe.row' (by rw [firstCome_no (by assumption)]; rfl) (fun j hj => by rw [firstCome_no (by assumption)] at hj; exact absurd hj (Nat.not_lt_zero _))
    | exact SLe.tup2 (SLe.mr' (by rw [firstCome_no (by assumption)]; rfl)) (SLe.i64_eq (by rw [firstCome_no (by assumption)]))
    | refine And.intro ⟨(by first | exact trivial | (and_intros <;> exact trivial) | (unfold inI64; omega) | omega | (simp only [and_true, true_and, inI64, Int.toNat_natCast]; omega))⟩ ?_
    | refine And.intro (SLe.refl _) ?_
    | refine And.intro (ChLe.refl _) ?_
    | refine NbP.mk (fun _ => ?_) ?_
    | refine SetP.mk ⟨_, _, _, _, _, rfl, rfl, rfl, rfl, rfl, setG_self _ _ _, rfl, ?_⟩
    | refine SetP.mk ⟨_, _, _, _, _, rfl, rfl, rfl, rfl, rfl, rfl, rfl, ?_⟩
    | refine BS.dec (fun _ => ?_) (fun _ => ?_)
    | refine BS.eq (fun _ => ?_) (fun _ => ?_)
    | refine BS.ne (fun _ => ?_) (fun _ => ?_)
    | refine BS.nt ?_
    | refine BS.an ?_
    | refine BS.or ?_
    | refine BS.mk (fun _ => ?_) (fun _ => ?_)
    | refine RegP.mk (by kernel_rfl)
    | refine EqP.mk (SLe.refl _)
    | refine EqP.b ?_
    | refine EqP.bb ?_
    | refine EqP.int ?_
    | exact (rfl : okRen _ _ _ = true)
    | exact SLe.refl _
    | exact ChLe.refl _
    | refine And.intro ?_ ?_)
  refine LoopP.intro (α := Nat) (fun i => [(4, .mr 0 0 i 1), (5, i64 i), (12, .junk)]) (fun i => [(0, .row i 1 2 (intG (isortC (arrLt l) (indicesV (fun _ => true) i))))]) (fun i => i ≤ l.length) (fun i => l.length - i) 0 ?_ ?_ (by omega) (fun i hi => ?_)
  rotate_left 2
  have hi1 : i ≤ l.length := hi
  repeat' ((conv => whnf); first
    | exact trivial
    | (refine EndP.mk ⟨[], [0], ?_⟩; (conv => whnf); refine And.intro rfl ?_)
    | exact ChLe.row' (by rw [firstCome_ok (by assumption), isortC_len, indices_len]; omega) (fun j hj => by rw [firstCome_ok (by assumption), show i = l.length by omega])
    | exact SLe.tup2 (SLe.mr' (by rw [firstCome_ok (by assumption), isortC_len, indices_len]; omega)) (SLe.i64_eq (by rw [firstCome_ok (by assumption)]))
    | refine And.intro ⟨(by first | exact trivial | (and_intros <;> exact trivial) | (unfold inI64; omega) | omega | (simp only [and_true, true_and, inI64, Int.toNat_natCast]; omega))⟩ ?_
    | refine And.intro (SLe.refl _) ?_
    | refine And.intro (ChLe.refl _) ?_
    | refine NbP.mk (fun _ => ?_) ?_
    | refine SetP.mk ⟨_, _, _, _, _, rfl, rfl, rfl, rfl, rfl, setG_self _ _ _, rfl, ?_⟩
    | refine SetP.mk ⟨_, _, _, _, _, rfl, rfl, rfl, rfl, rfl, rfl, rfl, ?_⟩
    | refine BS.dec (fun _ => ?_) (fun _ => ?_)
    | refine BS.eq (fun _ => ?_) (fun _ => ?_)
    | refine BS.ne (fun _ => ?_) (fun _ => ?_)
    | refine BS.nt ?_
    | refine BS.an ?_
    | refine BS.or ?_
    | refine BS.mk (fun _ => ?_) (fun _ => ?_)
    | refine RegP.mk (by kernel_rfl)
    | refine EqP.mk (SLe.refl _)
    | refine EqP.b ?_
    | refine EqP.bb ?_
    | refine EqP.int ?_
    | exact (rfl : okRen _ _ _ = true)
    | exact SLe.refl _
    | exact ChLe.refl _
    | refine And.intro ?_ ?_)
  have hil : i < l.length := by omega
  refine LoopP.intro (α := List Int × List Int) (fun (A, S) => [(6, i64 A.length)]) (fun (A, S) => [(0, .row i 1 2 (intG (A ++ S)))]) (fun (A, S) => ComeI l i A S) (fun (A, S) => A.length) (isortC (arrLt l) (indicesV (fun _ => true) i), []) ?_ ?_ ⟨⟨by simp, fun y hy => by cases hy⟩, hil⟩ (fun (A, S) hJ => ?_)
  rotate_left 2
  have hJ : ComeI l i A S := hJ
  have hlen := hJ.len
  repeat' ((conv => whnf); first
    | exact trivial
    | refine And.intro ⟨hJ.get (by omega)⟩ ?_
    | refine BackP.intro [0] (A.dropLast, A.getLast (ne_nil_of (by assumption)) :: S) rfl ?_ ?_ (hJ.step (by assumption) (b := 0 + ((A.length : Int) - 1).toNat) (by omega) (by assumption)) (show A.dropLast.length < A.length by simp; omega)
    | refine And.intro (SLe.of_eq (congrArg i64 (by simp; omega))) ?_
    | exact SLe.of_eq (congrArg i64 (by simp; omega))
    | exact ChLe.row (fun j hj => congrArg (fun z => intG z j) (snoc_last (ne_nil_of (by assumption))))
    | exact ChLe.row' (by omega) (fun j hj => by rw [← hJ.done0 (by assumption)]; exact ins_cat (by first | omega | (simp; done) | (simp; omega)) (by first | omega | (simp; done) | (simp; omega)) rfl (fun k hk => by show intG S (0 + k) = _; rw [Nat.zero_add]; rfl) (by omega))
    | exact ChLe.row' (by omega) (fun j hj => by rw [← hJ.done1 (by assumption) (b := 0 + ((A.length : Int) - 1).toNat) (by omega) (by assumption)]; exact ins_cat (by first | omega | (simp; done) | (simp; omega)) (by first | omega | (simp; done) | (simp; omega)) rfl (fun k hk => by show intG S (0 + k) = _; rw [Nat.zero_add]; rfl) (by omega))
    | refine And.intro (SLe.mr' (by omega)) ?_
    | exact SLe.mr' (by omega)
    | refine CallE.mk ⟨_, _, CallOkE.lend [] (specE14 S (by omega)) rfl rfl rfl rfl rfl ?_ ?_ ?_ ?_, ?_⟩
    | exact ⟨(by omega : _ ≤ _), trivial⟩
    | exact ⟨SLe.rs' (by omega) (fun j hj => drop_get (by first | omega | (simp; done) | (simp; omega))), trivial⟩
    | exact ⟨trivial, ⟨fun j => rfl, trivial⟩⟩
    | refine BackP.intro [3] (i + 1) rfl ?_ ?_ (show i + 1 ≤ l.length by omega) (show l.length - (i + 1) < l.length - i by omega)
    | refine And.intro ⟨(by first | exact trivial | (and_intros <;> exact trivial) | (unfold inI64; omega) | omega | (simp only [and_true, true_and, inI64, Int.toNat_natCast]; omega))⟩ ?_
    | refine And.intro (SLe.refl _) ?_
    | refine And.intro (ChLe.refl _) ?_
    | refine NbP.mk (fun _ => ?_) ?_
    | refine SetP.mk ⟨_, _, _, _, _, rfl, rfl, rfl, rfl, rfl, setG_self _ _ _, rfl, ?_⟩
    | refine SetP.mk ⟨_, _, _, _, _, rfl, rfl, rfl, rfl, rfl, rfl, rfl, ?_⟩
    | refine BS.dec (fun _ => ?_) (fun _ => ?_)
    | refine BS.eq (fun _ => ?_) (fun _ => ?_)
    | refine BS.ne (fun _ => ?_) (fun _ => ?_)
    | refine BS.nt ?_
    | refine BS.an ?_
    | refine BS.or ?_
    | refine BS.mk (fun _ => ?_) (fun _ => ?_)
    | refine RegP.mk (by kernel_rfl)
    | refine EqP.mk (SLe.refl _)
    | refine EqP.b ?_
    | refine EqP.bb ?_
    | refine EqP.int ?_
    | exact (rfl : okRen _ _ _ = true)
    | exact SLe.refl _
    | exact ChLe.refl _
    | refine And.intro ?_ ?_)
  all_goals
    repeat' ((conv => whnf); first
      | exact trivial
      | refine And.intro (SLe.of_eq (congrArg i64 (by simp only [isortC_len, indices_len]))) ?_
      | exact SLe.of_eq (congrArg i64 (by simp only [isortC_len, indices_len]))
      | exact ChLe.row (fun j hj => by rw [List.append_nil])
      | refine And.intro (SLe.mr' (by omega)) ?_
      | exact SLe.mr' (by omega)
      | exact ChLe.row' (by omega) (fun j hj => by omega)
      | refine And.intro ⟨(by first | exact trivial | (and_intros <;> exact trivial) | (unfold inI64; omega) | omega | (simp only [and_true, true_and, inI64, Int.toNat_natCast]; omega))⟩ ?_
      | refine And.intro (SLe.refl _) ?_
      | refine And.intro (ChLe.refl _) ?_
      | refine NbP.mk (fun _ => ?_) ?_
      | refine SetP.mk ⟨_, _, _, _, _, rfl, rfl, rfl, rfl, rfl, setG_self _ _ _, rfl, ?_⟩
      | refine SetP.mk ⟨_, _, _, _, _, rfl, rfl, rfl, rfl, rfl, rfl, rfl, ?_⟩
      | refine BS.dec (fun _ => ?_) (fun _ => ?_)
      | refine BS.eq (fun _ => ?_) (fun _ => ?_)
      | refine BS.ne (fun _ => ?_) (fun _ => ?_)
      | refine BS.nt ?_
      | refine BS.an ?_
      | refine BS.or ?_
      | refine BS.mk (fun _ => ?_) (fun _ => ?_)
      | refine RegP.mk (by kernel_rfl)
      | refine EqP.mk (SLe.refl _)
      | refine EqP.b ?_
      | refine EqP.bb ?_
      | refine EqP.int ?_
      | exact (rfl : okRen _ _ _ = true)
      | exact SLe.refl _
      | exact ChLe.refl _
      | refine And.intro ?_ ?_)
  all_goals (try (conv => whnf)); trace_state
end Go.Eng
