/- A part of the proof that the law of this seat answers true for every input, without a condition. -/
import Derived.Test.YtebcglidpmfamaaFnP
set_option linter.all false
set_option linter.unusedVariables false
set_option linter.unusedSimpArgs false
set_option pp.maxSteps 150
set_option maxRecDepth 100000
namespace Go.Eng
open Go Go.Proofs
/-! ### Insertion sort -/
section
variable {α : Type}
def insRev (lt : α → α → Bool) (x : α) : List α → List α
  | [] => [x]
  | y :: ys => if lt x y then y :: insRev lt x ys else x :: y :: ys
def insC (lt : α → α → Bool) (x : α) (l : List α) : List α := (insRev lt x l.reverse).reverse
def isortC (lt : α → α → Bool) : List α → List α
  | l => l.foldl (fun acc x => insC lt x acc) []
theorem insC_at {lt : α → α → Bool} {x : α} : ∀ (S A : List α), (∀ y ∈ S, lt x y = true) → (∀ p, A.getLast? = some p → lt x p = false) → insC lt x (A ++ S) = A ++ x :: S := by
  intro S
  have key : ∀ (n : Nat) (S A : List α), S.length = n → (∀ y ∈ S, lt x y = true) → (∀ p, A.getLast? = some p → lt x p = false) → insRev lt x (A ++ S).reverse = (A ++ x :: S).reverse := by
    intro n
    induction n with
    | zero =>
      intro S A hS h1 h2
      have : S = [] := List.length_eq_zero_iff.1 hS
      subst this
      cases hA : A.reverse with
      | nil =>
        have : A = [] := by simpa using hA
        subst this; rfl
      | cons y ys =>
        have hl : A.getLast? = some y := by rw [← List.head?_reverse, hA]; rfl
        rw [List.append_nil, hA]
        unfold insRev
        rw [h2 y hl]
        simp [hA]
    | succ n ih =>
      intro S A hS h1 h2
      obtain ⟨S', y, rfl⟩ : ∃ S' y, S = S' ++ [y] := ⟨S.dropLast, S.getLast (by intro e; subst e; simp at hS), (List.dropLast_concat_getLast _).symm⟩
      rw [← List.append_assoc, List.reverse_append]
      simp only [List.reverse_cons, List.reverse_nil, List.nil_append, List.singleton_append]
      unfold insRev
      rw [h1 y (by simp), if_pos rfl, ih S' A (by simpa using hS) (fun z hz => h1 z (by simp [hz])) h2]
      simp
  intro A h1 h2
  unfold insC
  rw [key _ S A rfl h1 h2, List.reverse_reverse]
theorem insRev_mem {lt : α → α → Bool} {x y : α} : ∀ {l : List α}, y ∈ insRev lt x l ↔ y = x ∨ y ∈ l
  | [] => by simp [insRev]
  | z :: l => by
    unfold insRev
    split
    · rw [List.mem_cons, insRev_mem, List.mem_cons]
      constructor
      · rintro (h | h | h)
        · exact .inr (.inl h)
        · exact .inl h
        · exact .inr (.inr h)
      · rintro (h | h | h)
        · exact .inr (.inl h)
        · exact .inl h
        · exact .inr (.inr h)
    · simp
theorem insRev_len {lt : α → α → Bool} {x : α} : ∀ {l : List α}, (insRev lt x l).length = l.length + 1
  | [] => rfl
  | z :: l => by
    unfold insRev
    split
    · simp [insRev_len]
    · simp
theorem insC_mem {lt : α → α → Bool} {x y : α} {l : List α} : y ∈ insC lt x l ↔ y = x ∨ y ∈ l := by
  unfold insC; rw [List.mem_reverse, insRev_mem, List.mem_reverse]
theorem insC_len {lt : α → α → Bool} {x : α} {l : List α} : (insC lt x l).length = l.length + 1 := by
  unfold insC; rw [List.length_reverse, insRev_len, List.length_reverse]
theorem isortC_snoc {lt : α → α → Bool} {l : List α} {x : α} : isortC lt (l ++ [x]) = insC lt x (isortC lt l) := by
  unfold isortC; rw [List.foldl_append]; rfl
theorem isortC_mem {lt : α → α → Bool} {y : α} (l : List α) : y ∈ isortC lt l ↔ y ∈ l := by
  have : ∀ (n : Nat) (l : List α), l.length = n → (y ∈ isortC lt l ↔ y ∈ l) := by
    intro n
    induction n with
    | zero =>
      intro l h
      have : l = [] := List.length_eq_zero_iff.1 h
      subst this; simp [isortC]
    | succ n ih =>
      intro l h
      obtain ⟨S', z, rfl⟩ : ∃ S' y, l = S' ++ [y] := ⟨l.dropLast, l.getLast (by intro e; subst e; simp at h), (List.dropLast_concat_getLast _).symm⟩
      rw [isortC_snoc, insC_mem, ih S' (by simpa using h)]
      simp [or_comm]
  exact this _ l rfl
theorem isortC_len {lt : α → α → Bool} (l : List α) : (isortC lt l).length = l.length := by
  have : ∀ (n : Nat) (l : List α), l.length = n → (isortC lt l).length = l.length := by
    intro n
    induction n with
    | zero =>
      intro l h
      have : l = [] := List.length_eq_zero_iff.1 h
      subst this; rfl
    | succ n ih =>
      intro l h
      obtain ⟨S', z, rfl⟩ : ∃ S' y, l = S' ++ [y] := ⟨l.dropLast, l.getLast (by intro e; subst e; simp at h), (List.dropLast_concat_getLast _).symm⟩
      rw [isortC_snoc, insC_len, ih S' (by simpa using h)]
      simp
  exact this _ l rfl
end
theorem isortC_one {lt : Int → Int → Bool} {l : List Int} : isortC lt (l.take 1) ++ l.drop 1 = l := by
  cases l <;> simp [isortC, insC, insRev]
theorem swap_list {A S : List Int} {p x : Int} {a b : Nat} {u v : List SV} (ha : a = A.length + 1) (hb : b = A.length) (hu : u = [i64 p]) (hv : v = [i64 x]) {L : List Int} (hL : L = A ++ p :: x :: S) (j : Nat) : setG (setG (intG L) a u) b v j = intG (A ++ x :: p :: S) j := by
  subst ha; subst hb; subst hu; subst hv; subst hL
  rw [setG_eq, setG_eq]
  unfold intG
  by_cases h1 : j = A.length
  · rw [if_pos h1, h1]; simp
  · rw [if_neg h1]
    by_cases h2 : j = A.length + 1
    · rw [if_pos h2, h2]; simp [List.getD_eq_getElem?_getD, List.getElem?_append_right]
    · rw [if_neg h2]
      congr 2
      rw [List.getD_eq_getElem?_getD, List.getD_eq_getElem?_getD]
      by_cases h3 : j < A.length
      · rw [List.getElem?_append_left h3, List.getElem?_append_left h3]
      · rw [List.getElem?_append_right (by omega), List.getElem?_append_right (by omega)]
        obtain ⟨d, hd⟩ : ∃ d, j - A.length = d + 2 := ⟨j - A.length - 2, by omega⟩
        rw [hd]; simp
/-- The inner loop's state: A and S are the sorted part's two sides of the element x that goes left. -/
structure InsI (lt : Int → Int → Bool) (pre : List Int) (x : Int) (A S : List Int) : Prop where
  eq : A ++ S = pre
  lt : ∀ y ∈ S, lt x y = true
theorem InsI.step {lt : Int → Int → Bool} {pre : List Int} {x : Int} {A S : List Int} (h : InsI lt pre x A S) (hA : A ≠ []) (hl : lt x (A.getLast hA) = true) : InsI lt pre x A.dropLast (A.getLast hA :: S) :=
  ⟨by rw [← h.eq]; conv => rhs; rw [← List.dropLast_concat_getLast hA]
      simp, fun y hy => by
    rcases List.mem_cons.1 hy with rfl | hy
    · exact hl
    · exact h.lt y hy⟩
theorem at_len {A T : List Int} {x : Int} {j : Nat} (hj : j = A.length) : (A ++ x :: T).getD j 0 = x := by
  subst hj; simp [List.getD_eq_getElem?_getD]
theorem at_prev {A T : List Int} {j : Nat} (hA : A ≠ []) (hj : j = A.length - 1) : (A ++ T).getD j 0 = A.getLast hA := by
  have : 0 < A.length := List.length_pos_iff.2 hA
  subst hj
  rw [List.getD_eq_getElem?_getD, List.getElem?_append_left (by omega), List.getLast_eq_getElem, List.getElem?_eq_getElem (by omega)]; rfl
theorem ne_nil_of {A : List Int} (h : (A.length : Int) > 0) : A ≠ [] := by
  intro e; subst e; simp at h
/-- What the whole row holds while the element x goes left. -/
structure InsJ (lt : Int → Int → Bool) (l : List Int) (i : Nat) (A S : List Int) : Prop where
  ins : InsI lt (isortC lt (l.take i)) (l.getD i 0) A S
  lt : i < l.length
theorem InsJ.len {lt : Int → Int → Bool} {l : List Int} {i : Nat} {A S : List Int} (h : InsJ lt l i A S) : A.length + S.length = i := by
  have := congrArg List.length h.ins.eq
  rw [isortC_len, List.length_append, List.length_take] at this
  have := h.lt
  omega
theorem InsJ.mem {lt : Int → Int → Bool} {l : List Int} {i : Nat} {A S : List Int} (h : InsJ lt l i A S) (j : Nat) (hj : j < l.length) : (A ++ l.getD i 0 :: (S ++ l.drop (i + 1))).getD j 0 ∈ l := by
  have h1 := h.len
  have h2 := h.lt
  have hlen : (A ++ l.getD i 0 :: (S ++ l.drop (i + 1))).length = l.length := by simp; omega
  rw [getD_lt (by omega)]
  have hm := List.getElem_mem (l := A ++ l.getD i 0 :: (S ++ l.drop (i + 1))) (n := j) (by omega)
  generalize (A ++ l.getD i 0 :: (S ++ l.drop (i + 1)))[j]'(by omega) = y at hm
  have hpre : ∀ z, z ∈ A ++ S → z ∈ l := fun z hz => by
    rw [h.ins.eq, isortC_mem] at hz
    exact List.mem_of_mem_take hz
  rw [List.mem_append, List.mem_cons, List.mem_append] at hm
  rcases hm with hm | hm | hm | hm
  · exact hpre y (by simp [hm])
  · rw [hm, getD_lt h2]; exact List.getElem_mem h2
  · exact hpre y (by simp [hm])
  · exact List.mem_of_mem_drop hm
theorem InsJ.done {lt : Int → Int → Bool} {l : List Int} {i : Nat} {A S : List Int} (h : InsJ lt l i A S) (hp : ∀ p, A.getLast? = some p → lt (l.getD i 0) p = false) : A ++ l.getD i 0 :: (S ++ l.drop (i + 1)) = isortC lt (l.take (i + 1)) ++ l.drop (i + 1) := by
  have h2 := h.lt
  rw [List.take_succ_eq_append_getElem h2, isortC_snoc, ← h.ins.eq, ← getD_lt (d := 0) h2, insC_at S A h.ins.lt hp]
  simp
theorem InsJ.done0 {lt : Int → Int → Bool} {l : List Int} {i : Nat} {A S : List Int} (h : InsJ lt l i A S) (hp : ¬ (A.length : Int) > 0) : A ++ l.getD i 0 :: (S ++ l.drop (i + 1)) = isortC lt (l.take (i + 1)) ++ l.drop (i + 1) :=
  h.done fun p hl => by
    have : A = [] := List.length_eq_zero_iff.1 (by omega)
    subst this; cases hl
theorem InsJ.done1 {lt : Int → Int → Bool} {l : List Int} {i : Nat} {A S : List Int} (h : InsJ lt l i A S) (hA : (A.length : Int) > 0) {a b : Nat} (ha : a = A.length) (hb : b = A.length - 1) (hp : lt ((A ++ l.getD i 0 :: (S ++ l.drop (i + 1))).getD a 0) ((A ++ l.getD i 0 :: (S ++ l.drop (i + 1))).getD b 0) = false) : A ++ l.getD i 0 :: (S ++ l.drop (i + 1)) = isortC lt (l.take (i + 1)) ++ l.drop (i + 1) :=
  h.done fun p hl => by
    have hA' := ne_nil_of hA
    rw [at_len ha, at_prev hA' hb] at hp
    rw [List.getLast?_eq_some_getLast hA'] at hl
    injection hl with hl
    rw [← hl]; exact hp
theorem InsJ.step {lt : Int → Int → Bool} {l : List Int} {i : Nat} {A S : List Int} (h : InsJ lt l i A S) (hA : (A.length : Int) > 0) {a b : Nat} (ha : a = A.length) (hb : b = A.length - 1) (hp : lt ((A ++ l.getD i 0 :: (S ++ l.drop (i + 1))).getD a 0) ((A ++ l.getD i 0 :: (S ++ l.drop (i + 1))).getD b 0) = true) : InsJ lt l i A.dropLast (A.getLast (ne_nil_of hA) :: S) := by
  rw [at_len ha, at_prev (ne_nil_of hA) hb] at hp
  exact ⟨h.ins.step (ne_nil_of hA) hp, h.lt⟩
theorem InsJ.swap {lt : Int → Int → Bool} {l : List Int} {i : Nat} {A S : List Int} (h : InsJ lt l i A S) (hA : (A.length : Int) > 0) {a b c d : Nat} (ha : a = A.length) (hb : b = A.length - 1) (hc : c = A.length - 1) (hd : d = A.length) (j : Nat) :
    setG (setG (intG (A ++ l.getD i 0 :: (S ++ l.drop (i + 1)))) a [i64 ((A ++ l.getD i 0 :: (S ++ l.drop (i + 1))).getD c 0)]) b [i64 ((A ++ l.getD i 0 :: (S ++ l.drop (i + 1))).getD d 0)] j = intG (A.dropLast ++ l.getD i 0 :: (A.getLast (ne_nil_of hA) :: S ++ l.drop (i + 1))) j := by
  have hA' := ne_nil_of hA
  rw [at_len hd, at_prev hA' hc]
  have hl : A.dropLast.length = A.length - 1 := by simp
  have hLL : A ++ l.getD i 0 :: (S ++ l.drop (i + 1)) = A.dropLast ++ A.getLast hA' :: l.getD i 0 :: (S ++ l.drop (i + 1)) := by
    have e : (A.dropLast ++ [A.getLast hA']) ++ l.getD i 0 :: (S ++ l.drop (i + 1)) = A.dropLast ++ A.getLast hA' :: l.getD i 0 :: (S ++ l.drop (i + 1)) := by simp
    rw [← e, List.dropLast_concat_getLast hA']
  exact swap_list (A := A.dropLast) (S := S ++ l.drop (i + 1)) (by omega) (by omega) rfl rfl hLL j
theorem specE28 (l : List Int) (g : FuncId) (cap : List SV) (c : Int → Int → Int) (hc : closedL cap = true) (hl : l.length ≤ 1048576) (hg : ∀ a ∈ l, ∀ b ∈ l, Spec Try.prog g (i64 a :: i64 b :: cap) (i64 (c a b))) :
    CallOkE Try.prog [.row l.length 1 2 (intG l)] 28 [.mr 0 0 l.length 1, i64 0, i64 l.length, .fn (.func g) [] cap] (.tup []) [.row l.length 1 2 (intG (isortC (fun a b => decide (c a b < 0)) l))] := by
  generalize hlt : (fun a b => decide (c a b < 0)) = lt
  have hltv : ∀ a b, lt a b = decide (c a b < 0) := fun a b => by rw [← hlt]
  refine specE_vc trX_ok follows_ok ⟨[], [], []⟩ Try.func28 rfl rfl ?_
  repeat' ((conv => whnf); first
    | exact trivial
    | refine And.intro ⟨(by first | exact trivial | (and_intros <;> exact trivial) | (unfold inI64; omega) | omega | (simp only [and_true, true_and, inI64, Int.toNat_natCast]; omega))⟩ ?_
    | refine And.intro (SLe.refl _) ?_
    | refine And.intro (ChLe.refl _) ?_
    | refine NbP.mk (fun _ => ?_) ?_
    | refine SetP.mk ⟨_, _, _, _, _, rfl, rfl, rfl, rfl, rfl, setG_self _ _ _, rfl, ?_⟩
    | refine SetP.mk ⟨_, _, _, _, _, rfl, rfl, rfl, rfl, rfl, rfl, rfl, ?_⟩
    | refine BS.dec (fun _ => ?_) (fun _ => ?_)
    | refine BS.eq (fun _ => ?_) (fun _ => ?_)
    | refine BS.ne (fun _ => ?_) (fun _ => ?_)
    | refine BS.nt ?_
    | refine BS.an ?_
    | refine BS.or ?_
    | refine BS.mk (fun _ => ?_) (fun _ => ?_)
    | refine RegP.mk (by kernel_rfl)
    | refine EqP.mk (SLe.refl _)
    | refine EqP.b ?_
    | refine EqP.bb ?_
    | refine EqP.int ?_
    | exact (rfl : okRen _ _ _ = true)
    | exact SLe.refl _
    | exact ChLe.refl _
    | refine And.intro ?_ ?_)
  refine LoopP.intro (α := Nat) (fun i => [(8, i64 i)]) (fun i => [(0, .row l.length 1 2 (intG (isortC lt (l.take i) ++ l.drop i)))]) (fun i => 1 ≤ i ∧ (i ≤ l.length ∨ i = 1)) (fun i => l.length - i) 1 ?_ ?_ (by omega) (fun i hi => ?_)
  rotate_left 2
  have hi1 : 1 ≤ i ∧ (i ≤ l.length ∨ i = 1) := hi
  repeat' ((conv => whnf); first
    | exact trivial
    | refine And.intro (SLe.ren (closed_fn hc)) ?_
    | exact SLe.ren (closed_fn hc)
    | (refine EndP.mk ⟨[], [0], ?_⟩; (conv => whnf); refine And.intro rfl ?_)
    | exact ChLe.row (fun j hj => by rw [List.take_of_length_le (by omega), List.drop_eq_nil_of_le (by omega), List.append_nil])
    | exact ChLe.row (fun j hj => by rw [isortC_one])
    | refine And.intro ⟨(by first | exact trivial | (and_intros <;> exact trivial) | (unfold inI64; omega) | omega | (simp only [and_true, true_and, inI64, Int.toNat_natCast]; omega))⟩ ?_
    | refine And.intro (SLe.refl _) ?_
    | refine And.intro (ChLe.refl _) ?_
    | refine NbP.mk (fun _ => ?_) ?_
    | refine SetP.mk ⟨_, _, _, _, _, rfl, rfl, rfl, rfl, rfl, setG_self _ _ _, rfl, ?_⟩
    | refine SetP.mk ⟨_, _, _, _, _, rfl, rfl, rfl, rfl, rfl, rfl, rfl, ?_⟩
    | refine BS.dec (fun _ => ?_) (fun _ => ?_)
    | refine BS.eq (fun _ => ?_) (fun _ => ?_)
    | refine BS.ne (fun _ => ?_) (fun _ => ?_)
    | refine BS.nt ?_
    | refine BS.an ?_
    | refine BS.or ?_
    | refine BS.mk (fun _ => ?_) (fun _ => ?_)
    | refine RegP.mk (by kernel_rfl)
    | refine EqP.mk (SLe.refl _)
    | refine EqP.b ?_
    | refine EqP.bb ?_
    | refine EqP.int ?_
    | exact (rfl : okRen _ _ _ = true)
    | exact SLe.refl _
    | exact ChLe.refl _
    | refine And.intro ?_ ?_)
  have hil : i < l.length := by omega
  refine LoopP.intro (α := List Int × List Int) (fun (A, S) => [(9, i64 A.length)]) (fun (A, S) => [(0, .row l.length 1 2 (intG (A ++ l.getD i 0 :: (S ++ l.drop (i + 1)))))]) (fun (A, S) => InsJ lt l i A S) (fun (A, S) => A.length) (isortC lt (l.take i), []) ?_ ?_ ⟨⟨by simp, fun y hy => by cases hy⟩, hil⟩ (fun (A, S) hJ => ?_)
  rotate_left 2
  have hJ : InsJ lt l i A S := hJ
  have hlen := hJ.len
  repeat' ((conv => whnf); first
    | exact trivial
    | refine And.intro (SLe.ren (closed_fn hc)) ?_
    | exact SLe.ren (closed_fn hc)
    | refine CallP.mk ⟨_, .inl ⟨hc, hg _ (hJ.mem _ (by omega)) _ (hJ.mem _ (by omega))⟩, ?_⟩
    | refine BackP.intro [0] (A.dropLast, A.getLast (ne_nil_of (by assumption)) :: S) rfl ?_ ?_ (hJ.step (by assumption) (a := 0 + (A.length : Int).toNat) (b := 0 + ((A.length : Int) - 1).toNat) (by omega) (by omega) (by rw [hltv]; exact decide_eq_true (by assumption))) (show A.dropLast.length < A.length by simp; omega)
    | refine BackP.intro [0] (i + 1) rfl ?_ ?_ (show 1 ≤ i + 1 ∧ (i + 1 ≤ l.length ∨ i + 1 = 1) by omega) (show l.length - (i + 1) < l.length - i by omega)
    | refine And.intro (SLe.of_eq (congrArg i64 (by simp; omega))) ?_
    | exact ChLe.row (fun j hj => hJ.swap (by assumption) (by omega) (by omega) (by omega) (by omega) j)
    | exact ChLe.row (fun j hj => by rw [hJ.done0 (by assumption)])
    | exact ChLe.row (fun j hj => by rw [hJ.done1 (by assumption) (a := 0 + (A.length : Int).toNat) (b := 0 + ((A.length : Int) - 1).toNat) (by omega) (by omega) (by rw [hltv]; exact decide_eq_false (by assumption))])
    | refine And.intro ⟨(by first | exact trivial | (and_intros <;> exact trivial) | (unfold inI64; omega) | omega | (simp only [and_true, true_and, inI64, Int.toNat_natCast]; omega))⟩ ?_
    | refine And.intro (SLe.refl _) ?_
    | refine And.intro (ChLe.refl _) ?_
    | refine NbP.mk (fun _ => ?_) ?_
    | refine SetP.mk ⟨_, _, _, _, _, rfl, rfl, rfl, rfl, rfl, setG_self _ _ _, rfl, ?_⟩
    | refine SetP.mk ⟨_, _, _, _, _, rfl, rfl, rfl, rfl, rfl, rfl, rfl, ?_⟩
    | refine BS.dec (fun _ => ?_) (fun _ => ?_)
    | refine BS.eq (fun _ => ?_) (fun _ => ?_)
    | refine BS.ne (fun _ => ?_) (fun _ => ?_)
    | refine BS.nt ?_
    | refine BS.an ?_
    | refine BS.or ?_
    | refine BS.mk (fun _ => ?_) (fun _ => ?_)
    | refine RegP.mk (by kernel_rfl)
    | refine EqP.mk (SLe.refl _)
    | refine EqP.b ?_
    | refine EqP.bb ?_
    | refine EqP.int ?_
    | exact (rfl : okRen _ _ _ = true)
    | exact SLe.refl _
    | exact ChLe.refl _
    | refine And.intro ?_ ?_)
  all_goals
    repeat' ((conv => whnf); first
      | exact trivial
      | refine And.intro (SLe.ren (closed_fn hc)) ?_
      | exact SLe.ren (closed_fn hc)
      | refine And.intro (SLe.of_eq (congrArg i64 (by simp only [isortC_len, List.length_take]; omega))) ?_
      | exact SLe.of_eq (congrArg i64 (by simp only [isortC_len, List.length_take]; omega))
      | exact ChLe.row (fun j hj => by rw [List.nil_append, getD_lt hil, List.drop_eq_getElem_cons hil])
      | refine And.intro ⟨(by first | exact trivial | (and_intros <;> exact trivial) | (unfold inI64; omega) | omega | (simp only [and_true, true_and, inI64, Int.toNat_natCast]; omega))⟩ ?_
      | refine And.intro (SLe.refl _) ?_
      | refine And.intro (ChLe.refl _) ?_
      | refine NbP.mk (fun _ => ?_) ?_
      | refine SetP.mk ⟨_, _, _, _, _, rfl, rfl, rfl, rfl, rfl, setG_self _ _ _, rfl, ?_⟩
      | refine SetP.mk ⟨_, _, _, _, _, rfl, rfl, rfl, rfl, rfl, rfl, rfl, ?_⟩
      | refine BS.dec (fun _ => ?_) (fun _ => ?_)
      | refine BS.eq (fun _ => ?_) (fun _ => ?_)
      | refine BS.ne (fun _ => ?_) (fun _ => ?_)
      | refine BS.nt ?_
      | refine BS.an ?_
      | refine BS.or ?_
      | refine BS.mk (fun _ => ?_) (fun _ => ?_)
      | refine RegP.mk (by kernel_rfl)
      | refine EqP.mk (SLe.refl _)
      | refine EqP.b ?_
      | refine EqP.bb ?_
      | refine EqP.int ?_
      | exact (rfl : okRen _ _ _ = true)
      | exact SLe.refl _
      | exact ChLe.refl _
      | refine And.intro ?_ ?_)
end Go.Eng
