/- A part of the proof that the law of this seat answers true for every input, without a condition. -/
import Derived.Test.YtebcglidpmfamaaEngP
set_option linter.all false
set_option linter.unusedVariables false
set_option linter.unusedSimpArgs false
namespace Go.Eng
open Go

/-! ### Functions -/
def resS (tr : Tr) (own : List Ch) (s : T) : List ResultVar → Option (Prop × List SV)
  | [] => some (True, [])
  | .tmp t :: l => match resS tr own s l with
    | some (q, r) => some (q, getS s t :: r)
    | none => none
  | .cell a t :: l => match loadS tr own t (getS s a) with
    | some (q, v) => match resS tr own s l with
      | some (q', r) => some (q ∧ q', v :: r)
      | none => none
    | none => none
def resV : List SV → SV
  | [x] => x
  | l => .tup l
def padS : Nat → List SV → List SV
  | 0, l => l
  | n + 1, [] => .v undef :: padS n []
  | n + 1, x :: l => x :: padS n l
def retP (tr : Tr) (fn : Func) (s : T) (own : List Ch) (post : T → List Ch → Prop) : Prop :=
  match resS tr own s fn.results.toList with
  | some (q, l) => Ask q ∧ forceS l fun l => post l own
  | none => False
structure EqP (x r : SV) : Prop where
  ok : SLe x r
def sealP (r : SV) (l : T) (own : List Ch) : Prop :=
  match borL own l with
  | some (q, l) => Ask q ∧ forceS l fun l => forceV (resV l) fun x => EqP x r
  | none => False
/-- The value of a list of results. -/
def valV (vs : List Value) : Value := if vs.length = 1 then vs.headD undef else .tuple vs.toArray
section
variable {P : Program} {tr : Tr} {hn : Hint} {pin : Nat}
theorem resV_rep {H : Hp} {env : List (Nat × Nat)} {l : T} {vs : List Value} (h : RepA H env l vs) : Rep H env (resV l) (valV vs) := by
  unfold valV
  cases h with
  | nil => exact .tup .nil
  | @cons _ x v l' vs' g1 g2 =>
    cases g2 with
    | nil => exact g1
    | cons g3 g4 => exact .tup (.cons g1 (.cons g3 g4))
theorem virR {w : World} {H : Hp} : ∀ {vl : List (Nat × Nat × Nat)} {l : T} {own : List Ch} {env : List (Nat × Nat)} {k : T → List Ch → Prop} {vs : List Value}, virT vl l own k → Inv env own w H → RepA H env l vs →
    ∃ env' l' own', k l' own' ∧ Inv env' own' w H ∧ RepA H env' l' vs ∧ EnvLe env env' ∧ ∀ b, inE env' b → inE env b
  | [], l, own, env, k, vs, h, hi, hl => ⟨env, l, own, h, hi, hl, EnvLe.refl _, fun _ h => h⟩
  | (t, sz, e) :: vl, l, own, env, k, vs, h, hi, hl => by
    unfold virT at h
    split at h
    · rename_i hg
      rw [forceS_eq, forceO_eq] at h
      have hi' : Inv (env ++ [(0, 0)]) (snocO own (.row 0 sz e (fun _ => []))) w H := hi.push hi.inn (Nat.le_refl _) (fun _ _ => rfl) (fun h => by omega) (.virt rfl) (fun l e => by cases e)
      have hl' : RepA H (env ++ [(0, 0)]) (setS l t (.mr (lenO own) 0 0 sz)) vs := (hl.mono (HLe.refl _) (EnvLe.append _ _)).reput fun x hx => by
        have h2 := hl.get t
        rw [hg, List.getD_eq_getElem?_getD, hx, Option.getD_some] at h2
        cases h2 with
        | emp A => rw [lenO_eq, hi.len]; exact .mr0 (env_new _ _)
      obtain ⟨env', l', own', h1, h2, h3, h4, h5⟩ := virR h hi' hl'
      exact ⟨env', l', own', h1, h2, h3, fun i x hx => h4 i x (EnvLe.append _ _ i x hx), fun b hb => by
        rcases inE_push (h5 b hb) with h | ⟨_, h⟩
        · exact h
        · omega⟩
    · exact h.elim
theorem pad_rep {H : Hp} {env : List (Nat × Nat)} : ∀ {n : Nat} {l : List SV} {xs : List Value}, RepA H env l xs → RepA H env (padS n l) (xs ++ List.replicate (n - xs.length) undef)
  | 0, l, xs, h => by simpa [padS] using h
  | n + 1, [], _, .nil => by
    simp only [padS, List.nil_append, List.length_nil, Nat.sub_zero, List.replicate_succ]
    have := pad_rep (n := n) (H := H) (env := env) (l := []) .nil
    simp only [List.nil_append, List.length_nil, Nat.sub_zero] at this
    exact .cons (.v _) this
  | n + 1, x :: l, _, .cons h r => by
    simp only [padS, List.cons_append, List.length_cons, Nat.add_sub_add_right]
    exact .cons h (pad_rep r)
theorem resS_sound (hT : tr.All (TOk P)) {own : List Ch} {s : T} {env : List (Nat × Nat)} {a : Act} {w : World} {H : Hp} (hs : Sim env own s a w H) : ∀ {l : List ResultVar} {q : Prop} {r : List SV}, resS tr own s l = some (q, r) → q →
    ∃ vs : List Value, (l.mapM (fun | .tmp t => pure (a.tmps.getD t undef) | .cell b t => do loadVar t (← asAddr (a.tmps.getD b undef)) : ResultVar → Sem Value)).run P w = .ok vs w ∧ RepA H env r vs
  | [], q, r, h, _ => by
    simp only [resS, Option.some.injEq, Prod.mk.injEq] at h
    rw [← h.2]
    exact ⟨[], rfl, .nil⟩
  | .tmp t :: l, q, r, h, hq => by
    unfold resS at h
    split at h
    · rename_i q' r' hr
      simp only [Option.some.injEq, Prod.mk.injEq] at h
      obtain ⟨rfl, rfl⟩ := h
      obtain ⟨vs, h1, h2⟩ := resS_sound hT hs hr hq
      refine ⟨a.tmps.getD t undef :: vs, ?_, .cons ?_ h2⟩
      · simp only [List.mapM_cons, Sem.run_bind, Sem.run_pure, Result.andThen_ok, h1]
      · have := hs.rep.ev (.tmp t)
        simpa [ev, Act.eval] using this
    · cases h
  | .cell b t :: l, q, r, h, hq => by
    unfold resS at h
    split at h
    · rename_i q1 v hl
      split at h
      · rename_i q' r' hr
        simp only [Option.some.injEq, Prod.mk.injEq] at h
        obtain ⟨rfl, rfl⟩ := h
        obtain ⟨vs, h1, h2⟩ := resS_sound hT hs hr hq.2
        have hb := hs.rep.ev (.tmp b)
        simp only [ev, Act.eval] at hb
        obtain ⟨x, k1, k2⟩ := loadS_sound hT hl hq.1 hs.inv hb
        refine ⟨x :: vs, ?_, .cons k2 h2⟩
        have hptr : ∃ p, a.tmps.getD b undef = .pointer (some p) := by
          generalize a.tmps.getD b undef = y at hb
          unfold loadS at hl
          split at hl
          · split at hl
            · rename_i hg; rw [hg] at hb; cases hb; exact ⟨_, rfl⟩
            · rename_i hg; rw [hg] at hb; cases hb; exact ⟨_, rfl⟩
            · cases hl
          · cases hl
        obtain ⟨p, hp⟩ := hptr
        have e1 : (do loadVar t (← asAddr (a.tmps.getD b undef)) : Sem Value).run P w = .ok x w := by rw [hp] at k1 ⊢; exact k1
        rw [List.mapM_cons]
        show Sem.run P ((do loadVar t (← asAddr (a.tmps.getD b undef))) >>= fun x => (List.mapM _ l) >>= fun xs => pure (x :: xs)) w = _
        rw [Sem.run_bind, e1, Result.andThen_ok, Sem.run_bind, h1, Result.andThen_ok, Sem.run_pure]
      · cases h
    · cases h
theorem results_run (hT : tr.All (TOk P)) {fn : Func} {own : List Ch} {s : T} {env : List (Nat × Nat)} {a : Act} {w : World} {H : Hp} (hs : Sim env own s a w H) {post : T → List Ch → Prop} (h : retP tr fn s own post) :
    ∃ vs l, (results fn a.tmps).run P w = .ok (valV vs) w ∧ RepA H env l vs ∧ post l own := by
  unfold retP at h
  split at h
  · rename_i q l hl
    obtain ⟨vs, h1, h2⟩ := resS_sound hT hs hl h.1.ok
    have h3 := h.2
    rw [forceS_eq] at h3
    refine ⟨vs, l, ?_, h2, h3⟩
    · unfold results
      rw [Array.mapM_eq_mapM_toList]
      have hmap : (List.toArray <$> (fn.results.toList.mapM (fun | .tmp t => pure (a.tmps.getD t undef) | .cell b t => do loadVar t (← asAddr (a.tmps.getD b undef)) : ResultVar → Sem Value))).run P w = .ok vs.toArray w := by
        rw [map_eq_pure_bind, Sem.run_bind, h1]; rfl
      rw [Sem.run_bind]
      refine (congrArg (fun z => Result.andThen z _) hmap).trans ?_
      rw [Result.andThen_ok, Sem.run_pure]
      congr 1
      unfold valV
      cases vs with
      | nil => rfl
      | cons v vs => cases vs with
        | nil => rfl
        | cons u vs => simp
  · exact h.elim
theorem Inv.nil {w : World} {H : Hp} (h : HIn H w) : Inv [] [] w H :=
  ⟨h, rfl, fun _ _ _ _ _ _ _ h => by simp at h, fun _ _ _ h => by simp at h, fun _ _ _ _ h => by simp at h, fun _ _ _ _ h => by simp at h, fun _ _ _ _ h => by simp at h, fun _ _ _ _ h => by simp at h⟩
theorem Inv.shut {env : List (Nat × Nat)} {w0 w : World} {H0 H : Hp} (hs : Step (inE []) w0 H0 w H) (hf : ∀ b, inE env b → inE [] b ∨ w0.heap.size ≤ b) : Step no w0 H0 w (lend env w H) where
  os := hs.os
  tape := hs.tape
  output := hs.output
  size := hs.size
  block := fun k hk _ => hs.block k hk (fun ⟨i, x, h, _⟩ => by simp at h)
  le := hs.le.trans (lend_le hs.inn)
  inn := lend_in hs.inn
  new := fun b h1 h2 => by
    unfold lend at h2
    split at h2
    · rename_i ha
      obtain ⟨x, hx, hb⟩ := List.any_eq_true.1 ha
      simp only [Bool.and_eq_true, beq_iff_eq, decide_eq_true_eq] at hb
      obtain ⟨i, hi⟩ := List.getElem?_of_mem hx
      rcases hf b ⟨i, x.2, by rw [← hb.1]; exact hi, hb.2⟩ with ⟨i, x, h, _⟩ | h
      · simp at h
      · exact .inl h
    · rcases hs.new b h1 h2 with h | ⟨i, x, h, _⟩
      · exact .inl h
      · simp at h
/-- **A function's contract from its text.** -/
theorem spec_vc (hT : tr.All (TOk P)) (hm : P.follows .mixedOrders = true) (hn : Hint) {f : FuncId} {fn : Func} {c : Code} (hf : P.funcs[f]? = some fn) (hb : fn.body = some c) (hname : (fn.name == "runtime.NumGoroutine") = false) {args : List SV} {r : SV}
    (h : vcC P tr hn 0 c (padS fn.ntmps args) [] (fun e s own => match e with
      | .normal => retP tr fn s own (sealP r)
      | .ret => retP tr fn s own (sealP r)
      | _ => False)) : Spec P f args r := by
  refine ⟨⟨fn, hf, by rw [hb]; rfl, hname⟩, fun w H xs hi hx => ?_⟩
  refine calls_of_wp hf hb (wp_mono (vcC_sound hT hm c h (env := []) (H := H) ⟨Inv.nil hi, ?_, rfl⟩) ?_)
  · have := pad_rep (n := fn.ntmps) hx
    simpa using this
  · rintro e a' w' ⟨s', own', hk, env', H', h1, h2, h3, h4⟩
    have fin : retP tr fn s' own' (sealP r) → a'.defers = [] ∧ ∃ v, (results fn a'.tmps).run P w' = .ok v w' ∧ ∃ x H', Ending.returned v = .returned x ∧ Step no w H w' H' ∧ Rep H' [] r x := fun hk => by
      obtain ⟨vs, l, k1, k2, k3⟩ := results_run hT h1 hk
      refine ⟨h1.rep.2, _, k1, _, lend env' w' H', rfl, Inv.shut h2 h4, ?_⟩
      unfold sealP at k3
      split at k3
      · rename_i q x hbor
        have k4 := k3.2
        rw [forceS_eq, forceV_eq] at k4
        exact k4.ok _ _ _ (resV_rep (k2.bor h1.inv hbor k3.1.ok))
      · exact k3.elim
    cases e with
    | normal => exact fin hk
    | ret => exact fin hk
    | _ => exact hk.elim
/-- What a function has at its end, told to its caller: some chunks, in some order. -/
structure EndP (pin : Nat) (own1 : List Ch) (r : SV) (l : T) (own' : List Ch) : Prop where
  ok : ∃ vl ren, virT vl l own' fun l own' => okRen pin (lenO own') ren = true ∧ leO (renO ren own' ren) own1 ∧ SLe (renS ren (resV l)) r
/-- The contract of a function that writes what is lent to it, and may give what is new. -/
theorem specE_vc (hT : tr.All (TOk P)) (hm : P.follows .mixedOrders = true) (hn : Hint) {f : FuncId} {fn : Func} {c : Code} (hf : P.funcs[f]? = some fn) (hb : fn.body = some c) (hname : (fn.name == "runtime.NumGoroutine") = false) {args : List SV} {own0 own1 : List Ch} {r : SV}
    (h : vcC P tr hn (lenO own0) c (padS fn.ntmps args) own0 (fun e s own => match e with
      | .normal => retP tr fn s own (EndP (lenO own0) own1 r)
      | .ret => retP tr fn s own (EndP (lenO own0) own1 r)
      | _ => False)) : CallOkE P own0 f args r own1 := by
  refine ⟨⟨fn, hf, by rw [hb]; rfl, hname⟩, fun env w H xs hi hx => ?_⟩
  refine calls_of_wp hf hb (wp_mono (vcC_sound hT hm c h (env := env) (H := H) ⟨hi, ?_, rfl⟩) ?_)
  · have := pad_rep (n := fn.ntmps) hx
    simpa using this
  · rintro e a' w' ⟨s', own', hk, hr⟩
    have fin : retP tr fn s' own' (EndP (lenO own0) own1 r) → a'.defers = [] ∧ ∃ v, (results fn a'.tmps).run P w' = .ok v w' ∧ ∃ x env' H', Ending.returned v = .returned x ∧ Inv env' own1 w' H' ∧ Step (inE env) w H w' H' ∧ EnvLe env env' ∧ (∀ b, inE env' b → inE env b ∨ w.heap.size ≤ b) ∧ Rep H' env' r x := fun hk => by
      have hr0 := hr
      obtain ⟨env', H', h1, h2, h3, h4⟩ := hr
      obtain ⟨vs, l, k1, k2, k3⟩ := results_run hT h1 hk
      obtain ⟨vl, ren, hv⟩ := k3.ok
      obtain ⟨env2, l2, own2, ⟨g1, g2, g3⟩, i1, i2, i3, i4⟩ := virR hv h1.inv k2
      simp only [okRen, Bool.and_eq_true] at g1
      refine ⟨h1.rep.2, _, k1, _, pickE env2 ren, H', rfl, (i1.pick g1.1.1 g1.1.2).le g2, h2, fun i x hx => ?_, fun b hb => h4 b (i4 b (inE_pick hb)), g3 _ _ _ (resV_rep i2).ren⟩
      have hi' : i < lenO own0 := by rw [lenO_eq, hi.len]; exact (List.getElem?_eq_some_iff.1 hx).1
      have := pinned_spec g1.2 i (Nat.zero_le _) hi'
      unfold pickE
      rw [List.getElem?_map, show ren[i]? = some i by simpa using this, Option.map_some, List.getD_eq_getElem?_getD, i3 i x (h3 i x hi' hx)]
      rfl
    cases e with
    | normal => exact fin hk
    | ret => exact fin hk
    | _ => exact hk.elim
end
end Go.Eng
