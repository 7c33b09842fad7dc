/- A part of the proof that the law of this seat answers true for every input, without a condition. -/
import Derived.Test.YtebcglidpmfamaaEngG
set_option linter.all false
set_option linter.unusedVariables false
set_option linter.unusedSimpArgs false
namespace Go.Eng
open Go
section
variable {P : Program} {env : List (Nat × Nat)} {own : List Ch} {tr : Tr}
/-- Values laid over others from a place on. -/
def splice (vs : List Value) (off : Nat) (us : List Value) : List Value := vs.take off ++ us ++ vs.drop (off + us.length)
theorem wd_len {H : Hp} {e : List (Nat × Nat)} {c : SV} {us : List Value} (h : RepL H e [c] us) : us.length = wd c := by
  obtain ⟨u, w, rfl, h1, h2, _⟩ := h.wd
  cases h2
  simpa using h1
theorem ovl_sound {H : Hp} {e : List (Nat × Nat)} : ∀ {new cs : List SV} {us vs : List Value} {r : List SV}, ovl new cs = some r → RepL H e new us → RepL H e cs vs → RepL H e r (us ++ vs.drop us.length) ∧ us.length ≤ vs.length
  | [], cs, us, vs, r, h, hn, hv => by
    cases hn
    unfold ovl at h
    simp only [Option.some.injEq] at h
    subst h
    exact ⟨by simpa using hv, Nat.zero_le _⟩
  | n :: ns, [], us, vs, r, h, hn, hv => by unfold ovl at h; cases h
  | n :: ns, c :: cs, us, vs, r, h, hn, hv => by
    unfold ovl at h
    simp only at h
    split at h
    · rename_i hb
      have hw := Nat.eq_of_beq_eq_true hb
      split at h
      · rename_i r' hr
        injection h with h
        subst h
        obtain ⟨u1, w1, rfl, l1, r1, k1⟩ := hn.wd
        obtain ⟨u2, w2, rfl, l2, r2, k2⟩ := hv.wd
        obtain ⟨h1, h2⟩ := ovl_sound hr r1 r2
        have e1 : (u2 ++ w2).drop (u1 ++ w1).length = w2.drop w1.length := by
          rw [List.length_append, show u1.length = u2.length by omega, List.drop_append, List.drop_of_length_le (by omega)]
          simp
        rw [e1, List.append_assoc]
        exact ⟨k1 h1, by simp only [List.length_append]; omega⟩
      · cases h
    · cases h
theorem ovlAt_sound {H : Hp} {e : List (Nat × Nat)} : ∀ {cs : List SV} {off : Nat} {new : List SV} {us vs : List Value} {r : List SV}, ovlAt new cs off = some r → RepL H e new us → RepL H e cs vs → RepL H e r (splice vs off us) ∧ off + us.length ≤ vs.length
  | cs, 0, new, us, vs, r, h, hn, hv => by
    have h' : ovl new cs = some r := by cases cs <;> simpa [ovlAt] using h
    obtain ⟨h1, h2⟩ := ovl_sound h' hn hv
    exact ⟨by simpa [splice] using h1, by omega⟩
  | [], m + 1, new, us, vs, r, h, hn, hv => by simp [ovlAt] at h
  | c :: cs, m + 1, new, us, vs, r, h, hn, hv => by
    unfold ovlAt at h
    split at h
    · rename_i hb
      have hle := Nat.le_of_ble_eq_true hb
      split at h
      · rename_i r' hr
        injection h with h
        subst h
        obtain ⟨u2, w2, rfl, l2, r2, k2⟩ := hv.wd
        obtain ⟨h1, h2⟩ := ovlAt_sound hr hn r2
        have e1 : splice (u2 ++ w2) (m + 1) us = u2 ++ splice w2 (m + 1 - wd c) us := by
          unfold splice
          rw [List.take_append, List.take_of_length_le (by omega), List.drop_append, List.drop_of_length_le (by omega), l2, List.nil_append, show m + 1 + us.length - wd c = m + 1 - wd c + us.length by omega]
          simp
        rw [e1]
        exact ⟨k2 h1, by simp only [List.length_append]; omega⟩
      · cases h
    · cases h
theorem cellsS_rep {s : SV} {cs : List SV} (h : cellsS s = some cs) {H : Hp} {e : List (Nat × Nat)} {x : Value} (hx : Rep H e s x) : RepL H e cs x.cells.toList := by
  have single : ∀ {s : SV} {x : Value}, Rep H e s x → one x → x.cells.toList = [x] → RepL H e [s] x.cells.toList := fun h1 h2 h3 => by rw [h3]; exact .cons h1 h2 .nil
  cases s with
  | agg l => simp only [cellsS, Option.some.injEq] at h; subst h; cases hx with | agg h1 => simpa [Value.cells] using h1
  | v y =>
    cases hx
    cases x <;> simp only [cellsS, Option.some.injEq, reduceCtorEq] at h <;> (subst h; exact single (.v _) trivial rfl)
  | b p => simp only [cellsS, Option.some.injEq] at h; subst h; cases hx; exact single (.b _) trivial rfl
  | arr => simp [cellsS] at h
  | tup => simp [cellsS] at h
  | junk => simp [cellsS] at h
  | own i p => simp only [cellsS, Option.some.injEq] at h; subst h; have h' := hx; cases hx; exact single h' trivial rfl
  | mr i lo n sz => simp only [cellsS, Option.some.injEq] at h; subst h; have h' := hx; cases hx <;> exact single h' trivial rfl
  | rs n sz get => simp only [cellsS, Option.some.injEq] at h; subst h; have h' := hx; cases hx; exact single h' trivial rfl
  | rp l => simp only [cellsS, Option.some.injEq] at h; subst h; have h' := hx; cases hx; exact single h' trivial rfl
  | fn f a c => simp only [cellsS, Option.some.injEq] at h; subst h; have h' := hx; cases hx; exact single h' trivial rfl
  | emp => simp only [cellsS, Option.some.injEq] at h; subst h; have h' := hx; cases hx; exact single h' trivial rfl
  | nb n => simp only [cellsS, Option.some.injEq] at h; subst h; have h' := hx; cases hx; exact single h' trivial rfl
  | om i => simp only [cellsS, Option.some.injEq] at h; subst h; have h' := hx; cases hx; exact single h' trivial rfl
  | rm g => simp only [cellsS, Option.some.injEq] at h; subst h; have h' := hx; cases hx; exact single h' trivial rfl
theorem splice_get (vs us : List Value) (off j : Nat) (h : off + us.length ≤ vs.length) : (splice vs off us)[j]? = if j < off then vs[j]? else if j < off + us.length then us[j - off]? else vs[j]? := by
  unfold splice
  grind
theorem fold_splice : ∀ (us : List Value) (off : Nat) (k : Nat) (arr : Array Value), off + k + us.length ≤ arr.size →
    ((us.zipIdx k).foldl (fun (cs : Array Value) (x : Value × Nat) => cs.setIfInBounds (off + x.2) x.1) arr).toList = splice arr.toList (off + k) us
  | [], off, k, arr, h => by simp [splice]
  | u :: us, off, k, arr, h => by
    simp only [List.length_cons] at h
    simp only [List.zipIdx_cons, List.foldl_cons]
    rw [fold_splice us off (k + 1) _ (by simp; omega)]
    apply List.ext_getElem?
    intro j
    rw [splice_get _ _ _ _ (by simp; omega), splice_get _ _ _ _ (by simp; omega)]
    simp only [Array.toList_setIfInBounds, List.length_cons]
    grind
/-- Parts laid over cells, one behind the other: place and size of each part's place by 'pl'. -/
def buildL (pl : Nat → Option (Nat × Nat)) : List SV → List (Nat × SV) → Option (List SV)
  | cs, [] => some cs
  | cs, (i, s) :: rest => match pl i with
    | some (off, sz) => match cellsS s with
      | some new => match ovlAt new cs off with
        | some cs' => match Nat.beq (wdL new) sz with
          | true => buildL pl cs' rest
          | false => none
        | none => none
      | none => none
    | none => none
where
  wdL : List SV → Nat
  | [] => 0
  | c :: cs => wd c + wdL cs
theorem wdL_len {H : Hp} {e : List (Nat × Nat)} : ∀ {cs : List SV} {us : List Value}, RepL H e cs us → us.length = buildL.wdL cs
  | [], us, h => by cases h; rfl
  | c :: cs, us, h => by
    obtain ⟨u, w, rfl, h1, h2, _⟩ := h.wd
    rw [List.length_append, wdL_len h2, h1]
    rfl
theorem buildL_sound {H : Hp} {e : List (Nat × Nat)} {pl : Nat → Option (Nat × Nat)} : ∀ {parts : List (Nat × SV)} {vals : List (Nat × Value)} {cs : List SV} {arr : Array Value} {r : List SV}, buildL pl cs parts = some r →
    RepL H e cs arr.toList → parts.length = vals.length → (∀ (k : Nat) p v, parts[k]? = some p → vals[k]? = some v → p.1 = v.1 ∧ Rep H e p.2 v.2) → ∃ arr', Instr.fill pl arr vals = some arr' ∧ RepL H e r arr'.toList
  | [], [], cs, arr, r, h, hr, _, _ => by
    simp only [buildL, Option.some.injEq] at h
    subst h
    exact ⟨arr, rfl, hr⟩
  | (i, s) :: parts, [], cs, arr, r, h, hr, hl, _ => by simp at hl
  | [], v :: vals, cs, arr, r, h, hr, hl, _ => by simp at hl
  | (i, s) :: parts, (j, v) :: vals, cs, arr, r, h, hr, hl, hp => by
    obtain ⟨h0, hv⟩ := hp 0 _ _ rfl rfl
    simp only at h0 hv
    subst h0
    unfold buildL at h
    split at h
    · rename_i off sz hpl
      split at h
      · rename_i new hn
        split at h
        · rename_i cs' ho
          split at h
          · rename_i hb
            have hw := Nat.eq_of_beq_eq_true hb
            have hnew := cellsS_rep hn hv
            obtain ⟨h1, h2⟩ := ovlAt_sound ho hnew hr
            have hlen := wdL_len hnew
            simp only [Array.length_toList] at hlen h2
            have hsz : v.cells.size = sz := by omega
            have hfold := fold_splice v.cells.toList off 0 arr (by simpa using h2)
            obtain ⟨arr', h3, h4⟩ := buildL_sound (arr := v.cells.zipIdx.foldl (fun (cs : Array Value) (x : Value × Nat) => cs.setIfInBounds (off + x.2) x.1) arr) h (by
              rw [← Array.foldl_toList, Array.toList_zipIdx]
              rw [hfold]
              simpa using h1) (by simpa using hl) (fun k p u hk hk' => hp (k + 1) p u (by simpa using hk) (by simpa using hk'))
            refine ⟨arr', ?_, h4⟩
            unfold Instr.fill
            simp only [hpl]
            rw [if_neg]
            · exact h3
            · simp only [hsz, ne_eq, not_true_eq_false, decide_false, Bool.false_or, decide_eq_true_eq]
              omega
          · cases h
        · cases h
      · cases h
    · cases h
def sizeT (tr : Tr) (t : Nat) : Option Nat := match tr.find t with
  | some ti => some ti.size
  | none => none
def plStruct (tr : Tr) (fs : Array Field) (i : Nat) : Option (Nat × Nat) :=
  match fs[i]? with
  | some f => match tr.find f.type with
    | some ti => some (f.offset, ti.size)
    | none => none
  | none => none
def allKnown (tr : Tr) : List Field → Bool
  | [] => true
  | f :: fs => match tr.find f.type with
    | some _ => allKnown tr fs
    | none => false
def buildS (tr : Tr) (t : Nat) (parts : List (Nat × SV)) : Option (Prop × SV) :=
  match tr.find t with
  | some ti => match ti.desc with
    | .struct fs => match allKnown tr fs.toList with
      | true => match buildL (plStruct tr fs) ti.zero parts with
        | some l => some (True, .agg l)
        | none => none
      | false => none
    | .array _ e => match tr.find e with
      | some te => match buildL (fun i => some (i * te.size, te.size)) ti.zero parts with
        | some l => some (True, .agg l)
        | none => none
      | none => none
    | _ => none
  | none => none
theorem run_zero {t : TypeId} {ti : TI} (ht : TOk P t ti) (w : World) : ∃ z, (zeroValue t).run P w = .ok z w ∧ z.cells.size = ti.size ∧ ∀ H, RepL H [] ti.zero z.cells.toList := by
  obtain ⟨i, z, hi, h1, h2, h3, h4, h5⟩ := ht.inf
  refine ⟨z, ?_, h4, h5⟩
  unfold zeroValue
  simp [Sem.run_bind, typeInfo, program, Sem.run, hi, h3]
theorem run_places (hT : tr.All (TOk P)) : ∀ (fs : List Field), allKnown tr fs = true → ∀ (w : World), (fs.mapM (fun f => do pure (f.offset, ← sizeOf f.type) : Field → Sem (Nat × Nat))).run P w = .ok (fs.map fun f => (f.offset, ((sizeT tr f.type).getD 0))) w
  | [], _, w => by simp
  | f :: fs, h, w => by
    unfold allKnown at h
    split at h
    · rename_i ti hti
      obtain ⟨i, z, hi, h1, _⟩ := (Tr.find_all hT hti).inf
      rw [List.mapM_cons]
      simp only [Sem.run_bind, run_sizeOf hi, Result.andThen_ok, Sem.run_pure, run_places hT fs h, List.map_cons, sizeT, hti, Option.getD_some, h1]
    · cases h
theorem buildS_sound (hT : tr.All (TOk P)) {t : Nat} {parts : List (Nat × SV)} {vals : Array (Nat × Value)} {q : Prop} {r : SV} (h : buildS tr t parts = some (q, r)) {w : World} {H : Hp}
    (hl : parts.length = vals.size) (hp : ∀ (k : Nat) p v, parts[k]? = some p → vals[k]? = some v → p.1 = v.1 ∧ Rep H env p.2 v.2) : Val P env (Instr.build t vals) r w H := by
  unfold buildS at h
  split at h
  · rename_i ti hti
    have ht := Tr.find_all hT hti
    obtain ⟨z, hz, hzs, hz0⟩ := run_zero ht w
    split at h
    · rename_i fs hd
      have hu := ht.und
      rw [hd] at hu
      split at h
      · rename_i hk
        split at h
        · rename_i l hb
          simp only [Option.some.injEq, Prod.mk.injEq] at h
          obtain ⟨rfl, rfl⟩ := h
          obtain ⟨arr', h1, h2⟩ := buildL_sound (e := env) (vals := vals.toList) hb ((hz0 H).mono (HLe.refl _) (EnvLe.nil _)) (by simpa using hl) (fun k p v hk hk' => hp k p v hk (by simpa using hk'))
          refine ⟨.agg arr', ?_, by simpa using Rep.agg h2⟩
          have hplaces : (fs.mapM (fun f => do pure (f.offset, ← sizeOf f.type) : Field → Sem (Nat × Nat))).run P w = .ok (fs.map fun f => (f.offset, ((sizeT tr f.type).getD 0))) w := by
            rw [Array.mapM_eq_mapM_toList]
            show ((List.toArray <$> List.mapM _ fs.toList : Sem _)).run P w = _
            rw [map_eq_pure_bind, Sem.run_bind, run_places hT fs.toList hk w]
            simp only [Result.andThen_ok, Sem.run_pure]
            congr 1
            exact Array.toList_inj.1 (by simp)
          have hpl : (fun (i : Nat) => (fs.map fun f => (f.offset, ((sizeT tr f.type).getD 0)))[i]?) = plStruct tr fs := by
            funext i
            unfold plStruct
            rw [Array.getElem?_map]
            cases hf : fs[i]? with
            | none => rfl
            | some f =>
              have : ∀ (l : List Field) (i : Nat) f, allKnown tr l = true → l[i]? = some f → ∃ ti, tr.find f.type = some ti := by
                intro l
                induction l with
                | nil => intro i f _ h; simp at h
                | cons g l ih =>
                  intro i f h hg
                  unfold allKnown at h
                  split at h
                  · rename_i tg hg'
                    cases i with
                    | zero => simp at hg; subst hg; exact ⟨tg, hg'⟩
                    | succ i => exact ih i f h (by simpa using hg)
                  · cases h
              obtain ⟨tf, htf⟩ := this fs.toList i f hk (by simpa using hf)
              simp [sizeT, htf]
          unfold Instr.build
          simp only [Sem.run_bind, hz, Result.andThen_ok, run_underlying hu, hplaces, hpl, h1, Sem.run_pure]
        · cases h
      · cases h
    · rename_i n e hd
      have hu := ht.und
      rw [hd] at hu
      split at h
      · rename_i te hte
        split at h
        · rename_i l hb
          simp only [Option.some.injEq, Prod.mk.injEq] at h
          obtain ⟨rfl, rfl⟩ := h
          obtain ⟨i, z', hinf, hsz, _⟩ := (Tr.find_all hT hte).inf
          obtain ⟨arr', h1, h2⟩ := buildL_sound (e := env) (vals := vals.toList) hb ((hz0 H).mono (HLe.refl _) (EnvLe.nil _)) (by simpa using hl) (fun k p v hk hk' => hp k p v hk (by simpa using hk'))
          refine ⟨.agg arr', ?_, by simpa using Rep.agg h2⟩
          unfold Instr.build
          simp only [Sem.run_bind, hz, Result.andThen_ok, run_underlying hu, run_sizeOf hinf, hsz, h1, Sem.run_pure]
        · cases h
      · cases h
    · cases h
  · cases h
/-! ### All of them -/
def argsS (s : T) : List Operand → List SV
  | [] => []
  | o :: l => ev s o :: argsS s l
def partsS (s : T) : List (Nat × Operand) → List (Nat × SV)
  | [] => []
  | (i, o) :: l => (i, ev s o) :: partsS s l
def extractS : SV → Nat → Option (Prop × SV)
  | .tup vs, i => match vs[i]? with
    | some v => some (True, v)
    | none => none
  | _, _ => none
def nilS : SV → Option (Prop × SV)
  | .own i p => some (True, .own i p)
  | .rp l => some (True, .rp l)
  | .fn (.func f) a c => some (True, .fn (.func f) a c)
  | _ => none
def builtinS (tr : Tr) (b : Builtin) (ts : List TypeId) (vs : List SV) : Option (Prop × SV) :=
  match b, ts, vs with
  | .len, [t], [x] => lenS tr t x
  | .min, _, [x, y] => minS x y
  | .max, _, [x, y] => maxS x y
  | _, _, _ => none
def nilQ : BinOp → Operand → Bool
  | .eql, .const (.slice none 0 0) => true
  | _, _ => false
def nilEqS (tr : Tr) (t : Nat) (x : SV) : Option (Prop × SV) :=
  match sliceOf tr t with
  | some _ => match x with
    | .rs n _ _ => some (True, .nb n)
    | .mr _ _ n _ => some (True, .nb n)
    | .emp => some (True, .nb 0)
    | _ => none
  | none => none
theorem nilEqS_sound (hT : tr.All (TOk P)) {t : Nat} {x : SV} {q : Prop} {r : SV} (h : nilEqS tr t x = some (q, r)) {op : BinOp} {o1 o2 : Operand} (hn : nilQ op o2 = true) {w : World} {H : Hp} {va vb : Value} (ha : Rep H env x va) (hb : vb = .slice none 0 0) :
    Val P env (do eqGuard op t o1 o2 va vb; binOp op t va vb) r w H := by
  have hop : op = .eql := by
    unfold nilQ at hn
    split at hn
    · rfl
    · cases hn
  subst hop; subst hb
  unfold nilEqS at h
  split at h
  · rename_i te hs
    obtain ⟨ti, e, hti, hd, _⟩ := sliceOf_desc hs
    have ht := (Tr.find_all hT hti).und
    rw [hd] at ht
    have key : ∀ (A : Option Addr) (n c : Nat), (A = none → n = 0) → Val P env (do eqGuard .eql t o1 o2 (.slice A n c) (.slice none 0 0); binOp .eql t (.slice A n c) (.slice none 0 0)) (.nb n) w H := fun A n c h0 => by
      refine ⟨.bool A.isNone, ?_, .nb _ fun hp => ?_⟩
      · rw [Sem.run_bind, eqGuard_run (.inr ⟨by simp, by simp⟩), Result.andThen_ok]
        have hE : (Op.equal t (.slice A n c) (.slice none 0 0)).run P w = .ok A.isNone w := by
          unfold Op.equal Op.maxDepth
          show Sem.run P (Op.equalIn (9999 + 1) t (.slice A n c) (.slice none 0 0)) w = _
          unfold Op.equalIn
          rw [Sem.run_bind, run_underlying ht, Result.andThen_ok]
          cases A <;> rfl
        show Sem.run P (do pure (Value.bool (← Op.equal t (.slice A n c) (.slice none 0 0)))) w = _
        rw [Sem.run_bind, hE]; rfl
      · cases A with
        | none => exact h0 rfl
        | some a => cases hp
    split at h
    · simp only [Option.some.injEq, Prod.mk.injEq] at h
      obtain ⟨rfl, rfl⟩ := h
      cases ha with
      | rs vals h1 h2 h3 h5 h4 =>
        refine key _ _ _ fun e => Nat.eq_zero_of_not_pos fun hn => ?_
        obtain ⟨a, h6, _⟩ := h4 0 hn
        rw [e] at h6; cases h6
    · simp only [Option.some.injEq, Prod.mk.injEq] at h
      obtain ⟨rfl, rfl⟩ := h
      cases ha with
      | mr0 he => exact key _ _ _ fun _ => rfl
      | mr he hp hb hl hc => exact key _ _ _ fun e => by cases e
    · simp only [Option.some.injEq, Prod.mk.injEq] at h
      obtain ⟨rfl, rfl⟩ := h
      cases ha with
      | emp A => exact key _ _ _ fun _ => rfl
    · cases h
  · cases h
def detS (tr : Tr) (own : List Ch) (s : T) : Op → Option (Prop × SV)
  | .move x | .assign x => some (True, ev s x)
  | .pick c a b => pickS (ev s c) (ev s a) (ev s b)
  | .load t a => loadS tr own t (ev s a)
  | .fieldAddr t x f => fieldAddrS tr t (ev s x) f
  | .field t x f => fieldS tr t (ev s x) f
  | .indexAddr t x i => indexAddrS tr t (ev s x) (ev s i)
  | .index t x i => indexS tr t (ev s x) (ev s i)
  | .binOp op t x y _ => match nilQ op y with
    | true => nilEqS tr t (ev s x)
    | false => binS op (ev s x) (ev s y)
  | .unOp op _ x => unS op (ev s x)
  | .convert src dst x => convS tr src dst (ev s x)
  | .extract t i => extractS (ev s t) i
  | .makeFunc f first cap => some (True, .fn f (argsS s first.toList) (argsS s cap.toList))
  | .nilCheck x => nilS (ev s x)
  | .slice t x lo hi none => sliceS tr t (ev s x) (lo.map (ev s)) (hi.map (ev s))
  | .build t parts => buildS tr t (partsS s parts.toList)
  | .call ⟨.builtin b, args, ts⟩ => builtinS tr b ts.toList (argsS s args.toList)
  | _ => none
theorem argsS_rep {H : Hp} {s : T} {ρ : Operand → Value} : ∀ {l : List Operand}, (∀ y ∈ l, Rep H env (ev s y) (ρ y)) → RepA H env (argsS s l) (l.map ρ)
  | [], _ => .nil
  | o :: l, h => .cons (h o (by simp)) (argsS_rep fun y hy => h y (by simp [hy]))
theorem partsS_rep {s : T} : ∀ {l : List (Nat × Operand)}, (partsS s l).length = l.length ∧ ∀ (k : Nat) p, (partsS s l)[k]? = some p → ∃ o, l[k]? = some (p.1, o) ∧ p.2 = ev s o
  | [] => ⟨rfl, fun k p h => by simp [partsS] at h⟩
  | (i, o) :: l => by
    obtain ⟨h1, h2⟩ := partsS_rep (s := s) (l := l)
    refine ⟨by simp [partsS, h1], fun k p h => ?_⟩
    cases k with
    | zero => simp [partsS] at h; subst h; exact ⟨o, rfl, rfl⟩
    | succ k => exact h2 k p (by simpa [partsS] using h)
theorem okv {o : Oper} {ρ : Operand → Value} {sem : Sem Value} (he : execOp ρ o = (do pure (.value (← sem)) : Sem Next)) {w : World} {H : Hp} (hi : HIn H w) {r : SV} (h : Val P env sem r w H) : Yld P env w H r ((execOp ρ o).run P w) := by
  obtain ⟨x, h1, h2⟩ := h
  rw [he, Sem.run_bind, h1]
  exact ⟨H, Step.refl hi, h2⟩
theorem detS_sound (hT : tr.All (TOk P)) {s : T} {o : Oper} {q : Prop} {r : SV} (h : detS tr own s o.op = some (q, r)) (hq : q) : OkRun P env own o s r := by
  obtain ⟨dst, op, type, pos, after, guard⟩ := o
  intro w H ρ hi hr hcst
  simp only at h hr
  unfold detS at h
  split at h
  · simp only [Option.some.injEq, Prod.mk.injEq] at h
    obtain ⟨rfl, rfl⟩ := h
    exact ⟨H, Step.refl hi.inn, hr _ (by simp [Op.operands])⟩
  · simp only [Option.some.injEq, Prod.mk.injEq] at h
    obtain ⟨rfl, rfl⟩ := h
    exact ⟨H, Step.refl hi.inn, hr _ (by simp [Op.operands])⟩
  · rename_i c a b
    obtain ⟨x, h1, h2⟩ := pickS_sound (P := P) (w := w) h (hr c (by simp [Op.operands])) (hr a (by simp [Op.operands])) (hr b (by simp [Op.operands]))
    refine okv (sem := (do pure (if ← asBool (ρ c) then ρ a else ρ b) : Sem Value)) ?_ hi.inn ⟨x, h1, h2⟩
    show (do pure (Next.value (if ← asBool (ρ c) then ρ a else ρ b)) : Sem Next) = _
    cases ρ c <;> rfl
  · exact okv rfl hi.inn (loadS_sound hT h hq hi (hr _ (by simp [Op.operands])))
  · exact okv rfl hi.inn (fieldAddrS_sound hT h (hr _ (by simp [Op.operands])))
  · exact okv rfl hi.inn (fieldS_sound hT h (hr _ (by simp [Op.operands])))
  · exact okv rfl hi.inn (indexAddrS_sound hT h hq (hr _ (by simp [Op.operands])) (hr _ (by simp [Op.operands])))
  · exact okv rfl hi.inn (indexS_sound hT h hq (hr _ (by simp [Op.operands])) (hr _ (by simp [Op.operands])))
  · rename_i bo t x y t'
    split at h
    · rename_i hn
      refine okv rfl hi.inn (nilEqS_sound hT h (o1 := x) hn (hr _ (by simp [Op.operands])) ?_)
      unfold nilQ at hn
      split at hn
      · exact hcst _
      · cases hn
    · exact okv rfl hi.inn (binS_sound h hq (hr _ (by simp [Op.operands])) (hr _ (by simp [Op.operands])))
  · exact okv rfl hi.inn (unS_sound h hq (hr _ (by simp [Op.operands])))
  · exact okv rfl hi.inn (convS_sound hT h hq (hr _ (by simp [Op.operands])))
  · rename_i t i
    have ht := hr t (by simp [Op.operands])
    unfold extractS at h
    split at h
    · rename_i vs i' hs
      rw [hs] at ht
      split at h
      · rename_i v hv
        simp only [Option.some.injEq, Prod.mk.injEq] at h
        obtain ⟨rfl, rfl⟩ := h
        generalize hx : ρ t = x at ht
        cases ht with
        | @tup _ _ xs hxs =>
          have : ∀ {vs : List SV} {xs : List Value}, RepA H env vs xs → ∀ {i : Nat} {v}, vs[i]? = some v → ∃ u, xs[i]? = some u ∧ Rep H env v u := by
            intro vs
            induction vs with
            | nil => intro xs _ i v h; simp at h
            | cons a vs ih =>
              intro xs hh i v h
              cases hh with
              | cons h1 h2 => cases i with
                | zero => simp at h; subst h; exact ⟨_, rfl, h1⟩
                | succ i => exact ih h2 (by simpa using h)
          obtain ⟨u, h1, h2⟩ := this hxs hv
          refine okv (sem := Instr.extract (ρ t) _) rfl hi.inn ⟨u, ?_, h2⟩
          rw [hx]
          simp [Instr.extract, h1]
      · cases h
    · cases h
  · simp only [Option.some.injEq, Prod.mk.injEq] at h
    obtain ⟨rfl, rfl⟩ := h
    rename_i f first cap
    refine okv (sem := Instr.makeFunc f (first.map ρ) (cap.map ρ)) rfl hi.inn ⟨_, rfl, ?_⟩
    have h1 := argsS_rep (H := H) (env := env) (s := s) (ρ := ρ) (l := first.toList) fun y hy => hr y (by simp only [Op.operands]; exact Array.mem_append.2 (.inl (by simpa using hy)))
    have h2 := argsS_rep (H := H) (env := env) (s := s) (ρ := ρ) (l := cap.toList) fun y hy => hr y (by simp only [Op.operands]; exact Array.mem_append.2 (.inr (by simpa using hy)))
    have := Rep.fn (f := f) h1 h2
    rwa [show (first.toList.map ρ).toArray = first.map ρ from Array.toList_inj.1 (by simp), show (cap.toList.map ρ).toArray = cap.map ρ from Array.toList_inj.1 (by simp)] at this
  · rename_i y
    have ht := hr y (by simp [Op.operands])
    unfold nilS at h
    split at h
    · rename_i hs
      simp only [Option.some.injEq, Prod.mk.injEq] at h
      obtain ⟨rfl, rfl⟩ := h
      rw [hs] at ht
      have h3 := ht
      generalize hx : ρ y = x at ht h3
      cases ht
      simp only [execOp, hx]
      exact ⟨H, Step.refl hi.inn, h3⟩
    · rename_i hs
      simp only [Option.some.injEq, Prod.mk.injEq] at h
      obtain ⟨rfl, rfl⟩ := h
      rw [hs] at ht
      have h3 := ht
      generalize hx : ρ y = x at ht h3
      cases ht
      simp only [execOp, hx]
      exact ⟨H, Step.refl hi.inn, h3⟩
    · rename_i hs
      simp only [Option.some.injEq, Prod.mk.injEq] at h
      obtain ⟨rfl, rfl⟩ := h
      rw [hs] at ht
      have h3 := ht
      generalize hx : ρ y = x at ht h3
      cases ht
      simp only [execOp, hx]
      exact ⟨H, Step.refl hi.inn, h3⟩
    · cases h
  · rename_i t x lo hi'
    exact okv rfl hi.inn (sliceS_sound (ρ := ρ) hT h hq (hr _ (by simp [Op.operands])) (fun y hy => hr y (by simp [Op.operands, hy])) (fun y hy => hr y (by simp [Op.operands, hy])))
  · rename_i t parts
    refine okv (sem := Instr.build t (parts.map fun (i, x) => (i, ρ x))) rfl hi.inn (buildS_sound hT h (by simp [(partsS_rep (s := s)).1]) (fun k p v hk hv => ?_))
    obtain ⟨o, h1, h2⟩ := (partsS_rep (s := s)).2 k p hk
    rw [Array.getElem?_map] at hv
    rw [show parts[k]? = some (p.1, o) by simpa using h1] at hv
    simp only [Option.map_some, Option.some.injEq] at hv
    subst hv
    refine ⟨rfl, ?_⟩
    rw [h2]
    refine hr o ?_
    simp only [Op.operands]
    exact List.mem_toArray.2 (List.mem_map.2 ⟨(p.1, o), List.mem_of_getElem? h1, rfl⟩)
  · rename_i b args ts
    have ha := argsS_rep (H := H) (env := env) (s := s) (ρ := ρ) (l := args.toList) fun y hy => hr y (by simp [Op.operands, Call.operands]; simpa using hy)
    have hm : args.map ρ = (args.toList.map ρ).toArray := Array.toList_inj.1 (by simp)
    have hts : ts = ts.toList.toArray := rfl
    generalize argsS s args.toList = vs at h ha
    generalize args.toList.map ρ = xs at ha hm
    unfold builtinS at h
    split at h
    · rename_i t x he
      cases ha with
      | cons h1 h2 =>
        cases h2
        refine okv (sem := Builtin.len_ ts type (args.map ρ)) (by simp [execOp, resolve, invoke, builtin]) hi.inn ?_
        rw [hm, hts, he]
        exact lenS_sound hT h h1
    · cases ha with
      | cons h1 h2 => cases h2 with
        | cons h2 h3 =>
          cases h3
          refine okv (sem := Builtin.min_ ts type (args.map ρ)) (by simp [execOp, resolve, invoke, builtin]) hi.inn ?_
          rw [hm]
          exact minS_sound h h1 h2
    · cases ha with
      | cons h1 h2 => cases h2 with
        | cons h2 h3 =>
          cases h3
          refine okv (sem := Builtin.max_ ts type (args.map ρ)) (by simp [execOp, resolve, invoke, builtin]) hi.inn ?_
          rw [hm]
          exact maxS_sound h h1 h2
    · cases h
  · cases h
end
end Go.Eng
