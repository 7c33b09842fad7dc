/- A part of the proof that the law of this seat answers true for every input, without a condition. -/
import Derived.Test.YtebcglidpmfamaaEngL
set_option linter.all false
set_option linter.unusedVariables false
set_option linter.unusedSimpArgs false
namespace Go.Eng
open Go

/-! ### Where a run has come to, told from where it began -/
theorem Step.comp {env env1 : List (Nat × Nat)} {w w1 w2 : World} {H H1 H2 : Hp} (h : Step (inE env) w H w1 H1) (k : Step (inE env1) w1 H1 w2 H2) (hf : ∀ b, inE env1 b → inE env b ∨ w.heap.size ≤ b) : Step (inE env) w H w2 H2 where
  os := k.os.trans h.os
  tape := k.tape.trans h.tape
  output := k.output.trans h.output
  size := Nat.le_trans h.size k.size
  block := fun i hi hM => (k.block i (Nat.lt_of_lt_of_le hi h.size) (fun h1 => (hf i h1).elim hM (fun h2 => by omega))).trans (h.block i hi hM)
  le := h.le.trans k.le
  inn := k.inn
  new := fun x h1 h2 => by
    cases hb : H1 x with
    | some o => exact h.new x h1 (by simp [hb])
    | none =>
      rcases k.new x hb h2 with h3 | h3
      · exact .inl (Nat.le_trans h.size h3)
      · exact (hf x h3).symm
/-- The state told by s and own, come to from (env, w, H); the first chunks, pin of them, stand where they stood. -/
def Reach (pin : Nat) (env : List (Nat × Nat)) (w : World) (H : Hp) (s : T) (own : List Ch) (a : Act) (w' : World) : Prop :=
  ∃ env' H', Sim env' own s a w' H' ∧ Step (inE env) w H w' H' ∧ (∀ (i : Nat) x, i < pin → env[i]? = some x → env'[i]? = some x) ∧ ∀ b, inE env' b → inE env b ∨ w.heap.size ≤ b
theorem Reach.refl {pin : Nat} {env : List (Nat × Nat)} {w : World} {H : Hp} {s : T} {own : List Ch} {a : Act} (h : Sim env own s a w H) : Reach pin env w H s own a w :=
  ⟨env, H, h, Step.refl h.inv.inn, fun _ _ _ h => h, fun b h => .inl h⟩
theorem Reach.comp {pin : Nat} {env env1 : List (Nat × Nat)} {w w1 w2 : World} {H H1 : Hp} {s2 : T} {own2 : List Ch} {a2 : Act} (h : Step (inE env) w H w1 H1) (he : ∀ (i : Nat) x, i < pin → env[i]? = some x → env1[i]? = some x) (hf : ∀ b, inE env1 b → inE env b ∨ w.heap.size ≤ b) (k : Reach pin env1 w1 H1 s2 own2 a2 w2) : Reach pin env w H s2 own2 a2 w2 := by
  obtain ⟨env', H', h1, h2, h4, h3⟩ := k
  exact ⟨env', H', h1, h.comp h2 hf, fun i x hi hx => h4 i x hi (he i x hi hx), fun b hb => by
    rcases h3 b hb with h4 | h4
    · exact hf b h4
    · exact .inr (Nat.le_trans h.size h4)⟩
theorem Oper.wp_mono2 {P : Program} {o : Oper} {a : Act} {w : World} {K K' : Act → World → Prop} {Q : Exit → Act → World → Prop} (hh : o.wp P a w K (fun _ _ _ => False)) (h : ∀ a w, K a w → K' a w) : o.wp P a w K' Q := by
  unfold Oper.wp at *
  generalize (execOp a.eval o).run P w = r at *
  cases r with
  | ok n w' =>
    cases n <;> simp only [Oper.upon] at hh ⊢ <;>
      first
        | exact h _ _ hh
        | exact Calls.mono hh (fun e w'' he => by cases e <;> first | exact h _ _ he | exact he.elim | (obtain ⟨_, _, he⟩ := he; exact he.elim))
        | exact Rows.mono hh (fun _ _ he => h _ _ he)
  | halt x w' => cases x <;> simp only [Oper.upon] at hh ⊢

/-! ### Classes of operations: which may change places -/
inductive Cl where
  | g | r | e
def commB : Cl → Cl → Bool
  | .g, _ => true
  | _, .g => true
  | .r, .r => true
  | _, _ => false

section
variable {P : Program} {ops : Array Oper}
def Agr (o : Oper) (s s2 : T) : Prop := ∀ y ∈ o.op.operands, ev s2 y = ev s y
/-- What one operation does: g: whatever one has of one's own; r: it reads what is one's own; e: it changes it. -/
def Out (P : Program) (c : Cl) (o : Oper) (s : T) (own : List Ch) (r : SV) (own' : List Ch) : Prop :=
  ∀ s2, Agr o s s2 → match c with
    | .g => own' = own ∧ ∀ own2, OkSeq P own2 own2 o s2 (put s2 o.dst r)
    | .r => own' = own ∧ OkSeq P own own o s2 (put s2 o.dst r)
    | .e => OkSeq P own own' o s2 (put s2 o.dst r)
def OutG (P : Program) (ops : Array Oper) (c : Cl) (o : Oper) (s : T) (own : List Ch) (r : SV) (own' : List Ch) : Prop :=
  (wantedS ops o s = some true ∧ Out P c o s own r own') ∨ (wantedS ops o s = some false ∧ r = .v undef ∧ own' = own)
def vcY (P : Program) (ops : Array Oper) (cl : Oper → Cl) : List Oper → T → List Ch → (T → List Ch → Prop) → Prop
  | [], s, own, K => K s own
  | o :: l, s, own, K => ∃ r own', OutG P ops (cl o) o s own r own' ∧ vcY P ops cl l (put s o.dst r) own' K
def okY (P : Program) (ops : Array Oper) (cl : Oper → Cl) (i : Nat) (K : T → List Ch → Prop) (s : T) (own : List Ch) : Prop :=
  match ops[i]? with
  | none => K s own
  | some o => ∃ r own', OutG P ops (cl o) o s own r own' ∧ K (put s o.dst r) own'
def anyY (P : Program) (md : Region.Mode) (ops : Array Oper) (cl : Oper → Cl) (K : T → List Ch → Prop) : Nat → Array Bool → T → List Ch → Prop
  | 0, listed, s, own => Region.ready md ops listed = [] ∧ K s own
  | fuel + 1, listed, s, own =>
    (Region.ready md ops listed = [] → K s own) ∧ ∀ i ∈ Region.ready md ops listed, okY P ops cl i (anyY P md ops cl K fuel (listed.setIfInBounds i true)) s own

theorem Agr.put {o : Oper} {s : T} {d : Option Nat} {v : SV} (h : ∀ x, d = some x → x ∉ o.looksAt ops) : Agr o s (put s d v) := fun y hy => ev_put s y d v fun x hx hyx => h x hx (by
    subst hyx
    exact List.mem_append_left _ (List.mem_filterMap.2 ⟨.tmp x, by simpa using hy, rfl⟩))
theorem wantedS_put {o : Oper} {s : T} {d : Option Nat} {v : SV} (h : ∀ x, d = some x → x ∉ o.looksAt ops) : wantedS ops o (put s d v) = wantedS ops o s := by
  cases d with
  | none => rfl
  | some d =>
    unfold wantedS
    cases hg : o.guard with
    | none => rfl
    | some gw =>
      obtain ⟨g, want⟩ := gw
      cases ht : (ops[g]?).bind (·.dst) with
      | none => simp [ht]
      | some t =>
        have hne : d ≠ t := fun e => h d rfl (by subst e; simp [Oper.looksAt, hg, ht])
        simp only [ht, guardS, Eng.put, getS_setS s v hne]
theorem Agr.trans {o : Oper} {s s2 s3 : T} (h : Agr o s s2) (k : Agr o s2 s3) : Agr o s s3 := fun y hy => (k y hy).trans (h y hy)
theorem Agr.symm {o : Oper} {s s2 : T} (h : Agr o s s2) : Agr o s2 s := fun y hy => (h y hy).symm
theorem Out.agr {c : Cl} {o : Oper} {s s2 : T} {own own' : List Ch} {r : SV} (h : Out P c o s own r own') (ha : Agr o s s2) : Out P c o s2 own r own' := fun s3 h3 => h s3 (ha.trans h3)
theorem Out.own {o : Oper} {s : T} {own own' own2 : List Ch} {r : SV} (h : Out P .g o s own r own') : Out P .g o s own2 r own2 := fun s3 h3 => ⟨rfl, (h s3 h3).2⟩
theorem OutG.put {c : Cl} {o : Oper} {s : T} {own own' : List Ch} {r : SV} {d : Option Nat} {v : SV} (h : ∀ x, d = some x → x ∉ o.looksAt ops) : OutG P ops c o (Eng.put s d v) own r own' ↔ OutG P ops c o s own r own' := by
  unfold OutG
  rw [wantedS_put h]
  exact ⟨fun hh => hh.imp (fun h1 => ⟨h1.1, h1.2.agr (Agr.put h).symm⟩) id, fun hh => hh.imp (fun h1 => ⟨h1.1, h1.2.agr (Agr.put h)⟩) id⟩
theorem OutG.own {o : Oper} {s : T} {own own' own2 : List Ch} {r : SV} (h : OutG P ops .g o s own r own') : OutG P ops .g o s own2 r own2 :=
  h.imp (fun h1 => ⟨h1.1, h1.2.own⟩) (fun h1 => ⟨h1.1, h1.2.1, rfl⟩)
theorem OutG.same {c : Cl} {o : Oper} {s : T} {own own' : List Ch} {r : SV} (h : OutG P ops c o s own r own') (hc : c ≠ .e) : own' = own := by
  rcases h with ⟨_, h⟩ | ⟨_, _, h⟩
  · have h := h s (fun _ _ => rfl)
    cases c with
    | g => exact h.1
    | r => exact h.1
    | e => exact absurd rfl hc
  · exact h
theorem okY_mono {cl : Oper → Cl} {i : Nat} {K K' : T → List Ch → Prop} {s : T} {own : List Ch} (h : ∀ s own, K s own → K' s own) (hh : okY P ops cl i K s own) : okY P ops cl i K' s own := by
  unfold okY at *
  split
  · rename_i hn; simp only [hn] at hh; exact h _ _ hh
  · rename_i o ho
    simp only [ho] at hh
    obtain ⟨r, own', h1, h2⟩ := hh
    exact ⟨r, own', h1, h _ _ h2⟩
theorem okY_put {cl : Oper → Cl} {j : Nat} {oi oj : Oper} {v : SV} (hj : ops[j]? = some oj) (hap : oi.apart ops oj = true) (hcm : commB (cl oi) (cl oj) = true) {K : T → List Ch → Prop} {s : T} {own own1 : List Ch}
    (hy : OutG P ops (cl oi) oi s own v own1) (h : okY P ops cl j K (put s oi.dst v) own1) :
    okY P ops cl j (fun s' own' => ∃ own'', OutG P ops (cl oi) oi s' own' v own'' ∧ K (put s' oi.dst v) own'') s own := by
  obtain ⟨h1, h2, h3⟩ := Oper.apart_spec hap
  unfold okY at *
  simp only [hj] at *
  obtain ⟨r, own', ho, hk⟩ := h
  have ho := (OutG.put h1).1 ho
  have hk' : K (put (put s oj.dst r) oi.dst v) own' := by rw [put_comm s r v (fun x hx hy => h2 x hy hx)]; exact hk
  generalize hci : cl oi = ci at *
  generalize hcj : cl oj = cj at *
  cases ci with
  | g =>
    have := hy.same (by simp)
    subst this
    exact ⟨r, own', ho, own', (OutG.put h3).2 hy.own, hk'⟩
  | r =>
    have := hy.same (by simp)
    subst this
    cases cj with
    | g =>
      have := ho.same (by simp)
      subst this
      exact ⟨r, own', ho, own', (OutG.put h3).2 hy, hk'⟩
    | r =>
      have := ho.same (by simp)
      subst this
      exact ⟨r, own', ho, own', (OutG.put h3).2 hy, hk'⟩
    | e => cases hcm
  | e =>
    cases cj with
    | g =>
      have := ho.same (by simp)
      subst this
      exact ⟨r, own, ho.own, own', (OutG.put h3).2 hy, hk'⟩
    | r => cases hcm
    | e => cases hcm

/-! ### Orders -/
/-- What is listed holds all that it waits for. -/
def Shut (md : Region.Mode) (ops : Array Oper) (listed : Array Bool) : Prop :=
  ∀ j oj, ops[j]? = some oj → listed.getD j false = true → ∀ e ∈ oj.after, Region.binds md e = true → listed.getD e.on false = true
theorem Shut.set {md : Region.Mode} {i : Nat} {listed : Array Bool} (inv : Shut md ops listed) (hi : i ∈ Region.ready md ops listed) : Shut md ops (listed.setIfInBounds i true) := by
  obtain ⟨_, oi, hoi, hall⟩ := mem_ready.1 hi
  intro j oj hj hl e he hb
  by_cases hij : i = j
  · subst hij
    have : oj = oi := Option.some.inj (hj.symm.trans hoi)
    subst this
    exact getD_set_true (hall e he hb)
  · rw [getD_set_ne false hij] at hl
    exact getD_set_true (inv j oj hj hl e he hb)
def maskE (md : Region.Mode) (acc : List Nat) : List Edge → Nat → Nat
  | [], m => m
  | e :: l, m => maskE md acc l (match Region.binds md e with
    | true => m ||| (1 <<< e.on) ||| acc.getD e.on 0
    | false => m)
/-- For each operation the operations that it waits for, told by bits. -/
def ancL (md : Region.Mode) : List Oper → List Nat → List Nat
  | [], acc => acc
  | o :: l, acc => ancL md l (acc ++ [maskE md acc o.after.toList 0])
theorem maskE_spec {md : Region.Mode} {acc : List Nat} {listed : Array Bool} (hacc : ∀ j i, Nat.testBit (acc.getD j 0) i = true → listed.getD j false = true → listed.getD i false = true) : ∀ (l : List Edge) (m : Nat), (∀ e ∈ l, Region.binds md e = true → listed.getD e.on false = true) →
    (∀ i, Nat.testBit m i = true → listed.getD i false = true) → ∀ i, Nat.testBit (maskE md acc l m) i = true → listed.getD i false = true
  | [], m, _, hm, i, h => hm i h
  | e :: l, m, hl, hm, i, h => by
    refine maskE_spec hacc l _ (fun e' he' => hl e' (List.mem_cons_of_mem _ he')) ?_ i h
    intro i' h'
    split at h'
    · rename_i hb
      simp only [Nat.testBit_or, Bool.or_eq_true] at h'
      rcases h' with (h' | h') | h'
      · exact hm i' h'
      · rw [Nat.one_shiftLeft, Nat.testBit_two_pow] at h'
        have : e.on = i' := by simpa using h'
        subst this
        exact hl e (by simp) hb
      · exact hacc e.on i' h' (hl e (by simp) hb)
    · exact hm i' h'
theorem ancL_spec {md : Region.Mode} {listed : Array Bool} (hsh : Shut md ops listed) : ∀ (l : List Oper) (acc : List Nat), (∀ j : Nat, l[j]? = ops[acc.length + j]?) →
    (∀ j i, Nat.testBit (acc.getD j 0) i = true → (∀ oj, ops[j]? = some oj → ∀ e ∈ oj.after, Region.binds md e = true → listed.getD e.on false = true) → listed.getD i false = true) →
    ∀ j i, Nat.testBit ((ancL md l acc).getD j 0) i = true → (∀ oj, ops[j]? = some oj → ∀ e ∈ oj.after, Region.binds md e = true → listed.getD e.on false = true) → listed.getD i false = true
  | [], acc, _, hacc, j, i, h, hj => hacc j i h hj
  | o :: l, acc, hl, hacc, j, i, h, hj => by
    have h0 : ops[acc.length]? = some o := by simpa using (hl 0).symm
    refine ancL_spec hsh l _ (fun j => by have := hl (j + 1); simpa [Nat.add_assoc, Nat.add_comm 1 j] using this) ?_ j i h hj
    intro j' i' h' hj'
    by_cases hlt : j' < acc.length
    · rw [List.getD_eq_getElem?_getD, List.getElem?_append_left hlt, ← List.getD_eq_getElem?_getD] at h'
      exact hacc j' i' h' hj'
    · by_cases he : j' = acc.length
      · subst he
        rw [List.getD_eq_getElem?_getD] at h'
        simp only [List.getElem?_append_right (Nat.le_refl _), Nat.sub_self, List.getElem?_cons_zero, Option.getD_some] at h'
        refine maskE_spec (md := md) (acc := acc) (listed := listed) (fun j i hb hlj => hacc j i hb (fun oj hoj e he hbe => hsh j oj hoj hlj e he hbe)) _ 0 (fun e he hb => hj' o h0 e (by simpa using he) hb) (fun i h => by simp at h) i' h'
      · have hn : (acc ++ [maskE md acc o.after.toList 0])[j']? = none := List.getElem?_eq_none (by simp; omega)
        rw [List.getD_eq_getElem?_getD, hn] at h'
        simp at h'
def freeY (md : Region.Mode) (ops : Array Oper) (cl : Oper → Cl) (anc : List Nat) (listed : Array Bool) (i : Nat) : Bool :=
  match ops[i]? with
  | none => false
  | some oi => (List.range ops.size).all fun j => j == i || listed.getD j true || match ops[j]? with
      | some oj => Nat.testBit (anc.getD j 0) i || (oi.apart ops oj && commB (cl oi) (cl oj))
      | none => true
def lexY (md : Region.Mode) (ops : Array Oper) (cl : Oper → Cl) (anc : List Nat) : Nat → Nat → Array Bool → Bool
  | 0, _, listed => (Region.ready md ops listed).isEmpty
  | fuel + 1, k, listed => (Region.ready md ops listed).contains k && freeY md ops cl anc listed k && lexY md ops cl anc fuel (k + 1) (listed.setIfInBounds k true)
/-- The region's operations come to the same in all orders. -/
def lexYB (ops : Array Oper) (cl : Oper → Cl) : Bool := lexY .any ops cl (ancL .any ops.toList []) ops.size 0 (Array.replicate ops.size false)
theorem freeY_spec {md : Region.Mode} {cl : Oper → Cl} {i : Nat} {oi : Oper} {listed : Array Bool} {anc : List Nat} (hi : ops[i]? = some oi) (h : freeY md ops cl anc listed i = true) (j : Nat) (oj : Oper)
    (hj : ops[j]? = some oj) (hne : j ≠ i) (hun : listed.getD j true = false) (hno : Nat.testBit (anc.getD j 0) i = false) :
    oi.apart ops oj = true ∧ commB (cl oi) (cl oj) = true := by
  simp only [freeY, hi, List.all_eq_true, List.mem_range] at h
  have h1 := h j (Array.getElem?_eq_some_iff.1 hj).1
  simp only [hj, Bool.or_eq_true, beq_iff_eq, hne, false_or, hun, Bool.false_eq_true, hno, Bool.and_eq_true] at h1
  exact h1
theorem anyY_first {md : Region.Mode} {cl : Oper → Cl} {K : T → List Ch → Prop} {i : Nat} {oi : Oper} {v : SV} {anc : List Nat} (hanc : anc = ancL md ops.toList []) (hi : ops[i]? = some oi) :
    ∀ (fuel : Nat) (listed : Array Bool) (s : T) (own own1 : List Ch), Shut md ops listed →
      (∀ j oj, ops[j]? = some oj → j ≠ i → listed.getD j true = false → Nat.testBit (anc.getD j 0) i = false → oi.apart ops oj = true ∧ commB (cl oi) (cl oj) = true) →
      i ∈ Region.ready md ops listed → OutG P ops (cl oi) oi s own v own1 →
      anyY P md ops cl K fuel (listed.setIfInBounds i true) (put s oi.dst v) own1 → anyY P md ops cl K (fuel + 1) listed s own := by
  have take : ∀ {K : T → List Ch → Prop} {s : T} {own own1 : List Ch}, OutG P ops (cl oi) oi s own v own1 → K (put s oi.dst v) own1 → okY P ops cl i K s own := fun hy hk => by
    unfold okY
    simp only [hi]
    exact ⟨v, _, hy, hk⟩
  intro fuel
  induction fuel with
  | zero =>
    intro listed s own own1 _ _ hr hy hH
    refine ⟨fun h => (by rw [h] at hr; cases hr), fun j hj => ?_⟩
    by_cases hji : j = i
    · subst hji; exact take hy hH
    · have := ready_mono hj hji
      rw [hH.1] at this
      cases this
  | succ fuel ih =>
    intro listed s own own1 hsh hfree hr hy hH
    refine ⟨fun h => (by rw [h] at hr; cases hr), fun j hj => ?_⟩
    by_cases hji : j = i
    · subst hji; exact take hy hH
    · have h1 := hH.2 j (ready_mono hj hji)
      obtain ⟨hjun, oj, hoj, hall⟩ := mem_ready.1 hj
      have hnot : Nat.testBit (anc.getD j 0) i = false := by
        cases hb : Nat.testBit (anc.getD j 0) i with
        | false => rfl
        | true =>
          subst hanc
          have hli := ancL_spec hsh ops.toList [] (by simp) (fun j i h => by simp at h) j i hb (fun o' ho' e he hbe => by
            have : o' = oj := Option.some.inj (ho'.symm.trans hoj)
            subst this
            exact hall e he hbe)
          have h0 := (mem_ready.1 hr).1
          rcases Nat.lt_or_ge i listed.size with h' | h'
          · simp [h'] at h0 hli; rw [h0] at hli; cases hli
          · simp [Array.getElem?_eq_none h'] at hli
      obtain ⟨hap, hcm⟩ := hfree j oj hoj hji hjun hnot
      have h2 := okY_put hoj hap hcm hy h1
      have hfree' : ∀ k ok, ops[k]? = some ok → k ≠ i → (listed.setIfInBounds j true).getD k true = false →
          Nat.testBit (anc.getD k 0) i = false → oi.apart ops ok = true ∧ commB (cl oi) (cl ok) = true := fun k ok hk hki hun hno => by
        refine hfree k ok hk hki ?_ hno
        by_cases hjk : j = k
        · subst hjk; exact hjun
        · rw [getD_set_ne true hjk] at hun; exact hun
      refine okY_mono (fun s' own' h3 => ?_) h2
      obtain ⟨own'', h3, h4⟩ := h3
      refine ih (listed.setIfInBounds j true) s' own' own'' (hsh.set hj) hfree' (ready_mono hr (Ne.symm hji)) h3 ?_
      rw [Array.setIfInBounds_comm _ _ hji]
      exact h4
theorem anyY_lex {md : Region.Mode} {cl : Oper → Cl} {K : T → List Ch → Prop} {anc : List Nat} (hanc : anc = ancL md ops.toList []) : ∀ (l : List Oper) (k : Nat) (listed : Array Bool) (s : T) (own : List Ch), (∀ j : Nat, l[j]? = ops[k + j]?) → Shut md ops listed →
    lexY md ops cl anc l.length k listed = true → vcY P ops cl l s own K → anyY P md ops cl K l.length listed s own
  | [], _, _, _, _, _, _, hB, h => ⟨by simpa [lexY] using hB, h⟩
  | o :: l, k, listed, s, own, hl, hsh, hB, h => by
    have h0 : ops[k]? = some o := by simpa using (hl 0).symm
    simp only [List.length_cons, lexY, Bool.and_eq_true] at hB
    obtain ⟨⟨hr, hf⟩, hB'⟩ := hB
    obtain ⟨v, own', hy, hK⟩ := h
    have hr' : k ∈ Region.ready md ops listed := by simpa using hr
    exact anyY_first hanc h0 l.length listed s own own' hsh (freeY_spec h0 hf) hr' hy
      (anyY_lex hanc l (k + 1) _ _ _ (fun j => by have := hl (j + 1); simpa [Nat.add_assoc, Nat.add_comm 1 j] using this) (hsh.set hr') hB' hK)

/-! ### In memory -/
theorem Out.seq {c : Cl} {o : Oper} {s : T} {own own' : List Ch} {r : SV} (h : Out P c o s own r own') : OkSeq P own own' o s (put s o.dst r) := by
  have h := h s (fun _ _ => rfl)
  cases c with
  | g => have h1 := h.2 own; rw [h.1]; exact h1
  | r => have h1 := h.2; rw [h.1]; exact h1
  | e => exact h
theorem outG_step {c : Cl} {Q : Exit → Act → World → Prop} {o : Oper} {s : T} {own own' : List Ch} {r : SV} (h : OutG P ops c o s own r own') {env : List (Nat × Nat)} {a : Act} {w : World} {H : Hp} (hs : Sim env own s a w H)
    {K : Act → World → Prop} {pin : Nat} (hK : ∀ a' w', Reach pin env w H (put s o.dst r) own' a' w' → K a' w') : if Region.wanted o (yielded ops a.tmps) then o.wp P a w K Q ∨ (o.asks P a w ∧ LetsOut Q) else K (a.put o.dst undef) w := by
  rcases h with ⟨hw, hrun⟩ | ⟨hw, rfl, rfl⟩
  · rw [yielded_sim hs.rep hw]
    simp only [if_true]
    exact .inl (Oper.wp_mono2 (hrun.seq env w H a hs) fun a' w' ⟨env', H', h1, h2, h3, h4⟩ => hK a' w' ⟨env', H', h1, h2, fun i x _ hx => h3 i x hx, h4⟩)
  · rw [yielded_sim hs.rep hw]
    simp only [Bool.false_eq_true, if_false]
    exact hK _ _ (Reach.refl ⟨hs.inv, hs.rep.put (.v _) _⟩)
theorem wpList_vcY {cl : Oper → Cl} {Q : Exit → Act → World → Prop} {K : T → List Ch → Prop} {pin : Nat} {env0 : List (Nat × Nat)} {w0 : World} {H0 : Hp} (hQ : ∀ s own a w, Reach pin env0 w0 H0 s own a w → K s own → Q .normal a w) :
    ∀ (l : List Oper) (s : T) (own : List Ch) (a : Act) (w : World), Reach pin env0 w0 H0 s own a w → vcY P ops cl l s own K → wpList P ops Q l a w
  | [], s, own, a, w, hr, h => hQ s own a w hr h
  | o :: l, s, own, a, w, hr, h => by
    obtain ⟨r, own', h1, h2⟩ := h
    obtain ⟨env, H, hs, ht, he, hf⟩ := hr
    exact outG_step h1 hs fun a' w' hr' => wpList_vcY hQ l _ _ _ _ (Reach.comp ht he hf hr') h2
theorem wpAny_anyY {cl : Oper → Cl} {md : Region.Mode} {Q : Exit → Act → World → Prop} {K : T → List Ch → Prop} {pin : Nat} {env0 : List (Nat × Nat)} {w0 : World} {H0 : Hp} (hQ : ∀ s own a w, Reach pin env0 w0 H0 s own a w → K s own → Q .normal a w) :
    ∀ (fuel : Nat) (listed : Array Bool) (s : T) (own : List Ch) (a : Act) (w : World), Reach pin env0 w0 H0 s own a w → anyY P md ops cl K fuel listed s own → wpAny P md ops Q fuel listed a w := by
  intro fuel
  induction fuel with
  | zero => exact fun listed s own a w hs h => ⟨h.1, hQ s own a w hs h.2⟩
  | succ fuel ih =>
    intro listed s own a w hr h
    refine ⟨fun h0 => hQ s own a w hr (h.1 h0), fun i hi => ?_⟩
    have h1 := h.2 i hi
    obtain ⟨_, o, ho, _⟩ := mem_ready.1 hi
    unfold okY at h1
    simp only [ho] at h1
    obtain ⟨r, own', hok, hk⟩ := h1
    obtain ⟨env, H, hs, ht, he, hf⟩ := hr
    have := outG_step (Q := Q) hok hs (K := wpAny P md ops Q fuel (listed.setIfInBounds i true)) fun a' w' hr' => ih _ _ _ _ _ (Reach.comp ht he hf hr') hk
    unfold wpOp
    simp only [ho]
    exact this
/-- A region. -/
theorem region_vc {id : Nat} {dr : Bool} {cl : Oper → Cl} {Q : Exit → Act → World → Prop} (hm : P.follows .mixedOrders = true) (hB : dr = true → lexYB ops cl = true)
    {env : List (Nat × Nat)} {s : T} {own : List Ch} {a : Act} {w : World} {H : Hp} (hs : Sim env own s a w H) {K : T → List Ch → Prop} (h : vcY P ops cl ops.toList s own K)
    {pin : Nat} (hQ : ∀ s' own' a' w', Reach pin env w H s' own' a' w' → K s' own' → Q .normal a' w') : (Code.region id ops dr).wp P Q a w := by
  cases dr with
  | false => exact wp_region_list (wpList_vcY hQ _ _ _ _ _ (Reach.refl hs) h)
  | true =>
    have hd : Reach pin env w H s own a { w with drawn := w.drawn + 1 } := ⟨env, H, hs.step0 (Step.drew hs.inv.inn), Step.drew hs.inv.inn, fun _ _ _ h => h, fun b h => .inl h⟩
    refine wp_region_any hm (wpAny_anyY (cl := cl) (K := K) hQ _ _ s own a _ hd ?_)
    have hB := hB rfl
    unfold lexYB at hB
    have := anyY_lex (P := P) (md := .any) (K := K) (cl := cl) rfl ops.toList 0 (Array.replicate ops.size false) s own (by simp) (fun j oj _ hl => by
      exfalso
      rcases Nat.lt_or_ge j ops.size with h' | h'
      · simp [h'] at hl
      · simp [h'] at hl) (by simpa using hB) h
    simpa using this
end
end Go.Eng
