/- A part of the proof that the law of this seat answers true for every input, without a condition. -/
import Derived.Test.YtebcglidpmfamaaEngB
set_option linter.all false
set_option linter.unusedVariables false
namespace Go.Eng
open Go

section
variable (P : Program) (env : List (Nat × Nat)) (own : List Ch)

/-- What one operation has come to: a value, memory that was there as it was. -/
def Yld (w : World) (H : Hp) (r : SV) : Result Next → Prop
  | .ok (.value x) w' => ∃ H', Step no w H w' H' ∧ Rep H' env r x
  | .ok .skip w' => ∃ H', Step no w H w' H' ∧ Rep H' env r undef
  | .ok (.enter f args) w' => Calls P f args w' fun e w'' => ∃ x H', e = .returned x ∧ Step no w H w'' H' ∧ Rep H' env r x
  | _ => False
/-- The operation runs, whatever the values behind its operands are, and yields r. -/
def OkRun (o : Oper) (s : T) (r : SV) : Prop :=
  ∀ (w : World) (H : Hp) (ρ : Operand → Value), Inv env own w H → (∀ y ∈ o.op.operands, Rep H env (ev s y) (ρ y)) → (∀ v, ρ (.const v) = v) → Yld P env w H r ((execOp ρ o).run P w)
def guardS (s : T) (g : Nat) : Option (Option Bool) :=
  match getS s g with
  | .b p => some (some p)
  | .v (.bool p) => some (some p)
  | .v (.tuple _) => some none
  | _ => none
def wantedS (ops : Array Oper) (o : Oper) (s : T) : Option Bool :=
  match o.guard with
  | none => some true
  | some (j, want) => match (ops[j]?).bind (·.dst) with
    | none => some false
    | some g => match guardS s g with
      | some (some p) => some (p == want)
      | some none => some false
      | none => none
def Ok (ops : Array Oper) (o : Oper) (s : T) (r : SV) : Prop :=
  (wantedS ops o s = some true ∧ OkRun P env own o s r) ∨ (wantedS ops o s = some false ∧ r = .v undef)

def vcX (ops : Array Oper) : List Oper → T → (T → Prop) → Prop
  | [], s, K => K s
  | o :: l, s, K => ∃ r, Ok P env own ops o s r ∧ vcX ops l (put s o.dst r) K

def okOp (ops : Array Oper) (i : Nat) (K : T → Prop) (s : T) : Prop :=
  match ops[i]? with
  | none => K s
  | some o => ∃ r, Ok P env own ops o s r ∧ K (put s o.dst r)
def anyX (md : Region.Mode) (ops : Array Oper) (K : T → Prop) : Nat → Array Bool → T → Prop
  | 0, listed, s => Region.ready md ops listed = [] ∧ K s
  | fuel + 1, listed, s =>
    (Region.ready md ops listed = [] → K s) ∧ ∀ i ∈ Region.ready md ops listed, okOp P env own ops i (anyX md ops K fuel (listed.setIfInBounds i true)) s
end

theorem getS_setS (s : List SV) {d t : Nat} (v : SV) (h : d ≠ t) : getS (setS s d v) t = getS s t := by
  induction s generalizing d t with
  | nil => rfl
  | cons x s ih =>
    cases d with
    | zero => cases t with
      | zero => exact absurd rfl h
      | succ t => rfl
    | succ d => cases t with
      | zero => rfl
      | succ t => exact ih (by omega)
theorem setS_comm (s : List SV) {d t : Nat} (v u : SV) (h : d ≠ t) : setS (setS s d v) t u = setS (setS s t u) d v := by
  induction s generalizing d t with
  | nil => rfl
  | cons x s ih =>
    cases d with
    | zero => cases t with
      | zero => exact absurd rfl h
      | succ t => rfl
    | succ d => cases t with
      | zero => rfl
      | succ t => simp only [setS]; rw [ih (by omega)]
theorem put_comm (s : T) {d t : Option Nat} (v u : SV) (h : ∀ x, d = some x → t ≠ some x) : put (put s d v) t u = put (put s t u) d v := by
  cases d with
  | none => rfl
  | some d => cases t with
    | none => rfl
    | some t => exact setS_comm s v u (fun e => h d rfl (by rw [e]))
theorem ev_put (s : T) (o : Operand) (d : Option Nat) (v : SV) (h : ∀ x, d = some x → o ≠ .tmp x) : ev (put s d v) o = ev s o := by
  cases d with
  | none => rfl
  | some d => cases o with
    | tmp t => exact getS_setS s v (fun e => h d rfl (by rw [e]))
    | _ => rfl

section
variable {P : Program} {env : List (Nat × Nat)} {own : List Ch} {ops : Array Oper}
theorem Ok.put_iff {o : Oper} {s : T} {r : SV} {d : Option Nat} {v : SV} (h : ∀ x, d = some x → x ∉ o.looksAt ops) : Ok P env own ops o (put s d v) r ↔ Ok P env own ops o s r := by
  have he : ∀ y ∈ o.op.operands, ev (put s d v) y = ev s y := fun y hy => ev_put s y d v fun x hx hyx => h x hx (by
    subst hyx
    exact List.mem_append_left _ (List.mem_filterMap.2 ⟨.tmp x, by simpa using hy, rfl⟩))
  have hw : wantedS ops o (put s d v) = wantedS ops o s := by
    cases d with
    | none => rfl
    | some d =>
      unfold wantedS
      cases hg : o.guard with
      | none => rfl
      | some gw =>
        obtain ⟨g, want⟩ := gw
        cases ht : (ops[g]?).bind (·.dst) with
        | none => simp [ht]
        | some t =>
          have hne : d ≠ t := fun e => h d rfl (by subst e; simp [Oper.looksAt, hg, ht])
          simp only [ht, guardS, put, getS_setS s v hne]
  unfold Ok OkRun
  rw [hw]
  constructor
  · rintro (⟨h1, h2⟩ | h2)
    · exact .inl ⟨h1, fun w H ρ hi hr hcst => h2 w H ρ hi (fun y hy => by rw [he y hy]; exact hr y hy) hcst⟩
    · exact .inr h2
  · rintro (⟨h1, h2⟩ | h2)
    · exact .inl ⟨h1, fun w H ρ hi hr hcst => h2 w H ρ hi (fun y hy => by rw [← he y hy]; exact hr y hy) hcst⟩
    · exact .inr h2
theorem okOp_mono {i : Nat} {K K' : T → Prop} {s : T} (h : ∀ s, K s → K' s) (hh : okOp P env own ops i K s) : okOp P env own ops i K' s := by
  unfold okOp at *
  split
  · rename_i hn; simp only [hn] at hh; exact h _ hh
  · rename_i o ho
    simp only [ho] at hh
    obtain ⟨r, h1, h2⟩ := hh
    exact ⟨r, h1, h _ h2⟩
theorem okOp_put {j : Nat} {oi oj : Oper} {v : SV} (hj : ops[j]? = some oj) (hap : oi.apart ops oj = true) {K : T → Prop} {s : T}
    (hy : Ok P env own ops oi s v) (h : okOp P env own ops j K (put s oi.dst v)) :
    okOp P env own ops j (fun s' => Ok P env own ops oi s' v ∧ K (put s' oi.dst v)) s := by
  obtain ⟨h1, h2, h3⟩ := Oper.apart_spec hap
  unfold okOp at *
  simp only [hj] at *
  obtain ⟨r, ho, hk⟩ := h
  exact ⟨r, (Ok.put_iff h1).1 ho, (Ok.put_iff h3).2 hy, by rw [put_comm s r v (fun x hx hy => h2 x hy hx)]; exact hk⟩
theorem anyX_first {md : Region.Mode} {K : T → Prop} {i : Nat} {oi : Oper} {v : SV} (hi : ops[i]? = some oi) :
    ∀ (fuel : Nat) (listed : Array Bool) (s : T),
      (∀ j oj, ops[j]? = some oj → j ≠ i → listed.getD j true = false → (∀ e ∈ oj.after, Region.binds md e = true → e.on ≠ i) → oi.apart ops oj = true) →
      i ∈ Region.ready md ops listed → Ok P env own ops oi s v →
      anyX P env own md ops K fuel (listed.setIfInBounds i true) (put s oi.dst v) → anyX P env own md ops K (fuel + 1) listed s := by
  have take : ∀ {K : T → Prop} {s : T}, Ok P env own ops oi s v → K (put s oi.dst v) → okOp P env own ops i K s := fun hy hk => by
    unfold okOp
    simp only [hi]
    exact ⟨v, hy, hk⟩
  intro fuel
  induction fuel with
  | zero =>
    intro listed s _ hr hy hH
    refine ⟨fun h => (by rw [h] at hr; cases hr), fun j hj => ?_⟩
    by_cases hji : j = i
    · subst hji; exact take hy hH
    · have := ready_mono hj hji
      rw [hH.1] at this
      cases this
  | succ fuel ih =>
    intro listed s hfree hr hy hH
    refine ⟨fun h => (by rw [h] at hr; cases hr), fun j hj => ?_⟩
    by_cases hji : j = i
    · subst hji; exact take hy hH
    · have h1 := hH.2 j (ready_mono hj hji)
      obtain ⟨hjun, oj, hoj, hall⟩ := mem_ready.1 hj
      have hnot : ∀ e ∈ oj.after, Region.binds md e = true → e.on ≠ i := fun e he hb heq => by
        have h1 := hall e he hb
        have h0 := (mem_ready.1 hr).1
        rw [heq] at h1
        rcases Nat.lt_or_ge i listed.size with h' | h'
        · simp [h'] at h0 h1; rw [h0] at h1; cases h1
        · simp [Array.getElem?_eq_none h'] at h1
      have h2 := okOp_put hoj (hfree j oj hoj hji hjun hnot) hy h1
      have hfree' : ∀ k ok, ops[k]? = some ok → k ≠ i → (listed.setIfInBounds j true).getD k true = false →
          (∀ e ∈ ok.after, Region.binds md e = true → e.on ≠ i) → oi.apart ops ok = true := fun k ok hk hki hun hno => by
        refine hfree k ok hk hki ?_ hno
        by_cases hjk : j = k
        · subst hjk; exact hjun
        · rw [getD_set_ne true hjk] at hun; exact hun
      refine okOp_mono (fun s' h3 => ih (listed.setIfInBounds j true) s' hfree' (ready_mono hr (Ne.symm hji)) h3.1 ?_) h2
      rw [Array.setIfInBounds_comm _ _ hji]
      exact h3.2
theorem anyX_lex {md : Region.Mode} {K : T → Prop} : ∀ (l : List Oper) (k : Nat) (listed : Array Bool) (s : T), (∀ j : Nat, l[j]? = ops[k + j]?) →
    Region.lexFrom md ops l.length k listed = true → vcX P env own ops l s K → anyX P env own md ops K l.length listed s
  | [], _, _, _, _, hB, h => ⟨by simpa [Region.lexFrom] using hB, h⟩
  | o :: l, k, listed, s, hl, hB, h => by
    have h0 : ops[k]? = some o := by simpa using (hl 0).symm
    simp only [List.length_cons, Region.lexFrom, Bool.and_eq_true] at hB
    obtain ⟨⟨hr, hf⟩, hB'⟩ := hB
    obtain ⟨v, hy, hK⟩ := h
    exact anyX_first h0 l.length listed s (Region.free_spec h0 hf) (by simpa using hr) hy
      (anyX_lex l (k + 1) _ _ (fun j => by have := hl (j + 1); simpa [Nat.add_assoc, Nat.add_comm 1 j] using this) hB' hK)

/-- The state of an activation in memory. -/
structure Sim (env : List (Nat × Nat)) (own : List Ch) (s : T) (a : Act) (w : World) (H : Hp) : Prop where
  inv : Inv env own w H
  rep : RepT H env s a
theorem Sim.step0 {s : T} {a : Act} {w w' : World} {H H' : Hp} (h : Sim env own s a w H) (hs : Step no w H w' H') : Sim env own s a w' H' := ⟨h.inv.step0 hs, h.rep.mono hs.le (EnvLe.refl _)⟩

def boolOf : Value → Option Bool
  | .bool b => some b
  | _ => none
theorem guardS_rep {s : T} {g : Nat} {ob : Option Bool} {x : Value} {H : Hp} (h : guardS s g = some ob) (hr : Rep H env (getS s g) x) : boolOf x = ob := by
  unfold guardS at h
  split at h
  · rename_i hs; rw [hs] at hr; cases hr; injection h
  · rename_i hs; rw [hs] at hr; cases hr; injection h
  · rename_i hs; rw [hs] at hr; cases hr; injection h
  · cases h
theorem yielded_sim {s : T} {a : Act} {H : Hp} (h : RepT H env s a) {o : Oper} {b : Bool} (hw : wantedS ops o s = some b) : Region.wanted o (yielded ops a.tmps) = b := by
  unfold wantedS at hw
  unfold Region.wanted
  cases hg : o.guard with
  | none => simp [hg] at hw; simp [hw]
  | some gw =>
    obtain ⟨j, want⟩ := gw
    simp only [hg] at hw
    have hy : yielded ops a.tmps j = ((ops[j]?).bind (·.dst)).bind fun g => boolOf (a.tmps.toList.getD g undef) := by
      unfold yielded
      cases ht : (ops[j]?).bind (·.dst) with
      | none => rfl
      | some g =>
        have hd : a.tmps.toList.getD g undef = (a.tmps[g]?).getD undef := by
          rw [List.getD_eq_getElem?_getD]; simp
        simp only [Option.bind_some, hd]
        cases hx : a.tmps[g]? with
        | none => rfl
        | some x => cases x <;> rfl
    simp only [hy]
    cases ht : (ops[j]?).bind (·.dst) with
    | none =>
      simp only [ht, Option.some.injEq] at hw
      subst hw
      rfl
    | some g =>
      simp only [ht, Option.bind_some] at hw ⊢
      cases hgs : guardS s g with
      | none => rw [hgs] at hw; cases hw
      | some ob =>
        rw [guardS_rep hgs (h.1.get g)]
        rw [hgs] at hw
        cases ob with
        | none => simp only [Option.some.injEq] at hw; subst hw; rfl
        | some q => simp only [Option.some.injEq] at hw; subst hw; cases q <;> cases want <;> rfl

/-- One operation in memory. -/
theorem wpOp_sim {Q : Exit → Act → World → Prop} {i : Nat} {o : Oper} (hi : ops[i]? = some o) {s : T} {a : Act} {w : World} {H : Hp} {r : SV} (hs : Sim env own s a w H) (hok : Ok P env own ops o s r)
    {K : Act → World → Prop} (hK : ∀ a' w' H', Sim env own (put s o.dst r) a' w' H' → Step no w H w' H' → K a' w') : wpOp P ops Q i K a w := by
  unfold wpOp
  simp only [hi]
  rcases hok with ⟨hw, hrun⟩ | ⟨hw, rfl⟩
  · rw [yielded_sim hs.rep hw]
    simp only [if_true]
    refine .inl ?_
    have h := hrun w H a.eval hs.inv (fun y _ => hs.rep.ev y) (fun v => rfl)
    unfold Oper.wp
    generalize (execOp a.eval o).run P w = res at h
    have fin : ∀ {x w' H'}, Step no w H w' H' → Rep H' env r x → K (a.put o.dst x) w' := fun h1 h2 =>
      hK _ _ _ ⟨hs.inv.step0 h1, (hs.rep.mono h1.le (EnvLe.refl _)).put h2 _⟩ h1
    cases res with
    | halt h' w' => exact h.elim
    | ok n w' =>
      cases n with
      | value x => obtain ⟨H', h1, h2⟩ := h; exact fin h1 h2
      | skip => obtain ⟨H', h1, h2⟩ := h; exact fin h1 h2
      | enter f args =>
        refine Calls.mono h ?_
        rintro e w'' ⟨x, H', rfl, h1, h2⟩
        exact fin h1 h2
      | _ => exact h.elim
  · rw [yielded_sim hs.rep hw]
    simp only [Bool.false_eq_true, if_false]
    exact hK _ _ H ⟨hs.inv, hs.rep.put (.v _) _⟩ (Step.refl hs.inv.inn)

theorem wpAny_sim {Q : Exit → Act → World → Prop} {md : Region.Mode} {K : T → Prop} {w0 : World} {H0 : Hp} (hQ : ∀ s a w H, Sim env own s a w H → Step no w0 H0 w H → K s → Q .normal a w) :
    ∀ (fuel : Nat) (listed : Array Bool) (s : T) (a : Act) (w : World) (H : Hp), Sim env own s a w H → Step no w0 H0 w H → anyX P env own md ops K fuel listed s → wpAny P md ops Q fuel listed a w := by
  intro fuel
  induction fuel with
  | zero => exact fun listed s a w H hs ht h => ⟨h.1, hQ s a w H hs ht h.2⟩
  | succ fuel ih =>
    intro listed s a w H hs ht h
    refine ⟨fun h0 => hQ s a w H hs ht (h.1 h0), fun i hi => ?_⟩
    have h1 := h.2 i hi
    obtain ⟨_, o, ho, _⟩ := mem_ready.1 hi
    unfold okOp at h1
    simp only [ho] at h1
    obtain ⟨r, hok, hk⟩ := h1
    exact wpOp_sim ho hs hok fun a' w' H' hs' ht' => ih _ _ _ _ _ hs' (ht.trans ht') hk

/-- **A region that draws its order and only reads, calls and makes new memory.** -/
theorem region_draw {id : Nat} {Q : Exit → Act → World → Prop} (hm : P.follows .mixedOrders = true) (hB : Region.lexFrom .any ops ops.size 0 (Array.replicate ops.size false) = true)
    {s : T} {a : Act} {w : World} {H : Hp} (hs : Sim env own s a w H) {K : T → Prop} (h : vcX P env own ops ops.toList s K)
    (hQ : ∀ s' a' w' H', Sim env own s' a' w' H' → Step no w H w' H' → K s' → Q .normal a' w') : (Code.region id ops true).wp P Q a w := by
  refine wp_region_any hm (wpAny_sim (K := K) (w0 := w) (H0 := H) hQ _ _ s a _ H (hs.step0 (Step.drew hs.inv.inn)) (Step.drew hs.inv.inn) ?_)
  have := anyX_lex (P := P) (env := env) (own := own) (md := .any) (K := K) ops.toList 0 (Array.replicate ops.size false) s (by simp) (by simpa using hB) h
  simpa using this
end
end Go.Eng
