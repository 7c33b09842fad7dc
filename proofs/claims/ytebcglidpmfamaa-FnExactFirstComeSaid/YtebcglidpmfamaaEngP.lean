/- A part of the proof that the law of this seat answers true for every input, without a condition. -/
import Derived.Test.YtebcglidpmfamaaEngO
import Derived.Deep.LoopGhost
import Derived.Scope
set_option linter.all false
set_option linter.unusedVariables false
set_option linter.unusedSimpArgs false
namespace Go.Eng
open Go

/-! ### What has to be shown of a text -/
def wrO : List Oper → List Nat → List Nat
  | [], acc => acc
  | o :: l, acc => match o.dst with
    | some d => wrO l (d :: acc)
    | none => wrO l acc
def wrC : Code → List Nat → List Nat
  | .region _ ops _, acc => wrO ops.toList acc
  | .seq a b, acc => wrC a (wrC b acc)
  | .cond _ a b, acc => wrC a (wrC b acc)
  | .block _ c, acc => wrC c acc
  | .loop c, acc => wrC c acc
  | .scope c, acc => wrC c acc
  | _, acc => acc
def junkW : List Nat → T → T
  | [], s => s
  | d :: l, s => junkW l (setS s d .junk)
def setM : List (Nat × SV) → T → T
  | [], s => s
  | (d, v) :: l, s => setM l (setS s d v)
def setOs : List (Nat × Ch) → List Ch → List Ch
  | [], own => own
  | (d, v) :: l, own => setOs l (setO own d v)
/-- Slices that are nil at a loop's head, taken for rows of one's own. -/
def virT : List (Nat × Nat × Nat) → T → List Ch → (T → List Ch → Prop) → Prop
  | [], s, own, k => k s own
  | (t, sz, e) :: l, s, own, k => match getS s t with
    | .emp => forceS (setS s t (.mr (lenO own) 0 0 sz)) fun s => forceO (snocO own (.row 0 sz e (fun _ => []))) fun own => virT l s own k
    | _ => False
/-- The same, each step carried out in full. -/
def setK (l : List (Nat × SV)) : T → (T → Prop) → Prop :=
  List.rec (motive := fun _ => T → (T → Prop) → Prop) (fun s k => k s) (fun x _ ih s k => forceV x.2 fun v => forceS (setS s x.1 v) fun s => ih s k) l
def setOK (l : List (Nat × Ch)) : List Ch → (List Ch → Prop) → Prop :=
  List.rec (motive := fun _ => List Ch → (List Ch → Prop) → Prop) (fun s k => k s) (fun x _ ih s k => forceO (setO s x.1 x.2) fun s => ih s k) l
def junkK (l : List Nat) : T → (T → Prop) → Prop :=
  List.rec (motive := fun _ => T → (T → Prop) → Prop) (fun s k => k s) (fun x _ ih s k => forceS (setS s x .junk) fun s => ih s k) l
theorem setK_eq : ∀ (l : List (Nat × SV)) (s : T) (k : T → Prop), setK l s k = k (setM l s)
  | [], s, k => rfl
  | (d, v) :: l, s, k => by
    show forceV v (fun v => forceS (setS s d v) (fun s => setK l s k)) = _
    rw [forceV_eq, forceS_eq, setK_eq l]; rfl
theorem setOK_eq : ∀ (l : List (Nat × Ch)) (s : List Ch) (k : List Ch → Prop), setOK l s k = k (setOs l s)
  | [], s, k => rfl
  | (d, v) :: l, s, k => by
    show forceO (setO s d v) (fun s => setOK l s k) = _
    rw [forceO_eq, setOK_eq l]; rfl
theorem junkK_eq : ∀ (l : List Nat) (s : T) (k : T → Prop), junkK l s k = k (junkW l s)
  | [], s, k => rfl
  | d :: l, s, k => by
    show forceS (setS s d .junk) (fun s => junkK l s k) = _
    rw [forceS_eq, junkK_eq l]; rfl
abbrev Kt := Exit → T → List Ch → Prop
abbrev Vt := T → List Ch → Kt → Prop
/-- The end of a round: some chunks in some order, and the head's state again. -/
structure BackP (pin : Nat) {α : Type} (h0 : T) (own : List Ch) (lv : α → List (Nat × SV)) (lo : α → List (Nat × Ch)) (I : α → Prop) (μ : α → Nat) (x : α) (s' : T) (own' : List Ch) : Prop where
  ok : ∃ ren x', okRen pin (lenO own') ren = true ∧ setK (lv x') h0 (fun h => leT (renL ren s') h) ∧ setOK (lo x') own (fun o => leO (renO ren own' ren) o) ∧ I x' ∧ μ x' < μ x
def roundK (K : Kt) (B : T → List Ch → Prop) : Kt := fun e s own => match e with
  | .normal => B s own
  | e => K e s own
/-- A loop: the head's state (slots lv, chunks lo; all else as h0 and own), what holds there, and what falls. -/
structure LoopQ (pin : Nat) (vc : Vt) (h0 s : T) (own : List Ch) (K : Kt) : Prop where
  ok : ∃ (α : Type) (lv : α → List (Nat × SV)) (lo : α → List (Nat × Ch)) (I : α → Prop) (μ : α → Nat), (∃ x0, setK (lv x0) h0 (fun h => leT s h) ∧ setOK (lo x0) own (fun o => leO own o) ∧ I x0) ∧
    ∀ x, I x → setK (lv x) h0 fun h => setOK (lo x) own fun o => vc h o (roundK K (BackP pin h0 own lv lo I μ x))
structure LoopP (pin : Nat) (vc : Vt) (h0 s : T) (own : List Ch) (K : Kt) : Prop where
  ok : ∃ vl, virT vl s own fun s own => LoopQ pin vc h0 s own K
section
variable {pin : Nat} {vc : Vt} {h0 s s' : T} {own own' : List Ch} {K : Kt} {α : Type} {lv : α → List (Nat × SV)} {lo : α → List (Nat × Ch)} {I : α → Prop} {μ : α → Nat} {x : α}
theorem LoopQ.intro (lv : α → List (Nat × SV)) (lo : α → List (Nat × Ch)) (I : α → Prop) (μ : α → Nat) (x0 : α)
    (h1 : setK (lv x0) h0 (fun h => leT s h)) (h2 : setOK (lo x0) own (fun o => leO own o)) (h3 : I x0)
    (h4 : ∀ x, I x → setK (lv x) h0 fun h => setOK (lo x) own fun o => vc h o (roundK K (BackP pin h0 own lv lo I μ x))) : LoopQ pin vc h0 s own K := ⟨α, lv, lo, I, μ, ⟨x0, h1, h2, h3⟩, h4⟩
theorem LoopP.intro (lv : α → List (Nat × SV)) (lo : α → List (Nat × Ch)) (I : α → Prop) (μ : α → Nat) (x0 : α)
    (h1 : setK (lv x0) h0 (fun h => leT s h)) (h2 : setOK (lo x0) own (fun o => leO own o)) (h3 : I x0)
    (h4 : ∀ x, I x → setK (lv x) h0 fun h => setOK (lo x) own fun o => vc h o (roundK K (BackP pin h0 own lv lo I μ x))) : LoopP pin vc h0 s own K := ⟨[], LoopQ.intro lv lo I μ x0 h1 h2 h3 h4⟩
theorem LoopP.virt (vl : List (Nat × Nat × Nat)) (h : virT vl s own fun s own => LoopQ pin vc h0 s own K) : LoopP pin vc h0 s own K := ⟨vl, h⟩
theorem BackP.intro (ren : List Nat) (x' : α) (h1 : okRen pin (lenO own') ren = true) (h2 : setK (lv x') h0 (fun h => leT (renL ren s') h)) (h3 : setOK (lo x') own (fun o => leO (renO ren own' ren) o)) (h4 : I x') (h5 : μ x' < μ x) : BackP pin h0 own lv lo I μ x s' own' := ⟨ren, x', h1, h2, h3, h4, h5⟩
end
structure RegP (ops : Array Oper) (hn : Hint) : Prop where
  ok : lexYB ops (clO hn) = true
structure NbP (n : Nat) (k0 k1 : Prop) : Prop where
  t : n = 0 → k0
  f : k1
def condP (s : T) (c : Operand) (kt kf : T → Prop) : Prop :=
  match c with
  | .tmp t => match getS s t with
    | .b p => match p with
      | true => kt s
      | false => kf s
    | .v (.bool p) => BS p fun b => match b with
      | true => forceS (setS s t (.b true)) kt
      | false => forceS (setS s t (.b false)) kf
    | .nb n => NbP n (forceS (setS s t (.b true)) kt) (forceS (setS s t (.b false)) kf)
    | _ => False
  | .const (.bool p) => match p with
    | true => kt s
    | false => kf s
  | _ => False
def thenK (b : Vt) (K : Kt) : Kt := fun e s own => match e with
  | .normal => b s own K
  | e => K e s own
def blockK (id : Nat) (K : Kt) : Kt := fun e s own => match e with
  | .exit i => match Nat.beq i id with
    | true => K .normal s own
    | false => K (.exit i) s own
  | e => K e s own
def scopeK (K : Kt) : Kt := fun e s own => match e with
  | .goto _ => False
  | e => K e s own
def regV (P : Program) (tr : Tr) (hn : Hint) (ops : Array Oper) (dr : Bool) : Vt := fun s own K => match dr with
  | true => RegP ops hn ∧ vcS P tr hn ops ops.toList [] s own (fun s own => K .normal s own)
  | false => vcS P tr hn ops ops.toList [] s own (fun s own => K .normal s own)
def vcC (P : Program) (tr : Tr) (hn : Hint) (pin : Nat) (c : Code) : Vt :=
  Code.rec (motive := fun _ => Vt)
    (skip := fun s own K => K .normal s own)
    (region := fun _ ops dr => regV P tr hn ops dr)
    (seq := fun _ _ va vb s own K => va s own (thenK vb K))
    (cond := fun c _ _ va vb s own K => condP s c (fun s => va s own K) (fun s => vb s own K))
    (block := fun id _ v s own K => v s own (blockK id K))
    (loop := fun c v s own K => junkK (wrC c []) s fun h0 => LoopP pin v h0 s own K)
    (rangeFunc := fun _ _ _ _ _ _ _ _ _ => False)
    (exit := fun i s own K => K (.exit i) s own)
    (scope := fun _ v s own K => v s own (scopeK K))
    (label := fun _ _ _ _ => False)
    (goto := fun _ _ _ _ => False)
    (ret := fun s own K => K .ret s own)
    (refuse := fun _ _ _ _ => False) c

section
variable {P : Program} {tr : Tr} {hn : Hint} {pin : Nat}
theorem condP_sound {s : T} {c : Operand} {kt kf : T → Prop} (h : condP s c kt kf) {env : List (Nat × Nat)} {own : List Ch} {a : Act} {w : World} {H : Hp} (hs : Sim env own s a w H) :
    ∃ p s', a.eval c = .bool p ∧ Sim env own s' a w H ∧ (bif p then kt s' else kf s') := by
  unfold condP at h
  split at h
  · rename_i t
    have hr := hs.rep.ev (.tmp t)
    simp only [ev] at hr
    have setlit : ∀ p, getS s t = .v (.bool p) → Sim env own (setS s t (.b p)) a w H := fun p hg => by
      refine ⟨hs.inv, ?_, hs.rep.2⟩
      have hx := hs.rep.1.get t
      rw [hg] at hx
      have h2 := hs.rep.1.set (v := .b p) (x := .bool p) (.b p) t
      cases hx' : a.tmps.toList.getD t undef with
      | bool q =>
        rw [hx'] at hx
        cases hx
        have hself : a.tmps.toList.set t (.bool p) = a.tmps.toList := by
          apply List.ext_getElem?
          intro j
          rw [List.getElem?_set]
          split
          · rename_i hj
            subst hj
            split
            · rename_i hlt
              rw [List.getD_eq_getElem?_getD, List.getElem?_eq_getElem hlt] at hx'
              simp only [Option.getD_some] at hx'
              rw [List.getElem?_eq_getElem hlt, hx']
            · rename_i hlt
              rw [List.getElem?_eq_none (by omega)]
          · rfl
        rwa [hself] at h2
      | _ => rw [hx'] at hx; cases hx
    split at h
    · rename_i p hg
      rw [hg] at hr
      have he : a.eval (.tmp t) = .bool p := by
        generalize a.eval (.tmp t) = x at hr
        cases hr; rfl
      refine ⟨p, s, he, hs, ?_⟩
      cases p <;> exact h
    · rename_i p hg
      rw [hg] at hr
      have he : a.eval (.tmp t) = .bool p := by
        generalize a.eval (.tmp t) = x at hr
        cases hr; rfl
      refine ⟨p, _, he, setlit p hg, ?_⟩
      have := h.out
      cases p
      · simp only [forceS_eq] at this; exact this
      · simp only [forceS_eq] at this; exact this
    · rename_i n hg
      rw [hg] at hr
      obtain ⟨p, he, hn⟩ : ∃ p, a.eval (.tmp t) = .bool p ∧ (p = true → n = 0) := by
        generalize a.eval (.tmp t) = x at hr
        cases hr with | nb p hp => exact ⟨p, rfl, hp⟩
      have hsim : Sim env own (setS s t (.b p)) a w H := ⟨hs.inv, hs.rep.1.reput (fun x hx => by
        have e : a.eval (.tmp t) = x := by simp [Act.eval, Array.getD_eq_getD_getElem?, ← Array.getElem?_toList, hx]
        rw [← e, he]; exact .b _), hs.rep.2⟩
      refine ⟨p, _, he, hsim, ?_⟩
      cases p
      · have := h.f; simp only [forceS_eq] at this; exact this
      · have := h.t (hn rfl); simp only [forceS_eq] at this; exact this
    · exact h.elim
  · rename_i p
    exact ⟨p, s, rfl, hs, by cases p <;> exact h⟩
  · exact h.elim
theorem virT_sound {env0 : List (Nat × Nat)} {w0 : World} {H0 : Hp} {a : Act} {w : World} : ∀ {vl : List (Nat × Nat × Nat)} {s : T} {own : List Ch} {k : T → List Ch → Prop}, virT vl s own k → Reach pin env0 w0 H0 s own a w → ∃ s' own', k s' own' ∧ Reach pin env0 w0 H0 s' own' a w
  | [], s, own, k, h, hr => ⟨s, own, h, hr⟩
  | (t, sz, e) :: l, s, own, k, h, hr => by
    unfold virT at h
    split at h
    · rename_i hg
      rw [forceS_eq, forceO_eq] at h
      refine virT_sound h ?_
      obtain ⟨env, H, h1, h2, h3, h4⟩ := hr
      refine ⟨env ++ [(0, 0)], H, ⟨h1.inv.push (g := 0) (k := 0) h1.inv.inn (Nat.le_refl _) (fun j hj => rfl) (fun h => by omega) (.virt rfl) (fun l e => by cases e), ?_, h1.rep.2⟩, h2, fun i x hi hx => ?_, fun b hb => ?_⟩
      · have hrep := h1.rep.1.mono (HLe.refl H) (EnvLe.append env [(0, 0)])
        have hx := hrep.get t
        rw [hg] at hx
        have := hrep.set (v := .mr (lenO own) 0 0 sz) (x := a.tmps.toList.getD t undef) (by
          cases hx' : a.tmps.toList.getD t undef with
          | slice A n c =>
            rw [hx'] at hx
            cases hx
            rw [lenO_eq, h1.inv.len]
            exact .mr0 (env_new _ _)
          | _ => rw [hx'] at hx; cases hx) t
        have hself : a.tmps.toList.set t (a.tmps.toList.getD t undef) = a.tmps.toList := by
          apply List.ext_getElem?
          intro j
          rw [List.getElem?_set]
          split
          · rename_i hj
            subst hj
            split
            · rename_i hlt
              rw [List.getD_eq_getElem?_getD, List.getElem?_eq_getElem hlt]; rfl
            · rename_i hlt
              rw [List.getElem?_eq_none (by omega)]
          · rfl
        rwa [hself] at this
      · exact EnvLe.append _ _ _ _ (h3 i x hi hx)
      · rcases inE_push hb with h5 | ⟨_, h5⟩
        · exact h4 b h5
        · omega
    · exact h.elim
/-- **The engine's law.** -/
theorem vcC_sound (hT : tr.All (TOk P)) (hm : P.follows .mixedOrders = true) : ∀ (c : Code) {s : T} {own : List Ch} {K : Exit → T → List Ch → Prop}, vcC P tr hn pin c s own K →
    ∀ {env : List (Nat × Nat)} {a : Act} {w : World} {H : Hp}, Sim env own s a w H → c.wp P (fun e a' w' => ∃ s' own', K e s' own' ∧ Reach pin env w H s' own' a' w') a w := by
  intro c
  induction c with
  | skip => exact fun h _ _ _ _ hs => wp_skip ⟨_, _, h, Reach.refl hs⟩
  | region id ops dr =>
    intro s own K h env a w H hs
    have h : regV P tr hn ops dr s own K := h
    have h : (dr = true → RegP ops hn) ∧ vcS P tr hn ops ops.toList [] s own (fun s own => K .normal s own) := by
      cases dr
      · exact ⟨fun h => (by cases h), h⟩
      · exact ⟨fun _ => h.1, h.2⟩
    exact region_vc (cl := clO hn) hm (fun hd => (h.1 hd).ok) hs (vcS_sound hT (fun g b hg => by cases hg) h.2) fun s' own' a' w' hr hk => ⟨s', own', hk, hr⟩
  | seq x y ihx ihy =>
    intro s own K h env a w H hs
    have h : vcC P tr hn pin x s own (thenK (vcC P tr hn pin y) K) := h
    refine wp_seq (wp_mono (ihx h hs) ?_)
    rintro e a' w' ⟨s', own', hk, hr⟩
    cases e with
    | normal =>
      obtain ⟨env', H', h1, h2, h3, h4⟩ := hr
      refine wp_mono (ihy hk h1) ?_
      rintro e a2 w2 ⟨s2, own2, hk2, hr2⟩
      exact ⟨s2, own2, hk2, Reach.comp h2 h3 h4 hr2⟩
    | _ => exact ⟨s', own', hk, hr⟩
  | cond c x y ihx ihy =>
    intro s own K h env a w H hs
    have h : condP s c (fun s => vcC P tr hn pin x s own K) (fun s => vcC P tr hn pin y s own K) := h
    obtain ⟨p, s', h1, h2, h3⟩ := condP_sound h hs
    refine wp_cond h1 ?_
    cases p
    · exact ihy h3 h2
    · exact ihx h3 h2
  | block id c ih =>
    intro s own K h env a w H hs
    have h : vcC P tr hn pin c s own (blockK id K) := h
    refine wp_block (wp_mono (ih h hs) ?_)
    rintro e a' w' ⟨s', own', hk, hr⟩
    cases e with
    | exit i =>
      simp only [Exit.inBlock, blockK] at hk ⊢
      split at hk
      · rename_i hb
        rw [if_pos (Nat.eq_of_beq_eq_true hb)]
        exact ⟨s', own', hk, hr⟩
      · rename_i hb
        rw [if_neg (fun e => by subst e; simp at hb)]
        exact ⟨s', own', hk, hr⟩
    | _ => exact ⟨s', own', hk, hr⟩
  | loop c ih =>
    intro s own K h env a w H hs
    have h : junkK (wrC c []) s (fun h0 => LoopP pin (vcC P tr hn pin c) h0 s own K) := h
    rw [junkK_eq] at h
    generalize junkW (wrC c []) s = h0 at h
    obtain ⟨vl, h⟩ := h.ok
    obtain ⟨s1, own1, h, hr⟩ := virT_sound h (Reach.refl (pin := pin) hs)
    obtain ⟨α, lv, lo, I, μ, ⟨x0, e1, e2, e3⟩, h⟩ := h.ok
    rw [setK_eq] at e1
    rw [setOK_eq] at e2
    refine wp_loop_ghost (fun n a' w' => ∃ x, I x ∧ μ x = n ∧ Reach pin env w H (setM (lv x) h0) (setOs (lo x) own1) a' w') (μ x0) ⟨x0, e3, rfl, hr.le e1 e2⟩ ?_
    rintro n a' w' ⟨x, hI, rfl, env', H', h1, h2, h3, h4⟩
    have hx := h x hI
    rw [setK_eq, setOK_eq] at hx
    refine wp_mono (ih hx h1) ?_
    rintro e a2 w2 ⟨s2, own2, hk, hr2⟩
    have hr3 := Reach.comp h2 h3 h4 hr2
    cases e with
    | normal =>
      obtain ⟨ren, x', k1, k2, k3, k4, k5⟩ := (show BackP pin h0 own1 lv lo I μ x s2 own2 from hk).ok
      rw [setK_eq] at k2
      rw [setOK_eq] at k3
      exact ⟨μ x', k5, x', k4, rfl, (hr3.pick k1).le k2 k3⟩
    | _ => exact ⟨s2, own2, hk, hr3⟩
  | exit i => exact fun h _ _ _ _ hs => wp_exit ⟨_, _, h, Reach.refl hs⟩
  | scope c ih =>
    intro s own K h env a w H hs
    have h : vcC P tr hn pin c s own (scopeK K) := h
    refine wp_scope_straight (wp_mono (ih h hs) ?_)
    rintro e a' w' ⟨s', own', hk, hr⟩
    cases e with
    | goto l => exact hk.elim
    | _ => exact ⟨s', own', hk, hr⟩
  | ret => exact fun h _ _ _ _ hs => wp_ret ⟨_, _, h, Reach.refl hs⟩
  | _ => exact fun h => (show False from h).elim
end
end Go.Eng
