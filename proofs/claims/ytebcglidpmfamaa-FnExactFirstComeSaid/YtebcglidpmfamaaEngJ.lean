/- A part of the proof that the law of this seat answers true for every input, without a condition. -/
import Derived.Test.YtebcglidpmfamaaEngI
import Derived.Maps.AppendAt
set_option linter.all false
set_option linter.unusedVariables false
set_option linter.unusedSimpArgs false
namespace Go.Eng
open Go
/-! ### Places that are written -/
def setG (get : Nat → List SV) (k : Nat) (r : List SV) : Nat → List SV := fun j => match Nat.beq j k with
  | true => r
  | false => get j
def splitW : List SV → Nat → Option (List SV × List SV)
  | cs, 0 => some ([], cs)
  | [], _ + 1 => none
  | c :: cs, m + 1 => match Nat.ble (wd c) (m + 1) with
    | true => match splitW cs (m + 1 - wd c) with
      | some (a, b) => some (c :: a, b)
      | none => none
    | false => none
def setnav : List SV → List St → List SV → Option (Prop × List SV)
  | cs, [], new => match ovl new cs with
    | some r => some (True, r)
    | none => none
  | cs, .f o :: p, new => match splitW cs o with
    | some (a, b) => match setnav b p new with
      | some (q, r) => some (q, appL a r)
      | none => none
    | none => none
  | cs, .x k sz :: p, new => match cs with
    | .arr n sz' get :: rest => match Nat.beq sz sz', closedL new with
      | true, true => match setnav (get k) p new with
        | some (q, r) => some (k < n ∧ q, .arr n sz (setG get k r) :: rest)
        | none => none
      | _, _ => none
    | _ => none
section
variable {P : Program} {env : List (Nat × Nat)} {own : List Ch} {tr : Tr}
theorem flat_len {sz : Nat} {vals : Nat → List Value} : ∀ {n : Nat}, (∀ j, j < n → (vals j).length = sz) → (flat n vals).length = n * sz := by
  intro n
  induction n with
  | zero => intro _; simp [flat]
  | succ n ih =>
    intro h
    have : flat (n + 1) vals = flat n vals ++ vals n := by simp [flat, List.range_succ]
    rw [this, List.length_append, ih (fun j hj => h j (by omega)), h n (by omega), Nat.succ_mul]
theorem flat_succ (n : Nat) (vals : Nat → List Value) : flat (n + 1) vals = flat n vals ++ vals n := by simp [flat, List.range_succ]
theorem flat_congr {n : Nat} {f g : Nat → List Value} (h : ∀ j, j < n → f j = g j) : flat n f = flat n g := by
  induction n with
  | zero => rfl
  | succ n ih => rw [flat_succ, flat_succ, ih (fun j hj => h j (by omega)), h n (by omega)]
theorem splice_left (a b us : List Value) (o : Nat) (h : o + us.length ≤ a.length) : splice (a ++ b) o us = splice a o us ++ b := by
  unfold splice
  rw [List.take_append_of_le_length (by omega), List.drop_append_of_le_length (by omega)]
  simp
theorem splice_right (a b us : List Value) (o : Nat) : splice (a ++ b) (a.length + o) us = a ++ splice b o us := by
  unfold splice
  rw [List.take_append, List.take_of_length_le (by omega), List.drop_append, List.drop_of_length_le (by omega)]
  simp only [Nat.add_sub_cancel_left, List.nil_append, List.append_assoc]
  rw [show a.length + o + us.length - a.length = o + us.length by omega]
theorem splice_len (vs us : List Value) (o : Nat) (h : o + us.length ≤ vs.length) : (splice vs o us).length = vs.length := by
  unfold splice
  simp only [List.length_append, List.length_take, List.length_drop]
  omega
theorem flat_splice {sz k o : Nat} {vals : Nat → List Value} {us : List Value} : ∀ {n : Nat}, (∀ j, j < n → (vals j).length = sz) → k < n → o + us.length ≤ sz →
    flat n (fun j => if j = k then splice (vals k) o us else vals j) = splice (flat n vals) (k * sz + o) us := by
  intro n
  induction n with
  | zero => intro _ h; omega
  | succ n ih =>
    intro h hk ho
    rw [flat_succ, flat_succ]
    by_cases hkn : k = n
    · subst hkn
      rw [if_pos rfl, flat_congr (g := vals) (fun j hj => if_neg (by omega)), ← flat_len (n := k) (vals := vals) (fun j hj => h j (by omega)), splice_right]
    · rw [if_neg (by omega), ih (fun j hj => h j (by omega)) (by omega) ho, splice_left]
      rw [flat_len (fun j hj => h j (by omega))]
      have h1 : (k + 1) * sz ≤ n * sz := Nat.mul_le_mul_right _ (by omega)
      rw [Nat.succ_mul] at h1
      omega
theorem splitW_sound {H : Hp} {e : List (Nat × Nat)} : ∀ {cs : List SV} {o : Nat} {vs : List Value} {a b : List SV}, splitW cs o = some (a, b) → RepL H e cs vs →
    ∃ us ws, vs = us ++ ws ∧ us.length = o ∧ RepL H e b ws ∧ ∀ {b' ws'}, RepL H e b' ws' → RepL H e (appL a b') (us ++ ws')
  | cs, 0, vs, a, b, h, hr => by
    have : (a, b) = ([], cs) := by cases cs <;> simp [splitW] at h <;> simp [h]
    injection this with h1 h2
    subst h1; subst h2
    exact ⟨[], vs, rfl, rfl, hr, fun h => h⟩
  | [], o + 1, vs, a, b, h, hr => by simp [splitW] at h
  | c :: cs, o + 1, vs, a, b, h, hr => by
    unfold splitW at h
    split at h
    · rename_i hb
      have hle := Nat.le_of_ble_eq_true hb
      split at h
      · rename_i a' b' hs
        simp only [Option.some.injEq, Prod.mk.injEq] at h
        obtain ⟨rfl, rfl⟩ := h
        obtain ⟨u, w, rfl, h1, h2, h3⟩ := hr.wd
        obtain ⟨us, ws, rfl, h4, h5, h6⟩ := splitW_sound hs h2
        exact ⟨u ++ us, ws, by simp, by simp; omega, h5, fun h => by simpa [appL] using h3 (h6 h)⟩
      · cases h
    · cases h
theorem setnav_sound {H : Hp} : ∀ {p : List St} {e : List (Nat × Nat)} {cs new : List SV} {vs us : List Value} {q : Prop} {r : List SV}, setnav cs p new = some (q, r) → q → RepL H e cs vs → RepL H e new us →
    RepL H e r (splice vs (offp p) us) ∧ offp p + us.length ≤ vs.length
  | [], e, cs, new, vs, us, q, r, h, hq, hr, hn => by
    unfold setnav at h
    split at h
    · rename_i r' ho
      simp only [Option.some.injEq, Prod.mk.injEq] at h
      obtain ⟨_, rfl⟩ := h
      obtain ⟨h1, h2⟩ := ovl_sound ho hn hr
      exact ⟨by simpa [splice, offp] using h1, by simpa [offp] using h2⟩
    · cases h
  | .f o :: p, e, cs, new, vs, us, q, r, h, hq, hr, hn => by
    unfold setnav at h
    split at h
    · rename_i a b hs
      split at h
      · rename_i q' r' hn'
        simp only [Option.some.injEq, Prod.mk.injEq] at h
        obtain ⟨rfl, rfl⟩ := h
        obtain ⟨u, w, rfl, h1, h2, h3⟩ := splitW_sound hs hr
        obtain ⟨h4, h5⟩ := setnav_sound hn' hq h2 hn
        subst h1
        refine ⟨?_, by simp [offp]; omega⟩
        rw [offp, splice_right]
        exact h3 h4
      · cases h
    · cases h
  | .x k sz :: p, e, cs, new, vs, us, q, r, h, hq, hr, hn => by
    unfold setnav at h
    split at h
    · rename_i n sz' get rest
      split at h
      · rename_i hb hc
        have := Nat.eq_of_beq_eq_true hb
        subst this
        split at h
        · rename_i q' r' hn'
          simp only [Option.some.injEq, Prod.mk.injEq] at h
          obtain ⟨rfl, rfl⟩ := h
          cases hr with
          | cons h1 _ _ => cases h1
          | arr vals h1 h2 h3 =>
            obtain ⟨h4, h5⟩ := setnav_sound hn' hq.2 (h1 k hq.1) (hn.closed hc)
            rw [h2 k hq.1] at h5
            have hlen := flat_len h2
            have hk1 : (k + 1) * sz ≤ n * sz := Nat.mul_le_mul_right _ (by have := hq.1; omega)
            rw [Nat.succ_mul] at hk1
            refine ⟨?_, by simp only [offp, List.length_append, hlen]; omega⟩
            rw [offp, splice_left _ _ _ _ (by rw [hlen]; omega), ← flat_splice h2 hq.1 h5]
            refine .arr _ (fun j hj => ?_) (fun j hj => ?_) h3
            · by_cases hjk : j = k
              · subst hjk
                simp only [setG, Nat.beq_refl, if_true]
                exact h4
              · have hbf : Nat.beq j k = false := by
                  cases hb : Nat.beq j k with
                  | false => rfl
                  | true => exact absurd (Nat.eq_of_beq_eq_true hb) hjk
                simp only [setG, hbf, if_neg hjk]
                exact h1 j hj
            · by_cases hjk : j = k
              · subst hjk
                rw [if_pos rfl, splice_len _ _ _ (by rw [h2 j hj]; exact h5), h2 j hj]
              · rw [if_neg hjk]; exact h2 j hj
        · cases h
      · cases h
    · cases h

/-- One block has been written. -/
structure Wrote (w w' : World) (b : Nat) (arr : Array Value) (ty : TypeId) : Prop where
  os : w'.os = w.os
  tape : w'.tape = w.tape
  output : w'.output = w.output
  size : w'.heap.size = w.heap.size
  at_ : w'.heap[b]? = some (.cells arr ty (0, 0))
  else_ : ∀ k, k ≠ b → w'.heap[k]? = w.heap[k]?
theorem run_storeCells : ∀ (us : List Value) (b o i : Nat) (w : World) (arr : Array Value) (ty : TypeId), w.heap[b]? = some (.cells arr ty (0, 0)) → (∀ u ∈ us, one u) → o + i + us.length ≤ arr.size →
    ∃ w' arr', (storeCells ⟨b, o, none⟩ us i).run P w = .ok () w' ∧ Wrote w w' b arr' ty ∧ arr'.toList = splice arr.toList (o + i) us
  | [], b, o, i, w, arr, ty, hb, _, hl => ⟨w, arr, by simp [storeCells], ⟨rfl, rfl, rfl, rfl, hb, fun _ _ => rfl⟩, by simp [splice]⟩
  | u :: us, b, o, i, w, arr, ty, hb, h1, hl => by
    simp only [List.length_cons] at hl
    have hlt : b < w.heap.size := (Array.getElem?_eq_some_iff.1 hb).1
    have hc : w.cell? ⟨b, o + i, none⟩ = some (arr[o + i]'(by omega)) := by simp [World.cell?, hb, show o + i < arr.size by omega]
    have hf : w.frozen? ⟨b, o + i, none⟩ = false := by simp [World.frozen?, hb]
    have hb1 : (w.setCell ⟨b, o + i, none⟩ u).heap[b]? = some (.cells (arr.setIfInBounds (o + i) u) ty (0, 0)) := by
      simp [World.setCell, Array.getElem?_modify, hb]
    obtain ⟨w', arr', h2, h3, h4⟩ := run_storeCells us b o (i + 1) (w.setCell ⟨b, o + i, none⟩ u) _ ty hb1 (fun v hv => h1 v (by simp [hv])) (by simp; omega)
    refine ⟨w', arr', ?_, ⟨h3.os, h3.tape, h3.output, by rw [h3.size]; simp [World.setCell], h3.at_, fun k hk => ?_⟩, ?_⟩
    · unfold storeCells
      rw [Sem.run_bind]
      have : (store ((⟨b, o, none⟩ : Addr).add i) u).run P w = .ok () (w.setCell ⟨b, o + i, none⟩ u) := by
        rw [add_none]
        unfold store
        have h0 := h1 u (by simp)
        cases u <;> first | exact h0.elim | simp [Sem.run, hc, hf]
      rw [this]
      exact h2
    · rw [h3.else_ k hk]
      simp [World.setCell, Array.getElem?_modify, Ne.symm hk]
    · rw [h4]
      apply List.ext_getElem?
      intro j
      rw [splice_get _ _ _ _ (by simp; omega), splice_get _ _ _ _ (by simp; omega)]
      simp only [Array.toList_setIfInBounds, List.length_cons]
      grind
def inE (env : List (Nat × Nat)) : Nat → Prop := fun b => ∃ (i k : Nat), env[i]? = some (b, k) ∧ 0 < k
theorem Wrote.step {w w' : World} {b : Nat} {arr : Array Value} {ty : TypeId} (h : Wrote w w' b arr ty) {H : Hp} (hi : HIn H w) (hb : H b = none) {M : Nat → Prop} (hM : M b) : Step M w H w' H :=
  ⟨h.os, h.tape, h.output, by rw [h.size]; exact Nat.le_refl _, fun k hk hn => h.else_ k (fun e => hn (e ▸ hM)), HLe.refl _, fun k o hk => by
    by_cases e : k = b
    · subst e; rw [hb] at hk; cases hk
    · rw [h.else_ k e]; exact hi k o hk, fun k h1 h2 => absurd h1 h2⟩
def setO : List Ch → Nat → Ch → List Ch
  | [], _, _ => []
  | _ :: l, 0, c => c :: l
  | x :: l, n + 1, c => x :: setO l n c
theorem setO_get (own : List Ch) (i j : Nat) (c : Ch) : (setO own i c)[j]? = if i = j ∧ j < own.length then some c else own[j]? := by
  induction own generalizing i j with
  | nil => simp [setO]
  | cons x l ih =>
    cases i with
    | zero => cases j <;> simp [setO]
    | succ i => cases j with
      | zero => simp [setO]
      | succ j => simp [setO, ih]
theorem setO_len (own : List Ch) (i : Nat) (c : Ch) : (setO own i c).length = own.length := by
  induction own generalizing i with
  | nil => rfl
  | cons x l ih => cases i <;> simp [setO, ih]
/-- Block i has been written: what it holds now is told by c. -/
theorem Inv.write {w w' : World} {H : Hp} (h : Inv env own w H) {i b k : Nat} (he : env[i]? = some (b, k)) (hpos : 0 < k) {arr : Array Value} {ty : TypeId} (hw : Wrote w w' b arr ty) {c c0 : Ch} (h0 : own[i]? = some c0) (hd : c0 ≠ .dead) (hc : ChOK H env w' b k c) : Inv env (setO own i c) w' H where
  inn := (hw.step h.inn (h.sep i b k c0 he hpos h0 hd) (M := inE env) ⟨i, k, he, hpos⟩).inn
  len := by rw [setO_len]; exact h.len
  nodup := fun j1 j2 b1 k1 k2 c1 c2 e1 e2 p1 p2 o1 o2 d1 d2 => by
    have back : ∀ {j : Nat} {c' : Ch}, (setO own i c)[j]? = some c' → c' ≠ .dead → ∃ c'', own[j]? = some c'' ∧ c'' ≠ .dead := fun {j c'} h1 h2 => by
      rw [setO_get] at h1
      split at h1
      · rename_i hij
        obtain ⟨rfl, _⟩ := hij
        exact ⟨c0, h0, hd⟩
      · exact ⟨c', h1, h2⟩
    obtain ⟨x1, o1', d1'⟩ := back o1 d1
    obtain ⟨x2, o2', d2'⟩ := back o2 d2
    exact h.nodup j1 j2 b1 k1 k2 x1 x2 e1 e2 p1 p2 o1' o2' d1' d2'
  lt := fun j b' k' hj hk' => by rw [hw.size]; exact h.lt j b' k' hj hk'
  bx := fun j l b' k' hc' hj => by
    rw [setO_get] at hc'
    split at hc'
    · rename_i hij
      obtain ⟨rfl, _⟩ := hij
      rw [he] at hj
      injection hj with hj
      injection hj with e1 e2
      omega
    · exact h.bx j l b' k' hc' hj
  mx := fun j l b' k' hc' hj => by
    rw [setO_get] at hc'
    split at hc'
    · rename_i hij
      obtain ⟨rfl, _⟩ := hij
      rw [he] at hj
      injection hj with hj
      injection hj with e1 e2
      omega
    · exact h.mx j l b' k' hc' hj
  ch := fun j c' b' k' hc' hj => by
    rw [setO_get] at hc'
    split at hc'
    · rename_i hij
      obtain ⟨rfl, _⟩ := hij
      injection hc' with hc'
      subst hc'
      rw [he] at hj
      injection hj with hj
      injection hj with e1 e2
      subst e1; subst e2
      exact hc
    · rename_i hij
      by_cases hdead : c' = .dead
      · rw [hdead]; exact .dead
      have hne : 0 < k' → b' ≠ b := by
        intro hk' e
        subst e
        have := h.nodup i j b' k k' c0 c' he hj hpos hk' h0 hc' hd hdead
        subst this
        exact hij ⟨rfl, by rw [h.len]; exact (List.getElem?_eq_some_iff.1 hj).1⟩
      exact (h.ch j c' b' k' hc' hj).move (HLe.refl _) (EnvLe.refl _) (fun hk' => hw.else_ b' (hne hk')) (fun l e => h.bx j l b' k' (e ▸ hc') hj) (fun l e => h.mx j l b' k' (e ▸ hc') hj)
  sep := fun j b' k' c' hj hk' hc' hd' => by
    rw [setO_get] at hc'
    split at hc'
    · rename_i hij
      obtain ⟨rfl, _⟩ := hij
      rw [he] at hj
      injection hj with hj
      injection hj with e1 e2
      subst e1
      exact h.sep i b k c0 he hpos h0 hd
    · exact h.sep j b' k' c' hj hk' hc' hd'
def storeC (c : Ch) (p : List St) (new : List SV) : Option (Prop × Ch) :=
  match c with
  | .box items => match setnav items p new with
    | some (q, r) => some (q, .box r)
    | none => none
  | .row n sz e get => match p with
    | .x k sz' :: p' => match Nat.beq sz' sz, closedL new with
      | true, true => match p' with
        | [] => match Nat.beq (buildL.wdL new) sz with
          | true => some (k < n, .row n sz e (setG get k new))
          | false => none
        | x :: p'' => match setnav (get k) (x :: p'') new with
          | some (q, r) => some (k < n ∧ q, .row n sz e (setG get k r))
          | none => none
      | _, _ => none
    | _ => none
  | .dead => none
  | .mp _ => none
def storeS (tr : Tr) (own : List Ch) (t : Nat) (a x : SV) : Option (Prop × List Ch) :=
  match a with
  | .own i p => match cellsS x with
    | some new => match sizeT tr t with
      | some n => match Nat.beq (buildL.wdL new) n with
        | true => match storeC (getO own i) p new with
          | some (q, c) => some (q, setO own i c)
          | none => none
        | false => none
      | none => none
    | none => none
  | _ => none
theorem sizeT_run (hT : tr.All (TOk P)) {t n : Nat} (h : sizeT tr t = some n) (w : World) : (sizeOf t).run P w = .ok n w := by
  unfold sizeT at h
  split at h
  · rename_i ti hti
    injection h with h
    obtain ⟨i, z, hi, h1, _⟩ := (Tr.find_all hT hti).inf
    rw [run_sizeOf hi, h1, h]
  · cases h

/-! ### Operations in their order: what is one's own may be written -/
/-- The operation runs and leaves the state s', own'. -/
def OkSeq (P : Program) (own own' : List Ch) (o : Oper) (s s' : T) : Prop :=
  ∀ (env : List (Nat × Nat)) (w : World) (H : Hp) (a : Act), Sim env own s a w H →
    o.wp P a w (fun a' w' => ∃ env' H', Sim env' own' s' a' w' H' ∧ Step (inE env) w H w' H' ∧ EnvLe env env' ∧ ∀ b, inE env' b → inE env b ∨ w.heap.size ≤ b) (fun _ _ _ => False)
theorem OkSeq.of_run {o : Oper} {s : T} {r : SV} (h : ∀ env, OkRun P env own o s r) : OkSeq P own own o s (put s o.dst r) := by
  intro env w H a hs
  have h := h env w H a.eval hs.inv (fun y _ => hs.rep.ev y) (fun v => rfl)
  unfold Oper.wp
  generalize (execOp a.eval o).run P w = res at h
  have fin : ∀ {x w' H'}, Step no w H w' H' → Rep H' env r x → (∃ env' H', Sim env' own (put s o.dst r) (a.put o.dst x) w' H' ∧ Step (inE env) w H w' H' ∧ EnvLe env env' ∧ ∀ b, inE env' b → inE env b ∨ w.heap.size ≤ b) := fun h1 h2 =>
    ⟨env, _, ⟨hs.inv.step0 h1, (hs.rep.mono h1.le (EnvLe.refl _)).put h2 _⟩, h1.mono (fun _ h => h.elim), EnvLe.refl _, fun b h => .inl h⟩
  cases res with
  | halt h' w' => exact h.elim
  | ok n w' =>
    cases n with
    | value x => obtain ⟨H', h1, h2⟩ := h; exact fin h1 h2
    | skip => obtain ⟨H', h1, h2⟩ := h; exact fin h1 h2
    | enter f args =>
      refine Calls.mono h ?_
      rintro e w'' ⟨x, H', rfl, h1, h2⟩
      exact fin h1 h2
    | _ => exact h.elim
theorem store_ok (hT : tr.All (TOk P)) {o : Oper} {t : Nat} {a x : Operand} (ho : o.op = .store t a x) {s : T} {q : Prop} {own' : List Ch} (h : storeS tr own t (ev s a) (ev s x) = some (q, own')) (hq : q) : OkSeq P own own' o s (put s o.dst (.v undef)) := by
  intro env w H ac hs
  unfold storeS at h
  split at h
  · rename_i i p ha
    split at h
    · rename_i new hn
      split at h
      · rename_i n hsz
        split at h
        · rename_i hwd
          have hwd := Nat.eq_of_beq_eq_true hwd
          split at h
          · rename_i q' c hc
            simp only [Option.some.injEq, Prod.mk.injEq] at h
            obtain ⟨rfl, rfl⟩ := h
            have hra := hs.rep.ev a
            rw [ha] at hra
            have hrx := cellsS_rep hn (hs.rep.ev x)
            have hlen := wdL_len hrx
            simp only [Array.length_toList] at hlen
            have hone := hrx.ones
            -- the chunk
            have hd : getO own i ≠ .dead := by intro e; rw [e] at hc; cases hc
            have hgo := getO_some rfl hd
            generalize hea : ac.eval a = va at hra
            cases hra with
            | @own _ _ _ b k he hpos =>
              have hck := hs.inv.ch i _ b k hgo he
              have key : ∀ {arr : Array Value} {ty : TypeId} {items r : List SV} {vs : List Value}, w.heap[b]? = some (.cells arr ty (0, 0)) → RepL H env items vs → (∃ rest, arr.toList = vs ++ rest) →
                  (RepL H env r (splice vs (offp p) (ac.eval x).cells.toList) ∧ offp p + (ac.eval x).cells.toList.length ≤ vs.length) → ∃ w' arr', (Instr.storeAt t (.pointer (some ⟨b, offp p, none⟩)) (ac.eval x)).run P w = .ok () w' ∧ Wrote w w' b arr' ty ∧ RepL H env r (splice vs (offp p) (ac.eval x).cells.toList) ∧
                    arr'.toList = splice arr.toList (offp p) (ac.eval x).cells.toList ∧ offp p + (ac.eval x).cells.toList.length ≤ vs.length := by
                intro arr ty items r vs hb hr ⟨rest, hrest⟩ hset
                obtain ⟨h1, h2⟩ := hset
                obtain ⟨w', arr', h3, h4, h5⟩ := run_storeCells (P := P) (ac.eval x).cells.toList b (offp p) 0 w arr ty hb hone (by
                  have := congrArg List.length hrest
                  simp only [Array.length_toList, List.length_append] at this
                  omega)
                refine ⟨w', arr', ?_, h4, h1, by simpa using h5, h2⟩
                unfold Instr.storeAt storeVar
                simp only [Sem.run_bind, Instr.sureAddr, Sem.run_pure, Result.andThen_ok, sizeT_run hT hsz]
                rw [if_neg (by omega)]
                exact h3
              have fin : ∀ {w' : World} {arr' : Array Value} {ty : TypeId} {c : Ch}, (Instr.storeAt t (.pointer (some ⟨b, offp p, none⟩)) (ac.eval x)).run P w = .ok () w' → Wrote w w' b arr' ty → ChOK H env w' b k c →
                  o.wp P ac w (fun a' w' => ∃ env' H', Sim env' (setO own i c) (put s o.dst (.v undef)) a' w' H' ∧ Step (inE env) w H w' H' ∧ EnvLe env env' ∧ ∀ b, inE env' b → inE env b ∨ w.heap.size ≤ b) (fun _ _ _ => False) := by
                intro w' arr' ty c hrun hw hck'
                have hexec : (execOp ac.eval o).run P w = .ok .skip w' := by
                  unfold execOp
                  simp only [ho, Sem.run_bind, hea, hrun, Result.andThen_ok, Sem.run_pure]
                unfold Oper.wp
                rw [hexec]
                exact ⟨env, H, ⟨hs.inv.write he hpos hw hgo hd hck', hs.rep.put (.v _) _⟩, hw.step hs.inv.inn (hs.inv.sep i b k _ he hpos hgo hd) ⟨i, k, he, hpos⟩, EnvLe.refl _, fun b h => .inl h⟩
              generalize getO own i = c0 at *
              cases hck with
              | dead => exact (hd rfl).elim
              | mp _ _ => cases hc
              | virt h0 => omega
              | @box items arr ty hb hr =>
                unfold storeC at hc
                simp only at hc
                split at hc
                · rename_i q'' r hset
                  simp only [Option.some.injEq, Prod.mk.injEq] at hc
                  obtain ⟨rfl, rfl⟩ := hc
                  obtain ⟨w', arr', h1, h2, h3, h4, h5⟩ := key hb hr ⟨[], by simp⟩ (setnav_sound hset hq hr hrx)
                  exact fin h1 h2 (.box h2.at_ (by rw [h4]; exact h3))
                · cases hc
              | @row n' sz e get arr vals h0 hb h1 h6 h3 h4 h5 h7 =>
                have hr : RepL H env [.arr n' sz get] (flat n' vals ++ []) := .arr vals h4 h5 .nil
                have hset : ∃ get', c = .row n' sz e get' ∧ RepL H env [.arr n' sz get'] (splice (flat n' vals ++ []) (offp p) (ac.eval x).cells.toList) ∧ offp p + (ac.eval x).cells.toList.length ≤ (flat n' vals ++ []).length := by
                  unfold storeC at hc
                  simp only at hc
                  split at hc
                  · rename_i j sz' p'
                    split at hc
                    · rename_i hb hcl
                      have := Nat.eq_of_beq_eq_true hb
                      subst this
                      split at hc
                      · split at hc
                        · rename_i hw
                          have hw := Nat.eq_of_beq_eq_true hw
                          simp only [Option.some.injEq, Prod.mk.injEq] at hc
                          obtain ⟨rfl, rfl⟩ := hc
                          have hq : j < n' := hq
                          have hus : (ac.eval x).cells.toList.length = sz' := by simp only [Array.length_toList]; omega
                          have hfl := flat_len h5
                          have hle : (j + 1) * sz' ≤ n' * sz' := Nat.mul_le_mul_right _ hq
                          rw [Nat.succ_mul] at hle
                          refine ⟨_, rfl, ?_, by simp only [offp, List.length_append, hfl]; rw [hus]; omega⟩
                          have e1 := flat_splice (k := j) (o := 0) (us := (ac.eval x).cells.toList) h5 hq (by rw [hus]; omega)
                          rw [offp, offp, splice_left _ _ _ _ (by rw [hus, hfl]; omega), ← e1]
                          refine .arr _ (fun i hi => ?_) (fun i hi => ?_) .nil
                          · by_cases hik : i = j
                            · subst hik
                              simp only [setG, Nat.beq_refl, if_true]
                              unfold splice
                              simp only [List.take_zero, List.nil_append, Nat.zero_add]
                              rw [List.drop_of_length_le (by rw [h5 _ hi, hus]; exact Nat.le_refl _), List.append_nil]
                              exact hrx.closed hcl
                            · have hbf : Nat.beq i j = false := by
                                cases hb : Nat.beq i j with
                                | false => rfl
                                | true => exact absurd (Nat.eq_of_beq_eq_true hb) hik
                              simp only [setG, hbf, if_neg hik]
                              exact h4 i hi
                          · by_cases hik : i = j
                            · subst hik
                              rw [if_pos rfl, splice_len _ _ _ (by rw [h5 _ hi, hus]; omega), h5 _ hi]
                            · rw [if_neg hik]; exact h5 i hi
                        · cases hc
                      · split at hc
                        · rename_i q'' r hsn
                          simp only [Option.some.injEq, Prod.mk.injEq] at hc
                          obtain ⟨rfl, rfl⟩ := hc
                          exact ⟨_, rfl, setnav_sound (r := [.arr n' sz' _]) (by simp only [setnav, Nat.beq_refl, hcl, hsn]) hq hr hrx⟩
                        · cases hc
                    · cases hc
                  · cases hc
                obtain ⟨get', rfl, hset⟩ := hset
                obtain ⟨w', arr', k1, k2, k3, k4, k5⟩ := key hb hr ⟨arr.toList.drop (n' * sz), by rw [List.append_nil, ← h7]; simp⟩ hset
                refine fin k1 k2 ?_
                have hfl := flat_len h5
                rw [List.append_nil] at k3 k5
                have hsize : arr'.size = arr.size := by
                  have e1 := congrArg List.length k4
                  have e2 : offp p + (ac.eval x).cells.toList.length ≤ arr.toList.length := by
                    have := congrArg List.length h7
                    simp only [List.length_take] at this
                    omega
                  rw [splice_len _ _ _ e2] at e1
                  simpa using e1
                have harr : arr.toList = flat n' vals ++ arr.toList.drop (n' * sz) := by rw [← h7]; simp
                have htake : arr'.toList.take (n' * sz) = splice (flat n' vals) (offp p) (ac.eval x).cells.toList := by
                  rw [k4, harr, splice_left _ _ _ _ k5]
                  rw [List.take_left' (by rw [splice_len _ _ _ k5, hfl])]
                generalize hsp : splice (flat n' vals) (offp p) (ac.eval x).cells.toList = sp at k3 htake
                cases k3 with
                | cons hx _ _ => cases hx
                | arr vals' g1 g2 g3 =>
                  cases g3
                  exact .row vals' h0 k2.at_ h1 h6 (by rw [hsize]; exact h3) g1 g2 (by rw [htake]; simp)
          · cases h
        · cases h
      · cases h
    · cases h
  · cases h
end
end Go.Eng
