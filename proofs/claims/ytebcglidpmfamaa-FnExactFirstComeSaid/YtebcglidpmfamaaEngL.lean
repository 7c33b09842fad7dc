/- A part of the proof that the law of this seat answers true for every input, without a condition. -/
import Derived.Test.YtebcglidpmfamaaEngK
import Derived.Laws.MakeOwn
set_option linter.all false
set_option linter.unusedVariables false
set_option linter.unusedSimpArgs false
namespace Go.Eng
open Go
section
variable {P : Program} {env env' : List (Nat × Nat)} {own : List Ch} {tr : Tr}
def snocO : List Ch → Ch → List Ch
  | [], c => [c]
  | x :: l, c => x :: snocO l c
theorem snocO_eq (l : List Ch) (c : Ch) : snocO l c = l ++ [c] := by induction l with | nil => rfl | cons x l ih => simp [snocO, ih]
def lenO : List Ch → Nat
  | [] => 0
  | _ :: l => lenO l + 1
theorem lenO_eq (l : List Ch) : lenO l = l.length := by induction l with | nil => rfl | cons x l ih => simp [lenO, ih]
/-- One chunk more. -/
theorem Inv.push' {w w' : World} {H : Hp} (h : Inv env own w H) {g k : Nat} {c : Ch} (hin : HIn H w') (hs : w.heap.size ≤ w'.heap.size)
    (hb : ∀ (i b k' : Nat) (c' : Ch), env[i]? = some (b, k') → 0 < k' → own[i]? = some c' → c' ≠ .dead → w'.heap[b]? = w.heap[b]?)
    (hg : 0 < k → g < w'.heap.size ∧ H g = none ∧ ∀ (i k' : Nat) (c' : Ch), env[i]? = some (g, k') → 0 < k' → own[i]? = some c' → c' = .dead) (hc : ChOK H (env ++ [(g, k)]) w' g k c) (hbx : ∀ l, c = .box l → 0 < k) (hmx : ∀ g, c = .mp g → 0 < k := by intro g e; cases e) :
    Inv (env ++ [(g, k)]) (snocO own c) w' H := by
  have old : ∀ {i b k1 : Nat} {c' : Ch}, (env ++ [(g, k)])[i]? = some (b, k1) → (snocO own c)[i]? = some c' → (env[i]? = some (b, k1) ∧ own[i]? = some c') ∨ (i = env.length ∧ b = g ∧ k1 = k ∧ c' = c) := by
    intro i b k1 c' h1 h2
    rw [snocO_eq, List.getElem?_append] at h2
    rw [List.getElem?_append] at h1
    rw [h.len] at h2
    split at h1
    · rename_i hi
      rw [if_pos hi] at h2
      exact .inl ⟨h1, h2⟩
    · rename_i hi
      rw [if_neg hi] at h2
      have hi0 : i - env.length = 0 := by
        have := (List.getElem?_eq_some_iff.1 h1).1; simp at this; omega
      rw [hi0] at h1 h2; simp at h1 h2
      exact .inr ⟨by omega, h1.1.symm, h1.2.symm, h2.symm⟩
  constructor
  · exact hin
  · rw [snocO_eq]; simp [h.len]
  · intro i j b k1 k2 c1 c2 h1 h2 p1 p2 o1 o2 d1 d2
    rcases old h1 o1 with ⟨a1, a2⟩ | ⟨a1, a2, a3, a4⟩ <;> rcases old h2 o2 with ⟨b1, b2⟩ | ⟨b1, b2, b3, b4⟩
    · exact h.nodup i j b k1 k2 c1 c2 a1 b1 p1 p2 a2 b2 d1 d2
    · subst b2; subst b3
      exact absurd ((hg p2).2.2 i k1 c1 a1 p1 a2) d1
    · subst a2; subst a3
      exact absurd ((hg p1).2.2 j k2 c2 b1 p2 b2) d2
    · omega
  · intro i b k1 h1 p1
    rw [List.getElem?_append] at h1
    split at h1
    · exact Nat.lt_of_lt_of_le (h.lt i b k1 h1 p1) hs
    · have hi0 : i - env.length = 0 := by
        have := (List.getElem?_eq_some_iff.1 h1).1; simp at this; omega
      rw [hi0] at h1; simp at h1
      obtain ⟨rfl, rfl⟩ := h1
      exact (hg p1).1
  · intro i c' b k1 hc' h1
    rcases old h1 hc' with ⟨a1, a2⟩ | ⟨a1, rfl, rfl, rfl⟩
    · by_cases hd : c' = .dead
      · rw [hd]; exact .dead
      · exact (h.ch i c' b k1 a2 a1).move (HLe.refl _) (EnvLe.append _ _) (fun p => hb i b k1 c' a1 p a2 hd) (fun l e => h.bx i l b k1 (e ▸ a2) a1) (fun l e => h.mx i l b k1 (e ▸ a2) a1)
    · exact hc
  · intro i l b k1 hc' h1
    rcases old h1 hc' with ⟨a1, a2⟩ | ⟨a1, rfl, rfl, a4⟩
    · exact h.bx i l b k1 a2 a1
    · exact hbx l a4.symm
  · intro i l b k1 hc' h1
    rcases old h1 hc' with ⟨a1, a2⟩ | ⟨a1, rfl, rfl, a4⟩
    · exact h.mx i l b k1 a2 a1
    · exact hmx l a4.symm
  · intro i b k1 c' h1 p1 hc' hd
    rcases old h1 hc' with ⟨a1, a2⟩ | ⟨a1, rfl, rfl, a4⟩
    · exact h.sep i b k1 c' a1 p1 a2 hd
    · exact (hg p1).2.1
/-- One chunk more, at a block that is new (or at none: k = 0). -/
theorem Inv.push {w w' : World} {H : Hp} (h : Inv env own w H) {g k : Nat} {c : Ch} (hin : HIn H w') (hs : w.heap.size ≤ w'.heap.size) (hb : ∀ j, j < w.heap.size → w'.heap[j]? = w.heap[j]?) (hg : 0 < k → w.heap.size ≤ g ∧ g < w'.heap.size) (hc : ChOK H (env ++ [(g, k)]) w' g k c) (hbx : ∀ l, c = .box l → 0 < k) (hmx : ∀ g, c = .mp g → 0 < k := by intro g e; cases e) :
    Inv (env ++ [(g, k)]) (snocO own c) w' H :=
  h.push' hin hs (fun i b k' c' h1 p _ _ => hb b (h.lt i b k' h1 p)) (fun p => ⟨(hg p).2, by
    cases hb' : H g with
    | none => rfl
    | some o =>
      have h3 := h.inn g o hb'
      have := (Array.getElem?_eq_some_iff.1 h3).1
      have := (hg p).1
      omega, fun i k' c' h1 p' _ => by have := h.lt i g k' h1 p'; have := (hg p).1; omega⟩) hc hbx hmx
/-- A chunk is given up. -/
theorem Inv.kill {w : World} {H : Hp} (h : Inv env own w H) (i : Nat) : Inv env (setO own i .dead) w H := by
  have old : ∀ {j : Nat} {c' : Ch}, (setO own i .dead)[j]? = some c' → c' = .dead ∨ own[j]? = some c' := by
    intro j c' h1
    rw [setO_get] at h1
    split at h1
    · injection h1 with h1; exact .inl h1.symm
    · exact .inr h1
  constructor
  · exact h.inn
  · rw [setO_len]; exact h.len
  · intro i j b k1 k2 c1 c2 h1 h2 p1 p2 o1 o2 d1 d2
    exact h.nodup i j b k1 k2 c1 c2 h1 h2 p1 p2 ((old o1).resolve_left d1) ((old o2).resolve_left d2) d1 d2
  · exact h.lt
  · intro j c' b k1 hc' h1
    rcases old hc' with rfl | hc'
    · exact .dead
    · exact h.ch j c' b k1 hc' h1
  · intro j l b k1 hc' h1
    rcases old hc' with e | hc'
    · cases e
    · exact h.bx j l b k1 hc' h1
  · intro j l b k1 hc' h1
    rcases old hc' with e | hc'
    · cases e
    · exact h.mx j l b k1 hc' h1
  · intro j b k1 c' h1 p1 hc' hd
    exact h.sep j b k1 c' h1 p1 ((old hc').resolve_left hd) hd
theorem env_new (env : List (Nat × Nat)) (x : Nat × Nat) : (env ++ [x])[env.length]? = some x := by simp
theorem inE_push {g k b : Nat} (h : inE (env ++ [(g, k)]) b) : inE env b ∨ (b = g ∧ 0 < k) := by
  obtain ⟨i, k', h1, p⟩ := h
  rw [List.getElem?_append] at h1
  split at h1
  · exact .inl ⟨i, k', h1, p⟩
  · have hi0 : i - env.length = 0 := by
      have := (List.getElem?_eq_some_iff.1 h1).1; simp at this; omega
    rw [hi0] at h1; simp at h1
    obtain ⟨rfl, rfl⟩ := h1
    exact .inr ⟨rfl, p⟩
/-- The end of an operation that has made one chunk. -/
theorem seq_push {o : Oper} {s : T} {a : Act} {w w' : World} {H : Hp} (hs : Sim env own s a w H) {x : Value} (hexec : (execOp a.eval o).run P w = .ok (.value x) w') {g k : Nat} {c : Ch} (hst : Step (inE env) w H w' H) (hb : ∀ j, j < w.heap.size → w'.heap[j]? = w.heap[j]?)
    (hg : 0 < k → w.heap.size ≤ g ∧ g < w'.heap.size) (hc : ChOK H (env ++ [(g, k)]) w' g k c) (hbx : ∀ l, c = .box l → 0 < k) {r : SV} (hr : Rep H (env ++ [(g, k)]) r x) (hmx : ∀ g, c = .mp g → 0 < k := by intro g e; cases e) :
    o.wp P a w (fun a' w' => ∃ env' H', Sim env' (snocO own c) (put s o.dst r) a' w' H' ∧ Step (inE env) w H w' H' ∧ EnvLe env env' ∧ ∀ b, inE env' b → inE env b ∨ w.heap.size ≤ b) (fun _ _ _ => False) := by
  unfold Oper.wp
  rw [hexec]
  exact ⟨_, H, ⟨hs.inv.push hst.inn hst.size hb hg hc hbx hmx, (hs.rep.mono (HLe.refl _) (EnvLe.append _ _)).put hr _⟩, hst, EnvLe.append _ _, fun b h => (inE_push h).imp id fun h => by have := (hg h.2).1; omega⟩
theorem box_own {o : Oper} {t : Nat} {x : Operand} (ho : o.op = .box t x) {s : T} {l : List SV} (h : cellsS (ev s x) = some l) : OkSeq P own (snocO own (.box l)) o s (put s o.dst (.own (lenO own) [])) := by
  intro env w H a hs
  have hx := cellsS_rep h (hs.rep.ev x)
  have hexec : (execOp a.eval o).run P w = .ok (.value (.pointer (some ⟨w.heap.size, 0, none⟩))) { w with heap := w.heap.push (.cells (a.eval x).cells t) } := by
    unfold execOp
    simp [ho, Sem.run_bind, Instr.box, newVar, newRow, newObj, Sem.run]
  refine seq_push hs hexec (g := w.heap.size) (k := 1) (Step.alloc_own hs.inv.inn _) (fun j hj => by simp [Array.getElem?_push, show j ≠ w.heap.size by omega]) (fun _ => ⟨Nat.le_refl _, by simp⟩) (.box (ty := t) (by simp) (hx.mono (HLe.refl _) (EnvLe.append _ _))) (fun _ _ => by omega) ?_
  rw [lenO_eq, hs.inv.len]
  exact .own (env_new _ _) (by omega)
theorem alloc_own (hT : tr.All (TOk P)) {o : Oper} {t : Nat} (ho : o.op = .alloc t) {s : T} {ti : TI} (h : tr.find t = some ti) : OkSeq P own (snocO own (.box ti.zero)) o s (put s o.dst (.own (lenO own) [])) := by
  intro env w H a hs
  obtain ⟨z, hz, hzs, hz0⟩ := run_zero (Tr.find_all hT h) w
  have hexec : (execOp a.eval o).run P w = .ok (.value (.pointer (some ⟨w.heap.size, 0, none⟩))) { w with heap := w.heap.push (.cells z.cells t) } := by
    unfold execOp
    simp [ho, Sem.run_bind, Instr.alloc, hz, newVar, newRow, newObj, Sem.run]
  refine seq_push hs hexec (g := w.heap.size) (k := 1) (Step.alloc_own hs.inv.inn _) (fun j hj => by simp [Array.getElem?_push, show j ≠ w.heap.size by omega]) (fun _ => ⟨Nat.le_refl _, by simp⟩) (.box (ty := t) (by simp) ((hz0 H).mono (HLe.refl _) (EnvLe.nil _))) (fun _ _ => by omega) ?_
  rw [lenO_eq, hs.inv.len]
  exact .own (env_new _ _) (by omega)
/-- A slice literal that may be written. -/
theorem lit_own (hT : tr.All (TOk P)) {s : T} {o : Oper} {t len : Nat} {parts : Array (Nat × Operand)} (ho : o.op = .buildSlice t len parts) {e sz : Nat} {l : List (List SV)} (h : litS tr t len (partsS s parts.toList) = some (e, sz, l)) (hc : closedLL l = true) :
    OkSeq P own (snocO own (.row len sz e (nthL l))) o s (put s o.dst (.mr (lenO own) 0 len sz)) := by
  intro env w H a hs
  obtain ⟨h1, h2⟩ := partsOf (env := env) ho (fun y _ => hs.rep.ev y)
  obtain ⟨arr, us, hrun, hpos, hll, hlen, harr, hfl, hus⟩ := lit_run (env := env) hT h (w := w) (H := H) h1 h2
  have hexec : (execOp a.eval o).run P w = .ok (.value (.slice (some ⟨w.heap.size, 0, none⟩) len len)) { w with heap := w.heap.push (.cells arr e) } := by
    unfold execOp
    simp only [ho, Sem.run_bind, hrun, Result.andThen_ok, Sem.run_pure]
  have hcl : ∀ j, j < len → RepL H [] (nthL l j) (us j) := fun j hj => (hus j hj).1.closed (closedLL_get hc (nthL_get (by omega)))
  refine seq_push hs hexec (g := w.heap.size) (k := len) (Step.alloc_own hs.inv.inn _) (fun j hj => by simp [Array.getElem?_push, show j ≠ w.heap.size by omega]) (fun _ => ⟨Nat.le_refl _, by simp⟩) ?_ (fun l e => by cases e) ?_
  · by_cases h0 : len = 0
    · subst h0; exact .virt rfl
    · exact .row us (by omega) (by simp) (Nat.le_refl _) (by omega) harr hcl (fun j hj => (hus j hj).2) (by rw [← harr, hfl]; exact List.take_of_length_le (by rw [← hfl]; simp))
  · rw [lenO_eq, hs.inv.len]
    by_cases h0 : len = 0
    · subst h0; exact .mr0 (env_new _ _)
    · have := Rep.mr (H := H) (env := env ++ [(w.heap.size, len)]) (i := env.length) (lo := 0) (n := len) (sz := sz) (a := ⟨w.heap.size, 0, none⟩) (env_new _ _) (by omega) rfl (by omega) (fun _ => by simp)
      simpa using this

/-! ### append, as one operation: what was appended to is given up -/
def appendS (tr : Tr) (own : List Ch) (t : Nat) (x y : SV) : Option (Prop × SV × List Ch) :=
  match sliceOfE tr t with
  | some (e, te) => match te.size with
    | 0 => none
    | _ + 1 => match srcS own y te.size with
      | some (q, m, g) => match x with
        | .emp => some (q ∧ m * te.bytes ≤ 140737488355328 ∧ m ≤ 9223372036854775807, .mr (lenO own) 0 m te.size, snocO own (.row m te.size e g))
        | .mr i 0 n sz => match getO own i with
          | .row n' sz' e' f => match Nat.beq sz te.size, Nat.beq sz' te.size, Nat.beq e' e with
            | true, true, true => some (q ∧ n ≤ n' ∧ (n + m) * te.bytes ≤ 140737488355328 ∧ n + m ≤ 9223372036854775807, .mr (lenO own) 0 (n + m) te.size, snocO (setO own i .dead) (.row (n + m) te.size e (catG f n g)))
            | _, _, _ => none
          | _ => none
        | _ => none
      | none => none
  | none => none
theorem catG_rep {f g : Nat → List SV} {n m : Nat} {vals src : Nat → List Value} {H : Hp} {sz : Nat} (h1 : ∀ j, j < n → RepL H [] (f j) (vals j)) (h2 : ∀ j, j < m → RepL H [] (g j) (src j)) (l1 : ∀ j, j < n → (vals j).length = sz) (l2 : ∀ j, j < m → (src j).length = sz) :
    ∃ v, (∀ j, j < n + m → RepL H [] (catG f n g j) (v j)) ∧ (∀ j, j < n + m → (v j).length = sz) ∧ flat (n + m) v = flat n vals ++ flat m src := by
  refine ⟨fun j => if j < n then vals j else src (j - n), fun j hj => ?_, fun j hj => ?_, ?_⟩
  · unfold catG
    by_cases h : j < n
    · have : Nat.blt j n = true := by simp [Nat.blt_eq, h]
      simp only [this, if_pos h]; exact h1 j h
    · have : Nat.blt j n = false := by
        cases hb : Nat.blt j n with
        | false => rfl
        | true => exact absurd (by simpa [Nat.blt_eq] using hb) h
      simp only [this, if_neg h]; exact h2 _ (by omega)
  · simp only
    split
    · exact l1 j ‹_›
    · exact l2 _ (by omega)
  · have : ∀ k, k ≤ m → flat (n + k) (fun j => if j < n then vals j else src (j - n)) = flat n vals ++ flat k src := by
      intro k
      induction k with
      | zero => intro _; rw [Nat.add_zero, flat_congr (g := vals) (fun j hj => if_pos hj)]; simp [flat]
      | succ k ih =>
        intro hk
        rw [← Nat.add_assoc, flat_succ, ih (by omega), if_neg (by omega), flat_succ, Nat.add_sub_cancel_left, List.append_assoc]
    exact this m (Nat.le_refl _)
theorem RepL_ones_flat {H : Hp} {m : Nat} {g : Nat → List SV} {src : Nat → List Value} (h : ∀ j, j < m → RepL H [] (g j) (src j)) : ∀ u ∈ flat m src, one u := fun u hu => by
  obtain ⟨j, hj, hu⟩ := List.mem_flatMap.1 hu
  exact (h j (List.mem_range.1 hj)).ones u hu
theorem getElem?_set_self' {l : List (Nat × Nat)} {i : Nat} {x y : Nat × Nat} (h : l[i]? = some y) : (l.set i x)[i]? = some x := by
  rw [List.getElem?_set_self (List.getElem?_eq_some_iff.1 h).1]
theorem append_ok (hT : tr.All (TOk P)) {o : Oper} {x y : Operand} {t : Nat} (ho : o.op = .call ⟨.builtin .append, #[x, y], #[t, t]⟩) {s : T} {q : Prop} {r : SV} {own' : List Ch} (h : appendS tr own t (ev s x) (ev s y) = some (q, r, own')) (hq : q) :
    OkSeq P own own' o s (put s o.dst r) := by
  intro env w H a hs
  have hexe : ∀ {v w'}, (Builtin.append_ #[t, t] o.type #[a.eval x, a.eval y]).run P w = .ok v w' → (execOp a.eval o).run P w = .ok (.value v) w' := fun hr => by
    unfold execOp
    simp [ho, resolve, invoke, builtin, Sem.run_bind, hr]
  have hrx := hs.rep.ev x
  have hry := hs.rep.ev y
  unfold appendS at h
  split at h
  · rename_i e te hse
    split at h
    · cases h
    · rename_i nn hnn
      have hsz : 0 < te.size := by omega
      split at h
      · rename_i q' m g hsrc
        split at h
        · rename_i hx
          simp only [Option.some.injEq, Prod.mk.injEq] at h
          obtain ⟨rfl, rfl, rfl⟩ := h
          obtain ⟨A, c, src, hyv, s1, s2, s3⟩ := srcS_sound hs.inv hsrc hq.1 hry
          rw [hx] at hrx
          generalize hxv : a.eval x = vx at hrx
          cases hrx with
          | emp A0 =>
            by_cases hm : 0 < m
            · obtain ⟨g', cap, arr', w', hrun, hcap, hg', h1, h2, h3, h4, h5, h6, h7, h8, h9, h10, h11⟩ := append_run (P := P) hT hse (w := w) (v := .slice A0 0 0) (n := 0) (m := m) (vals := fun _ => []) (src := src) (b := 0) (c := 0) (cc := c) (.inl ⟨rfl, rfl, A0, rfl⟩) (fun j hj => by omega) s2 (RepL_ones_flat s1) s3 hm hsz (by simpa using hq.2.1) (by simpa using hq.2.2) o.type
              have hg0 : g' = w.heap.size := by rcases h5 with h5 | h5 <;> omega
              subst hg0
              have hst : Step (inE env) w H w' H := ⟨h6, h7, h8, h9, fun k hk _ => h11 k hk (by omega), HLe.refl _, fun b o' hb => by
                have hb' := hs.inv.inn b o' hb
                rw [h11 b (Array.getElem?_eq_some_iff.1 hb').1 (by omega)]; exact hb', fun b e1 e2 => absurd e1 e2⟩
              refine seq_push hs (hexe (by rw [hxv, hyv]; exact hrun)) (g := w.heap.size) (k := cap) hst (fun j hj => h11 j hj (by omega)) (fun _ => ⟨Nat.le_refl _, h10⟩) ?_ (fun l e => by cases e) ?_
              · exact .row src hcap hg' (by omega) h2 h3 s1 s2 (by simpa [flat] using h4)
              · rw [lenO_eq, hs.inv.len]
                have := Rep.mr (H := H) (env := env ++ [(w.heap.size, cap)]) (i := env.length) (lo := 0) (n := m) (sz := te.size) (a := ⟨w.heap.size, 0, none⟩) (env_new _ _) hcap rfl (by omega) (fun _ => by simp)
                simpa using this
            · have hm0 : m = 0 := by omega
              subst hm0
              unfold sliceOfE at hse
              split at hse
              · rename_i ti hti
                split at hse
                · rename_i e' hd
                  split at hse
                  · rename_i te' hte
                    simp only [Option.some.injEq, Prod.mk.injEq] at hse
                    obtain ⟨rfl, rfl⟩ := hse
                    have ht := (Tr.find_all hT hti).und
                    rw [hd] at ht
                    obtain ⟨i, z, hinf, _⟩ := (Tr.find_all hT hte).inf
                    have hrun := run_append_none (P := P) (A := A) (ty := o.type) ht hinf (B := A0) (n := 0) (cap := 0) (c := c) (Nat.le_refl _) w
                    refine seq_push hs (hexe (by rw [hxv, hyv]; exact hrun)) (g := 0) (k := 0) (Step.refl hs.inv.inn) (fun j hj => rfl) (fun h => by omega) (.virt rfl) (fun l e => by cases e) ?_
                    rw [lenO_eq, hs.inv.len]
                    exact .mr0 (env_new _ _)
                  · cases hse
                · cases hse
              · cases hse
        · rename_i i n sz hx
          split at h
          · rename_i n' sz' e' f hgo
            split at h
            · rename_i hb1 hb2 hb3
              have e1 := Nat.eq_of_beq_eq_true hb1
              have e2 := Nat.eq_of_beq_eq_true hb2
              have e3 := Nat.eq_of_beq_eq_true hb3
              subst e3; subst e1; subst e2
              simp only [Option.some.injEq, Prod.mk.injEq] at h
              obtain ⟨rfl, rfl, rfl⟩ := h
              obtain ⟨A, c, src, hyv, s1, s2, s3⟩ := srcS_sound hs.inv hsrc hq.1 hry
              rw [hx] at hrx
              generalize hxv : a.eval x = vx at hrx
              have hown := getO_some hgo (by simp)
              -- what the row is before
              have hrow : ∃ b c0 vals, env[i]? = some (b, c0) ∧ (∀ j, j < n → RepL H [] (f j) (vals j)) ∧ (∀ j, j < n → (vals j).length = te.size) ∧
                  ((c0 = 0 ∧ n = 0 ∧ ∃ A, vx = .slice A 0 0) ∨ (0 < c0 ∧ vx = .slice (some ⟨b, 0, none⟩) n c0 ∧ ∃ arr, w.heap[b]? = some (.cells arr e' (0, 0)) ∧ n ≤ c0 ∧ c0 ≤ 9223372036854775807 ∧ arr.size = c0 * te.size ∧ arr.toList.take (n * te.size) = flat n vals)) := by
                cases hrx with
                | mr0 he => exact ⟨_, 0, fun _ => [], he, fun j hj => by omega, fun j hj => by omega, .inl ⟨rfl, rfl, _, rfl⟩⟩
                | @mr _ _ lo _ _ b c0 a0 he hpos hbk hlo ha =>
                  have hck := hs.inv.ch _ _ _ _ hown he
                  cases hck with
                  | virt h0 => omega
                  | @row _ _ _ _ arr vals h0 h1 h2 h6 h3 h4 h5 h7 =>
                    refine ⟨b, c0, vals, he, fun j hj => h4 j (by have := hq.2.1; omega), fun j hj => h5 j (by have := hq.2.1; omega), .inr ⟨hpos, by rw [ha (.inl rfl)]; simp, arr, h1, by omega, h6, h3, ?_⟩⟩
                    have hnn' := hq.2.1
                    have : arr.toList.take (n * te.size) = (flat n' vals).take (n * te.size) := by
                      rw [← h7, List.take_take, Nat.min_eq_left (Nat.mul_le_mul_right _ hnn')]
                    rw [this]
                    obtain ⟨d, rfl⟩ : ∃ d, n' = n + d := ⟨n' - n, by omega⟩
                    have hfl : ∀ k, flat (n + k) vals = flat n vals ++ flat k (fun j => vals (n + j)) := by
                      intro k
                      induction k with
                      | zero => simp [flat]
                      | succ k ih => rw [← Nat.add_assoc, flat_succ, ih, flat_succ, List.append_assoc]
                    rw [hfl, List.take_left' (flat_len fun j hj => h5 j (by omega))]
              obtain ⟨b, c0, vals, he, v1, v2, v3⟩ := hrow
              obtain ⟨vv, c1, c2, c3⟩ := catG_rep v1 s1 v2 s2
              have hilt : i < env.length := (List.getElem?_eq_some_iff.1 he).1
              -- the end, told by the new entry
              have fin : ∀ {g' cap : Nat} {w' : World} {vr : Value}, (Builtin.append_ #[t, t] o.type #[a.eval x, a.eval y]).run P w = .ok vr w' → Rep H (env ++ [(g', cap)]) (.mr env.length 0 (n + m) te.size) vr →
                  (0 < cap → ((g' = b ∧ 0 < c0) ∨ g' = w.heap.size) ∧ g' < w'.heap.size) → (∀ k, k < w.heap.size → ¬ (k = b ∧ 0 < c0) → w'.heap[k]? = w.heap[k]?) → w'.os = w.os → w'.tape = w.tape → w'.output = w.output → w.heap.size ≤ w'.heap.size →
                  ChOK H (env ++ [(g', cap)]) w' g' cap (.row (n + m) te.size e' (catG f n g)) →
                  o.wp P a w (fun a' w' => ∃ env' H', Sim env' (snocO (setO own i .dead) (.row (n + m) te.size e' (catG f n g))) (put s o.dst (.mr (lenO own) 0 (n + m) te.size)) a' w' H' ∧ Step (inE env) w H w' H' ∧ EnvLe env env' ∧ ∀ b, inE env' b → inE env b ∨ w.heap.size ≤ b) (fun _ _ _ => False) := by
                intro g' cap w' vr hrun hrep hg hkeep k1 k2 k3 k4 hch
                have hin : HIn H w' := fun b' o' hb' => by
                  have hb2 := hs.inv.inn b' o' hb'
                  rw [hkeep b' (Array.getElem?_eq_some_iff.1 hb2).1]
                  · exact hb2
                  · rintro ⟨e1, e2⟩
                    subst e1
                    rw [hs.inv.sep i b' c0 _ he e2 hown (by simp)] at hb'
                    cases hb'
                have hst : Step (inE env) w H w' H := ⟨k1, k2, k3, k4, fun k hk hn => hkeep k hk (fun ⟨e1, e2⟩ => hn ⟨i, c0, e1 ▸ he, e2⟩), HLe.refl _, hin, fun b e1 e2 => absurd e1 e2⟩
                have hlive : ∀ {j b' k' : Nat} {c' : Ch}, env[j]? = some (b', k') → 0 < k' → (setO own i .dead)[j]? = some c' → c' ≠ .dead → b' = b → ¬ 0 < c0 := by
                  intro j b' k' c' h1 p1 h2 hd e1 e2
                  subst e1
                  rw [setO_get] at h2
                  split at h2
                  · injection h2 with h2; exact hd h2.symm
                  · rename_i hij
                    have := hs.inv.nodup j i b' k' c0 c' _ h1 he p1 e2 h2 hown hd (by simp)
                    subst this
                    exact hij ⟨rfl, (List.getElem?_eq_some_iff.1 hown).1⟩
                unfold Oper.wp
                rw [hexe hrun]
                refine ⟨_, H, ⟨(hs.inv.kill i).push' (g := g') (k := cap) hin k4 (fun j b' k' c' h1 p1 h2 hd => hkeep b' (hs.inv.lt j b' k' h1 p1) (fun ⟨e1, e2⟩ => hlive h1 p1 h2 hd e1 e2)) (fun p => ⟨(hg p).2, ?_, fun j k' c' h1 p1 h2 => ?_⟩) hch (fun l e => by cases e), ?_⟩, hst, EnvLe.append _ _, ?_⟩
                · rcases (hg p).1 with ⟨e1, e2⟩ | e1
                  · subst e1; exact hs.inv.sep i _ c0 _ he e2 hown (by simp)
                  · subst e1; exact hs.inv.inn.none_
                · rcases (hg p).1 with ⟨e1, e2⟩ | e1
                  · by_cases hd : c' = .dead
                    · exact hd
                    · exact absurd e2 (hlive h1 p1 h2 hd e1)
                  · have := hs.inv.lt j g' k' h1 p1; omega
                · refine (hs.rep.mono (HLe.refl _) (EnvLe.append _ _)).put ?_ _
                  rw [lenO_eq, hs.inv.len]; exact hrep
                · intro b' hb'
                  rcases inE_push hb' with h1 | ⟨h1, p⟩
                  · exact .inl h1
                  · subst h1
                    rcases (hg p).1 with ⟨e1, e2⟩ | e1
                    · subst e1; exact .inl ⟨i, c0, he, e2⟩
                    · exact .inr (by omega)
              by_cases hm : 0 < m
              · obtain ⟨g', cap, arr', w', hrun, hcap, hg', h1, h2, h3, h4, h5, h6, h7, h8, h9, h10, h11⟩ := append_run (P := P) hT hse (w := w) (v := vx) (n := n) (m := m) (vals := vals) (src := src) (b := b) (c := c0) (cc := c) v3 v2 s2 (RepL_ones_flat s1) s3 hm hsz hq.2.2.1 hq.2.2.2 o.type
                refine fin (g' := g') (cap := cap) (by rw [hxv, hyv]; exact hrun) ?_ (fun _ => ⟨h5, h10⟩) h11 h6 h7 h8 h9 (.row vv hcap hg' h1 h2 h3 c1 c2 (by rw [h4, c3]))
                have := Rep.mr (H := H) (env := env ++ [(g', cap)]) (i := env.length) (lo := 0) (n := n + m) (sz := te.size) (a := ⟨g', 0, none⟩) (env_new _ _) hcap rfl (by omega) (fun _ => by simp)
                simpa using this
              · have hm0 : m = 0 := by omega
                subst hm0
                have hse' := hse
                unfold sliceOfE at hse
                split at hse
                · rename_i ti hti
                  split at hse
                  · rename_i e'' hd
                    split at hse
                    · rename_i te' hte
                      simp only [Option.some.injEq, Prod.mk.injEq] at hse
                      obtain ⟨rfl, rfl⟩ := hse
                      have ht := (Tr.find_all hT hti).und
                      rw [hd] at ht
                      obtain ⟨i', z, hinf, _⟩ := (Tr.find_all hT hte).inf
                      rcases v3 with ⟨z1, z2, A0, rfl⟩ | ⟨z1, rfl, arr, z2, z3, z4, z5, z6⟩
                      · subst z1; subst z2
                        have hrun := run_append_none (P := P) (A := A) (ty := o.type) ht hinf (B := A0) (n := 0) (cap := 0) (c := c) (Nat.le_refl _) w
                        exact fin (g' := b) (cap := 0) (by rw [hxv, hyv]; exact hrun) (.mr0 (env_new _ _)) (fun h => by omega) (fun k hk _ => rfl) rfl rfl rfl (Nat.le_refl _) (.virt rfl)
                      · have hrun := run_append_none (P := P) (A := A) (ty := o.type) ht hinf (B := some ⟨b, 0, none⟩) (n := n) (cap := c0) (c := c) z3 w
                        refine fin (g' := b) (cap := c0) (by rw [hxv, hyv]; exact hrun) ?_ (fun _ => ⟨.inl ⟨rfl, z1⟩, hs.inv.lt i b c0 he z1⟩) (fun k hk _ => rfl) rfl rfl rfl (Nat.le_refl _) (.row vv z1 z2 (by omega) z4 z5 c1 c2 (by rw [Nat.add_zero, z6, ← Nat.add_zero n, c3]; simp [flat]))
                        have := Rep.mr (H := H) (env := env ++ [(b, c0)]) (i := env.length) (lo := 0) (n := n + 0) (sz := te'.size) (a := ⟨b, 0, none⟩) (env_new _ _) z1 rfl (by omega) (fun _ => by simp)
                        simpa using this
                    · cases hse
                  · cases hse
                · cases hse
            · cases h
          · cases h
        · cases h
      · cases h
  · cases h
/-! ### make -/
def makeS (tr : Tr) (t : Nat) (l c : SV) : Option (Prop × Nat × Nat × TI) :=
  match l, c with
  | .v (.int _ x), .v (.int _ y) => match sliceOfE tr t with
    | some (e, te) => some (0 ≤ x ∧ x ≤ y ∧ te.bytes * y ≤ 281474976710656 ∧ y ≤ 9223372036854775807, x.toNat, e, te)
    | none => none
  | _, _ => none
theorem made_flat {z : Array Value} {sz : Nat} (hz : z.size = sz) (hpos : 0 < sz) : ∀ l : Nat, (List.range (l * sz)).map (fun i => z[i % z.size]!) = flat l (fun _ => z.toList)
  | 0 => by simp [flat]
  | l + 1 => by
    rw [flat_succ, ← made_flat hz hpos l, Nat.succ_mul, List.range_add, List.map_append, List.map_map]
    congr 1
    apply List.ext_getElem
    · simp [hz]
    · intro i h1 h2
      simp at h1 h2
      simp only [List.getElem_map, List.getElem_range, Function.comp, Array.getElem_toList, hz]
      rw [show (l * sz + i) % sz = i by rw [Nat.mul_comm, Nat.mul_add_mod, Nat.mod_eq_of_lt h1]]
      exact getElem!_pos z i (by omega)
theorem make_own (hT : tr.All (TOk P)) {s : T} {o : Oper} {t : Nat} {l c : Operand} (ho : o.op = .makeSlice t l c) {q : Prop} {n e : Nat} {te : TI} (h : makeS tr t (ev s l) (ev s c) = some (q, n, e, te)) (hq : q) (hpos : 0 < te.size) :
    OkSeq P own (snocO own (.row n te.size e (fun _ => te.zero))) o s (put s o.dst (.mr (lenO own) 0 n te.size)) := by
  intro env w H a hs
  have hl := hs.rep.ev l
  have hc := hs.rep.ev c
  unfold makeS at h
  split at h
  · rename_i kx x ky y e1 e2
    rw [e1] at hl
    rw [e2] at hc
    generalize hvl : a.eval l = vl at hl
    generalize hvc : a.eval c = vc at hc
    cases hl; cases hc
    split at h
    · rename_i e' te' hse
      simp only [Option.some.injEq, Prod.mk.injEq] at h
      obtain ⟨rfl, rfl, rfl, rfl⟩ := h
      unfold sliceOfE at hse
      split at hse
      · rename_i ti hti
        split at hse
        · rename_i e'' hd
          split at hse
          · rename_i te2 hte
            simp only [Option.some.injEq, Prod.mk.injEq] at hse
            obtain ⟨rfl, rfl⟩ := hse
            have ht := (Tr.find_all hT hti).und
            rw [hd] at ht
            obtain ⟨i, z, hinf, hsz, hby, hzz, hzs, hz0⟩ := (Tr.find_all hT hte).inf
            obtain ⟨q1, q2, q3, q4⟩ := hq
            have hrun := run_make (P := P) w t e'' i z ht hinf hzz kx ky x y q1 q2 (by rw [hby]; exact q3) q4
            rw [hsz] at hrun
            have hexec : (execOp a.eval o).run P w = .ok (.value (.slice (some ⟨w.heap.size, 0, none⟩) x.toNat y.toNat)) (w.alloc (.cells (madeCells z.cells (y.toNat * te2.size)) e'')) := by
              unfold execOp
              simp only [ho, hvl, hvc, Sem.run_bind, hrun, Result.andThen_ok, Sem.run_pure]
            have hle : x.toNat ≤ y.toNat := by omega
            have hheap : (w.alloc (.cells (madeCells z.cells (y.toNat * te2.size)) e'')).heap = w.heap.push (.cells (madeCells z.cells (y.toNat * te2.size)) e'') := rfl
            refine seq_push hs hexec (g := w.heap.size) (k := y.toNat) (Step.alloc_own hs.inv.inn _) (fun j hj => by rw [hheap]; simp [Array.getElem?_push, show j ≠ w.heap.size by omega]) (fun _ => ⟨Nat.le_refl _, by rw [hheap]; simp⟩) ?_ (fun l e => by cases e) ?_
            · by_cases h0 : y.toNat = 0
              · have : x.toNat = 0 := by omega
                rw [this]
                exact .virt h0
              · refine .row (arr := madeCells z.cells (y.toNat * te2.size)) (fun _ => z.cells.toList) (by omega) (by rw [hheap]; simp) hle (by omega) ?_ (fun j hj => hz0 _) (fun j hj => by simpa using hzs) ?_
                · simp [madeCells]
                · rw [← made_flat hzs hpos]
                  simp only [madeCells, Array.toList_map, Array.toList_range, ← List.map_take, List.take_range]
                  rw [Nat.min_eq_left (Nat.mul_le_mul_right _ hle)]
            · rw [lenO_eq, hs.inv.len]
              by_cases h0 : y.toNat = 0
              · have : x.toNat = 0 := by omega
                rw [this, h0]
                have h2 : (env ++ [(w.heap.size, 0)])[env.length]? = some (w.heap.size, 0) := env_new _ _
                exact .mr0 h2
              · have := Rep.mr (H := H) (env := env ++ [(w.heap.size, y.toNat)]) (i := env.length) (lo := 0) (n := x.toNat) (sz := te2.size) (a := ⟨w.heap.size, 0, none⟩) (env_new _ _) (by omega) rfl (by omega) (fun _ => by simp)
                simpa using this
          · cases hse
        · cases hse
      · cases hse
    · cases h
  · cases h
end
end Go.Eng
