/- A part of the proof that the law of this seat answers true for every input, without a condition. -/
import Derived.Test.YtebcglidpmfamaaEngY
import Derived.WalkKit
import Derived.ProofKit
import Derived.OpenShut
import Derived.ShutString
import Derived.ChangeOld
import Derived.Below
import Derived.Carry
set_option linter.all false
set_option linter.unusedVariables false
set_option linter.unusedSimpArgs false
namespace Go.Eng
open Go Go.RowKit
/-! ### The arguments of a law, read as data -/
def Hall (w : World) : Hp := fun b => w.heap[b]?
theorem Hall_in (w : World) : HIn (Hall w) w := fun _ _ h => h
theorem Hall_cell {w : World} {a : Addr} {v : Value} (h : w.cell? a = some v) : cellH (Hall w) a = some v := h
section
variable {DH : Type} {enc : TypeId × Value → DH} {P : Program} {w : World} {spare : Nat → Bool} {held : Bool}
/-- What the cells of a type read as. -/
def Reads (enc : TypeId × Value → DH) (P : Program) (w : World) (spare : Nat → Bool) (held : Bool) (t : TypeId) (sz : Nat) {α : Type} (en : α → List SV) (ok : α → Prop) : Prop :=
  ∀ (n : Nat) (cs : List Value) (x : DataW DH × List MemPlace), DataW.trod enc P w 0 spare held n t cs = some x → cs.length = sz ∧ ∃ a, ok a ∧ RepL (Hall w) [] (en a) cs
theorem Reads.conv {t sz : Nat} {α β : Type} {en : α → List SV} {ok : α → Prop} (h : Reads enc P w spare held t sz en ok) (en' : β → List SV) (ok' : β → Prop) (f : α → β) (hf : ∀ a, ok a → ok' (f a) ∧ en' (f a) = en a) : Reads enc P w spare held t sz en' ok' := fun n cs x hx => by
  obtain ⟨h1, a, h2, h3⟩ := h n cs x hx
  obtain ⟨h4, h5⟩ := hf a h2
  exact ⟨h1, f a, h4, by rw [h5]; exact h3⟩
theorem reads_int {t : TypeId} {k : IntKind} (ht : P.underlying t = some (.int k)) : Reads enc P w spare held t 1 (fun n : Int => [.v (.int k n)]) (fun n => (Lit.int k n).wf = true) := fun n cs x h => by
  obtain ⟨m, rfl, _, h2⟩ := DataW.trod_int ht h
  exact ⟨rfl, m, h2, .cons (.v _) trivial .nil⟩
theorem RepL.appT {H : Hp} {e : List (Nat × Nat)} : ∀ {l m : List SV} {xs ys : List Value}, RepL H e l xs → RepL H e m ys → RepL H e (l ++ m) (xs ++ ys)
  | _, _, _, _, .nil, h => h
  | _, _, _, _, .cons h1 o h2, h => .cons h1 o (h2.appT h)
  | _, _, _, _, .arr vals h1 h2 h3, h => by
    rw [List.append_assoc]
    exact .arr vals h1 h2 (h3.appT h)
theorem reads_struct2 {t : TypeId} {f0 f1 : Field} {s0 s1 : Nat} {α β : Type} {e0 : α → List SV} {e1 : β → List SV} {k0 : α → Prop} {k1 : β → Prop} (ht : P.underlying t = some (.struct #[f0, f1])) (hc : P.cellsOf t = s0 + s1) (hc0 : P.cellsOf f0.type = s0) (hc1 : P.cellsOf f1.type = s1) (ho0 : f0.offset = 0) (ho1 : f1.offset = s0)
    (h0 : Reads enc P w spare held f0.type s0 e0 k0) (h1 : Reads enc P w spare held f1.type s1 e1 k1) : Reads enc P w spare held t (s0 + s1) (fun p : α × β => e0 p.1 ++ e1 p.2) (fun p => k0 p.1 ∧ k1 p.2) := fun n cs x h => by
  obtain ⟨xs, m, _, _, hl, hlen, hf⟩ := DataW.trod_struct ht h
  have hl' : cs.length = s0 + s1 := by rw [hl, hc]
  simp at hlen
  have a0 := hf 0 f0 rfl
  have a1 := hf 1 f1 rfl
  rw [List.getElem?_eq_getElem (by omega)] at a0
  rw [List.getElem?_eq_getElem (by omega)] at a1
  rw [ho0, hc0] at a0
  rw [ho1, hc1] at a1
  obtain ⟨_, a, ha, ra⟩ := h0 _ _ _ a0
  obtain ⟨_, b, hb, rb⟩ := h1 _ _ _ a1
  refine ⟨hl', (a, b), ⟨ha, hb⟩, ?_⟩
  have e : cs = (cs.drop 0).take s0 ++ (cs.drop s0).take s1 := by
    rw [List.drop_zero, List.take_of_length_le (l := cs.drop s0) (by simp; omega), List.take_append_drop]
  rw [e]
  exact ra.appT rb
theorem reads_struct3 {t : TypeId} {f0 f1 f2 : Field} {s0 s1 s2 : Nat} {α β γ : Type} {e0 : α → List SV} {e1 : β → List SV} {e2 : γ → List SV} {k0 : α → Prop} {k1 : β → Prop} {k2 : γ → Prop} (ht : P.underlying t = some (.struct #[f0, f1, f2])) (hc : P.cellsOf t = s0 + s1 + s2) (hc0 : P.cellsOf f0.type = s0) (hc1 : P.cellsOf f1.type = s1) (hc2 : P.cellsOf f2.type = s2)
    (ho0 : f0.offset = 0) (ho1 : f1.offset = s0) (ho2 : f2.offset = s0 + s1)
    (h0 : Reads enc P w spare held f0.type s0 e0 k0) (h1 : Reads enc P w spare held f1.type s1 e1 k1) (h2 : Reads enc P w spare held f2.type s2 e2 k2) : Reads enc P w spare held t (s0 + s1 + s2) (fun p : α × β × γ => e0 p.1 ++ (e1 p.2.1 ++ e2 p.2.2)) (fun p => k0 p.1 ∧ k1 p.2.1 ∧ k2 p.2.2) := fun n cs x h => by
  obtain ⟨xs, m, _, _, hl, hlen, hf⟩ := DataW.trod_struct ht h
  have hl' : cs.length = s0 + s1 + s2 := by rw [hl, hc]
  simp at hlen
  have a0 := hf 0 f0 rfl
  have a1 := hf 1 f1 rfl
  have a2 := hf 2 f2 rfl
  rw [List.getElem?_eq_getElem (by omega)] at a0
  rw [List.getElem?_eq_getElem (by omega)] at a1
  rw [List.getElem?_eq_getElem (by omega)] at a2
  rw [ho0, hc0] at a0
  rw [ho1, hc1] at a1
  rw [ho2, hc2] at a2
  obtain ⟨_, a, ha, ra⟩ := h0 _ _ _ a0
  obtain ⟨_, b, hb, rb⟩ := h1 _ _ _ a1
  obtain ⟨_, c, hcc, rc⟩ := h2 _ _ _ a2
  refine ⟨hl', (a, b, c), ⟨ha, hb, hcc⟩, ?_⟩
  have e : cs = (cs.drop 0).take s0 ++ ((cs.drop s0).take s1 ++ (cs.drop (s0 + s1)).take s2) := by
    rw [List.drop_zero, List.take_of_length_le (l := cs.drop (s0 + s1)) (by simp; omega), ← List.drop_drop, List.take_append_drop, List.take_append_drop]
  rw [e]
  exact ra.appT (rb.appT rc)
theorem flat_chunks {sz : Nat} : ∀ (n : Nat) (cs : List Value), cs.length = n * sz → flat n (fun j => (cs.drop (j * sz)).take sz) = cs := by
  intro n
  have key : ∀ (n : Nat) (cs : List Value), n * sz ≤ cs.length → flat n (fun j => (cs.drop (j * sz)).take sz) = cs.take (n * sz) := by
    intro n
    induction n with
    | zero => intro cs _; simp [flat]
    | succ n ih =>
      intro cs h
      rw [Nat.succ_mul] at h
      rw [flat_succ, ih cs (by omega), Nat.succ_mul, List.take_add]
  intro cs h
  rw [key n cs (by omega), ← h, List.take_length]
theorem reads_array {t e : TypeId} {n sz : Nat} {α : Type} {en : α → List SV} {ok : α → Prop} (d0 : α) (ht : P.underlying t = some (.array n e)) (hc : P.cellsOf t = n * sz) (hce : P.cellsOf e = sz) (he : Reads enc P w spare held e sz en ok) :
    Reads enc P w spare held t (n * sz) (fun f : Nat → α => [.arr n sz (fun j => en (f j))]) (fun f => ∀ j, j < n → ok (f j)) := fun m cs x h => by
  obtain ⟨xs, m', _, _, hl, hlen, hf⟩ := DataW.trod_array ht h
  have hl' : cs.length = n * sz := by rw [hl, hc]
  have hel : ∀ j, j < n → ∃ a, ok a ∧ RepL (Hall w) [] (en a) ((cs.drop (j * sz)).take sz) := fun j hj => by
    have a0 := hf j hj
    rw [List.getElem?_eq_getElem (by omega), hce] at a0
    exact (he _ _ _ a0).2
  refine ⟨hl', fun j => open Classical in if h : ∃ a, ok a ∧ RepL (Hall w) [] (en a) ((cs.drop (j * sz)).take sz) then h.choose else d0, fun j hj => ?_, ?_⟩
  · simp only
    rw [dif_pos (hel j hj)]
    exact (hel j hj).choose_spec.1
  · have := RepL.arr (H := Hall w) (env := []) (n := n) (sz := sz) (get := fun j => en (open Classical in if h : ∃ a, ok a ∧ RepL (Hall w) [] (en a) ((cs.drop (j * sz)).take sz) then h.choose else d0)) (fun j => (cs.drop (j * sz)).take sz) (fun j hj => by
      rw [dif_pos (hel j hj)]
      exact (hel j hj).choose_spec.2) (fun j hj => by
      rw [List.length_take, List.length_drop, hl']
      have : (j + 1) * sz ≤ n * sz := Nat.mul_le_mul_right _ hj
      rw [Nat.succ_mul] at this
      omega) .nil
    rwa [List.append_nil, flat_chunks n cs hl'] at this
theorem rep_slice {t e : TypeId} {sz : Nat} {α : Type} {en : α → List SV} {ok : α → Prop} (d0 : α) (ht : P.underlying t = some (.slice e)) (hce : P.cellsOf e = sz) (he : Reads enc P w spare held e sz en ok) {v : Value} {d : DataW DH} {ps : List MemPlace} (h : DataW.Trod enc P w 0 spare held t v d ps) (hv : ∃ a len cap, v = .slice a len cap) :
    ∃ l : List α, (∀ a ∈ l, ok a) ∧ Rep (Hall w) [] (.rs l.length sz (fun j => en (l.getD j d0))) v ∧ l.length ≤ 9223372036854775807 := by
  obtain ⟨a0, len0, cap0, rfl⟩ := hv
  obtain ⟨n, h⟩ := h
  rcases DataW.trod_slice ht h with ⟨h0, _⟩ | ⟨a, len, cap, elems, rest, m, _, hcs, _, _, hl, hm, hlen, hel, _⟩
  · simp [Value.cells] at h0
    obtain ⟨rfl, rfl, rfl⟩ := h0
    exact ⟨[], by simp, .rs (fun _ => []) (fun j hj => by simp at hj) (fun j hj => by simp at hj) (Nat.le_refl _) (by omega) (fun j hj => by simp at hj), by simp⟩
  · simp [Value.cells] at hcs
    obtain ⟨rfl, rfl, rfl⟩ := hcs
    have hel' : ∀ j, j < len0 → ∃ (a' : α) (cs : List Value), ok a' ∧ RepL (Hall w) [] (en a') cs ∧ w.cells? 0 (a.add (j * sz)) sz = some cs := fun j hj => by
      have h1 := hel j hj
      rw [hce, List.getElem?_eq_getElem (by omega)] at h1
      cases hc : w.cells? 0 (a.add (j * sz)) sz with
      | none => rw [hc] at h1; simp at h1
      | some cs =>
        rw [hc, Option.bind_some] at h1
        obtain ⟨_, a', h2, h3⟩ := he _ _ _ h1
        exact ⟨a', cs, h2, h3, rfl⟩
    let pick : Nat → α := fun j => open Classical in if h : ∃ (a' : α) (cs : List Value), ok a' ∧ RepL (Hall w) [] (en a') cs ∧ w.cells? 0 (a.add (j * sz)) sz = some cs then h.choose else d0
    have hpick : ∀ j, j < len0 → ∃ cs : List Value, ok (pick j) ∧ RepL (Hall w) [] (en (pick j)) cs ∧ w.cells? 0 (a.add (j * sz)) sz = some cs := fun j hj => by
      have e : pick j = (hel' j hj).choose := dif_pos (hel' j hj)
      rw [e]
      exact (hel' j hj).choose_spec
    have hmx : maxLen = 9223372036854775807 := by unfold maxLen; rfl
    refine ⟨(List.range len0).map pick, fun x hx => ?_, ?_, by simp; omega⟩
    · obtain ⟨j, hj, rfl⟩ := List.mem_map.1 hx
      obtain ⟨cs, h1, _⟩ := hpick j (List.mem_range.1 hj)
      exact h1
    · have hget : ∀ j, j < len0 → ((List.range len0).map pick).getD j d0 = pick j := fun j hj => by
        rw [List.getD_eq_getElem?_getD, List.getElem?_map, List.getElem?_range hj]; rfl
      have hlen' : ((List.range len0).map pick).length = len0 := by simp
      rw [hlen']
      let vals : Nat → List Value := fun j => (w.cells? 0 (a.add (j * sz)) sz).getD []
      have hvals : ∀ j, j < len0 → RepL (Hall w) [] (en (pick j)) (vals j) ∧ w.cells? 0 (a.add (j * sz)) sz = some (vals j) := fun j hj => by
        obtain ⟨cs, _, h2, h3⟩ := hpick j hj
        show RepL _ _ _ ((w.cells? 0 (a.add (j * sz)) sz).getD []) ∧ w.cells? 0 (a.add (j * sz)) sz = some ((w.cells? 0 (a.add (j * sz)) sz).getD [])
        rw [h3]; exact ⟨h2, rfl⟩
      refine .rs vals (fun j hj => ?_) (fun j hj => ?_) hl (by omega) (fun j hj => ⟨a, rfl, fun t u hu => ?_⟩)
      · rw [hget j hj]; exact (hvals j hj).1
      · exact (World.cells?_some (hvals j hj).2).2.1
      · obtain ⟨_, h1, h2⟩ := World.cells?_some (hvals j hj).2
        have ht' : t < sz := by rw [← h1]; exact (List.getElem?_eq_some_iff.1 hu).1
        have := h2 t ht'
        rw [hu] at this
        rw [← add_add']
        exact Hall_cell this
theorem rep_agg {t : TypeId} {sz : Nat} {α : Type} {en : α → List SV} {ok : α → Prop} (he : Reads enc P w spare held t sz en ok) {v : Value} {d : DataW DH} {ps : List MemPlace} (h : DataW.Trod enc P w 0 spare held t v d ps) (hv : ∃ cs, v = .agg cs) : ∃ a, ok a ∧ Rep (Hall w) [] (.agg (en a)) v := by
  obtain ⟨cs, rfl⟩ := hv
  obtain ⟨n, h⟩ := h
  obtain ⟨_, a, h1, h2⟩ := he _ _ _ h
  exact ⟨a, h1, by have := Rep.agg h2; simpa [Value.cells] using this⟩
end
/-- What a law's call leaves of the world. -/
theorem Spec.law {P : Program} {f : FuncId} {args : List SV} {p : Bool} (h : Spec P f args (.v (.bool p))) {w : World} {xs : List Value} (hx : RepA (Hall w) [] args xs) :
    Calls P f xs.toArray w fun e w' => e = .returned (.bool p) ∧ Below w.heap.size w w' := (h.run w (Hall w) xs (Hall_in w) hx).mono fun e w' ⟨x, H', he, hs, hr⟩ => by
  subst he
  cases hr
  exact ⟨rfl, hs.os, hs.tape, hs.output, hs.size, fun k hk => hs.block k hk (fun h => h)⟩
theorem okWide_agg {P : Program} {W : World} {r : Go.Reach} {b : Nat} {t : TypeId} {v : Value} {fs : Array Field} (ht : P.underlying t = some (.struct fs)) (h : Value.okWide P W r b t v) : ∃ cs, v = .agg cs := by
  unfold Value.okWide at h
  rw [ht] at h
  obtain ⟨cs, h1, _⟩ := h
  exact ⟨cs, h1⟩
end Go.Eng
