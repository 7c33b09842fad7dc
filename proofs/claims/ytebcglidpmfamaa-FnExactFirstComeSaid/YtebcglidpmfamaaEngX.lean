/- A part of the proof that the law of this seat answers true for every input, without a condition. -/
import Derived.Test.YtebcglidpmfamaaEngQ
set_option linter.all false
set_option linter.unusedVariables false
set_option linter.unusedSimpArgs false
namespace Go.Eng
open Go

/-! ### A contract that writes some chunks, used by a caller that has more -/
def upN : List Nat → Nat → Nat → Nat
  | [], base, j => base + j
  | i :: _, _, 0 => i
  | _ :: l, base, j + 1 => upN l base j
mutual
def upS (sel : List Nat) (base : Nat) : SV → SV
  | .own j p => .own (upN sel base j) p
  | .mr j lo n sz => .mr (upN sel base j) lo n sz
  | .om j => .om (upN sel base j)
  | .agg cs => .agg (upL sel base cs)
  | .fn f a c => .fn f (upL sel base a) (upL sel base c)
  | .tup vs => .tup (upL sel base vs)
  | x => x
def upL (sel : List Nat) (base : Nat) : List SV → List SV
  | [] => []
  | .arr n sz get :: cs => .arr n sz get :: upL sel base cs
  | c :: cs => upS sel base c :: upL sel base cs
end
def upC (sel : List Nat) (base : Nat) : Ch → Ch
  | .box l => .box (upL sel base l)
  | .row n sz e get => .row n sz e get
  | .dead => .dead
  | .mp g => .mp g
def upO (sel : List Nat) (base : Nat) : List Ch → List Ch
  | [] => []
  | c :: l => upC sel base c :: upO sel base l
def appC : List Ch → List Ch → List Ch
  | [], m => m
  | c :: l, m => c :: appC l m
/-- The caller's chunks behind the call: those that were handed over as the callee left them, and the new ones. -/
def mergeO (sel0 : List Nat) (base : Nat) : List Ch → List Nat → List Ch → List Ch
  | own, [], m => appC own (upO sel0 base m)
  | own, i :: l, c :: m => mergeO sel0 base (setO own i (upC sel0 base c)) l m
  | own, _ :: _, [] => own
mutual
/-- Nothing in it lies in memory that is read alone. -/
def SCX : SV → Prop
  | .rs _ _ _ | .rp _ | .rm _ => False
  | .arr _ _ _ => False
  | .agg cs => SCXL cs
  | .fn _ a c => SCXL a ∧ SCXL c
  | .tup vs => SCXL vs
  | _ => True
def SCXL : List SV → Prop
  | [] => True
  | .arr n _ get :: cs => (∀ j, scalL (get j) = true) ∧ SCXL cs
  | c :: cs => SCX c ∧ SCXL cs
end
def SCXC : Ch → Prop
  | .box l => SCXL l
  | .row _ _ _ get => ∀ j, scalL (get j) = true
  | .dead => True
  | .mp _ => True
def SCXO : List Ch → Prop
  | [] => True
  | c :: l => SCXC c ∧ SCXO l
mutual
/-- What is handed over: chunks that the callee may write by their place among sel; others are read. -/
def lnS (sel : List Nat) (rest : List Ch) : SV → Option (Prop × SV)
  | .own i p => match posN i sel 0 with
    | some j => some (True, .own j p)
    | none => borS rest (.own i p)
  | .mr i lo n sz => match posN i sel 0 with
    | some j => some (True, .mr j lo n sz)
    | none => borS rest (.mr i lo n sz)
  | .om i => match posN i sel 0 with
    | some j => some (True, .om j)
    | none => borS rest (.om i)
  | .agg cs => match lnL sel rest cs with
    | some (q, l) => some (q, .agg l)
    | none => none
  | .fn f a c => match lnL sel rest a with
    | some (q, a') => match lnL sel rest c with
      | some (q', c') => some (q ∧ q', .fn f a' c')
      | none => none
    | none => none
  | .tup vs => match lnL sel rest vs with
    | some (q, l) => some (q, .tup l)
    | none => none
  | x => some (True, x)
def lnL (sel : List Nat) (rest : List Ch) : List SV → Option (Prop × List SV)
  | [] => some (True, [])
  | c :: cs => match lnS sel rest c with
    | some (q, c') => match lnL sel rest cs with
      | some (q', cs') => some (q ∧ q', c' :: cs')
      | none => none
    | none => none
end
section
variable {env : List (Nat × Nat)} {rest : List Ch} {w : World} {H H' : Hp} {sel : List Nat}
mutual
theorem Rep.ln (hi : Inv env rest w H) (hle : HLe H H') (hat : ∀ (i b k : Nat) (c : Ch), env[i]? = some (b, k) → 0 < k → rest[i]? = some c → c ≠ .dead → H' b = w.heap[b]?) {s : SV} {x : Value} {q : Prop} {s' : SV} (hb : lnS sel rest s = some (q, s')) (hq : q) :
    Rep H env s x → Rep H' (pickE env sel) s' x
  | .v x => by simp only [lnS, Option.some.injEq, Prod.mk.injEq] at hb; rw [← hb.2]; exact .v x
  | .b p => by simp only [lnS, Option.some.injEq, Prod.mk.injEq] at hb; rw [← hb.2]; exact .b p
  | .agg h => by
    unfold lnS at hb
    split at hb
    · rename_i q' l hl
      simp only [Option.some.injEq, Prod.mk.injEq] at hb
      obtain ⟨rfl, rfl⟩ := hb
      exact .agg (h.ln hi hle hat hl hq)
    · cases hb
  | .own he hpos => by
    unfold lnS at hb
    split at hb
    · rename_i j hj
      simp only [Option.some.injEq, Prod.mk.injEq] at hb
      rw [← hb.2]; exact .own (posN_env hj he) hpos
    · exact ((Rep.own he hpos).borX hi hle hat hb hq).mono (HLe.refl _) (EnvLe.nil _)
  | .mr0 he => by
    unfold lnS at hb
    split at hb
    · rename_i j hj
      simp only [Option.some.injEq, Prod.mk.injEq] at hb
      rw [← hb.2]; exact .mr0 (posN_env hj he)
    · exact ((Rep.mr0 he).borX hi hle hat hb hq).mono (HLe.refl _) (EnvLe.nil _)
  | .mr he hpos a b c => by
    unfold lnS at hb
    split at hb
    · rename_i j hj
      simp only [Option.some.injEq, Prod.mk.injEq] at hb
      rw [← hb.2]; exact .mr (posN_env hj he) hpos a b c
    · exact ((Rep.mr he hpos a b c).borX hi hle hat hb hq).mono (HLe.refl _) (EnvLe.nil _)
  | .rs vals h1 h2 h3 h5 h4 => by
    simp only [lnS, Option.some.injEq, Prod.mk.injEq] at hb
    rw [← hb.2]
    exact (Rep.rs (env := []) vals h1 h2 h3 h5 h4).mono hle (EnvLe.nil _)
  | .rp h1 h2 => by
    simp only [lnS, Option.some.injEq, Prod.mk.injEq] at hb
    rw [← hb.2]
    exact (Rep.rp (env := []) h1 h2).mono hle (EnvLe.nil _)
  | .fn h1 h2 => by
    unfold lnS at hb
    split at hb
    · rename_i q' a' hl
      split at hb
      · rename_i q'' c' hl'
        simp only [Option.some.injEq, Prod.mk.injEq] at hb
        obtain ⟨rfl, rfl⟩ := hb
        exact .fn (h1.ln hi hle hat hl hq.1) (h2.ln hi hle hat hl' hq.2)
      · cases hb
    · cases hb
  | .tup h => by
    unfold lnS at hb
    split at hb
    · rename_i q' l hl
      simp only [Option.some.injEq, Prod.mk.injEq] at hb
      obtain ⟨rfl, rfl⟩ := hb
      exact .tup (h.ln hi hle hat hl hq)
    · cases hb
  | .emp A => by simp only [lnS, Option.some.injEq, Prod.mk.injEq] at hb; rw [← hb.2]; exact .emp A
  | .junk x => by simp only [lnS, Option.some.injEq, Prod.mk.injEq] at hb; rw [← hb.2]; exact .junk x
  | .nb p h => by simp only [lnS, Option.some.injEq, Prod.mk.injEq] at hb; rw [← hb.2]; exact .nb p h
  | .rm h m => by
    simp only [lnS, Option.some.injEq, Prod.mk.injEq] at hb
    rw [← hb.2]
    exact .rm (hle _ _ h) m
  | .om he hpos => by
    unfold lnS at hb
    split at hb
    · rename_i j hj
      simp only [Option.some.injEq, Prod.mk.injEq] at hb
      rw [← hb.2]; exact .om (posN_env hj he) hpos
    · exact ((Rep.om he hpos).borX hi hle hat hb hq).mono (HLe.refl _) (EnvLe.nil _)
theorem RepL.ln (hi : Inv env rest w H) (hle : HLe H H') (hat : ∀ (i b k : Nat) (c : Ch), env[i]? = some (b, k) → 0 < k → rest[i]? = some c → c ≠ .dead → H' b = w.heap[b]?) {s : List SV} {x : List Value} {q : Prop} {s' : List SV} (hb : lnL sel rest s = some (q, s')) (hq : q) :
    RepL H env s x → RepL H' (pickE env sel) s' x
  | .nil => by simp only [lnL, Option.some.injEq, Prod.mk.injEq] at hb; rw [← hb.2]; exact .nil
  | .cons h o r => by
    unfold lnL at hb
    split at hb
    · rename_i q1 c' h1
      split at hb
      · rename_i q2 cs' h2
        simp only [Option.some.injEq, Prod.mk.injEq] at hb
        obtain ⟨rfl, rfl⟩ := hb
        exact .cons (h.ln hi hle hat h1 hq.1) o (r.ln hi hle hat h2 hq.2)
      · cases hb
    · cases hb
  | .arr vals h1 h2 r => by
    unfold lnL at hb
    simp only [lnS] at hb
    split at hb
    · rename_i q2 cs' h3
      simp only [Option.some.injEq, Prod.mk.injEq] at hb
      obtain ⟨rfl, rfl⟩ := hb
      exact .arr vals (fun j hj => (h1 j hj).mono hle (EnvLe.refl _)) h2 (r.ln hi hle hat h3 hq.2)
    · cases hb
theorem RepA.ln (hi : Inv env rest w H) (hle : HLe H H') (hat : ∀ (i b k : Nat) (c : Ch), env[i]? = some (b, k) → 0 < k → rest[i]? = some c → c ≠ .dead → H' b = w.heap[b]?) {s : List SV} {x : List Value} {q : Prop} {s' : List SV} (hb : lnL sel rest s = some (q, s')) (hq : q) :
    RepA H env s x → RepA H' (pickE env sel) s' x
  | .nil => by simp only [lnL, Option.some.injEq, Prod.mk.injEq] at hb; rw [← hb.2]; exact .nil
  | .cons h r => by
    unfold lnL at hb
    split at hb
    · rename_i q1 c' h1
      split at hb
      · rename_i q2 cs' h2
        simp only [Option.some.injEq, Prod.mk.injEq] at hb
        obtain ⟨rfl, rfl⟩ := hb
        exact .cons (h.ln hi hle hat h1 hq.1) (r.ln hi hle hat h2 hq.2)
      · cases hb
    · cases hb
end
end
section
variable {H H' : Hp} {env env' : List (Nat × Nat)} {sel : List Nat} {base : Nat}
mutual
theorem Rep.up (hE : ∀ (j : Nat) x, env[j]? = some x → env'[upN sel base j]? = some x) {s : SV} {x : Value} (hh : HLe H H' ∨ SCX s) : Rep H env s x → Rep H' env' (upS sel base s) x
  | .v x => by simp only [upS]; exact .v x
  | .b p => by simp only [upS]; exact .b p
  | .agg h => by simp only [upS]; exact .agg (h.up hE (hh.imp id fun h => by simpa [SCX] using h))
  | .own he hp => by simp only [upS]; exact .own (hE _ _ he) hp
  | .mr0 he => by simp only [upS]; exact .mr0 (hE _ _ he)
  | .mr he hp a b c => by simp only [upS]; exact .mr (hE _ _ he) hp a b c
  | .rs vals h1 h2 h3 h5 h4 => by
    simp only [upS]
    rcases hh with hh | hh
    · exact (Rep.rs (env := []) vals h1 h2 h3 h5 h4).mono hh (EnvLe.nil _)
    · exact (by simpa [SCX] using hh : False).elim
  | .rp h1 h2 => by
    simp only [upS]
    rcases hh with hh | hh
    · exact (Rep.rp (env := []) h1 h2).mono hh (EnvLe.nil _)
    · exact (by simpa [SCX] using hh : False).elim
  | .fn h1 h2 => by
    simp only [upS]
    exact .fn (h1.up hE (hh.imp id fun h => by simp only [SCX] at h; exact h.1)) (h2.up hE (hh.imp id fun h => by simp only [SCX] at h; exact h.2))
  | .tup h => by simp only [upS]; exact .tup (h.up hE (hh.imp id fun h => by simpa [SCX] using h))
  | .emp A => by simp only [upS]; exact .emp A
  | .junk x => by simp only [upS]; exact .junk x
  | .nb p h => by simp only [upS]; exact .nb p h
  | .om he hp => by simp only [upS]; exact .om (hE _ _ he) hp
  | .rm h m => by
    simp only [upS]
    rcases hh with hh | hh
    · exact .rm (hh _ _ h) m
    · exact (by simpa [SCX] using hh : False).elim
theorem RepL.up (hE : ∀ (j : Nat) x, env[j]? = some x → env'[upN sel base j]? = some x) {s : List SV} {x : List Value} (hh : HLe H H' ∨ SCXL s) : RepL H env s x → RepL H' env' (upL sel base s) x
  | .nil => by simp only [upL]; exact .nil
  | .cons (s := s) h o r => by
    have hne : ∀ n sz get, s ≠ .arr n sz get := fun n sz get e => by subst e; cases h
    have h1 : HLe H H' ∨ SCX s := hh.imp id fun hc => by
      unfold SCXL at hc
      split at hc
      · cases ‹_ = _›
      · rename_i e; injection e with e1 e2; exact absurd e1 (hne _ _ _)
      · rename_i e; injection e with e1 e2; subst e1; exact hc.1
    have h2 := r.up hE (hh.imp id fun hc => by
      unfold SCXL at hc
      split at hc
      · cases ‹_ = _›
      · rename_i e; injection e with e1 e2; exact absurd e1 (hne _ _ _)
      · rename_i e; injection e with e1 e2; subst e2; exact hc.2)
    cases s <;> first | exact absurd rfl (hne _ _ _) | (rw [upL]; exact .cons (h.up hE h1) o h2; all_goals (intro _ _ _ e; cases e))
  | .arr vals h1 h2 r => by
    rw [upL]
    rcases hh with hh | hh
    · exact .arr vals (fun j hj => (h1 j hj).mono hh (EnvLe.refl _)) h2 (r.up hE (.inl hh))
    · unfold SCXL at hh
      exact .arr vals (fun j hj => (h1 j hj).scal (hh.1 j)) h2 (r.up hE (.inr hh.2))
theorem RepA.up (hE : ∀ (j : Nat) x, env[j]? = some x → env'[upN sel base j]? = some x) {s : List SV} {x : List Value} (hh : HLe H H' ∨ SCXL s) : RepA H env s x → RepA H' env' (upL sel base s) x
  | .nil => by simp only [upL]; exact .nil
  | .cons (s := s) h r => by
    have hne : ∀ n sz get, s ≠ .arr n sz get := fun n sz get e => by subst e; cases h
    have h1 : HLe H H' ∨ SCX s := hh.imp id fun hc => by
      unfold SCXL at hc
      split at hc
      · cases ‹_ = _›
      · rename_i e; injection e with e1 e2; exact absurd e1 (hne _ _ _)
      · rename_i e; injection e with e1 e2; subst e1; exact hc.1
    have h2 := r.up hE (hh.imp id fun hc => by
      unfold SCXL at hc
      split at hc
      · cases ‹_ = _›
      · rename_i e; injection e with e1 e2; exact absurd e1 (hne _ _ _)
      · rename_i e; injection e with e1 e2; subst e2; exact hc.2)
    cases s <;> first | exact absurd rfl (hne _ _ _) | (rw [upL]; exact .cons (h.up hE h1) h2; all_goals (intro _ _ _ e; cases e))
end
theorem ChOK.up (hE : ∀ (j : Nat) x, env[j]? = some x → env'[upN sel base j]? = some x) {w : World} {b k : Nat} {c : Ch} (hh : HLe H H' ∨ SCXC c) : ChOK H env w b k c → ChOK H' env' w b k (upC sel base c)
  | .box h1 h2 => .box h1 (h2.up hE hh)
  | .virt h => .virt h
  | .row vals h0 h1 h2 h6 h3 h4 h5 h7 => .row vals h0 h1 h2 h6 h3 (fun j hj => by
      rcases hh with hh | hh
      · exact (h4 j hj).mono hh (EnvLe.refl _)
      · exact (h4 j hj).scal (hh j)) h5 h7
  | .dead => .dead
  | .mp h1 h2 => .mp h1 h2
end
theorem appC_eq (l m : List Ch) : appC l m = l ++ m := by induction l with | nil => rfl | cons x l ih => simp [appC, ih]
theorem upO_get (sel : List Nat) (base : Nat) : ∀ (l : List Ch) (j : Nat), (upO sel base l)[j]? = (l[j]?).map (upC sel base)
  | [], j => rfl
  | c :: l, 0 => rfl
  | c :: l, j + 1 => by simpa [upO] using upO_get sel base l j
theorem upO_len (sel : List Nat) (base : Nat) : ∀ (l : List Ch), (upO sel base l).length = l.length
  | [] => rfl
  | c :: l => by simp [upO, upO_len sel base l]
theorem SCXO_get : ∀ {l : List Ch} {j : Nat} {c : Ch}, SCXO l → l[j]? = some c → SCXC c
  | [], j, c, _, h => by simp at h
  | x :: l, 0, c, hs, h => by simp at h; subst h; exact hs.1
  | x :: l, j + 1, c, hs, h => SCXO_get hs.2 (by simpa using h)
theorem upN_lt {l : List Nat} {base j i : Nat} (h : l[j]? = some i) : upN l base j = i := by
  induction l generalizing j with
  | nil => simp at h
  | cons x l ih => cases j with
    | zero => simpa [upN] using h
    | succ j => simpa [upN] using ih (by simpa using h)
theorem upN_ge {l : List Nat} {base j : Nat} (h : l.length ≤ j) : upN l base j = base + (j - l.length) := by
  induction l generalizing j with
  | nil => simp [upN]
  | cons x l ih => cases j with
    | zero => simp at h
    | succ j => simp only [upN, List.length_cons]; rw [ih (by simpa using h)]; simp at h ⊢
/-- Where a chunk behind the call comes from. -/
theorem mergeO_get (sel0 : List Nat) (base : Nat) : ∀ (sel : List Nat) (own : List Ch) (m : List Ch) (i : Nat) (c : Ch), sel.length ≤ m.length → sel.Nodup → (∀ x ∈ sel, x < own.length) → (mergeO sel0 base own sel m)[i]? = some c →
    (i < own.length ∧ i ∉ sel ∧ own[i]? = some c) ∨ (∃ j c', m[j]? = some c' ∧ c = upC sel0 base c' ∧ i = upN sel own.length j)
  | [], own, m, i, c, _, _, _, h => by
    simp only [mergeO, appC_eq] at h
    rw [List.getElem?_append] at h
    split at h
    · rename_i hi; exact .inl ⟨hi, by simp, h⟩
    · rename_i hi
      rw [upO_get] at h
      cases hm : m[i - own.length]? with
      | none => rw [hm] at h; cases h
      | some c' =>
        rw [hm] at h; simp only [Option.map_some, Option.some.injEq] at h
        exact .inr ⟨i - own.length, c', hm, h.symm, by simp only [upN]; omega⟩
  | x :: l, own, [], i, c, hl, _, _, h => by simp at hl
  | x :: l, own, d :: m, i, c, hl, hn, hlt, h => by
    simp only [mergeO] at h
    have hn' := List.nodup_cons.1 hn
    rcases mergeO_get sel0 base l (setO own x (upC sel0 base d)) m i c (by simpa using hl) hn'.2 (fun y hy => by rw [setO_len]; exact hlt y (by simp [hy])) h with ⟨h1, h2, h3⟩ | ⟨j, c', h1, h2, h3⟩
    · rw [setO_len] at h1
      rw [setO_get] at h3
      split at h3
      · rename_i hx
        obtain ⟨rfl, _⟩ := hx
        injection h3 with h3
        exact .inr ⟨0, d, rfl, h3.symm, by simp [upN]⟩
      · rename_i hx
        refine .inl ⟨h1, ?_, h3⟩
        rw [List.mem_cons]
        rintro (e | e)
        · exact hx ⟨e.symm, h1⟩
        · exact h2 e
    · rw [setO_len] at h3
      exact .inr ⟨j + 1, c', by simpa using h1, h2, by simpa [upN] using h3⟩
theorem mergeO_len (sel0 : List Nat) (base : Nat) : ∀ (sel : List Nat) (own : List Ch) (m : List Ch), sel.length ≤ m.length → (mergeO sel0 base own sel m).length = own.length + (m.length - sel.length)
  | [], own, m, _ => by simp [mergeO, appC_eq, upO_len]
  | x :: l, own, [], h => by simp at h
  | x :: l, own, d :: m, h => by
    simp only [mergeO]
    rw [mergeO_len sel0 base l _ m (by simpa using h), setO_len]
    simp
theorem Inv.kills0 {env : List (Nat × Nat)} {own : List Ch} {w : World} {H : Hp} (h : Inv env own w H) : ∀ (l : List Nat), Inv env (killO own l) w H
  | [] => h
  | i :: l => (h.kills0 l).kill i
theorem Inv.hup {env : List (Nat × Nat)} {own : List Ch} {w : World} {H H' : Hp} (h : Inv env own w H) (hle : HLe H H') (hin : HIn H' w) (hs : ∀ (i b k : Nat) (c : Ch), env[i]? = some (b, k) → 0 < k → own[i]? = some c → c ≠ .dead → H' b = none) : Inv env own w H' where
  inn := hin
  len := h.len
  nodup := h.nodup
  lt := h.lt
  bx := h.bx
  mx := h.mx
  ch := fun i c b k hc he => (h.ch i c b k hc he).move hle (EnvLe.refl _) (fun _ => rfl) (fun l e => h.bx i l b k (e ▸ hc) he) (fun l e => h.mx i l b k (e ▸ hc) he)
  sep := hs
open Classical in
noncomputable def lendR (env : List (Nat × Nat)) (rest : List Ch) (w : World) (H : Hp) : Hp := fun b => if ∃ (i k : Nat) (c : Ch), env[i]? = some (b, k) ∧ 0 < k ∧ rest[i]? = some c ∧ c ≠ .dead then w.heap[b]? else H b
open Classical in
noncomputable def dropH (H0 H1 H2 : Hp) : Hp := fun b => if H1 b ≠ none ∧ H0 b = none then none else H2 b
theorem pickE_get {env : List (Nat × Nat)} {sel : List Nat} {j i : Nat} {x : Nat × Nat} (h : sel[j]? = some i) (he : env[i]? = some x) : (pickE env sel)[j]? = some x := by
  unfold pickE
  rw [List.getElem?_map, h, Option.map_some, List.getD_eq_getElem?_getD, he]; rfl
theorem pickE_inv {env : List (Nat × Nat)} {sel : List Nat} {j : Nat} {x : Nat × Nat} (hlt : ∀ i ∈ sel, i < env.length) (h : (pickE env sel)[j]? = some x) : ∃ i, sel[j]? = some i ∧ env[i]? = some x := by
  unfold pickE at h
  rw [List.getElem?_map] at h
  cases hj : sel[j]? with
  | none => rw [hj] at h; cases h
  | some i =>
    have hi := hlt i (List.mem_of_getElem? hj)
    rw [hj, Option.map_some, List.getD_eq_getElem?_getD, List.getElem?_eq_getElem hi] at h
    simp only [Option.getD_some, Option.some.injEq] at h
    exact ⟨i, rfl, by rw [List.getElem?_eq_getElem hi, h]⟩
theorem CallOkE.core {P : Program} {f : FuncId} {own own0 own1 : List Ch} {args args0 : List SV} {r0 : SV} (h : CallOkE P own0 f args0 r0 own1) {sel : List Nat} (hl : allLive own sel = true) (hn : noDup sel = true) (hlt : allLt (lenO own) sel = true)
    (h0 : leO (renO sel own sel) own0) (hlen : sel.length ≤ own1.length)
    (Hl : List (Nat × Nat) → World → Hp → Hp)
    (hle : ∀ {env w H}, Inv env own w H → HLe H (Hl env w H)) (hin : ∀ {env w H}, Inv env own w H → HIn (Hl env w H) w)
    (hdiff : ∀ {env w H} {b : Nat}, Inv env own w H → Hl env w H b ≠ H b → ∃ (i k : Nat) (c : Ch), env[i]? = some (b, k) ∧ 0 < k ∧ (killO own sel)[i]? = some c ∧ c ≠ .dead)
    (hargs : ∀ {env w H xs}, Inv env own w H → RepA H env args xs → RepA (Hl env w H) (pickE env sel) args0 xs)
    (hsc : (∀ env w H, Hl env w H = H) ∨ (SCX r0 ∧ SCXO own1)) :
    CallOkE P own f args (upS sel (lenO own) r0) (mergeO sel (lenO own) own sel own1) := by
  refine ⟨h.fn, fun env w H xs hi hx => ?_⟩
  have hnd := noDup_nodup hn
  have hlt' : ∀ i ∈ sel, i < env.length := fun i hi' => by
    have := allLt_mem hlt i hi'
    rw [lenO_eq, hi.len] at this; exact this
  have hllo : lenO own = env.length := by rw [lenO_eq, hi.len]
  generalize hHl : Hl env w H = HL
  have hle := hle hi; have hin := hin hi
  have hdiff : ∀ {b : Nat}, HL b ≠ H b → ∃ (i k : Nat) (c : Ch), env[i]? = some (b, k) ∧ 0 < k ∧ (killO own sel)[i]? = some c ∧ c ≠ .dead := fun {b} hb => hdiff hi (by rw [hHl]; exact hb)
  have hargs := hargs hi hx
  rw [hHl] at hle hin hargs
  have hi0 : Inv (pickE env sel) own0 w H := (hi.pick hn hlt).le h0
  have hi1 : Inv (pickE env sel) own0 w HL := hi0.hup hle hin fun j b k c hj hk hc hd => by
    have hs := hi0.sep j b k c hj hk hc hd
    by_cases e : HL b = H b
    · rw [e]; exact hs
    · obtain ⟨i, k', c', h1, h2, h3, h4⟩ := hdiff e
      obtain ⟨i', h5, h6⟩ := pickE_inv hlt' hj
      have hmem := List.mem_of_getElem? h5
      have hlive := allLive_get hl hmem
      obtain ⟨g1, g2⟩ := killO_get h3 h4
      have := hi.nodup i i' b k' k c' _ h1 h6 h2 hk g1 (getO_some rfl hlive) h4 hlive
      subst this
      exact absurd hmem g2
  refine (h.run _ w HL xs hi1 hargs).mono ?_
  rintro e w' ⟨x, env0, Hc, rfl, k1, k2, k3, k4, k5⟩
  have hlen0 : (pickE env sel).length = sel.length := by simp [pickE]
  have hl1 : sel.length ≤ env0.length := by rw [← k1.len]; exact hlen
  -- the callee's chunks in the caller's list
  have hE : ∀ (j : Nat) x, env0[j]? = some x → (env ++ env0.drop sel.length)[upN sel (lenO own) j]? = some x := fun j x hj => by
    by_cases hjs : j < sel.length
    · obtain ⟨i, hi'⟩ : ∃ i, sel[j]? = some i := ⟨_, List.getElem?_eq_getElem hjs⟩
      rw [upN_lt hi']
      have hilt := hlt' i (List.mem_of_getElem? hi')
      obtain ⟨y, hy⟩ : ∃ y, env[i]? = some y := ⟨_, List.getElem?_eq_getElem hilt⟩
      have := k3 j y (pickE_get hi' hy)
      rw [hj] at this; injection this with this; subst this
      rw [List.getElem?_append_left hilt]; exact hy
    · rw [upN_ge (by omega), hllo, List.getElem?_append_right (by omega), List.getElem?_drop]
      rw [show sel.length + (env.length + (j - sel.length) - env.length) = j by omega]; exact hj
  have hinE0 : ∀ b, inE (pickE env sel) b → inE env b := fun b hb => inE_pick hb
  have hup : ∀ b, inE env0 b → inE env b ∨ w.heap.size ≤ b := fun b hb => (k4 b hb).imp (hinE0 b) id
  -- unselected live chunks lie apart from what the callee may write
  have hapart : ∀ {i b k : Nat} {c : Ch}, env[i]? = some (b, k) → 0 < k → own[i]? = some c → c ≠ .dead → i ∉ sel → ¬ inE (pickE env sel) b ∧ ¬ inE env0 b := fun {i b k c} h1 h2 h3 h4 h5 => by
    have hA : ¬ inE (pickE env sel) b := by
      rintro ⟨j, k', hj, hk'⟩
      obtain ⟨i', h6, h7⟩ := pickE_inv hlt' hj
      have hmem := List.mem_of_getElem? h6
      have hlive := allLive_get hl hmem
      have := hi.nodup i i' b k k' c _ h1 h7 h2 hk' h3 (getO_some rfl hlive) h4 hlive
      subst this
      exact h5 hmem
    refine ⟨hA, fun hb => ?_⟩
    rcases k4 b hb with h6 | h6
    · exact hA h6
    · have := hi.lt i b k h1 h2; omega
  let H2 := dropH H HL Hc
  have hH2 : ∀ b, H2 b = none ∨ (H2 b = Hc b ∧ (HL b = none ∨ H b ≠ none)) := fun b => by
    show dropH H HL Hc b = none ∨ (dropH H HL Hc b = Hc b ∧ _)
    unfold dropH
    split
    · exact .inl rfl
    · rename_i hn
      refine .inr ⟨rfl, ?_⟩
      by_cases e : HL b = none
      · exact .inl e
      · exact .inr fun e2 => hn ⟨e, e2⟩
  have hkeep : ∀ b, H b ≠ none → H2 b = Hc b := fun b hb => by
    show dropH H HL Hc b = _
    unfold dropH
    rw [if_neg (fun hh => hb hh.2)]
  have hstep : Step (inE env) w H w' H2 := ⟨k2.os, k2.tape, k2.output, k2.size, fun k hk hM => k2.block k hk fun hb => hM (hinE0 k hb), fun b o hb => by
      rw [hkeep b (by simp [hb])]; exact k2.le b o (hle b o hb), fun b o hb => by
      rcases hH2 b with e | ⟨e, _⟩
      · rw [e] at hb; cases hb
      · rw [e] at hb; exact k1.inn b o hb, fun b h1 h2 => by
      rcases hH2 b with e | ⟨e, e2⟩
      · exact absurd e h2
      · rw [e] at h2
        rcases e2 with e2 | e2
        · exact (k2.new b e2 h2).imp id (hinE0 b)
        · exact absurd h1 e2⟩
  have hhr : HLe Hc H2 ∨ SCX r0 := hsc.imp (fun e b o hb => by
    have e' : HL = H := by rw [← hHl]; exact e env w H
    show dropH H HL Hc b = _
    unfold dropH
    rw [if_neg (fun hh => by rw [e'] at hh; exact hh.1 hh.2)]; exact hb) (·.1)
  have hho : ∀ {j : Nat} {c : Ch}, own1[j]? = some c → HLe Hc H2 ∨ SCXC c := fun {j c} hc => hsc.imp (fun e b o hb => by
    have e' : HL = H := by rw [← hHl]; exact e env w H
    show dropH H HL Hc b = _
    unfold dropH
    rw [if_neg (fun hh => by rw [e'] at hh; exact hh.1 hh.2)]; exact hb) (fun hh => SCXO_get hh.2 hc)
  have hlto : ∀ x ∈ sel, x < own.length := fun x hx => by have := allLt_mem hlt x hx; rwa [lenO_eq] at this
  -- where an entry of the caller's new list comes from
  have src : ∀ {i b k : Nat} {c : Ch}, (env ++ env0.drop sel.length)[i]? = some (b, k) → (mergeO sel (lenO own) own sel own1)[i]? = some c →
      (i ∉ sel ∧ env[i]? = some (b, k) ∧ own[i]? = some c) ∨ (∃ j c', own1[j]? = some c' ∧ c = upC sel (lenO own) c' ∧ i = upN sel (lenO own) j ∧ env0[j]? = some (b, k)) := fun {i b k c} h1 h2 => by
    rcases mergeO_get sel (lenO own) sel own own1 i c hlen hnd hlto h2 with ⟨g1, g2, g3⟩ | ⟨j, c', g1, g2, g3⟩
    · refine .inl ⟨g2, ?_, g3⟩
      rw [List.getElem?_append_left (by rw [← hi.len]; exact g1)] at h1; exact h1
    · rw [← lenO_eq] at g3
      refine .inr ⟨j, c', g1, g2, g3, ?_⟩
      have hj : j < env0.length := by rw [← k1.len]; exact (List.getElem?_eq_some_iff.1 g1).1
      have h3 := hE j _ (List.getElem?_eq_getElem hj)
      rw [← g3, h1] at h3
      rw [List.getElem?_eq_getElem hj]; exact h3.symm
  refine ⟨x, env ++ env0.drop sel.length, H2, rfl, ?_, hstep, EnvLe.append _ _, fun b hb => ?_, k5.up hE hhr⟩
  · constructor
    · exact hstep.inn
    · rw [mergeO_len _ _ _ _ _ hlen, List.length_append, List.length_drop, hi.len, k1.len]
    · intro i j b a1 a2 c1 c2 h1 h2 p1 p2 o1 o2 d1 d2
      rcases src h1 o1 with ⟨s1, s2, s3⟩ | ⟨j1, c1', s1, s2, s3, s4⟩ <;> rcases src h2 o2 with ⟨t1, t2, t3⟩ | ⟨j2, c2', t1, t2, t3, t4⟩
      · exact hi.nodup i j b a1 a2 c1 c2 s2 t2 p1 p2 s3 t3 d1 d2
      · exact absurd ⟨j2, a2, t4, p2⟩ (hapart s2 p1 s3 d1 s1).2
      · exact absurd ⟨j1, a1, s4, p1⟩ (hapart t2 p2 t3 d2 t1).2
      · subst s2; subst t2
        have d1' : c1' ≠ .dead := fun e => by subst e; exact d1 rfl
        have d2' : c2' ≠ .dead := fun e => by subst e; exact d2 rfl
        have := k1.nodup j1 j2 b a1 a2 _ _ s4 t4 p1 p2 s1 t1 d1' d2'
        subst this
        rw [s3, t3]
    · intro i b k h1 p1
      rw [List.getElem?_append] at h1
      split at h1
      · exact Nat.lt_of_lt_of_le (hi.lt i b k h1 p1) k2.size
      · rw [List.getElem?_drop] at h1
        exact k1.lt _ b k h1 p1
    · intro i c b k o1 h1
      rcases src h1 o1 with ⟨s1, s2, s3⟩ | ⟨j1, c1', s1, s2, s3, s4⟩
      · by_cases hd : c = .dead
        · rw [hd]; exact .dead
        exact (hi.ch i c b k s3 s2).move hstep.le (EnvLe.append _ _) (fun hk => k2.block b (hi.lt i b k s2 hk) (hapart s2 hk s3 hd s1).1) (fun l e => hi.bx i l b k (e ▸ s3) s2) (fun l e => hi.mx i l b k (e ▸ s3) s2)
      · rw [s2]
        exact (k1.ch j1 c1' b k s1 s4).up hE (hho s1)
    · intro i l b k o1 h1
      rcases src h1 o1 with ⟨s1, s2, s3⟩ | ⟨j1, c1', s1, s2, s3, s4⟩
      · exact hi.bx i l b k s3 s2
      · cases c1' with
        | box l' => exact k1.bx j1 l' b k s1 s4
        | row => cases s2
        | dead => cases s2
        | mp => cases s2
    · intro i l b k o1 h1
      rcases src h1 o1 with ⟨s1, s2, s3⟩ | ⟨j1, c1', s1, s2, s3, s4⟩
      · exact hi.mx i l b k s3 s2
      · cases c1' with
        | mp l' => exact k1.mx j1 l' b k s1 s4
        | row => cases s2
        | dead => cases s2
        | box => cases s2
    · intro i b k c h1 p1 o1 hd
      rcases src h1 o1 with ⟨s1, s2, s3⟩ | ⟨j1, c1', s1, s2, s3, s4⟩
      · have h3 := hi.sep i b k c s2 p1 s3 hd
        rcases hH2 b with e | ⟨e, e2⟩
        · exact e
        · cases hc : Hc b with
          | none => rw [e, hc]
          | some o =>
            exfalso
            rcases e2 with e2 | e2
            · rcases k2.new b e2 (by simp [hc]) with h4 | h4
              · have := hi.lt i b k s2 p1; omega
              · exact (hapart s2 p1 s3 hd s1).1 h4
            · exact e2 h3
      · subst s2
        have h3 := k1.sep j1 b k c1' s4 p1 s1 (fun e => by subst e; exact hd rfl)
        rcases hH2 b with e | ⟨e, _⟩
        · exact e
        · rw [e, h3]
  · obtain ⟨i, k, h1, h2⟩ := hb
    rw [List.getElem?_append] at h1
    split at h1
    · exact .inl ⟨i, k, h1, h2⟩
    · rw [List.getElem?_drop] at h1
      exact hup b ⟨_, k, h1, h2⟩
def lenN : List Nat → Nat
  | [] => 0
  | _ :: l => lenN l + 1
theorem lenN_eq (l : List Nat) : lenN l = l.length := by induction l with | nil => rfl | cons x l ih => simp [lenN, ih]
/-- A contract used by a caller that has more chunks; nothing is read of the others. -/
theorem CallOkE.sub {P : Program} {f : FuncId} {own own0 own1 : List Ch} {args args0 : List SV} {r0 : SV} (sel : List Nat) (h : CallOkE P own0 f args0 r0 own1) (hl : allLive own sel = true) (hn : noDup sel = true) (hlt : allLt (lenO own) sel = true) (hlen : Nat.ble (lenN sel) (lenO own1) = true)
    (h0 : leO (renO sel own sel) own0) (ha : ALe (renL sel args) args0) : CallOkE P own f args (upS sel (lenO own) r0) (mergeO sel (lenO own) own sel own1) :=
  h.core hl hn hlt h0 (by have := Nat.le_of_ble_eq_true hlen; rwa [lenN_eq, lenO_eq] at this) (fun _ _ H => H) (fun _ => HLe.refl _) (fun hi => hi.inn) (fun _ hb => absurd rfl hb) (fun hi hx => (hx.ren).le ha) (.inl fun _ _ _ => rfl)
/-- A contract used by a caller that has more chunks; others than sel may be read. -/
theorem CallOkE.lend {P : Program} {f : FuncId} {own own0 own1 : List Ch} {args args0 args' : List SV} {r0 : SV} {q : Prop} (sel : List Nat) (h : CallOkE P own0 f args0 r0 own1) (hl : allLive own sel = true) (hn : noDup sel = true) (hlt : allLt (lenO own) sel = true) (hlen : Nat.ble (lenN sel) (lenO own1) = true)
    (ha : lnL sel (killO own sel) args = some (q, args')) (h0 : leO (renO sel own sel) own0) (hq : q) (ha' : ALe args' args0) (hsc : SCX r0 ∧ SCXO own1) : CallOkE P own f args (upS sel (lenO own) r0) (mergeO sel (lenO own) own sel own1) :=
  h.core hl hn hlt h0 (by have := Nat.le_of_ble_eq_true hlen; rwa [lenN_eq, lenO_eq] at this) (fun env w H => lendR env (killO own sel) w H)
    (fun {env w H} hi b o hb => by
      unfold lendR
      split
      · exact hi.inn b o hb
      · exact hb)
    (fun {env w H} hi b o hb => by
      unfold lendR at hb
      split at hb
      · exact hb
      · exact hi.inn b o hb)
    (fun {env w H b} hi hb => by
      unfold lendR at hb
      split at hb
      · rename_i hex; exact hex
      · exact absurd rfl hb)
    (fun {env w H xs} hi hx => (hx.ln (hi.kills0 sel) (fun b o hb => by
      unfold lendR
      split
      · exact hi.inn b o hb
      · exact hb) (fun i b k c h1 h2 h3 h4 => by
      unfold lendR
      rw [if_pos ⟨i, k, c, h1, h2, h3, h4⟩]) ha hq).le ha') (.inr hsc)
/-- What a function makes, sealed. -/
theorem Spec.ofE {P : Program} {f : FuncId} {args : List SV} {r r' : SV} {own1 : List Ch} {q : Prop} (h : CallOkE P [] f args r own1) (hb : borS own1 r = some (q, r')) (hq : q) : Spec P f args r' := by
  refine ⟨h.fn, fun w H xs hi hx => (h.run [] w H xs (Inv.nil hi) hx).mono ?_⟩
  rintro e w' ⟨x, env', H', rfl, k1, k2, k3, k4, k5⟩
  exact ⟨x, lend env' w' H', rfl, Inv.shut k2 k4, k5.bor k1 hb hq⟩
mutual
theorem renS_closed {ren : List Nat} : ∀ {s : SV}, closedS s = true → renS ren s = s
  | .v _, _ => by simp only [renS]
  | .b _, _ => by simp only [renS]
  | .agg cs, h => by simp only [renS]; rw [renL_closed (by simpa [closedS] using h)]
  | .arr _ _ _, _ => by simp only [renS]
  | .own _ _, h => by simp [closedS] at h
  | .mr _ _ _ _, h => by simp [closedS] at h
  | .rs _ _ _, _ => by simp only [renS]
  | .rp _, _ => by simp only [renS]
  | .fn _ a c, h => by
    simp only [closedS, Bool.and_eq_true] at h
    simp only [renS]; rw [renL_closed h.1, renL_closed h.2]
  | .tup vs, h => by simp only [renS]; rw [renL_closed (by simpa [closedS] using h)]
  | .emp, _ => by simp only [renS]
  | .junk, h => by simp [closedS] at h
  | .nb _, _ => by simp only [renS]
  | .om _, h => by simp [closedS] at h
  | .rm _, _ => by simp only [renS]
theorem renL_closed {ren : List Nat} : ∀ {s : List SV}, closedL s = true → renL ren s = s
  | [], _ => by simp only [renL]
  | c :: cs, h => by
    simp only [closedL, Bool.and_eq_true] at h
    by_cases hc : ∃ n sz g, c = .arr n sz g
    · obtain ⟨n, sz, g, rfl⟩ := hc
      simp only [renL]; rw [renL_closed h.2]
    · rw [renL, renS_closed h.1, renL_closed h.2]
      intro n sz g e; exact hc ⟨n, sz, g, e⟩
end
theorem SLe.ren {ren : List Nat} {s : SV} (h : closedS s = true) : SLe (renS ren s) s := SLe.of_eq (renS_closed h)
theorem closed_fn {f : Fn} {cap : List SV} (hc : closedL cap = true) : closedS (.fn f [] cap) = true := by simp only [closedS, closedL, hc, Bool.and_self]
theorem closed_two {x y : SV} (hx : closedS x = true) (hy : closedS y = true) : closedL [x, y] = true := by simp only [closedL, hx, hy, Bool.and_self]
theorem closed_three {x y z : SV} (hx : closedS x = true) (hy : closedS y = true) (hz : closedS z = true) : closedL [x, y, z] = true := by simp only [closedL, hx, hy, hz, Bool.and_self]
end Go.Eng
