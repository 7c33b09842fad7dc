/- A part of the proof that the law of this seat answers true for every input, without a condition. -/
import Derived.Test.YtebcglidpmfamaaEngC
set_option linter.all false
set_option linter.unusedVariables false
namespace Go.Eng
open Go

/-! ### Calls -/
structure FnOK (P : Program) (f : FuncId) : Prop where
  ok : ∃ fn, P.funcs[f]? = some fn ∧ fn.body.isNone = false ∧ (fn.name == "runtime.NumGoroutine") = false
/-- The contract of a function that reads its arguments and makes new memory alone. -/
structure Spec (P : Program) (f : FuncId) (args : List SV) (r : SV) : Prop where
  fn : FnOK P f
  run : ∀ (w : World) (H : Hp) (xs : List Value), HIn H w → RepA H [] args xs →
    Calls P f xs.toArray w fun e w' => ∃ x H', e = .returned x ∧ Step no w H w' H' ∧ Rep H' [] r x
def SLe (a b : SV) : Prop := ∀ H env x, Rep H env a x → Rep H env b x
theorem SLe.refl (a : SV) : SLe a a := fun _ _ _ h => h
def ALe : List SV → List SV → Prop
  | [], [] => True
  | a :: l, b :: m => SLe a b ∧ ALe l m
  | _, _ => False
theorem RepA.le {H : Hp} {env : List (Nat × Nat)} : ∀ {l m : List SV} {xs : List Value}, ALe l m → RepA H env l xs → RepA H env m xs
  | [], [], _, _, h => h
  | a :: l, b :: m, _, ⟨h1, h2⟩, .cons ha hl => .cons (h1 _ _ _ ha) (RepA.le h2 hl)
theorem Spec.conv {P : Program} {f : FuncId} {l m : List SV} {r r' : SV} (h : Spec P f m r) (hl : ALe l m) (hr : SLe r r') : Spec P f l r' :=
  ⟨h.fn, fun w H xs hi hx => (h.run w H xs hi (hx.le hl)).mono fun _ _ ⟨x, H', he, hs, hx'⟩ => ⟨x, H', he, hs, hr _ _ _ hx'⟩⟩

mutual
def closedS : SV → Bool
  | .own _ _ | .mr _ _ _ _ | .om _ | .junk => false
  | .agg cs => closedL cs
  | .fn _ a c => closedL a && closedL c
  | .tup vs => closedL vs
  | _ => true
def closedL : List SV → Bool
  | [] => true
  | c :: cs => closedS c && closedL cs
end
mutual
theorem Rep.closed {H : Hp} {env env' : List (Nat × Nat)} {s : SV} {x : Value} (hc : closedS s = true) : Rep H env s x → Rep H env' s x
  | .v x => .v x
  | .b p => .b p
  | .agg h => .agg (h.closed (by simpa [closedS] using hc))
  | .own _ _ => by simp [closedS] at hc
  | .mr0 _ => by simp [closedS] at hc
  | .mr _ _ _ _ _ => by simp [closedS] at hc
  | .rs vals h1 h2 h3 h5 h4 => .rs vals h1 h2 h3 h5 h4
  | .rp h1 h2 => .rp h1 h2
  | .fn h1 h2 => by
    simp only [closedS, Bool.and_eq_true] at hc
    exact .fn (h1.closed hc.1) (h2.closed hc.2)
  | .tup h => .tup (h.closed (by simpa [closedS] using hc))
  | .emp A => .emp A
  | .junk x => .junk x
  | .nb p h => .nb p h
  | .om _ _ => by simp [closedS] at hc
  | .rm h m => .rm h m
theorem RepL.closed {H : Hp} {env env' : List (Nat × Nat)} {s : List SV} {x : List Value} (hc : closedL s = true) : RepL H env s x → RepL H env' s x
  | .nil => .nil
  | .cons h o r => by
    simp only [closedL, Bool.and_eq_true] at hc
    exact .cons (h.closed hc.1) o (r.closed hc.2)
  | .arr vals h1 h2 r => by
    simp only [closedL, Bool.and_eq_true] at hc
    exact .arr vals h1 h2 (r.closed hc.2)
theorem RepA.closed {H : Hp} {env env' : List (Nat × Nat)} {s : List SV} {x : List Value} (hc : closedL s = true) : RepA H env s x → RepA H env' s x
  | .nil => .nil
  | .cons h r => by
    simp only [closedL, Bool.and_eq_true] at hc
    exact .cons (h.closed hc.1) (r.closed hc.2)
end
mutual
/-- Numbers, bools, strings, and what is put together of them. -/
def scalS : SV → Bool
  | .v _ | .b _ | .emp | .nb _ => true
  | .agg cs => scalL cs
  | .tup vs => scalL vs
  | _ => false
def scalL : List SV → Bool
  | [] => true
  | c :: cs => scalS c && scalL cs
end
mutual
theorem Rep.scal {H H' : Hp} {env env' : List (Nat × Nat)} {s : SV} {x : Value} (hc : scalS s = true) : Rep H env s x → Rep H' env' s x
  | .v x => .v x
  | .b p => .b p
  | .agg h => .agg (h.scal (by simpa [scalS] using hc))
  | .own _ _ => by simp [scalS] at hc
  | .mr0 _ => by simp [scalS] at hc
  | .mr _ _ _ _ _ => by simp [scalS] at hc
  | .rs _ _ _ _ _ _ => by simp [scalS] at hc
  | .rp _ _ => by simp [scalS] at hc
  | .fn _ _ => by simp [scalS] at hc
  | .tup h => .tup (h.scal (by simpa [scalS] using hc))
  | .emp A => .emp A
  | .junk x => by simp [scalS] at hc
  | .nb p h => .nb p h
  | .om _ _ => by simp [scalS] at hc
  | .rm _ _ => by simp [scalS] at hc
theorem RepL.scal {H H' : Hp} {env env' : List (Nat × Nat)} {s : List SV} {x : List Value} (hc : scalL s = true) : RepL H env s x → RepL H' env' s x
  | .nil => .nil
  | .cons h o r => by
    simp only [scalL, Bool.and_eq_true] at hc
    exact .cons (h.scal hc.1) o (r.scal hc.2)
  | .arr vals h1 h2 r => by simp [scalL, scalS] at hc
theorem RepA.scal {H H' : Hp} {env env' : List (Nat × Nat)} {s : List SV} {x : List Value} (hc : scalL s = true) : RepA H env s x → RepA H' env' s x
  | .nil => .nil
  | .cons h r => by
    simp only [scalL, Bool.and_eq_true] at hc
    exact .cons (h.scal hc.1) (r.scal hc.2)
end

/-! ### What is one's own, lent to a callee that reads it -/
def getO : List Ch → Nat → Ch
  | [], _ => .dead
  | c :: _, 0 => c
  | _ :: l, i + 1 => getO l i
def itemsC : Ch → Option (List SV)
  | .box items => some items
  | .row n sz _ get => some [.arr n sz get]
  | .dead => none
  | .mp _ => none
def navO (own : List Ch) (i : Nat) (p : List St) : Option (Prop × List SV) :=
  match itemsC (getO own i) with
  | some items => nav items p
  | none => none
mutual
def borS (own : List Ch) : SV → Option (Prop × SV)
  | .own i p => match navO own i p with
    | some (q, l) => match closedL l with
      | true => some (q, .rp l)
      | false => none
    | none => none
  | .mr i lo n sz => match getO own i with
    | .row m sz' _ get => match Nat.beq sz sz' with
      | true => some (lo + n ≤ m, .rs n sz fun j => get (lo + j))
      | false => none
    | _ => none
  | .om i => match getO own i with
    | .mp get => some (True, .rm get)
    | _ => none
  | .agg cs => match borL own cs with
    | some (q, l) => some (q, .agg l)
    | none => none
  | .fn f a c => match borL own a with
    | some (q, a') => match borL own c with
      | some (q', c') => some (q ∧ q', .fn f a' c')
      | none => none
    | none => none
  | .tup vs => match borL own vs with
    | some (q, l) => some (q, .tup l)
    | none => none
  | .junk => none
  | x => some (True, x)
def borL (own : List Ch) : List SV → Option (Prop × List SV)
  | [] => some (True, [])
  | c :: cs => match borS own c with
    | some (q, c') => match borL own cs with
      | some (q', cs') => some (q ∧ q', c' :: cs')
      | none => none
    | none => none
end
/-- The sealed memory and all that is one's own. -/
def lend (env : List (Nat × Nat)) (w : World) (H : Hp) : Hp := fun b => if env.any (fun x => x.1 == b && decide (0 < x.2)) then w.heap[b]? else H b
theorem lend_in {env : List (Nat × Nat)} {w : World} {H : Hp} (h : HIn H w) : HIn (lend env w H) w := fun b o hb => by
  unfold lend at hb
  split at hb
  · exact hb
  · exact h b o hb
theorem lend_le {env : List (Nat × Nat)} {w : World} {H : Hp} (h : HIn H w) : HLe H (lend env w H) := fun b o hb => by
  unfold lend
  split
  · exact h b o hb
  · exact hb
theorem lend_at {env : List (Nat × Nat)} {w : World} {H : Hp} {i b k : Nat} (h : env[i]? = some (b, k)) (hk : 0 < k) : lend env w H b = w.heap[b]? := by
  unfold lend
  rw [if_pos]
  rw [List.any_eq_true]
  exact ⟨(b, k), List.mem_of_getElem? h, by simp [hk]⟩
theorem getO_some {own : List Ch} {i : Nat} {c : Ch} (h : getO own i = c) (hc : c ≠ .dead) : own[i]? = some c := by
  induction own generalizing i with
  | nil => exact absurd h.symm hc
  | cons x l ih => cases i with
    | zero => simpa [getO] using h
    | succ i => simpa using ih h
theorem cellH_lend {env : List (Nat × Nat)} {w : World} {H : Hp} {i b k : Nat} (h : env[i]? = some (b, k)) (hk : 0 < k) {arr : Array Value} {ty : TypeId} {f : Nat × Nat} (hw : w.heap[b]? = some (.cells arr ty f)) (o : Nat) :
    cellH (lend env w H) ⟨b, o, none⟩ = arr[o]? := by
  unfold cellH
  simp [lend_at h hk, hw]
/-- The cells behind a chunk's items. -/
theorem Inv.items {env : List (Nat × Nat)} {own : List Ch} {w : World} {H : Hp} (h : Inv env own w H) {i : Nat} {items : List SV} (hi : itemsC (getO own i) = some items) :
    ∃ b k vs, env[i]? = some (b, k) ∧ RepL H env items vs ∧ (0 < k → ∃ arr ty, w.heap[b]? = some (.cells arr ty (0, 0)) ∧ ∀ (t : Nat) u, vs[t]? = some u → arr[t]? = some u) := by
  have hd : getO own i ≠ .dead := by intro e; rw [e] at hi; cases hi
  have ho := getO_some rfl hd
  have hlt : i < env.length := by
    rw [← h.len]
    exact (List.getElem?_eq_some_iff.1 ho).1
  obtain ⟨b, k, he⟩ : ∃ b k, env[i]? = some (b, k) := ⟨_, _, List.getElem?_eq_getElem hlt⟩
  have hc := h.ch i _ b k ho he
  generalize getO own i = c at *
  cases hc with
  | @box items' arr ty h1 h2 =>
    simp only [itemsC, Option.some.injEq] at hi
    subst hi
    exact ⟨b, k, arr.toList, he, h2, fun _ => ⟨arr, ty, h1, fun t u hu => by simpa using hu⟩⟩
  | @virt sz e get h0 =>
    simp only [itemsC, Option.some.injEq] at hi
    subst hi
    exact ⟨b, k, flat 0 (fun _ => []) ++ [], he, .arr _ (fun j hj => by omega) (fun j hj => by omega) .nil, fun h => by omega⟩
  | @row n sz e get arr vals h0 h1 h2 h6 h3 h4 h5 h7 =>
    simp only [itemsC, Option.some.injEq] at hi
    subst hi
    refine ⟨b, k, flat n vals ++ [], he, .arr vals h4 h5 .nil, fun _ => ⟨arr, e, h1, fun t u hu => ?_⟩⟩
    rw [List.append_nil, ← h7, List.getElem?_take] at hu
    split at hu
    · simpa using hu
    · cases hu
  | dead => cases hi
  | mp h1 h2 => cases hi
theorem getL_flat {n sz : Nat} {vals : Nat → List Value} {r : List Value} (h5 : ∀ j, j < n → (vals j).length = sz) {k : Nat} (hk : k < n) (t : Nat) (u : Value) (hu : (vals k)[t]? = some u) : (flat n vals)[k * sz + t]? = some u := by
  have := flat_get h5 hk [] t u hu
  simpa using this

theorem cellH_at {H : Hp} {w : World} {b : Nat} (h : H b = w.heap[b]?) {arr : Array Value} {ty : TypeId} {f : Nat × Nat} (hw : w.heap[b]? = some (.cells arr ty f)) (o : Nat) : cellH H ⟨b, o, none⟩ = arr[o]? := by
  unfold cellH
  simp [h, hw]
mutual
theorem Rep.borX {env : List (Nat × Nat)} {own : List Ch} {w : World} {H H' : Hp} (hi : Inv env own w H) (hle : HLe H H') (hat : ∀ (i b k : Nat) (c : Ch), env[i]? = some (b, k) → 0 < k → own[i]? = some c → c ≠ .dead → H' b = w.heap[b]?) {s : SV} {x : Value} {q : Prop} {s' : SV} (hb : borS own s = some (q, s')) (hq : q) : Rep H env s x → Rep H' [] s' x
  | .v x => by simp only [borS, Option.some.injEq, Prod.mk.injEq] at hb; rw [← hb.2]; exact .v x
  | .b p => by simp only [borS, Option.some.injEq, Prod.mk.injEq] at hb; rw [← hb.2]; exact .b p
  | .agg h => by
    unfold borS at hb
    split at hb
    · rename_i q' l hl
      simp only [Option.some.injEq, Prod.mk.injEq] at hb
      obtain ⟨rfl, rfl⟩ := hb
      exact .agg (h.borX hi hle hat hl hq)
    · cases hb
  | .own (i := i) (p := p) he hpos => by
    unfold borS at hb
    split at hb
    · rename_i q' l hl
      split at hb
      · rename_i hcl
        simp only [Option.some.injEq, Prod.mk.injEq] at hb
        obtain ⟨rfl, rfl⟩ := hb
        unfold navO at hl
        split at hl
        · rename_i items hit
          obtain ⟨b', k, vs, he', hr, hmem⟩ := hi.items hit
          rw [he] at he'
          injection he' with he'
          injection he' with e1 e2
          subst e1; subst e2
          obtain ⟨arr, ty, hw, ha⟩ := hmem hpos
          obtain ⟨us, h1, h2⟩ := nav_sound hl hq hr
          refine .rp ((h1.closed hcl).mono hle (EnvLe.refl _)) (fun t u hu => ?_)
          rw [add_none, cellH_at (hat _ _ _ _ he hpos (getO_some rfl (by intro e; rw [e] at hit; cases hit)) (by intro e; rw [e] at hit; cases hit)) hw]
          exact ha _ _ (h2 t u hu)
        · cases hl
      · cases hb
    · cases hb
  | .mr0 (i := i) (lo := lo) (sz := sz) he => by
    unfold borS at hb
    split at hb
    · split at hb
      · simp only [Option.some.injEq, Prod.mk.injEq] at hb
        rw [← hb.2]
        exact .rs (fun _ => []) (fun j hj => by omega) (fun j hj => by omega) (Nat.le_refl _) (by omega) (fun j hj => by omega)
      · cases hb
    · cases hb
  | .mr (i := i) (lo := lo) (n := n) (sz := sz) he hpos hbk hlo ha => by
    unfold borS at hb
    split at hb
    · rename_i m sz' e get hg
      split at hb
      · rename_i hsz
        have := Nat.eq_of_beq_eq_true hsz
        subst this
        simp only [Option.some.injEq, Prod.mk.injEq] at hb
        obtain ⟨rfl, rfl⟩ := hb
        have hc := hi.ch i _ _ _ (getO_some hg (by simp)) he
        cases hc with
        | virt h0 => omega
        | @row _ _ _ _ arr vals h0 h1 h2 h6 h3 h4 h5 h7 =>
          refine .rs (fun j => vals (lo + j)) (fun j hj => (h4 (lo + j) (by omega)).mono hle (EnvLe.refl _)) (fun j hj => h5 _ (by omega)) (by omega) (by omega) (fun j hj => ?_)
          refine ⟨_, rfl, fun t u hu => ?_⟩
          rw [ha (.inr (by omega)), add_none, cellH_at (hat _ _ _ _ he hpos (getO_some hg (by simp)) (by simp)) h1]
          have h8 := getL_flat (r := []) h5 (show lo + j < m by omega) t u hu
          rw [← h7, List.getElem?_take] at h8
          split at h8
          · rw [show lo * sz + (j * sz + t) = (lo + j) * sz + t by rw [Nat.add_mul, Nat.add_assoc]]
            simpa using h8
          · cases h8
      · cases hb
    · cases hb
  | .rs vals h1 h2 h3 h5 h4 => by
    simp only [borS, Option.some.injEq, Prod.mk.injEq] at hb
    rw [← hb.2]
    exact (Rep.rs (env := []) vals h1 h2 h3 h5 h4).mono hle (EnvLe.refl _)
  | .rp h1 h2 => by
    simp only [borS, Option.some.injEq, Prod.mk.injEq] at hb
    rw [← hb.2]
    exact (Rep.rp (env := []) h1 h2).mono hle (EnvLe.refl _)
  | .fn h1 h2 => by
    unfold borS at hb
    split at hb
    · rename_i q' a' hl
      split at hb
      · rename_i q'' c' hl'
        simp only [Option.some.injEq, Prod.mk.injEq] at hb
        obtain ⟨rfl, rfl⟩ := hb
        exact .fn (h1.borX hi hle hat hl hq.1) (h2.borX hi hle hat hl' hq.2)
      · cases hb
    · cases hb
  | .tup h => by
    unfold borS at hb
    split at hb
    · rename_i q' l hl
      simp only [Option.some.injEq, Prod.mk.injEq] at hb
      obtain ⟨rfl, rfl⟩ := hb
      exact .tup (h.borX hi hle hat hl hq)
    · cases hb
  | .emp A => by simp only [borS, Option.some.injEq, Prod.mk.injEq] at hb; rw [← hb.2]; exact .emp A
  | .junk x => by simp [borS] at hb
  | .nb p h => by simp only [borS, Option.some.injEq, Prod.mk.injEq] at hb; rw [← hb.2]; exact .nb p h
  | .rm h m => by
    simp only [borS, Option.some.injEq, Prod.mk.injEq] at hb
    rw [← hb.2]
    exact .rm (hle _ _ h) m
  | .om (i := i) he hpos => by
    unfold borS at hb
    split at hb
    · rename_i get hg
      simp only [Option.some.injEq, Prod.mk.injEq] at hb
      rw [← hb.2]
      have hc := hi.ch i _ _ _ (getO_some hg (by simp)) he
      cases hc with
      | mp h1 h2 => exact .rm (by rw [hat _ _ _ _ he hpos (getO_some hg (by simp)) (by simp)]; exact h1) h2
    · cases hb
theorem RepL.borX {env : List (Nat × Nat)} {own : List Ch} {w : World} {H H' : Hp} (hi : Inv env own w H) (hle : HLe H H') (hat : ∀ (i b k : Nat) (c : Ch), env[i]? = some (b, k) → 0 < k → own[i]? = some c → c ≠ .dead → H' b = w.heap[b]?) {s : List SV} {x : List Value} {q : Prop} {s' : List SV} (hb : borL own s = some (q, s')) (hq : q) : RepL H env s x → RepL H' [] s' x
  | .nil => by simp only [borL, Option.some.injEq, Prod.mk.injEq] at hb; rw [← hb.2]; exact .nil
  | .cons h o r => by
    unfold borL at hb
    split at hb
    · rename_i q1 c' h1
      split at hb
      · rename_i q2 cs' h2
        simp only [Option.some.injEq, Prod.mk.injEq] at hb
        obtain ⟨rfl, rfl⟩ := hb
        exact .cons (h.borX hi hle hat h1 hq.1) o (r.borX hi hle hat h2 hq.2)
      · cases hb
    · cases hb
  | .arr vals h1 h2 r => by
    unfold borL at hb
    simp only [borS] at hb
    split at hb
    · rename_i q2 cs' h3
      simp only [Option.some.injEq, Prod.mk.injEq] at hb
      obtain ⟨rfl, rfl⟩ := hb
      exact .arr vals (fun j hj => (h1 j hj).mono hle (EnvLe.refl _)) h2 (r.borX hi hle hat h3 hq.2)
    · cases hb
theorem RepA.borX {env : List (Nat × Nat)} {own : List Ch} {w : World} {H H' : Hp} (hi : Inv env own w H) (hle : HLe H H') (hat : ∀ (i b k : Nat) (c : Ch), env[i]? = some (b, k) → 0 < k → own[i]? = some c → c ≠ .dead → H' b = w.heap[b]?) {s : List SV} {x : List Value} {q : Prop} {s' : List SV} (hb : borL own s = some (q, s')) (hq : q) : RepA H env s x → RepA H' [] s' x
  | .nil => by simp only [borL, Option.some.injEq, Prod.mk.injEq] at hb; rw [← hb.2]; exact .nil
  | .cons h r => by
    unfold borL at hb
    split at hb
    · rename_i q1 c' h1
      split at hb
      · rename_i q2 cs' h2
        simp only [Option.some.injEq, Prod.mk.injEq] at hb
        obtain ⟨rfl, rfl⟩ := hb
        exact .cons (h.borX hi hle hat h1 hq.1) (r.borX hi hle hat h2 hq.2)
      · cases hb
    · cases hb
end

theorem Rep.bor {env : List (Nat × Nat)} {own : List Ch} {w : World} {H : Hp} (hi : Inv env own w H) {s : SV} {x : Value} {q : Prop} {s' : SV} (hb : borS own s = some (q, s')) (hq : q) (h : Rep H env s x) : Rep (lend env w H) [] s' x :=
  h.borX hi (lend_le hi.inn) (fun _ _ _ _ he hk _ _ => lend_at he hk) hb hq
theorem RepL.bor {env : List (Nat × Nat)} {own : List Ch} {w : World} {H : Hp} (hi : Inv env own w H) {s : List SV} {x : List Value} {q : Prop} {s' : List SV} (hb : borL own s = some (q, s')) (hq : q) (h : RepL H env s x) : RepL (lend env w H) [] s' x :=
  h.borX hi (lend_le hi.inn) (fun _ _ _ _ he hk _ _ => lend_at he hk) hb hq
theorem RepA.bor {env : List (Nat × Nat)} {own : List Ch} {w : World} {H : Hp} (hi : Inv env own w H) {s : List SV} {x : List Value} {q : Prop} {s' : List SV} (hb : borL own s = some (q, s')) (hq : q) (h : RepA H env s x) : RepA (lend env w H) [] s' x :=
  h.borX hi (lend_le hi.inn) (fun _ _ _ _ he hk _ _ => lend_at he hk) hb hq

/-- A call's result. -/
def CallOk (P : Program) (own : List Ch) (f : FuncId) (args : List SV) (r : SV) : Prop :=
  (closedL args = true ∧ Spec P f args r) ∨ (scalS r = true ∧ ∃ q args', borL own args = some (q, args') ∧ q ∧ Spec P f args' r)
theorem CallOk.run {P : Program} {env : List (Nat × Nat)} {own : List Ch} {f : FuncId} {args : List SV} {r : SV} (h : CallOk P own f args r) {w : World} {H : Hp} (hi : Inv env own w H) {xs : List Value} (hx : RepA H env args xs) :
    Calls P f xs.toArray w fun e w' => ∃ x H', e = .returned x ∧ Step no w H w' H' ∧ Rep H' env r x := by
  rcases h with ⟨hc, h⟩ | ⟨hr, q, args', hb, hq, h⟩
  · refine (h.run w H xs hi.inn (hx.closed hc)).mono ?_
    rintro e w' ⟨x, H', rfl, hs, hx'⟩
    exact ⟨x, H', rfl, hs, hx'.mono (HLe.refl _) (EnvLe.nil _)⟩
  · refine (h.run w _ xs (lend_in hi.inn) (hx.bor hi hb hq)).mono ?_
    rintro e w' ⟨x, H', rfl, hs, hx'⟩
    refine ⟨x, H, rfl, ⟨hs.os, hs.tape, hs.output, hs.size, hs.block, HLe.refl _, fun b o hb => hs.inn b o (hs.le b o (lend_le hi.inn b o hb)), fun b h1 h2 => absurd h1 h2⟩, hx'.scal hr⟩
theorem CallOk.fn {P : Program} {own : List Ch} {f : FuncId} {args : List SV} {r : SV} (h : CallOk P own f args r) : FnOK P f := by
  rcases h with ⟨_, h⟩ | ⟨_, _, _, _, _, h⟩
  · exact h.fn
  · exact h.fn
end Go.Eng
