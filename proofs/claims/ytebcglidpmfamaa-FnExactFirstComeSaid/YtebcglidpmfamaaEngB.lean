/- A part of the proof that the law of this seat answers true for every input, without a condition. -/
import Derived.Test.YtebcglidpmfamaaEngA
import Derived.Laws.Cells
import Derived.Laws.Entries
import Derived.ChangeKeysEq
set_option linter.all false
set_option linter.unusedVariables false
namespace Go.Eng
open Go

/-! ### Types -/
structure TI where
  desc : TypeDesc
  size : Nat
  bytes : Nat
  zero : List SV

inductive Tr where
  | nil
  | node (k : Nat) (i : TI) (l r : Tr)
def Tr.find (t : Nat) : Tr → Option TI
  | .nil => none
  | .node k i l r => match Nat.beq t k with
    | true => some i
    | false => match Nat.blt t k with
      | true => l.find t
      | false => r.find t
def aggB : TypeDesc → Bool
  | .struct _ | .array _ _ => true
  | _ => false
structure TOk (P : Program) (t : Nat) (ti : TI) : Prop where
  und : P.underlying t = some ti.desc
  inf : ∃ i z, P.info? t = some i ∧ i.size = ti.size ∧ i.bytes = ti.bytes ∧ i.zero = some z ∧ z.cells.size = ti.size ∧ ∀ H, RepL H [] ti.zero z.cells.toList
def Tr.All (Q : Nat → TI → Prop) : Tr → Prop
  | .nil => True
  | .node k i l r => Q k i ∧ l.All Q ∧ r.All Q
theorem Tr.find_all {Q : Nat → TI → Prop} {t : Nat} {i : TI} : ∀ {tr : Tr}, tr.All Q → tr.find t = some i → Q t i
  | .nil, _, h => by simp [Tr.find] at h
  | .node k j l r, hq, h => by
    unfold Tr.find at h
    split at h
    · rename_i he
      have : t = k := Nat.eq_of_beq_eq_true he
      subst this
      injection h with h
      subst h
      exact hq.1
    · split at h
      · exact Tr.find_all hq.2.1 h
      · exact Tr.find_all hq.2.2 h

/-! ### Lists of values -/
abbrev T := List SV
def setS : List SV → Nat → SV → List SV
  | [], _, _ => []
  | _ :: l, 0, v => v :: l
  | x :: l, n + 1, v => x :: setS l n v
def getS : List SV → Nat → SV
  | [], _ => .junk
  | x :: _, 0 => x
  | _ :: l, n + 1 => getS l n
def put (s : T) (d : Option Nat) (x : SV) : T := match d with
  | some d => setS s d x
  | none => s
def constS : Value → SV
  | .bool p => .b p
  | .slice none 0 0 => .emp
  | x => .v x
def ev (s : T) : Operand → SV
  | .tmp t => getS s t
  | .const x => constS x
  | .func f => .fn (.func f) [] []
  | .global _ => .junk

theorem rep_constS {H : Hp} {env : List (Nat × Nat)} (x : Value) : Rep H env (constS x) x := by
  unfold constS
  split
  · exact .b _
  · exact .emp _
  · exact .v _
theorem RepA.get {H : Hp} {env : List (Nat × Nat)} : ∀ {s : List SV} {xs : List Value}, RepA H env s xs → ∀ t, Rep H env (getS s t) (xs.getD t undef)
  | _, _, .nil, t => .junk _
  | _, _, .cons h _, 0 => by simpa [getS] using h
  | _, _, .cons _ r, t + 1 => by simpa [getS] using r.get t
theorem RepA.set {H : Hp} {env : List (Nat × Nat)} {v : SV} {x : Value} (hv : Rep H env v x) : ∀ {s : List SV} {xs : List Value}, RepA H env s xs → ∀ t, RepA H env (setS s t v) (xs.set t x)
  | _, _, .nil, t => by simpa [setS] using .nil
  | _, _, .cons _ r, 0 => by simpa [setS] using .cons hv r
  | _, _, .cons h r, t + 1 => by simpa [setS] using .cons h (r.set hv t)
theorem RepA.length {H : Hp} {env : List (Nat × Nat)} : ∀ {s : List SV} {xs : List Value}, RepA H env s xs → s.length = xs.length
  | _, _, .nil => rfl
  | _, _, .cons _ r => by simp [r.length]
/-- The temporaries of an activation. -/
def RepT (H : Hp) (env : List (Nat × Nat)) (s : T) (a : Act) : Prop := RepA H env s a.tmps.toList ∧ a.defers = []
theorem RepT.ev {H : Hp} {env : List (Nat × Nat)} {s : T} {a : Act} (h : RepT H env s a) (o : Operand) : Rep H env (ev s o) (a.eval o) := by
  cases o with
  | tmp t => simpa [Eng.ev, Act.eval] using h.1.get t
  | const x => exact rep_constS x
  | func f => exact .fn .nil .nil
  | global g => exact .junk _
theorem RepT.put {H : Hp} {env : List (Nat × Nat)} {s : T} {a : Act} (h : RepT H env s a) {v : SV} {x : Value} (hv : Rep H env v x) (d : Option Nat) : RepT H env (put s d v) (a.put d x) := by
  cases d with
  | none => exact h
  | some d => exact ⟨by simpa [Eng.put, Act.put] using h.1.set hv d, h.2⟩
theorem RepT.mono {H H' : Hp} (hH : HLe H H') {e e' : List (Nat × Nat)} (he : EnvLe e e') {s : T} {a : Act} (h : RepT H e s a) : RepT H' e' s a := ⟨h.1.mono hH he, h.2⟩

/-! ### Parts of what lies in memory -/
def wd : SV → Nat
  | .arr n sz _ => n * sz
  | _ => 1
def dropW : List SV → Nat → Option (List SV)
  | [], n => match n with | 0 => some [] | _ + 1 => none
  | c :: cs, n => match n with
    | 0 => some (c :: cs)
    | m + 1 => match Nat.ble (wd c) (m + 1) with
      | true => dropW cs (m + 1 - wd c)
      | false => none
def takeW : List SV → Nat → Option (List SV)
  | [], n => match n with | 0 => some [] | _ + 1 => none
  | c :: cs, n => match n with
    | 0 => some []
    | m + 1 => match Nat.ble (wd c) (m + 1) with
      | true => match takeW cs (m + 1 - wd c) with
        | some r => some (c :: r)
        | none => none
      | false => none
theorem RepL.wd {H : Hp} {e : List (Nat × Nat)} {c : SV} {cs : List SV} {vs : List Value} (h : RepL H e (c :: cs) vs) :
    ∃ us ws, vs = us ++ ws ∧ us.length = Eng.wd c ∧ RepL H e cs ws ∧ ∀ {cs' ws'}, RepL H e cs' ws' → RepL H e (c :: cs') (us ++ ws') := by
  cases h with
  | @cons _ s x l vs h1 h2 h3 =>
    refine ⟨[x], vs, rfl, ?_, h3, fun h => .cons h1 h2 h⟩
    cases h1 <;> rfl
  | @arr _ n sz get l vs vals h1 h2 h3 =>
    refine ⟨flat n vals, vs, rfl, ?_, h3, fun h => .arr vals h1 h2 h⟩
    have : ∀ m, m ≤ n → (flat m vals).length = m * sz := by
      intro m
      induction m with
      | zero => intro _; simp [flat]
      | succ m ih =>
        intro hm
        have : flat (m + 1) vals = flat m vals ++ vals m := by simp [flat, List.range_succ]
        rw [this, List.length_append, ih (by omega), h2 m (by omega), Nat.succ_mul]
    exact this n (Nat.le_refl _)
theorem RepL.drop {H : Hp} {e : List (Nat × Nat)} : ∀ {s : List SV} {vs : List Value} {k : Nat} {s' : List SV}, RepL H e s vs → dropW s k = some s' → RepL H e s' (vs.drop k) ∧ k ≤ vs.length
  | [], vs, 0, s', h, hd => by cases h; simp [dropW] at hd; subst hd; exact ⟨.nil, Nat.le_refl _⟩
  | [], vs, k + 1, s', h, hd => by simp [dropW] at hd
  | c :: cs, vs, 0, s', h, hd => by simp [dropW] at hd; subst hd; exact ⟨h, Nat.zero_le _⟩
  | c :: cs, vs, k + 1, s', h, hd => by
    unfold dropW at hd
    simp only at hd
    split at hd
    · rename_i hb
      have hle := Nat.le_of_ble_eq_true hb
      obtain ⟨us, ws, rfl, hl, hr, _⟩ := h.wd
      obtain ⟨h1, h2⟩ := RepL.drop hr hd
      refine ⟨?_, by rw [List.length_append]; omega⟩
      rw [List.drop_append, List.drop_of_length_le (by omega), List.nil_append, hl]
      exact h1
    · cases hd
theorem RepL.take {H : Hp} {e : List (Nat × Nat)} : ∀ {s : List SV} {vs : List Value} {k : Nat} {s' : List SV}, RepL H e s vs → takeW s k = some s' → RepL H e s' (vs.take k) ∧ k ≤ vs.length
  | [], vs, 0, s', h, hd => by cases h; simp [takeW] at hd; subst hd; exact ⟨.nil, Nat.le_refl _⟩
  | [], vs, k + 1, s', h, hd => by simp [takeW] at hd
  | c :: cs, vs, 0, s', h, hd => by simp [takeW] at hd; subst hd; exact ⟨by simpa using .nil, Nat.zero_le _⟩
  | c :: cs, vs, k + 1, s', h, hd => by
    unfold takeW at hd
    simp only at hd
    split at hd
    · rename_i hb
      have hle := Nat.le_of_ble_eq_true hb
      obtain ⟨us, ws, rfl, hl, hr, hc⟩ := h.wd
      split at hd
      · rename_i r hr'
        injection hd with hd
        subst hd
        obtain ⟨h1, h2⟩ := RepL.take hr hr'
        refine ⟨?_, by rw [List.length_append]; omega⟩
        rw [List.take_append, List.take_of_length_le (by omega), hl]
        exact hc h1
      · cases hd
    · cases hd

/-- The way to a place, and what lies there: what it asks, the items from there on. -/
def nav : List SV → List St → Option (Prop × List SV)
  | cs, [] => some (True, cs)
  | cs, .f o :: p => match dropW cs o with
    | some cs' => nav cs' p
    | none => none
  | cs, .x k sz :: p => match cs with
    | .arr n sz' get :: _ => match Nat.beq sz sz' with
      | true => match nav (get k) p with
        | some (q, r) => some (k < n ∧ q, r)
        | none => none
      | false => none
    | _ => none
theorem flat_get {sz : Nat} {vals : Nat → List Value} : ∀ {n k : Nat}, (∀ j, j < n → (vals j).length = sz) → k < n → ∀ (r : List Value) (t : Nat) (u : Value), (vals k)[t]? = some u → (flat n vals ++ r)[k * sz + t]? = some u := by
  intro n
  induction n with
  | zero => intro k _ h; omega
  | succ n ih =>
    intro k hl hk r t u hu
    have hlen : ∀ m, m ≤ n → (flat m vals).length = m * sz := by
      intro m
      induction m with
      | zero => intro _; simp [flat]
      | succ m ih =>
        intro hm
        have : flat (m + 1) vals = flat m vals ++ vals m := by simp [flat, List.range_succ]
        rw [this, List.length_append, ih (by omega), hl m (by omega), Nat.succ_mul]
    have hf : flat (n + 1) vals = flat n vals ++ vals n := by simp [flat, List.range_succ]
    rw [hf, List.append_assoc]
    by_cases hkn : k = n
    · subst hkn
      rw [List.getElem?_append_right (by rw [hlen k (Nat.le_refl _)]; omega), hlen k (Nat.le_refl _), Nat.add_sub_cancel_left]
      rw [List.getElem?_append_left (List.getElem?_eq_some_iff.1 hu).1]
      exact hu
    · exact ih (fun j hj => hl j (by omega)) (by omega) _ t u hu
theorem nav_sound {H : Hp} : ∀ {p : List St} {e : List (Nat × Nat)} {cs : List SV} {vs : List Value} {q : Prop} {r : List SV}, nav cs p = some (q, r) → q → RepL H e cs vs →
    ∃ us, RepL H e r us ∧ ∀ t u, us[t]? = some u → vs[offp p + t]? = some u
  | [], e, cs, vs, q, r, h, _, hr => by
    simp only [nav, Option.some.injEq, Prod.mk.injEq] at h
    obtain ⟨_, rfl⟩ := h
    exact ⟨vs, hr, fun t u hu => by simpa [offp] using hu⟩
  | .f o :: p, e, cs, vs, q, r, h, hq, hr => by
    unfold nav at h
    split at h
    · rename_i cs' hd
      obtain ⟨us, h1, h2⟩ := nav_sound h hq (hr.drop hd).1
      refine ⟨us, h1, fun t u hu => ?_⟩
      have := h2 t u hu
      rw [List.getElem?_drop] at this
      rw [offp, Nat.add_assoc]
      exact this
    · cases h
  | .x k sz :: p, e, cs, vs, q, r, h, hq, hr => by
    unfold nav at h
    split at h
    · rename_i n sz' get l
      split at h
      · rename_i hb
        have : sz = sz' := Nat.eq_of_beq_eq_true hb
        subst this
        split at h
        · rename_i q' r' hn
          simp only [Option.some.injEq, Prod.mk.injEq] at h
          obtain ⟨rfl, rfl⟩ := h
          cases hr with
          | cons h1 _ _ => cases h1
          | arr vals h1 h2 h3 =>
            obtain ⟨us, h4, h5⟩ := nav_sound hn hq.2 (h1 k hq.1)
            refine ⟨us, h4.mono (HLe.refl _) (EnvLe.nil _), fun t u hu => ?_⟩
            rw [offp, Nat.add_assoc]
            exact flat_get h2 hq.1 _ _ _ (h5 t u hu)
        · cases h
      · cases h
    · cases h

/-- A variable of type t out of the cells that begin here. -/
def partS (ti : TI) (cs : List SV) : Option SV :=
  match aggB ti.desc with
  | true => match takeW cs ti.size with
    | some l => some (.agg l)
    | none => none
  | false => match cs with
    | .arr _ _ _ :: _ => none
    | x :: _ => some x
    | [] => none
theorem add_add' (a : Addr) (i j : Nat) : (a.add i).add j = a.add (i + j) := by
  unfold Addr.add
  by_cases hi : i = 0 <;> by_cases hj : j = 0 <;> simp [hi, hj, Nat.add_assoc]
theorem add_none (b o n : Nat) : (⟨b, o, none⟩ : Addr).add n = ⟨b, o + n, none⟩ := by
  unfold Addr.add; split <;> simp_all
theorem run_isAgg {P : Program} {t : TypeId} {d : TypeDesc} (h : P.underlying t = some d) (w : World) : (isAgg t).run P w = .ok (aggB d) w := by
  unfold isAgg
  rw [Sem.run_bind, run_underlying h]
  cases d <;> rfl
theorem run_sizeOf {P : Program} {t : TypeId} {i : TypeInfo} (h : P.info? t = some i) (w : World) : (sizeOf t).run P w = .ok i.size w := by
  unfold sizeOf
  simp [typeInfo, program, Sem.run, h, Sem.run_bind]
theorem run_load_part {P : Program} {t : TypeId} {ti : TI} (ht : TOk P t ti) {H : Hp} {e : List (Nat × Nat)} {cs : List SV} {us : List Value} {a : Addr} {w : World} {r : SV}
    (hr : RepL H e cs us) (hc : ∀ j u, us[j]? = some u → w.cell? (a.add j) = some u) (hp : partS ti cs = some r) : ∃ x, (loadVar t a).run P w = .ok x w ∧ Rep H e r x := by
  obtain ⟨i, z, hi, hsz, _, _, _⟩ := ht.inf
  unfold partS at hp
  unfold loadVar
  rw [Sem.run_bind, run_isAgg ht.und, Result.andThen_ok]
  split at hp
  · rename_i hb
    rw [hb]
    split at hp
    · rename_i l hl
      injection hp with hp
      subst hp
      obtain ⟨h1, h2⟩ := hr.take hl
      refine ⟨.agg (us.take ti.size).toArray, ?_, .agg h1⟩
      simp only [if_true, Sem.run_bind, run_sizeOf hi, Result.andThen_ok, hsz]
      rw [show ti.size = (us.take ti.size).length by simp; omega]
      rw [run_loadCells_list]
      · simp
      · intro j v hj
        rw [List.getElem?_take] at hj
        split at hj
        · exact hc j v hj
        · cases hj
    · cases hp
  · rename_i hb
    rw [hb]
    split at hp
    · cases hp
    · rename_i x l hx
      injection hp with hp
      subst hp
      cases hr with
      | @cons _ s v l vs h1 h2 h3 =>
        refine ⟨v, ?_, h1⟩
        have := hc 0 v rfl
        simp only [Bool.false_eq_true, if_false]
        unfold load
        have h0 : a.add 0 = a := rfl
        rw [h0] at this
        simp [Sem.run, this]
      | arr vals h1 h2 h3 => exact (hx _ _ _ rfl).elim
    · cases hp
end Go.Eng
