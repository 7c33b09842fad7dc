/- A part of the proof that the law of this seat answers true for every input, without a condition. -/
import Derived.Test.YtebcglidpmfamaaEngM
set_option linter.all false
set_option linter.unusedVariables false
set_option linter.unusedSimpArgs false
namespace Go.Eng
open Go

/-! ### Chunks taken in another order; what is not taken is forgotten -/
def posN (i : Nat) : List Nat → Nat → Option Nat
  | [], _ => none
  | x :: l, k => match Nat.beq i x with
    | true => some k
    | false => posN i l (k + 1)
mutual
def renS (ren : List Nat) : SV → SV
  | .own i p => match posN i ren 0 with
    | some j => .own j p
    | none => .junk
  | .mr i lo n sz => match posN i ren 0 with
    | some j => .mr j lo n sz
    | none => .junk
  | .om i => match posN i ren 0 with
    | some j => .om j
    | none => .junk
  | .agg cs => .agg (renL ren cs)
  | .fn f a c => .fn f (renL ren a) (renL ren c)
  | .tup vs => .tup (renL ren vs)
  | x => x
def renL (ren : List Nat) : List SV → List SV
  | [] => []
  | .arr n sz get :: cs => .arr n sz get :: renL ren cs
  | c :: cs => renS ren c :: renL ren cs
end
def renC (ren : List Nat) : Ch → Ch
  | .box l => .box (renL ren l)
  | .row n sz e get => .row n sz e get
  | .dead => .dead
  | .mp g => .mp g
def renO (ren : List Nat) (own : List Ch) : List Nat → List Ch
  | [] => []
  | i :: l => renC ren (getO own i) :: renO ren own l
def pickE (env : List (Nat × Nat)) (ren : List Nat) : List (Nat × Nat) := ren.map fun i => env.getD i (0, 0)
def memN (n : Nat) : List Nat → Bool
  | [] => false
  | x :: l => match Nat.beq n x with
    | true => true
    | false => memN n l
def memD (d : Option Nat) (l : List Nat) : Bool := match d with
  | some n => memN n l
  | none => false
def noDup : List Nat → Bool
  | [] => true
  | x :: l => match memN x l with
    | true => false
    | false => noDup l
def allLt (n : Nat) : List Nat → Bool
  | [] => true
  | x :: l => match Nat.blt x n with
    | true => allLt n l
    | false => false
def pinned (pin : Nat) : List Nat → Nat → Bool
  | [], k => Nat.ble pin k
  | x :: l, k => match Nat.ble pin k with
    | true => true
    | false => match Nat.beq x k with
      | true => pinned pin l (k + 1)
      | false => false
def okRen (pin n : Nat) (ren : List Nat) : Bool := noDup ren && allLt n ren && pinned pin ren 0

theorem memN_iff {x : Nat} : ∀ {l : List Nat}, memN x l = true ↔ x ∈ l
  | [] => by simp [memN]
  | y :: l => by
    unfold memN
    split
    · rename_i h; have := Nat.eq_of_beq_eq_true h; simp [this]
    · rename_i h
      have : x ≠ y := fun e => by subst e; simp at h
      simp [memN_iff, this]
theorem noDup_nodup : ∀ {l : List Nat}, noDup l = true → l.Nodup
  | [], _ => List.nodup_nil
  | x :: l, h => by
    unfold noDup at h
    split at h
    · cases h
    · rename_i hm
      refine List.nodup_cons.2 ⟨fun hx => ?_, noDup_nodup h⟩
      rw [memN_iff.2 hx] at hm; cases hm
theorem allLt_mem {n : Nat} : ∀ {l : List Nat}, allLt n l = true → ∀ x ∈ l, x < n
  | [], _, x, hx => by cases hx
  | y :: l, h, x, hx => by
    unfold allLt at h
    split at h
    · rename_i hb
      rcases List.mem_cons.1 hx with rfl | hx
      · simpa [Nat.blt_eq] using hb
      · exact allLt_mem h x hx
    · cases h
theorem pinned_spec {pin : Nat} : ∀ {l : List Nat} {k : Nat}, pinned pin l k = true → ∀ i, k ≤ i → i < pin → l[i - k]? = some i
  | [], k, h, i, h1, h2 => by
    simp [pinned] at h; omega
  | x :: l, k, h, i, h1, h2 => by
    unfold pinned at h
    split at h
    · rename_i hb; have := Nat.le_of_ble_eq_true hb; omega
    · split at h
      · rename_i hx
        have := Nat.eq_of_beq_eq_true hx
        subst this
        by_cases he : x = i
        · subst he; simp
        · have := pinned_spec h i (by omega) h2
          rw [show i - x = (i - (x + 1)) + 1 by omega]
          simpa using this
      · cases h
theorem posN_spec {i : Nat} : ∀ {l : List Nat} {k j : Nat}, posN i l k = some j → k ≤ j ∧ l[j - k]? = some i
  | [], k, j, h => by cases h
  | x :: l, k, j, h => by
    unfold posN at h
    split at h
    · rename_i hb
      have := Nat.eq_of_beq_eq_true hb
      subst this
      injection h with h
      subst h
      simp
    · obtain ⟨h1, h2⟩ := posN_spec h
      refine ⟨by omega, ?_⟩
      rw [show j - k = (j - (k + 1)) + 1 by omega]
      simpa using h2
theorem posN_env {env : List (Nat × Nat)} {ren : List Nat} {i j : Nat} {x : Nat × Nat} (h : posN i ren 0 = some j) (he : env[i]? = some x) : (pickE env ren)[j]? = some x := by
  obtain ⟨_, h1⟩ := posN_spec h
  unfold pickE
  rw [List.getElem?_map]
  simp only [Nat.sub_zero] at h1
  rw [h1, Option.map_some, List.getD_eq_getElem?_getD, he]
  rfl
section
variable {H : Hp} {env : List (Nat × Nat)} {ren : List Nat}
mutual
theorem Rep.ren {s : SV} {x : Value} : Rep H env s x → Rep H (pickE env ren) (renS ren s) x
  | .v x => by simp only [renS]; exact .v x
  | .b p => by simp only [renS]; exact .b p
  | .agg h => by simp only [renS]; exact .agg h.ren
  | .own he hp => by
    simp only [renS]
    split
    · rename_i j hj; exact .own (posN_env hj he) hp
    · exact .junk _
  | .mr0 he => by
    simp only [renS]
    split
    · rename_i j hj; exact .mr0 (posN_env hj he)
    · exact .junk _
  | .mr he hp a b c => by
    simp only [renS]
    split
    · rename_i j hj; exact .mr (posN_env hj he) hp a b c
    · exact .junk _
  | .rs vals h1 h2 h3 h5 h4 => by simp only [renS]; exact .rs vals h1 h2 h3 h5 h4
  | .rp h1 h2 => by simp only [renS]; exact .rp h1 h2
  | .fn h1 h2 => by simp only [renS]; exact .fn h1.ren h2.ren
  | .tup h => by simp only [renS]; exact .tup h.ren
  | .emp A => by simp only [renS]; exact .emp A
  | .junk x => by simp only [renS]; exact .junk x
  | .nb p h => by simp only [renS]; exact .nb p h
  | .om he hp => by
    simp only [renS]
    split
    · rename_i j hj; exact .om (posN_env hj he) hp
    · exact .junk _
  | .rm h m => by simp only [renS]; exact .rm h m
theorem RepL.ren {s : List SV} {x : List Value} : RepL H env s x → RepL H (pickE env ren) (renL ren s) x
  | .nil => by simp only [renL]; exact .nil
  | .cons (s := s) h o r => by
    have hne : ∀ n sz get, s ≠ .arr n sz get := fun n sz get e => by subst e; cases h
    cases s <;> first | exact absurd rfl (hne _ _ _) | (rw [renL]; exact .cons h.ren o r.ren; all_goals (intro _ _ _ e; cases e))
  | .arr vals h1 h2 r => by
    rw [renL]
    exact .arr vals h1 h2 r.ren
theorem RepA.ren {s : List SV} {x : List Value} : RepA H env s x → RepA H (pickE env ren) (renL ren s) x
  | .nil => by simp only [renL]; exact .nil
  | .cons (s := s) h r => by
    have hne : ∀ n sz get, s ≠ .arr n sz get := fun n sz get e => by subst e; cases h
    cases s <;> first | exact absurd rfl (hne _ _ _) | (rw [renL]; exact .cons h.ren r.ren; all_goals (intro _ _ _ e; cases e))
end
end

theorem renO_get {ren : List Nat} {own : List Ch} : ∀ {l : List Nat} (j : Nat), (renO ren own l)[j]? = (l[j]?).map fun i => renC ren (getO own i)
  | [], j => rfl
  | i :: l, 0 => rfl
  | i :: l, j + 1 => by simpa [renO] using renO_get (l := l) j
theorem getO_get {own : List Ch} {i : Nat} (h : i < own.length) : own[i]? = some (getO own i) := by
  induction own generalizing i with
  | nil => simp at h
  | cons x l ih => cases i with
    | zero => rfl
    | succ i => simpa [getO] using ih (by simpa using h)
/-- Some chunks in another order. -/
theorem Inv.pick {env : List (Nat × Nat)} {own : List Ch} {w : World} {H : Hp} (h : Inv env own w H) {ren : List Nat} (hn : noDup ren = true) (hl : allLt (lenO own) ren = true) : Inv (pickE env ren) (renO ren own ren) w H := by
  have hn := noDup_nodup hn
  have hl := allLt_mem hl
  rw [lenO_eq] at hl
  have at_ : ∀ {j b k : Nat}, (pickE env ren)[j]? = some (b, k) → ∃ i, ren[j]? = some i ∧ env[i]? = some (b, k) ∧ own[i]? = some (getO own i) := by
    intro j b k hj
    unfold pickE at hj
    rw [List.getElem?_map] at hj
    cases hi : ren[j]? with
    | none => rw [hi] at hj; cases hj
    | some i =>
      rw [hi] at hj
      simp only [Option.map_some, Option.some.injEq] at hj
      have hlt := hl i (List.mem_of_getElem? hi)
      have hlt' : i < env.length := by rw [← h.len]; exact hlt
      rw [List.getD_eq_getElem?_getD, List.getElem?_eq_getElem hlt'] at hj
      simp only [Option.getD_some] at hj
      exact ⟨i, rfl, by rw [List.getElem?_eq_getElem hlt', hj], getO_get hlt⟩
  have own_ : ∀ {j i : Nat} {c : Ch}, (renO ren own ren)[j]? = some c → ren[j]? = some i → c = renC ren (getO own i) := by
    intro j i c hc hi
    rw [renO_get, hi] at hc
    simpa using hc.symm
  have live : ∀ {c : Ch}, renC ren c ≠ .dead → c ≠ .dead := fun h e => h (by rw [e]; rfl)
  constructor
  · exact h.inn
  · unfold pickE
    have : ∀ l : List Nat, (renO ren own l).length = l.length := fun l => by induction l with | nil => rfl | cons x l ih => simp [renO, ih]
    rw [this]; simp
  · intro j1 j2 b k1 k2 c1 c2 h1 h2 p1 p2 o1 o2 d1 d2
    obtain ⟨i1, a1, a2, a3⟩ := at_ h1
    obtain ⟨i2, b1, b2, b3⟩ := at_ h2
    have e1 := own_ o1 a1
    have e2 := own_ o2 b1
    subst e1; subst e2
    have := h.nodup i1 i2 b k1 k2 _ _ a2 b2 p1 p2 a3 b3 (live d1) (live d2)
    subst this
    exact (List.getElem?_inj (List.getElem?_eq_some_iff.1 a1).1 hn).1 (a1.trans b1.symm)
  · intro j b k hj hk
    obtain ⟨i, a1, a2, a3⟩ := at_ hj
    exact h.lt i b k a2 hk
  · intro j c b k hc hj
    obtain ⟨i, a1, a2, a3⟩ := at_ hj
    have e1 := own_ hc a1
    subst e1
    have hck := h.ch i _ b k a3 a2
    generalize getO own i = c0 at *
    cases hck with
    | box d1 d2 => exact .box d1 d2.ren
    | virt d0 => exact .virt d0
    | row vals d0 d1 d2 d6 d3 d4 d5 d7 => exact .row vals d0 d1 d2 d6 d3 d4 d5 d7
    | dead => exact .dead
    | mp d1 d2 => exact .mp d1 d2
  · intro j l b k hc hj
    obtain ⟨i, a1, a2, a3⟩ := at_ hj
    have e1 := own_ hc a1
    generalize hg : getO own i = c0 at *
    cases c0 with
    | box l' => exact h.bx i l' b k a3 a2
    | row => cases e1
    | dead => cases e1
    | mp => cases e1
  · intro j l b k hc hj
    obtain ⟨i, a1, a2, a3⟩ := at_ hj
    have e1 := own_ hc a1
    generalize hg : getO own i = c0 at *
    cases c0 with
    | mp g' => exact h.mx i g' b k a3 a2
    | row => cases e1
    | dead => cases e1
    | box => cases e1
  · intro j b k c hj hk hc hd
    obtain ⟨i, a1, a2, a3⟩ := at_ hj
    have e1 := own_ hc a1
    subst e1
    exact h.sep i b k _ a2 hk a3 (live hd)
theorem inE_pick {env : List (Nat × Nat)} {ren : List Nat} {b : Nat} (h : inE (pickE env ren) b) : inE env b := by
  obtain ⟨j, k, hj, hk⟩ := h
  unfold pickE at hj
  rw [List.getElem?_map] at hj
  cases hi : ren[j]? with
  | none => rw [hi] at hj; cases hj
  | some i =>
    rw [hi] at hj
    simp only [Option.map_some, Option.some.injEq] at hj
    rw [List.getD_eq_getElem?_getD] at hj
    cases he : env[i]? with
    | none => rw [he] at hj; simp at hj; omega
    | some x => rw [he] at hj; simp only [Option.getD_some] at hj; subst hj; exact ⟨i, k, he, hk⟩

/-! ### Weaker tellings -/
def leT : T → T → Prop
  | [], [] => True
  | a :: s, b :: t => match b with
    | .junk => leT s t
    | _ => SLe a b ∧ leT s t
  | _, _ => False
theorem leT_rep {H : Hp} {env : List (Nat × Nat)} : ∀ {s t : T} {xs : List Value}, leT s t → RepA H env s xs → RepA H env t xs
  | [], [], _, _, h => h
  | a :: s, b :: t, _, h, .cons ha hl => by
    unfold leT at h
    split at h
    · exact .cons (.junk _) (leT_rep h hl)
    · exact .cons (h.1 _ _ _ ha) (leT_rep h.2 hl)
  | [], b :: t, _, h, _ => h.elim
  | a :: s, [], _, h, _ => h.elim
structure ChLe (c d : Ch) : Prop where
  ok : ∀ H env w b k, ChOK H env w b k c → ChOK H env w b k d
  bx : ∀ l, d = .box l → ∃ l', c = .box l'
  live : d ≠ .dead → c ≠ .dead
  mx : ∀ l, d = .mp l → ∃ l', c = .mp l'
theorem ChLe.refl (c : Ch) : ChLe c c := ⟨fun _ _ _ _ _ h => h, fun l h => ⟨l, h⟩, fun h => h, fun l h => ⟨l, h⟩⟩
theorem ChLe.dead (c : Ch) : ChLe c .dead := ⟨fun _ _ _ _ _ _ => .dead, fun l h => (by cases h), fun h => absurd rfl h, fun l h => (by cases h)⟩
theorem ChLe.row {n sz : Nat} {e : TypeId} {f g : Nat → List SV} (h : ∀ j, j < n → f j = g j) : ChLe (.row n sz e f) (.row n sz e g) where
  ok := fun H env w b k hc => by
    cases hc with
    | virt h0 => exact .virt h0
    | row vals h0 h1 h2 h6 h3 h4 h5 h7 => exact .row vals h0 h1 h2 h6 h3 (fun j hj => by rw [← h j hj]; exact h4 j hj) h5 h7
  bx := fun l h => by cases h
  live := fun _ h => by cases h
  mx := fun l h => by cases h
def LLe (a b : List SV) : Prop := ∀ H env x, RepL H env a x → RepL H env b x
theorem LLe.refl (a : List SV) : LLe a a := fun _ _ _ h => h
theorem LLe.cons {a b : SV} {l m : List SV} (h : SLe a b) (ha : ∀ n sz g, a ≠ .arr n sz g) (k : LLe l m) : LLe (a :: l) (b :: m) := fun H env x hx => by
  cases hx with
  | cons h1 o h2 => exact .cons (h _ _ _ h1) o (k _ _ _ h2)
  | arr => exact absurd rfl (ha _ _ _)
theorem LLe.arr {n sz : Nat} {f g : Nat → List SV} {l m : List SV} (h : ∀ j, j < n → f j = g j) (k : LLe l m) : LLe (.arr n sz f :: l) (.arr n sz g :: m) := fun H env x hx => by
  cases hx with
  | cons h1 _ _ => cases h1
  | arr vals h1 h2 h3 => exact .arr vals (fun j hj => by rw [← h j hj]; exact h1 j hj) h2 (k _ _ _ h3)
theorem ChLe.box {a b : List SV} (h : LLe a b) : ChLe (.box a) (.box b) where
  ok := fun H env w bk k hc => by cases hc with | box h1 h2 => exact .box h1 (h _ _ _ h2)
  bx := fun l _ => ⟨a, rfl⟩
  live := fun _ h => by cases h
  mx := fun l h => by cases h
theorem ChLe.mp {f g : Value → Option Value} (h : ∀ v, f v = g v) : ChLe (.mp f) (.mp g) := by
  have : f = g := funext h
  subst this; exact ChLe.refl _
theorem SLe.rs {n sz : Nat} {f g : Nat → List SV} (h : ∀ j, j < n → f j = g j) : SLe (.rs n sz f) (.rs n sz g) := fun H env x hx => by
  cases hx with
  | rs vals h1 h2 h3 h5 h4 => exact .rs vals (fun j hj => by rw [← h j hj]; exact h1 j hj) h2 h3 h5 h4
theorem SLe.emp {sz : Nat} {g : Nat → List SV} : SLe .emp (.rs 0 sz g) := fun H env x hx => by
  cases hx with
  | emp A => exact .rs (fun _ => []) (fun j hj => by omega) (fun j hj => by omega) (Nat.le_refl _) (by omega) (fun j hj => by omega)
theorem SLe.bool (p : Bool) : SLe (.v (.bool p)) (.b p) := fun H env x hx => by cases hx; exact .b p
theorem SLe.bool' (p : Bool) : SLe (.b p) (.v (.bool p)) := fun H env x hx => by cases hx; exact .v _
theorem SLe.agg {a b : List SV} (h : LLe a b) : SLe (.agg a) (.agg b) := fun H env x hx => by cases hx with | agg h1 => exact .agg (h _ _ _ h1)
theorem SLe.rp {a b : List SV} (h : LLe a b) : SLe (.rp a) (.rp b) := fun H env x hx => by cases hx with | rp h1 h2 => exact .rp (h _ _ _ h1) h2
theorem SLe.of_eq {a b : SV} (h : a = b) : SLe a b := h ▸ SLe.refl a
theorem LLe.of_eq {a b : List SV} (h : a = b) : LLe a b := h ▸ LLe.refl a
def leO : List Ch → List Ch → Prop
  | [], [] => True
  | a :: l, b :: m => ChLe a b ∧ leO l m
  | _, _ => False
theorem leO_get : ∀ {l m : List Ch}, leO l m → l.length = m.length ∧ ∀ (i : Nat) d, m[i]? = some d → ∃ c, l[i]? = some c ∧ ChLe c d
  | [], [], _ => ⟨rfl, fun i d h => by simp at h⟩
  | a :: l, b :: m, ⟨h1, h2⟩ => by
    obtain ⟨e, k⟩ := leO_get h2
    refine ⟨by simp [e], fun i d h => ?_⟩
    cases i with
    | zero => simp at h; subst h; exact ⟨a, rfl, h1⟩
    | succ i => simpa using k i d (by simpa using h)
theorem Inv.le {env : List (Nat × Nat)} {own own' : List Ch} {w : World} {H : Hp} (h : Inv env own w H) (hl : leO own own') : Inv env own' w H := by
  obtain ⟨e, k⟩ := leO_get hl
  constructor
  · exact h.inn
  · rw [← e]; exact h.len
  · intro i j b k1 k2 c1 c2 h1 h2 p1 p2 o1 o2 d1 d2
    obtain ⟨x1, a1, a2⟩ := k i c1 o1
    obtain ⟨x2, b1, b2⟩ := k j c2 o2
    exact h.nodup i j b k1 k2 x1 x2 h1 h2 p1 p2 a1 b1 (a2.live d1) (b2.live d2)
  · exact h.lt
  · intro i c b k1 hc h1
    obtain ⟨x, a1, a2⟩ := k i c hc
    exact a2.ok _ _ _ _ _ (h.ch i x b k1 a1 h1)
  · intro i l b k1 hc h1
    obtain ⟨x, a1, a2⟩ := k i _ hc
    obtain ⟨l', rfl⟩ := a2.bx l rfl
    exact h.bx i l' b k1 a1 h1
  · intro i l b k1 hc h1
    obtain ⟨x, a1, a2⟩ := k i _ hc
    obtain ⟨l', rfl⟩ := a2.mx l rfl
    exact h.mx i l' b k1 a1 h1
  · intro i b k1 c h1 p1 hc hd
    obtain ⟨x, a1, a2⟩ := k i c hc
    exact h.sep i b k1 x h1 p1 a1 (a2.live hd)
theorem Sim.le {env : List (Nat × Nat)} {own own' : List Ch} {s t : T} {a : Act} {w : World} {H : Hp} (h : Sim env own s a w H) (hs : leT s t) (ho : leO own own') : Sim env own' t a w H :=
  ⟨h.inv.le ho, leT_rep hs h.rep.1, h.rep.2⟩
theorem Sim.pick {env : List (Nat × Nat)} {own : List Ch} {s : T} {a : Act} {w : World} {H : Hp} (h : Sim env own s a w H) {ren : List Nat} (hn : noDup ren = true) (hl : allLt (lenO own) ren = true) : Sim (pickE env ren) (renO ren own ren) (renL ren s) a w H :=
  ⟨h.inv.pick hn hl, h.rep.1.ren, h.rep.2⟩
theorem Reach.pick {pin : Nat} {env : List (Nat × Nat)} {w0 w : World} {H0 : Hp} {own : List Ch} {s : T} {a : Act} (h : Reach pin env w0 H0 s own a w) {ren : List Nat} (hr : okRen pin (lenO own) ren = true) : Reach pin env w0 H0 (renL ren s) (renO ren own ren) a w := by
  simp only [okRen, Bool.and_eq_true] at hr
  obtain ⟨env', H', h1, h2, h3, h4⟩ := h
  refine ⟨_, H', h1.pick hr.1.1 hr.1.2, h2, fun i x hi hx => ?_, fun b hb => h4 b (inE_pick hb)⟩
  have := pinned_spec hr.2 i (Nat.zero_le _) hi
  unfold pickE
  rw [List.getElem?_map, show ren[i]? = some i by simpa using this, Option.map_some, List.getD_eq_getElem?_getD, h3 i x hi hx]
  rfl
theorem Reach.le {pin : Nat} {env : List (Nat × Nat)} {w0 w : World} {H0 : Hp} {own own' : List Ch} {s t : T} {a : Act} (h : Reach pin env w0 H0 s own a w) (hs : leT s t) (ho : leO own own') : Reach pin env w0 H0 t own' a w := by
  obtain ⟨env', H', h1, h2, h3, h4⟩ := h
  exact ⟨env', H', h1.le hs ho, h2, h3, h4⟩
end Go.Eng
