/- A part of the proof that the law of this seat answers true for every input, without a condition. -/
import Derived.Deep.Quiet
import Derived.KernelRfl
set_option linter.all false
set_option linter.unusedVariables false
namespace Go.Eng
open Go

/-! ### Symbolic values -/
inductive St where
  | f (off : Nat)
  | x (k sz : Nat)

inductive SV where
  | v (x : Value)
  | b (p : Bool)
  | agg (cs : List SV)
  | arr (n sz : Nat) (get : Nat → List SV)
  | own (i : Nat) (p : List St)
  | mr (i lo n sz : Nat)
  | rs (n sz : Nat) (get : Nat → List SV)
  | rp (cs : List SV)
  | fn (f : Fn) (first cap : List SV)
  | tup (vs : List SV)
  | emp
  | junk
  | nb (n : Nat)
  | om (i : Nat)
  | rm (get : Value → Option Value)

/-- What a map holds, told by its entries. -/
structure MapOK (es : Array MapEntry) (get : Value → Option Value) : Prop where
  ent : ∀ e ∈ es.toList, get e.key = some e.val
  key : ∀ k v, get k = some v → ∃ e ∈ es.toList, e.key = k
  nodup : (es.toList.map (·.key)).Nodup

/-- Memory that is read alone from here on. -/
abbrev Hp := Nat → Option Obj
def cellH (H : Hp) (a : Addr) : Option Value :=
  match H a.block with
  | some (.cells c _ _) => if a.spot.isSome then none else c[a.off]?
  | _ => none
def offp : List St → Nat
  | [] => 0
  | .f o :: p => o + offp p
  | .x k sz :: p => k * sz + offp p
def one : Value → Prop
  | .agg _ | .tuple _ => False
  | _ => True
def flat (n : Nat) (vals : Nat → List Value) : List Value := (List.range n).flatMap vals

mutual
inductive Rep (H : Hp) : List (Nat × Nat) → SV → Value → Prop
  | v {env} (x : Value) : Rep H env (.v x) x
  | b {env} (p : Bool) : Rep H env (.b p) (.bool p)
  | agg {env} {cs : List SV} {vs : List Value} : RepL H env cs vs → Rep H env (.agg cs) (.agg vs.toArray)
  | own {env i p b c} : env[i]? = some (b, c) → 0 < c → Rep H env (.own i p) (.pointer (some ⟨b, offp p, none⟩))
  | mr0 {env i lo sz b} {A : Option Addr} : env[i]? = some (b, 0) → Rep H env (.mr i lo 0 sz) (.slice A 0 0)
  | mr {env i lo n sz b c} {a : Addr} : env[i]? = some (b, c) → 0 < c → a.block = b → lo + n ≤ c → (lo = 0 ∨ lo < c → a = ⟨b, lo * sz, none⟩) → Rep H env (.mr i lo n sz) (.slice (some a) n (c - lo))
  | rs {env n sz get A cap} (vals : Nat → List Value) : (∀ j, j < n → RepL H [] (get j) (vals j)) → (∀ j, j < n → (vals j).length = sz) → n ≤ cap → cap ≤ 9223372036854775807 →
      (∀ j, j < n → ∃ a, A = some a ∧ ∀ t u, (vals j)[t]? = some u → cellH H (a.add (j * sz + t)) = some u) → Rep H env (.rs n sz get) (.slice A n cap)
  | rp {env cs vs} {a : Addr} : RepL H [] cs vs → (∀ t u, vs[t]? = some u → cellH H (a.add t) = some u) → Rep H env (.rp cs) (.pointer (some a))
  | fn {env f first cap fs cs} : RepA H env first fs → RepA H env cap cs → Rep H env (.fn f first cap) (.func f fs.toArray cs.toArray)
  | tup {env vs xs} : RepA H env vs xs → Rep H env (.tup vs) (.tuple xs.toArray)
  | emp {env} (A : Option Addr) : Rep H env .emp (.slice A 0 0)
  | junk {env} (x : Value) : Rep H env .junk x
  | nb {env n} (p : Bool) : (p = true → n = 0) → Rep H env (.nb n) (.bool p)
  | om {env i b c} : env[i]? = some (b, c) → 0 < c → Rep H env (.om i) (.map (some b))
  | rm {env get b es clock} : H b = some (.map es clock) → MapOK es get → Rep H env (.rm get) (.map (some b))
inductive RepL (H : Hp) : List (Nat × Nat) → List SV → List Value → Prop
  | nil {env} : RepL H env [] []
  | cons {env s x l vs} : Rep H env s x → one x → RepL H env l vs → RepL H env (s :: l) (x :: vs)
  | arr {env n sz get l vs} (vals : Nat → List Value) : (∀ j, j < n → RepL H [] (get j) (vals j)) → (∀ j, j < n → (vals j).length = sz) → RepL H env l vs →
      RepL H env (.arr n sz get :: l) (flat n vals ++ vs)
inductive RepA (H : Hp) : List (Nat × Nat) → List SV → List Value → Prop
  | nil {env} : RepA H env [] []
  | cons {env s x l vs} : Rep H env s x → RepA H env l vs → RepA H env (s :: l) (x :: vs)
end

def HLe (H H' : Hp) : Prop := ∀ b o, H b = some o → H' b = some o
def HIn (H : Hp) (w : World) : Prop := ∀ b o, H b = some o → w.heap[b]? = some o
theorem HLe.refl (H : Hp) : HLe H H := fun _ _ h => h
theorem HLe.trans {a b c : Hp} (h : HLe a b) (k : HLe b c) : HLe a c := fun x o hx => k x o (h x o hx)
theorem cellH_le {H H' : Hp} (h : HLe H H') {a : Addr} {v : Value} (hc : cellH H a = some v) : cellH H' a = some v := by
  unfold cellH at *
  cases hb : H a.block with
  | none => simp [hb] at hc
  | some o => rw [hb] at hc; rw [h _ _ hb]; exact hc
theorem cellH_in {H : Hp} {w : World} (h : HIn H w) {a : Addr} {v : Value} (hc : cellH H a = some v) : w.cell? a = some v := by
  unfold cellH at hc
  unfold World.cell?
  cases hb : H a.block with
  | none => simp [hb] at hc
  | some o => rw [hb] at hc; rw [h _ _ hb]; exact hc
def EnvLe (e e' : List (Nat × Nat)) : Prop := ∀ (i : Nat) (x : Nat × Nat), e[i]? = some x → e'[i]? = some x
theorem EnvLe.refl (e : List (Nat × Nat)) : EnvLe e e := fun _ _ h => h
theorem EnvLe.nil (e : List (Nat × Nat)) : EnvLe [] e := fun i x h => by simp at h
theorem EnvLe.append (e l : List (Nat × Nat)) : EnvLe e (e ++ l) := fun i x h => by
  rw [List.getElem?_append_left]
  · exact h
  · exact (List.getElem?_eq_some_iff.1 h).1

mutual
theorem Rep.mono {H H' : Hp} (hH : HLe H H') {e e' : List (Nat × Nat)} (he : EnvLe e e') {s : SV} {x : Value} : Rep H e s x → Rep H' e' s x
  | .v x => .v x
  | .b p => .b p
  | .agg h => .agg (h.mono hH he)
  | .own h p => .own (he _ _ h) p
  | .mr0 h => .mr0 (he _ _ h)
  | .mr h p a b c => .mr (he _ _ h) p a b c
  | .rs vals h1 h2 h3 h5 h4 => .rs vals (fun j hj => (h1 j hj).mono hH (EnvLe.refl _)) h2 h3 h5 (fun j hj => let ⟨a, ha, hc⟩ := h4 j hj; ⟨a, ha, fun t u hu => cellH_le hH (hc t u hu)⟩)
  | .rp h1 h2 => .rp (h1.mono hH (EnvLe.refl _)) (fun t u hu => cellH_le hH (h2 t u hu))
  | .fn h1 h2 => .fn (h1.mono hH he) (h2.mono hH he)
  | .tup h => .tup (h.mono hH he)
  | .emp A => .emp A
  | .junk x => .junk x
  | .nb p h => .nb p h
  | .om h p => .om (he _ _ h) p
  | .rm h m => .rm (hH _ _ h) m
theorem RepL.mono {H H' : Hp} (hH : HLe H H') {e e' : List (Nat × Nat)} (he : EnvLe e e') {s : List SV} {x : List Value} : RepL H e s x → RepL H' e' s x
  | .nil => .nil
  | .cons h o r => .cons (h.mono hH he) o (r.mono hH he)
  | .arr vals h1 h2 r => .arr vals (fun j hj => (h1 j hj).mono hH (EnvLe.refl _)) h2 (r.mono hH he)
theorem RepA.mono {H H' : Hp} (hH : HLe H H') {e e' : List (Nat × Nat)} (he : EnvLe e e') {s : List SV} {x : List Value} : RepA H e s x → RepA H' e' s x
  | .nil => .nil
  | .cons h r => .cons (h.mono hH he) (r.mono hH he)
end

theorem RepL.ones {H : Hp} {e : List (Nat × Nat)} : ∀ {s : List SV} {x : List Value}, RepL H e s x → ∀ u ∈ x, one u
  | _, _, .nil => fun u hu => by simp at hu
  | _, _, .cons _ o r => fun u hu => by
    rcases List.mem_cons.1 hu with rfl | hu
    · exact o
    · exact r.ones u hu
  | _, _, .arr vals h1 _ r => fun u hu => by
    rcases List.mem_append.1 hu with hu | hu
    · obtain ⟨j, hj, hu⟩ := List.mem_flatMap.1 hu
      exact (h1 j (List.mem_range.1 hj)).ones u hu
    · exact r.ones u hu

/-! ### What a call may do to memory: the blocks M of its caller may be written, all else that was there stays; what is sealed is new or was its own. -/
structure Step (M : Nat → Prop) (w : World) (H : Hp) (w' : World) (H' : Hp) : Prop where
  os : w'.os = w.os
  tape : w'.tape = w.tape
  output : w'.output = w.output
  size : w.heap.size ≤ w'.heap.size
  block : ∀ k, k < w.heap.size → ¬ M k → w'.heap[k]? = w.heap[k]?
  le : HLe H H'
  inn : HIn H' w'
  new : ∀ b, H b = none → H' b ≠ none → w.heap.size ≤ b ∨ M b
def no : Nat → Prop := fun _ => False
theorem Step.refl {M : Nat → Prop} {w : World} {H : Hp} (h : HIn H w) : Step M w H w H := ⟨rfl, rfl, rfl, Nat.le_refl _, fun _ _ _ => rfl, HLe.refl _, h, fun _ h1 h2 => absurd h1 h2⟩
theorem Step.trans {M : Nat → Prop} {a b c : World} {Ha Hb Hc : Hp} (h : Step M a Ha b Hb) (k : Step M b Hb c Hc) : Step M a Ha c Hc where
  os := k.os.trans h.os
  tape := k.tape.trans h.tape
  output := k.output.trans h.output
  size := Nat.le_trans h.size k.size
  block := fun i hi hM => (k.block i (Nat.lt_of_lt_of_le hi h.size) hM).trans (h.block i hi hM)
  le := h.le.trans k.le
  inn := k.inn
  new := fun x h1 h2 => by
    cases hb : Hb x with
    | some o => exact h.new x h1 (by simp [hb])
    | none => rcases k.new x hb h2 with h3 | h3
              · exact .inl (Nat.le_trans h.size h3)
              · exact .inr h3
theorem Step.mono {M M' : Nat → Prop} {w w' : World} {H H' : Hp} (h : Step M w H w' H') (hM : ∀ k, M k → M' k) : Step M' w H w' H' :=
  ⟨h.os, h.tape, h.output, h.size, fun k hk hn => h.block k hk (fun hm => hn (hM k hm)), h.le, h.inn, fun b h1 h2 => (h.new b h1 h2).imp id (hM b)⟩
/-- Blocks from B on don't count for a world that begins below B. -/
theorem Step.widen {M : Nat → Prop} {w0 w w' : World} {H H' : Hp} (h : Step M w H w' H') : Step (fun k => w0.heap.size ≤ k ∨ M k) w H w' H' := h.mono fun _ => .inr

/-! ### What a call has of its own -/
inductive Ch where
  | box (items : List SV)
  | row (n sz : Nat) (e : TypeId) (get : Nat → List SV)
  | dead
  | mp (get : Value → Option Value)

inductive ChOK (H : Hp) (env : List (Nat × Nat)) (w : World) (b c : Nat) : Ch → Prop
  | box {items arr ty} : w.heap[b]? = some (.cells arr ty (0, 0)) → RepL H env items arr.toList → ChOK H env w b c (.box items)
  | virt {sz e get} : c = 0 → ChOK H env w b c (.row 0 sz e get)
  | row {n sz e get arr} (vals : Nat → List Value) : 0 < c → w.heap[b]? = some (.cells arr e (0, 0)) → n ≤ c → c ≤ 9223372036854775807 → arr.size = c * sz → (∀ j, j < n → RepL H [] (get j) (vals j)) → (∀ j, j < n → (vals j).length = sz) →
      arr.toList.take (n * sz) = flat n vals → ChOK H env w b c (.row n sz e get)
  | dead : ChOK H env w b c .dead
  | mp {get es clock} : w.heap[b]? = some (.map es clock) → MapOK es get → ChOK H env w b c (.mp get)

structure Inv (env : List (Nat × Nat)) (own : List Ch) (w : World) (H : Hp) : Prop where
  inn : HIn H w
  len : own.length = env.length
  nodup : ∀ (i j b k k' : Nat) (c c' : Ch), env[i]? = some (b, k) → env[j]? = some (b, k') → 0 < k → 0 < k' → own[i]? = some c → own[j]? = some c' → c ≠ .dead → c' ≠ .dead → i = j
  lt : ∀ (i b k : Nat), env[i]? = some (b, k) → 0 < k → b < w.heap.size
  ch : ∀ (i : Nat) (c : Ch) (b k : Nat), own[i]? = some c → env[i]? = some (b, k) → ChOK H env w b k c
  bx : ∀ (i : Nat) (l : List SV) (b k : Nat), own[i]? = some (.box l) → env[i]? = some (b, k) → 0 < k
  mx : ∀ (i : Nat) (g : Value → Option Value) (b k : Nat), own[i]? = some (.mp g) → env[i]? = some (b, k) → 0 < k
  sep : ∀ (i : Nat) (b k : Nat) (c : Ch), env[i]? = some (b, k) → 0 < k → own[i]? = some c → c ≠ .dead → H b = none

theorem ChOK.move {H H' : Hp} {env env' : List (Nat × Nat)} {w w' : World} {b c : Nat} {k : Ch} (hH : HLe H H') (he : EnvLe env env') (hw : 0 < c → w'.heap[b]? = w.heap[b]?) (hb : ∀ l, k = .box l → 0 < c) (hm : ∀ g, k = .mp g → 0 < c) (h : ChOK H env w b c k) : ChOK H' env' w' b c k := by
  cases h with
  | box h1 h2 => exact .box ((hw (hb _ rfl)).trans h1) (h2.mono hH he)
  | virt h0 => exact .virt h0
  | row vals h0 h1 h2 h6 h3 h4 h5 h7 => exact .row vals h0 ((hw h0).trans h1) h2 h6 h3 (fun j hj => (h4 j hj).mono hH (EnvLe.refl _)) h5 h7
  | dead => exact .dead
  | mp h1 h2 => exact .mp ((hw (hm _ rfl)).trans h1) h2

/-- What is one's own stays over a step that leaves it alone. -/
theorem Inv.step {env : List (Nat × Nat)} {own : List Ch} {w w' : World} {H H' : Hp} {M : Nat → Prop} (h : Inv env own w H) (hs : Step M w H w' H') (hM : ∀ (i b k : Nat), env[i]? = some (b, k) → 0 < k → ¬ M b) : Inv env own w' H' where
  inn := hs.inn
  len := h.len
  nodup := h.nodup
  lt := fun i b k he hk => Nat.lt_of_lt_of_le (h.lt i b k he hk) hs.size
  bx := h.bx
  mx := h.mx
  ch := fun i c b k hc he => (h.ch i c b k hc he).move hs.le (EnvLe.refl _) (fun hk => hs.block b (h.lt i b k he hk) (hM i b k he hk)) (fun l e => h.bx i l b k (e ▸ hc) he) (fun l e => h.mx i l b k (e ▸ hc) he)
  sep := fun i b k c he hk hc hd => by
    have h0 := h.sep i b k c he hk hc hd
    cases h1 : H' b with
    | none => rfl
    | some o =>
      rcases hs.new b h0 (by simp [h1]) with h2 | h2
      · have := h.lt i b k he hk; omega
      · exact absurd h2 (hM i b k he hk)
theorem Inv.step0 {env : List (Nat × Nat)} {own : List Ch} {w w' : World} {H H' : Hp} (h : Inv env own w H) (hs : Step no w H w' H') : Inv env own w' H' := h.step hs fun _ _ _ _ _ => id
theorem Step.drew {M : Nat → Prop} {w : World} {H : Hp} (h : HIn H w) : Step M w H { w with drawn := w.drawn + 1 } H := ⟨rfl, rfl, rfl, Nat.le_refl _, fun _ _ _ => rfl, HLe.refl _, h, fun _ h1 h2 => absurd h1 h2⟩

end Go.Eng
