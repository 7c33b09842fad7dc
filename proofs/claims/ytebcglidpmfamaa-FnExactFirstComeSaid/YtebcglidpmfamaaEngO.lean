/- A part of the proof that the law of this seat answers true for every input, without a condition. -/
import Derived.Test.YtebcglidpmfamaaEngN
set_option linter.all false
set_option linter.unusedVariables false
set_option linter.unusedSimpArgs false
namespace Go.Eng
open Go

/-! ### What has to be shown of an operation -/
def forceS : List SV → (List SV → Prop) → Prop
  | [], k => k []
  | x :: l, k => forceS l fun l' => k (x :: l')
theorem forceS_eq (l : List SV) (k : List SV → Prop) : forceS l k = k l := by
  induction l generalizing k with
  | nil => rfl
  | cons x l ih => simp [forceS, ih]
def forceO : List Ch → (List Ch → Prop) → Prop
  | [], k => k []
  | x :: l, k => forceO l fun l' => k (x :: l')
theorem forceO_eq (l : List Ch) (k : List Ch → Prop) : forceO l k = k l := by
  induction l generalizing k with
  | nil => rfl
  | cons x l ih => simp [forceO, ih]
def forceV (x : SV) (k : SV → Prop) : Prop := match x with
  | .v x => k (.v x)
  | .b p => k (.b p)
  | .agg cs => k (.agg cs)
  | .arr n sz g => k (.arr n sz g)
  | .own i p => k (.own i p)
  | .mr i lo n sz => k (.mr i lo n sz)
  | .rs n sz g => k (.rs n sz g)
  | .rp cs => k (.rp cs)
  | .fn f a c => k (.fn f a c)
  | .tup vs => k (.tup vs)
  | .emp => k .emp
  | .junk => k .junk
  | .nb n => k (.nb n)
  | .om i => k (.om i)
  | .rm g => k (.rm g)
theorem forceV_eq (x : SV) (k : SV → Prop) : forceV x k = k x := by cases x <;> rfl
/-- A test: both ways. -/
structure BS (p : Bool) (F : Bool → Prop) : Prop where
  t : p = true → F true
  f : p = false → F false
theorem BS.out {p : Bool} {F : Bool → Prop} (h : BS p F) : F p := by cases p; exact h.f rfl; exact h.t rfl
structure Hint where
  fl : List Nat
  gl : List Nat
  sl : List Nat := []
def isE : Builtin → Bool
  | .append | .copy | .clear | .delete => true
  | _ => false
def clB (hn : Hint) (o : Oper) : Cl :=
  match o.op with
  | .load _ _ => match memD o.dst hn.gl with
    | true => .g
    | false => .r
  | .buildSlice _ len _ => match len, memD o.dst hn.fl with
    | 0, false => .e
    | _ + 1, true => .e
    | _, _ => .g
  | .box _ _ => match memD o.dst hn.fl with
    | true => .g
    | false => .e
  | .alloc _ | .store _ _ _ | .insert _ _ _ _ | .mapUpdate _ _ _ _ | .makeMap _ _ | .makeSlice _ _ _ => .e
  | .lookup _ _ _ _ => .r
  | .call c => match c.callee with
    | .builtin b => match isE b with
      | true => .e
      | false => .g
    | _ => match memD o.dst hn.fl with
      | true => .e
      | false => match memD o.dst hn.gl with
        | true => .g
        | false => .r
  | _ => .g
def clO (hn : Hint) (o : Oper) : Cl := match memD o.dst hn.sl with
  | true => .e
  | false => clB hn o
/-! What is told of a value that is sealed: its own chunks are given up, and read alone from then on. -/
mutual
def idxS : SV → List Nat → List Nat
  | .own i _, acc => match memN i acc with
    | true => acc
    | false => i :: acc
  | .mr i _ _ _, acc => match memN i acc with
    | true => acc
    | false => i :: acc
  | .om i, acc => match memN i acc with
    | true => acc
    | false => i :: acc
  | .agg cs, acc => idxL cs acc
  | .fn _ a c, acc => idxL a (idxL c acc)
  | .tup cs, acc => idxL cs acc
  | _, acc => acc
def idxL : List SV → List Nat → List Nat
  | [], acc => acc
  | c :: cs, acc => idxS c (idxL cs acc)
end
def allLive (own : List Ch) : List Nat → Bool
  | [] => true
  | i :: l => match getO own i with
    | .dead => false
    | _ => allLive own l
def killO (own : List Ch) : List Nat → List Ch
  | [] => own
  | i :: l => setO (killO own l) i .dead
def sealS (own : List Ch) (v : SV) : Option (Prop × SV × List Ch) :=
  match allLive own (idxS v []), noDup (idxS v []), allLt (lenO own) (idxS v []) with
  | true, true, true => match borS (renO (idxS v []) own (idxS v [])) (renS (idxS v []) v) with
    | some (q, r) => some (q, r, killO own (idxS v []))
    | none => none
  | _, _, _ => none
theorem killO_get {own : List Ch} : ∀ {l : List Nat} {j : Nat} {c : Ch}, (killO own l)[j]? = some c → c ≠ .dead → own[j]? = some c ∧ j ∉ l
  | [], j, c, h, hd => ⟨h, by simp⟩
  | i :: l, j, c, h, hd => by
    unfold killO at h
    rw [setO_get] at h
    split at h
    · injection h with h; exact absurd h.symm hd
    · rename_i hij
      obtain ⟨h1, h2⟩ := killO_get h hd
      refine ⟨h1, ?_⟩
      rw [List.mem_cons]
      rintro (e | e)
      · exact hij ⟨e.symm, (List.getElem?_eq_some_iff.1 h).1⟩
      · exact h2 e
theorem killO_len {own : List Ch} : ∀ {l : List Nat}, (killO own l).length = own.length
  | [] => rfl
  | i :: l => by unfold killO; rw [setO_len, killO_len]
theorem allLive_get {own : List Ch} : ∀ {l : List Nat} {i : Nat}, allLive own l = true → i ∈ l → getO own i ≠ .dead
  | [], _, _, h => by cases h
  | x :: l, i, hl, h => by
    unfold allLive at hl
    split at hl
    · cases hl
    · rename_i hx
      rcases List.mem_cons.1 h with rfl | h
      · exact hx
      · exact allLive_get hl h
theorem lend_pick {env : List (Nat × Nat)} {w : World} {H : Hp} {ren : List Nat} {b : Nat} (h : lend (pickE env ren) w H b ≠ H b) : ∃ i k, i ∈ ren ∧ env[i]? = some (b, k) ∧ 0 < k := by
  unfold lend at h
  split at h
  · rename_i ha
    obtain ⟨x, hx, hb⟩ := List.any_eq_true.1 ha
    simp only [Bool.and_eq_true, beq_iff_eq, decide_eq_true_eq] at hb
    unfold pickE at hx
    obtain ⟨i, hi, he⟩ := List.mem_map.1 hx
    rw [List.getD_eq_getElem?_getD] at he
    cases hg : env[i]? with
    | none => rw [hg] at he; simp at he; subst he; simp at hb
    | some y =>
      rw [hg] at he; simp only [Option.getD_some] at he; subst he
      refine ⟨i, y.2, hi, ?_, hb.2⟩
      rw [hg, ← hb.1]
  · exact absurd rfl h
theorem Inv.kills {env : List (Nat × Nat)} {own : List Ch} {w : World} {H : Hp} (h : Inv env own w H) {ren : List Nat} (hl : allLive own ren = true) : Inv env (killO own ren) w (lend (pickE env ren) w H) where
  inn := lend_in h.inn
  len := by rw [killO_len]; exact h.len
  nodup := fun i j b k1 k2 c1 c2 h1 h2 p1 p2 o1 o2 d1 d2 => h.nodup i j b k1 k2 c1 c2 h1 h2 p1 p2 (killO_get o1 d1).1 (killO_get o2 d2).1 d1 d2
  lt := h.lt
  bx := fun i l b k hc he => h.bx i l b k (killO_get hc (by simp)).1 he
  mx := fun i l b k hc he => h.mx i l b k (killO_get hc (by simp)).1 he
  ch := fun i c b k hc he => by
    by_cases hd : c = .dead
    · rw [hd]; exact .dead
    · have h1 := (killO_get hc hd).1
      exact (h.ch i c b k h1 he).move (lend_le h.inn) (EnvLe.refl _) (fun _ => rfl) (fun l e => h.bx i l b k (e ▸ h1) he) (fun l e => h.mx i l b k (e ▸ h1) he)
  sep := fun i b k c he hk hc hd => by
    obtain ⟨h1, h2⟩ := killO_get hc hd
    have h0 := h.sep i b k c he hk h1 hd
    by_cases hx : lend (pickE env ren) w H b = H b
    · rw [hx]; exact h0
    · obtain ⟨j, k', hj, hej, hk'⟩ := lend_pick hx
      have hlive := allLive_get hl hj
      have := h.nodup i j b k k' c _ he hej hk hk' h1 (getO_some rfl hlive) hd hlive
      subst this
      exact absurd hj h2
/-- What is put at a place again, told anew. -/
theorem RepA.reput {H : Hp} {env : List (Nat × Nat)} {s : T} {xs : List Value} (h : RepA H env s xs) {t : Nat} {v : SV} (hv : ∀ x, xs[t]? = some x → Rep H env v x) : RepA H env (setS s t v) xs := by
  cases hx : xs[t]? with
  | none =>
    have := h.set (v := .junk) (x := undef) (.junk _) t
    rw [List.set_eq_of_length_le (by rw [List.getElem?_eq_none_iff] at hx; exact hx)] at this
    have hl := h.length
    have e : setS s t v = setS s t .junk := by
      rw [List.getElem?_eq_none_iff] at hx
      have : ∀ (s : T) (t : Nat) (u v : SV), s.length ≤ t → setS s t u = setS s t v := by
        intro s
        induction s with
        | nil => intro t u v _; rfl
        | cons a s ih => intro t u v ht; cases t with
          | zero => simp at ht
          | succ t => simp only [setS]; rw [ih t u v (by simpa using ht)]
      exact this _ _ _ _ (by omega)
    rw [e]; exact this
  | some x =>
    have := h.set (hv x hx) t
    obtain ⟨hlt, hx'⟩ := List.getElem?_eq_some_iff.1 hx
    rw [show xs.set t x = xs by rw [← hx']; exact List.set_getElem_self hlt] at this
    exact this
theorem setS_setS : ∀ (s : T) (t : Nat) (u v : SV), setS (setS s t u) t v = setS s t v
  | [], _, _, _ => rfl
  | a :: s, 0, u, v => rfl
  | a :: s, t + 1, u, v => by simp only [setS]; rw [setS_setS s t u v]
theorem Sim.shut {env : List (Nat × Nat)} {own own' : List Ch} {s : T} {a : Act} {w : World} {H : Hp} {d : Nat} {v r : SV} {q : Prop} (h : Sim env own (setS s d v) a w H) (hs : sealS own v = some (q, r, own')) (hq : q) :
    ∃ H', Sim env own' (setS s d r) a w H' ∧ Step (inE env) w H w H' := by
  unfold sealS at hs
  split at hs
  · rename_i hlive hnd hlt
    split at hs
    · rename_i q' r' hb
      simp only [Option.some.injEq, Prod.mk.injEq] at hs
      obtain ⟨rfl, rfl, rfl⟩ := hs
      refine ⟨lend (pickE env (idxS v [])) w H, ⟨h.inv.kills hlive, ?_, h.rep.2⟩, ⟨rfl, rfl, rfl, Nat.le_refl _, fun _ _ _ => rfl, lend_le h.inv.inn, lend_in h.inv.inn, fun b h1 h2 => ?_⟩⟩
      · have h1 := (h.rep.1.mono (lend_le (env := pickE env (idxS v [])) h.inv.inn) (EnvLe.refl _)).reput (t := d) (v := r') (fun x hx => ?_)
        · rw [setS_setS] at h1; exact h1
        · have h2 := h.rep.1.get d
          have hv : getS (setS s d v) d = v := by
            have hlen : d < (setS s d v).length := by rw [h.rep.1.length]; exact (List.getElem?_eq_some_iff.1 hx).1
            have : ∀ (s : T) (d : Nat) (v : SV), d < (setS s d v).length → getS (setS s d v) d = v := by
              intro s
              induction s with
              | nil => intro d v hd; simp [setS] at hd
              | cons a s ih => intro d v hd; cases d with
                | zero => rfl
                | succ d => simp only [setS, getS]; exact ih d v (by simpa [setS] using hd)
            exact this s d v hlen
          rw [hv, List.getD_eq_getElem?_getD, hx, Option.getD_some] at h2
          exact ((h2.ren (ren := idxS v [])).bor (h.inv.pick hnd hlt) hb hq).mono (HLe.refl _) (EnvLe.nil _)
      · have hne : lend (pickE env (idxS v [])) w H b ≠ H b := fun e => h2 (e.trans h1)
        obtain ⟨i, k, _, h3, h4⟩ := lend_pick hne
        exact .inr ⟨i, k, h3, h4⟩
    · cases hs
  · cases hs
/-- A call that may change what is lent to it, and may give what is new. -/
structure CallOkE (P : Program) (own : List Ch) (f : FuncId) (args : List SV) (r : SV) (own' : List Ch) : Prop where
  fn : FnOK P f
  run : ∀ (env : List (Nat × Nat)) (w : World) (H : Hp) (xs : List Value), Inv env own w H → RepA H env args xs →
    Calls P f xs.toArray w fun e w' => ∃ x env' H', e = .returned x ∧ Inv env' own' w' H' ∧ Step (inE env) w H w' H' ∧ EnvLe env env' ∧ (∀ b, inE env' b → inE env b ∨ w.heap.size ≤ b) ∧ Rep H' env' r x
structure CallP (P : Program) (own : List Ch) (f : FuncId) (args : List SV) (k : SV → Prop) : Prop where
  ok : ∃ r, CallOk P own f args r ∧ k r
structure CallG (P : Program) (f : FuncId) (args : List SV) (k : SV → Prop) : Prop where
  ok : ∃ r, closedL args = true ∧ Spec P f args r ∧ k r
structure CallE (P : Program) (own : List Ch) (f : FuncId) (args : List SV) (k : SV → List Ch → Prop) : Prop where
  ok : ∃ r own', CallOkE P own f args r own' ∧ k r own'
/-- An operation of which the engine knows nothing: its value. -/
structure OtherP (P : Program) (c : Cl) (own : List Ch) (o : Oper) (s : T) (k : SV → List Ch → Prop) : Prop where
  ok : ∃ r own', Out P c o s own r own' ∧ k r own'
/-- Operations that ask nothing. -/
def trivQ : Op → Bool
  | .move _ | .assign _ | .fieldAddr _ _ _ | .field _ _ _ | .extract _ _ | .makeFunc _ _ _ | .nilCheck _ | .pick _ _ _ => true
  | .binOp op _ _ _ _ => match op with
    | .eql | .neq | .lss | .leq | .gtr | .geq => true
    | _ => false
  | .unOp op _ _ => match op with
    | .not => true
    | _ => false
  | .call ⟨.builtin b, _, _⟩ => match b with
    | .len | .min | .max => true
    | _ => false
  | _ => false
/-- What an operation asks. -/
structure Ask (q : Prop) : Prop where
  ok : q
/-- A part of an element of a row of one's own is written: what the element is told by before (c), and behind (r). -/
structure SetP (tr : Tr) (own : List Ch) (t : Nat) (x : SV) (i k sz : Nat) (p : List St) (n sz' : Nat) (e : TypeId) (get : Nat → List SV) (K : SV → List Ch → Prop) : Prop where
  ok : ∃ (new : List SV) (m : Nat) (c : List SV) (q : Prop) (r : List SV), cellsS x = some new ∧ sizeT tr t = some m ∧ Nat.beq (buildL.wdL new) m = true ∧ Nat.beq sz sz' = true ∧ closedL new = true ∧ get k = c ∧ setnav c p new = some (q, r) ∧ Ask (k < n ∧ q) ∧ K (.v undef) (setO own i (.row n sz' e (setG get k r)))
def andQ (op : Op) (q k : Prop) : Prop := match trivQ op with
  | true => k
  | false => Ask q ∧ k
def detK (P : Program) (tr : Tr) (c : Cl) (own1 own : List Ch) (o : Oper) (s : T) (k : SV → List Ch → Prop) : Prop :=
  match detS tr own1 s o.op with
  | some (q, r) => andQ o.op q (k r own)
  | none => OtherP P c own o s k
def knS : List (Nat × Bool) → Nat → Option Bool
  | [], _ => none
  | (g, b) :: l, n => match Nat.beq n g with
    | true => some b
    | false => knS l n
def knO (kn : List (Nat × Bool)) : Operand → Option Bool
  | .tmp t => knS kn t
  | _ => none
def opB (P : Program) (tr : Tr) (hn : Hint) (kn : List (Nat × Bool)) (own : List Ch) (o : Oper) (s : T) (k : SV → List Ch → Prop) : Prop :=
  match o.op with
  | .pick c a b => match knO kn c with
    | some true => k (ev s a) own
    | some false => k (ev s b) own
    | none => detK P tr .g [] own o s k
  | .load _ _ => match memD o.dst hn.gl with
    | true => detK P tr .g [] own o s k
    | false => detK P tr .r own own o s k
  | .buildSlice t len parts => match litS tr t len (partsS s parts.toList) with
    | some (e, sz, l) => match closedLL l with
      | true => match len, memD o.dst hn.fl with
        | 0, false => k (.mr (lenO own) 0 len sz) (snocO own (.row len sz e (nthL l)))
        | _ + 1, true => k (.mr (lenO own) 0 len sz) (snocO own (.row len sz e (nthL l)))
        | 0, true => k (.rs len sz (nthL l)) own
        | _ + 1, false => k (.rs len sz (nthL l)) own
      | false => False
    | none => False
  | .box _ x => match cellsS (ev s x) with
    | some l => match memD o.dst hn.fl with
      | true => match closedL l with
        | true => k (.rp l) own
        | false => False
      | false => k (.own (lenO own) []) (snocO own (.box l))
    | none => False
  | .alloc t => match tr.find t with
    | some ti => k (.own (lenO own) []) (snocO own (.box ti.zero))
    | none => False
  | .store t a x => match ev s a with
    | .own i (.x j sz :: y :: p) => match getO own i with
      | .row n sz' e get => SetP tr own t (ev s x) i j sz (y :: p) n sz' e get k
      | _ => match storeS tr own t (ev s a) (ev s x) with
        | some (q, own') => Ask q ∧ k (.v undef) own'
        | none => False
    | _ => match storeS tr own t (ev s a) (ev s x) with
      | some (q, own') => Ask q ∧ k (.v undef) own'
      | none => False
  | .makeSlice t l c => match makeS tr t (ev s l) (ev s c) with
    | some (q, n, e, te) => match te.size with
      | 0 => False
      | _ + 1 => Ask q ∧ k (.mr (lenO own) 0 n te.size) (snocO own (.row n te.size e (fun _ => te.zero)))
    | none => False
  | .insert _ _ _ _ | .mapUpdate _ _ _ _ | .makeMap _ _ => OtherP P .e own o s k
  | .lookup _ _ _ _ => OtherP P .r own o s k
  | .call c => match c.callee with
    | .builtin b => match isE b with
      | true => match b, c.args.toList, c.argTypes.toList with
        | .append, [x, y], [t, t'] => match Nat.beq t t', appendS tr own t (ev s x) (ev s y) with
          | true, some (q, r, own') => Ask q ∧ k r own'
          | _, _ => OtherP P .e own o s k
        | _, _, _ => OtherP P .e own o s k
      | false => detK P tr .g [] own o s k
    | _ => match callS s c with
      | some (g, args) => match memD o.dst hn.fl with
        | true => CallE P own g args k
        | false => match memD o.dst hn.gl with
          | true => CallG P g args fun r => k r own
          | false => CallP P own g args fun r => k r own
      | none => OtherP P (clB hn o) own o s k
  | _ => detK P tr .g [] own o s k
def sealK (own : List Ch) (r : SV) (k : SV → List Ch → Prop) : Prop :=
  match sealS own r with
  | some (q, r', own') => Ask q ∧ k r' own'
  | none => False
def opS (P : Program) (tr : Tr) (hn : Hint) (kn : List (Nat × Bool)) (own : List Ch) (o : Oper) (s : T) (k : SV → List Ch → Prop) : Prop :=
  match memD o.dst hn.sl with
  | true => opB P tr hn kn own o s fun r own' => forceV r fun r => forceO own' fun own' => sealK own' r k
  | false => opB P tr hn kn own o s k
def dropK (d : Option Nat) : List (Nat × Bool) → List (Nat × Bool)
  | [] => []
  | (g, b) :: l => match d with
    | some n => match Nat.beq n g with
      | true => dropK d l
      | false => (g, b) :: dropK d l
    | none => (g, b) :: dropK d l
def guardP (ops : Array Oper) (o : Oper) (kn : List (Nat × Bool)) (s : T) (run skip : List (Nat × Bool) → Prop) : Prop :=
  match o.guard with
  | none => run kn
  | some (j, want) => match (ops[j]?).bind (·.dst) with
    | none => skip kn
    | some g => match knS kn g with
      | some p => match p == want with
        | true => run kn
        | false => skip kn
      | none => match getS s g with
        | .b p => match p == want with
          | true => run kn
          | false => skip kn
        | .v (.bool p) => BS p fun b => match b == want with
          | true => run ((g, b) :: kn)
          | false => skip ((g, b) :: kn)
        | .v (.tuple _) => skip kn
        | _ => False
def vcS (P : Program) (tr : Tr) (hn : Hint) (ops : Array Oper) (l : List Oper) : List (Nat × Bool) → T → List Ch → (T → List Ch → Prop) → Prop :=
  List.rec (motive := fun _ => List (Nat × Bool) → T → List Ch → (T → List Ch → Prop) → Prop) (fun _ s own K => K s own)
    (fun o _ ih kn s own K => guardP ops o kn s
      (fun kn => opS P tr hn kn own o s fun r own' => forceV r fun r => forceS (put s o.dst r) fun s => forceO own' fun own => ih (dropK o.dst kn) s own K)
      (fun kn => forceS (put s o.dst (.v undef)) fun s => ih (dropK o.dst kn) s own K)) l

section
variable {P : Program} {env : List (Nat × Nat)} {own : List Ch} {tr : Tr}
theorem OkRun.agr {o : Oper} {s s2 : T} {r : SV} (h : OkRun P env own o s r) (ha : Agr o s s2) : OkRun P env own o s2 r := fun w H ρ hi hr hcst => h w H ρ hi (fun y hy => by rw [← ha y hy]; exact hr y hy) hcst
theorem Out.of_run_g {o : Oper} {s : T} {r : SV} (h : ∀ env own, OkRun P env own o s r) : Out P .g o s own r own := fun s2 ha => ⟨rfl, fun own2 => OkSeq.of_run fun env => (h env own2).agr ha⟩
theorem Out.of_run_r {o : Oper} {s : T} {r : SV} (h : ∀ env, OkRun P env own o s r) : Out P .r o s own r own := fun s2 ha => ⟨rfl, OkSeq.of_run fun env => (h env).agr ha⟩
theorem detS_g {s : T} {op : Op} {x : Prop × SV} (h : detS tr [] s op = some x) : detS tr own s op = some x := by
  cases op <;> first | exact h | skip
  case slice t x lo hi mx => cases mx <;> exact h
  case call c =>
    obtain ⟨callee, args, ts⟩ := c
    cases callee <;> exact h
  case load t a =>
    simp only [detS, loadS] at h ⊢
    split at h
    · split at h
      · simp [navO, getO, itemsC] at h
      · exact h
      · cases h
    · cases h
theorem trivQ_q {tr : Tr} {own : List Ch} {s : T} {op : Op} {q : Prop} {r : SV} (ht : trivQ op = true) (h : detS tr own s op = some (q, r)) : q := by
  cases op <;> simp only [trivQ, Bool.false_eq_true] at ht
  case move x => simp only [detS, Option.some.injEq, Prod.mk.injEq] at h; rw [← h.1]; trivial
  case assign x => simp only [detS, Option.some.injEq, Prod.mk.injEq] at h; rw [← h.1]; trivial
  case makeFunc x => simp only [detS, Option.some.injEq, Prod.mk.injEq] at h; rw [← h.1]; trivial
  case extract x i =>
    simp only [detS] at h
    unfold extractS at h
    repeat' (split at h)
    all_goals first | (cases h; trivial) | cases h
  case nilCheck x =>
    simp only [detS] at h
    unfold nilS at h
    repeat' (split at h)
    all_goals first | (cases h; trivial) | cases h
  case pick c a b =>
    simp only [detS] at h
    unfold pickS at h
    repeat' (split at h)
    all_goals first | (cases h; trivial) | cases h
  case fieldAddr t x f =>
    simp only [detS] at h
    unfold fieldAddrS at h
    repeat' (split at h)
    all_goals first | (cases h; trivial) | cases h
  case field t x f =>
    simp only [detS] at h
    unfold fieldS at h
    repeat' (split at h)
    all_goals first | (cases h; trivial) | cases h
  case binOp op t x y t' =>
    simp only [detS] at h
    split at h
    · unfold nilEqS at h
      repeat' (split at h)
      all_goals first | (cases h; trivial) | cases h
    unfold binS at h
    cases op <;> simp only [Bool.false_eq_true] at ht
    all_goals
      repeat' (split at h)
      all_goals first | (cases h; trivial) | cases h | (simp only [binI] at h; cases h; trivial) | skip
  case unOp op t x =>
    cases op <;> simp only [Bool.false_eq_true] at ht
    simp only [detS] at h
    unfold unS at h
    repeat' (split at h)
    all_goals first | (cases h; trivial) | cases h | skip
    all_goals (rename_i e _; cases e)
  case call c =>
    obtain ⟨callee, args, ts⟩ := c
    cases callee <;> simp only [Bool.false_eq_true] at ht
    rename_i b
    cases b <;> simp only [Bool.false_eq_true] at ht
    all_goals
      simp only [detS] at h
      unfold builtinS at h
      repeat' (split at h)
    all_goals first | (cases h; trivial) | cases h | skip
    all_goals first
      | (unfold lenS at h; repeat' (split at h)) <;> first | (cases h; trivial) | cases h
      | (unfold minS at h; repeat' (split at h)) <;> first | (cases h; trivial) | cases h
      | (unfold maxS at h; repeat' (split at h)) <;> first | (cases h; trivial) | cases h
theorem andQ_out {tr : Tr} {own : List Ch} {s : T} {op : Op} {q k : Prop} {r : SV} (h : detS tr own s op = some (q, r)) (hk : andQ op q k) : q ∧ k := by
  unfold andQ at hk
  split at hk
  · rename_i ht; exact ⟨trivQ_q ht h, hk⟩
  · exact ⟨hk.1.ok, hk.2⟩
theorem detK_g (hT : tr.All (TOk P)) {o : Oper} {s : T} {k : SV → List Ch → Prop} (h : detK P tr .g [] own o s k) : ∃ r own', Out P .g o s own r own' ∧ k r own' := by
  unfold detK at h
  split at h
  · rename_i q r hd
    obtain ⟨h1, h2⟩ := andQ_out hd h
    exact ⟨r, own, Out.of_run_g fun env own => detS_sound hT (detS_g hd) h1, h2⟩
  · exact h.ok
theorem detK_r (hT : tr.All (TOk P)) {o : Oper} {s : T} {k : SV → List Ch → Prop} (h : detK P tr .r own own o s k) : ∃ r own', Out P .r o s own r own' ∧ k r own' := by
  unfold detK at h
  split at h
  · rename_i q r hd
    obtain ⟨h1, h2⟩ := andQ_out hd h
    exact ⟨r, own, Out.of_run_r fun env => detS_sound hT hd h1, h2⟩
  · exact h.ok
def KnOk (kn : List (Nat × Bool)) (s : T) : Prop := ∀ g b, knS kn g = some b → guardS s g = some (some b)
theorem pick_run {o : Oper} {s : T} {c a b : Operand} (ho : o.op = .pick c a b) {p : Bool} (h : ∀ H (env : List (Nat × Nat)) x, Rep H env (ev s c) x → x = .bool p) : OkRun P env own o s (bif p then ev s a else ev s b) := by
  intro w H ρ hi hr hcst
  have hc := h H env _ (hr c (by rw [ho]; simp [Op.operands]))
  have ha := hr a (by rw [ho]; simp [Op.operands])
  have hb := hr b (by rw [ho]; simp [Op.operands])
  have hexec : (execOp ρ o).run P w = .ok (.value (bif p then ρ a else ρ b)) w := by
    unfold execOp
    cases p <;> simp [ho, Sem.run_bind, hc, Sem.run_pure, asBool]
  rw [hexec]
  refine ⟨H, Step.refl hi.inn, ?_⟩
  cases p
  · exact hb
  · exact ha
theorem callS_agr {o : Oper} {c : Call} (ho : o.op = .call c) {s s2 : T} (ha : Agr o s s2) : callS s2 c = callS s c := by
  have hargs : ∀ (l : List Operand), (∀ y ∈ l, y ∈ o.op.operands) → argsS s2 l = argsS s l := fun l => by
    induction l with
    | nil => intro _; rfl
    | cons y l ih => intro h; simp only [argsS]; rw [ha y (h y (by simp)), ih fun z hz => h z (by simp [hz])]
  have hl : argsS s2 c.args.toList = argsS s c.args.toList := hargs _ fun y hy => by
    rw [ho]; simp only [Op.operands, Call.operands]; exact Array.mem_append.2 (.inr (by simpa using hy))
  unfold callS
  split
  · rename_i f hf
    rw [ha f (by rw [ho]; simp [Op.operands, Call.operands, hf]), hl]
  · rfl
theorem partsS_agr {o : Oper} {t len : Nat} {parts : Array (Nat × Operand)} (ho : o.op = .buildSlice t len parts) {s s2 : T} (ha : Agr o s s2) : partsS s2 parts.toList = partsS s parts.toList := by
  have : ∀ (l : List (Nat × Operand)), (∀ y ∈ l, y.2 ∈ o.op.operands) → partsS s2 l = partsS s l := fun l => by
    induction l with
    | nil => intro _; rfl
    | cons y l ih => intro h; obtain ⟨i, y⟩ := y; simp only [partsS]; rw [ha y (h (i, y) (by simp)), ih fun z hz => h z (by simp [hz])]
  refine this _ fun y hy => ?_
  rw [ho]; simp only [Op.operands]
  exact List.mem_toArray.2 (List.mem_map.2 ⟨y, hy, rfl⟩)
theorem callE_ok {o : Oper} {c : Call} (ho : o.op = .call c) {s : T} {g : FuncId} {args : List SV} (hc : callS s c = some (g, args)) {r : SV} {own' : List Ch} (h : CallOkE P own g args r own') : OkSeq P own own' o s (put s o.dst r) := by
  intro env w H ac hs
  have hr : ∀ y ∈ o.op.operands, Rep H env (ev s y) (ac.eval y) := fun y _ => hs.rep.ev y
  rw [ho] at hr
  unfold callS at hc
  split at hc
  · rename_i f hf
    split at hc
    · rename_i g' a cp he
      simp only [Option.some.injEq, Prod.mk.injEq] at hc
      obtain ⟨rfl, rfl⟩ := hc
      have hfun := hr f (by simp [Op.operands, Call.operands, hf])
      rw [he] at hfun
      have ha := argsS_rep (H := H) (env := env) (s := s) (ρ := ac.eval) (l := c.args.toList) fun y hy => hr y (by
        simp only [Op.operands, Call.operands, hf]
        exact Array.mem_append.2 (.inr (by simpa using hy)))
      generalize hx : ac.eval f = x at hfun
      cases hfun with
      | @fn _ _ _ _ fs cs h1 h2 =>
        have hall := h1.app (ha.app h2)
        rw [appL_eq, appL_eq] at h
        have hrun := h.run env w H _ hs.inv hall
        obtain ⟨fn, hfn, hb, hn⟩ := h.fn.ok
        have hexec : (execOp ac.eval o).run P w = .ok (.enter g' (fs ++ (c.args.toList.map ac.eval ++ cs)).toArray) w := by
          unfold execOp
          simp only [ho, Sem.run_bind, resolve, hf, Deferred.ofValue, hx, Sem.run_pure, Result.andThen_ok, invoke, callFunc, program, Sem.run, hfn, hn, hb, Bool.false_eq_true, if_false]
          congr 2
          exact Array.toList_inj.1 (by simp)
        unfold Oper.wp
        rw [hexec]
        refine Calls.mono hrun ?_
        rintro e w' ⟨x, env', H', rfl, k1, k2, k3, k4, k5⟩
        exact ⟨env', H', ⟨k1, (hs.rep.mono k2.le k3).put k5 _⟩, k2, k3, k4⟩
    · cases hc
  · cases hc
theorem opB_sound (hT : tr.All (TOk P)) {hn : Hint} {kn : List (Nat × Bool)} {o : Oper} {s : T} {k : SV → List Ch → Prop} (hk : KnOk kn s) (h : opB P tr hn kn own o s k) : ∃ r own', Out P (clB hn o) o s own r own' ∧ k r own' := by
  unfold opB at h
  unfold clB
  cases hop : o.op with
  | pick c a b =>
    simp only [hop] at h ⊢
    have key : ∀ p, knO kn c = some p → k (bif p then ev s a else ev s b) own → ∃ r own', Out P .g o s own r own' ∧ k r own' := fun p hp hkk => by
      refine ⟨_, own, Out.of_run_g fun env own => pick_run hop fun H env x hx => ?_, hkk⟩
      unfold knO at hp
      split at hp
      · rename_i t
        have := hk t p hp
        unfold guardS at this
        simp only [ev] at hx
        split at this
        · rename_i hg; rw [hg] at hx; cases hx; simp at this; rw [this]
        · rename_i hg; rw [hg] at hx; cases hx; simp at this; rw [this]
        · cases this
        · cases this
      · cases hp
    split at h
    · rename_i hp; exact key true hp h
    · rename_i hp; exact key false hp h
    · exact detK_g hT h
  | load t a =>
    simp only [hop] at h ⊢
    split at h
    · rename_i hm; try simp only [hm]
      exact detK_g hT h
    · rename_i hm; try simp only [hm]
      exact detK_r hT h
  | buildSlice t len parts =>
    simp only [hop] at h ⊢
    split at h
    · rename_i e sz l hl
      split at h
      · rename_i hcl
        have ro : k (.rs len sz (nthL l)) own → ∃ r own', Out P .g o s own r own' ∧ k r own' := fun h => ⟨_, own, Out.of_run_g fun env own => lit_ok hT hop hl hcl, h⟩
        have rw_ : k (.mr (lenO own) 0 len sz) (snocO own (.row len sz e (nthL l))) → ∃ r own', Out P .e o s own r own' ∧ k r own' := fun h =>
          ⟨_, _, fun s2 ha => lit_own hT hop (by rw [partsS_agr hop ha]; exact hl) hcl, h⟩
        split at h
        · rename_i hm; (try simp only [hm]); exact rw_ h
        · rename_i hm; (try simp only [hm]); exact rw_ h
        · rename_i hm; (try simp only [hm]); exact ro h
        · rename_i hm; (try simp only [hm]); exact ro h
      · exact h.elim
    · exact h.elim
  | box t x =>
    simp only [hop] at h ⊢
    split at h
    · rename_i l hl
      split at h
      · rename_i hm
        try simp only [hm]
        split at h
        · rename_i hcl
          exact ⟨_, own, Out.of_run_g fun env own => box_ok hop hl hcl, h⟩
        · exact h.elim
      · rename_i hm
        try simp only [hm]
        exact ⟨_, _, fun s2 ha => box_own hop (by rw [ha x (by rw [hop]; simp [Op.operands])]; exact hl), h⟩
    · exact h.elim
  | alloc t =>
    simp only [hop] at h ⊢
    split at h
    · rename_i ti hti
      exact ⟨_, _, fun s2 ha => alloc_own hT hop hti, h⟩
    · exact h.elim
  | store t a x =>
    simp only [hop] at h ⊢
    have old : (match storeS tr own t (ev s a) (ev s x) with
      | some (q, own') => Ask q ∧ k (.v undef) own'
      | none => False) → ∃ r own', Out P .e o s own r own' ∧ k r own' := fun h => by
      split at h
      · rename_i q own' hst
        exact ⟨_, _, fun s2 ha => store_ok hT hop (by rw [ha a (by rw [hop]; simp [Op.operands]), ha x (by rw [hop]; simp [Op.operands])]; exact hst) h.1.ok, h.2⟩
      · exact h.elim
    split at h
    · rename_i i j sz y p hea
      split at h
      · rename_i n sz' e get hgo
        obtain ⟨new, m, c, q, r, h1, h2, h3, h4, h5, h6, h7, h8, h9⟩ := h.ok
        have h4' := Nat.eq_of_beq_eq_true h4
        subst h4'
        refine old ?_
        have : storeS tr own t (ev s a) (ev s x) = some (j < n ∧ q, setO own i (.row n sz e (setG get j r))) := by
          unfold storeS
          rw [hea, h1]
          simp only [h2, h3, hgo, storeC, Nat.beq_refl, h5, h6, h7]
        rw [this]
        exact ⟨h8, h9⟩
      · exact old h
    · exact old h
  | insert => simp only [hop] at h ⊢; exact h.ok
  | mapUpdate => simp only [hop] at h ⊢; exact h.ok
  | makeMap => simp only [hop] at h ⊢; exact h.ok
  | makeSlice t l c =>
    simp only [hop] at h ⊢
    split at h
    · rename_i q n e te hmk
      split at h
      · exact h.elim
      · rename_i nn hsz
        exact ⟨_, _, fun s2 ha => make_own hT hop (by rw [ha l (by rw [hop]; simp [Op.operands]), ha c (by rw [hop]; simp [Op.operands])]; exact hmk) h.1.ok (by omega), h.2⟩
    · exact h.elim
  | lookup => simp only [hop] at h ⊢; exact h.ok
  | call c =>
    simp only [hop] at h ⊢
    have gen : (match callS s c with
      | some (g, args) => match memD o.dst hn.fl with
        | true => CallE P own g args k
        | false => match memD o.dst hn.gl with
          | true => CallG P g args fun r => k r own
          | false => CallP P own g args fun r => k r own
      | none => OtherP P (clB hn o) own o s k) → clB hn o = (match memD o.dst hn.fl with
      | true => Cl.e
      | false => match memD o.dst hn.gl with
        | true => Cl.g
        | false => Cl.r) → ∃ r own', Out P (match memD o.dst hn.fl with
      | true => Cl.e
      | false => match memD o.dst hn.gl with
        | true => Cl.g
        | false => Cl.r) o s own r own' ∧ k r own' := fun h hcl => by
      split at h
      · rename_i g args hcs
        split at h
        · rename_i hm
          try simp only [hm]
          obtain ⟨r, own', h1, h2⟩ := h.ok
          exact ⟨r, own', fun s2 ha => callE_ok hop (by rw [callS_agr hop ha]; exact hcs) h1, h2⟩
        · rename_i hm
          try simp only [hm]
          split at h
          · rename_i hm'
            try simp only [hm']
            obtain ⟨r, h0, h1, h2⟩ := h.ok
            exact ⟨r, own, Out.of_run_g fun env own => call_ok hop hcs (.inl ⟨h0, h1⟩), h2⟩
          · rename_i hm'
            try simp only [hm']
            obtain ⟨r, h1, h2⟩ := h.ok
            exact ⟨r, own, Out.of_run_r fun env => call_ok hop hcs h1, h2⟩
      · rw [← hcl]; exact h.ok
    cases hce : c.callee with
    | builtin b =>
      simp only [hce] at h ⊢
      split at h
      · rename_i hE
        try simp only [hE]
        split at h
        · rename_i x y t t' hx hy
          split at h
          · rename_i q r own' ht ha0
            have ht := Nat.eq_of_beq_eq_true ht
            subst ht
            obtain ⟨callee, args, ts⟩ := c
            simp only at hce hx hy
            have e1 : args = #[x, y] := by rw [← Array.toList_inj]; simpa using hx
            have e2 : ts = #[t, t] := by rw [← Array.toList_inj]; simpa using hy
            subst hce; subst e1; subst e2
            exact ⟨r, own', fun s2 ha => append_ok hT hop (by rw [ha x (by rw [hop]; simp [Op.operands, Call.operands]), ha y (by rw [hop]; simp [Op.operands, Call.operands])]; exact ha0) h.1.ok, h.2⟩
          · exact h.ok
        · exact h.ok
      · rename_i hE
        try simp only [hE]
        exact detK_g hT h
    | value f =>
      simp only [hce] at h ⊢
      exact gen h (by unfold clB; simp only [hop, hce])
    | invoke f m =>
      simp only [hce] at h ⊢
      exact gen h (by unfold clB; simp only [hop, hce])
  | _ => simp only [hop] at h ⊢; exact detK_g hT h
theorem Out.toSeq {c : Cl} {o : Oper} {s : T} {own own' : List Ch} {r : SV} (h : Out P c o s own r own') {s2 : T} (ha : Agr o s s2) : OkSeq P own own' o s2 (put s2 o.dst r) := by
  have h := h s2 ha
  cases c with
  | g => obtain ⟨e, h⟩ := h; rw [e]; exact h own
  | r => obtain ⟨e, h⟩ := h; rw [e]; exact h
  | e => exact h
theorem opS_sound (hT : tr.All (TOk P)) {hn : Hint} {kn : List (Nat × Bool)} {o : Oper} {s : T} {k : SV → List Ch → Prop} (hk : KnOk kn s) (h : opS P tr hn kn own o s k) : ∃ r own', Out P (clO hn o) o s own r own' ∧ k r own' := by
  unfold opS at h
  unfold clO
  split at h
  · rename_i hm
    try simp only [hm]
    obtain ⟨r, own1, h1, h2⟩ := opB_sound hT hk h
    rw [forceV_eq, forceO_eq] at h2
    unfold sealK at h2
    split at h2
    · rename_i q r' own' hs
      refine ⟨r', own', fun s2 ha => ?_, h2.2⟩
      cases hd : o.dst with
      | none => rw [hd] at hm; cases hm
      | some d =>
        have h3 := h1.toSeq ha
        rw [hd] at h3
        intro env w H a hsim
        refine Oper.wp_mono2 (h3 env w H a hsim) ?_
        rintro a' w' ⟨env', H', k1, k2, k3, k4⟩
        obtain ⟨H2, k5, k6⟩ := Sim.shut (s := s2) (d := d) k1 hs h2.1.ok
        exact ⟨env', H2, k5, k2.comp k6 k4, k3, k4⟩
    · exact h2.elim
  · rename_i hm
    try simp only [hm]
    exact opB_sound hT hk h
theorem dropK_spec {d : Option Nat} : ∀ {kn : List (Nat × Bool)} {g : Nat} {b : Bool}, knS (dropK d kn) g = some b → knS kn g = some b ∧ d ≠ some g
  | [], g, b, h => by cases h
  | (x, c) :: l, g, b, h => by
    have other : knS ((x, c) :: dropK d l) g = some b → d ≠ some x → knS ((x, c) :: l) g = some b ∧ d ≠ some g := fun h' hd => by
      unfold knS at h' ⊢
      split at h'
      · rename_i hb
        have := Nat.eq_of_beq_eq_true hb
        subst this
        exact ⟨h', hd⟩
      · exact dropK_spec h'
    unfold dropK at h
    split at h
    · rename_i n
      split at h
      · rename_i hb
        have := Nat.eq_of_beq_eq_true hb
        subst this
        obtain ⟨h1, h2⟩ := dropK_spec h
        refine ⟨?_, h2⟩
        unfold knS
        split
        · rename_i hb
          have := Nat.eq_of_beq_eq_true hb
          subst this
          exact absurd rfl h2
        · exact h1
      · rename_i hb
        exact other h fun e => by injection e with e; subst e; simp at hb
    · exact other h (by simp)
theorem KnOk.put {kn : List (Nat × Bool)} {s : T} (h : KnOk kn s) (d : Option Nat) (r : SV) : KnOk (dropK d kn) (put s d r) := fun g b hg => by
  obtain ⟨h1, h2⟩ := dropK_spec hg
  have := h g b h1
  unfold guardS at *
  cases d with
  | none => exact this
  | some d => simp only [Eng.put]; rw [getS_setS s r (fun e => h2 (by rw [e]))]; exact this
theorem guardP_sound {ops : Array Oper} {o : Oper} {kn : List (Nat × Bool)} {s : T} {run skip : List (Nat × Bool) → Prop} (hk : KnOk kn s) (h : guardP ops o kn s run skip) :
    ∃ kn', KnOk kn' s ∧ ((wantedS ops o s = some true ∧ run kn') ∨ (wantedS ops o s = some false ∧ skip kn')) := by
  unfold guardP at h
  unfold wantedS
  split at h
  · rename_i hg; exact ⟨kn, hk, .inl ⟨by simp only [hg], h⟩⟩
  · rename_i j want hg
    simp only [hg]
    split at h
    · rename_i hd
      exact ⟨kn, hk, .inr ⟨by simp only [hd], h⟩⟩
    · rename_i g hd
      simp only [hd]
      have fin : ∀ (p : Bool) (kn' : List (Nat × Bool)), KnOk kn' s → guardS s g = some (some p) → (match p == want with | true => run kn' | false => skip kn') → ∃ kn', KnOk kn' s ∧
          (((match guardS s g with | some (some p) => some (p == want) | some none => some false | none => none) = some true ∧ run kn') ∨ ((match guardS s g with | some (some p) => some (p == want) | some none => some false | none => none) = some false ∧ skip kn')) := fun p kn' hk' hp hh => by
        rw [hp]
        refine ⟨kn', hk', ?_⟩
        split at hh
        · rename_i hw; exact .inl ⟨by simp only [hw], hh⟩
        · rename_i hw; exact .inr ⟨by simp only [hw], hh⟩
      split at h
      · rename_i p hp
        exact fin p kn hk (hk g p hp) h
      · split at h
        · rename_i p hs
          exact fin p kn hk (by unfold guardS; rw [hs]) h
        · rename_i p hs
          have hgs : guardS s g = some (some p) := by unfold guardS; rw [hs]
          exact fin p ((g, p) :: kn) (fun g' b' hb' => by
            unfold knS at hb'
            split at hb'
            · rename_i hb
              have := Nat.eq_of_beq_eq_true hb
              subst this
              injection hb' with hb'
              subst hb'
              exact hgs
            · exact hk g' b' hb') hgs h.out
        · rename_i hs
          refine ⟨kn, hk, .inr ⟨?_, h⟩⟩
          unfold guardS; rw [hs]
        · exact h.elim
theorem vcS_sound (hT : tr.All (TOk P)) {hn : Hint} {ops : Array Oper} : ∀ {l : List Oper} {kn : List (Nat × Bool)} {s : T} {own : List Ch} {K : T → List Ch → Prop}, KnOk kn s → vcS P tr hn ops l kn s own K → vcY P ops (clO hn) l s own K
  | [], kn, s, own, K, hk, h => h
  | o :: l, kn, s, own, K, hk, h => by
    have h : guardP ops o kn s
      (fun kn => opS P tr hn kn own o s fun r own' => forceV r fun r => forceS (put s o.dst r) fun s => forceO own' fun own => vcS P tr hn ops l (dropK o.dst kn) s own K)
      (fun kn => forceS (put s o.dst (.v undef)) fun s => vcS P tr hn ops l (dropK o.dst kn) s own K) := h
    obtain ⟨kn', hk', h | h⟩ := guardP_sound hk h
    · obtain ⟨hw, h⟩ := h
      obtain ⟨r, own', h1, h2⟩ := opS_sound hT hk' h
      rw [forceV_eq, forceS_eq, forceO_eq] at h2
      exact ⟨r, own', .inl ⟨hw, h1⟩, vcS_sound hT (hk'.put _ _) h2⟩
    · obtain ⟨hw, h⟩ := h
      rw [forceS_eq] at h
      exact ⟨_, own, .inr ⟨hw, rfl, rfl⟩, vcS_sound hT (hk'.put _ _) h⟩
end
end Go.Eng
