/- A part of the proof that the law of this seat answers true for every input, without a condition. -/
import Derived.Test.YtebcglidpmfamaaEngH
set_option linter.all false
set_option linter.unusedVariables false
set_option linter.unusedSimpArgs false
namespace Go.Eng
open Go
section
variable {P : Program} {env : List (Nat × Nat)} {own : List Ch} {tr : Tr}
def appL : List SV → List SV → List SV
  | [], l => l
  | x :: l, m => x :: appL l m
theorem appL_eq (l m : List SV) : appL l m = l ++ m := by induction l with | nil => rfl | cons x l ih => simp [appL, ih]
/-- The function and the arguments of a call of a function value. -/
def callS (s : T) (c : Call) : Option (FuncId × List SV) :=
  match c.callee with
  | .value f => match ev s f with
    | .fn (.func g) a cp => some (g, appL a (appL (argsS s c.args.toList) cp))
    | _ => none
  | _ => none
theorem RepA.app {H : Hp} : ∀ {l m : List SV} {xs ys : List Value}, RepA H env l xs → RepA H env m ys → RepA H env (l ++ m) (xs ++ ys)
  | [], m, _, _, .nil, h => h
  | _ :: _, m, _, _, .cons h1 h2, h => .cons h1 (h2.app h)
theorem call_ok {s : T} {o : Oper} {c : Call} (ho : o.op = .call c) {g : FuncId} {args : List SV} (hc : callS s c = some (g, args)) {r : SV} (h : CallOk P own g args r) : OkRun P env own o s r := by
  intro w H ρ hi hr hcst
  rw [ho] at hr
  unfold callS at hc
  split at hc
  · rename_i f hf
    split at hc
    · rename_i g' a cp he
      simp only [Option.some.injEq, Prod.mk.injEq] at hc
      obtain ⟨rfl, rfl⟩ := hc
      have hfun := hr f (by simp [Op.operands, Call.operands, hf])
      rw [he] at hfun
      have ha := argsS_rep (H := H) (env := env) (s := s) (ρ := ρ) (l := c.args.toList) fun y hy => hr y (by
        simp only [Op.operands, Call.operands, hf]
        exact Array.mem_append.2 (.inr (by simpa using hy)))
      generalize hx : ρ f = x at hfun
      cases hfun with
      | @fn _ _ _ _ fs cs h1 h2 =>
        have hall := h1.app (ha.app h2)
        rw [appL_eq, appL_eq] at h
        have hrun := h.run hi hall
        obtain ⟨fn, hfn, hb, hn⟩ := h.fn.ok
        have hexec : (execOp ρ o).run P w = .ok (.enter g' (fs ++ (c.args.toList.map ρ ++ cs)).toArray) w := by
          unfold execOp
          simp only [ho, Sem.run_bind, resolve, hf, Deferred.ofValue, hx, Sem.run_pure, Result.andThen_ok, invoke, callFunc, program, Sem.run, hfn, hn, hb, Bool.false_eq_true, if_false]
          congr 2
          exact Array.toList_inj.1 (by simp)
        rw [hexec]
        exact hrun
    · cases hc
  · cases hc

/-! ### New memory that is sealed at once -/
def newH (H : Hp) (b : Nat) (o : Obj) : Hp := fun k => if k = b then some o else H k
theorem HIn.none_ {w : World} {H : Hp} (h : HIn H w) : H w.heap.size = none := by
  cases hb : H w.heap.size with
  | none => rfl
  | some o => have := h _ _ hb; simp at this
theorem newH_le {H : Hp} {w : World} (h : HIn H w) (o : Obj) : HLe H (newH H w.heap.size o) := fun b x hb => by
  unfold newH
  split
  · rename_i e; subst e; rw [h.none_] at hb; cases hb
  · exact hb
theorem Step.alloc {M : Nat → Prop} {w : World} {H : Hp} (h : HIn H w) (o : Obj) : Step M w H { w with heap := w.heap.push o } (newH H w.heap.size o) where
  os := rfl
  tape := rfl
  output := rfl
  size := by simp
  block := fun k hk _ => by simp [Array.getElem?_push, show k ≠ w.heap.size by omega]
  le := newH_le h o
  inn := fun b x hb => by
    unfold newH at hb
    split at hb
    · rename_i e; subst e; simpa using hb
    · have hb' := h _ _ hb
      have hlt : b < w.heap.size := (Array.getElem?_eq_some_iff.1 hb').1
      simpa [Array.getElem?_push, show b ≠ w.heap.size by omega] using hb'
  new := fun b h1 h2 => by
    unfold newH at h2
    split at h2
    · rename_i e; exact .inl (by omega)
    · exact absurd h1 h2
theorem Step.alloc_own {M : Nat → Prop} {w : World} {H : Hp} (h : HIn H w) (o : Obj) : Step M w H { w with heap := w.heap.push o } H where
  os := rfl
  tape := rfl
  output := rfl
  size := by simp
  block := fun k hk _ => by simp [Array.getElem?_push, show k ≠ w.heap.size by omega]
  le := HLe.refl _
  inn := fun b x hb => by
    have hb' := h _ _ hb
    have hlt : b < w.heap.size := (Array.getElem?_eq_some_iff.1 hb').1
    simpa [Array.getElem?_push, show b ≠ w.heap.size by omega] using hb'
  new := fun b h1 h2 => absurd h1 h2
theorem cellH_new {H : Hp} {b : Nat} {arr : Array Value} {ty : TypeId} {f : Nat × Nat} (o : Nat) : cellH (newH H b (.cells arr ty f)) ⟨b, o, none⟩ = arr[o]? := by
  unfold cellH newH
  simp
/-- A literal's elements: as many parts as elements, in their order. -/
def elsL (sz : Nat) : Nat → List (Nat × SV) → Option (List (List SV))
  | _, [] => some []
  | k, (i, s) :: rest => match Nat.beq i k with
    | true => match cellsS s with
      | some new => match Nat.beq (buildL.wdL new) sz with
        | true => match elsL sz (k + 1) rest with
          | some l => some (new :: l)
          | none => none
        | false => none
      | none => none
    | false => none
def nthL : List (List SV) → Nat → List SV
  | [], _ => []
  | x :: _, 0 => x
  | _ :: l, n + 1 => nthL l n
def litS (tr : Tr) (t len : Nat) (parts : List (Nat × SV)) : Option (Nat × Nat × List (List SV)) :=
  match tr.find t with
  | some ti => match ti.desc with
    | .slice e => match tr.find e with
      | some te => match te.size, Nat.beq parts.length len, Nat.ble (len * te.size) 16777216 with
        | _ + 1, true, true => match elsL te.size 0 parts with
          | some l => some (e, te.size, l)
          | none => none
        | _, _, _ => none
      | none => none
    | _ => none
  | none => none
theorem elsL_fill {H : Hp} {e : List (Nat × Nat)} {sz : Nat} : ∀ {parts : List (Nat × SV)} {vals : List (Nat × Value)} {k : Nat} {l : List (List SV)} {arr : Array Value}, elsL sz k parts = some l →
    parts.length = vals.length → (∀ (j : Nat) p v, parts[j]? = some p → vals[j]? = some v → p.1 = v.1 ∧ Rep H e p.2 v.2) → arr.size = (k + parts.length) * sz →
    ∃ (arr' : Array Value) (us : List (List Value)), Instr.fill (fun i => some (i * sz, sz)) arr vals = some arr' ∧ us.length = l.length ∧ l.length = parts.length ∧ arr'.toList = arr.toList.take (k * sz) ++ us.flatten ∧
      ∀ (j : Nat) x u, l[j]? = some x → us[j]? = some u → RepL H e x u ∧ u.length = sz
  | [], [], k, l, arr, h, _, _, hs => by
    simp only [elsL, Option.some.injEq] at h
    subst h
    exact ⟨arr, [], rfl, rfl, rfl, by simp at hs; rw [List.flatten_nil, List.append_nil, List.take_of_length_le (by simp [hs])], fun j x u h => by simp at h⟩
  | (i, s) :: parts, [], k, l, arr, h, hl, _, _ => by simp at hl
  | [], v :: vals, k, l, arr, h, hl, _, _ => by simp at hl
  | (i, s) :: parts, (j, v) :: vals, k, l, arr, h, hl, hp, hs => by
    obtain ⟨h0, hv⟩ := hp 0 _ _ rfl rfl
    simp only at h0 hv
    subst h0
    unfold elsL at h
    split at h
    · rename_i hb
      have := Nat.eq_of_beq_eq_true hb
      subst this
      split at h
      · rename_i new hn
        split at h
        · rename_i hw
          have hw := Nat.eq_of_beq_eq_true hw
          split at h
          · rename_i l' hl'
            injection h with h
            subst h
            have hnew := cellsS_rep hn hv
            have hlen := wdL_len hnew
            simp only [Array.length_toList] at hlen
            simp only [List.length_cons] at hs hl
            have hroom : i * sz + 0 + v.cells.toList.length ≤ arr.size := by
              rw [hs]; simp; rw [hlen, hw, Nat.add_mul, Nat.succ_mul]; omega
            have hfold := fold_splice v.cells.toList (i * sz) 0 arr hroom
            have hsz : v.cells.size = sz := by omega
            generalize harr : v.cells.zipIdx.foldl (fun (cs : Array Value) (x : Value × Nat) => cs.setIfInBounds (i * sz + x.2) x.1) arr = arr1
            have h1 : arr1.toList = splice arr.toList (i * sz) v.cells.toList := by
              rw [← harr, ← Array.foldl_toList, Array.toList_zipIdx]
              simpa using hfold
            have hroom' : i * sz + sz ≤ arr.size := by simp at hroom; omega
            have hs1 : arr1.size = arr.size := by
              have := congrArg List.length h1
              unfold splice at this
              simp only [Array.length_toList, List.length_append, List.length_take, List.length_drop, hsz] at this
              omega
            obtain ⟨arr', us, h2, h3, h4, h5, h6⟩ := elsL_fill (k := i + 1) (arr := arr1) (vals := vals) hl' (by omega) (fun j p u hj hj' => hp (j + 1) p u (by simpa using hj) (by simpa using hj')) (by rw [hs1, hs]; congr 1; omega)
            refine ⟨arr', v.cells.toList :: us, ?_, by simp [h3], by simp [h4], ?_, fun j x u hx hu => ?_⟩
            · unfold Instr.fill
              simp only
              rw [if_neg, harr]
              · exact h2
              · simp only [hsz, ne_eq, not_true_eq_false, decide_false, Bool.false_or, decide_eq_true_eq]
                simp at hroom
                omega
            · rw [h5, h1]
              unfold splice
              rw [List.flatten_cons, ← List.append_assoc, List.take_left' (by simp only [List.length_append, List.length_take, Array.length_toList, hsz]; rw [Nat.succ_mul]; omega)]
            · cases j with
              | zero => simp at hx hu; subst hx; subst hu; exact ⟨hnew, by simpa using hsz⟩
              | succ j => exact h6 j x u (by simpa using hx) (by simpa using hu)
          · cases h
        · cases h
      · cases h
    · cases h
def closedLL : List (List SV) → Bool
  | [] => true
  | l :: ls => closedL l && closedLL ls
theorem closedLL_get : ∀ {ls : List (List SV)} {j : Nat} {l : List SV}, closedLL ls = true → ls[j]? = some l → closedL l = true
  | [], j, l, _, h => by simp at h
  | x :: ls, 0, l, hc, h => by
    simp only [closedLL, Bool.and_eq_true] at hc
    simp at h; subst h; exact hc.1
  | x :: ls, j + 1, l, hc, h => by
    simp only [closedLL, Bool.and_eq_true] at hc
    exact closedLL_get hc.2 (by simpa using h)
theorem nthL_get : ∀ {ls : List (List SV)} {j : Nat}, j < ls.length → ls[j]? = some (nthL ls j)
  | [], j, h => by simp at h
  | x :: ls, 0, h => rfl
  | x :: ls, j + 1, h => by simpa [nthL] using nthL_get (ls := ls) (j := j) (by simpa using h)
theorem flat_us {us : List (List Value)} {sz : Nat} (h : ∀ (j : Nat) (u : List Value), us[j]? = some u → u.length = sz) : us.flatten = flat us.length (fun j => us[j]?.getD []) := by
  induction us with
  | nil => rfl
  | cons u us ih =>
    have h' := ih (fun j v hv => h (j + 1) v (by simpa using hv))
    rw [List.flatten_cons, h']
    simp [flat, List.range_succ_eq_map, List.flatMap_map]
/-- What a slice literal's cells are. -/
theorem lit_run (hT : tr.All (TOk P)) {t len : Nat} {parts : List (Nat × SV)} {e sz : Nat} {l : List (List SV)} (h : litS tr t len parts = some (e, sz, l)) {w : World} {H : Hp} {vals : Array (Nat × Value)}
    (hl : parts.length = vals.size) (hp : ∀ (k : Nat) p v, parts[k]? = some p → vals[k]? = some v → p.1 = v.1 ∧ Rep H env p.2 v.2) :
    ∃ (arr : Array Value) (us : Nat → List Value), (Instr.buildSlice t len vals).run P w = .ok (.slice (some ⟨w.heap.size, 0, none⟩) len len) { w with heap := w.heap.push (.cells arr e) } ∧ 0 < sz ∧ l.length = len ∧ len ≤ 16777216 ∧ arr.size = len * sz ∧ arr.toList = flat len us ∧
      (∀ j, j < len → RepL H env (nthL l j) (us j) ∧ (us j).length = sz) := by
  unfold litS at h
  split at h
  · rename_i ti hti
    have ht := (Tr.find_all hT hti).und
    split at h
    · rename_i e' hd
      rw [hd] at ht
      split at h
      · rename_i te hte
        obtain ⟨i, z', hinf, hsz, _⟩ := (Tr.find_all hT hte).inf
        obtain ⟨z, hz, hzs, _⟩ := run_zero (Tr.find_all hT hte) w
        split at h
        · rename_i m hm hlen hbnd
          have hlen := Nat.eq_of_beq_eq_true hlen
          have hbnd := Nat.le_of_ble_eq_true hbnd
          split at h
          · rename_i l' hel
            simp only [Option.some.injEq, Prod.mk.injEq] at h
            obtain ⟨rfl, rfl, rfl⟩ := h
            have hpos : 0 < te.size := by omega
            let arr0 : Array Value := (Array.range (len * te.size)).map (fun k => (if len * te.size = 0 then #[] else z.cells)[k % (if len * te.size = 0 then #[] else z.cells).size]!)
            obtain ⟨arr', us, h1, h2, h3, h4, h5⟩ := elsL_fill (e := env) (H := H) (vals := vals.toList) (k := 0) (arr := arr0) hel (by simpa using hl) (fun j p v hj hj' => hp j p v hj (by simpa using hj')) (by simp [arr0, hlen])
            have hus : us.length = len := by omega
            have hul : ∀ (j : Nat) (u : List Value), us[j]? = some u → u.length = te.size := fun j u hu => by
              have hj : j < us.length := (List.getElem?_eq_some_iff.1 hu).1
              exact (h5 j _ u (nthL_get (by omega)) hu).2
            have h4' : arr'.toList = flat len (fun j => us[j]?.getD []) := by
              rw [h4, flat_us hul, hus]
              simp
            refine ⟨arr', fun j => us[j]?.getD [], ?_, hpos, by omega, ?_, ?_, h4', fun j hj => ?_⟩
            · unfold Instr.buildSlice
              simp only [Sem.run_bind, run_underlying ht, Result.andThen_ok, run_sizeOf hinf, hsz]
              rw [if_neg (by omega)]
              by_cases h0 : len * te.size = 0
              · have h1' := h1
                simp only [arr0, h0, if_true] at h1'
                simp only [h0, if_true, Sem.run_bind, Sem.run_pure, Result.andThen_ok]
                rw [h1']
                simp [Sem.run_bind, newRow, newObj, Sem.run]
              · have h1' := h1
                simp only [arr0, h0, if_false] at h1'
                simp only [h0, if_false, Sem.run_bind, hz, Sem.run_pure, Result.andThen_ok]
                rw [h1']
                simp [Sem.run_bind, newRow, newObj, Sem.run]
            · have : len * 1 ≤ len * te.size := Nat.mul_le_mul_left _ hpos
              omega
            · have := congrArg List.length h4'
              simp only [Array.length_toList] at this
              rw [this]
              have hfl : ∀ (n : Nat) (f : Nat → List Value), (∀ j, j < n → (f j).length = te.size) → (flat n f).length = n * te.size := by
                intro n f
                induction n with
                | zero => intro _; simp [flat]
                | succ n ih =>
                  intro hf
                  have : flat (n + 1) f = flat n f ++ f n := by simp [flat, List.range_succ]
                  rw [this, List.length_append, ih (fun j hj => hf j (by omega)), hf n (by omega), Nat.succ_mul]
              exact hfl len _ fun j hj => hul j _ (by rw [List.getElem?_eq_getElem (by omega)]; try rfl)
            · have hj' : us[j]? = some (us[j]?.getD []) := by rw [List.getElem?_eq_getElem (by omega)]; rfl
              exact h5 j _ _ (nthL_get (by omega)) hj'
          · cases h
        · cases h
      · cases h
    · cases h
  · cases h
theorem partsOf {o : Oper} {t len : Nat} {parts : Array (Nat × Operand)} {s : T} {H : Hp} {ρ : Operand → Value} (ho : o.op = .buildSlice t len parts) (hr : ∀ y ∈ o.op.operands, Rep H env (ev s y) (ρ y)) :
    (partsS s parts.toList).length = (parts.map fun (i, x) => (i, ρ x)).size ∧ ∀ (k : Nat) p v, (partsS s parts.toList)[k]? = some p → (parts.map fun (i, x) => (i, ρ x))[k]? = some v → p.1 = v.1 ∧ Rep H env p.2 v.2 := by
  refine ⟨by simp [(partsS_rep (s := s)).1], fun k p v hk hv => ?_⟩
  obtain ⟨y, h1, h2⟩ := (partsS_rep (s := s)).2 k p hk
  rw [Array.getElem?_map] at hv
  rw [show parts[k]? = some (p.1, y) by simpa using h1] at hv
  simp only [Option.map_some, Option.some.injEq] at hv
  subst hv
  refine ⟨rfl, ?_⟩
  rw [h2]
  refine hr y ?_
  rw [ho]
  simp only [Op.operands]
  exact List.mem_toArray.2 (List.mem_map.2 ⟨(p.1, y), List.mem_of_getElem? h1, rfl⟩)
/-- A slice literal that is read alone from then on. -/
theorem lit_ok (hT : tr.All (TOk P)) {s : T} {o : Oper} {t len : Nat} {parts : Array (Nat × Operand)} (ho : o.op = .buildSlice t len parts) {e sz : Nat} {l : List (List SV)} (h : litS tr t len (partsS s parts.toList) = some (e, sz, l)) (hc : closedLL l = true) :
    OkRun P env own o s (.rs len sz (nthL l)) := by
  intro w H ρ hi hr hcst
  obtain ⟨h1, h2⟩ := partsOf (env := env) ho hr
  obtain ⟨arr, us, hrun, hpos, hll, hlen, harr, hfl, hus⟩ := lit_run (env := env) hT h (w := w) (H := H) h1 h2
  have hexec : (execOp ρ o).run P w = .ok (.value (.slice (some ⟨w.heap.size, 0, none⟩) len len)) { w with heap := w.heap.push (.cells arr e) } := by
    unfold execOp
    simp only [ho, Sem.run_bind, hrun, Result.andThen_ok, Sem.run_pure]
  rw [hexec]
  refine ⟨newH H w.heap.size (.cells arr e), Step.alloc hi.inn _, .rs us (fun j hj => ?_) (fun j hj => (hus j hj).2) (Nat.le_refl _) (by omega) (fun j hj => ⟨_, rfl, fun k u hu => ?_⟩)⟩
  · exact ((hus j hj).1.closed (closedLL_get hc (nthL_get (by omega)))).mono (newH_le hi.inn _) (EnvLe.refl _)
  · rw [add_none, cellH_new]
    have := flat_get (fun j hj => (hus j hj).2) hj [] k u hu
    rw [List.append_nil, ← hfl] at this
    simpa using this
theorem lit0_ok (hT : tr.All (TOk P)) {s : T} {o : Oper} {t : Nat} (ho : o.op = .buildSlice t 0 #[]) {e sz : Nat} {l : List (List SV)} (h : litS tr t 0 [] = some (e, sz, l)) : OkRun P env own o s .emp := by
  intro w H ρ hi hr hcst
  obtain ⟨arr, us, hrun, _⟩ := lit_run (env := env) hT h (w := w) (H := H) (vals := #[]) rfl (fun k p v hk => by simp at hk)
  have hexec : (execOp ρ o).run P w = .ok (.value (.slice (some ⟨w.heap.size, 0, none⟩) 0 0)) { w with heap := w.heap.push (.cells arr e) } := by
    unfold execOp
    simp only [ho, Array.map_empty, Sem.run_bind, hrun, Result.andThen_ok, Sem.run_pure]
  rw [hexec]
  exact ⟨H, Step.alloc_own hi.inn _, .emp _⟩
/-- A variable that is read alone from then on. -/
theorem box_ok {s : T} {o : Oper} {t : Nat} {x : Operand} (ho : o.op = .box t x) {l : List SV} (h : cellsS (ev s x) = some l) (hc : closedL l = true) : OkRun P env own o s (.rp l) := by
  intro w H ρ hi hr hcst
  have hx := hr x (by rw [ho]; simp [Op.operands])
  have hcl := cellsS_rep h hx
  have hexec : (execOp ρ o).run P w = .ok (.value (.pointer (some ⟨w.heap.size, 0, none⟩))) { w with heap := w.heap.push (.cells (ρ x).cells t) } := by
    unfold execOp
    simp [ho, Sem.run_bind, Instr.box, newVar, newRow, newObj, Sem.run]
  rw [hexec]
  refine ⟨newH H w.heap.size (.cells (ρ x).cells t), Step.alloc hi.inn _, .rp ((hcl.closed hc).mono (newH_le hi.inn _) (EnvLe.refl _)) (fun k u hu => ?_)⟩
  rw [add_none, cellH_new]
  simpa using hu
end
end Go.Eng
