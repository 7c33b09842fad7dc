/- A part of the proof that the law of this seat answers true for every input, without a condition. -/
import Derived.Test.YtebcglidpmfamaaEngX
set_option linter.all false
set_option linter.unusedVariables false
set_option linter.unusedSimpArgs false
namespace Go.Eng
open Go
/-! ### copy, clear: several elements of a row written at once -/
def copyG (get : Nat → List SV) (lo m : Nat) (g : Nat → List SV) : Nat → List SV := fun j => match Nat.ble lo j, Nat.blt j (lo + m) with
  | true, true => g (j - lo)
  | _, _ => get j
theorem copyG_eq (get : Nat → List SV) (lo m : Nat) (g : Nat → List SV) (j : Nat) : copyG get lo m g j = if lo ≤ j ∧ j < lo + m then g (j - lo) else get j := by
  unfold copyG
  by_cases h1 : lo ≤ j
  · have e1 : Nat.ble lo j = true := (by rw [Nat.ble_eq]; exact h1)
    by_cases h2 : j < lo + m
    · have e2 : Nat.blt j (lo + m) = true := by rw [Nat.blt_eq]; exact h2
      simp only [e1, e2]; rw [if_pos ⟨h1, h2⟩]
    · have e2 : Nat.blt j (lo + m) = false := by
        cases hb : Nat.blt j (lo + m) with
        | false => rfl
        | true => rw [Nat.blt_eq] at hb; exact absurd hb h2
      simp only [e1, e2]; rw [if_neg (fun h => h2 h.2)]
  · have e1 : Nat.ble lo j = false := by
      cases hb : Nat.ble lo j with
      | false => rfl
      | true => rw [Nat.ble_eq] at hb; exact absurd hb h1
    simp only [e1]; rw [if_neg (fun h => h1 h.1)]
theorem splice_splice (X us vs : List Value) (a : Nat) (h : a + us.length + vs.length ≤ X.length) : splice (splice X a us) (a + us.length) vs = splice X a (us ++ vs) := by
  apply List.ext_getElem?
  intro j
  rw [splice_get _ _ _ _ (by rw [splice_len _ _ _ (by omega)]; omega), splice_get _ _ _ _ (by omega), splice_get _ _ _ _ (by simp; omega), List.length_append]
  grind
theorem splice_nil (X : List Value) (a : Nat) : splice X a [] = X := by simp [splice]
theorem flat_put {sz lo : Nat} {vals src : Nat → List Value} {N : Nat} : ∀ {m : Nat}, (∀ j, j < N → (vals j).length = sz) → (∀ j, j < m → (src j).length = sz) → lo + m ≤ N →
    flat N (fun j => if lo ≤ j ∧ j < lo + m then src (j - lo) else vals j) = splice (flat N vals) (lo * sz) (flat m src) := by
  intro m
  induction m with
  | zero =>
    intro h1 h2 h3
    rw [show flat 0 src = [] by simp [flat], splice_nil]
    exact flat_congr fun j hj => if_neg (by omega)
  | succ m ih =>
    intro h1 h2 h3
    have hlen : ∀ j, j < N → (if lo ≤ j ∧ j < lo + m then src (j - lo) else vals j).length = sz := fun j hj => by
      split
      · exact h2 _ (by omega)
      · exact h1 j hj
    have e1 := flat_splice (k := lo + m) (o := 0) (us := src m) (n := N) hlen (by omega) (by rw [h2 m (by omega)]; omega)
    rw [flat_succ, ← splice_splice]
    · rw [← ih h1 (fun j hj => h2 j (by omega)) (by omega), flat_len (fun j hj => h2 j (by omega))]
      rw [show lo * sz + m * sz = (lo + m) * sz + 0 by rw [Nat.add_mul]; rfl, ← e1]
      refine flat_congr fun j hj => ?_
      by_cases hjk : j = lo + m
      · subst hjk
        rw [if_pos (by omega), if_pos rfl, show lo + m - lo = m by omega]
        unfold splice
        simp only [List.take_zero, List.nil_append, Nat.zero_add]
        rw [List.drop_of_length_le, List.append_nil]
        rw [if_neg (by omega), h1 _ hj, h2 m (by omega)]; exact Nat.le_refl _
      · rw [if_neg hjk]
        by_cases hc : lo ≤ j ∧ j < lo + m
        · rw [if_pos (by omega), if_pos hc]
        · rw [if_neg (by omega), if_neg hc]
    · rw [flat_len (fun j hj => h2 j (by omega)), h2 m (by omega), flat_len h1]
      have : (lo + (m + 1)) * sz ≤ N * sz := Nat.mul_le_mul_right _ h3
      rw [Nat.add_mul, Nat.succ_mul] at this
      omega
section
variable {P : Program} {env : List (Nat × Nat)} {own : List Ch} {tr : Tr}
theorem row_put {H : Hp} {w : World} {b c N sz e : Nat} {get : Nat → List SV} {arr : Array Value} {vals : Nat → List Value} (hc : 0 < c) (hw : w.heap[b]? = some (.cells arr e (0, 0))) (h2 : N ≤ c) (h6 : c ≤ 9223372036854775807) (h3 : arr.size = c * sz)
    (h4 : ∀ j, j < N → RepL H [] (get j) (vals j)) (h5 : ∀ j, j < N → (vals j).length = sz) (h7 : arr.toList.take (N * sz) = flat N vals)
    {lo m : Nat} {g : Nat → List SV} {src : Nat → List Value} (s1 : ∀ j, j < m → RepL H [] (g j) (src j)) (s2 : ∀ j, j < m → (src j).length = sz) (hlo : lo + m ≤ N) :
    ∃ w' arr', (storeCells ⟨b, lo * sz, none⟩ (flat m src)).run P w = .ok () w' ∧ Wrote w w' b arr' e ∧ ChOK H env w' b c (.row N sz e (copyG get lo m g)) := by
  have hfl := flat_len s2
  have hN := flat_len h5
  have hle : (lo + m) * sz ≤ N * sz := Nat.mul_le_mul_right _ hlo
  rw [Nat.add_mul] at hle
  have hNc : N * sz ≤ c * sz := Nat.mul_le_mul_right _ h2
  obtain ⟨w', arr', k1, k2, k3⟩ := run_storeCells (P := P) (flat m src) b (lo * sz) 0 w arr e hw (RepL_ones_flat s1) (by rw [hfl, h3]; omega)
  refine ⟨w', arr', k1, k2, ?_⟩
  rw [Nat.add_zero] at k3
  have hlenA : lo * sz + (flat m src).length ≤ arr.toList.length := by rw [hfl, Array.length_toList, h3]; omega
  have hsize : arr'.size = arr.size := by
    have := congrArg List.length k3
    rw [splice_len _ _ _ hlenA] at this
    simpa using this
  refine .row (fun j => if lo ≤ j ∧ j < lo + m then src (j - lo) else vals j) hc k2.at_ h2 h6 (by rw [hsize, h3]) (fun j hj => ?_) (fun j hj => ?_) ?_
  · rw [copyG_eq]
    by_cases hh : lo ≤ j ∧ j < lo + m
    · simp only [if_pos hh]; exact s1 _ (by omega)
    · simp only [if_neg hh]; exact h4 j hj
  · show (if lo ≤ j ∧ j < lo + m then src (j - lo) else vals j).length = sz
    split
    · exact s2 _ (by omega)
    · exact h5 j hj
  · rw [flat_put h5 s2 hlo, k3]
    have harr : arr.toList = flat N vals ++ arr.toList.drop (N * sz) := by rw [← h7]; simp
    rw [harr, splice_left _ _ _ _ (by rw [hfl, hN]; omega)]
    rw [List.take_left' (by rw [splice_len _ _ _ (by rw [hfl, hN]; omega), hN])]
theorem toNat_lenOf {A : Option Addr} {m c : Nat} {w : World} : (Builtin.lenOf (.slice A m c)).run P w = .ok m w := by simp [Builtin.lenOf]
theorem Wrote.id {w : World} {b : Nat} {arr : Array Value} {ty : TypeId} (h : w.heap[b]? = some (.cells arr ty (0, 0))) : Wrote w w b arr ty := ⟨rfl, rfl, rfl, rfl, h, fun _ _ => rfl⟩
theorem copyG_zero (get : Nat → List SV) (lo : Nat) (g : Nat → List SV) : copyG get lo 0 g = get := by
  funext j; rw [copyG_eq, if_neg (by omega)]
theorem setO_self {own : List Ch} {i : Nat} {c : Ch} (h : own[i]? = some c) : setO own i c = own := by
  induction own generalizing i with
  | nil => rfl
  | cons x l ih => cases i with
    | zero => simp at h; subst h; rfl
    | succ i => simp only [setO]; rw [ih (by simpa using h)]
theorem sliceOfE_desc {t e : Nat} {te : TI} (hs : sliceOfE tr t = some (e, te)) : ∃ ti, tr.find t = some ti ∧ ti.desc = .slice e ∧ tr.find e = some te := by
  unfold sliceOfE at hs
  split at hs
  · rename_i ti hti
    split at hs
    · rename_i e' hd
      split at hs
      · rename_i te' hte
        simp only [Option.some.injEq, Prod.mk.injEq] at hs
        obtain ⟨rfl, rfl⟩ := hs
        exact ⟨ti, hti, hd, hte⟩
      · cases hs
    · cases hs
  · cases hs
/-- copy onto a part of a row of one's own. -/
theorem other_copy (hT : tr.All (TOk P)) {o : Oper} {x y : Operand} {t t' : Nat} (ho : o.op = .call ⟨.builtin .copy, #[x, y], #[t, t']⟩) {s : T} {i lo n N sz e m : Nat} {te : TI} {get g : Nat → List SV} {q : Prop}
    (hs : sliceOfE tr t = some (e, te)) (hsz : te.size = sz) (hx : ev s x = .mr i lo n sz) (hrow : getO own i = .row N sz e get) (hy : srcS own (ev s y) sz = some (q, m, g)) (hq : q) (hlo : lo + n ≤ N) {k : SV → List Ch → Prop}
    (hk : k (.v (.int .i64 (Nat.min m n : Nat))) (setO own i (.row N sz e (copyG get lo (Nat.min m n) g)))) : OtherP P .e own o s k := by
  refine ⟨_, _, fun s2 ha => ?_, hk⟩
  have hx2 : ev s2 x = .mr i lo n sz := by rw [ha x (by rw [ho]; simp [Op.operands, Call.operands])]; exact hx
  have hy2 : srcS own (ev s2 y) sz = some (q, m, g) := by rw [ha y (by rw [ho]; simp [Op.operands, Call.operands])]; exact hy
  obtain ⟨ti, hti, hd, hte⟩ := sliceOfE_desc hs
  have ht := (Tr.find_all hT hti).und
  rw [hd] at ht
  obtain ⟨inf, z, hinf, hsz', _⟩ := (Tr.find_all hT hte).inf
  intro env w H ac hsim
  have hrx := hsim.rep.ev x
  rw [hx2] at hrx
  obtain ⟨A, cc, src, hyv, s1, s2', s3⟩ := srcS_sound hsim.inv hy2 hq (hsim.rep.ev y)
  have hgo := getO_some hrow (by simp)
  have hcells : ∀ w', (∀ a, A = some a → 0 < m → ∀ (t : Nat) u, (flat m src)[t]? = some u → w'.cell? (a.add t) = some u) → (Builtin.firstCells sz (Nat.min m n) (.slice A m cc)).run P w' = .ok (flat (Nat.min m n) src).toArray w' := by
    intro w' hc
    by_cases hmn : Nat.min m n = 0
    · rw [hmn]
      cases A <;> simp [Builtin.firstCells, loadCells, loadCellsFrom, flat]
    · have hm : 0 < m := by
        rcases Nat.eq_zero_or_pos m with h | h
        · subst h; simp at hmn
        · exact h
      obtain ⟨a, hA, _⟩ := s3 hm
      subst hA
      unfold Builtin.firstCells
      simp only
      have hle : Nat.min m n ≤ m := Nat.min_le_left _ _
      have hl := flat_len (n := Nat.min m n) (vals := src) (fun j hj => s2' j (by omega))
      rw [← hl]
      rw [run_loadCells_list]
      intro j v hj
      refine hc a rfl hm j v ?_
      obtain ⟨d, hd⟩ : ∃ d, m = Nat.min m n + d := ⟨m - Nat.min m n, by omega⟩
      have hfl : ∀ k, flat (Nat.min m n + k) src = flat (Nat.min m n) src ++ flat k (fun j => src (Nat.min m n + j)) := by
        intro k
        induction k with
        | zero => simp [flat]
        | succ k ih => rw [← Nat.add_assoc, flat_succ, ih, flat_succ, List.append_assoc]
      rw [hd, hfl, List.getElem?_append_left (List.getElem?_eq_some_iff.1 hj).1]
      exact hj
  have hexe : ∀ {v w'}, (Builtin.copy_ #[t, t'] o.type #[ac.eval x, ac.eval y]).run P w = .ok v w' → (execOp ac.eval o).run P w = .ok (.value v) w' := fun hr => by
    unfold execOp
    simp [ho, resolve, invoke, builtin, Sem.run_bind, hr]
  have hrun : ∀ {B : Option Addr} {cb : Nat} {w'}, ac.eval x = .slice B n cb → (match B with | some a => (storeCells a (flat (Nat.min m n) src)).run P w = .ok () w' | none => w' = w) →
      (Builtin.copy_ #[t, t'] o.type #[ac.eval x, ac.eval y]).run P w = .ok (.int .i64 (Nat.min m n : Nat)) w' := fun {B cb w'} hB hst => by
    have hfc := hcells w (fun a hA hm => by obtain ⟨a', hA', h⟩ := s3 hm; rw [hA] at hA'; injection hA' with hA'; subst hA'; exact h)
    unfold Builtin.copy_
    simp only [List.getElem?_toArray, List.getElem?_cons_zero, List.getElem?_cons_succ, hB, hyv]
    simp only [Sem.run_bind, run_underlying ht, Result.andThen_ok, Sem.run_pure, toNat_lenOf, run_sizeOf hinf]
    rw [hsz', hsz, hfc, Result.andThen_ok]
    cases B with
    | none => subst hst; simp [goInt]
    | some a => simp only [List.toList_toArray]; rw [Sem.run_bind, hst]; simp [goInt]
  generalize hvx : ac.eval x = vx at hrx
  cases hrx with
  | @mr0 _ _ _ _ b A0 he =>
    have h0 : Nat.min m 0 = 0 := Nat.min_zero _
    rw [h0, copyG_zero, setO_self hgo]
    unfold Oper.wp
    rw [hexe (hrun hvx (w' := w) (by cases A0 with | none => rfl | some a => rw [h0]; simp [flat, storeCells]))]
    simp only [h0]
    exact ⟨env, H, ⟨hsim.inv, hsim.rep.put (.v _) _⟩, Step.refl hsim.inv.inn, EnvLe.refl _, fun b h => .inl h⟩
  | @mr _ _ _ _ _ b c a he hpos hbk hlc hadr =>
    have hck := hsim.inv.ch _ _ _ _ hgo he
    cases hck with
    | virt h0 => omega
    | @row _ _ _ _ arr vals h0 h1 h2 h6 h3 h4 h5 h7 =>
      by_cases hmn : Nat.min m n = 0
      · rw [hmn, copyG_zero, setO_self hgo]
        unfold Oper.wp
        rw [hexe (hrun hvx (w' := w) (by simp only; rw [hmn]; simp [flat, storeCells]))]
        simp only [hmn]
        exact ⟨env, H, ⟨hsim.inv, hsim.rep.put (.v _) _⟩, Step.refl hsim.inv.inn, EnvLe.refl _, fun b h => .inl h⟩
      · have hmn' : 0 < n := by
          rcases Nat.eq_zero_or_pos n with h | h
          · subst h; simp at hmn
          · exact h
        have hle1 : Nat.min m n ≤ m := Nat.min_le_left _ _
        have hle2 : Nat.min m n ≤ n := Nat.min_le_right _ _
        obtain ⟨w', arr', k1, k2, k3⟩ := row_put (P := P) (env := env) (e := e) (get := get) hpos h1 h2 h6 h3 h4 h5 h7 (lo := lo) (m := Nat.min m n) (g := g) (src := src) (fun j hj => s1 j (by omega)) (fun j hj => s2' j (by omega)) (by omega)
        unfold Oper.wp
        rw [hexe (hrun hvx (w' := w') (by simp only; rw [hadr (.inr (by omega))]; exact k1))]
        exact ⟨env, H, ⟨hsim.inv.write he hpos k2 hgo (by simp) k3, hsim.rep.put (.v _) _⟩, k2.step hsim.inv.inn (hsim.inv.sep _ _ _ _ he hpos hgo (by simp)) ⟨_, _, he, hpos⟩, EnvLe.refl _, fun b h => .inl h⟩
/-- clear of a part of a row of one's own. -/
theorem zeroCells_flat {z : Array Value} {n : Nat} : (Builtin.zeroCells z n).toList = flat n (fun _ => z.toList) := by
  unfold Builtin.zeroCells
  induction n with
  | zero => simp [flat]
  | succ n ih =>
    rw [flat_succ, ← ih]
    simp only [Array.toList_map, Array.toList_range, Nat.succ_mul]
    rw [List.range_add, List.map_append, List.map_map]
    congr 1
    apply List.ext_getElem
    · simp
    · intro j h1 h2
      simp at h1
      simp [Nat.add_mod, Nat.mod_eq_of_lt h1, h1]
theorem other_clear (hT : tr.All (TOk P)) {o : Oper} {x : Operand} {t : Nat} (ho : o.op = .call ⟨.builtin .clear, #[x], #[t]⟩) {s : T} {i lo n N sz e : Nat} {te : TI} {get : Nat → List SV}
    (hs : sliceOfE tr t = some (e, te)) (hsz : te.size = sz) (hx : ev s x = .mr i lo n sz) (hrow : getO own i = .row N sz e get) (hlo : lo + n ≤ N) {k : SV → List Ch → Prop}
    (hk : k (.tup []) (setO own i (.row N sz e (copyG get lo n (fun _ => te.zero))))) : OtherP P .e own o s k := by
  refine ⟨_, _, fun s2 ha => ?_, hk⟩
  have hx2 : ev s2 x = .mr i lo n sz := by rw [ha x (by rw [ho]; simp [Op.operands, Call.operands])]; exact hx
  obtain ⟨ti, hti, hd, hte⟩ := sliceOfE_desc hs
  have ht := (Tr.find_all hT hti).und
  rw [hd] at ht
  intro env w H ac hsim
  obtain ⟨z, hz, hzs, hz0⟩ := run_zero (Tr.find_all hT hte) w
  have hrx := hsim.rep.ev x
  rw [hx2] at hrx
  have hgo := getO_some hrow (by simp)
  have hexe : ∀ {v w'}, (Builtin.clear_ #[t] o.type #[ac.eval x]).run P w = .ok v w' → (execOp ac.eval o).run P w = .ok (.value v) w' := fun hr => by
    unfold execOp
    simp [ho, resolve, invoke, builtin, Sem.run_bind, hr]
  generalize hvx : ac.eval x = vx at hrx
  rw [hvx] at hexe
  cases hrx with
  | @mr0 _ _ _ _ b A0 he =>
    rw [copyG_zero, setO_self hgo]
    have hrun : (Builtin.clear_ #[t] o.type #[.slice A0 0 0]).run P w = .ok (.tuple #[]) w := by
      unfold Builtin.clear_
      simp only [List.getElem?_toArray, List.getElem?_cons_zero, Sem.run_bind, run_underlying ht, Result.andThen_ok]
      cases A0 <;> simp
    unfold Oper.wp
    rw [hexe hrun]
    exact ⟨env, H, ⟨hsim.inv, hsim.rep.put (.tup .nil) _⟩, Step.refl hsim.inv.inn, EnvLe.refl _, fun b h => .inl h⟩
  | @mr _ _ _ _ _ b c a he hpos hbk hlc hadr =>
    have hck := hsim.inv.ch _ _ _ _ hgo he
    cases hck with
    | virt h0 => omega
    | @row _ _ _ _ arr vals h0 h1 h2 h6 h3 h4 h5 h7 =>
      by_cases hn : n = 0
      · subst hn
        rw [copyG_zero, setO_self hgo]
        have hrun : (Builtin.clear_ #[t] o.type #[.slice (some a) 0 (c - lo)]).run P w = .ok (.tuple #[]) w := by
          unfold Builtin.clear_
          simp only [List.getElem?_toArray, List.getElem?_cons_zero, Sem.run_bind, run_underlying ht, Result.andThen_ok]
          simp
        unfold Oper.wp
        rw [hexe hrun]
        exact ⟨env, H, ⟨hsim.inv, hsim.rep.put (.tup .nil) _⟩, Step.refl hsim.inv.inn, EnvLe.refl _, fun b h => .inl h⟩
      · obtain ⟨w', arr', k1, k2, k3⟩ := row_put (P := P) (env := env) (e := e) (get := get) hpos h1 h2 h6 h3 h4 h5 h7 (lo := lo) (m := n) (g := fun _ => te.zero) (src := fun _ => z.cells.toList) (fun j hj => hz0 H) (fun j hj => by simpa [hsz] using hzs) hlo
        have hrun : (Builtin.clear_ #[t] o.type #[.slice (some a) n (c - lo)]).run P w = .ok (.tuple #[]) w' := by
          unfold Builtin.clear_
          simp only [List.getElem?_toArray, List.getElem?_cons_zero, Sem.run_bind, run_underlying ht, Result.andThen_ok]
          cases n with
          | zero => exact absurd rfl hn
          | succ n =>
            simp only [Sem.run_bind, hz, Result.andThen_ok]
            rw [zeroCells_flat, hadr (.inr (by omega)), k1]
            simp
        unfold Oper.wp
        rw [hexe hrun]
        exact ⟨env, H, ⟨hsim.inv.write he hpos k2 hgo (by simp) k3, hsim.rep.put (.tup .nil) _⟩, k2.step hsim.inv.inn (hsim.inv.sep _ _ _ _ he hpos hgo (by simp)) ⟨_, _, he, hpos⟩, EnvLe.refl _, fun b h => .inl h⟩
theorem setG_self (get : Nat → List SV) (k : Nat) (r : List SV) : setG get k r k = r := by
  unfold setG; rw [Nat.beq_refl]
end
end Go.Eng
