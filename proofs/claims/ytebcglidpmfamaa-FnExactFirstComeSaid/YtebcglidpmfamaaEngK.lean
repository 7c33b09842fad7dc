/- A part of the proof that the law of this seat answers true for every input, without a condition. -/
import Derived.Test.YtebcglidpmfamaaEngJ
set_option linter.all false
set_option linter.unusedVariables false
set_option linter.unusedSimpArgs false
namespace Go.Eng
open Go
theorem append_base {P : Program} (w : World) (t ty e : TypeId) (i : TypeInfo) (ht : P.underlying t = some (.slice e)) (hi : P.info? e = some i) (A : Option Addr) (x : Value) (m : Nat)
    (hx : (Builtin.lenOf x).run P w = .ok m w) (hm : 0 < m) (hmax : ¬ ((m : Int) > IntKind.i64.max)) (hb : ¬ ((Builtin.nextslicecap m 0 * i.bytes : Nat) > 2 ^ 48)) : (Builtin.append_ #[t, t] ty #[.slice A 0 0, x]).run P w = (Builtin.append_ #[t, t] ty #[.slice none 0 0, x]).run P w := by
  have hf : ∀ w, (Builtin.firstCells i.size 0 (.slice A 0 0)).run P w = .ok #[] w := by
    intro w
    cases A <;> simp [Builtin.firstCells, loadCells, loadCellsFrom]
  have hf' : ∀ w, (Builtin.firstCells i.size 0 (.slice none 0 0)).run P w = .ok #[] w := by
    intro w
    simp [Builtin.firstCells, loadCells, loadCellsFrom]
  unfold Builtin.append_
  simp only [List.getElem?_toArray, List.getElem?_cons_zero, List.getElem?_cons_succ, Sem.run_bind, run_underlying ht, run_sizeOf hi, Result.andThen_ok, Sem.run_pure, Bool.false_eq_true, if_false, hx, Nat.zero_add, Nat.not_le.2 hm, typeInfo, program, Sem.run, hi, hb, hf, hf']
  simp only [hmax, false_and, if_false]
  simp only [Sem.run_bind, Sem.run_pure, Result.andThen_ok, typeInfo, program, Sem.run, hi, hb, if_false, hf, hf']

section
variable {P : Program} {env env' : List (Nat × Nat)} {own : List Ch} {tr : Tr} {i : Nat}
theorem one_cell' {u : Value} (h : one u) : u.oneCell' = true := by cases u <;> first | rfl | exact h.elim

/-! ### append -/
def catG (f : Nat → List SV) (n : Nat) (g : Nat → List SV) : Nat → List SV := fun j => match Nat.blt j n with
  | true => f j
  | false => g (j - n)
def sliceOfE (tr : Tr) (t : Nat) : Option (Nat × TI) :=
  match tr.find t with
  | some ti => match ti.desc with
    | .slice e => match tr.find e with
      | some te => some (e, te)
      | none => none
    | _ => none
  | none => none
def srcS (own : List Ch) (y : SV) (sz : Nat) : Option (Prop × Nat × (Nat → List SV)) :=
  match y with
  | .rs m sz' get => match Nat.beq sz' sz with
    | true => some (True, m, get)
    | false => none
  | .mr j lo m sz' => match Nat.beq sz' sz, getO own j with
    | true, .row n' sz'' _ get => match Nat.beq sz'' sz with
      | true => some (lo + m ≤ n', m, fun k => get (lo + k))
      | false => none
    | _, _ => none
  | .emp => some (True, 0, fun _ => [])
  | _ => none
/-- What is behind an append's source: the cells of its elements. -/
theorem srcS_sound {H : Hp} {w : World} (hi : Inv env own w H) {y : SV} {sz m : Nat} {q : Prop} {g : Nat → List SV} (h : srcS own y sz = some (q, m, g)) (hq : q) {v : Value} (hv : Rep H env y v) :
    ∃ A c vals, v = .slice A m c ∧ (∀ j, j < m → RepL H [] (g j) (vals j)) ∧ (∀ j, j < m → (vals j).length = sz) ∧ (0 < m → ∃ a, A = some a ∧ ∀ (t : Nat) u, (flat m vals)[t]? = some u → w.cell? (a.add t) = some u) := by
  have glue : ∀ {m : Nat} {vals : Nat → List Value} {a : Addr}, 0 < sz ∨ True → (∀ j, j < m → (vals j).length = sz) → (∀ j, j < m → ∀ (t : Nat) u, (vals j)[t]? = some u → w.cell? (a.add (j * sz + t)) = some u) → ∀ (t : Nat) u, (flat m vals)[t]? = some u → w.cell? (a.add t) = some u := by
    intro m vals a _ hl hc
    induction m with
    | zero => intro t u h; simp [flat] at h
    | succ m ih =>
      intro t u h
      rw [flat_succ] at h
      have hlen := flat_len (n := m) (vals := vals) (fun j hj => hl j (by omega))
      by_cases ht : t < m * sz
      · rw [List.getElem?_append_left (by omega)] at h
        exact ih (fun j hj => hl j (by omega)) (fun j hj => hc j (by omega)) t u h
      · rw [List.getElem?_append_right (by omega), hlen] at h
        have := hc m (by omega) _ _ h
        rw [show m * sz + (t - m * sz) = t by omega] at this
        exact this
  unfold srcS at h
  split at h
  · split at h
    · rename_i hb
      have := Nat.eq_of_beq_eq_true hb
      subst this
      simp only [Option.some.injEq, Prod.mk.injEq] at h
      obtain ⟨rfl, rfl, rfl⟩ := h
      cases hv with
      | @rs _ n sz get A cap vals h1 h2 h3 h5 h4 =>
        refine ⟨A, cap, vals, rfl, h1, h2, fun hm => ?_⟩
        obtain ⟨a, rfl, _⟩ := h4 0 hm
        refine ⟨a, rfl, glue (.inr trivial) h2 fun j hj t u hu => ?_⟩
        obtain ⟨a', ha, hc⟩ := h4 j hj
        injection ha with ha
        subst ha
        exact cellH_in hi.inn (hc t u hu)
    · cases h
  · rename_i jj lo mm ss
    split at h
    · rename_i n' sz'' e get hb hg
      split at h
      · rename_i hb'
        have e1 := Nat.eq_of_beq_eq_true hb
        have e2 := Nat.eq_of_beq_eq_true hb'
        subst e1; subst e2
        simp only [Option.some.injEq, Prod.mk.injEq] at h
        obtain ⟨rfl, rfl, rfl⟩ := h
        cases hv with
        | mr0 he => exact ⟨_, _, fun _ => [], rfl, fun j hj => by omega, fun j hj => by omega, fun h => by omega⟩
        | @mr _ _ lo n sz b c a he hpos hbk hlo ha =>
          have hc := hi.ch _ _ _ _ (getO_some hg (by simp)) he
          cases hc with
          | virt h0 => omega
          | @row _ _ _ _ arr vals h0 h1 h2 h6 h3 h4 h5 h7 =>
            refine ⟨_, _, fun j => vals (lo + j), rfl, fun j hj => h4 _ (by omega), fun j hj => h5 _ (by omega), fun hm => ⟨a, rfl, glue (.inr trivial) (fun j hj => h5 _ (by omega)) fun j hj t u hu => ?_⟩⟩
            rw [ha (.inr (by omega)), add_none]
            have h8 := getL_flat (r := []) h5 (show lo + j < n' by omega) t u hu
            rw [← h7, List.getElem?_take] at h8
            split at h8
            · unfold World.cell?
              rw [show lo * _ + (j * _ + t) = (lo + j) * _ + t by rw [Nat.add_mul, Nat.add_assoc]]
              simp only [h1]
              simpa using h8
            · cases h8
      · cases h
    · cases h
  · simp only [Option.some.injEq, Prod.mk.injEq] at h
    obtain ⟨rfl, rfl, rfl⟩ := h
    cases hv with
    | emp A => exact ⟨A, 0, fun _ => [], rfl, fun j hj => by omega, fun j hj => by omega, fun h => by omega⟩
  · cases h
theorem run_append_none {A : Option Addr} {t ty e : TypeId} (ht : P.underlying t = some (.slice e)) {i : TypeInfo} (hi : P.info? e = some i) {B : Option Addr} {n cap c : Nat} (h : n ≤ cap) (w : World) :
    (Builtin.append_ #[t, t] ty #[.slice B n cap, .slice A 0 c]).run P w = .ok (.slice B n cap) w := by
  have hf : ∀ w, (Builtin.firstCells i.size 0 (.slice A 0 c)).run P w = .ok #[] w := by
    intro w
    cases A <;> simp [Builtin.firstCells, loadCells, loadCellsFrom]
  unfold Builtin.append_
  simp only [List.getElem?_toArray, List.getElem?_cons_zero, List.getElem?_cons_succ, Sem.run_bind, run_underlying ht, run_sizeOf hi, Result.andThen_ok, Sem.run_pure, Bool.false_eq_true, if_false, Builtin.lenOf, Nat.add_zero, h, if_true, hf]
  cases B <;> simp [storeCells, hf]
/-- append onto a row of one's own, or onto nothing: the new row and what has stayed. -/
theorem append_run (hT : tr.All (TOk P)) {t e : Nat} {te : TI} (hs : sliceOfE tr t = some (e, te)) {w : World} {v : Value} {n m : Nat} {vals src : Nat → List Value} {b c : Nat}
    (hv : (c = 0 ∧ n = 0 ∧ ∃ A, v = .slice A 0 0) ∨ (0 < c ∧ v = .slice (some ⟨b, 0, none⟩) n c ∧ ∃ arr, w.heap[b]? = some (.cells arr e (0, 0)) ∧ n ≤ c ∧ c ≤ 9223372036854775807 ∧ arr.size = c * te.size ∧ arr.toList.take (n * te.size) = flat n vals))
    (hvl : ∀ j, j < n → (vals j).length = te.size) (hsl : ∀ j, j < m → (src j).length = te.size) (hone : ∀ u ∈ flat m src, one u) {A : Option Addr} {cc : Nat}
    (hsrc : 0 < m → ∃ a, A = some a ∧ ∀ (t : Nat) u, (flat m src)[t]? = some u → w.cell? (a.add t) = some u) (hm : 0 < m) (hsz : 0 < te.size) (hbytes : (n + m) * te.bytes ≤ 140737488355328) (hmax : n + m ≤ 9223372036854775807) (ty : TypeId) :
    ∃ g cap arr' w', (Builtin.append_ #[t, t] ty #[v, .slice A m cc]).run P w = .ok (.slice (some ⟨g, 0, none⟩) (n + m) cap) w' ∧ 0 < cap ∧ w'.heap[g]? = some (.cells arr' e (0, 0)) ∧ n + m ≤ cap ∧ cap ≤ 9223372036854775807 ∧ arr'.size = cap * te.size ∧
      arr'.toList.take ((n + m) * te.size) = flat n vals ++ flat m src ∧ ((g = b ∧ 0 < c) ∨ g = w.heap.size) ∧ w'.os = w.os ∧ w'.tape = w.tape ∧ w'.output = w.output ∧ w.heap.size ≤ w'.heap.size ∧ g < w'.heap.size ∧
      (∀ k, k < w.heap.size → ¬ (k = b ∧ 0 < c) → w'.heap[k]? = w.heap[k]?) := by
  unfold sliceOfE at hs
  split at hs
  · rename_i ti hti
    have ht := (Tr.find_all hT hti).und
    split at hs
    · rename_i e' hd
      rw [hd] at ht
      split at hs
      · rename_i te' hte
        simp only [Option.some.injEq, Prod.mk.injEq] at hs
        obtain ⟨rfl, rfl⟩ := hs
        obtain ⟨i, z, hinf, h1, h2, h3, h4, _⟩ := (Tr.find_all hT hte).inf
        obtain ⟨a, rfl, hcell⟩ := hsrc hm
        have hlen : (flat m src).length = m * te'.size := flat_len hsl
        have hone' : ∀ u ∈ flat m src, u.oneCell' = true := fun u hu => one_cell' (hone u hu)
        have fin : ∀ {v0 : Value} {xs : List Value} {n0 : Nat}, n0 = n → w.ownsRow 0 e' te'.size v0 n0 xs → xs = flat n vals → (∀ k, v0.ownBlock = some k → k = b ∧ 0 < c) → (v0.ownBlock = none ∨ v0.ownBlock = some b) →
            (Builtin.append_ #[t, t] ty #[v, .slice (some a) m cc]).run P w = (Builtin.append_ #[t, t] ty #[v0, .slice (some a) m cc]).run P w →
            ∃ g cap arr' w', (Builtin.append_ #[t, t] ty #[v, .slice (some a) m cc]).run P w = .ok (.slice (some ⟨g, 0, none⟩) (n + m) cap) w' ∧ 0 < cap ∧ w'.heap[g]? = some (.cells arr' e' (0, 0)) ∧ n + m ≤ cap ∧ cap ≤ 9223372036854775807 ∧ arr'.size = cap * te'.size ∧
              arr'.toList.take ((n + m) * te'.size) = flat n vals ++ flat m src ∧ ((g = b ∧ 0 < c) ∨ g = w.heap.size) ∧ w'.os = w.os ∧ w'.tape = w.tape ∧ w'.output = w.output ∧ w.heap.size ≤ w'.heap.size ∧ g < w'.heap.size ∧
              (∀ k, k < w.heap.size → ¬ (k = b ∧ 0 < c) → w'.heap[k]? = w.heap[k]?) := by
          intro v0 xs n0 hn0 hown hxs hb1 hb2 heq
          subst hn0
          obtain ⟨v', w', hrun, hown', hgr, _, hat⟩ := run_append_own_at (P := P) w 0 t ty e' i z te'.size te'.bytes ht hinf h3 h1 h2 h4 hsz v0 n0 xs hown a m cc (flat m src) hlen (fun j u hu => hcell j u hu) hone' (by unfold maxLen; omega) hbytes (Nat.zero_le _)
          obtain ⟨hl', hr⟩ := hown'
          rcases hr with ⟨_, h0⟩ | ⟨g, cap, cur, rfl, _, hcur, hnc, hcm, hcs, htk⟩
          · omega
          · refine ⟨g, cap, cur, w', heq.trans hrun, by omega, hcur, hnc, by unfold maxLen at hcm; omega, hcs, by rw [htk, hxs], ?_, hgr.os, hgr.tape, hgr.output, hgr.size, (Array.getElem?_eq_some_iff.1 hcur).1, fun k hk hne => hgr.block k hk (fun e => hne ?_)⟩
            · have hat' : (some g = v0.ownBlock) ∨ some g = some w.heap.size := hat
              rcases hat' with h | h
              · exact .inl (hb1 g h.symm)
              · exact .inr (by injection h)
            · exact hb1 k e.symm
        rcases hv with ⟨rfl, rfl, A0, rfl⟩ | ⟨hc, rfl, arr, hb, hnc, hcm, hcs, htk⟩
        · have hi64 : IntKind.i64.max = 9223372036854775807 := by simp [IntKind.max, IntKind.signed, IntKind.bits]
          refine fin (v0 := .slice none 0 0) (xs := []) rfl ⟨by simp, .inl ⟨rfl, rfl⟩⟩ (by simp [flat]) (fun k hk => by simp [Value.ownBlock] at hk) (.inl rfl) ?_
          refine append_base w t ty e' i ht hinf A0 _ m (by simp [Builtin.lenOf]) hm (by rw [hi64]; omega) ?_
          have := growslice_fits (need := m) (old := 0) (bytes := te'.bytes) hm (by simpa using hbytes)
          rw [h2]
          omega
        · exact fin (v0 := .slice (some ⟨b, 0, none⟩) n c) (xs := flat n vals) rfl ⟨flat_len hvl, .inr ⟨b, c, arr, rfl, Nat.zero_le _, hb, hnc, by unfold maxLen; omega, hcs, htk⟩⟩ rfl (fun k hk => by simp [Value.ownBlock] at hk; exact ⟨hk.symm, hc⟩) (.inr rfl) rfl
      · cases hs
    · cases hs
  · cases hs
end
end Go.Eng
