/- A part of the proof that the law of this seat answers true for every input, without a condition. -/
import Derived.Test.YtebcglidpmfamaaEngE
set_option linter.all false
set_option linter.unusedVariables false
set_option linter.unusedSimpArgs false
namespace Go.Eng
open Go
section
variable {P : Program} {env : List (Nat × Nat)} {own : List Ch} {tr : Tr}
/-- The operation's value, run on values that are so represented. -/
def Val (P : Program) (env : List (Nat × Nat)) (sem : Sem Value) (r : SV) (w : World) (H : Hp) : Prop := ∃ x, sem.run P w = .ok x w ∧ Rep H env r x
theorem wrap_sum {k : IntKind} {n : Int} {q : Prop} {r : SV} (h : sumI k n = (q, r)) (hq : q) : r = .v (.int k (k.wrap n)) := by
  cases k <;> simp only [sumI, Prod.mk.injEq] at h <;> obtain ⟨rfl, rfl⟩ := h <;> first | rfl | rw [wrap_i64 hq]
theorem binI_sound {t : TypeId} {op : BinOp} {k : IntKind} {a b : Int} {q : Prop} {r : SV} (h : binI op k a b = some (q, r)) (hq : q) {w : World} {H : Hp} :
    Val P env (binOp op t (.int k a) (.int k b)) r w H := by
  cases op <;> simp only [binI, Option.some.injEq, Prod.mk.injEq, reduceCtorEq] at h
  case add => rw [wrap_sum h hq]; exact ⟨_, by simp [binOp, Op.intArith, Sem.run, pure], .v _⟩
  case sub => rw [wrap_sum h hq]; exact ⟨_, by simp [binOp, Op.intArith, Sem.run, pure], .v _⟩
  case mul => rw [wrap_sum h hq]; exact ⟨_, by simp [binOp, Op.intArith, Sem.run, pure], .v _⟩
  case quo => obtain ⟨rfl, rfl⟩ := h; exact ⟨_, by simp [binOp, Op.intDiv, Sem.run, pure, hq], .v _⟩
  case rem => obtain ⟨rfl, rfl⟩ := h; exact ⟨_, by simp [binOp, Op.intDiv, Sem.run, pure, hq], .v _⟩
  all_goals (obtain ⟨rfl, rfl⟩ := h; exact ⟨_, by simp [binOp, Op.intBits, Op.intCmp, Sem.run, pure, bitI], .v _⟩)
theorem eqGuard_run {op : BinOp} {t : TypeId} {x y : Operand} {a b : Value} {w : World} (h : (op ≠ .eql ∧ op ≠ .neq) ∨ (a ≠ .nilIface ∧ ∀ c, a ≠ .agg c)) : (eqGuard op t x y a b).run P w = .ok () w := by
  unfold eqGuard
  cases op <;> cases a <;> cases b <;> simp [Sem.run, pure] at h ⊢
theorem binS_sound {t : TypeId} {op : BinOp} {x y : SV} {o1 o2 : Operand} {q : Prop} {r : SV} (h : binS op x y = some (q, r)) (hq : q) {w : World} {H : Hp} {a b : Value} (ha : Rep H env x a) (hb : Rep H env y b) :
    Val P env (do eqGuard op t o1 o2 a b; binOp op t a b) r w H := by
  unfold binS at h
  split at h
  · cases ha; cases hb
    simp only [Option.some.injEq, Prod.mk.injEq] at h
    obtain ⟨rfl, rfl⟩ := h
    refine ⟨_, ?_, .v _⟩
    rw [Sem.run_bind, eqGuard_run (.inr ⟨by simp, by simp⟩)]
    simp [binOp, Op.shift, Sem.run, pure, Int.not_lt.2 hq]
  · cases ha; cases hb
    simp only [Option.some.injEq, Prod.mk.injEq] at h
    obtain ⟨rfl, rfl⟩ := h
    refine ⟨_, ?_, .v _⟩
    rw [Sem.run_bind, eqGuard_run (.inr ⟨by simp, by simp⟩)]
    simp [binOp, Op.shift, Sem.run, pure, Int.not_lt.2 hq]
  · cases ha; cases hb
    split at h
    · rename_i hk
      have := sameK_eq hk
      subst this
      obtain ⟨x, h1, h2⟩ := binI_sound (P := P) (env := env) (t := t) h hq (w := w) (H := H)
      refine ⟨x, ?_, h2⟩
      rw [Sem.run_bind, eqGuard_run (.inr ⟨by simp, by simp⟩)]
      exact h1
    · cases h
  · cases ha; cases hb
    simp only [Option.some.injEq, Prod.mk.injEq] at h
    obtain ⟨rfl, rfl⟩ := h
    refine ⟨_, ?_, .v _⟩
    rw [Sem.run_bind, eqGuard_run (.inr ⟨by simp, by simp⟩)]
    simp [binOp, Op.stringOp, Sem.run, pure]
  · cases ha; cases hb
    simp only [Option.some.injEq, Prod.mk.injEq] at h
    obtain ⟨rfl, rfl⟩ := h
    refine ⟨_, ?_, .v _⟩
    rw [Sem.run_bind, eqGuard_run (.inr ⟨by simp, by simp⟩)]
    simp [binOp, Op.stringOp, Sem.run, pure]
  · cases ha; cases hb
    simp only [Option.some.injEq, Prod.mk.injEq] at h
    obtain ⟨rfl, rfl⟩ := h
    refine ⟨_, ?_, .v _⟩
    rw [Sem.run_bind, eqGuard_run (.inr ⟨by simp, by simp⟩)]
    have hq' := hq.2
    simp only [Result.andThen_ok, binOp, Op.stringOp]
    rw [if_neg]
    · simp [Sem.run, pure]
    · have : IntKind.i64.max = 9223372036854775807 := by simp [IntKind.max, IntKind.signed, IntKind.bits]
      omega
  · cases h
theorem unS_sound {op : UnOp} {x : SV} {q : Prop} {r : SV} (h : unS op x = some (q, r)) (hq : q) {w : World} {H : Hp} {a : Value} (ha : Rep H env x a) : Val P env (Op.unary op a) r w H := by
  unfold unS at h
  split at h
  · cases ha
    simp only [Option.some.injEq, Prod.mk.injEq] at h
    obtain ⟨rfl, rfl⟩ := h
    exact ⟨_, by simp [Op.unary, Sem.run, pure], .b _⟩
  · cases ha
    simp only [Option.some.injEq, Prod.mk.injEq] at h
    obtain ⟨rfl, rfl⟩ := h
    exact ⟨_, by simp [Op.unary, Sem.run, pure], .v _⟩
  · cases ha
    simp only [Option.some.injEq] at h
    rw [wrap_sum h hq]
    exact ⟨_, by simp [Op.unary, Op.intArith, Sem.run, pure], .v _⟩
  · cases h
theorem toB_rep {x : SV} {p : Bool} (h : toB x = some p) {H : Hp} {a : Value} (ha : Rep H env x a) : a = .bool p := by
  unfold toB at h
  split at h
  · cases ha; injection h with h; rw [h]
  · cases ha; injection h with h; rw [h]
  · cases h
theorem pickS_sound {c a b : SV} {q : Prop} {r : SV} (h : pickS c a b = some (q, r)) {w : World} {H : Hp} {vc va vb : Value} (hc : Rep H env c vc) (ha : Rep H env a va) (hb : Rep H env b vb) :
    Val P env (do pure (if ← asBool vc then va else vb)) r w H := by
  unfold pickS at h
  split at h
  · cases hc
    simp only [Option.some.injEq, Prod.mk.injEq] at h
    obtain ⟨rfl, rfl⟩ := h
    exact ⟨va, by simp [asBool, Sem.run, pure], ha⟩
  · cases hc
    simp only [Option.some.injEq, Prod.mk.injEq] at h
    obtain ⟨rfl, rfl⟩ := h
    exact ⟨vb, by simp [asBool, Sem.run, pure], hb⟩
  · cases hc
    split at h
    · rename_i p _ _ x y h1 h2
      simp only [Option.some.injEq, Prod.mk.injEq] at h
      obtain ⟨rfl, rfl⟩ := h
      rw [toB_rep h1 ha, toB_rep h2 hb]
      exact ⟨.bool (bif p then x else y), by cases p <;> simp [asBool, Sem.run, pure], .v _⟩
    · cases h
  · cases h
theorem loadS_sound (hT : tr.All (TOk P)) {t : TypeId} {a : SV} {q : Prop} {r : SV} (h : loadS tr own t a = some (q, r)) (hq : q) {w : World} {H : Hp} (hi : Inv env own w H) {va : Value} (ha : Rep H env a va) :
    Val P env (Instr.loadAt t va) r w H := by
  unfold loadS at h
  split at h
  · rename_i ti hti
    have ht := Tr.find_all hT hti
    split at h
    · rename_i i p
      split at h
      · rename_i q' l hn
        split at h
        · rename_i r' hp
          simp only [Option.some.injEq, Prod.mk.injEq] at h
          obtain ⟨rfl, rfl⟩ := h
          unfold navO at hn
          split at hn
          · rename_i items hit
            obtain ⟨b', k, vs, he', hr, hmem⟩ := hi.items hit
            cases ha with
            | own he hpos =>
              rw [he] at he'
              injection he' with he'
              injection he' with e1 e2
              subst e1; subst e2
              obtain ⟨arr, ty, hw, hcell⟩ := hmem hpos
              obtain ⟨us, h1, h2⟩ := nav_sound hn hq hr
              refine run_load_part ht h1 (fun j u hu => ?_) hp
              rw [add_none]
              unfold World.cell?
              simp [hw, hcell _ _ (h2 j u hu)]
          · cases hn
        · cases h
      · cases h
    · rename_i l
      split at h
      · rename_i r' hp
        simp only [Option.some.injEq, Prod.mk.injEq] at h
        obtain ⟨rfl, rfl⟩ := h
        cases ha with
        | rp h1 h2 => exact run_load_part ht (h1.mono (HLe.refl _) (EnvLe.nil _)) (fun j u hu => cellH_in hi.inn (h2 j u hu)) hp
      · cases h
    · cases h
  · cases h
theorem offp_app : ∀ (p : List St) (s : List St), offp (p ++ s) = offp p + offp s
  | [], s => by simp [offp]
  | .f o :: p, s => by simp [offp, offp_app p s]; omega
  | .x k z :: p, s => by simp [offp, offp_app p s]; omega
theorem fieldOf_desc {t f : Nat} {fl : Field} (h : fieldOf tr t f = some fl) : ∃ ti fs, tr.find t = some ti ∧ ti.desc = .struct fs ∧ fs[f]? = some fl := by
  unfold fieldOf at h
  split at h
  · rename_i ti hti
    split at h
    · rename_i fs hd
      exact ⟨ti, fs, hti, hd, h⟩
    · cases h
  · cases h
theorem fieldAddrS_sound (hT : tr.All (TOk P)) {t f : Nat} {a : SV} {q : Prop} {r : SV} (h : fieldAddrS tr t a f = some (q, r)) {w : World} {H : Hp} {va : Value} (ha : Rep H env a va) :
    Val P env (Instr.fieldAt t va f) r w H := by
  unfold fieldAddrS at h
  split at h
  · rename_i fl hfl
    obtain ⟨ti, fs, hti, hd, hf⟩ := fieldOf_desc hfl
    have ht := Tr.find_all hT hti
    split at h
    · rename_i tf htf
      have hf' := Tr.find_all hT htf
      obtain ⟨i, z, hinf, hsz, _⟩ := hf'.inf
      have hrun : ∀ (ad : Addr), tf.size ≠ 0 → (Instr.fieldAt t (.pointer (some ad)) f).run P w = .ok (.pointer (some (ad.add fl.offset))) w := fun ad h0 => by
        unfold Instr.fieldAt
        have hu := ht.und
        rw [hd] at hu
        have hne : ¬ i.size = 0 := by rw [hsz]; exact h0
        simp [Sem.run_bind, run_underlying hu, hf, Instr.sureAddr, fieldPlace, run_sizeOf hinf, hne, Sem.run, pure]
      split at h
      · cases h
      · rename_i n hn
        have h0 : tf.size ≠ 0 := by omega
        split at h
        · rename_i j p
          simp only [Option.some.injEq, Prod.mk.injEq] at h
          obtain ⟨rfl, rfl⟩ := h
          cases ha with
          | own he hpos =>
            refine ⟨_, hrun _ h0, ?_⟩
            rw [add_none, show offp p + fl.offset = offp (p ++ [.f fl.offset]) by rw [offp_app]; simp [offp]]
            exact .own he hpos
        · split at h
          · rename_i l l' hdr
            simp only [Option.some.injEq, Prod.mk.injEq] at h
            obtain ⟨rfl, rfl⟩ := h
            cases ha with
            | rp h1 h2 =>
              refine ⟨_, hrun _ h0, .rp (h1.drop hdr).1 (fun t u hu => ?_)⟩
              rw [List.getElem?_drop] at hu
              rw [add_add']
              exact h2 _ _ hu
          · cases h
        · cases h
    · cases h
  · cases h
theorem run_part {t : TypeId} {ti : TI} (ht : TOk P t ti) {H : Hp} {e : List (Nat × Nat)} {cs : List SV} {us : List Value} {all : Array Value} {off : Nat} {w : World} {r : SV}
    (hr : RepL H e cs us) (hc : ∀ (j : Nat) u, us[j]? = some u → all[off + j]? = some u) (hp : partS ti cs = some r) : ∃ x, (part t all off).run P w = .ok x w ∧ Rep H e r x := by
  obtain ⟨i, z, hi, hsz, _, _, _⟩ := ht.inf
  unfold partS at hp
  unfold part
  rw [Sem.run_bind, run_isAgg ht.und, Result.andThen_ok]
  split at hp
  · rename_i hb
    rw [hb]
    split at hp
    · rename_i l hl
      injection hp with hp
      subst hp
      obtain ⟨h1, h2⟩ := hr.take hl
      refine ⟨.agg (us.take ti.size).toArray, ?_, .agg h1⟩
      simp only [if_true, Sem.run_bind, run_sizeOf hi, Result.andThen_ok, hsz]
      have : all.extract off (off + ti.size) = (us.take ti.size).toArray := by
        apply Array.ext_getElem?
        intro j
        rw [Array.getElem?_extract]
        by_cases hj : j < ti.size
        · have hju : j < us.length := by omega
          have h3 := hc j us[j] (List.getElem?_eq_getElem hju)
          have h4 : off + j < all.size := (Array.getElem?_eq_some_iff.1 h3).1
          rw [if_pos (by omega), h3]
          simp [hj, hju]
        · rw [if_neg (by omega)]
          simp
          omega
      rw [this]
      rfl
    · cases hp
  · rename_i hb
    rw [hb]
    split at hp
    · cases hp
    · rename_i x l hx
      injection hp with hp
      subst hp
      cases hr with
      | @cons _ s v l vs h1 h2 h3 =>
        refine ⟨v, ?_, h1⟩
        have := hc 0 v rfl
        simp only [Nat.add_zero] at this
        simp [this, Sem.run, pure]
      | arr vals h1 h2 h3 => exact (hx _ _ _ rfl).elim
    · cases hp
theorem fieldS_sound (hT : tr.All (TOk P)) {t f : Nat} {a : SV} {q : Prop} {r : SV} (h : fieldS tr t a f = some (q, r)) {w : World} {H : Hp} {va : Value} (ha : Rep H env a va) :
    Val P env (Instr.field t va f) r w H := by
  unfold fieldS at h
  split at h
  · rename_i fl hfl
    obtain ⟨ti, fs, hti, hd, hf⟩ := fieldOf_desc hfl
    have ht := Tr.find_all hT hti
    split at h
    · rename_i tf htf
      have hf' := Tr.find_all hT htf
      split at h
      · rename_i cs
        split at h
        · rename_i l hdr
          split at h
          · rename_i r' hp
            simp only [Option.some.injEq, Prod.mk.injEq] at h
            obtain ⟨rfl, rfl⟩ := h
            cases ha with
            | @agg _ _ vs h1 =>
              obtain ⟨h2, h3⟩ := h1.drop hdr
              obtain ⟨x, h4, h5⟩ := run_part (P := P) (w := w) (all := vs.toArray) (off := fl.offset) hf' h2 (fun j u hu => by
                rw [List.getElem?_drop] at hu
                simpa using hu) hp
              refine ⟨x, ?_, h5⟩
              have hu := ht.und
              rw [hd] at hu
              unfold Instr.field
              simp [Sem.run_bind, run_underlying hu, hf, asAgg, h4, Sem.run, pure]
          · cases h
        · cases h
      · cases h
    · cases h
  · cases h
end
end Go.Eng
