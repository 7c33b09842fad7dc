/- A part of the proof that the law of this seat answers true for every input, without a condition. -/
import Derived.Test.YtebcglidpmfamaaEngF
set_option linter.all false
set_option linter.unusedVariables false
set_option linter.unusedSimpArgs false
namespace Go.Eng
open Go
section
variable {P : Program} {env : List (Nat × Nat)} {own : List Ch} {tr : Tr}
theorem sliceOf_desc {t : Nat} {te : TI} (h : sliceOf tr t = some te) : ∃ ti e, tr.find t = some ti ∧ ti.desc = .slice e ∧ tr.find e = some te := by
  unfold sliceOf at h
  split at h
  · rename_i ti hti
    split at h
    · rename_i e hd
      exact ⟨ti, e, hti, hd, h⟩
    · cases h
  · cases h
theorem arrOf_desc {t : Nat} {n e : Nat} {te : TI} (h : arrOf tr t = some (n, e, te)) : ∃ ti, tr.find t = some ti ∧ ti.desc = .array n e ∧ tr.find e = some te := by
  unfold arrOf at h
  split at h
  · rename_i ti hti
    split at h
    · rename_i n' e' hd
      split at h
      · rename_i te' he
        simp only [Option.some.injEq, Prod.mk.injEq] at h
        obtain ⟨rfl, rfl, rfl⟩ := h
        exact ⟨ti, hti, hd, he⟩
      · cases h
    · cases h
  · cases h
theorem run_indexSlice (hT : tr.All (TOk P)) {t : Nat} {te : TI} (h : sliceOf tr t = some te) {k : Int} {ik : IntKind} {a : Addr} {n c : Nat} (h0 : 0 ≤ k) (h1 : k < n) (w : World) :
    (Instr.indexAt t (.slice (some a) n c) (.int ik k)).run P w = .ok (.pointer (some (a.add (k.toNat * te.size)))) w := by
  obtain ⟨ti, e, hti, hd, he⟩ := sliceOf_desc h
  have ht := (Tr.find_all hT hti).und
  rw [hd] at ht
  obtain ⟨i, z, hinf, hsz, _⟩ := (Tr.find_all hT he).inf
  unfold Instr.indexAt
  simp [Sem.run_bind, asIntOf, run_underlying ht, Sem.run, pure, h0, h1, run_sizeOf hinf, hsz]
theorem run_indexArr (hT : tr.All (TOk P)) {t : Nat} {n e : Nat} {te : TI} (h : arrOf tr t = some (n, e, te)) {k : Int} {ik : IntKind} {a : Addr} (h0 : 0 ≤ k) (h1 : k < n) (w : World) :
    (Instr.indexAt t (.pointer (some a)) (.int ik k)).run P w = .ok (.pointer (some (a.add (k.toNat * te.size)))) w := by
  obtain ⟨ti, hti, hd, he⟩ := arrOf_desc h
  have ht := (Tr.find_all hT hti).und
  rw [hd] at ht
  obtain ⟨i, z, hinf, hsz, _⟩ := (Tr.find_all hT he).inf
  unfold Instr.indexAt
  simp [Sem.run_bind, asIntOf, run_underlying ht, Sem.run, pure, h0, h1, run_sizeOf hinf, hsz, Instr.sureAddr]
theorem indexAddrS_sound (hT : tr.All (TOk P)) {t : Nat} {x i : SV} {q : Prop} {r : SV} (h : indexAddrS tr t x i = some (q, r)) (hq : q) {w : World} {H : Hp} {vx vi : Value} (hx : Rep H env x vx) (hi : Rep H env i vi) :
    Val P env (Instr.indexAt t vx vi) r w H := by
  unfold indexAddrS at h
  split at h
  · rename_i ik k
    cases hi
    split at h
    · rename_i te hs
      split at h
      · rename_i j lo n sz
        split at h
        · rename_i hb
          have := Nat.eq_of_beq_eq_true hb
          subst this
          simp only [Option.some.injEq, Prod.mk.injEq] at h
          obtain ⟨rfl, rfl⟩ := h
          cases hx with
          | mr0 he => have := hq.1; have := hq.2; omega
          | @mr _ j lo n sz b c a he hpos hbk hlo ha =>
            refine ⟨_, run_indexSlice hT hs hq.1 hq.2 w, ?_⟩
            rw [ha (.inr (by omega)), add_none, show lo * te.size + k.toNat * te.size = offp [.x (lo + k.toNat) te.size] by simp [offp, Nat.add_mul]]
            exact .own he hpos
        · cases h
      · rename_i n sz get
        split at h
        · rename_i hb
          have := Nat.eq_of_beq_eq_true hb
          subst this
          simp only [Option.some.injEq, Prod.mk.injEq] at h
          obtain ⟨rfl, rfl⟩ := h
          cases hx with
          | @rs _ n sz get A cap vals h1 h2 h3 h5 h4 =>
            have hk : k.toNat < n := by omega
            obtain ⟨a, rfl, hc⟩ := h4 _ hk
            refine ⟨_, run_indexSlice hT hs hq.1 hq.2 w, .rp (h1 _ hk) (fun t u hu => ?_)⟩
            rw [add_add']
            exact hc t u hu
        · cases h
      · cases h
    · split at h
      · rename_i n e te hs
        split at h
        · rename_i j p
          simp only [Option.some.injEq, Prod.mk.injEq] at h
          obtain ⟨rfl, rfl⟩ := h
          cases hx with
          | @own _ j p b c he hpos =>
            refine ⟨_, run_indexArr hT hs hq.1 hq.2 w, ?_⟩
            rw [add_none, show offp p + k.toNat * te.size = offp (p ++ [.x k.toNat te.size]) by rw [offp_app]; simp [offp]]
            exact .own he hpos
        · rename_i m sz get l
          split at h
          · rename_i hb
            have := Nat.eq_of_beq_eq_true hb
            subst this
            simp only [Option.some.injEq, Prod.mk.injEq] at h
            obtain ⟨rfl, rfl⟩ := h
            cases hx with
            | @rp _ cs vs a h1 h2 =>
              cases h1 with
              | cons h3 => cases h3
              | arr vals h3 h4 h5 =>
                have hk : k.toNat < m := by have := hq.2.2; omega
                refine ⟨_, run_indexArr hT hs hq.1 hq.2.1 w, .rp (h3 _ hk) (fun t u hu => ?_)⟩
                rw [add_add']
                exact h2 _ _ (flat_get h4 hk _ _ _ hu)
          · cases h
        · cases h
      · cases h
  · cases h
theorem bt_get {s : ByteArray} {k : Nat} (h : k < s.size) : s[k]? = some (s[k]'h) ∧ ((s[k]'h).toNat : Int) = bt s k := by
  refine ⟨by simp [h], ?_⟩
  unfold bt
  have : s.data[k]? = some (s.data[k]'h) := Array.getElem?_eq_getElem h
  rw [this]
  rfl
theorem indexS_sound (hT : tr.All (TOk P)) {t : Nat} {x i : SV} {q : Prop} {r : SV} (h : indexS tr t x i = some (q, r)) (hq : q) {w : World} {H : Hp} {vx vi : Value} (hx : Rep H env x vx) (hi : Rep H env i vi) :
    Val P env (Instr.index t vx vi) r w H := by
  unfold indexS at h
  split at h
  · rename_i ik k
    cases hi
    split at h
    · rename_i s
      cases hx
      split at h
      · rename_i a b c ht'
        have ht := (Tr.find_all hT ht').und
        simp only [Option.some.injEq, Prod.mk.injEq] at h
        obtain ⟨rfl, rfl⟩ := h
        obtain ⟨h1, h2⟩ := bt_get (s := s) (k := k.toNat) (by omega)
        refine ⟨_, ?_, .v _⟩
        unfold Instr.index
        simp only [Sem.run_bind, asIntOf, run_underlying ht, Sem.run_pure, Result.andThen_ok, hq.1, if_true, h1]
        rw [← h2]
      · cases h
    · rename_i m sz get
      split at h
      · rename_i n e te hs
        split at h
        · rename_i hb
          have := Nat.eq_of_beq_eq_true hb
          subst this
          split at h
          · rename_i r' hp
            simp only [Option.some.injEq, Prod.mk.injEq] at h
            obtain ⟨rfl, rfl⟩ := h
            obtain ⟨ti, hti, hd, he⟩ := arrOf_desc hs
            have ht := (Tr.find_all hT hti).und
            rw [hd] at ht
            have hte := Tr.find_all hT he
            obtain ⟨i, z, hinf, hsz, _⟩ := hte.inf
            cases hx with
            | @agg _ _ vs h1 =>
              cases h1 with
              | cons h3 => cases h3
              | arr vals h3 h4 h5 =>
                cases h5
                have hk : k.toNat < m := by have := hq.2.2; omega
                obtain ⟨x, h6, h7⟩ := run_part (P := P) (w := w) (all := (flat m vals ++ []).toArray) (off := k.toNat * te.size) hte (h3 _ hk) (fun j u hu => by
                  have := flat_get h4 hk [] j u hu
                  simpa using this) hp
                refine ⟨x, ?_, h7.mono (HLe.refl _) (EnvLe.nil _)⟩
                unfold Instr.index
                simp only [Sem.run_bind, asIntOf, run_underlying ht, Sem.run_pure, Result.andThen_ok, hq.1, hq.2.1, and_self, if_true, run_sizeOf hinf, hsz]
                exact h6
          · cases h
        · cases h
      · cases h
    · cases h
  · cases h
theorem convS_sound (hT : tr.All (TOk P)) {src dst : Nat} {x : SV} {q : Prop} {r : SV} (h : convS tr src dst x = some (q, r)) (hq : q) {w : World} {H : Hp} {vx : Value} (hx : Rep H env x vx) :
    Val P env (convert src dst vx) r w H := by
  unfold convS at h
  split at h
  · rename_i h1 h2
    cases hx
    have hd := (Tr.find_all hT h1).und
    have hs := (Tr.find_all hT h2).und
    simp only [Option.some.injEq, Prod.mk.injEq] at h
    obtain ⟨rfl, rfl⟩ := h
    refine ⟨_, ?_, .v _⟩
    unfold convert
    rw [Sem.run_bind, run_underlying hs, Result.andThen_ok, Sem.run_bind, run_underlying hd, Result.andThen_ok]
    simp [Conv.intToInt, wrap_i64 hq]
  · rename_i h1 h2
    cases hx
    have hd := (Tr.find_all hT h1).und
    have hs := (Tr.find_all hT h2).und
    simp only [Option.some.injEq, Prod.mk.injEq] at h
    obtain ⟨rfl, rfl⟩ := h
    refine ⟨_, ?_, .v _⟩
    unfold convert
    rw [Sem.run_bind, run_underlying hs, Result.andThen_ok, Sem.run_bind, run_underlying hd, Result.andThen_ok]
    simp [Conv.intToInt, wrap_u64 hq]
  · rename_i h1 h2
    cases hx
    have hd := (Tr.find_all hT h1).und
    have hs := (Tr.find_all hT h2).und
    simp only [Option.some.injEq, Prod.mk.injEq] at h
    obtain ⟨rfl, rfl⟩ := h
    refine ⟨_, ?_, .v _⟩
    unfold convert
    rw [Sem.run_bind, run_underlying hs, Result.andThen_ok, Sem.run_bind, run_underlying hd, Result.andThen_ok]
    simp [Conv.intToInt]
  · rename_i h1 h2
    cases hx
    have hd := (Tr.find_all hT h1).und
    have hs := (Tr.find_all hT h2).und
    simp only [Option.some.injEq, Prod.mk.injEq] at h
    obtain ⟨rfl, rfl⟩ := h
    refine ⟨_, ?_, .v _⟩
    unfold convert
    rw [Sem.run_bind, run_underlying hs, Result.andThen_ok, Sem.run_bind, run_underlying hd, Result.andThen_ok]
    simp
  · cases h
/-- The bounds of a cut, as numbers. -/
def cutOf (d : Int) : Option SV → Option Int
  | none => some d
  | some (.v (.int _ k)) => some k
  | _ => none
theorem run_bounds {isS : Bool} {n c : Nat} {lo hi : Option Value} {l h : Int} (hl : lo = none ∧ l = 0 ∨ ∃ k, lo = some (.int k l)) (hh : hi = none ∧ h = n ∨ ∃ k, hi = some (.int k h)) (h0 : 0 ≤ l) (h1 : l ≤ h) (h2 : h ≤ n) (hc : n ≤ c) (w : World) :
    (Instr.sliceBounds isS n c lo hi none).run P w = .ok (l.toNat, h.toNat, c) w := by
  have hb : h ≤ (c : Int) := by omega
  have h3 : 0 ≤ h := by omega
  have h4 : max h 0 = h := by omega
  unfold Instr.sliceBounds
  rcases hl with ⟨rfl, rfl⟩ | ⟨k, rfl⟩ <;> rcases hh with ⟨rfl, rfl⟩ | ⟨k', rfl⟩ <;>
    simp_all [Sem.run_bind, Instr.sliceBound, asIntOf, Sem.run, pure]
theorem cutOf_rep {d l : Int} {lo : Option SV} (h : (match lo with | none => some d | some (.v (.int _ k)) => some k | _ => none) = some l) {H : Hp} {ρ : Operand → Value} {s : T} {o : Option Operand} (he : o.map (ev s) = lo)
    (hr : ∀ y, o = some y → Rep H env (ev s y) (ρ y)) : (o.map ρ = none ∧ l = d) ∨ ∃ k, o.map ρ = some (.int k l) := by
  subst he
  cases o with
  | none => simp at h; exact .inl ⟨rfl, h.symm⟩
  | some y =>
    have := hr y rfl
    simp only [Option.map_some] at h ⊢
    split at h
    · rename_i hn; cases hn
    · rename_i k n hn
      injection hn with hn
      rw [hn] at this
      generalize ρ y = vy at *
      cases this
      injection h with h
      subst h
      exact .inr ⟨_, rfl⟩
    · cases h
theorem sliceS_sound (hT : tr.All (TOk P)) {t : Nat} {x : SV} {s : T} {lo hi : Option Operand} {q : Prop} {r : SV} (h : sliceS tr t x (lo.map (ev s)) (hi.map (ev s)) = some (q, r)) (hq : q) {w : World} {H : Hp} {ρ : Operand → Value} {vx : Value}
    (hx : Rep H env x vx) (hl : ∀ y, lo = some y → Rep H env (ev s y) (ρ y)) (hh : ∀ y, hi = some y → Rep H env (ev s y) (ρ y)) :
    Val P env (Instr.sliceAt t vx (lo.map ρ) (hi.map ρ) none) r w H := by
  unfold sliceS at h
  simp only at h
  split at h
  · cases h
  · rename_i l hl'
    have hL := cutOf_rep (env := env) hl' rfl hl
    split at h
    · rename_i str
      split at h
      · rename_i a b c hh0 ht' hh'
        have hHH := cutOf_rep (env := env) hh' rfl hh
        simp only [Option.some.injEq, Prod.mk.injEq] at h
        obtain ⟨rfl, rfl⟩ := h
        cases hx
        have ht := (Tr.find_all hT ht').und
        refine ⟨_, ?_, .v _⟩
        unfold Instr.sliceAt
        rw [Sem.run_bind, run_underlying ht, Result.andThen_ok]
        simp only
        unfold Instr.slice
        rw [Sem.run_bind, run_underlying ht, Result.andThen_ok]
        simp only [Option.isSome_none, Bool.false_eq_true, if_false, Sem.run_bind, Sem.run_pure, Result.andThen_ok, run_bounds (P := P) hL hHH hq.1 hq.2.1 hq.2.2 (Nat.le_refl _) w]
      · cases h
    · rename_i n sz get
      split at h
      · rename_i te hh0 hs hh'
        have hHH := cutOf_rep (env := env) hh' rfl hh
        split at h
        · rename_i hb
          have := Nat.eq_of_beq_eq_true hb
          subst this
          simp only [Option.some.injEq, Prod.mk.injEq] at h
          obtain ⟨rfl, rfl⟩ := h
          obtain ⟨ti, e, hti, hd, he⟩ := sliceOf_desc hs
          have ht := (Tr.find_all hT hti).und
          rw [hd] at ht
          obtain ⟨i, z, hinf, hsz, _⟩ := (Tr.find_all hT he).inf
          cases hx with
          | @rs _ n sz get A cap vals h1 h2 h3 h5 h4 =>
            refine ⟨.slice (if cap = l.toNat then A else A.map (·.add (l.toNat * te.size))) (hh0.toNat - l.toNat) (cap - l.toNat), ?_, .rs (fun j => vals (l.toNat + j)) (fun j hj => h1 _ (by omega)) (fun j hj => h2 _ (by omega)) (by omega) (by omega) (fun j hj => ?_)⟩
            · unfold Instr.sliceAt
              rw [Sem.run_bind, run_underlying ht, Result.andThen_ok]
              simp only
              unfold Instr.slice
              rw [Sem.run_bind, run_underlying ht, Result.andThen_ok]
              simp only [Sem.run_bind, Sem.run_pure, Result.andThen_ok, run_bounds (P := P) hL hHH hq.1 hq.2.1 hq.2.2 h3 w, run_sizeOf hinf, hsz]
            · obtain ⟨a, rfl, hc⟩ := h4 (l.toNat + j) (by omega)
              rw [if_neg (by omega)]
              refine ⟨_, rfl, fun t u hu => ?_⟩
              rw [add_add', show l.toNat * te.size + (j * te.size + t) = (l.toNat + j) * te.size + t by rw [Nat.add_mul]; omega]
              exact hc t u hu
        · cases h
      · cases h
    · rename_i i o n sz
      split at h
      · rename_i te hh0 hs hh'
        have hHH := cutOf_rep (env := env) hh' rfl hh
        split at h
        · rename_i hb
          have := Nat.eq_of_beq_eq_true hb
          subst this
          simp only [Option.some.injEq, Prod.mk.injEq] at h
          obtain ⟨rfl, rfl⟩ := h
          obtain ⟨ti, e, hti, hd, he⟩ := sliceOf_desc hs
          have ht := (Tr.find_all hT hti).und
          rw [hd] at ht
          obtain ⟨i, z, hinf, hsz, _⟩ := (Tr.find_all hT he).inf
          cases hx with
          | @mr0 _ _ lo sz b A hev =>
            have e1 : l = 0 := by have := hq.1; have := hq.2.1; have := hq.2.2; omega
            have e2 : hh0 = 0 := by have := hq.1; have := hq.2.1; have := hq.2.2; omega
            subst e1; subst e2
            refine ⟨.slice A 0 0, ?_, .mr0 hev⟩
            unfold Instr.sliceAt
            rw [Sem.run_bind, run_underlying ht, Result.andThen_ok]
            simp only
            unfold Instr.slice
            rw [Sem.run_bind, run_underlying ht, Result.andThen_ok]
            simp only [Sem.run_bind, Sem.run_pure, Result.andThen_ok, run_bounds (P := P) (c := 0) hL hHH hq.1 hq.2.1 hq.2.2 (Nat.le_refl _) w, run_sizeOf hinf, hsz]
            simp
          | @mr _ _ lo n sz b c a hev hpos hbk hlo ha =>
            refine ⟨.slice (some (if c - o = l.toNat then a else a.add (l.toNat * te.size))) (hh0.toNat - l.toNat) (c - o - l.toNat), ?_, ?_⟩
            · unfold Instr.sliceAt
              rw [Sem.run_bind, run_underlying ht, Result.andThen_ok]
              simp only
              unfold Instr.slice
              rw [Sem.run_bind, run_underlying ht, Result.andThen_ok]
              simp only [Sem.run_bind, Sem.run_pure, Result.andThen_ok, run_bounds (P := P) hL hHH hq.1 hq.2.1 hq.2.2 (show n ≤ c - o by omega) w, run_sizeOf hinf, hsz]
              split <;> rfl
            · rw [show c - o - l.toNat = c - (o + l.toNat) by omega]
              refine .mr hev hpos ?_ (by omega) (fun hlt => ?_)
              · split
                · exact hbk
                · unfold Addr.add; split <;> exact hbk
              · rcases hlt with hlt | hlt
                · have h0 : l.toNat = 0 := by omega
                  have h1 : o = 0 := by omega
                  rw [ha (.inl h1), h0, h1]
                  split <;> simp [Addr.add]
                · rw [if_neg (by omega), ha (.inr (by omega)), add_none, Nat.add_mul]
        · cases h
      · cases h
    · cases h
theorem lenS_sound (hT : tr.All (TOk P)) {t : Nat} {x : SV} {q : Prop} {r : SV} (h : lenS tr t x = some (q, r)) {w : World} {H : Hp} {vx : Value} (hx : Rep H env x vx) {ty : TypeId} :
    Val P env (Builtin.len_ #[t] ty #[vx]) r w H := by
  unfold lenS at h
  split at h
  · rename_i ti hti
    have ht := (Tr.find_all hT hti).und
    split at h
    all_goals first | cases h; done | skip
    all_goals
      simp only [Option.some.injEq, Prod.mk.injEq] at h
      obtain ⟨rfl, rfl⟩ := h
      rename_i hd
      rw [hd] at ht
      refine ⟨_, ?_, .v _⟩
      unfold Builtin.len_
      first
        | (cases hx <;> simp [Sem.run_bind, run_underlying ht, goInt] <;> done)
        | (simp [Sem.run_bind, run_underlying ht, goInt]; done)
  · cases h
theorem minS_sound {x y : SV} {q : Prop} {r : SV} (h : minS x y = some (q, r)) {w : World} {H : Hp} {vx vy : Value} (hx : Rep H env x vx) (hy : Rep H env y vy) {ts : Array TypeId} {ty : TypeId} :
    Val P env (Builtin.min_ ts ty #[vx, vy]) r w H := by
  unfold minS at h
  split at h
  · cases hx; cases hy
    simp only [Option.some.injEq, Prod.mk.injEq] at h
    obtain ⟨rfl, rfl⟩ := h
    exact ⟨_, by simp [Builtin.min_, Builtin.min2, List.foldlM], .v _⟩
  · cases h
theorem maxS_sound {x y : SV} {q : Prop} {r : SV} (h : maxS x y = some (q, r)) {w : World} {H : Hp} {vx vy : Value} (hx : Rep H env x vx) (hy : Rep H env y vy) {ts : Array TypeId} {ty : TypeId} :
    Val P env (Builtin.max_ ts ty #[vx, vy]) r w H := by
  unfold maxS at h
  split at h
  · cases hx; cases hy
    simp only [Option.some.injEq, Prod.mk.injEq] at h
    obtain ⟨rfl, rfl⟩ := h
    exact ⟨_, by simp [Builtin.max_, Builtin.max2, List.foldlM], .v _⟩
  · cases h
end
end Go.Eng
