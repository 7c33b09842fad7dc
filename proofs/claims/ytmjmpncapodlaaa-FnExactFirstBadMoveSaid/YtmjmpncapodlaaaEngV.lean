/- A part of the proof that the law of this seat answers true for every input, without a condition. -/
import Derived.Test.YtmjmpncapodlaaaEngU
import Derived.Laws.StructEq
set_option linter.all false
set_option linter.unusedVariables false
namespace Go.Eng
open Go Go.Proofs
theorem spotEq_run (w : World) (a b c d : Int) : (Op.equalIn 10000 47 (.agg #[.int .i8 a, .int .i8 b]) (.agg #[.int .i8 c, .int .i8 d])).run Try.prog w = .ok (a == c && b == d) w := by
  have hf : Try.prog.fieldsOf 47 = #[Field.mk "X" 22 0 false "" "" 0, Field.mk "Y" 22 1 false "" "" 1] := by
    unfold Program.fieldsOf
    rw [Try.underlying47]
  rw [run_equalIn_agg w 9999 47 _ _ (by rw [hf]; exact Try.underlying47) (by kernel_rfl), hf]
  have hp : ∀ (off : Nat) (xs : Array Value) (v : Value), xs[off]? = some v → (part 22 xs off).run Try.prog w = .ok v w := by
    intro off xs v h
    unfold part
    rw [Sem.run_bind, run_isAgg Try.underlying22, Result.andThen_ok]
    simp [aggB, h]
  have h1 : (part 22 #[.int .i8 a, .int .i8 b] 0).run Try.prog w = .ok (.int .i8 a) w := hp _ _ _ rfl
  have h2 : (part 22 #[.int .i8 a, .int .i8 b] 1).run Try.prog w = .ok (.int .i8 b) w := hp _ _ _ rfl
  have h3 : (part 22 #[.int .i8 c, .int .i8 d] 0).run Try.prog w = .ok (.int .i8 c) w := hp _ _ _ rfl
  have h4 : (part 22 #[.int .i8 c, .int .i8 d] 1).run Try.prog w = .ok (.int .i8 d) w := hp _ _ _ rfl
  have he : ∀ a b : Int, (Op.equalIn 9999 22 (.int .i8 a) (.int .i8 b)).run Try.prog w = .ok (a == b) w := fun a b => run_equalIn_int w 9998 22 .i8 .i8 a b Try.underlying22
  simp only [Op.eqFields, Sem.run_bind, Sem.run_ite, h1, h2, h3, h4, Result.andThen_ok, he]
  by_cases e1 : a = c <;> by_cases e2 : b = d <;> simp [e1, e2]
theorem spotC_inv {H : Hp} {env : List (Nat × Nat)} {a b : Int} {x : Value} (h : Rep H env (.agg [i8 a, i8 b]) x) : x = .agg #[.int .i8 a, .int .i8 b] := by
  cases h with
  | agg h => cases h with
    | cons h1 _ h2 => cases h1; cases h2 with
      | cons h3 _ h4 => cases h3; cases h4; rfl
/-- Two spots compared. -/
theorem other_eqSpot {o : Oper} {x y : Operand} (ho : o.op = .binOp .eql 47 x y 47) {s : T} {own : List Ch} {a b c d : Int} (hx : ev s x = .agg [i8 a, i8 b]) (hy : ev s y = .agg [i8 c, i8 d]) {k : SV → List Ch → Prop}
    (hk : k (.v (.bool (a == c && b == d))) own) : OtherP Try.prog .g own o s k := by
  refine ⟨_, own, Out.of_run_g fun env own => ?_, hk⟩
  intro w H ρ hi hr hcst
  have h1 := hr x (by rw [ho]; simp [Op.operands])
  have h2 := hr y (by rw [ho]; simp [Op.operands])
  rw [hx] at h1
  rw [hy] at h2
  have e1 := spotC_inv h1
  have e2 := spotC_inv h2
  have hrun : (binOp .eql 47 (ρ x) (ρ y)).run Try.prog w = .ok (.bool (a == c && b == d)) w := by
    rw [e1, e2, run_eql_struct, spotEq_run]; rfl
  have hexec : (execOp ρ o).run Try.prog w = .ok (.value (.bool (a == c && b == d))) w := by
    unfold execOp
    simp only [ho, Sem.run_bind]
    have hg : (eqGuard .eql 47 x y (ρ x) (ρ y)).run Try.prog w = .ok () w := by rw [e1, e2]; exact run_eqGuard_agg w .eql 47 x y _ _ (by kernel_rfl)
    rw [hg, Result.andThen_ok, hrun]
    rfl
  rw [hexec]
  exact ⟨H, Step.refl hi.inn, .v _⟩
theorem other_neSpot {o : Oper} {x y : Operand} (ho : o.op = .binOp .neq 47 x y 47) {s : T} {own : List Ch} {a b c d : Int} (hx : ev s x = .agg [i8 a, i8 b]) (hy : ev s y = .agg [i8 c, i8 d]) {k : SV → List Ch → Prop}
    (hk : k (.v (.bool (!(a == c && b == d)))) own) : OtherP Try.prog .g own o s k := by
  refine ⟨_, own, Out.of_run_g fun env own => ?_, hk⟩
  intro w H ρ hi hr hcst
  have h1 := hr x (by rw [ho]; simp [Op.operands])
  have h2 := hr y (by rw [ho]; simp [Op.operands])
  rw [hx] at h1
  rw [hy] at h2
  have e1 := spotC_inv h1
  have e2 := spotC_inv h2
  have hrun : (binOp .neq 47 (ρ x) (ρ y)).run Try.prog w = .ok (.bool (!(a == c && b == d))) w := by
    rw [e1, e2, run_neq_struct, spotEq_run]; rfl
  have hexec : (execOp ρ o).run Try.prog w = .ok (.value (.bool (!(a == c && b == d)))) w := by
    unfold execOp
    simp only [ho, Sem.run_bind]
    have hg : (eqGuard .neq 47 x y (ρ x) (ρ y)).run Try.prog w = .ok () w := by rw [e1, e2]; exact run_eqGuard_agg w .neq 47 x y _ _ (by kernel_rfl)
    rw [hg, Result.andThen_ok, hrun]
    rfl
  rw [hexec]
  exact ⟨H, Step.refl hi.inn, .v _⟩
end Go.Eng
