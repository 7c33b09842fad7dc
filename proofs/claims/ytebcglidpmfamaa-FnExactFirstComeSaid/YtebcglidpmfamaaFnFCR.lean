/- A part of the proof that the law of this seat answers true for every input, without a condition. -/
import Derived.Test.YtebcglidpmfamaaFnFC
import Derived.Test.YtebcglidpmfamaaEngZ
import Derived.Test.YtebcglidpmfamaaRows
set_option linter.all false
set_option linter.unusedVariables false
set_option linter.unusedSimpArgs false
set_option maxRecDepth 100000
namespace Go.Eng
open Go Go.Proofs Go.RowKit
section
variable {DH : Type} {enc : TypeId × Value → DH} {w : World} {spare : Nat → Bool} {held : Bool}
theorem wf_in16 {n : Int} (h : (Lit.int .i16 n).wf = true) : in16 n := by
  simp [Lit.wf, IntKind.min, IntKind.max, IntKind.signed, IntKind.bits] at h
  unfold in16; omega
theorem reads_party : Reads enc Try.prog w spare held 40 2 partyC PartyOk :=
  (reads_struct2 (s0 := 1) (s1 := 1) Try.underlying40 (by kernel_rfl) (by kernel_rfl) (by kernel_rfl) rfl rfl (reads_int Try.underlying35) (reads_int Try.underlying35)).conv partyC PartyOk (fun p => ⟨p.1, p.2⟩) (fun p hp => ⟨⟨wf_in16 hp.1, wf_in16 hp.2⟩, rfl⟩)
end
end Go.Eng
namespace Go.Proofs.Ytebcglidpmfamaa
open Go.ChangeShapes Go.WideShapes Go.ChangeAt Go.RowKit Go.Eng
theorem own_ : ownKnob Try.prog.godebug = none := by kernel_rfl
theorem laid_ : laidOutB Try.prog = true := by kernel_rfl
set_option maxRecDepth 100000 in
theorem lifted_ (os : Os) (started : os.Started) (H : Type) (enc : TypeId × Value → H) :
    ReturnsInHanded {} Try.checked os 3 .any (Rows.fnExactFirstComeSpec.pre6 enc Try.prog Try.f3 Rows.fnExactFirstComeRow.domain false) (Rows.fnExactFirstComeSpec.post enc Try.prog Try.f3 false true false false) := by
  refine returnsInHanded_of_change (C := Try.checked) own_ started (by kernel_rfl) Try.func3
    (ChangeSpec.witness6 (enc := enc) (C := Try.checked) false ⟨#[], #[.slice none 0 0], []⟩ 8 (by kernel_rfl) (by kernel_rfl) (by kernel_rfl) (by kernel_rfl)) ?_
  intro W base args ds gs before hval0 hW hcnd _
  have hval : ∀ (j : Nat) t v, Try.f3.params[j]? = some t → args[j]? = some v → Value.okWide Try.prog W .any base t v := hval0
  have hW' := hW
  obtain ⟨p, q, hA0, hV, rfl, hfz, hnd⟩ := hW
  have hA : DataW.TrodAll enc Try.prog W 0 (fun _ => true) true Try.f3.params.toList args.toList ds p := hA0
  rw [Try.params3] at hA hval
  obtain ⟨v0, vs0, d0, ds0, p0, q0, hargs, rfl, rfl, h0, r0⟩ := trodAll_cons hA
  obtain ⟨rfl, rfl, rfl⟩ := trodAll_nil r0
  obtain rfl : args = #[v0] := by cases args; simp_all
  obtain ⟨rfl, rfl⟩ := trodVars_none hV
  have lt0 : ∀ x ∈ p0, x.block < W.heap.size := by obtain ⟨m, hm⟩ := h0; exact DataW.trod_lt m _ _ _ hm
  obtain ⟨a0, w0, y0, z0⟩ := rep_slice (d0 := ⟨0, 0⟩) Try.underlying22 (by kernel_rfl) reads_party h0 (okWide_slice Try.underlying22 (hval 0 22 v0 rfl rfl))
  clear hA0 hval0
  refine ((spec3 a0 w0 (by omega)).law (.cons y0 .nil)).mono fun e W' ⟨he, bel⟩ => ?_
  subst he
  exact ⟨_, rfl, _, _, _, [], _, [], hW', trodAll_mk1 (shut_bool Try.underlying4 _), (trodAll_cons_mk (Below.trod laid_ (by kernel_rfl) (of_decide_eq_true (by kernel_rfl)) h0 bel lt0) trodAll_mk0), rfl, bel.frame _, fun h => by cases h⟩
theorem fnExactFirstCome_holds : Rows.FnExactFirstComeSaid :=
  OpenClaim.holds_of_wide 3 Try.f3 rfl rfl rfl rfl rfl rfl rfl ⟨rfl, rfl, rfl, rfl, rfl⟩ rfl rfl rfl rfl rfl (by kernel_rfl) Try.func3 (by kernel_rfl)
    (of_decide_eq_true (by kernel_rfl)) (by unfold Func.isWrapper; first | (rw [if_pos (by decide +kernel)]; kernel_rfl) | (rw [if_neg (by decide +kernel)]; exact ⟨rfl, rfl⟩))
    (fun os started H enc _ => lifted_ os started H enc)
#print axioms fnExactFirstCome_holds
end Go.Proofs.Ytebcglidpmfamaa
