/- A part of the proof that the law of this seat answers true for every input, without a condition. -/
import Derived.Test.YtmjmpncapodlaaaFnL
import Derived.Test.YtmjmpncapodlaaaEngZ
import Derived.Test.YtmjmpncapodlaaaRows
set_option linter.all false
set_option linter.unusedVariables false
set_option linter.unusedSimpArgs false
set_option maxRecDepth 100000
namespace Go.Eng
open Go Go.Proofs Go.RowKit
section
variable {DH : Type} {enc : TypeId × Value → DH} {w : World} {spare : Nat → Bool} {held : Bool}
theorem wf_in8 {n : Int} (h : (Lit.int .i8 n).wf = true) : in8 n := by
  simp [Lit.wf, IntKind.min, IntKind.max, IntKind.signed, IntKind.bits] at h
  unfold in8; omega
theorem wf_u16 {n : Int} (h : (Lit.int .u16 n).wf = true) : inU16 n := by
  simp [Lit.wf, IntKind.min, IntKind.max, IntKind.signed, IntKind.bits] at h
  unfold inU16; omega
theorem reads_spot : Reads enc Try.prog w spare held 49 2 spotC SpotOk :=
  (reads_struct2 (s0 := 1) (s1 := 1) Try.underlying49 (by kernel_rfl) (by kernel_rfl) (by kernel_rfl) rfl rfl (reads_int Try.underlying22) (reads_int Try.underlying22)).conv spotC SpotOk (fun p => ⟨p.1, p.2⟩) (fun p hp => ⟨⟨wf_in8 hp.1, wf_in8 hp.2⟩, rfl⟩)
theorem reads_room : Reads enc Try.prog w spare held 26 12 roomC RoomOk :=
  (reads_struct3 (s0 := 1) (s1 := 1) (s2 := 10) Try.underlying26 (by kernel_rfl) (by kernel_rfl) (by kernel_rfl) (by kernel_rfl) rfl rfl rfl (reads_int Try.underlying22) (reads_int Try.underlying22) (reads_array (n := 10) (sz := 1) 0 Try.underlying24 (by kernel_rfl) (by kernel_rfl) (reads_int Try.underlying23))).conv roomC RoomOk (fun p => ⟨p.1, p.2.1, p.2.2⟩) (fun p hp => ⟨⟨wf_in8 hp.1, wf_in8 hp.2.1, fun y hy => wf_u16 (hp.2.2 y hy)⟩, rfl⟩)
end
end Go.Eng
namespace Go.Proofs.Ytmjmpncapodlaaa
open Go.ChangeShapes Go.WideShapes Go.ChangeAt Go.RowKit Go.Eng
theorem own_ : ownKnob Try.prog.godebug = none := by kernel_rfl
theorem laid_ : laidOutB Try.prog = true := by kernel_rfl
set_option maxRecDepth 100000 in
theorem lifted_ (os : Os) (started : os.Started) (H : Type) (enc : TypeId × Value → H) :
    ReturnsInHanded {} Try.checked os 3 .any (Rows.fnExactFirstBadMoveSpec.pre6 enc Try.prog Try.f3 Rows.fnExactFirstBadMoveRow.domain false) (Rows.fnExactFirstBadMoveSpec.post enc Try.prog Try.f3 false true false false) := by
  refine returnsInHanded_of_change (C := Try.checked) own_ started (by kernel_rfl) Try.func3
    (ChangeSpec.witness6 (enc := enc) (C := Try.checked) false ⟨#[], #[.agg #[.int .i8 0, .int .i8 0, .int .u16 0, .int .u16 0, .int .u16 0, .int .u16 0, .int .u16 0, .int .u16 0, .int .u16 0, .int .u16 0, .int .u16 0, .int .u16 0], .slice none 0 0, .slice none 0 0], []⟩ 8 (by kernel_rfl) (by kernel_rfl) (by kernel_rfl) (by kernel_rfl)) ?_
  intro W base args ds gs before hval0 hW hcnd _
  have hval : ∀ (j : Nat) t v, Try.f3.params[j]? = some t → args[j]? = some v → Value.okWide Try.prog W .any base t v := hval0
  have hW' := hW
  obtain ⟨p, q, hA0, hV, rfl, hfz, hnd⟩ := hW
  have hA : DataW.TrodAll enc Try.prog W 0 (fun _ => true) true Try.f3.params.toList args.toList ds p := hA0
  rw [Try.params3] at hA hval
  obtain ⟨v0, vs0, d0, ds0, p0, q0, hargs, rfl, rfl, h0, r0⟩ := trodAll_cons hA
  obtain ⟨v1, vs1, d1, ds1, p1, q1, rfl, rfl, rfl, h1, r1⟩ := trodAll_cons r0
  obtain ⟨v2, vs2, d2, ds2, p2, q2, rfl, rfl, rfl, h2, r2⟩ := trodAll_cons r1
  obtain ⟨rfl, rfl, rfl⟩ := trodAll_nil r2
  obtain rfl : args = #[v0, v1, v2] := by cases args; simp_all
  obtain ⟨rfl, rfl⟩ := trodVars_none hV
  have lt0 : ∀ x ∈ p0, x.block < W.heap.size := by obtain ⟨m, hm⟩ := h0; exact DataW.trod_lt m _ _ _ hm
  have lt1 : ∀ x ∈ p1, x.block < W.heap.size := by obtain ⟨m, hm⟩ := h1; exact DataW.trod_lt m _ _ _ hm
  have lt2 : ∀ x ∈ p2, x.block < W.heap.size := by obtain ⟨m, hm⟩ := h2; exact DataW.trod_lt m _ _ _ hm
  obtain ⟨a0, w0, y0⟩ := rep_agg reads_room h0 (okWide_agg Try.underlying26 (hval 0 26 v0 rfl rfl))
  obtain ⟨a1, w1, y1, z1⟩ := rep_slice (d0 := ⟨0, 0⟩) Try.underlying27 (by kernel_rfl) reads_spot h1 (okWide_slice Try.underlying27 (hval 1 27 v1 rfl rfl))
  obtain ⟨a2, w2, y2, z2⟩ := rep_slice (d0 := 0) Try.underlying28 (by kernel_rfl) (reads_int Try.underlying2) h2 (okWide_slice Try.underlying28 (hval 2 28 v2 rfl rfl))
  clear hA0 hval0
  refine ((spec3 a0 a1 a2 w0 w1 (by omega) (by omega)).law (.cons y0 (.cons y1 (.cons y2 .nil)))).mono fun e W' ⟨he, bel⟩ => ?_
  subst he
  exact ⟨_, rfl, _, _, _, [], _, [], hW', trodAll_mk1 (shut_bool Try.underlying4 _), (trodAll_cons_mk (Below.trod laid_ (by kernel_rfl) (of_decide_eq_true (by kernel_rfl)) h0 bel lt0) (trodAll_cons_mk (Below.trod laid_ (by kernel_rfl) (of_decide_eq_true (by kernel_rfl)) h1 bel lt1) (trodAll_cons_mk (Below.trod laid_ (by kernel_rfl) (of_decide_eq_true (by kernel_rfl)) h2 bel lt2) trodAll_mk0))), rfl, bel.frame _, fun h => by cases h⟩
theorem fnExactFirstBadMove_holds : Rows.FnExactFirstBadMoveSaid :=
  OpenClaim.holds_of_wide 3 Try.f3 rfl rfl rfl rfl rfl rfl rfl ⟨rfl, rfl, rfl, rfl, rfl⟩ rfl rfl rfl rfl rfl (by kernel_rfl) Try.func3 (by kernel_rfl)
    (of_decide_eq_true (by kernel_rfl)) (by unfold Func.isWrapper; first | (rw [if_pos (by decide +kernel)]; kernel_rfl) | (rw [if_neg (by decide +kernel)]; exact ⟨rfl, rfl⟩))
    (fun os started H enc _ => lifted_ os started H enc)
#print axioms fnExactFirstBadMove_holds
end Go.Proofs.Ytmjmpncapodlaaa
