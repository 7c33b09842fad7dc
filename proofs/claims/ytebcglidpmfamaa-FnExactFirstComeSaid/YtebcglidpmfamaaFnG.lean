/- A part of the proof that the law of this seat answers true for every input, without a condition. -/
import Derived.Test.YtebcglidpmfamaaFnF
set_option linter.all false
set_option linter.unusedVariables false
set_option linter.unusedSimpArgs false
set_option pp.maxSteps 150
set_option maxRecDepth 100000
namespace Go.Eng
open Go Go.Proofs
theorem wrap_u16 {n : Int} (h : inU16 n) : IntKind.u16.wrap n = n := by
  unfold inU16 at h
  have h1 : IntKind.u16.wrap n = n % 65536 := by
    unfold IntKind.wrap
    simp [IntKind.bits, IntKind.signed]
  rw [h1]; omega
theorem and1_u16 {x : Int} (h : inU16 x) : bitI .and .u16 x 1 = x % 2 := by
  unfold bitI
  simp only
  have h' := h
  unfold inU16 at h'
  obtain ⟨n, rfl⟩ : ∃ n : Nat, x = n := ⟨x.toNat, by omega⟩
  have e : ((BitVec.ofInt IntKind.u16.bits (n : Int) &&& BitVec.ofInt IntKind.u16.bits 1).toNat : Int) = (n : Int) % 2 := by
    show ((BitVec.ofInt 16 (n : Int) &&& BitVec.ofInt 16 1).toNat : Int) = _
    rw [BitVec.toNat_and]
    have e1 : (BitVec.ofInt 16 (n : Int)).toNat = n := by
      rw [BitVec.toNat_ofInt]; omega
    have e2 : (BitVec.ofInt 16 1).toNat = 1 := rfl
    rw [e1, e2, Nat.and_one_is_mod]; omega
  rw [e, wrap_u16]
  unfold inU16; omega
theorem fdiv_u16 {x : Int} {k : Nat} (h : inU16 x) : inU16 (x.fdiv (2 ^ k)) := by
  unfold inU16 at *
  have hp : (0 : Int) < 2 ^ k := Int.pow_pos (by omega)
  rw [Int.fdiv_eq_ediv_of_nonneg _ (Int.le_of_lt hp)]
  refine ⟨Int.ediv_nonneg h.1 (Int.le_of_lt hp), ?_⟩
  exact Int.le_trans (Int.ediv_le_self _ h.1) h.2
/-- The bit of a cell among the walls. -/
def wallB (r : RoomV) (p : SpotV) : Int := ((r.wall p.y.toNat).fdiv (2 ^ (min p.x.toNat 16))) % 2
def freeV (r : RoomV) (p : SpotV) : Bool := isV r p && decide (wallB r p = 0)
structure RoomS (r : RoomV) : Prop extends RoomOk r where
  wide10 : r.wide ≤ 10
  high10 : r.high ≤ 10
theorem RoomS.of {r : RoomV} (h : RoomOk r) (hv : validV r = true) : RoomS r := by
  simp only [validV, Bool.and_eq_true, decide_eq_true_eq] at hv
  exact ⟨h, hv.1.1.2, hv.1.2.2⟩
theorem isCellV_eq {r : RoomV} (h : RoomS r) (p : SpotV) : isCellV r p = isV r p := by
  have h1 := h.wide10
  have h2 := h.high10
  unfold isCellV isV
  rw [if_neg (by omega), if_neg (by omega)]
theorem tmod2 {x : Int} (h : inU16 x) : x.tmod 2 = x % 2 := by
  unfold inU16 at h
  rw [Int.tmod_eq_emod_of_nonneg h.1]
theorem freeV_at {r : RoomV} {p : SpotV} (h : isV r p = true) : freeV r p = decide (wallB r p = 0) := by unfold freeV; rw [h]; rfl
theorem freeV_not {r : RoomV} {p : SpotV} (h : isV r p = false) : false = freeV r p := by unfold freeV; rw [h]; rfl
theorem isV_iff {r : RoomV} {p : SpotV} : isV r p = true ↔ 0 ≤ p.x ∧ p.x ≤ r.wide - 1 ∧ 0 ≤ p.y ∧ p.y ≤ r.high - 1 := by
  unfold isV; simp only [Bool.and_eq_true, decide_eq_true_eq, and_assoc]
theorem bit_and {r : RoomV} {p : SpotV} (hr : RoomOk r) (hy : p.y.toNat < 10) (hv : isV r p = true) : (bitI BinOp.and IntKind.u16 ((r.wall p.y.toNat).fdiv (2 ^ min p.x.toNat IntKind.u16.bits)) 1 == 0) = freeV r p := by
  rw [freeV_at hv, and1_u16 (fdiv_u16 (hr.wall _ hy))]
  rfl
theorem bit_mod {r : RoomV} {p : SpotV} (hr : RoomOk r) (hy : p.y.toNat < 10) (hv : isV r p = true) : (((r.wall p.y.toNat).fdiv (2 ^ min p.x.toNat IntKind.u16.bits)).tmod 2 == 0) = freeV r p := by
  rw [freeV_at hv, tmod2 (fdiv_u16 (hr.wall _ hy))]
  rfl
-- not in this seat: (impl.Room).isFree
-- not in this seat: spec.l01Free
attribute [irreducible] freeV
end Go.Eng
