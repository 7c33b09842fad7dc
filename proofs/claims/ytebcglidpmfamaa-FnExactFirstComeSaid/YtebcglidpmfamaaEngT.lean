/- A part of the proof that the law of this seat answers true for every input, without a condition. -/
import Derived.Test.YtebcglidpmfamaaEngY
import Derived.Test.YtebcglidpmfamaaProg
set_option linter.all false
set_option linter.unusedVariables false
namespace Go.Eng
open Go Go.Proofs
theorem info_of {P : Program} {t : Nat} {x : TypeInfo} (h : P.types[t]? = some x) : P.info? t = some x := by
  unfold Tables.info?
  rw [if_pos (Array.getElem?_eq_some_iff.1 h).1]
  exact h
def ti2 : TI := ⟨(Go.TypeDesc.int Go.IntKind.i64), 1, 8, [.v (.int .i64 0)]⟩
theorem tok2 : TOk Try.prog 2 ti2 := ⟨Try.underlying2, Try.t2, _, info_of Try.type2, rfl, rfl, rfl, rfl, fun H => ((.cons (.v _) trivial .nil) : RepL H [] [.v (.int .i64 0)] (.int .i64 0 :: []))⟩
def ti3 : TI := ⟨(Go.TypeDesc.int Go.IntKind.i64), 1, 8, [.v (.int .i64 0)]⟩
theorem tok3 : TOk Try.prog 3 ti3 := ⟨Try.underlying3, Try.t3, _, info_of Try.type3, rfl, rfl, rfl, rfl, fun H => ((.cons (.v _) trivial .nil) : RepL H [] [.v (.int .i64 0)] (.int .i64 0 :: []))⟩
def ti4 : TI := ⟨Go.TypeDesc.bool, 1, 1, [.b false]⟩
theorem tok4 : TOk Try.prog 4 ti4 := ⟨Try.underlying4, Try.t4, _, info_of Try.type4, rfl, rfl, rfl, rfl, fun H => ((.cons (.b _) trivial .nil) : RepL H [] [.b false] (.bool false :: []))⟩
def ti22 : TI := ⟨(Go.TypeDesc.slice 40), 1, 24, [.emp]⟩
theorem tok22 : TOk Try.prog 22 ti22 := ⟨Try.underlying22, Try.t22, _, info_of Try.type22, rfl, rfl, rfl, rfl, fun H => ((.cons (.emp none) trivial .nil) : RepL H [] [.emp] (.slice none 0 0 :: []))⟩
def ti24 : TI := ⟨(Go.TypeDesc.slice 2), 1, 24, [.emp]⟩
theorem tok24 : TOk Try.prog 24 ti24 := ⟨Try.underlying24, Try.t24, _, info_of Try.type24, rfl, rfl, rfl, rfl, fun H => ((.cons (.emp none) trivial .nil) : RepL H [] [.emp] (.slice none 0 0 :: []))⟩
def ti27 : TI := ⟨(Go.TypeDesc.slice 37), 1, 24, [.emp]⟩
theorem tok27 : TOk Try.prog 27 ti27 := ⟨Try.underlying27, Try.t27, _, info_of Try.type27, rfl, rfl, rfl, rfl, fun H => ((.cons (.emp none) trivial .nil) : RepL H [] [.emp] (.slice none 0 0 :: []))⟩
def ti35 : TI := ⟨(Go.TypeDesc.int Go.IntKind.i16), 1, 2, [.v (.int .i16 0)]⟩
theorem tok35 : TOk Try.prog 35 ti35 := ⟨Try.underlying35, Try.t35, _, info_of Try.type35, rfl, rfl, rfl, rfl, fun H => ((.cons (.v _) trivial .nil) : RepL H [] [.v (.int .i16 0)] (.int .i16 0 :: []))⟩
def ti37 : TI := ⟨(Go.TypeDesc.struct #[(Field.mk "Arrive" 35 0 false "" "" 0), (Field.mk "Size" 35 1 false "" "" 2)]), 2, 4, [.v (.int .i16 0), .v (.int .i16 0)]⟩
theorem tok37 : TOk Try.prog 37 ti37 := ⟨Try.underlying37, Try.t37, _, info_of Try.type37, rfl, rfl, rfl, rfl, fun H => ((.cons (.v _) trivial (.cons (.v _) trivial .nil)) : RepL H [] [.v (.int .i16 0), .v (.int .i16 0)] (.int .i16 0 :: (.int .i16 0 :: [])))⟩
def ti40 : TI := ⟨(Go.TypeDesc.struct #[(Field.mk "Arrive" 35 0 false "" "" 0), (Field.mk "Size" 35 1 false "" "" 2)]), 2, 4, [.v (.int .i16 0), .v (.int .i16 0)]⟩
theorem tok40 : TOk Try.prog 40 ti40 := ⟨Try.underlying40, Try.t40, _, info_of Try.type40, rfl, rfl, rfl, rfl, fun H => ((.cons (.v _) trivial (.cons (.v _) trivial .nil)) : RepL H [] [.v (.int .i16 0), .v (.int .i16 0)] (.int .i16 0 :: (.int .i16 0 :: [])))⟩
def ti42 : TI := ⟨(Go.TypeDesc.func #[3] #[4] Bool.false), 1, 8, [.v (.nilFunc)]⟩
theorem tok42 : TOk Try.prog 42 ti42 := ⟨Try.underlying42, Try.t42, _, info_of Try.type42, rfl, rfl, rfl, rfl, fun H => ((.cons (.v _) trivial .nil) : RepL H [] [.v (.nilFunc)] (.nilFunc :: []))⟩
def ti44 : TI := ⟨(Go.TypeDesc.func #[2, 2] #[3] Bool.false), 1, 8, [.v (.nilFunc)]⟩
theorem tok44 : TOk Try.prog 44 ti44 := ⟨Try.underlying44, Try.t44, _, info_of Try.type44, rfl, rfl, rfl, rfl, fun H => ((.cons (.v _) trivial .nil) : RepL H [] [.v (.nilFunc)] (.nilFunc :: []))⟩
def ti48 : TI := ⟨(Go.TypeDesc.func #[37] #[4] Bool.false), 1, 8, [.v (.nilFunc)]⟩
theorem tok48 : TOk Try.prog 48 ti48 := ⟨Try.underlying48, Try.t48, _, info_of Try.type48, rfl, rfl, rfl, rfl, fun H => ((.cons (.v _) trivial .nil) : RepL H [] [.v (.nilFunc)] (.nilFunc :: []))⟩
def ti53 : TI := ⟨(Go.TypeDesc.int Go.IntKind.u64), 1, 8, [.v (.int .u64 0)]⟩
theorem tok53 : TOk Try.prog 53 ti53 := ⟨Try.underlying53, Try.t53, _, info_of Try.type53, rfl, rfl, rfl, rfl, fun H => ((.cons (.v _) trivial .nil) : RepL H [] [.v (.int .u64 0)] (.int .u64 0 :: []))⟩
def trX : Tr := (.node 35 ⟨(Go.TypeDesc.int Go.IntKind.i16), 1, 2, [.v (.int .i16 0)]⟩ (.node 22 ⟨(Go.TypeDesc.slice 40), 1, 24, [.emp]⟩ (.node 3 ⟨(Go.TypeDesc.int Go.IntKind.i64), 1, 8, [.v (.int .i64 0)]⟩ (.node 2 ⟨(Go.TypeDesc.int Go.IntKind.i64), 1, 8, [.v (.int .i64 0)]⟩ .nil .nil) (.node 4 ⟨Go.TypeDesc.bool, 1, 1, [.b false]⟩ .nil .nil)) (.node 27 ⟨(Go.TypeDesc.slice 37), 1, 24, [.emp]⟩ (.node 24 ⟨(Go.TypeDesc.slice 2), 1, 24, [.emp]⟩ .nil .nil) .nil)) (.node 44 ⟨(Go.TypeDesc.func #[2, 2] #[3] Bool.false), 1, 8, [.v (.nilFunc)]⟩ (.node 40 ⟨(Go.TypeDesc.struct #[(Field.mk "Arrive" 35 0 false "" "" 0), (Field.mk "Size" 35 1 false "" "" 2)]), 2, 4, [.v (.int .i16 0), .v (.int .i16 0)]⟩ (.node 37 ⟨(Go.TypeDesc.struct #[(Field.mk "Arrive" 35 0 false "" "" 0), (Field.mk "Size" 35 1 false "" "" 2)]), 2, 4, [.v (.int .i16 0), .v (.int .i16 0)]⟩ .nil .nil) (.node 42 ⟨(Go.TypeDesc.func #[3] #[4] Bool.false), 1, 8, [.v (.nilFunc)]⟩ .nil .nil)) (.node 53 ⟨(Go.TypeDesc.int Go.IntKind.u64), 1, 8, [.v (.int .u64 0)]⟩ (.node 48 ⟨(Go.TypeDesc.func #[37] #[4] Bool.false), 1, 8, [.v (.nilFunc)]⟩ .nil .nil) .nil)))
theorem trX_ok : trX.All (TOk Try.prog) := ⟨tok35, ⟨tok22, ⟨tok3, ⟨tok2, trivial, trivial⟩, ⟨tok4, trivial, trivial⟩⟩, ⟨tok27, ⟨tok24, trivial, trivial⟩, trivial⟩⟩, ⟨tok44, ⟨tok40, ⟨tok37, trivial, trivial⟩, ⟨tok42, trivial, trivial⟩⟩, ⟨tok53, ⟨tok48, trivial, trivial⟩, trivial⟩⟩⟩
end Go.Eng
