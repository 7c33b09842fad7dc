/- A part of the proof that the law of this seat answers true for every input, without a condition. -/
import Derived.Test.YtmjmpncapodlaaaEngY
import Derived.Test.YtmjmpncapodlaaaProg
set_option linter.all false
set_option linter.unusedVariables false
namespace Go.Eng
open Go Go.Proofs
theorem info_of {P : Program} {t : Nat} {x : TypeInfo} (h : P.types[t]? = some x) : P.info? t = some x := by
  unfold Tables.info?
  rw [if_pos (Array.getElem?_eq_some_iff.1 h).1]
  exact h
def ti2 : TI := ⟨(Go.TypeDesc.int Go.IntKind.i64), 1, 8, [.v (.int .i64 0)]⟩
theorem tok2 : TOk Try.prog 2 ti2 := ⟨Try.underlying2, Try.t2, _, info_of Try.type2, rfl, rfl, rfl, rfl, fun H => ((.cons (.v _) trivial .nil) : RepL H [] [.v (.int .i64 0)] (.int .i64 0 :: []))⟩
def ti3 : TI := ⟨(Go.TypeDesc.int Go.IntKind.i64), 1, 8, [.v (.int .i64 0)]⟩
theorem tok3 : TOk Try.prog 3 ti3 := ⟨Try.underlying3, Try.t3, _, info_of Try.type3, rfl, rfl, rfl, rfl, fun H => ((.cons (.v _) trivial .nil) : RepL H [] [.v (.int .i64 0)] (.int .i64 0 :: []))⟩
def ti4 : TI := ⟨Go.TypeDesc.bool, 1, 1, [.b false]⟩
theorem tok4 : TOk Try.prog 4 ti4 := ⟨Try.underlying4, Try.t4, _, info_of Try.type4, rfl, rfl, rfl, rfl, fun H => ((.cons (.b _) trivial .nil) : RepL H [] [.b false] (.bool false :: []))⟩
def ti22 : TI := ⟨(Go.TypeDesc.int Go.IntKind.i8), 1, 1, [.v (.int .i8 0)]⟩
theorem tok22 : TOk Try.prog 22 ti22 := ⟨Try.underlying22, Try.t22, _, info_of Try.type22, rfl, rfl, rfl, rfl, fun H => ((.cons (.v _) trivial .nil) : RepL H [] [.v (.int .i8 0)] (.int .i8 0 :: []))⟩
def ti23 : TI := ⟨(Go.TypeDesc.int Go.IntKind.u16), 1, 2, [.v (.int .u16 0)]⟩
theorem tok23 : TOk Try.prog 23 ti23 := ⟨Try.underlying23, Try.t23, _, info_of Try.type23, rfl, rfl, rfl, rfl, fun H => ((.cons (.v _) trivial .nil) : RepL H [] [.v (.int .u16 0)] (.int .u16 0 :: []))⟩
def ti24 : TI := ⟨(Go.TypeDesc.array 10 23), 10, 20, [.arr 10 1 (fun _ => [.v (.int .u16 0)])]⟩
theorem tok24 : TOk Try.prog 24 ti24 := ⟨Try.underlying24, Try.t24, _, info_of Try.type24, rfl, rfl, rfl, rfl, fun H => ((.arr (fun _ => (.int .u16 0 :: [])) (fun _ _ => (.cons (.v _) trivial .nil)) (fun _ _ => rfl) .nil) : RepL H [] [.arr 10 1 (fun _ => [.v (.int .u16 0)])] (flat 10 (fun _ => (.int .u16 0 :: [])) ++ []))⟩
def ti26 : TI := ⟨(Go.TypeDesc.struct #[(Field.mk "Wide" 22 0 false "" "" 0), (Field.mk "High" 22 1 false "" "" 1), (Field.mk "Walls" 24 2 false "" "" 2)]), 12, 22, [.v (.int .i8 0), .v (.int .i8 0), .arr 10 1 (fun _ => [.v (.int .u16 0)])]⟩
theorem tok26 : TOk Try.prog 26 ti26 := ⟨Try.underlying26, Try.t26, _, info_of Try.type26, rfl, rfl, rfl, rfl, fun H => ((.cons (.v _) trivial (.cons (.v _) trivial (.arr (fun _ => (.int .u16 0 :: [])) (fun _ _ => (.cons (.v _) trivial .nil)) (fun _ _ => rfl) .nil))) : RepL H [] [.v (.int .i8 0), .v (.int .i8 0), .arr 10 1 (fun _ => [.v (.int .u16 0)])] (.int .i8 0 :: (.int .i8 0 :: (flat 10 (fun _ => (.int .u16 0 :: [])) ++ []))))⟩
def ti27 : TI := ⟨(Go.TypeDesc.slice 49), 1, 24, [.emp]⟩
theorem tok27 : TOk Try.prog 27 ti27 := ⟨Try.underlying27, Try.t27, _, info_of Try.type27, rfl, rfl, rfl, rfl, fun H => ((.cons (.emp none) trivial .nil) : RepL H [] [.emp] (.slice none 0 0 :: []))⟩
def ti28 : TI := ⟨(Go.TypeDesc.slice 2), 1, 24, [.emp]⟩
theorem tok28 : TOk Try.prog 28 ti28 := ⟨Try.underlying28, Try.t28, _, info_of Try.type28, rfl, rfl, rfl, rfl, fun H => ((.cons (.emp none) trivial .nil) : RepL H [] [.emp] (.slice none 0 0 :: []))⟩
def ti32 : TI := ⟨(Go.TypeDesc.struct #[(Field.mk "Wide" 22 0 false "" "" 0), (Field.mk "High" 22 1 false "" "" 1), (Field.mk "Walls" 24 2 false "" "" 2)]), 12, 22, [.v (.int .i8 0), .v (.int .i8 0), .arr 10 1 (fun _ => [.v (.int .u16 0)])]⟩
theorem tok32 : TOk Try.prog 32 ti32 := ⟨Try.underlying32, Try.t32, _, info_of Try.type32, rfl, rfl, rfl, rfl, fun H => ((.cons (.v _) trivial (.cons (.v _) trivial (.arr (fun _ => (.int .u16 0 :: [])) (fun _ _ => (.cons (.v _) trivial .nil)) (fun _ _ => rfl) .nil))) : RepL H [] [.v (.int .i8 0), .v (.int .i8 0), .arr 10 1 (fun _ => [.v (.int .u16 0)])] (.int .i8 0 :: (.int .i8 0 :: (flat 10 (fun _ => (.int .u16 0 :: [])) ++ []))))⟩
def ti34 : TI := ⟨(Go.TypeDesc.slice 47), 1, 24, [.emp]⟩
theorem tok34 : TOk Try.prog 34 ti34 := ⟨Try.underlying34, Try.t34, _, info_of Try.type34, rfl, rfl, rfl, rfl, fun H => ((.cons (.emp none) trivial .nil) : RepL H [] [.emp] (.slice none 0 0 :: []))⟩
def ti35 : TI := ⟨(Go.TypeDesc.slice 47), 1, 24, [.emp]⟩
theorem tok35 : TOk Try.prog 35 ti35 := ⟨Try.underlying35, Try.t35, _, info_of Try.type35, rfl, rfl, rfl, rfl, fun H => ((.cons (.emp none) trivial .nil) : RepL H [] [.emp] (.slice none 0 0 :: []))⟩
def ti42 : TI := ⟨(Go.TypeDesc.pointer 32), 1, 8, [.v (.pointer none)]⟩
theorem tok42 : TOk Try.prog 42 ti42 := ⟨Try.underlying42, Try.t42, _, info_of Try.type42, rfl, rfl, rfl, rfl, fun H => ((.cons (.v _) trivial .nil) : RepL H [] [.v (.pointer none)] (.pointer none :: []))⟩
def ti43 : TI := ⟨(Go.TypeDesc.slice 35), 1, 24, [.emp]⟩
theorem tok43 : TOk Try.prog 43 ti43 := ⟨Try.underlying43, Try.t43, _, info_of Try.type43, rfl, rfl, rfl, rfl, fun H => ((.cons (.emp none) trivial .nil) : RepL H [] [.emp] (.slice none 0 0 :: []))⟩
def ti47 : TI := ⟨(Go.TypeDesc.struct #[(Field.mk "X" 22 0 false "" "" 0), (Field.mk "Y" 22 1 false "" "" 1)]), 2, 2, [.v (.int .i8 0), .v (.int .i8 0)]⟩
theorem tok47 : TOk Try.prog 47 ti47 := ⟨Try.underlying47, Try.t47, _, info_of Try.type47, rfl, rfl, rfl, rfl, fun H => ((.cons (.v _) trivial (.cons (.v _) trivial .nil)) : RepL H [] [.v (.int .i8 0), .v (.int .i8 0)] (.int .i8 0 :: (.int .i8 0 :: [])))⟩
def ti49 : TI := ⟨(Go.TypeDesc.struct #[(Field.mk "X" 22 0 false "" "" 0), (Field.mk "Y" 22 1 false "" "" 1)]), 2, 2, [.v (.int .i8 0), .v (.int .i8 0)]⟩
theorem tok49 : TOk Try.prog 49 ti49 := ⟨Try.underlying49, Try.t49, _, info_of Try.type49, rfl, rfl, rfl, rfl, fun H => ((.cons (.v _) trivial (.cons (.v _) trivial .nil)) : RepL H [] [.v (.int .i8 0), .v (.int .i8 0)] (.int .i8 0 :: (.int .i8 0 :: [])))⟩
def ti61 : TI := ⟨(Go.TypeDesc.func #[2] #[4] Bool.false), 1, 8, [.v (.nilFunc)]⟩
theorem tok61 : TOk Try.prog 61 ti61 := ⟨Try.underlying61, Try.t61, _, info_of Try.type61, rfl, rfl, rfl, rfl, fun H => ((.cons (.v _) trivial .nil) : RepL H [] [.v (.nilFunc)] (.nilFunc :: []))⟩
def ti71 : TI := ⟨(Go.TypeDesc.func #[47] #[4] Bool.false), 1, 8, [.v (.nilFunc)]⟩
theorem tok71 : TOk Try.prog 71 ti71 := ⟨Try.underlying71, Try.t71, _, info_of Try.type71, rfl, rfl, rfl, rfl, fun H => ((.cons (.v _) trivial .nil) : RepL H [] [.v (.nilFunc)] (.nilFunc :: []))⟩
def ti75 : TI := ⟨(Go.TypeDesc.int Go.IntKind.u64), 1, 8, [.v (.int .u64 0)]⟩
theorem tok75 : TOk Try.prog 75 ti75 := ⟨Try.underlying75, Try.t75, _, info_of Try.type75, rfl, rfl, rfl, rfl, fun H => ((.cons (.v _) trivial .nil) : RepL H [] [.v (.int .u64 0)] (.int .u64 0 :: []))⟩
def trX : Tr := (.node 32 ⟨(Go.TypeDesc.struct #[(Field.mk "Wide" 22 0 false "" "" 0), (Field.mk "High" 22 1 false "" "" 1), (Field.mk "Walls" 24 2 false "" "" 2)]), 12, 22, [.v (.int .i8 0), .v (.int .i8 0), .arr 10 1 (fun _ => [.v (.int .u16 0)])]⟩ (.node 23 ⟨(Go.TypeDesc.int Go.IntKind.u16), 1, 2, [.v (.int .u16 0)]⟩ (.node 4 ⟨Go.TypeDesc.bool, 1, 1, [.b false]⟩ (.node 3 ⟨(Go.TypeDesc.int Go.IntKind.i64), 1, 8, [.v (.int .i64 0)]⟩ (.node 2 ⟨(Go.TypeDesc.int Go.IntKind.i64), 1, 8, [.v (.int .i64 0)]⟩ .nil .nil) .nil) (.node 22 ⟨(Go.TypeDesc.int Go.IntKind.i8), 1, 1, [.v (.int .i8 0)]⟩ .nil .nil)) (.node 27 ⟨(Go.TypeDesc.slice 49), 1, 24, [.emp]⟩ (.node 26 ⟨(Go.TypeDesc.struct #[(Field.mk "Wide" 22 0 false "" "" 0), (Field.mk "High" 22 1 false "" "" 1), (Field.mk "Walls" 24 2 false "" "" 2)]), 12, 22, [.v (.int .i8 0), .v (.int .i8 0), .arr 10 1 (fun _ => [.v (.int .u16 0)])]⟩ (.node 24 ⟨(Go.TypeDesc.array 10 23), 10, 20, [.arr 10 1 (fun _ => [.v (.int .u16 0)])]⟩ .nil .nil) .nil) (.node 28 ⟨(Go.TypeDesc.slice 2), 1, 24, [.emp]⟩ .nil .nil))) (.node 47 ⟨(Go.TypeDesc.struct #[(Field.mk "X" 22 0 false "" "" 0), (Field.mk "Y" 22 1 false "" "" 1)]), 2, 2, [.v (.int .i8 0), .v (.int .i8 0)]⟩ (.node 42 ⟨(Go.TypeDesc.pointer 32), 1, 8, [.v (.pointer none)]⟩ (.node 35 ⟨(Go.TypeDesc.slice 47), 1, 24, [.emp]⟩ (.node 34 ⟨(Go.TypeDesc.slice 47), 1, 24, [.emp]⟩ .nil .nil) .nil) (.node 43 ⟨(Go.TypeDesc.slice 35), 1, 24, [.emp]⟩ .nil .nil)) (.node 71 ⟨(Go.TypeDesc.func #[47] #[4] Bool.false), 1, 8, [.v (.nilFunc)]⟩ (.node 61 ⟨(Go.TypeDesc.func #[2] #[4] Bool.false), 1, 8, [.v (.nilFunc)]⟩ (.node 49 ⟨(Go.TypeDesc.struct #[(Field.mk "X" 22 0 false "" "" 0), (Field.mk "Y" 22 1 false "" "" 1)]), 2, 2, [.v (.int .i8 0), .v (.int .i8 0)]⟩ .nil .nil) .nil) (.node 75 ⟨(Go.TypeDesc.int Go.IntKind.u64), 1, 8, [.v (.int .u64 0)]⟩ .nil .nil))))
theorem trX_ok : trX.All (TOk Try.prog) := ⟨tok32, ⟨tok23, ⟨tok4, ⟨tok3, ⟨tok2, trivial, trivial⟩, trivial⟩, ⟨tok22, trivial, trivial⟩⟩, ⟨tok27, ⟨tok26, ⟨tok24, trivial, trivial⟩, trivial⟩, ⟨tok28, trivial, trivial⟩⟩⟩, ⟨tok47, ⟨tok42, ⟨tok35, ⟨tok34, trivial, trivial⟩, trivial⟩, ⟨tok43, trivial, trivial⟩⟩, ⟨tok71, ⟨tok61, ⟨tok49, trivial, trivial⟩, trivial⟩, ⟨tok75, trivial, trivial⟩⟩⟩⟩
end Go.Eng
