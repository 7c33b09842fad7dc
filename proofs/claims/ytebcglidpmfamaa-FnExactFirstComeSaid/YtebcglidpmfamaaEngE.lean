/- A part of the proof that the law of this seat answers true for every input, without a condition. -/
import Derived.Test.YtebcglidpmfamaaEngD
set_option linter.all false
set_option linter.unusedVariables false
namespace Go.Eng
open Go

/-! ### Operations whose value is told by their operands alone -/
def inI64 (n : Int) : Prop := -9223372036854775808 ≤ n ∧ n ≤ 9223372036854775807
def bitI (op : BinOp) (k : IntKind) (a b : Int) : Int :=
  let x := BitVec.ofInt k.bits a
  let y := BitVec.ofInt k.bits b
  k.wrap (match op with
    | .and => x &&& y
    | .or => x ||| y
    | .xor => x ^^^ y
    | _ => x &&& ~~~y).toNat
theorem wrap_i64 {n : Int} (h : inI64 n) : IntKind.i64.wrap n = n := by
  unfold inI64 at h
  have h1 : IntKind.i64.wrap n = if n % 18446744073709551616 ≥ 9223372036854775808 then n % 18446744073709551616 - 18446744073709551616 else n % 18446744073709551616 := by
    unfold IntKind.wrap
    simp [IntKind.bits, IntKind.signed]
  rw [h1]
  split <;> omega
theorem wrap_u64 {n : Int} (h : 0 ≤ n ∧ n ≤ 18446744073709551615) : IntKind.u64.wrap n = n := by
  have h1 : IntKind.u64.wrap n = n % 18446744073709551616 := by
    unfold IntKind.wrap
    simp [IntKind.bits, IntKind.signed]
  rw [h1]
  omega
/-- Sums of int and int64 are told without a wrap, and owe that they fit; those of the other kinds wrap. -/
def sumI (k : IntKind) (n : Int) : Prop × SV := match k with
  | .i64 => (inI64 n, .v (.int .i64 n))
  | k => (True, .v (.int k (k.wrap n)))
def binI (op : BinOp) (k : IntKind) (a b : Int) : Option (Prop × SV) :=
  match op with
  | .add => some (sumI k (a + b))
  | .sub => some (sumI k (a - b))
  | .mul => some (sumI k (a * b))
  | .quo => some (b ≠ 0, .v (.int k (k.wrap (a.tdiv b))))
  | .rem => some (b ≠ 0, .v (.int k (a.tmod b)))
  | .and => some (True, .v (.int k (bitI .and k a b)))
  | .or => some (True, .v (.int k (bitI .or k a b)))
  | .xor => some (True, .v (.int k (bitI .xor k a b)))
  | .andNot => some (True, .v (.int k (bitI .andNot k a b)))
  | .eql => some (True, .v (.bool (a == b)))
  | .neq => some (True, .v (.bool (a != b)))
  | .lss => some (True, .v (.bool (decide (a < b))))
  | .leq => some (True, .v (.bool (decide (a ≤ b))))
  | .gtr => some (True, .v (.bool (decide (a > b))))
  | .geq => some (True, .v (.bool (decide (a ≥ b))))
  | _ => none
def sameK : IntKind → IntKind → Bool
  | .i8, .i8 | .i16, .i16 | .i32, .i32 | .i64, .i64 | .u8, .u8 | .u16, .u16 | .u32, .u32 | .u64, .u64 => true
  | _, _ => false
theorem sameK_eq {k k' : IntKind} (h : sameK k k' = true) : k = k' := by cases k <;> cases k' <;> first | rfl | cases h
def toB : SV → Option Bool
  | .b p => some p
  | .v (.bool p) => some p
  | _ => none
def binS (op : BinOp) (x y : SV) : Option (Prop × SV) :=
  match op, x, y with
  | .shl, .v (.int k a), .v (.int _ b) => some (0 ≤ b, .v (.int k (k.wrap (a * 2 ^ (min b.toNat k.bits)))))
  | .shr, .v (.int k a), .v (.int _ b) => some (0 ≤ b, .v (.int k (a.fdiv (2 ^ (min b.toNat k.bits)))))
  | op, .v (.int k a), .v (.int k' b) => match sameK k k' with
    | true => binI op k a b
    | false => none
  | .eql, .v (.string a), .v (.string b) => some (True, .v (.bool (a.toList == b.toList)))
  | .neq, .v (.string a), .v (.string b) => some (True, .v (.bool (!(a.toList == b.toList))))
  | .add, .v (.string a), .v (.string b) => some (inI64 ((a.size + b.size : Nat) : Int), .v (.string (a ++ b)))
  | _, _, _ => none
def unS (op : UnOp) (x : SV) : Option (Prop × SV) :=
  match op, x with
  | .not, .b p => some (True, .b (!p))
  | .not, .v (.bool p) => some (True, .v (.bool (!p)))
  | .neg, .v (.int k n) => some (sumI k (0 - n))
  | _, _ => none
def pickS (c a b : SV) : Option (Prop × SV) :=
  match c with
  | .b true => some (True, a)
  | .b false => some (True, b)
  | .v (.bool p) => match toB a, toB b with
    | some x, some y => some (True, .v (.bool (bif p then x else y)))
    | _, _ => none
  | _ => none
def loadS (tr : Tr) (own : List Ch) (t : Nat) (a : SV) : Option (Prop × SV) :=
  match tr.find t with
  | some ti => match a with
    | .own i p => match navO own i p with
      | some (q, l) => match partS ti l with
        | some r => some (q, r)
        | none => none
      | none => none
    | .rp l => match partS ti l with
      | some r => some (True, r)
      | none => none
    | _ => none
  | none => none
def fieldOf (tr : Tr) (t : Nat) (f : Nat) : Option Field :=
  match tr.find t with
  | some ti => match ti.desc with
    | .struct fs => fs[f]?
    | _ => none
  | none => none
def fieldAddrS (tr : Tr) (t : Nat) (a : SV) (f : Nat) : Option (Prop × SV) :=
  match fieldOf tr t f with
  | some fl => match tr.find fl.type with
    | some ti => match ti.size with
      | 0 => none
      | _ + 1 => match a with
        | .own i p => some (True, .own i (p ++ [.f fl.offset]))
        | .rp l => match dropW l fl.offset with
          | some l' => some (True, .rp l')
          | none => none
        | _ => none
    | none => none
  | none => none
def fieldS (tr : Tr) (t : Nat) (x : SV) (f : Nat) : Option (Prop × SV) :=
  match fieldOf tr t f with
  | some fl => match tr.find fl.type with
    | some ti => match x with
      | .agg cs => match dropW cs fl.offset with
        | some l => match partS ti l with
          | some r => some (True, r)
          | none => none
        | none => none
      | _ => none
    | none => none
  | none => none
def arrOf (tr : Tr) (t : Nat) : Option (Nat × Nat × TI) :=
  match tr.find t with
  | some ti => match ti.desc with
    | .array n e => match tr.find e with
      | some te => some (n, e, te)
      | none => none
    | _ => none
  | none => none
def sliceOf (tr : Tr) (t : Nat) : Option TI :=
  match tr.find t with
  | some ti => match ti.desc with
    | .slice e => tr.find e
    | _ => none
  | none => none
def indexAddrS (tr : Tr) (t : Nat) (x i : SV) : Option (Prop × SV) :=
  match i with
  | .v (.int _ k) => match sliceOf tr t with
    | some te => match x with
      | .mr j lo n sz => match Nat.beq sz te.size with
        | true => some (0 ≤ k ∧ k < n, .own j [.x (lo + k.toNat) sz])
        | false => none
      | .rs n sz get => match Nat.beq sz te.size with
        | true => some (0 ≤ k ∧ k < n, .rp (get k.toNat))
        | false => none
      | _ => none
    | none => match arrOf tr t with
      | some (n, _, te) => match x with
        | .own j p => some (0 ≤ k ∧ k < n, .own j (p ++ [.x k.toNat te.size]))
        | .rp (.arr m sz get :: _) => match Nat.beq sz te.size with
          | true => some (0 ≤ k ∧ k < n ∧ k < m, .rp (get k.toNat))
          | false => none
        | _ => none
      | none => none
  | _ => none
def bt (s : ByteArray) (k : Nat) : Int := (((s.data[k]?).getD 0).toNat : Int)
def indexS (tr : Tr) (t : Nat) (x i : SV) : Option (Prop × SV) :=
  match i with
  | .v (.int _ k) => match x with
    | .v (.string s) => match tr.find t with
      | some ⟨.string, _, _, _⟩ => some (0 ≤ k ∧ k < s.size, .v (.int .u8 (bt s k.toNat)))
      | _ => none
    | .agg [.arr m sz get] => match arrOf tr t with
      | some (n, _, te) => match Nat.beq sz te.size with
        | true => match partS te (get k.toNat) with
          | some r => some (0 ≤ k ∧ k < n ∧ k < m, r)
          | none => none
        | false => none
      | none => none
    | _ => none
  | _ => none
def convS (tr : Tr) (src dst : Nat) (x : SV) : Option (Prop × SV) :=
  match tr.find dst, tr.find src, x with
  | some ⟨.int .i64, _, _, _⟩, some _, .v (.int _ n) => some (inI64 n, .v (.int .i64 n))
  | some ⟨.int .u64, _, _, _⟩, some _, .v (.int _ n) => some (0 ≤ n ∧ n ≤ 18446744073709551615, .v (.int .u64 n))
  | some ⟨.int k, _, _, _⟩, some _, .v (.int _ n) => some (True, .v (.int k (k.wrap n)))
  | some ⟨.string, _, _, _⟩, some _, .v (.string s) => some (True, .v (.string s))
  | _, _, _ => none
def sliceS (tr : Tr) (t : Nat) (x : SV) (lo hi : Option SV) : Option (Prop × SV) :=
  let l : Option Int := match lo with
    | none => some 0
    | some (.v (.int _ k)) => some k
    | _ => none
  match l with
  | none => none
  | some l =>
    let h (n : Nat) : Option Int := match hi with
      | none => some n
      | some (.v (.int _ k)) => some k
      | _ => none
    match x with
    | .v (.string s) => match tr.find t, h s.size with
      | some ⟨.string, _, _, _⟩, some h => some (0 ≤ l ∧ l ≤ h ∧ h ≤ s.size, .v (.string (s.extract l.toNat h.toNat)))
      | _, _ => none
    | .rs n sz get => match sliceOf tr t, h n with
      | some te, some h => match Nat.beq sz te.size with
        | true => some (0 ≤ l ∧ l ≤ h ∧ h ≤ n, .rs (h.toNat - l.toNat) sz fun j => get (l.toNat + j))
        | false => none
      | _, _ => none
    | .mr i o n sz => match sliceOf tr t, h n with
      | some te, some h => match Nat.beq sz te.size with
        | true => some (0 ≤ l ∧ l ≤ h ∧ h ≤ n, .mr i (o + l.toNat) (h.toNat - l.toNat) sz)
        | false => none
      | _, _ => none
    | _ => none
def isNilSlice : Value → Bool
  | .slice none 0 0 => true
  | _ => false
def lenS (tr : Tr) (t : Nat) (x : SV) : Option (Prop × SV) :=
  match tr.find t with
  | some ti => match ti.desc, x with
    | .string, .v (.string s) => some (True, .v (.int .i64 s.size))
    | .slice _, .rs n _ _ => some (True, .v (.int .i64 n))
    | .slice _, .mr _ _ n _ => some (True, .v (.int .i64 n))
    | .slice _, .emp => some (True, .v (.int .i64 0))
    | .array n _, _ => some (True, .v (.int .i64 n))
    | _, _ => none
  | none => none
def minS : SV → SV → Option (Prop × SV)
  | .v (.int k x), .v (.int _ y) => some (True, .v (.int k (if y < x then y else x)))
  | _, _ => none
def maxS : SV → SV → Option (Prop × SV)
  | .v (.int k x), .v (.int _ y) => some (True, .v (.int k (if x < y then y else x)))
  | _, _ => none
/-- Parts laid over cells: each over one item or more, whole ones alone. -/
def ovl (new : List SV) : List SV → Option (List SV)
  | cs => match new with
    | [] => some cs
    | n :: ns => match cs with
      | [] => none
      | c :: cs => match Nat.beq (wd n) (wd c) with
        | true => match ovl ns cs with
          | some r => some (n :: r)
          | none => none
        | false => none
def ovlAt (new : List SV) : List SV → Nat → Option (List SV)
  | cs, 0 => ovl new cs
  | [], _ + 1 => none
  | c :: cs, m + 1 => match Nat.ble (wd c) (m + 1) with
    | true => match ovlAt new cs (m + 1 - wd c) with
      | some r => some (c :: r)
      | none => none
    | false => none
def cellsS : SV → Option (List SV)
  | .agg cs => some cs
  | .tup _ | .arr _ _ _ | .junk | .v (.agg _) | .v (.tuple _) => none
  | .v x => match x with
    | .agg _ | .tuple _ => none
    | x => some [.v x]
  | x => some [x]
end Go.Eng
