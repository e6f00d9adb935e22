/-
  Words of 8, 32 and 64 bits as the machine holds them, and what the machine's operations make of them, told in BitVec.
-/
import Derived.WalkKit
import Derived.WalkSpells
import Derived.WalkLawsBesides
namespace Go.Proofs.Ytjeddokenpkpnaa
open Go Go.RowKit

/-- a word of 64 bits -/
def U64 (x : BitVec 64) : Value := .int .u64 (x.toNat : Int)
/-- a word of 32 bits -/
def U32 (x : BitVec 32) : Value := .int .u32 (x.toNat : Int)
/-- a byte -/
def U8 (x : BitVec 8) : Value := .int .u8 (x.toNat : Int)

theorem U64_inj {x y : BitVec 64} (h : U64 x = U64 y) : x = y := by
  unfold U64 at h; injection h with _ h; exact BitVec.eq_of_toNat_eq (by omega)
theorem U32_inj {x y : BitVec 32} (h : U32 x = U32 y) : x = y := by
  unfold U32 at h; injection h with _ h; exact BitVec.eq_of_toNat_eq (by omega)
theorem U8_inj {x y : BitVec 8} (h : U8 x = U8 y) : x = y := by
  unfold U8 at h; injection h with _ h; exact BitVec.eq_of_toNat_eq (by omega)

@[simp high, go_sem ↓ high] theorem U64_cells (x : BitVec 64) : (U64 x).cells = #[U64 x] := rfl
@[simp high, go_sem ↓ high] theorem U32_cells (x : BitVec 32) : (U32 x).cells = #[U32 x] := rfl
@[simp high, go_sem ↓ high] theorem U8_cells (x : BitVec 8) : (U8 x).cells = #[U8 x] := rfl
universe u
section
variable {motive : Value → Sort u} (h1 : (cs : Array Value) → motive (.agg cs)) (h2 : (v : Value) → motive v)
@[go_sem] theorem cells_match_U64 (x : BitVec 64) : Value.cells.match_1 motive (U64 x) h1 h2 = h2 (U64 x) := rfl
@[go_sem] theorem cells_match_U32 (x : BitVec 32) : Value.cells.match_1 motive (U32 x) h1 h2 = h2 (U32 x) := rfl
@[go_sem] theorem cells_match_U8 (x : BitVec 8) : Value.cells.match_1 motive (U8 x) h1 h2 = h2 (U8 x) := rfl
end
@[simp high, go_sem high] theorem U64_one (x : BitVec 64) : (U64 x).oneCell' = true := rfl
@[simp high, go_sem high] theorem U32_one (x : BitVec 32) : (U32 x).oneCell' = true := rfl
@[simp high, go_sem high] theorem U8_one (x : BitVec 8) : (U8 x).oneCell' = true := rfl

theorem wrap_u64_nat (n : Int) : IntKind.u64.wrap n = ((BitVec.ofInt 64 n).toNat : Int) := by
  simp [IntKind.wrap, IntKind.bits, IntKind.signed, BitVec.toNat_ofInt]; omega
theorem wrap_u32_nat (n : Int) : IntKind.u32.wrap n = ((BitVec.ofInt 32 n).toNat : Int) := by
  simp [IntKind.wrap, IntKind.bits, IntKind.signed, BitVec.toNat_ofInt]; omega
theorem wrap_u8_nat (n : Int) : IntKind.u8.wrap n = ((BitVec.ofInt 8 n).toNat : Int) := by
  simp [IntKind.wrap, IntKind.bits, IntKind.signed, BitVec.toNat_ofInt]; omega
theorem int_u64_wrap (n : Int) : Value.int .u64 (IntKind.u64.wrap n) = U64 (BitVec.ofInt 64 n) := by rw [wrap_u64_nat]; rfl
theorem int_u32_wrap (n : Int) : Value.int .u32 (IntKind.u32.wrap n) = U32 (BitVec.ofInt 32 n) := by rw [wrap_u32_nat]; rfl
theorem int_u8_wrap (n : Int) : Value.int .u8 (IntKind.u8.wrap n) = U8 (BitVec.ofInt 8 n) := by rw [wrap_u8_nat]; rfl

theorem ofInt_toNat {n : Nat} (x : BitVec n) : BitVec.ofInt n (x.toNat : Int) = x := by
  apply BitVec.eq_of_toNat_eq; rw [BitVec.toNat_ofInt]
  have := x.isLt
  rw [Int.emod_eq_of_lt (by omega) (by omega)]; rfl
theorem ofInt_add' {n : Nat} (x y : BitVec n) : BitVec.ofInt n ((x.toNat : Int) + y.toNat) = x + y := by
  rw [BitVec.ofInt_add, ofInt_toNat, ofInt_toNat]
theorem ofInt_sub' {n : Nat} (x y : BitVec n) : BitVec.ofInt n ((x.toNat : Int) - y.toNat) = x - y := by
  rw [Int.sub_eq_add_neg, BitVec.ofInt_add, BitVec.ofInt_neg, ofInt_toNat, ofInt_toNat, BitVec.sub_eq_add_neg]
theorem ofInt_mul' {n : Nat} (x y : BitVec n) : BitVec.ofInt n ((x.toNat : Int) * y.toNat) = x * y := by
  rw [BitVec.ofInt_mul, ofInt_toNat, ofInt_toNat]
theorem ofInt_nat {n : Nat} (m : Nat) : BitVec.ofInt n (m : Int) = BitVec.ofNat n m := by
  apply BitVec.eq_of_toNat_eq; rw [BitVec.toNat_ofInt, BitVec.toNat_ofNat]; omega

theorem setWidth_ofNat {n m : Nat} (x : BitVec n) : x.setWidth m = BitVec.ofNat m x.toNat := by
  apply BitVec.eq_of_toNat_eq; rw [BitVec.toNat_setWidth, BitVec.toNat_ofNat]
section
variable (op : BinOp) (t : TypeId) (ox oy : Operand) (b : Value)
@[go_sem] theorem eqGuard_U64 (a : BitVec 64) : eqGuard op t ox oy (U64 a) b = pure () := by cases op <;> rfl
@[go_sem] theorem eqGuard_U32 (a : BitVec 32) : eqGuard op t ox oy (U32 a) b = pure () := by cases op <;> rfl
@[go_sem] theorem eqGuard_U8 (a : BitVec 8) : eqGuard op t ox oy (U8 a) b = pure () := by cases op <;> rfl
end
section
variable (P : Program) (w : World) (a : Addr) (m : Mode)
@[go_sem] theorem run_store_U64 (x : BitVec 64) : (store a (U64 x) m).run P w = stored P w a (U64 x) m := run_store P w a _ m rfl
@[go_sem] theorem run_store_U32 (x : BitVec 32) : (store a (U32 x) m).run P w = stored P w a (U32 x) m := run_store P w a _ m rfl
@[go_sem] theorem run_store_U8 (x : BitVec 8) : (store a (U8 x) m).run P w = stored P w a (U8 x) m := run_store P w a _ m rfl
end

section
variable {P : Program} (w : World)

@[go_sem high] theorem add_U64 (t : TypeId) (x y : BitVec 64) : (binOp .add t (U64 x) (U64 y)).run P w = .ok (U64 (x + y)) w := by
  show Result.ok (Value.int .u64 (IntKind.u64.wrap _)) w = _; rw [int_u64_wrap, ofInt_add']
@[go_sem high] theorem sub_U64 (t : TypeId) (x y : BitVec 64) : (binOp .sub t (U64 x) (U64 y)).run P w = .ok (U64 (x - y)) w := by
  show Result.ok (Value.int .u64 (IntKind.u64.wrap _)) w = _; rw [int_u64_wrap, ofInt_sub']
@[go_sem high] theorem mul_U64 (t : TypeId) (x y : BitVec 64) : (binOp .mul t (U64 x) (U64 y)).run P w = .ok (U64 (x * y)) w := by
  show Result.ok (Value.int .u64 (IntKind.u64.wrap _)) w = _; rw [int_u64_wrap, ofInt_mul']
@[go_sem high] theorem add_U32 (t : TypeId) (x y : BitVec 32) : (binOp .add t (U32 x) (U32 y)).run P w = .ok (U32 (x + y)) w := by
  show Result.ok (Value.int .u32 (IntKind.u32.wrap _)) w = _; rw [int_u32_wrap, ofInt_add']
@[go_sem high] theorem sub_U32 (t : TypeId) (x y : BitVec 32) : (binOp .sub t (U32 x) (U32 y)).run P w = .ok (U32 (x - y)) w := by
  show Result.ok (Value.int .u32 (IntKind.u32.wrap _)) w = _; rw [int_u32_wrap, ofInt_sub']
@[go_sem high] theorem mul_U32 (t : TypeId) (x y : BitVec 32) : (binOp .mul t (U32 x) (U32 y)).run P w = .ok (U32 (x * y)) w := by
  show Result.ok (Value.int .u32 (IntKind.u32.wrap _)) w = _; rw [int_u32_wrap, ofInt_mul']
@[go_sem high] theorem add_U8 (t : TypeId) (x y : BitVec 8) : (binOp .add t (U8 x) (U8 y)).run P w = .ok (U8 (x + y)) w := by
  show Result.ok (Value.int .u8 (IntKind.u8.wrap _)) w = _; rw [int_u8_wrap, ofInt_add']

theorem bits_U {n : Nat} (x : BitVec n) : BitVec.ofInt n ((x.toNat : Nat) : Int) = x := ofInt_toNat x

@[go_sem high] theorem and_U64 (t : TypeId) (x y : BitVec 64) : (binOp .and t (U64 x) (U64 y)).run P w = .ok (U64 (x &&& y)) w := by
  show Result.ok (Value.int .u64 (IntKind.u64.wrap ((BitVec.ofInt 64 (x.toNat : Int) &&& BitVec.ofInt 64 (y.toNat : Int)).toNat : Int))) w = _
  rw [int_u64_wrap, ofInt_toNat, ofInt_toNat, ofInt_toNat]
@[go_sem high] theorem or_U64 (t : TypeId) (x y : BitVec 64) : (binOp .or t (U64 x) (U64 y)).run P w = .ok (U64 (x ||| y)) w := by
  show Result.ok (Value.int .u64 (IntKind.u64.wrap ((BitVec.ofInt 64 (x.toNat : Int) ||| BitVec.ofInt 64 (y.toNat : Int)).toNat : Int))) w = _
  rw [int_u64_wrap, ofInt_toNat, ofInt_toNat, ofInt_toNat]
@[go_sem high] theorem xor_U64 (t : TypeId) (x y : BitVec 64) : (binOp .xor t (U64 x) (U64 y)).run P w = .ok (U64 (x ^^^ y)) w := by
  show Result.ok (Value.int .u64 (IntKind.u64.wrap ((BitVec.ofInt 64 (x.toNat : Int) ^^^ BitVec.ofInt 64 (y.toNat : Int)).toNat : Int))) w = _
  rw [int_u64_wrap, ofInt_toNat, ofInt_toNat, ofInt_toNat]
@[go_sem high] theorem and_U32 (t : TypeId) (x y : BitVec 32) : (binOp .and t (U32 x) (U32 y)).run P w = .ok (U32 (x &&& y)) w := by
  show Result.ok (Value.int .u32 (IntKind.u32.wrap ((BitVec.ofInt 32 (x.toNat : Int) &&& BitVec.ofInt 32 (y.toNat : Int)).toNat : Int))) w = _
  rw [int_u32_wrap, ofInt_toNat, ofInt_toNat, ofInt_toNat]
@[go_sem high] theorem or_U32 (t : TypeId) (x y : BitVec 32) : (binOp .or t (U32 x) (U32 y)).run P w = .ok (U32 (x ||| y)) w := by
  show Result.ok (Value.int .u32 (IntKind.u32.wrap ((BitVec.ofInt 32 (x.toNat : Int) ||| BitVec.ofInt 32 (y.toNat : Int)).toNat : Int))) w = _
  rw [int_u32_wrap, ofInt_toNat, ofInt_toNat, ofInt_toNat]
@[go_sem high] theorem xor_U32 (t : TypeId) (x y : BitVec 32) : (binOp .xor t (U32 x) (U32 y)).run P w = .ok (U32 (x ^^^ y)) w := by
  show Result.ok (Value.int .u32 (IntKind.u32.wrap ((BitVec.ofInt 32 (x.toNat : Int) ^^^ BitVec.ofInt 32 (y.toNat : Int)).toNat : Int))) w = _
  rw [int_u32_wrap, ofInt_toNat, ofInt_toNat, ofInt_toNat]
@[go_sem high] theorem xor_U8 (t : TypeId) (x y : BitVec 8) : (binOp .xor t (U8 x) (U8 y)).run P w = .ok (U8 (x ^^^ y)) w := by
  show Result.ok (Value.int .u8 (IntKind.u8.wrap ((BitVec.ofInt 8 (x.toNat : Int) ^^^ BitVec.ofInt 8 (y.toNat : Int)).toNat : Int))) w = _
  rw [int_u8_wrap, ofInt_toNat, ofInt_toNat, ofInt_toNat]

theorem ofInt_allOnes (n : Nat) : BitVec.ofInt n ((2 : Int) ^ n - 1) = BitVec.allOnes n := by
  apply BitVec.eq_of_toNat_eq
  rw [BitVec.toNat_ofInt, BitVec.toNat_allOnes]
  have h : (0 : Int) < 2 ^ n := Int.pow_pos (by decide)
  have e : ((2 ^ n : Nat) : Int) = (2 : Int) ^ n := by simp
  rw [e, Int.emod_eq_of_lt (by omega) (by omega)]; omega
@[go_sem high] theorem not_U64 (x : BitVec 64) : (Op.unary .xor (U64 x)).run P w = .ok (U64 (~~~ x)) w := by
  show Result.ok (Value.int .u64 (IntKind.u64.wrap ((BitVec.ofInt 64 ((2 : Int) ^ 64 - 1) ^^^ BitVec.ofInt 64 (x.toNat : Int)).toNat : Int))) w = _
  rw [int_u64_wrap, ofInt_toNat, ofInt_toNat, ofInt_allOnes, BitVec.allOnes_xor]
@[go_sem high] theorem not_U32 (x : BitVec 32) : (Op.unary .xor (U32 x)).run P w = .ok (U32 (~~~ x)) w := by
  show Result.ok (Value.int .u32 (IntKind.u32.wrap ((BitVec.ofInt 32 ((2 : Int) ^ 32 - 1) ^^^ BitVec.ofInt 32 (x.toNat : Int)).toNat : Int))) w = _
  rw [int_u32_wrap, ofInt_toNat, ofInt_toNat, ofInt_allOnes, BitVec.allOnes_xor]

theorem shr_toNat {n : Nat} (x : BitVec n) (c : Nat) : ((x.toNat : Int)).fdiv (2 ^ min c n) = ((x >>> c).toNat : Int) := by
  rw [Int.fdiv_eq_ediv_of_nonneg _ (Int.le_of_lt (Int.pow_pos (by decide)))]
  rw [BitVec.toNat_ushiftRight, Nat.shiftRight_eq_div_pow]
  have e : ((2 : Int) ^ min c n) = ((2 ^ min c n : Nat) : Int) := by simp
  rw [e]
  rcases Nat.le_total c n with h | h
  · rw [Nat.min_eq_left h]; rfl
  · rw [Nat.min_eq_right h]
    have hx := x.isLt
    have h2 : 2 ^ n ≤ 2 ^ c := Nat.pow_le_pow_right (by decide) h
    rw [Nat.div_eq_of_lt (show x.toNat < 2 ^ c by omega)]
    have : x.toNat / 2 ^ n = 0 := Nat.div_eq_of_lt hx
    omega
theorem shl_toNat {n : Nat} (x : BitVec n) (c : Nat) : BitVec.ofInt n ((x.toNat : Int) * 2 ^ min c n) = x <<< c := by
  have e : ((x.toNat : Int) * 2 ^ min c n) = ((x.toNat * 2 ^ min c n : Nat) : Int) := by simp
  rw [e, ofInt_nat]
  apply BitVec.eq_of_toNat_eq
  rw [BitVec.toNat_ofNat, BitVec.toNat_shiftLeft, Nat.shiftLeft_eq]
  rcases Nat.le_total c n with h | h
  · rw [Nat.min_eq_left h]
  · rw [Nat.min_eq_right h]
    rw [Nat.mul_mod_left]
    obtain ⟨k, rfl⟩ := Nat.exists_eq_add_of_le h
    rw [Nat.pow_add, ← Nat.mul_assoc, Nat.mul_right_comm, Nat.mul_mod_left]

@[go_sem high] theorem shr_U64_any (t : TypeId) (x : BitVec 64) (k : IntKind) (y : Int) (h : 0 ≤ y) : (binOp .shr t (U64 x) (.int k y)).run P w = .ok (U64 (x >>> y.toNat)) w := by
  show (Op.shift .shr .u64 (x.toNat : Int) k y).run P w = _
  unfold Op.shift; rw [if_neg (by omega)]
  show Result.ok (Value.int .u64 ((x.toNat : Int).fdiv (2 ^ min y.toNat 64))) w = _
  rw [shr_toNat]; rfl
@[go_sem high] theorem shl_U64_any (t : TypeId) (x : BitVec 64) (k : IntKind) (y : Int) (h : 0 ≤ y) : (binOp .shl t (U64 x) (.int k y)).run P w = .ok (U64 (x <<< y.toNat)) w := by
  show (Op.shift .shl .u64 (x.toNat : Int) k y).run P w = _
  unfold Op.shift; rw [if_neg (by omega)]
  show Result.ok (Value.int .u64 (IntKind.u64.wrap ((x.toNat : Int) * (2 ^ min y.toNat 64)))) w = _
  rw [int_u64_wrap, shl_toNat]
@[go_sem high] theorem shr_U32_any (t : TypeId) (x : BitVec 32) (k : IntKind) (y : Int) (h : 0 ≤ y) : (binOp .shr t (U32 x) (.int k y)).run P w = .ok (U32 (x >>> y.toNat)) w := by
  show (Op.shift .shr .u32 (x.toNat : Int) k y).run P w = _
  unfold Op.shift; rw [if_neg (by omega)]
  show Result.ok (Value.int .u32 ((x.toNat : Int).fdiv (2 ^ min y.toNat 32))) w = _
  rw [shr_toNat]; rfl
@[go_sem high] theorem shl_U32_any (t : TypeId) (x : BitVec 32) (k : IntKind) (y : Int) (h : 0 ≤ y) : (binOp .shl t (U32 x) (.int k y)).run P w = .ok (U32 (x <<< y.toNat)) w := by
  show (Op.shift .shl .u32 (x.toNat : Int) k y).run P w = _
  unfold Op.shift; rw [if_neg (by omega)]
  show Result.ok (Value.int .u32 (IntKind.u32.wrap ((x.toNat : Int) * (2 ^ min y.toNat 32)))) w = _
  rw [int_u32_wrap, shl_toNat]

theorem beq_toNat {n : Nat} (x y : BitVec n) : ((x.toNat : Int) == y.toNat) = (x == y) := by
  rw [Bool.eq_iff_iff, beq_iff_eq, beq_iff_eq]
  exact ⟨fun h => BitVec.eq_of_toNat_eq (by omega), fun h => by rw [h]⟩
@[go_sem high] theorem eql_U64 (t : TypeId) (x y : BitVec 64) : (binOp .eql t (U64 x) (U64 y)).run P w = .ok (.bool (x == y)) w := by
  show Result.ok (Value.bool ((x.toNat : Int) == y.toNat)) w = _; rw [beq_toNat]
@[go_sem high] theorem eql_U32 (t : TypeId) (x y : BitVec 32) : (binOp .eql t (U32 x) (U32 y)).run P w = .ok (.bool (x == y)) w := by
  show Result.ok (Value.bool ((x.toNat : Int) == y.toNat)) w = _; rw [beq_toNat]
@[go_sem high] theorem eql_U8 (t : TypeId) (x y : BitVec 8) : (binOp .eql t (U8 x) (U8 y)).run P w = .ok (.bool (x == y)) w := by
  show Result.ok (Value.bool ((x.toNat : Int) == y.toNat)) w = _; rw [beq_toNat]
@[go_sem high] theorem neq_U64 (t : TypeId) (x y : BitVec 64) : (binOp .neq t (U64 x) (U64 y)).run P w = .ok (.bool (x != y)) w := by
  show Result.ok (Value.bool (!((x.toNat : Int) == y.toNat))) w = _; rw [beq_toNat]; rfl
@[go_sem high] theorem neq_U32 (t : TypeId) (x y : BitVec 32) : (binOp .neq t (U32 x) (U32 y)).run P w = .ok (.bool (x != y)) w := by
  show Result.ok (Value.bool (!((x.toNat : Int) == y.toNat))) w = _; rw [beq_toNat]; rfl
@[go_sem high] theorem neq_U8 (t : TypeId) (x y : BitVec 8) : (binOp .neq t (U8 x) (U8 y)).run P w = .ok (.bool (x != y)) w := by
  show Result.ok (Value.bool (!((x.toNat : Int) == y.toNat))) w = _; rw [beq_toNat]; rfl
/-- conversions -/
theorem conv_int (s d : TypeId) (k : IntKind) (src : TypeDesc) (k' : IntKind) (n : Int) (hs : P.underlying s = some src) (hd : P.underlying d = some (.int k)) :
    (convert s d (.int k' n)).run P w = .ok (.int k (k.wrap n)) w := by
  simp [convert, run_underlying hs, run_underlying hd, Conv.intToInt]
@[go_sem high] theorem conv_U64_U64 (src dst : TypeId) (x : BitVec 64) (hs : (P.underlying src).isSome = true) (hd : P.underlying dst = some (.int .u64)) :
    (convert src dst (U64 x)).run P w = .ok (U64 (x.setWidth 64)) w := by
  obtain ⟨d, hd'⟩ := Option.isSome_iff_exists.mp hs
  show (convert src dst (.int .u64 (x.toNat : Int))).run P w = _
  rw [conv_int w src dst .u64 d .u64 _ hd' hd, int_u64_wrap, ofInt_nat, ← setWidth_ofNat]
@[go_sem high] theorem conv_U64_U32 (src dst : TypeId) (x : BitVec 64) (hs : (P.underlying src).isSome = true) (hd : P.underlying dst = some (.int .u32)) :
    (convert src dst (U64 x)).run P w = .ok (U32 (x.setWidth 32)) w := by
  obtain ⟨d, hd'⟩ := Option.isSome_iff_exists.mp hs
  show (convert src dst (.int .u64 (x.toNat : Int))).run P w = _
  rw [conv_int w src dst .u32 d .u64 _ hd' hd, int_u32_wrap, ofInt_nat, ← setWidth_ofNat]
@[go_sem high] theorem conv_U64_U8 (src dst : TypeId) (x : BitVec 64) (hs : (P.underlying src).isSome = true) (hd : P.underlying dst = some (.int .u8)) :
    (convert src dst (U64 x)).run P w = .ok (U8 (x.setWidth 8)) w := by
  obtain ⟨d, hd'⟩ := Option.isSome_iff_exists.mp hs
  show (convert src dst (.int .u64 (x.toNat : Int))).run P w = _
  rw [conv_int w src dst .u8 d .u64 _ hd' hd, int_u8_wrap, ofInt_nat, ← setWidth_ofNat]
@[go_sem high] theorem conv_U64_int (src dst : TypeId) (x : BitVec 64) (hs : (P.underlying src).isSome = true) (hd : P.underlying dst = some (.int .i64)) :
    (convert src dst (U64 x)).run P w = .ok (.int .i64 (IntKind.i64.wrap x.toNat)) w := by
  obtain ⟨d, hd'⟩ := Option.isSome_iff_exists.mp hs
  unfold U64; rw [conv_int w src dst .i64 d .u64 _ hd' hd]
@[go_sem high] theorem conv_int_U64 (src dst : TypeId) (n : Int) (hs : (P.underlying src).isSome = true) (hd : P.underlying dst = some (.int .u64)) :
    (convert src dst (.int .i64 n)).run P w = .ok (U64 (BitVec.ofInt 64 n)) w := by
  obtain ⟨d, hd'⟩ := Option.isSome_iff_exists.mp hs
  rw [conv_int w src dst .u64 d .i64 _ hd' hd, int_u64_wrap]
@[go_sem high] theorem conv_U32_U64 (src dst : TypeId) (x : BitVec 32) (hs : (P.underlying src).isSome = true) (hd : P.underlying dst = some (.int .u64)) :
    (convert src dst (U32 x)).run P w = .ok (U64 (x.setWidth 64)) w := by
  obtain ⟨d, hd'⟩ := Option.isSome_iff_exists.mp hs
  show (convert src dst (.int .u32 (x.toNat : Int))).run P w = _
  rw [conv_int w src dst .u64 d .u32 _ hd' hd, int_u64_wrap, ofInt_nat, ← setWidth_ofNat]
@[go_sem high] theorem conv_U32_U32 (src dst : TypeId) (x : BitVec 32) (hs : (P.underlying src).isSome = true) (hd : P.underlying dst = some (.int .u32)) :
    (convert src dst (U32 x)).run P w = .ok (U32 (x.setWidth 32)) w := by
  obtain ⟨d, hd'⟩ := Option.isSome_iff_exists.mp hs
  show (convert src dst (.int .u32 (x.toNat : Int))).run P w = _
  rw [conv_int w src dst .u32 d .u32 _ hd' hd, int_u32_wrap, ofInt_nat, ← setWidth_ofNat]
@[go_sem high] theorem conv_U32_U8 (src dst : TypeId) (x : BitVec 32) (hs : (P.underlying src).isSome = true) (hd : P.underlying dst = some (.int .u8)) :
    (convert src dst (U32 x)).run P w = .ok (U8 (x.setWidth 8)) w := by
  obtain ⟨d, hd'⟩ := Option.isSome_iff_exists.mp hs
  show (convert src dst (.int .u32 (x.toNat : Int))).run P w = _
  rw [conv_int w src dst .u8 d .u32 _ hd' hd, int_u8_wrap, ofInt_nat, ← setWidth_ofNat]
@[go_sem high] theorem conv_U32_int (src dst : TypeId) (x : BitVec 32) (hs : (P.underlying src).isSome = true) (hd : P.underlying dst = some (.int .i64)) :
    (convert src dst (U32 x)).run P w = .ok (.int .i64 (IntKind.i64.wrap x.toNat)) w := by
  obtain ⟨d, hd'⟩ := Option.isSome_iff_exists.mp hs
  unfold U32; rw [conv_int w src dst .i64 d .u32 _ hd' hd]
@[go_sem high] theorem conv_int_U32 (src dst : TypeId) (n : Int) (hs : (P.underlying src).isSome = true) (hd : P.underlying dst = some (.int .u32)) :
    (convert src dst (.int .i64 n)).run P w = .ok (U32 (BitVec.ofInt 32 n)) w := by
  obtain ⟨d, hd'⟩ := Option.isSome_iff_exists.mp hs
  rw [conv_int w src dst .u32 d .i64 _ hd' hd, int_u32_wrap]
@[go_sem high] theorem conv_U8_U64 (src dst : TypeId) (x : BitVec 8) (hs : (P.underlying src).isSome = true) (hd : P.underlying dst = some (.int .u64)) :
    (convert src dst (U8 x)).run P w = .ok (U64 (x.setWidth 64)) w := by
  obtain ⟨d, hd'⟩ := Option.isSome_iff_exists.mp hs
  show (convert src dst (.int .u8 (x.toNat : Int))).run P w = _
  rw [conv_int w src dst .u64 d .u8 _ hd' hd, int_u64_wrap, ofInt_nat, ← setWidth_ofNat]
@[go_sem high] theorem conv_U8_U32 (src dst : TypeId) (x : BitVec 8) (hs : (P.underlying src).isSome = true) (hd : P.underlying dst = some (.int .u32)) :
    (convert src dst (U8 x)).run P w = .ok (U32 (x.setWidth 32)) w := by
  obtain ⟨d, hd'⟩ := Option.isSome_iff_exists.mp hs
  show (convert src dst (.int .u8 (x.toNat : Int))).run P w = _
  rw [conv_int w src dst .u32 d .u8 _ hd' hd, int_u32_wrap, ofInt_nat, ← setWidth_ofNat]
@[go_sem high] theorem conv_U8_U8 (src dst : TypeId) (x : BitVec 8) (hs : (P.underlying src).isSome = true) (hd : P.underlying dst = some (.int .u8)) :
    (convert src dst (U8 x)).run P w = .ok (U8 (x.setWidth 8)) w := by
  obtain ⟨d, hd'⟩ := Option.isSome_iff_exists.mp hs
  show (convert src dst (.int .u8 (x.toNat : Int))).run P w = _
  rw [conv_int w src dst .u8 d .u8 _ hd' hd, int_u8_wrap, ofInt_nat, ← setWidth_ofNat]
@[go_sem high] theorem conv_U8_int (src dst : TypeId) (x : BitVec 8) (hs : (P.underlying src).isSome = true) (hd : P.underlying dst = some (.int .i64)) :
    (convert src dst (U8 x)).run P w = .ok (.int .i64 (IntKind.i64.wrap x.toNat)) w := by
  obtain ⟨d, hd'⟩ := Option.isSome_iff_exists.mp hs
  unfold U8; rw [conv_int w src dst .i64 d .u8 _ hd' hd]
@[go_sem high] theorem conv_int_U8 (src dst : TypeId) (n : Int) (hs : (P.underlying src).isSome = true) (hd : P.underlying dst = some (.int .u8)) :
    (convert src dst (.int .i64 n)).run P w = .ok (U8 (BitVec.ofInt 8 n)) w := by
  obtain ⟨d, hd'⟩ := Option.isSome_iff_exists.mp hs
  rw [conv_int w src dst .u8 d .i64 _ hd' hd, int_u8_wrap]

/-- a word and a constant -/
@[go_sem high] theorem add_U64_lit (t : TypeId) (x : BitVec 64) (n : Int) : (binOp .add t (U64 x) (.int .u64 n)).run P w = .ok (U64 (x + BitVec.ofInt 64 n)) w := by
  show Result.ok (Value.int .u64 (IntKind.u64.wrap _)) w = _; rw [int_u64_wrap, BitVec.ofInt_add, ofInt_toNat]
@[go_sem high] theorem mul_U64_lit (t : TypeId) (x : BitVec 64) (n : Int) : (binOp .mul t (U64 x) (.int .u64 n)).run P w = .ok (U64 (x * BitVec.ofInt 64 n)) w := by
  show Result.ok (Value.int .u64 (IntKind.u64.wrap _)) w = _; rw [int_u64_wrap, BitVec.ofInt_mul, ofInt_toNat]
@[go_sem high] theorem mul_U32_lit (t : TypeId) (x : BitVec 32) (n : Int) : (binOp .mul t (U32 x) (.int .u32 n)).run P w = .ok (U32 (x * BitVec.ofInt 32 n)) w := by
  show Result.ok (Value.int .u32 (IntKind.u32.wrap _)) w = _; rw [int_u32_wrap, BitVec.ofInt_mul, ofInt_toNat]
@[go_sem high] theorem sub_lit_U32 (t : TypeId) (x : BitVec 32) (n : Int) : (binOp .sub t (.int .u32 n) (U32 x)).run P w = .ok (U32 (BitVec.ofInt 32 n - x)) w := by
  show Result.ok (Value.int .u32 (IntKind.u32.wrap _)) w = _
  rw [int_u32_wrap, Int.sub_eq_add_neg, BitVec.ofInt_add, BitVec.ofInt_neg, ofInt_toNat, BitVec.sub_eq_add_neg]
@[go_sem high] theorem eql_U64_lit (t : TypeId) (x : BitVec 64) (n : Int) : (binOp .eql t (U64 x) (.int .u64 n)).run P w = .ok (.bool ((x.toNat : Int) == n)) w := rfl
@[go_sem high] theorem neq_U64_lit (t : TypeId) (x : BitVec 64) (n : Int) : (binOp .neq t (U64 x) (.int .u64 n)).run P w = .ok (.bool ((x.toNat : Int) != n)) w := rfl
@[go_sem high] theorem eql_U8_lit (t : TypeId) (x : BitVec 8) (n : Int) : (binOp .eql t (U8 x) (.int .u8 n)).run P w = .ok (.bool ((x.toNat : Int) == n)) w := rfl
@[go_sem high] theorem neq_U8_lit (t : TypeId) (x : BitVec 8) (n : Int) : (binOp .neq t (U8 x) (.int .u8 n)).run P w = .ok (.bool ((x.toNat : Int) != n)) w := rfl
theorem divmod_lit {m : Nat} (x : BitVec m) (n : Int) (h0 : 0 < n) (h1 : n < 2 ^ m) : ((x.toNat : Int).tmod n = ((x % BitVec.ofInt m n).toNat : Int)) ∧ ((x.toNat : Int).tdiv n = ((x / BitVec.ofInt m n).toNat : Int)) := by
  obtain ⟨k, rfl⟩ := Int.eq_ofNat_of_zero_le (Int.le_of_lt h0)
  have hk : k < 2 ^ m := by
    have : ((2 ^ m : Nat) : Int) = (2 : Int) ^ m := by simp
    omega
  rw [ofInt_nat, BitVec.toNat_umod, BitVec.toNat_udiv, BitVec.toNat_ofNat, Nat.mod_eq_of_lt hk]
  exact ⟨rfl, rfl⟩
@[go_sem high] theorem rem_U64_lit (t : TypeId) (x : BitVec 64) (n : Int) (h0 : 0 < n) (h1 : n < 18446744073709551616) : (binOp .rem t (U64 x) (.int .u64 n)).run P w = .ok (U64 (x % BitVec.ofInt 64 n)) w := by
  show (Op.intDiv .rem .u64 (x.toNat : Int) n).run P w = _
  unfold Op.intDiv; rw [if_neg (by omega)]
  show Result.ok (Value.int .u64 ((x.toNat : Int).tmod n)) w = _
  rw [(divmod_lit x n h0 h1).1]; rfl
@[go_sem high] theorem quo_U64_lit (t : TypeId) (x : BitVec 64) (n : Int) (h0 : 0 < n) (h1 : n < 18446744073709551616) : (binOp .quo t (U64 x) (.int .u64 n)).run P w = .ok (U64 (x / BitVec.ofInt 64 n)) w := by
  show (Op.intDiv .quo .u64 (x.toNat : Int) n).run P w = _
  unfold Op.intDiv; rw [if_neg (by omega)]
  show Result.ok (Value.int .u64 (IntKind.u64.wrap ((x.toNat : Int).tdiv n))) w = _
  rw [(divmod_lit x n h0 h1).2, int_u64_wrap, ofInt_toNat]
@[go_sem] theorem neq_slice_nil' (t : TypeId) (a : Option Addr) (n c n' c' : Nat) (h : P.underlying t = some (.slice (P.elem t))) :
    (binOp .neq t (.slice a n c) (.slice none n' c')).run P w = .ok (.bool a.isSome) w := by
  rw [run_neq_slice_nil_any w t _ a n c n' c' h]; cases a <;> rfl
@[go_sem] theorem eql_slice_nil' (t : TypeId) (a : Option Addr) (n c n' c' : Nat) (h : P.underlying t = some (.slice (P.elem t))) :
    (binOp .eql t (.slice a n c) (.slice none n' c')).run P w = .ok (.bool a.isNone) w := by
  exact Lib.run_eql_slice_nil w t _ a n c n' c' h
/-- a word for a shift's count: uint is u64 -/
@[go_sem high] theorem shr_U64_by (t : TypeId) (x y : BitVec 64) : (binOp .shr t (U64 x) (U64 y)).run P w = .ok (U64 (x >>> y.toNat)) w := shr_U64_any w t x .u64 _ (by omega)
@[go_sem high] theorem shl_U64_by (t : TypeId) (x y : BitVec 64) : (binOp .shl t (U64 x) (U64 y)).run P w = .ok (U64 (x <<< y.toNat)) w := shl_U64_any w t x .u64 _ (by omega)
@[go_sem high] theorem shr_U32_by (t : TypeId) (x : BitVec 32) (y : BitVec 64) : (binOp .shr t (U32 x) (U64 y)).run P w = .ok (U32 (x >>> y.toNat)) w := shr_U32_any w t x .u64 _ (by omega)
@[go_sem high] theorem shl_U32_by (t : TypeId) (x : BitVec 32) (y : BitVec 64) : (binOp .shl t (U32 x) (U64 y)).run P w = .ok (U32 (x <<< y.toNat)) w := shl_U32_any w t x .u64 _ (by omega)
end
end Go.Proofs.Ytjeddokenpkpnaa
