/- Words of 32 bits: the machine's operations on them are those of bit vectors. No condition. -/
import Derived.Laws.BitsLemmas
import Derived.PlainAid
import Derived.WalkKit
set_option linter.unusedVariables false
set_option linter.unusedSimpArgs false
namespace Go.Proofs.YtjkdenldddjcnaaDoor.Sha
open Go Go.RowKit
abbrev B := BitVec 32
def u (x : B) : Int := (x.toNat : Int)
theorem ofInt_u (x : B) : BitVec.ofInt 32 (u x) = x := by unfold u; rw [BitVec.ofInt_natCast]; simp
theorem wrap_toNat (x : B) : IntKind.u32.wrap (x.toNat : Int) = u x := by
 have := x.isLt
 unfold u
 simp only [IntKind.wrap, IntKind.signed, IntKind.bits]
 simp
 omega
theorem bits_xor (x y : B) : Go.bits .xor .u32 (u x) (u y) = u (x ^^^ y) := by
 show IntKind.u32.wrap (((BitVec.ofInt 32 (u x) ^^^ BitVec.ofInt 32 (u y)).toNat : Nat) : Int) = _
 rw [ofInt_u, ofInt_u, wrap_toNat]
theorem bits_and (x y : B) : Go.bits .and .u32 (u x) (u y) = u (x &&& y) := by
 show IntKind.u32.wrap (((BitVec.ofInt 32 (u x) &&& BitVec.ofInt 32 (u y)).toNat : Nat) : Int) = _
 rw [ofInt_u, ofInt_u, wrap_toNat]
theorem bits_or (x y : B) : Go.bits .or .u32 (u x) (u y) = u (x ||| y) := by
 show IntKind.u32.wrap (((BitVec.ofInt 32 (u x) ||| BitVec.ofInt 32 (u y)).toNat : Nat) : Int) = _
 rw [ofInt_u, ofInt_u, wrap_toNat]
theorem bits_not (x : B) : Go.bits .xor .u32 4294967295 (u x) = u (~~~x) := by
 have : (4294967295 : Int) = u (BitVec.allOnes 32) := by decide
 rw [this, bits_xor]
 congr 1
theorem add_mod (x y : B) : (u x + u y) % 4294967296 = u (x + y) := by
 unfold u
 rw [BitVec.toNat_add]
 simp
theorem shr_div (x : B) (k : Nat) : u x / 2 ^ k = u (x >>> k) := by
 unfold u
 rw [BitVec.toNat_ushiftRight, Nat.shiftRight_eq_div_pow]
 simp
theorem shl_mod (x : B) (k : Nat) : (u x * 2 ^ k) % 4294967296 = u (x <<< k) := by
 unfold u
 rw [BitVec.toNat_shiftLeft, Nat.shiftLeft_eq]
 simp
theorem wrap_u (x : B) : IntKind.u32.wrap (u x) = u x := wrap_toNat x
theorem wrap_add (x y : B) : IntKind.u32.wrap (u x + u y) = u (x + y) := by rw [IntKind.wrap_u32]; exact add_mod x y
theorem wrap_shl (x : B) (k : Nat) : IntKind.u32.wrap (u x * 2 ^ k) = u (x <<< k) := by rw [IntKind.wrap_u32]; exact shl_mod x k
theorem wrap_shl24 (x : B) : IntKind.u32.wrap (u x * 16777216) = u (x <<< 24) := wrap_shl x 24
theorem wrap_shl16 (x : B) : IntKind.u32.wrap (u x * 65536) = u (x <<< 16) := wrap_shl x 16
theorem wrap_shl8 (x : B) : IntKind.u32.wrap (u x * 256) = u (x <<< 8) := wrap_shl x 8
theorem shr3 (x : B) : u x / (8 : Int) = u (x >>> 3) := shr_div x 3
theorem shr10 (x : B) : u x / (1024 : Int) = u (x >>> 10) := shr_div x 10
/-- A byte as a word. -/
def ub (b : BitVec 8) : Int := (b.toNat : Int)
def wide (b : BitVec 8) : B := b.setWidth 32
theorem u_wide (b : BitVec 8) : u (wide b) = ub b := by
 unfold u ub wide
 rw [BitVec.toNat_setWidth, Nat.mod_eq_of_lt (by have := b.isLt; omega)]
theorem wrap_wide (b : BitVec 8) : IntKind.u32.wrap (ub b) = u (wide b) := by rw [u_wide, IntKind.wrap_u32]; unfold ub; have := b.isLt; omega
end Go.Proofs.YtjkdenldddjcnaaDoor.Sha

