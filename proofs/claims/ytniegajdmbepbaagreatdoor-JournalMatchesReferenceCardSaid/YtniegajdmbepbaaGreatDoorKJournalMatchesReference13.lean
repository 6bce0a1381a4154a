/- Words of 32 bits: the machine's operations on them are those of bit vectors. No condition. Plain lemmas on the machine's bitwise operations: on naturals below the kind's size they are the naturals' own. No condition. -/
import Derived.Laws.BitsLemmas
import Derived.PlainAid
import Derived.WalkKit
set_option linter.unusedSimpArgs false
set_option linter.unusedVariables false
namespace Go.Proofs.YtniegajdmbepbaaGreatDoor.Sha
open Go Go.RowKit
abbrev B := BitVec 32
def u (x : B) : Int := (x.toNat : Int)
theorem ofInt_u (x : B) : BitVec.ofInt 32 (u x) = x := by unfold u; rw [BitVec.ofInt_natCast]; simp
theorem wrap_toNat (x : B) : IntKind.u32.wrap (x.toNat : Int) = u x := by
 have := x.isLt
 unfold u
 simp only [IntKind.wrap, IntKind.signed, IntKind.bits]
 simp
 omega
theorem bits_xor (x y : B) : Go.bits .xor .u32 (u x) (u y) = u (x ^^^ y) := by
 show IntKind.u32.wrap (((BitVec.ofInt 32 (u x) ^^^ BitVec.ofInt 32 (u y)).toNat : Nat) : Int) = _
 rw [ofInt_u, ofInt_u, wrap_toNat]
theorem bits_and (x y : B) : Go.bits .and .u32 (u x) (u y) = u (x &&& y) := by
 show IntKind.u32.wrap (((BitVec.ofInt 32 (u x) &&& BitVec.ofInt 32 (u y)).toNat : Nat) : Int) = _
 rw [ofInt_u, ofInt_u, wrap_toNat]
theorem bits_or (x y : B) : Go.bits .or .u32 (u x) (u y) = u (x ||| y) := by
 show IntKind.u32.wrap (((BitVec.ofInt 32 (u x) ||| BitVec.ofInt 32 (u y)).toNat : Nat) : Int) = _
 rw [ofInt_u, ofInt_u, wrap_toNat]
theorem bits_not (x : B) : Go.bits .xor .u32 4294967295 (u x) = u (~~~x) := by
 have : (4294967295 : Int) = u (BitVec.allOnes 32) := by decide
 rw [this, bits_xor]
 congr 1
theorem add_mod (x y : B) : (u x + u y) % 4294967296 = u (x + y) := by
 unfold u
 rw [BitVec.toNat_add]
 simp
theorem shr_div (x : B) (k : Nat) : u x / 2 ^ k = u (x >>> k) := by
 unfold u
 rw [BitVec.toNat_ushiftRight, Nat.shiftRight_eq_div_pow]
 simp
theorem shl_mod (x : B) (k : Nat) : (u x * 2 ^ k) % 4294967296 = u (x <<< k) := by
 unfold u
 rw [BitVec.toNat_shiftLeft, Nat.shiftLeft_eq]
 simp
theorem wrap_u (x : B) : IntKind.u32.wrap (u x) = u x := wrap_toNat x
theorem wrap_add (x y : B) : IntKind.u32.wrap (u x + u y) = u (x + y) := by rw [IntKind.wrap_u32]; exact add_mod x y
theorem wrap_shl (x : B) (k : Nat) : IntKind.u32.wrap (u x * 2 ^ k) = u (x <<< k) := by rw [IntKind.wrap_u32]; exact shl_mod x k
theorem wrap_shl24 (x : B) : IntKind.u32.wrap (u x * 16777216) = u (x <<< 24) := wrap_shl x 24
theorem wrap_shl16 (x : B) : IntKind.u32.wrap (u x * 65536) = u (x <<< 16) := wrap_shl x 16
theorem wrap_shl8 (x : B) : IntKind.u32.wrap (u x * 256) = u (x <<< 8) := wrap_shl x 8
theorem shr3 (x : B) : u x / (8 : Int) = u (x >>> 3) := shr_div x 3
theorem shr10 (x : B) : u x / (1024 : Int) = u (x >>> 10) := shr_div x 10
def ub (b : BitVec 8) : Int := (b.toNat : Int)
def wide (b : BitVec 8) : B := b.setWidth 32
theorem u_wide (b : BitVec 8) : u (wide b) = ub b := by
 unfold u ub wide
 rw [BitVec.toNat_setWidth, Nat.mod_eq_of_lt (by have := b.isLt; omega)]
theorem wrap_wide (b : BitVec 8) : IntKind.u32.wrap (ub b) = u (wide b) := by rw [u_wide, IntKind.wrap_u32]; unfold ub; have := b.isLt; omega
end Go.Proofs.YtniegajdmbepbaaGreatDoor.Sha
namespace Go.Proofs.YtniegajdmbepbaaGreatDoor.Bits
open Go Go.RowKit
theorem bits_nat3 (k : IntKind) (hs : k.signed = false) (a b : Nat) (ha : a < 2 ^ k.bits) (hb : b < 2 ^ k.bits) :
  Go.bits .and k a b = ((a &&& b : Nat) : Int) ∧ Go.bits .or k a b = ((a ||| b : Nat) : Int) ∧ Go.bits .xor k a b = ((a ^^^ b : Nat) : Int) := by
 have ha' : a % 2 ^ k.bits = a := Nat.mod_eq_of_lt ha
 have hb' : b % 2 ^ k.bits = b := Nat.mod_eq_of_lt hb
 have hw : ∀ n : Nat, n < 2 ^ k.bits → k.wrap (n : Int) = n := by
  intro n h
  simp only [IntKind.wrap, hs]
  have : ((n : Int) % 2 ^ k.bits) = ((n % 2 ^ k.bits : Nat) : Int) := by simp
  simp [Nat.mod_eq_of_lt h]
  exact_mod_cast Nat.mod_eq_of_lt h
 refine ⟨?_, ?_, ?_⟩
 ·simp only [bits, BitVec.ofInt_natCast, BitVec.toNat_and, BitVec.toNat_ofNat, ha', hb']
  exact hw _ (Nat.and_lt_two_pow _ hb)
 ·simp only [bits, BitVec.ofInt_natCast, BitVec.toNat_or, BitVec.toNat_ofNat, ha', hb']
  exact hw _ (Nat.or_lt_two_pow ha hb)
 ·simp only [bits, BitVec.ofInt_natCast, BitVec.toNat_xor, BitVec.toNat_ofNat, ha', hb']
  exact hw _ (Nat.xor_lt_two_pow ha hb)
theorem u8 (a b : Nat) (ha : a < 256) (hb : b < 256) : Go.bits .and .u8 a b = ((a &&& b : Nat) : Int) ∧ Go.bits .or .u8 a b = ((a ||| b : Nat) : Int) ∧ Go.bits .xor .u8 a b = ((a ^^^ b : Nat) : Int) := bits_nat3 .u8 rfl a b ha hb
theorem u32 (a b : Nat) (ha : a < 4294967296) (hb : b < 4294967296) : Go.bits .and .u32 a b = ((a &&& b : Nat) : Int) ∧ Go.bits .or .u32 a b = ((a ||| b : Nat) : Int) ∧ Go.bits .xor .u32 a b = ((a ^^^ b : Nat) : Int) := bits_nat3 .u32 rfl a b ha hb
theorem u64 (a b : Nat) (ha : a < 18446744073709551616) (hb : b < 18446744073709551616) : Go.bits .and .u64 a b = ((a &&& b : Nat) : Int) ∧ Go.bits .or .u64 a b = ((a ||| b : Nat) : Int) ∧ Go.bits .xor .u64 a b = ((a ^^^ b : Nat) : Int) := bits_nat3 .u64 rfl a b ha hb
theorem i64_not (n : Int) (h0 : -9223372036854775808 ≤ n) (h1 : n ≤ 9223372036854775807) : Go.bits .xor .i64 n (-1) = -n - 1 := by
 have e : BitVec.ofInt 64 n ^^^ BitVec.ofInt 64 (-1) = BitVec.ofInt 64 (-n - 1) := by
  have h : BitVec.ofInt 64 (-1) = BitVec.allOnes 64 := by decide
  rw [h, BitVec.xor_allOnes, show -n - 1 = -(n + 1) from by omega]
  rw [BitVec.ofInt_neg, BitVec.not_eq_neg_add]
  rw [BitVec.ofInt_add]
  simp [BitVec.neg_add]
 show IntKind.i64.wrap (((BitVec.ofInt 64 n ^^^ BitVec.ofInt 64 (-1)).toNat : Nat) : Int) = _
 rw [e, BitVec.toNat_ofInt, IntKind.wrap_i64]
 omega
theorem i64_xor0 (n : Int) (h0 : -9223372036854775808 ≤ n) (h1 : n ≤ 9223372036854775807) : Go.bits .xor .i64 n 0 = n := by
 show IntKind.i64.wrap (((BitVec.ofInt 64 n ^^^ BitVec.ofInt 64 0).toNat : Nat) : Int) = _
 rw [show BitVec.ofInt 64 0 = 0#64 from rfl, BitVec.xor_zero]
 rw [BitVec.toNat_ofInt, IntKind.wrap_i64]
 omega
theorem u64_xor0 (n : Int) (h0 : 0 ≤ n) (h1 : n < 18446744073709551616) : Go.bits .xor .u64 n 0 = n := by
 obtain ⟨a, rfl⟩ := Int.eq_ofNat_of_zero_le h0
 have := (u64 a 0 (by omega) (by omega)).2.2
 simpa using this
theorem u64_not (n : Int) (h0 : 0 ≤ n) (h1 : n < 18446744073709551616) : Go.bits .xor .u64 n 18446744073709551615 = 18446744073709551615 - n := by
 have e : BitVec.ofInt 64 n ^^^ BitVec.ofInt 64 18446744073709551615 = BitVec.ofInt 64 (-n - 1) := by
  have h : BitVec.ofInt 64 18446744073709551615 = BitVec.allOnes 64 := by decide
  rw [h, BitVec.xor_allOnes, show -n - 1 = -(n + 1) from by omega]
  rw [BitVec.ofInt_neg, BitVec.not_eq_neg_add]
  rw [BitVec.ofInt_add]
  simp [BitVec.neg_add]
 show IntKind.u64.wrap (((BitVec.ofInt 64 n ^^^ BitVec.ofInt 64 18446744073709551615).toNat : Nat) : Int) = _
 rw [e, BitVec.toNat_ofInt, IntKind.wrap_u64]
 omega
end Go.Proofs.YtniegajdmbepbaaGreatDoor.Bits
