/- wire.Sum is the checksum's register: 4294967295 less a power of the step at the string's number. No condition. -/
import Derived.Test.YtjjbhkaigfggdaaDoorCrc
import Derived.Test.YtjjbhkaigfggdaaDoorWPure
set_option linter.unusedVariables false
set_option linter.unusedSimpArgs false
namespace Go.Proofs.YtjjbhkaigfggdaaDoor.WPure
open Go Go.RowKit Go.Proofs.YtjjbhkaigfggdaaDoor.Wire Go.Proofs.YtjjbhkaigfggdaaDoor.Crc Go.Proofs.YtjjbhkaigfggdaaDoorW.PrintWords

def nibN (j : Nat) : Nat := An 4 j
theorem nib_An (j : Nat) (h : j < 16) : Wire.nib (j : Int) = ((An 4 j : Nat) : Int) := by
  have : ∀ j : Fin 16, Wire.nib (j.1 : Int) = ((An 4 j.1 : Nat) : Int) := by decide
  exact this ⟨j, h⟩
theorem low_part (a : Nat) : a = (a / 16 * 2 ^ 4) ^^^ (a % 16) := by
  have h1 : (a ^^^ (a % 16)) % 16 = 0 := by
    have := Nat.xor_mod_two_pow (a := a) (b := a % 16) (n := 4)
    simp only [Nat.reducePow] at this
    rw [this, Nat.mod_mod, Nat.xor_self]
  have h2 : (a ^^^ (a % 16)) / 16 = a / 16 := by
    have := div_xor 4 a (a % 16)
    simp only [Nat.reducePow] at this
    rw [this, Nat.div_eq_of_lt (Nat.mod_lt a (by decide)), Nat.xor_zero]
  have h3 : a ^^^ (a % 16) = a / 16 * 2 ^ 4 := by
    have := Nat.div_add_mod (a ^^^ (a % 16)) 16
    rw [h1, h2] at this
    simp only [Nat.reducePow]
    omega
  rw [← h3, Nat.xor_assoc, Nat.xor_self, Nat.xor_zero]
theorem An4_lt16 (j : Nat) (h : j < 16) : An 4 j < 4294967296 := An_lt 4 j (by omega)
theorem stepN_An (a : Nat) (ha : a < 4294967296) : Wire.stepN (a : Int) = ((An 4 a : Nat) : Int) := by
  unfold Wire.stepN
  rw [show (15 : Int) = ((15 : Nat) : Int) from rfl, (Bits.u32 a 15 ha (by decide)).1]
  have e15 : a &&& 15 = a % 16 := Nat.and_two_pow_sub_one_eq_mod a 4
  have hj : a % 16 < 16 := Nat.mod_lt a (by decide)
  rw [e15, nib_An _ hj, show ((a : Int) / 16) = ((a / 16 : Nat) : Int) by omega, (Bits.u32 (a / 16) (An 4 (a % 16)) (by omega) (An4_lt16 _ hj)).2.2]
  congr 1
  conv => rhs; rw [low_part a, An_xor, An_pow]
theorem stepB_An (a : Nat) (b : UInt8) (ha : a < 4294967296) : Wire.stepB (a : Int) b = ((An 8 (a ^^^ b.toNat) : Nat) : Int) := by
  have hb : b.toNat < 4294967296 := by have := b.toNat_lt; omega
  unfold Wire.stepB
  rw [(Bits.u32 a b.toNat ha hb).2.2, stepN_An _ (Bits.xor_lt32 ha hb), stepN_An _ (An_lt 4 _ (Bits.xor_lt32 ha hb)), show 8 = 4 + 4 from rfl, An_add]
theorem sumL_reg (l : List UInt8) : ∀ a : Nat, a < 4294967296 → Wire.sumL (a : Int) l = ((reg a (l.map UInt8.toNat) : Nat) : Int) := by
  induction l with
  | nil => intro a _; rfl
  | cons b l ih =>
    intro a ha
    have hb : b.toNat < 4294967296 := by have := b.toNat_lt; omega
    show Wire.sumL (Wire.stepB a b) l = _
    rw [stepB_An a b ha, ih _ (An_lt 8 _ (Bits.xor_lt32 ha hb))]
    rfl
theorem reg_lt (l : List Nat) (hl : ∀ b ∈ l, b < 256) : ∀ a, a < 4294967296 → reg a l < 4294967296 := by
  induction l with
  | nil => intro a ha; exact ha
  | cons b l ih => intro a ha; exact ih (fun x hx => hl x (by simp [hx])) _ (An_lt 8 _ (Bits.xor_lt32 ha (by have := hl b (by simp); omega)))
/-- The register behind a string, begun with all bits. -/
def R (s : ByteArray) : Nat := reg 4294967295 (nl s)
theorem R_lt (s : ByteArray) : R s < 4294967296 := reg_lt _ (nl_lt s) _ (by decide)
theorem sumF_R (s : ByteArray) : Wire.sumF s = 4294967295 - (R s : Int) := by
  unfold Wire.sumF R nl
  rw [show (4294967295 : Int) = ((4294967295 : Nat) : Int) from rfl, sumL_reg _ _ (by decide)]
theorem R_eq (s : ByteArray) : R s = An (8 * s.size) (4294967295 ^^^ leX (nl s)) := by unfold R; rw [reg_eq, nl_length]
theorem sum_some (s : ByteArray) (h : s.size ≤ 9223372036854775807) : wire_Sum.f s = some (4294967295 - (R s : Int)) := by
  unfold wire_Sum.f; rw [if_pos h, sumF_R]
end Go.Proofs.YtjjbhkaigfggdaaDoor.WPure
