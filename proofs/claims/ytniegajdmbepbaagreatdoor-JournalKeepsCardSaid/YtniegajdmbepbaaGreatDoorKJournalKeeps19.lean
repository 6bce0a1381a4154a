/- wire.PutInt and wire.Sum by contracts of the printed form: what 'wire_PutInt.f' and 'wire_Sum.f' answer, the code comes to.
   Condition of Sum: the table of nibbles lies as its initialiser lays it. -/
import Derived.Test.YtniegajdmbepbaaGreatDoorKJournalKeeps2
import Derived.Test.YtniegajdmbepbaaGreatDoorKJournalKeeps10
set_option linter.unusedVariables false
set_option linter.unusedSimpArgs false
namespace Go.Proofs.YtniegajdmbepbaaGreatDoor.Wire
open Go Go.RowKit Go.Shelf Go.PlainAid Go.Proofs.YtniegajdmbepbaaGreatDoorW.PrintWords

theorem zig_pos (n : Int) (h0 : 0 ≤ n) (h1 : n ≤ 4611686018427387903) : zig n = 2 * n := by
  unfold zig
  rw [u64_nonneg h0 (by omega), u64_nonneg (by omega) (by omega), show n / 9223372036854775808 = 0 by omega, show IntKind.u64.wrap 0 = 0 by rw [IntKind.wrap_u64]; rfl, Bits.u64_xor0 _ (by omega) (by omega)]
  omega
theorem zig_neg (n : Int) (h0 : n < 0) (h1 : -4611686018427387903 ≤ n) : zig n = -2 * n - 1 := by
  unfold zig
  rw [u64_neg h0 (by omega), show n / 9223372036854775808 = -1 by omega, u64_neg (show (-1 : Int) < 0 by decide) (by decide)]
  rw [show IntKind.u64.wrap ((n + 18446744073709551616) * 2) = 2 * n + 18446744073709551616 by rw [IntKind.wrap_u64]; omega]
  rw [show (-1 + 18446744073709551616 : Int) = 18446744073709551615 by decide, Bits.u64_not _ (by omega) (by omega)]
  omega
def zz (n : Int) : Int := if n < 0 then -2 * n - 1 else 2 * n
theorem zig_eq (n : Int) (h0 : -4611686018427387903 ≤ n) (h1 : n ≤ 4611686018427387903) : zig n = zz n := by
  unfold zz
  split
  · exact zig_neg n (by assumption) h0
  · exact zig_pos n (by omega) h1

def wire_PutInt.f (n : Int) : Option (ByteArray × Int) := if n < -4611686018427387903 then some (⟨#[]⟩, 10) else if 4611686018427387903 < n then some (⟨#[]⟩, 10) else some (leb (zz n), 0)
set_option maxHeartbeats 1000000 in
theorem wire_PutInt.calls (n : Int) (r1 : ByteArray) (r2 : Int) (w : World) (h : wire_PutInt.f n = some (r1, r2)) :
    Calls Tryz.prog 96 #[.int .i64 n] w fun e w' => e = .returned (.tuple #[.string r1, .int .i64 r2]) ∧ Below w.heap.size w w' := by
  unfold wire_PutInt.f at h
  by_cases h0 : n < -4611686018427387903
  · rw [if_pos h0] at h
    simp only [Option.some.injEq, Prod.mk.injEq] at h
    obtain ⟨rfl, rfl⟩ := h
    go_enter Tryz.func96, Tryz.ntmps96
    go_wp2
    go_ret2
    exact ⟨rfl, Below.refl _ _⟩
  · rw [if_neg h0] at h
    by_cases h1 : 4611686018427387903 < n
    · rw [if_pos h1] at h
      simp only [Option.some.injEq, Prod.mk.injEq] at h
      obtain ⟨rfl, rfl⟩ := h
      go_enter Tryz.func96, Tryz.ntmps96
      go_wp2
      go_ret2
      exact ⟨rfl, Below.refl _ _⟩
    · rw [if_neg h1] at h
      simp only [Option.some.injEq, Prod.mk.injEq] at h
      obtain ⟨rfl, rfl⟩ := h
      refine callsIn_wide.1 (putInt_in n (zz n) w (by omega) (by omega) ⟨zig_eq n (by omega) (by omega)⟩ ⟨?_⟩ ⟨?_⟩)
      · unfold zz; split <;> omega
      · unfold zz; split <;> omega
end Go.Proofs.YtniegajdmbepbaaGreatDoor.Wire

