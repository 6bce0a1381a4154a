/- The checksum: wire.Sum returns what the list function 'sumL' gives. Condition: the table of nibbles lies as its initialiser lays it. -/
import Derived.Test.YtjjbhkaigfggdaaDoorProg
import Derived.Test.YtjjbhkaigfggdaaDoorWWords
import Derived.Test.YtjjbhkaigfggdaaDoorWMore
import Derived.WalkKit
import Derived.KernelRfl
import Derived.Below
import Derived.Deep.LoopGhost
import Derived.Lib.LaidTab
import Derived.Outline
import Derived.Test.YtjjbhkaigfggdaaDoorBits
set_option linter.unusedVariables false
set_option linter.unusedSimpArgs false
namespace Go.Proofs.YtjjbhkaigfggdaaDoor.Wire
open Go Go.RowKit Go.Proofs.YtjjbhkaigfggdaaDoorW.PrintWords

def nibs : List Int := [0, 274646895, 549293790, 820201905, 1098587580, 1361435347, 1640403810, 1905808397, 2197175160, 2460548119, 2722870694, 2987750089, 3280807620, 3553878443, 3811616794, 4084100981]
/-- The table of nibbles lies where the program's variable is. -/
def Amb (w : World) : Prop := Lib.TabIs Tryd.prog w "clearway/wire.nibbles" .u32 nibs
theorem gNib : Tryd.prog.globalNamed "clearway/wire.nibbles" = some 0 := by kernel_rfl
theorem Amb.lt {w : World} (h : Amb w) : 0 < w.heap.size := by
  unfold Amb Lib.TabIs World.var? at h
  rw [gNib] at h
  simp only [Option.bind_some] at h
  split at h
  · exact (Array.getElem?_eq_some_iff.1 (by assumption)).1
  · cases h
theorem Amb.below {w W : World} (h : Amb w) (hb : Below w.heap.size w W) : Amb W := by
  have hl := h.lt
  unfold Amb Lib.TabIs World.var? at h ⊢
  rw [gNib] at h ⊢
  simp only [Option.bind_some] at h ⊢
  rw [hb.block _ hl]
  exact h
theorem Amb.cell {w : World} (h : Amb w) (i : Nat) (hi : i < 16) : w.cell? ⟨0, i, none⟩ = some (.int .u32 (nibs.getD i 0)) := Lib.TabIs.cell h gNib i hi

def nib (i : Int) : Int := nibs.getD i.toNat 0
def stepN (y : Int) : Int := Go.bits .xor .u32 (y / 16) (nib (Go.bits .and .u32 y 15))
def stepB (x : Int) (b : UInt8) : Int := stepN (stepN (Go.bits .xor .u32 x b.toNat))
def sumL (x : Int) (l : List UInt8) : Int := l.foldl stepB x


theorem nib_nat (i : Nat) : ∃ m : Nat, nib i = m ∧ m < 4294967296 := by
  by_cases h : i < 16
  · have : ∀ j : Fin 16, ∃ m : Nat, nib (j.1 : Int) = m ∧ m < 4294967296 := by
      intro j
      refine ⟨(nib j.1).toNat, ?_, ?_⟩
      · revert j; decide
      · revert j; decide
    exact this ⟨i, h⟩
  · refine ⟨0, ?_, by decide⟩
    show nibs.getD (i : Int).toNat 0 = 0
    rw [List.getD_eq_getElem?_getD, List.getElem?_eq_none (by simp [nibs]; omega)]
    rfl
theorem stepN_nat (a : Nat) (ha : a < 4294967296) : ∃ m : Nat, stepN a = m ∧ m < 4294967296 := by
  unfold stepN
  rw [show (15 : Int) = ((15 : Nat) : Int) from rfl, (Bits.u32 a 15 ha (by decide)).1]
  obtain ⟨m, hm, hl⟩ := nib_nat (a &&& 15)
  rw [hm, show ((a : Int) / 16) = ((a / 16 : Nat) : Int) by omega, (Bits.u32 (a / 16) m (by omega) hl).2.2]
  exact ⟨_, rfl, Bits.xor_lt32 (by omega) hl⟩
theorem stepB_nat (a : Nat) (b : UInt8) (ha : a < 4294967296) : ∃ m : Nat, stepB a b = m ∧ m < 4294967296 := by
  unfold stepB
  have hb : b.toNat < 256 := b.toNat_lt
  rw [(Bits.u32 a b.toNat ha (by omega)).2.2]
  obtain ⟨m, hm, hl⟩ := stepN_nat _ (Bits.xor_lt32 ha (show b.toNat < 4294967296 by omega))
  rw [hm]
  exact stepN_nat m hl
theorem sumL_nat (l : List UInt8) : ∀ (a : Nat), a < 4294967296 → ∃ m : Nat, sumL a l = m ∧ m < 4294967296 := by
  induction l with
  | nil => exact fun a ha => ⟨a, rfl, ha⟩
  | cons b l ih =>
    intro a ha
    obtain ⟨m, hm, hl⟩ := stepB_nat a b ha
    obtain ⟨m', hm', hl'⟩ := ih m hl
    exact ⟨m', by show sumL (stepB a b) l = _; rw [hm, hm'], hl'⟩
theorem sumL_snoc (x : Int) (l : List UInt8) (b : UInt8) : sumL x (l ++ [b]) = stepB (sumL x l) b := by simp [sumL, List.foldl_append]
/-- What the table's look-up wants at a register y. -/
theorem look {w : World} (hA : Amb w) (y : Nat) (hy : y < 4294967296) : 0 ≤ Go.bits .and .u32 y 15 ∧ Go.bits .and .u32 y 15 < 16 ∧
    w.cell? ⟨0, (Go.bits .and .u32 y 15).toNat, none⟩ = some (.int .u32 (nib (Go.bits .and .u32 y 15))) := by
  rw [show (15 : Int) = ((15 : Nat) : Int) from rfl, (Bits.u32 y 15 hy (by decide)).1]
  have h : y &&& 15 < 16 := Nat.lt_of_le_of_lt Nat.and_le_right (by decide)
  exact ⟨by omega, by omega, hA.cell _ (by simpa using h)⟩

theorem ret_int {k : IntKind} {a b : Int} (h : a = b) : Ending.returned (.int k a) = .returned (.int k b) := by rw [h]
theorem take_snoc (s : ByteArray) (k : Nat) (h : k < s.size) : s.data.toList.take (k + 1) = s.data.toList.take k ++ [s[k]] := by
  rw [List.take_succ_eq_append_getElem (by simpa using h)]; rfl
def sumF (s : ByteArray) : Int := 4294967295 - sumL 4294967295 s.data.toList

set_option maxHeartbeats 1000000 in
theorem sum_calls (s : ByteArray) (w : World) (hA : Amb w) (hs : s.size ≤ 9223372036854775807) :
    Calls Tryd.prog 21 #[.string s] w fun e w' => e = .returned (.int .i64 (sumF s)) ∧ w' = w := by
  go_enter Tryd.func21, Tryd.ntmps21
  go_wp2
  go_loop [3, 4, 7] (fun r j i => ∃ (k : Nat) (x : Nat), k ≤ s.size ∧ i = .int .i64 k ∧ r = .int .u32 x ∧ Aside0 (sumL 4294967295 (s.data.toList.take k) = x) ∧ x < 4294967296) (fun _ _ i => s.size - (intOf i).toNat)
  case atStart => exact ⟨0, 4294967295, Nat.zero_le _, rfl, rfl, ⟨rfl⟩, by decide⟩
  case round =>
    obtain ⟨k, x, hk, rfl, rfl, HX, hx⟩ := hrel
    by_cases hlt : k < s.size
    · have hb : s[k].toNat < 256 := s[k].toNat_lt
      obtain ⟨y, hy, hyl⟩ : ∃ y : Nat, Go.bits .xor .u32 x s[k].toNat = y ∧ y < 4294967296 := by
        rw [(Bits.u32 x s[k].toNat hx (by omega)).2.2]
        exact ⟨_, rfl, Bits.xor_lt32 hx (by omega)⟩
      obtain ⟨p1, q1, c1⟩ := look hA y hyl
      obtain ⟨z, hz, hzl⟩ := stepN_nat y hyl
      have hz' : Go.bits .xor .u32 ((y : Int) / 16) (nib (Go.bits .and .u32 y 15)) = z := hz
      obtain ⟨p2, q2, c2⟩ := look hA z hzl
      obtain ⟨u, hu, hul⟩ := stepN_nat z hzl
      have hu' : Go.bits .xor .u32 ((z : Int) / 16) (nib (Go.bits .and .u32 z 15)) = u := hu
      have E : Aside0 (stepB x s[k] = u) := ⟨by unfold stepB; rw [hy, hz, hu]⟩
      clear hz hu
      go_wp2
      go_round
      case rel =>
        refine ⟨k + 1, u, by omega, by go_num, rfl, ⟨?_⟩, hul⟩
        rw [take_snoc s k hlt, sumL_snoc, HX.out, E.out]
      case measure => simp [intOf]; omega
    · have e : k = s.size := by omega
      have HE : Aside0 (sumL 4294967295 s.data.toList = x) := ⟨by rw [← HX.out, List.take_of_length_le (by simp; omega)]⟩
      clear e
      go_wp2
      go_ret
      refine ⟨ret_int ?_, rfl⟩
      show wrap64 (Go.bits .xor .u32 4294967295 x) = sumF s
      rw [Bits.u32_not x (by omega) (by omega)]
      unfold sumF wrap64
      rw [HE.out]
      omega
end Go.Proofs.YtjjbhkaigfggdaaDoor.Wire
