/- wire.PutInt and wire.Sum by contracts of the printed form: what 'wire_PutInt.f' and 'wire_Sum.f' answer, the code comes to.
   Condition of Sum: the table of nibbles lies as its initialiser lays it. The contracts of functions, written by this session's program (wip/pp.py): what the list functions answer, the code comes to. No condition. What wire's functions answer, in plain words: PutInt the encoding, Int what is decoded, String and PutString likewise. No condition but sizes. The reference implementation of layer 1 answers what the program's functions answer. No condition but sizes. -/
import Derived.Test.YtniegajdmbepbaaGreatDoorKJournalMatchesReference3
import Derived.Test.YtniegajdmbepbaaGreatDoorKJournalMatchesReference13
import Derived.Test.YtniegajdmbepbaaGreatDoorProg
import Derived.Below
import Derived.Deep.Draws
import Derived.Deep.AppendLies
import Derived.Maps.AppendAt
import Derived.OwnWalk
import Derived.Laws.BytesArg
import Derived.Laws.MakeOwn
import Derived.Laws.OwnMore
import Derived.Deep.OwnRows
import Derived.Tactics
import Derived.Lib.ConvBytes
import Derived.Laws.Slices
import Derived.WalkKit
import Derived.KernelRfl
import Derived.RowKit3
import Derived.Deep.LoopGhost
import Derived.Deep.QuietTactic
import Derived.BigQuiet
import Derived.WideLaws
import Derived.Deep.DeepCutAuto
import Derived.Deep.CutBlock
import Derived.Deep.RegionHeld3
import Derived.Laws.Rows
import Derived.Lib.AppendStr
import Derived.ArgAppend
import Derived.Laws.IdiomCopy
import Derived.OrdersHeld
import Derived.Laws.BitsLemmas
import Derived.RowKit
import Derived.Test.YtniegajdmbepbaaGreatDoorKJournalMatchesReference2
import Derived.Test.YtniegajdmbepbaaGreatDoorKJournalMatchesReference9
import Derived.Test.YtniegajdmbepbaaGreatDoorKJournalMatchesReference10
import Derived.Test.YtniegajdmbepbaaGreatDoorKJournalMatchesReference4
set_option linter.unusedSimpArgs false
set_option linter.unusedVariables false
namespace Go.Proofs.YtniegajdmbepbaaGreatDoor.Wire
open Go Go.RowKit Go.Shelf Go.PlainAid Go.Proofs.YtniegajdmbepbaaGreatDoorW.PrintWords
theorem zig_pos (n : Int) (h0 : 0 ≤ n) (h1 : n ≤ 4611686018427387903) : zig n = 2 * n := by
  unfold zig
  rw [u64_nonneg h0 (by omega), u64_nonneg (by omega) (by omega), show n / 9223372036854775808 = 0 by omega, show IntKind.u64.wrap 0 = 0 by rw [IntKind.wrap_u64]; rfl, Bits.u64_xor0 _ (by omega) (by omega)]
  omega
theorem zig_neg (n : Int) (h0 : n < 0) (h1 : -4611686018427387903 ≤ n) : zig n = -2 * n - 1 := by
  unfold zig
  rw [u64_neg h0 (by omega), show n / 9223372036854775808 = -1 by omega, u64_neg (show (-1 : Int) < 0 by decide) (by decide)]
  rw [show IntKind.u64.wrap ((n + 18446744073709551616) * 2) = 2 * n + 18446744073709551616 by rw [IntKind.wrap_u64]; omega]
  rw [show (-1 + 18446744073709551616 : Int) = 18446744073709551615 by decide, Bits.u64_not _ (by omega) (by omega)]
  omega
def zz (n : Int) : Int := if n < 0 then -2 * n - 1 else 2 * n
theorem zig_eq (n : Int) (h0 : -4611686018427387903 ≤ n) (h1 : n ≤ 4611686018427387903) : zig n = zz n := by
  unfold zz
  split
  · exact zig_neg n (by assumption) h0
  · exact zig_pos n (by omega) h1
def wire_PutInt.f (n : Int) : Option (ByteArray × Int) := if n < -4611686018427387903 then some (⟨#[]⟩, 10) else if 4611686018427387903 < n then some (⟨#[]⟩, 10) else some (leb (zz n), 0)
set_option maxHeartbeats 1000000 in
theorem wire_PutInt.calls (n : Int) (r1 : ByteArray) (r2 : Int) (w : World) (h : wire_PutInt.f n = some (r1, r2)) :
    Calls Tryz.prog 96 #[.int .i64 n] w fun e w' => e = .returned (.tuple #[.string r1, .int .i64 r2]) ∧ Below w.heap.size w w' := by
  unfold wire_PutInt.f at h
  by_cases h0 : n < -4611686018427387903
  · rw [if_pos h0] at h
    simp only [Option.some.injEq, Prod.mk.injEq] at h
    obtain ⟨rfl, rfl⟩ := h
    go_enter Tryz.func96, Tryz.ntmps96
    go_wp2
    go_ret2
    exact ⟨rfl, Below.refl _ _⟩
  · rw [if_neg h0] at h
    by_cases h1 : 4611686018427387903 < n
    · rw [if_pos h1] at h
      simp only [Option.some.injEq, Prod.mk.injEq] at h
      obtain ⟨rfl, rfl⟩ := h
      go_enter Tryz.func96, Tryz.ntmps96
      go_wp2
      go_ret2
      exact ⟨rfl, Below.refl _ _⟩
    · rw [if_neg h1] at h
      simp only [Option.some.injEq, Prod.mk.injEq] at h
      obtain ⟨rfl, rfl⟩ := h
      refine callsIn_wide.1 (putInt_in n (zz n) w (by omega) (by omega) ⟨zig_eq n (by omega) (by omega)⟩ ⟨?_⟩ ⟨?_⟩)
      · unfold zz; split <;> omega
      · unfold zz; split <;> omega
end Go.Proofs.YtniegajdmbepbaaGreatDoor.Wire
namespace Go.Proofs.YtniegajdmbepbaaGreatDoor.Pr
open Go.RowKit Go.Proofs.YtniegajdmbepbaaGreatDoor.Wire Go.Proofs.YtniegajdmbepbaaGreatDoorW.PrintWords Go.Proofs.YtniegajdmbepbaaGreatDoorW.PrintLast Go.Proofs.YtniegajdmbepbaaGreatDoorW.PrintMore
attribute [local go_sem] max2_int min2_int max_two min_two max_three min_three max_four min_four   -- for this text's walks alone
def errW : Option Int → Value
  | none => .nilIface
  | some c => .iface 0 (.int .i64 c)
theorem errW_none : errW none = .nilIface := rfl
theorem errW_some (c : Int) : errW (some c) = .iface 0 (.int .i64 c) := rfl
theorem info5 : (Tryz.prog.info? 5).map (fun i => (i.zero, i.size, i.bytes)) = some (some (.int .u8 0), 1, 1) := by kernel_rfl
-- the values' own types
open Go.RowKit Go.Proofs.YtniegajdmbepbaaGreatDoor.Wire Go.Proofs.YtniegajdmbepbaaGreatDoorW.PrintWords Go.Proofs.YtniegajdmbepbaaGreatDoorW.PrintLast Go.Proofs.YtniegajdmbepbaaGreatDoorW.PrintMore
attribute [local go_sem] max2_int min2_int max_two min_two max_three min_three max_four min_four   -- for this text's walks alone
mutual
def wire_Int.j0 : Nat → ByteArray → Int → Bool → Option (Int × Int × Int)
 | 0, _, _, _ => none
 | k + 1, x0, x1, x18 => if x18 = true then (some (0, 0, 2)) else (wire_Int.l0 k x0 x1 0 0)
def wire_Int.l0 : Nat → ByteArray → Int → Int → Int → Option (Int × Int × Int)
 | 0, _, _, _, _ => none
 | k + 1, x0, x1, x7, x19 => if x19 < 9 then (if (wrap64 (x1 + x19)) ≥ (x0.size : Int) then (some (0, 0, 10)) else (if 0 ≤ (wrap64 (x1 + x19)) then (if (wrap64 (x1 + x19)) < (x0.size : Int) then (if 0 ≤ (wrap64 (7 * x19)) then (if (bt x0 (wrap64 (x1 + x19))) ≥ 128 then (wire_Int.l0 k x0 x1 (Go.bits .or .u64 x7 (shl .u64 (IntKind.u64.wrap (Go.bits .and .u8 (bt x0 (wrap64 (x1 + x19))) 127)) (wrap64 (7 * x19)))) (wrap64 (x19 + 1))) else (if (bt x0 (wrap64 (x1 + x19))) = 0 then (if x19 > 0 then (some (0, 0, 10)) else (if (Go.bits .xor .i64 (wrap64 ((Go.bits .or .u64 x7 (shl .u64 (IntKind.u64.wrap (Go.bits .and .u8 (bt x0 (wrap64 (x1 + x19))) 127)) (wrap64 (7 * x19)))) / 2)) (wrap64 (-(wrap64 (Go.bits .and .u64 (Go.bits .or .u64 x7 (shl .u64 (IntKind.u64.wrap (Go.bits .and .u8 (bt x0 (wrap64 (x1 + x19))) 127)) (wrap64 (7 * x19)))) 1))))) < (-4611686018427387903) then (some (0, 0, 10)) else (some (Go.bits .xor .i64 (wrap64 ((Go.bits .or .u64 x7 (shl .u64 (IntKind.u64.wrap (Go.bits .and .u8 (bt x0 (wrap64 (x1 + x19))) 127)) (wrap64 (7 * x19)))) / 2)) (wrap64 (-(wrap64 (Go.bits .and .u64 (Go.bits .or .u64 x7 (shl .u64 (IntKind.u64.wrap (Go.bits .and .u8 (bt x0 (wrap64 (x1 + x19))) 127)) (wrap64 (7 * x19)))) 1)))), wrap64 ((wrap64 (x1 + x19)) + 1), 0)))) else (if (Go.bits .xor .i64 (wrap64 ((Go.bits .or .u64 x7 (shl .u64 (IntKind.u64.wrap (Go.bits .and .u8 (bt x0 (wrap64 (x1 + x19))) 127)) (wrap64 (7 * x19)))) / 2)) (wrap64 (-(wrap64 (Go.bits .and .u64 (Go.bits .or .u64 x7 (shl .u64 (IntKind.u64.wrap (Go.bits .and .u8 (bt x0 (wrap64 (x1 + x19))) 127)) (wrap64 (7 * x19)))) 1))))) < (-4611686018427387903) then (some (0, 0, 10)) else (some (Go.bits .xor .i64 (wrap64 ((Go.bits .or .u64 x7 (shl .u64 (IntKind.u64.wrap (Go.bits .and .u8 (bt x0 (wrap64 (x1 + x19))) 127)) (wrap64 (7 * x19)))) / 2)) (wrap64 (-(wrap64 (Go.bits .and .u64 (Go.bits .or .u64 x7 (shl .u64 (IntKind.u64.wrap (Go.bits .and .u8 (bt x0 (wrap64 (x1 + x19))) 127)) (wrap64 (7 * x19)))) 1)))), wrap64 ((wrap64 (x1 + x19)) + 1), 0))))) else (none)) else (none)) else (none))) else (some (0, 0, 10))
end
def wire_Int.f (k : Nat) (a0 : ByteArray) (a1 : Int) : Option (Int × Int × Int) := if a1 < 0 then (wire_Int.j0 k a0 a1 true) else (wire_Int.j0 k a0 a1 (decide (a1 > (a0.size : Int))))
set_option maxHeartbeats 8000000 in
set_option maxRecDepth 100000 in
theorem wire_Int.calls (k : Nat) (a0 : ByteArray) (a1 : Int) (r1 : Int) (r2 : Int) (r3 : Int) (w : World) (h : wire_Int.f k a0 a1 = some (r1, r2, r3)) :
  Calls Tryz.prog 113 #[.string a0, .int .i64 a1] w fun e w' => e = .returned (.tuple #[.int .i64 r1, .int .i64 r2, .int .i64 r3]) ∧ Drawn0 w w' := by
 have H : (if a1 < 0 then (wire_Int.j0 k a0 a1 true) else (wire_Int.j0 k a0 a1 (decide (a1 > (a0.size : Int))))) = some (r1, r2, r3) := h
 clear h
 have HC3 := Aside0.mk H
 clear H
 go_enter Tryz.func113, Tryz.ntmps113
 go_upto_region 1 with (fail)
 go_cut [18] (fun v18 wc => ∃ (kq : Nat) (x18_2 : Bool), v18 = .bool x18_2 ∧ Aside0 (wire_Int.j0 kq a0 a1 x18_2 = some (r1, r2, r3)) ∧ Aside0 (kq ≤ k) ∧ Drawn0 w wc)
 case first =>
  have H := HC3.out
  clear HC3
  by_cases c4 : a1 < 0
  ·rw [if_pos c4] at H
   have c4b0 := decide_eq_true c4
   clear c4
   (first | rw [c4b0] | (simp only [i64_w, i32_w]; rw [c4b0]) | skip)
   have H' := Aside0.mk H
   clear H
   go_wp2
   go_meet
   case rel => exact ⟨_, (true), (by first | rfl | (simp; done) | (simp [*]; done)), H', ⟨by first | omega | exact Nat.le_refl _⟩, by repeat (first | exact Drawn0.refl _ | apply Drawn0.step)⟩
  ·rw [if_neg c4] at H
   have c4b0 := decide_eq_false c4
   clear c4
   (first | rw [c4b0] | (simp only [i64_w, i32_w]; rw [c4b0]) | skip)
   have H' := Aside0.mk H
   clear H
   go_wp2
   go_meet
   case rel => exact ⟨_, (decide (a1 > (a0.size : Int))), (by first | rfl | (simp; done) | (simp [*]; done)), H', ⟨by first | omega | exact Nat.le_refl _⟩, by repeat (first | exact Drawn0.refl _ | apply Drawn0.step)⟩
 case rest =>
  clear HC3
  try clear c1
  try clear p2
  try clear c4
  try clear c4b0
  obtain ⟨kq, x18_2, rfl, HA, HJ2, ⟨mc2, rfl⟩⟩ := hcut
  cases kq with
  | zero => exact absurd HA.out (by simp [wire_Int.j0])
  | succ kj2 =>
   have H := HA.out
   clear HA
   simp only [wire_Int.j0] at H
   by_cases c5 : x18_2 = true
   ·subst c5
    have H1 : (some (0, 0, 2)) = some (r1, r2, r3) := by rw [if_pos rfl] at H; exact H
    clear H
    have H := H1
    clear H1
    simp only [Option.some.injEq, Prod.mk.injEq] at H
    obtain ⟨rfl, rfl, rfl⟩ := H
    go_wp2
    go_ret3
    exact ⟨by first | rfl | (simp; done) | (simp [*]; done), by repeat (first | exact Drawn0.refl _ | apply Drawn0.step)⟩
   ·replace c5 := Bool.eq_false_iff.mpr c5
    subst c5
    have H1 : (wire_Int.l0 kj2 a0 a1 0 0) = some (r1, r2, r3) := by rw [if_neg (show ¬ (false = true) by decide)] at H; exact H
    clear H
    have H := H1
    clear H1
    have H' := Aside0.mk H
    clear H
    go_wp2
    go_loopg [7, 19] kj2 (fun kq v7 v19 w' => ∃ (x7_2 : Int) (x19_2 : Int), v7 = .int .u64 x7_2 ∧ v19 = .int .i64 x19_2 ∧ Aside0 (wire_Int.l0 kq a0 a1 x7_2 x19_2 = some (r1, r2, r3)) ∧ Aside0 (kq ≤ kj2) ∧ Drawn0 w w')
    case atStart => exact ⟨(0), (0), (by first | rfl | (simp; done) | (simp [*]; done)), (by first | rfl | (simp; done) | (simp [*]; done)), H', ⟨Nat.le_refl _⟩, by repeat (first | exact Drawn0.refl _ | apply Drawn0.step)⟩
    case round =>
     clear H'
     try clear c1
     try clear c2
     try clear p2
     try clear c4
     try clear c4b0
     try clear c5
     try clear p2
     obtain ⟨x7_2, x19_2, rfl, rfl, HA, HK2, ⟨m2, rfl⟩⟩ := hrel
     cases gk with
     | zero => exact absurd HA.out (by simp [wire_Int.l0])
     | succ k2 =>
      have H := HA.out
      clear HA
      simp only [wire_Int.l0] at H
      by_cases c6 : x19_2 < 9
      ·rw [if_pos c6] at H
       have c6b0 := decide_eq_true c6
       clear c6
       by_cases c7 : (wrap64 (a1 + x19_2)) ≥ (a0.size : Int)
       ·rw [if_pos c7] at H
        have c7b0 := decide_eq_true c7
        clear c7
        simp only [Option.some.injEq, Prod.mk.injEq] at H
        obtain ⟨rfl, rfl, rfl⟩ := H
        go_wp2
        go_ret3
        exact ⟨by first | rfl | (simp; done) | (simp [*]; done), by repeat (first | exact Drawn0.refl _ | apply Drawn0.step)⟩
       ·rw [if_neg c7] at H
        have c7b0 := decide_eq_false c7
        clear c7
        obtain ⟨ji8, hji8⟩ : ∃ j_ : Int, (wrap64 (a1 + x19_2)) = j_ := ⟨_, rfl⟩
        replace H : (if 0 ≤ (ji8) then (if (ji8) < (a0.size : Int) then (if 0 ≤ (wrap64 (7 * x19_2)) then (if (bt a0 (ji8)) ≥ 128 then (wire_Int.l0 k2 a0 a1 (Go.bits .or .u64 x7_2 (shl .u64 (IntKind.u64.wrap (Go.bits .and .u8 (bt a0 (ji8)) 127)) (wrap64 (7 * x19_2)))) (wrap64 (x19_2 + 1))) else (if (bt a0 (ji8)) = 0 then (if x19_2 > 0 then (some (0, 0, 10)) else (if (Go.bits .xor .i64 (wrap64 ((Go.bits .or .u64 x7_2 (shl .u64 (IntKind.u64.wrap (Go.bits .and .u8 (bt a0 (ji8)) 127)) (wrap64 (7 * x19_2)))) / 2)) (wrap64 (-(wrap64 (Go.bits .and .u64 (Go.bits .or .u64 x7_2 (shl .u64 (IntKind.u64.wrap (Go.bits .and .u8 (bt a0 (ji8)) 127)) (wrap64 (7 * x19_2)))) 1))))) < (-4611686018427387903) then (some (0, 0, 10)) else (some (Go.bits .xor .i64 (wrap64 ((Go.bits .or .u64 x7_2 (shl .u64 (IntKind.u64.wrap (Go.bits .and .u8 (bt a0 (ji8)) 127)) (wrap64 (7 * x19_2)))) / 2)) (wrap64 (-(wrap64 (Go.bits .and .u64 (Go.bits .or .u64 x7_2 (shl .u64 (IntKind.u64.wrap (Go.bits .and .u8 (bt a0 (ji8)) 127)) (wrap64 (7 * x19_2)))) 1)))), wrap64 ((ji8) + 1), 0)))) else (if (Go.bits .xor .i64 (wrap64 ((Go.bits .or .u64 x7_2 (shl .u64 (IntKind.u64.wrap (Go.bits .and .u8 (bt a0 (ji8)) 127)) (wrap64 (7 * x19_2)))) / 2)) (wrap64 (-(wrap64 (Go.bits .and .u64 (Go.bits .or .u64 x7_2 (shl .u64 (IntKind.u64.wrap (Go.bits .and .u8 (bt a0 (ji8)) 127)) (wrap64 (7 * x19_2)))) 1))))) < (-4611686018427387903) then (some (0, 0, 10)) else (some (Go.bits .xor .i64 (wrap64 ((Go.bits .or .u64 x7_2 (shl .u64 (IntKind.u64.wrap (Go.bits .and .u8 (bt a0 (ji8)) 127)) (wrap64 (7 * x19_2)))) / 2)) (wrap64 (-(wrap64 (Go.bits .and .u64 (Go.bits .or .u64 x7_2 (shl .u64 (IntKind.u64.wrap (Go.bits .and .u8 (bt a0 (ji8)) 127)) (wrap64 (7 * x19_2)))) 1)))), wrap64 ((ji8) + 1), 0))))) else (none)) else (none)) else (none)) = some (r1, r2, r3) := by first | (rw [hji8] at H; exact H) | (simp only [hji8] at H ⊢; exact H)
        (try rw [hji8] at c7b0)
        have hji8w : (IntKind.i64.wrap (a1 + x19_2)) = ji8 := (i64_w _).trans hji8
        by_cases c9 : 0 ≤ (ji8)
        ·rw [if_pos c9] at H
         have c9b0 := decide_eq_true c9
         clear c9
         by_cases c10 : (ji8) < (a0.size : Int)
         ·rw [if_pos c10] at H
          have c10b0 := decide_eq_true c10
          clear c10
          obtain ⟨ji12, hji12⟩ : ∃ j_ : Int, (wrap64 (7 * x19_2)) = j_ := ⟨_, rfl⟩
          replace H : (if 0 ≤ (ji12) then (if (bt a0 (ji8)) ≥ 128 then (wire_Int.l0 k2 a0 a1 (Go.bits .or .u64 x7_2 (shl .u64 (IntKind.u64.wrap (Go.bits .and .u8 (bt a0 (ji8)) 127)) (ji12))) (wrap64 (x19_2 + 1))) else (if (bt a0 (ji8)) = 0 then (if x19_2 > 0 then (some (0, 0, 10)) else (if (Go.bits .xor .i64 (wrap64 ((Go.bits .or .u64 x7_2 (shl .u64 (IntKind.u64.wrap (Go.bits .and .u8 (bt a0 (ji8)) 127)) (ji12))) / 2)) (wrap64 (-(wrap64 (Go.bits .and .u64 (Go.bits .or .u64 x7_2 (shl .u64 (IntKind.u64.wrap (Go.bits .and .u8 (bt a0 (ji8)) 127)) (ji12))) 1))))) < (-4611686018427387903) then (some (0, 0, 10)) else (some (Go.bits .xor .i64 (wrap64 ((Go.bits .or .u64 x7_2 (shl .u64 (IntKind.u64.wrap (Go.bits .and .u8 (bt a0 (ji8)) 127)) (ji12))) / 2)) (wrap64 (-(wrap64 (Go.bits .and .u64 (Go.bits .or .u64 x7_2 (shl .u64 (IntKind.u64.wrap (Go.bits .and .u8 (bt a0 (ji8)) 127)) (ji12))) 1)))), wrap64 ((ji8) + 1), 0)))) else (if (Go.bits .xor .i64 (wrap64 ((Go.bits .or .u64 x7_2 (shl .u64 (IntKind.u64.wrap (Go.bits .and .u8 (bt a0 (ji8)) 127)) (ji12))) / 2)) (wrap64 (-(wrap64 (Go.bits .and .u64 (Go.bits .or .u64 x7_2 (shl .u64 (IntKind.u64.wrap (Go.bits .and .u8 (bt a0 (ji8)) 127)) (ji12))) 1))))) < (-4611686018427387903) then (some (0, 0, 10)) else (some (Go.bits .xor .i64 (wrap64 ((Go.bits .or .u64 x7_2 (shl .u64 (IntKind.u64.wrap (Go.bits .and .u8 (bt a0 (ji8)) 127)) (ji12))) / 2)) (wrap64 (-(wrap64 (Go.bits .and .u64 (Go.bits .or .u64 x7_2 (shl .u64 (IntKind.u64.wrap (Go.bits .and .u8 (bt a0 (ji8)) 127)) (ji12))) 1)))), wrap64 ((ji8) + 1), 0))))) else (none)) = some (r1, r2, r3) := by first | (rw [hji12] at H; exact H) | (simp only [hji12] at H ⊢; exact H)
          have hji12w : (IntKind.i64.wrap (7 * x19_2)) = ji12 := (i64_w _).trans hji12
          by_cases c13 : 0 ≤ (ji12)
          ·rw [if_pos c13] at H
           have c13b0 := eq_true c13
           have c13b1 := decide_eq_true c13
           clear c13
           obtain ⟨ji14, hji14⟩ : ∃ j_ : Int, (shl .u64 (IntKind.u64.wrap (Go.bits .and .u8 (bt a0 (ji8)) 127)) (ji12)) = j_ := ⟨_, rfl⟩
           replace H : (if (bt a0 (ji8)) ≥ 128 then (wire_Int.l0 k2 a0 a1 (Go.bits .or .u64 x7_2 (ji14)) (wrap64 (x19_2 + 1))) else (if (bt a0 (ji8)) = 0 then (if x19_2 > 0 then (some (0, 0, 10)) else (if (Go.bits .xor .i64 (wrap64 ((Go.bits .or .u64 x7_2 (ji14)) / 2)) (wrap64 (-(wrap64 (Go.bits .and .u64 (Go.bits .or .u64 x7_2 (ji14)) 1))))) < (-4611686018427387903) then (some (0, 0, 10)) else (some (Go.bits .xor .i64 (wrap64 ((Go.bits .or .u64 x7_2 (ji14)) / 2)) (wrap64 (-(wrap64 (Go.bits .and .u64 (Go.bits .or .u64 x7_2 (ji14)) 1)))), wrap64 ((ji8) + 1), 0)))) else (if (Go.bits .xor .i64 (wrap64 ((Go.bits .or .u64 x7_2 (ji14)) / 2)) (wrap64 (-(wrap64 (Go.bits .and .u64 (Go.bits .or .u64 x7_2 (ji14)) 1))))) < (-4611686018427387903) then (some (0, 0, 10)) else (some (Go.bits .xor .i64 (wrap64 ((Go.bits .or .u64 x7_2 (ji14)) / 2)) (wrap64 (-(wrap64 (Go.bits .and .u64 (Go.bits .or .u64 x7_2 (ji14)) 1)))), wrap64 ((ji8) + 1), 0))))) = some (r1, r2, r3) := by first | (rw [hji14] at H; exact H) | (simp only [hji14] at H ⊢; exact H)
           have hji14_ : (IntKind.u64.wrap ((IntKind.u64.wrap (Go.bits .and .u8 (bt a0 (ji8)) 127)) * 2 ^ min (ji12).toNat 64)) = ji14 := hji14
           have hji14z : (ji12) ≤ 64 → (IntKind.u64.wrap ((IntKind.u64.wrap (Go.bits .and .u8 (bt a0 (ji8)) 127)) * 2 ^ (ji12).toNat)) = ji14 := shl_small hji14
           by_cases c15 : (bt a0 (ji8)) ≥ 128
           ·rw [if_pos c15] at H
            have c15b0 := decide_eq_true c15
            clear c15
            have H' := Aside0.mk H
            clear H
            have p11 : 0 ≤ ((ji8) : Int) := of_decide_eq_true (by first | (with_reducible assumption) | assumption)
            have q11 : (ji8) < (a0.size : Int) := of_decide_eq_true (by first | (with_reducible assumption) | assumption)
            have hx11 := bt_at a0 (ji8)
            replace p11 := eq_true p11
            replace q11 := eq_true q11
            go_wp2
            go_roundg k2
            case measure => have := HJ2.out; have := HK2.out; omega
            case rel => exact ⟨(Go.bits .or .u64 x7_2 (ji14)), (wrap64 (x19_2 + 1)), (by first | rfl | (simp; done) | (simp only [← hji14] <;> (first | rfl | simp)) | (simp [*]; done)), (by first | rfl | (simp; done) | (simp [*]; done)), H', ⟨by have := HJ2.out; have := HK2.out; omega⟩, by repeat (first | exact Drawn0.refl _ | apply Drawn0.step)⟩
           ·rw [if_neg c15] at H
            have c15b0 := decide_eq_false c15
            clear c15
            by_cases c16 : (bt a0 (ji8)) = 0
            ·rw [if_pos c16] at H
             have c16b0 : ((bt a0 (ji8)) == 0) = true := beq_iff_eq.mpr c16
             have c16b1 : ((bt a0 (ji8)) != 0) = false := bne_eq_false_iff_eq.mpr c16
             clear c16
             by_cases c17 : x19_2 > 0
             ·rw [if_pos c17] at H
              have c17b0 := decide_eq_true c17
              clear c17
              simp only [Option.some.injEq, Prod.mk.injEq] at H
              obtain ⟨rfl, rfl, rfl⟩ := H
              have p11 : 0 ≤ ((ji8) : Int) := of_decide_eq_true (by first | (with_reducible assumption) | assumption)
              have q11 : (ji8) < (a0.size : Int) := of_decide_eq_true (by first | (with_reducible assumption) | assumption)
              have hx11 := bt_at a0 (ji8)
              replace p11 := eq_true p11
              replace q11 := eq_true q11
              go_wp2
              go_ret3
              exact ⟨by first | rfl | (simp; done) | (simp only [← hji8, ← hji12, ← hji14] <;> (first | rfl | simp)) | (simp [*]; done), by repeat (first | exact Drawn0.refl _ | apply Drawn0.step)⟩
             ·rw [if_neg c17] at H
              have c17b0 := decide_eq_false c17
              clear c17
              by_cases c18 : (Go.bits .xor .i64 (wrap64 ((Go.bits .or .u64 x7_2 (ji14)) / 2)) (wrap64 (-(wrap64 (Go.bits .and .u64 (Go.bits .or .u64 x7_2 (ji14)) 1))))) < (-4611686018427387903)
              ·rw [if_pos c18] at H
               have c18b0 := decide_eq_true c18
               clear c18
               simp only [Option.some.injEq, Prod.mk.injEq] at H
               obtain ⟨rfl, rfl, rfl⟩ := H
               have p11 : 0 ≤ ((ji8) : Int) := of_decide_eq_true (by first | (with_reducible assumption) | assumption)
               have q11 : (ji8) < (a0.size : Int) := of_decide_eq_true (by first | (with_reducible assumption) | assumption)
               have hx11 := bt_at a0 (ji8)
               replace p11 := eq_true p11
               replace q11 := eq_true q11
               go_wp2
               go_ret3
               exact ⟨by first | rfl | (simp; done) | (simp only [← hji8, ← hji12, ← hji14] <;> (first | rfl | simp)) | (simp [*]; done), by repeat (first | exact Drawn0.refl _ | apply Drawn0.step)⟩
              ·rw [if_neg c18] at H
               have c18b0 := decide_eq_false c18
               clear c18
               simp only [Option.some.injEq, Prod.mk.injEq] at H
               obtain ⟨rfl, rfl, rfl⟩ := H
               have p11 : 0 ≤ ((ji8) : Int) := of_decide_eq_true (by first | (with_reducible assumption) | assumption)
               have q11 : (ji8) < (a0.size : Int) := of_decide_eq_true (by first | (with_reducible assumption) | assumption)
               have hx11 := bt_at a0 (ji8)
               replace p11 := eq_true p11
               replace q11 := eq_true q11
               go_wp2
               go_ret3
               exact ⟨by first | rfl | (simp; done) | (simp only [← hji8, ← hji12, ← hji14] <;> (first | rfl | simp)) | (simp [*]; done), by repeat (first | exact Drawn0.refl _ | apply Drawn0.step)⟩
            ·rw [if_neg c16] at H
             have c16b0 : ((bt a0 (ji8)) == 0) = false := beq_eq_false_iff_ne.mpr c16
             have c16b1 : ((bt a0 (ji8)) != 0) = true := bne_iff_ne.mpr c16
             by_cases c19 : (Go.bits .xor .i64 (wrap64 ((Go.bits .or .u64 x7_2 (ji14)) / 2)) (wrap64 (-(wrap64 (Go.bits .and .u64 (Go.bits .or .u64 x7_2 (ji14)) 1))))) < (-4611686018427387903)
             ·rw [if_pos c19] at H
              have c19b0 := decide_eq_true c19
              clear c19
              simp only [Option.some.injEq, Prod.mk.injEq] at H
              obtain ⟨rfl, rfl, rfl⟩ := H
              have p11 : 0 ≤ ((ji8) : Int) := of_decide_eq_true (by first | (with_reducible assumption) | assumption)
              have q11 : (ji8) < (a0.size : Int) := of_decide_eq_true (by first | (with_reducible assumption) | assumption)
              have hx11 := bt_at a0 (ji8)
              replace p11 := eq_true p11
              replace q11 := eq_true q11
              go_wp2
              go_ret3
              exact ⟨by first | rfl | (simp; done) | (simp only [← hji8, ← hji12, ← hji14] <;> (first | rfl | simp)) | (simp [*]; done), by repeat (first | exact Drawn0.refl _ | apply Drawn0.step)⟩
             ·rw [if_neg c19] at H
              have c19b0 := decide_eq_false c19
              clear c19
              simp only [Option.some.injEq, Prod.mk.injEq] at H
              obtain ⟨rfl, rfl, rfl⟩ := H
              have p11 : 0 ≤ ((ji8) : Int) := of_decide_eq_true (by first | (with_reducible assumption) | assumption)
              have q11 : (ji8) < (a0.size : Int) := of_decide_eq_true (by first | (with_reducible assumption) | assumption)
              have hx11 := bt_at a0 (ji8)
              replace p11 := eq_true p11
              replace q11 := eq_true q11
              go_wp2
              go_ret3
              exact ⟨by first | rfl | (simp; done) | (simp only [← hji8, ← hji12, ← hji14] <;> (first | rfl | simp)) | (simp [*]; done), by repeat (first | exact Drawn0.refl _ | apply Drawn0.step)⟩
          ·rw [if_neg c13] at H
           exact absurd H (by simp)
         ·rw [if_neg c10] at H
          exact absurd H (by simp)
        ·rw [if_neg c9] at H
         exact absurd H (by simp)
      ·rw [if_neg c6] at H
       have c6b0 := decide_eq_false c6
       clear c6
       simp only [Option.some.injEq, Prod.mk.injEq] at H
       obtain ⟨rfl, rfl, rfl⟩ := H
       go_wp2
       go_ret3
       exact ⟨by first | rfl | (simp; done) | (simp [*]; done), by repeat (first | exact Drawn0.refl _ | apply Drawn0.step)⟩
def wire_String.f (k : Nat) (a0 : ByteArray) (a1 : Int) : Option (ByteArray × Int × Int) := (wire_Int.f k a0 a1).bind fun bt101 => (if bt101.2.2 = 0 then (if bt101.1 < 0 then (some ((⟨#[]⟩ : ByteArray), 0, 10)) else (if bt101.1 > 65536 then (some ((⟨#[]⟩ : ByteArray), 0, 10)) else (if bt101.1 > (wrap64 ((a0.size : Int) - bt101.2.1)) then (some ((⟨#[]⟩ : ByteArray), 0, 10)) else (if 0 ≤ bt101.2.1 then (if bt101.2.1 ≤ (wrap64 (bt101.2.1 + bt101.1)) then (if (wrap64 (bt101.2.1 + bt101.1)) ≤ (a0.size : Int) then (some (a0.extract (bt101.2.1 : Int).toNat ((wrap64 (bt101.2.1 + bt101.1)) : Int).toNat, wrap64 (bt101.2.1 + bt101.1), 0)) else (none)) else (none)) else (none))))) else (some ((⟨#[]⟩ : ByteArray), 0, bt101.2.2)))
set_option maxHeartbeats 8000000 in
set_option maxRecDepth 100000 in
theorem wire_String.calls (k : Nat) (a0 : ByteArray) (a1 : Int) (r1 : ByteArray) (r2 : Int) (r3 : Int) (w : World) (h : wire_String.f k a0 a1 = some (r1, r2, r3)) :
  Calls Tryz.prog 101 #[.string a0, .int .i64 a1] w fun e w' => e = .returned (.tuple #[.string r1, .int .i64 r2, .int .i64 r3]) ∧ Drawn0 w w' := by
 have H : ((wire_Int.f k a0 a1).bind fun bt101 => (if bt101.2.2 = 0 then (if bt101.1 < 0 then (some ((⟨#[]⟩ : ByteArray), 0, 10)) else (if bt101.1 > 65536 then (some ((⟨#[]⟩ : ByteArray), 0, 10)) else (if bt101.1 > (wrap64 ((a0.size : Int) - bt101.2.1)) then (some ((⟨#[]⟩ : ByteArray), 0, 10)) else (if 0 ≤ bt101.2.1 then (if bt101.2.1 ≤ (wrap64 (bt101.2.1 + bt101.1)) then (if (wrap64 (bt101.2.1 + bt101.1)) ≤ (a0.size : Int) then (some (a0.extract (bt101.2.1 : Int).toNat ((wrap64 (bt101.2.1 + bt101.1)) : Int).toNat, wrap64 (bt101.2.1 + bt101.1), 0)) else (none)) else (none)) else (none))))) else (some ((⟨#[]⟩ : ByteArray), 0, bt101.2.2)))) = some (r1, r2, r3) := h
 clear h
 replace H := Option.bind_eq_some_iff.mp H
 obtain ⟨⟨t101, t102, t103⟩, A30, H⟩ := H
 replace H : (if t103 = 0 then (if t101 < 0 then (some ((⟨#[]⟩ : ByteArray), 0, 10)) else (if t101 > 65536 then (some ((⟨#[]⟩ : ByteArray), 0, 10)) else (if t101 > (wrap64 ((a0.size : Int) - t102)) then (some ((⟨#[]⟩ : ByteArray), 0, 10)) else (if 0 ≤ t102 then (if t102 ≤ (wrap64 (t102 + t101)) then (if (wrap64 (t102 + t101)) ≤ (a0.size : Int) then (some (a0.extract (t102 : Int).toNat ((wrap64 (t102 + t101)) : Int).toNat, wrap64 (t102 + t101), 0)) else (none)) else (none)) else (none))))) else (some ((⟨#[]⟩ : ByteArray), 0, t103))) = some (r1, r2, r3) := H
 have A3 := Aside0.mk A30
 clear A30
 by_cases c4 : t103 = 0
 ·rw [if_pos c4] at H
  have c4b0 : (t103 == 0) = true := beq_iff_eq.mpr c4
  have c4b1 : (t103 != 0) = false := bne_eq_false_iff_eq.mpr c4
  clear c4
  by_cases c5 : t101 < 0
  ·rw [if_pos c5] at H
   have c5b0 := decide_eq_true c5
   clear c5
   simp only [Option.some.injEq, Prod.mk.injEq] at H
   obtain ⟨rfl, rfl, rfl⟩ := H
   go_enter Tryz.func101, Tryz.ntmps101
   go_wp2_with (first | ((with_reducible refine gate_callee (f := 113) rfl ?_); refine goesL_ (some 13) rfl rfl Tryz.func113 (by kernel_rfl) rfl #[.string a0, .int .i64 a1] rfl (by (try simp only [List.map_toArray, List.map_cons, List.map_nil]); first | done | rfl | (simp only [List.length_drop, List.length_take]; rfl)) ?_; (with_reducible refine (wire_Int.calls k a0 a1 t101 t102 t103 _ A3.out).mono ?_); rintro e w' ⟨rfl, ⟨nd, rfl⟩⟩; refine ⟨_, rfl, ?_⟩))
   go_ret3
   exact ⟨by first | rfl | (simp; done) | (simp [*]; done), by repeat (first | exact Drawn0.refl _ | apply Drawn0.step)⟩
  ·rw [if_neg c5] at H
   have c5b0 := decide_eq_false c5
   clear c5
   by_cases c6 : t101 > 65536
   ·rw [if_pos c6] at H
    have c6b0 := decide_eq_true c6
    clear c6
    simp only [Option.some.injEq, Prod.mk.injEq] at H
    obtain ⟨rfl, rfl, rfl⟩ := H
    go_enter Tryz.func101, Tryz.ntmps101
    go_wp2_with (first | ((with_reducible refine gate_callee (f := 113) rfl ?_); refine goesL_ (some 13) rfl rfl Tryz.func113 (by kernel_rfl) rfl #[.string a0, .int .i64 a1] rfl (by (try simp only [List.map_toArray, List.map_cons, List.map_nil]); first | done | rfl | (simp only [List.length_drop, List.length_take]; rfl)) ?_; (with_reducible refine (wire_Int.calls k a0 a1 t101 t102 t103 _ A3.out).mono ?_); rintro e w' ⟨rfl, ⟨nd, rfl⟩⟩; refine ⟨_, rfl, ?_⟩))
    go_ret3
    exact ⟨by first | rfl | (simp; done) | (simp [*]; done), by repeat (first | exact Drawn0.refl _ | apply Drawn0.step)⟩
   ·rw [if_neg c6] at H
    have c6b0 := decide_eq_false c6
    clear c6
    by_cases c7 : t101 > (wrap64 ((a0.size : Int) - t102))
    ·rw [if_pos c7] at H
     have c7b0 := decide_eq_true c7
     clear c7
     simp only [Option.some.injEq, Prod.mk.injEq] at H
     obtain ⟨rfl, rfl, rfl⟩ := H
     go_enter Tryz.func101, Tryz.ntmps101
     go_wp2_with (first | ((with_reducible refine gate_callee (f := 113) rfl ?_); refine goesL_ (some 13) rfl rfl Tryz.func113 (by kernel_rfl) rfl #[.string a0, .int .i64 a1] rfl (by (try simp only [List.map_toArray, List.map_cons, List.map_nil]); first | done | rfl | (simp only [List.length_drop, List.length_take]; rfl)) ?_; (with_reducible refine (wire_Int.calls k a0 a1 t101 t102 t103 _ A3.out).mono ?_); rintro e w' ⟨rfl, ⟨nd, rfl⟩⟩; refine ⟨_, rfl, ?_⟩))
     go_ret3
     exact ⟨by first | rfl | (simp; done) | (simp [*]; done), by repeat (first | exact Drawn0.refl _ | apply Drawn0.step)⟩
    ·rw [if_neg c7] at H
     have c7b0 := decide_eq_false c7
     clear c7
     by_cases c8 : 0 ≤ t102
     ·rw [if_pos c8] at H
      have c8b0 := eq_true c8
      have c8b1 := decide_eq_true c8
      clear c8
      by_cases c9 : t102 ≤ (wrap64 (t102 + t101))
      ·rw [if_pos c9] at H
       have c9b0 := eq_true c9
       have c9b1 := decide_eq_true c9
       by_cases c10 : (wrap64 (t102 + t101)) ≤ (a0.size : Int)
       ·rw [if_pos c10] at H
        have c10b0 := eq_true c10
        have c10b1 := decide_eq_true c10
        simp only [Option.some.injEq, Prod.mk.injEq] at H
        obtain ⟨rfl, rfl, rfl⟩ := H
        go_enter Tryz.func101, Tryz.ntmps101
        go_wp2_with (first | ((with_reducible refine gate_callee (f := 113) rfl ?_); refine goesL_ (some 13) rfl rfl Tryz.func113 (by kernel_rfl) rfl #[.string a0, .int .i64 a1] rfl (by (try simp only [List.map_toArray, List.map_cons, List.map_nil]); first | done | rfl | (simp only [List.length_drop, List.length_take]; rfl)) ?_; (with_reducible refine (wire_Int.calls k a0 a1 t101 t102 t103 _ A3.out).mono ?_); rintro e w' ⟨rfl, ⟨nd, rfl⟩⟩; refine ⟨_, rfl, ?_⟩))
        go_ret3
        exact ⟨by first | rfl | (simp; done) | (simp [*]; done), by repeat (first | exact Drawn0.refl _ | apply Drawn0.step)⟩
       ·rw [if_neg c10] at H
        exact absurd H (by simp)
      ·rw [if_neg c9] at H
       exact absurd H (by simp)
     ·rw [if_neg c8] at H
      exact absurd H (by simp)
 ·rw [if_neg c4] at H
  have c4b0 : (t103 == 0) = false := beq_eq_false_iff_ne.mpr c4
  have c4b1 : (t103 != 0) = true := bne_iff_ne.mpr c4
  simp only [Option.some.injEq, Prod.mk.injEq] at H
  obtain ⟨rfl, rfl, rfl⟩ := H
  go_enter Tryz.func101, Tryz.ntmps101
  go_wp2_with (first | ((with_reducible refine gate_callee (f := 113) rfl ?_); refine goesL_ (some 13) rfl rfl Tryz.func113 (by kernel_rfl) rfl #[.string a0, .int .i64 a1] rfl (by (try simp only [List.map_toArray, List.map_cons, List.map_nil]); first | done | rfl | (simp only [List.length_drop, List.length_take]; rfl)) ?_; (with_reducible refine (wire_Int.calls k a0 a1 t101 t102 t103 _ A3.out).mono ?_); rintro e w' ⟨rfl, ⟨nd, rfl⟩⟩; refine ⟨_, rfl, ?_⟩))
  go_ret3
  exact ⟨by first | rfl | (simp; done) | (simp [*]; done), by repeat (first | exact Drawn0.refl _ | apply Drawn0.step)⟩
-- NOT PRINTED: function 112 (wire_groups)
def wire_PutString.f (a0 : ByteArray) : Option (ByteArray × Int) := if (a0.size : Int) > 65536 then (some ((⟨#[]⟩ : ByteArray), 10)) else ((wire_PutInt.f (a0.size : Int)).bind fun bt104 => (if bt104.1.size + a0.size ≤ 9223372036854775807 then (some (bt104.1 ++ a0, 0)) else (none)))
set_option maxHeartbeats 8000000 in
set_option maxRecDepth 100000 in
theorem wire_PutString.calls (a0 : ByteArray) (r1 : ByteArray) (r2 : Int) (w : World) (h : wire_PutString.f a0 = some (r1, r2)) :
  Calls Tryz.prog 71 #[.string a0] w fun e w' => e = .returned (.tuple #[.string r1, .int .i64 r2]) ∧ Below w.heap.size w w' := by
 have HB := Aside0.mk (Below.refl w.heap.size w)
 have H : (if (a0.size : Int) > 65536 then (some ((⟨#[]⟩ : ByteArray), 10)) else ((wire_PutInt.f (a0.size : Int)).bind fun bt104 => (if bt104.1.size + a0.size ≤ 9223372036854775807 then (some (bt104.1 ++ a0, 0)) else (none)))) = some (r1, r2) := h
 clear h
 by_cases c2 : (a0.size : Int) > 65536
 ·rw [if_pos c2] at H
  have c2b0 := decide_eq_true c2
  have c2b1 : decide (65536 < a0.size) = true := decide_eq_true (by omega)
  clear c2
  simp only [Option.some.injEq, Prod.mk.injEq] at H
  obtain ⟨rfl, rfl⟩ := H
  go_enter Tryz.func71, Tryz.ntmps71
  go_wp2
  go_ret2
  exact ⟨by first | rfl | (simp [errW_none, errW_some] <;> rfl) | (simp [*, errW_none, errW_some] <;> rfl), by repeat (first | (with_reducible first | exact HB.out | apply below_alloc | apply pw_below_drewN | apply below_drew1) | exact HB.out)⟩
 ·rw [if_neg c2] at H
  have c2b0 := decide_eq_false c2
  have c2b1 : decide (65536 < a0.size) = false := decide_eq_false (by omega)
  clear c2
  replace H := Option.bind_eq_some_iff.mp H
  obtain ⟨⟨t104, t105⟩, A30, H⟩ := H
  replace H : (if t104.size + a0.size ≤ 9223372036854775807 then (some (t104 ++ a0, 0)) else (none)) = some (r1, r2) := H
  have A3 := Aside0.mk A30
  clear A30
  by_cases c4 : t104.size + a0.size ≤ 9223372036854775807
  ·rw [if_pos c4] at H
   have c4b0 := eq_true c4
   have c4b1 := decide_eq_true c4
   try have c4b2 : (9223372036854775807 < t104.size + a0.size) = False := eq_false (Nat.not_lt.2 c4)
   simp only [Option.some.injEq, Prod.mk.injEq] at H
   obtain ⟨rfl, rfl⟩ := H
   go_enter Tryz.func71, Tryz.ntmps71
   go_wp2_with (first | ((with_reducible refine gate_callee (f := 96) rfl ?_); refine goesL_ (some 12) rfl rfl Tryz.func96 (by kernel_rfl) rfl #[.int .i64 (a0.size : Int)] rfl (by (try simp only [List.map_toArray, List.map_cons, List.map_nil]); first | done | rfl | (simp only [List.length_drop, List.length_take]; rfl)) ?_; (with_reducible refine (wire_PutInt.calls (a0.size : Int) t104 t105 _ A3.out).mono ?_); rintro e w5 ⟨rfl, hb⟩; refine ⟨_, rfl, ?_⟩; have n0_ := Aside0.mk (below_step (by repeat (first | (with_reducible first | exact HB.out | apply below_alloc | apply pw_below_drewN | apply below_drew1) | exact HB.out)) hb); clear HB; have HB := n0_; clear n0_; (try clear hb); (try clear hb2); (try clear hk); (try clear hi)))
   go_ret2
   exact ⟨by first | rfl | (simp [errW_none, errW_some] <;> rfl) | (simp [*, errW_none, errW_some] <;> rfl), by repeat (first | (with_reducible first | exact HB.out | apply below_alloc | apply pw_below_drewN | apply below_drew1) | exact HB.out)⟩
  ·rw [if_neg c4] at H
   exact absurd H (by simp)
def clearwayref01_zigzag.f (a0 : Int) : Option (Int) := if a0 < 0 then (some (IntKind.u64.wrap ((IntKind.u64.wrap ((IntKind.u64.wrap (wrap64 (-a0))) * 2)) - 1))) else (some (IntKind.u64.wrap ((IntKind.u64.wrap (a0)) * 2)))
set_option maxHeartbeats 8000000 in
set_option maxRecDepth 100000 in
theorem clearwayref01_zigzag.calls (a0 : Int) (r : Int) (w : World) (h : clearwayref01_zigzag.f a0 = some r) :
  Calls Tryz.prog 86 #[.int .i64 a0] w fun e w' => e = .returned (.int .u64 r) ∧ Drawn0 w w' := by
 have H : (if a0 < 0 then (some (IntKind.u64.wrap ((IntKind.u64.wrap ((IntKind.u64.wrap (wrap64 (-a0))) * 2)) - 1))) else (some (IntKind.u64.wrap ((IntKind.u64.wrap (a0)) * 2)))) = some r := h
 clear h
 by_cases c2 : a0 < 0
 ·rw [if_pos c2] at H
  have c2b0 := decide_eq_true c2
  clear c2
  obtain rfl := Option.some.inj H
  go_enter Tryz.func86, Tryz.ntmps86
  go_wp2
  go_ret
  exact ⟨by first | rfl | (simp; done) | (simp [*]; done), by repeat (first | exact Drawn0.refl _ | apply Drawn0.step)⟩
 ·rw [if_neg c2] at H
  have c2b0 := decide_eq_false c2
  clear c2
  obtain rfl := Option.some.inj H
  go_enter Tryz.func86, Tryz.ntmps86
  go_wp2
  go_ret
  exact ⟨by first | rfl | (simp; done) | (simp [*]; done), by repeat (first | exact Drawn0.refl _ | apply Drawn0.step)⟩
mutual
def clearwayref01_PutInt.j0 : Nat → Int → Bool → Option (ByteArray × Int)
 | 0, _, _ => none
 | k + 1, x0, x11 => if x11 = true then (some ((⟨#[]⟩ : ByteArray), 10)) else ((clearwayref01_zigzag.f x0).bind fun t106 => (clearwayref01_PutInt.l0 k t106 ([] : List Int)))
def clearwayref01_PutInt.l0 : Nat → Int → List Int → Option (ByteArray × Int)
 | 0, _, _ => none
 | k + 1, x4, x5 => if x4 ≥ 128 then (if x5.length < 140737488355328 then (clearwayref01_PutInt.l0 k (IntKind.u64.wrap (Int.tdiv x4 128)) (x5 ++ [(IntKind.u64.wrap ((Int.tmod x4 128) + 128)) % 256])) else (none)) else (if x5.length < 140737488355328 then (some (strOfNums (x5 ++ [(x4) % 256]), 0)) else (none))
end
def clearwayref01_PutInt.f (k : Nat) (a0 : Int) : Option (ByteArray × Int) := if a0 < (-4611686018427387903) then (clearwayref01_PutInt.j0 k a0 true) else (clearwayref01_PutInt.j0 k a0 (decide (a0 > 4611686018427387903)))
set_option maxHeartbeats 8000000 in
set_option maxRecDepth 100000 in
theorem clearwayref01_PutInt.calls (k : Nat) (a0 : Int) (r1 : ByteArray) (r2 : Int) (w : World) (h : clearwayref01_PutInt.f k a0 = some (r1, r2)) :
  Calls Tryz.prog 56 #[.int .i64 a0] w fun e w' => e = .returned (.tuple #[.string r1, .int .i64 r2]) ∧ Below w.heap.size w w' := by
 have HB := Aside0.mk (Below.refl w.heap.size w)
 have H : (if a0 < (-4611686018427387903) then (clearwayref01_PutInt.j0 k a0 true) else (clearwayref01_PutInt.j0 k a0 (decide (a0 > 4611686018427387903)))) = some (r1, r2) := h
 clear h
 have HC2 := Aside0.mk H
 clear H
 go_enter Tryz.func56, Tryz.ntmps56
 go_upto_region 1 with (fail)
 go_cut [11] (fun v11 wc => ∃ (kq : Nat) (x11_1 : Bool), v11 = .bool x11_1 ∧ Aside0 (clearwayref01_PutInt.j0 kq a0 x11_1 = some (r1, r2)) ∧ Aside0 (kq ≤ k) ∧ Aside0 (Below w.heap.size w wc))
 case first =>
  have H := HC2.out
  clear HC2
  by_cases c3 : a0 < (-4611686018427387903)
  ·rw [if_pos c3] at H
   have c3b0 := decide_eq_true c3
   clear c3
   (first | rw [c3b0] | (simp only [i64_w, i32_w]; rw [c3b0]) | skip)
   have H' := Aside0.mk H
   clear H
   go_wp2
   go_meet
   case rel => exact ⟨_, (true), (by first | rfl | (simp; done) | (simp [*]; done)), H', ⟨by first | omega | exact Nat.le_refl _⟩, ⟨by repeat (first | (with_reducible first | exact HB.out | apply below_alloc | apply pw_below_drewN | apply below_drew1) | exact HB.out)⟩⟩
  ·rw [if_neg c3] at H
   have c3b0 := decide_eq_false c3
   clear c3
   (first | rw [c3b0] | (simp only [i64_w, i32_w]; rw [c3b0]) | skip)
   have H' := Aside0.mk H
   clear H
   go_wp2
   go_meet
   case rel => exact ⟨_, (decide (a0 > 4611686018427387903)), (by first | rfl | (simp; done) | (simp [*]; done)), H', ⟨by first | omega | exact Nat.le_refl _⟩, ⟨by repeat (first | (with_reducible first | exact HB.out | apply below_alloc | apply pw_below_drewN | apply below_drew1) | exact HB.out)⟩⟩
 case rest =>
  clear HC2
  try clear p2
  try clear c3
  try clear c3b0
  obtain ⟨kq, x11_1, rfl, HA, HJ1, HB⟩ := hcut
  cases kq with
  | zero => exact absurd HA.out (by simp [clearwayref01_PutInt.j0])
  | succ kj1 =>
   have H := HA.out
   clear HA
   simp only [clearwayref01_PutInt.j0] at H
   by_cases c4 : x11_1 = true
   ·subst c4
    have H1 : (some ((⟨#[]⟩ : ByteArray), 10)) = some (r1, r2) := by rw [if_pos rfl] at H; exact H
    clear H
    have H := H1
    clear H1
    simp only [Option.some.injEq, Prod.mk.injEq] at H
    obtain ⟨rfl, rfl⟩ := H
    go_wp2
    go_ret2
    exact ⟨by first | rfl | (simp [errW_none, errW_some] <;> rfl) | (simp [*, errW_none, errW_some] <;> rfl), by repeat (first | (with_reducible first | exact HB.out | apply below_alloc | apply pw_below_drewN | apply below_drew1) | exact HB.out)⟩
   ·replace c4 := Bool.eq_false_iff.mpr c4
    subst c4
    have H1 : ((clearwayref01_zigzag.f a0).bind fun t106 => (clearwayref01_PutInt.l0 kj1 t106 ([] : List Int))) = some (r1, r2) := by rw [if_neg (show ¬ (false = true) by decide)] at H; exact H
    clear H
    have H := H1
    clear H1
    replace H := Option.bind_eq_some_iff.mp H
    obtain ⟨t106, A50, H⟩ := H
    replace H : (clearwayref01_PutInt.l0 kj1 t106 ([] : List Int)) = some (r1, r2) := H
    have A5 := Aside0.mk A50
    clear A50
    have H' := Aside0.mk H
    clear H
    go_wp2_with (first | ((with_reducible refine gate_callee (f := 86) rfl ?_); refine goesL_ (some 13) rfl rfl Tryz.func86 (by kernel_rfl) rfl #[.int .i64 a0] rfl (by (try simp only [List.map_toArray, List.map_cons, List.map_nil]); first | done | rfl | (simp only [List.length_drop, List.length_take]; rfl)) ?_; (with_reducible refine (clearwayref01_zigzag.calls a0 t106 _ A5.out).mono ?_); rintro e w' ⟨rfl, ⟨nd, rfl⟩⟩; refine ⟨_, rfl, ?_⟩))
    go_loopg [4, 5] kj1 (fun kq v4 v5 w' => ∃ (x4_2 : Int) (x5_2 : List Int), v4 = .int .u64 x4_2 ∧ Aside0 (clearwayref01_PutInt.l0 kq x4_2 x5_2 = some (r1, r2)) ∧ Aside0 (kq ≤ kj1) ∧ Aside0 (Kd.R (Kd.int .u8) 5 w' w.heap.size (fun _ => True) v5 x5_2) ∧ Aside0 (Below w.heap.size w w'))
    case atStart => exact ⟨(t106), (([] : List Int)), (by first | rfl | (simp; done) | (simp [*]; done)), H', ⟨Nat.le_refl _⟩, ⟨by first | exact Kd.R_nil _ _ _ _ _ | exact Kd.N_nil _ _ _ _ _ | exact Kd.V_nil _ _ _ _ _ | exact Kd.Q_nil _ _ _ _ _ | exact Kd.S_nil _ _ _ _ _⟩, ⟨by repeat (first | (with_reducible first | exact HB.out | apply below_alloc | apply pw_below_drewN | apply below_drew1) | exact HB.out)⟩⟩
    case round =>
     clear H'
     try clear p2
     try clear c3
     try clear c3b0
     try clear c4
     try clear c5
     try clear p2
     obtain ⟨x4_2, x5_2, rfl, HA, HK2, HO_5, HB⟩ := hrel
     cases gk with
     | zero => exact absurd HA.out (by simp [clearwayref01_PutInt.l0])
     | succ k2 =>
      have H := HA.out
      clear HA
      simp only [clearwayref01_PutInt.l0] at H
      by_cases c6 : x4_2 ≥ 128
      ·rw [if_pos c6] at H
       have c6b0 := decide_eq_true c6
       clear c6
       by_cases c7 : x5_2.length < 140737488355328
       ·rw [if_pos c7] at H
        have LMc7 := Aside0.mk c7
        clear c7
        obtain ⟨y107, hy107⟩ : ∃ y_ : List Int, y_ = (x5_2 ++ [(IntKind.u64.wrap ((Int.tmod x4_2 128) + 128)) % 256]) := ⟨_, rfl⟩
        replace H : (clearwayref01_PutInt.l0 k2 (IntKind.u64.wrap (Int.tdiv x4_2 128)) y107) = some (r1, r2) := by first | (rw [hy107]; with_reducible exact H) | (have H2_ := (Option.bind_some _ _).symm.trans H; rw [hy107]; with_reducible exact H2_) | (have H2_ := (Option.bind_some _ _).symm.trans H; with_reducible exact H2_) | with_reducible exact H | (rw [hy107]; exact H) | exact H
        have Ny107 := Aside0.mk hy107
        clear hy107
        have H' := Aside0.mk H
        clear H
        go_wp2_with (first | ((with_reducible refine gate_builtin (b := .append) (xs := #[.tmp 16, .tmp 21]) rfl ?_); at_builtin; refine Kd.R_append (Kd.int .u8) (w0 := w) w.heap.size rfl (.tmp 16) (.tmp 21) 39 5 (.int .u8 0) 1 rfl Tryz.underlying39 info5 rfl (by decide) (by omega) u5 x5_2 ((IntKind.u64.wrap ((Int.tmod x4_2 128) + 128)) % 256) [.int .u8 ((IntKind.u64.wrap ((Int.tmod x4_2 128) + 128)) % 256)] (fun _ => True) (fun _ => False) rfl rfl ?aP (fun _ hk => hk.elim) ?aF ?aO ?aB ?aS ?aL ?_; (case aP => exact rfl); (case aB => exact (by repeat (first | (with_reducible first | exact HB.out | apply below_alloc | apply pw_below_drewN | apply below_drew1) | exact HB.out))); (case aF => exact (fun _ _ => trivial)); (case aO => exact (by (with_reducible repeat (first | apply Kd.R_alloc | apply Kd.R_drewN | apply Kd.R_drew)); exact HO_5.out)); (case aS => exact (below_size (by repeat (first | (with_reducible first | exact HB.out | apply below_alloc | apply pw_below_drewN | apply below_drew1) | exact HB.out)))); (case aL => have := LMc7.out; omega); intro v108 w8 ho hb hg hat; rw [← Ny107.out] at ho; have n0_ := Aside0.mk (hb); have n1_ := Aside0.mk (ho); clear HB; clear HO_5; have HB := n0_; have HO109 := n1_; clear n0_ n1_; clear ho hb hg hat))
        go_roundg k2
        case measure => have := HJ1.out; have := HK2.out; omega
        case rel => exact ⟨(IntKind.u64.wrap (Int.tdiv x4_2 128)), (y107), (by first | rfl | (simp; done) | (simp [*]; done)), H', ⟨by have := HJ1.out; have := HK2.out; omega⟩, ⟨by (with_reducible repeat (first | apply Kd.R_alloc | apply Kd.R_drewN | apply Kd.R_drew)); exact HO109.out⟩, ⟨by repeat (first | (with_reducible first | exact HB.out | apply below_alloc | apply pw_below_drewN | apply below_drew1) | exact HB.out)⟩⟩
       ·rw [if_neg c7] at H
        exact absurd H (by simp)
      ·rw [if_neg c6] at H
       have c6b0 := decide_eq_false c6
       clear c6
       by_cases c9 : x5_2.length < 140737488355328
       ·rw [if_pos c9] at H
        have LMc9 := Aside0.mk c9
        clear c9
        obtain ⟨y110, hy110⟩ : ∃ y_ : List Int, y_ = (x5_2 ++ [(x4_2) % 256]) := ⟨_, rfl⟩
        replace H : (some (strOfNums y110, 0)) = some (r1, r2) := by first | (rw [hy110]; with_reducible exact H) | (have H2_ := (Option.bind_some _ _).symm.trans H; rw [hy110]; with_reducible exact H2_) | (have H2_ := (Option.bind_some _ _).symm.trans H; with_reducible exact H2_) | with_reducible exact H | (rw [hy110]; exact H) | exact H
        have Ny110 := Aside0.mk hy110
        clear hy110
        simp only [Option.some.injEq, Prod.mk.injEq] at H
        obtain ⟨rfl, rfl⟩ := H
        go_wp2_with (first | ((with_reducible refine gate_builtin (b := .append) (xs := #[.tmp 25, .tmp 28]) rfl ?_); at_builtin; refine Kd.R_append (Kd.int .u8) (w0 := w) w.heap.size rfl (.tmp 25) (.tmp 28) 39 5 (.int .u8 0) 1 rfl Tryz.underlying39 info5 rfl (by decide) (by omega) u5 x5_2 ((x4_2) % 256) [.int .u8 ((x4_2) % 256)] (fun _ => True) (fun _ => False) rfl rfl ?aP (fun _ hk => hk.elim) ?aF ?aO ?aB ?aS ?aL ?_; (case aP => exact rfl); (case aB => exact (by repeat (first | (with_reducible first | exact HB.out | apply below_alloc | apply pw_below_drewN | apply below_drew1) | exact HB.out))); (case aF => exact (fun _ _ => trivial)); (case aO => exact (by (with_reducible repeat (first | apply Kd.R_alloc | apply Kd.R_drewN | apply Kd.R_drew)); exact HO_5.out)); (case aS => exact (below_size (by repeat (first | (with_reducible first | exact HB.out | apply below_alloc | apply pw_below_drewN | apply below_drew1) | exact HB.out)))); (case aL => have := LMc9.out; omega); intro v111 w10 ho hb hg hat; rw [← Ny110.out] at ho; have n0_ := Aside0.mk (hb); have n1_ := Aside0.mk (ho); clear HB; clear HO_5; have HB := n0_; have HO112 := n1_; clear n0_ n1_; clear ho hb hg hat; have hcv11 := own_string (P := Tryz.prog) Tryz.underlying39 Tryz.underlying5 Tryz.underlying9 (Kd.own_of_R HO112.out)))
        go_ret2
        exact ⟨by first | rfl | (simp [errW_none, errW_some] <;> rfl) | (simp [*, errW_none, errW_some] <;> rfl), by repeat (first | (with_reducible first | exact HB.out | apply below_alloc | apply pw_below_drewN | apply below_drew1) | exact HB.out)⟩
       ·rw [if_neg c9] at H
        exact absurd H (by simp)
def clearwayref01_PutString.f (k : Nat) (a0 : ByteArray) : Option (ByteArray × Int) := if (a0.size : Int) > 65536 then (some ((⟨#[]⟩ : ByteArray), 10)) else ((clearwayref01_PutInt.f k (a0.size : Int)).bind fun bt113 => (if bt113.1.size + a0.size ≤ 9223372036854775807 then (some (bt113.1 ++ a0, 0)) else (none)))
set_option maxHeartbeats 8000000 in
set_option maxRecDepth 100000 in
theorem clearwayref01_PutString.calls (k : Nat) (a0 : ByteArray) (r1 : ByteArray) (r2 : Int) (w : World) (h : clearwayref01_PutString.f k a0 = some (r1, r2)) :
  Calls Tryz.prog 73 #[.string a0] w fun e w' => e = .returned (.tuple #[.string r1, .int .i64 r2]) ∧ Below w.heap.size w w' := by
 have HB := Aside0.mk (Below.refl w.heap.size w)
 have H : (if (a0.size : Int) > 65536 then (some ((⟨#[]⟩ : ByteArray), 10)) else ((clearwayref01_PutInt.f k (a0.size : Int)).bind fun bt113 => (if bt113.1.size + a0.size ≤ 9223372036854775807 then (some (bt113.1 ++ a0, 0)) else (none)))) = some (r1, r2) := h
 clear h
 by_cases c2 : (a0.size : Int) > 65536
 ·rw [if_pos c2] at H
  have c2b0 := decide_eq_true c2
  have c2b1 : decide (65536 < a0.size) = true := decide_eq_true (by omega)
  clear c2
  simp only [Option.some.injEq, Prod.mk.injEq] at H
  obtain ⟨rfl, rfl⟩ := H
  go_enter Tryz.func73, Tryz.ntmps73
  go_wp2
  go_ret2
  exact ⟨by first | rfl | (simp [errW_none, errW_some] <;> rfl) | (simp [*, errW_none, errW_some] <;> rfl), by repeat (first | (with_reducible first | exact HB.out | apply below_alloc | apply pw_below_drewN | apply below_drew1) | exact HB.out)⟩
 ·rw [if_neg c2] at H
  have c2b0 := decide_eq_false c2
  have c2b1 : decide (65536 < a0.size) = false := decide_eq_false (by omega)
  clear c2
  replace H := Option.bind_eq_some_iff.mp H
  obtain ⟨⟨t113, t114⟩, A30, H⟩ := H
  replace H : (if t113.size + a0.size ≤ 9223372036854775807 then (some (t113 ++ a0, 0)) else (none)) = some (r1, r2) := H
  have A3 := Aside0.mk A30
  clear A30
  by_cases c4 : t113.size + a0.size ≤ 9223372036854775807
  ·rw [if_pos c4] at H
   have c4b0 := eq_true c4
   have c4b1 := decide_eq_true c4
   try have c4b2 : (9223372036854775807 < t113.size + a0.size) = False := eq_false (Nat.not_lt.2 c4)
   simp only [Option.some.injEq, Prod.mk.injEq] at H
   obtain ⟨rfl, rfl⟩ := H
   go_enter Tryz.func73, Tryz.ntmps73
   go_wp2_with (first | ((with_reducible refine gate_callee (f := 56) rfl ?_); refine goesL_ (some 12) rfl rfl Tryz.func56 (by kernel_rfl) rfl #[.int .i64 (a0.size : Int)] rfl (by (try simp only [List.map_toArray, List.map_cons, List.map_nil]); first | done | rfl | (simp only [List.length_drop, List.length_take]; rfl)) ?_; (with_reducible refine (clearwayref01_PutInt.calls k (a0.size : Int) t113 t114 _ A3.out).mono ?_); rintro e w5 ⟨rfl, hb⟩; refine ⟨_, rfl, ?_⟩; have n0_ := Aside0.mk (below_step (by repeat (first | (with_reducible first | exact HB.out | apply below_alloc | apply pw_below_drewN | apply below_drew1) | exact HB.out)) hb); clear HB; have HB := n0_; clear n0_; (try clear hb); (try clear hb2); (try clear hk); (try clear hi)))
   go_ret2
   exact ⟨by first | rfl | (simp [errW_none, errW_some] <;> rfl) | (simp [*, errW_none, errW_some] <;> rfl), by repeat (first | (with_reducible first | exact HB.out | apply below_alloc | apply pw_below_drewN | apply below_drew1) | exact HB.out)⟩
  ·rw [if_neg c4] at H
   exact absurd H (by simp)
end Go.Proofs.YtniegajdmbepbaaGreatDoor.Pr
namespace Go.Proofs.YtniegajdmbepbaaGreatDoor.WPure
open Go Go.RowKit Go.Proofs.YtniegajdmbepbaaGreatDoor.Wire Go.Proofs.YtniegajdmbepbaaGreatDoor.Pr Go.Proofs.YtniegajdmbepbaaGreatDoor.Code Go.Proofs.YtniegajdmbepbaaGreatDoorW.PrintWords Go.Proofs.YtniegajdmbepbaaGreatDoorW.PrintLast Go.Proofs.YtniegajdmbepbaaGreatDoorW.PrintMore
def nl (s : ByteArray) : List Nat := s.data.toList.map UInt8.toNat
theorem nl_length (s : ByteArray) : (nl s).length = s.size := by simp [nl]
theorem nl_lt (s : ByteArray) : ∀ b ∈ nl s, b < 256 := by
 intro b hb; simp only [nl, List.mem_map] at hb; obtain ⟨x, _, rfl⟩ := hb; exact x.toNat_lt
theorem nl_inj {s t : ByteArray} (h : nl s = nl t) : s = t := by
 have : s.data.toList = t.data.toList := by
  have hi : Function.Injective UInt8.toNat := fun a b h => UInt8.toNat_inj.1 h
  exact (List.map_inj_right (fun x y h => hi h)).1 h
 cases s; cases t; simp only [ByteArray.mk.injEq]; exact Array.toList_inj.1 this
theorem nl_toList {s t : ByteArray} : s.toList = t.toList ↔ s = t := by
 constructor
 ·intro h
  have : s.data.toList = t.data.toList := by simpa [ByteArray.toList_eq] using h
  exact nl_inj (by unfold nl; rw [this])
 ·rintro rfl; rfl
theorem nl_append (s t : ByteArray) : nl (s ++ t) = nl s ++ nl t := by simp [nl]
theorem nl_extract (s : ByteArray) (i j : Nat) : nl (s.extract i j) = ((nl s).take j).drop i := by
 simp only [nl, ByteArray.data_extract, Array.toList_extract, List.extract_eq_take_drop, List.map_take, List.map_drop]
 rw [List.drop_take]
theorem bt_nl (s : ByteArray) (i : Nat) (h : i < s.size) : ∃ b, bt s (i : Int) = (b : Nat) ∧ b < 256 ∧ (nl s)[i]? = some b := by
 refine ⟨(s[i]'h).toNat, ?_, (s[i]'h).toNat_lt, ?_⟩
 ·unfold bt; simp [h]
 ·simp only [nl, List.getElem?_map]
  rw [List.getElem?_eq_getElem (by simpa using h)]
  rfl
theorem and127 (z : Nat) (hz : z < 18446744073709551616) : Go.bits .and .u64 (z : Int) 127 % 256 = ((z % 128 : Nat) : Int) := by
 rw [show (127 : Int) = ((127 : Nat) : Int) from rfl, (Bits.u64 z 127 hz (by decide)).1, show (127 : Nat) = 2 ^ 7 - 1 from rfl, Nat.and_two_pow_sub_one_eq_mod]
 omega
theorem or128 (a : Nat) (ha : a < 128) : Go.bits .or .u8 (a : Int) 128 = ((a + 128 : Nat) : Int) := by
 rw [show (128 : Int) = ((128 : Nat) : Int) from rfl, (Bits.u8 a 128 (by omega) (by decide)).2.1, Nat.or_comm]
 have := Nat.two_pow_add_eq_or_of_lt (i := 7) (b := a) (by omega) 1
 simp only [Nat.reducePow, Nat.mul_one] at this
 rw [← this]; congr 1; omega
theorem byte_lo (z : Nat) (h : z < 128) : Wire.byteOf (Wire.grp (z : Int)) = (z : Int) := by
 unfold Wire.byteOf Wire.grp
 rw [decide_eq_true (show (z : Int) < 128 by omega), if_pos rfl]
 show Go.bits .and .u64 (z : Int) 127 % 256 = _
 rw [and127 z (by omega), Nat.mod_eq_of_lt h]
theorem byte_hi (z : Nat) (h : ¬ z < 128) (hz : z < 18446744073709551616) : Wire.byteOf (Wire.grp (z : Int)) = ((z % 128 + 128 : Nat) : Int) := by
 unfold Wire.byteOf Wire.grp
 rw [decide_eq_false (show ¬ (z : Int) < 128 by omega), if_neg (by simp)]
 show Go.bits .or .u8 (Go.bits .and .u64 (z : Int) 127 % 256) 128 = _
 rw [and127 z hz, or128 _ (by omega)]
theorem bytes_eq (j : Nat) : ∀ z : Nat, z < 128 ^ (j + 1) → z < 18446744073709551616 → List.map Wire.byteOf (Wire.groups (j + 1) (z : Int)) = (encN z).map (fun n : Nat => (n : Int)) := by
 induction j with
 | zero =>
  intro z hz h64
  have h1 : z < 128 := by simpa using hz
  rw [encN_lo h1, Wire.groups, if_pos (show (z : Int) < 128 by omega), List.map_cons, byte_lo z h1]
  rfl
 | succ j ih =>
  intro z hz h64
  by_cases h1 : z < 128
  ·rw [encN_lo h1, Wire.groups, if_pos (show (z : Int) < 128 by omega), List.map_cons, byte_lo z h1]
   rfl
  ·rw [encN_hi h1, Wire.groups, if_neg (show ¬ (z : Int) < 128 by omega), List.map_cons, List.map_cons, byte_hi z h1 h64]
   have := ih (z / 128) (by rw [Nat.pow_succ] at hz; omega) (by omega)
   rw [show ((z : Int) / 128) = ((z / 128 : Nat) : Int) by omega, this]
theorem nl_strOf (l : List Nat) (h : ∀ b ∈ l, b < 256) : nl (strOfNums (l.map fun n : Nat => (n : Int))) = l := by
 unfold nl
 rw [strOfNums_data]
 rw [List.map_map, List.map_map]
 conv => rhs; rw [← List.map_id l]
 refine List.map_congr_left fun b hb => ?_
 have := h b hb
 simp only [Function.comp, Int.toNat_natCast, id]
 rw [UInt8.toNat_ofNat_of_lt' (by simpa using this)]
theorem zz_zzn (n : Int) : Wire.zz n = (zzn n : Nat) := by unfold Wire.zz zzn; split <;> omega
theorem leb_nl {n : Int} (h0 : -maxInt ≤ n) (h1 : n ≤ maxInt) : nl (Wire.leb (Wire.zz n)) = enc n := by
 have hz := zzn_lt h0 h1
 unfold Wire.leb
 rw [zz_zzn, bytes_eq 8 (zzn n) (by simpa using hz) (by simp only [Nat.reducePow] at hz; omega), nl_strOf _ (encN_lt _)]
 rfl
theorem putInt_in {n : Int} (h0 : -maxInt ≤ n) (h1 : n ≤ maxInt) : ∃ s, wire_PutInt.f n = some (s, 0) ∧ nl s = enc n := by
 refine ⟨_, ?_, leb_nl h0 h1⟩
 unfold wire_PutInt.f
 unfold maxInt at h0 h1
 rw [if_neg (by omega), if_neg (by omega)]
theorem putInt_out {n : Int} (h : n < -maxInt ∨ maxInt < n) : wire_PutInt.f n = some (⟨#[]⟩, 10) := by
 unfold wire_PutInt.f
 unfold maxInt at h
 by_cases h1 : n < -4611686018427387903
 ·rw [if_pos h1]
 ·rw [if_neg h1, if_pos (by omega)]
theorem w64 {n : Int} (h0 : -9223372036854775808 ≤ n) (h1 : n ≤ 9223372036854775807) : wrap64 n = n := by unfold wrap64; omega
theorem join (i z b : Nat) (hi : i < 9) (hz : z < 128 ^ i) : Go.bits .or .u64 (z : Int) (shl .u64 (IntKind.u64.wrap (Go.bits .and .u8 (b : Int) 127)) (7 * (i : Int))) = ((z + b % 128 * 128 ^ i : Nat) : Int) ∨ 256 ≤ b := by
 by_cases hb : 256 ≤ b
 ·exact .inr hb
 refine .inl ?_
 have e1 : Go.bits .and .u8 (b : Int) 127 = ((b % 128 : Nat) : Int) := by
  rw [show (127 : Int) = ((127 : Nat) : Int) from rfl, (Bits.u8 b 127 (by omega) (by decide)).1, show (127 : Nat) = 2 ^ 7 - 1 from rfl, Nat.and_two_pow_sub_one_eq_mod]
 have hp : (128 : Nat) ^ i = 2 ^ (7 * i) := by rw [show (128 : Nat) = 2 ^ 7 from rfl, ← Nat.pow_mul]
 have hp8 : (128 : Nat) ^ i ≤ 128 ^ 8 := Nat.pow_le_pow_right (by decide) (by omega)
 simp only [Nat.reducePow] at hp8
 have hlt : b % 128 * 128 ^ i < 9223372036854775808 := by
  have := Nat.mul_le_mul (show b % 128 ≤ 127 by omega) hp8
  omega
 have e2 : shl .u64 (IntKind.u64.wrap (Go.bits .and .u8 (b : Int) 127)) (7 * (i : Int)) = ((b % 128 * 128 ^ i : Nat) : Int) := by
  rw [e1, IntKind.wrap_u64]
  unfold shl
  rw [show min (7 * (i : Int)).toNat (IntKind.bits .u64) = 7 * i by simp [IntKind.bits]; omega, IntKind.wrap_u64]
  rw [show ((b % 128 : Nat) : Int) % 18446744073709551616 = ((b % 128 : Nat) : Int) by omega]
  have : ((b % 128 : Nat) : Int) * 2 ^ (7 * i) = ((b % 128 * 128 ^ i : Nat) : Int) := by rw [hp]; push_cast; rfl
  rw [this]
  omega
 rw [e2]
 have e3 := (Bits.u64 z (b % 128 * 128 ^ i) (by have : z < 128 ^ i := hz; omega) (by omega)).2.1
 rw [e3, Nat.or_comm]
 have := Nat.two_pow_add_eq_or_of_lt (i := 7 * i) (b := z) (by rw [← hp]; exact hz) (b % 128)
 rw [hp, Nat.mul_comm (b % 128), ← this, Nat.add_comm]
theorem unzig (Z : Nat) (hZ : Z < 9223372036854775808) : Go.bits .xor .i64 (wrap64 ((Z : Int) / 2)) (wrap64 (-(wrap64 (Go.bits .and .u64 (Z : Int) 1)))) = unz Z := by
 have e1 : Go.bits .and .u64 (Z : Int) 1 = ((Z % 2 : Nat) : Int) := by
  rw [show (1 : Int) = ((1 : Nat) : Int) from rfl, (Bits.u64 Z 1 (by omega) (by decide)).1, Nat.and_one_is_mod]
 rw [e1, w64 (n := ((Z % 2 : Nat) : Int)) (by omega) (by omega), w64 (n := (Z : Int) / 2) (by omega) (by omega), w64 (n := -((Z % 2 : Nat) : Int)) (by omega) (by omega)]
 unfold unz
 by_cases h : Z % 2 = 0
 ·rw [if_pos h, h]
  show Go.bits .xor .i64 ((Z : Int) / 2) 0 = _
  rw [Bits.i64_xor0 _ (by omega) (by omega)]
  omega
 ·rw [if_neg h, show Z % 2 = 1 by omega]
  show Go.bits .xor .i64 ((Z : Int) / 2) (-1) = _
  rw [Bits.i64_not _ (by omega) (by omega)]
  omega
theorem w64_add (a i : Nat) (h : a + i ≤ 9223372036854775807) : wrap64 ((a : Int) + (i : Int)) = ((a + i : Nat) : Int) := by rw [w64 (by omega) (by omega)]; omega
theorem w64_one (a : Nat) (h : a ≤ 9223372036854775806) : wrap64 ((a : Int) + 1) = ((a + 1 : Nat) : Int) := by rw [w64 (by omega) (by omega)]; omega
theorem w64_seven (i : Nat) (h : i ≤ 100) : wrap64 (7 * (i : Int)) = 7 * (i : Int) := w64 (by omega) (by omega)
def resI (a : Nat) : Option (Int × Nat) → Int × Int × Int
 | none => (0, 0, 10)
 | some (n, c) => (n, ((a + c : Nat) : Int), 0)
theorem int_loop (s : ByteArray) (a : Nat) (hs : s.size ≤ 4611686018427387904) (ha : a ≤ s.size) (f : Nat) : ∀ (i z k : Nat), f + i = 9 → z < 128 ^ i → f < k → a + i ≤ s.size + 9 →
  wire_Int.l0 k s (a : Int) (z : Int) (i : Int) = some (resI a (decF f i z ((nl s).drop (a + i)))) := by
 induction f with
 | zero =>
  intro i z k hf hz hk _
  obtain ⟨k, rfl⟩ : ∃ m, k = m + 1 := ⟨k - 1, by omega⟩
  rw [decF_zero]
  simp only [wire_Int.l0]
  rw [if_neg (by omega)]
  rfl
 | succ f ih =>
  intro i z k hf hz hk hle
  obtain ⟨k, rfl⟩ : ∃ m, k = m + 1 := ⟨k - 1, by omega⟩
  have h19 : (i : Int) < 9 := by omega
  simp only [wire_Int.l0]
  rw [if_pos h19, w64_add a i (by omega)]
  by_cases hlt : a + i < s.size
  ·obtain ⟨b, hb, hb2, hb3⟩ := bt_nl s (a + i) hlt
   have hd : (nl s).drop (a + i) = b :: (nl s).drop (a + (i + 1)) := by
    rw [List.drop_eq_getElem_cons (by rw [nl_length]; exact hlt)]
    congr 1
    have := List.getElem?_eq_getElem (l := nl s) (i := a + i) (by rw [nl_length]; exact hlt)
    rw [hb3] at this
    exact (Option.some.inj this).symm
   have hp8 : (128 : Nat) ^ i ≤ 128 ^ 8 := Nat.pow_le_pow_right (by decide) (by omega)
   have hps : (128 : Nat) ^ (i + 1) ≤ 128 ^ 9 := Nat.pow_le_pow_right (by decide) (by omega)
   have hZ : z + b % 128 * 128 ^ i < 128 ^ (i + 1) := by
    rw [Nat.pow_succ]
    have := Nat.mul_le_mul (show b % 128 ≤ 127 by omega) (Nat.le_refl (128 ^ i))
    omega
   simp only [Nat.reducePow] at hps
   have hZ2 : z + b % 128 * 128 ^ i < 9223372036854775808 := by omega
   have t1 : ¬ ((a + i : Nat) : Int) ≥ (s.size : Int) := by omega
   have t2 : 0 ≤ ((a + i : Nat) : Int) := by omega
   have t3 : ((a + i : Nat) : Int) < (s.size : Int) := by omega
   have t4 : 0 ≤ 7 * (i : Int) := by omega
   have t5 : i < 9 := by omega
   have t6 : ¬ 256 ≤ b := by omega
   have t7 : i ≤ 100 := by omega
   have t8 : i ≤ 9223372036854775806 := by omega
   have t9 : a + i ≤ 9223372036854775806 := by omega
   rw [if_neg t1, if_pos t2, if_pos t3, w64_seven i t7, if_pos t4, hb, (join i z b t5 hz).resolve_right t6, hd, unzig (z + b % 128 * 128 ^ i) hZ2, w64_one i t8, w64_one (a + i) t9]
   by_cases h128 : 128 ≤ b
   ·rw [if_pos (by omega)]
    simp only [decF]
    rw [if_pos h128]
    exact ih (i + 1) _ k (by omega) hZ (by omega) (by omega)
   ·rw [if_neg (by omega)]
    simp only [decF]
    have hm : b % 128 = b := by omega
    rw [if_neg h128]
    rw [hm]
    by_cases hb0 : b = 0
    ·subst hb0
     by_cases hi : 0 < i
     ·rw [if_pos (show ((0 : Nat) : Int) = 0 from rfl), if_pos (show (i : Int) > 0 by omega), if_pos ⟨rfl, hi⟩]; rfl
     ·rw [if_pos (show ((0 : Nat) : Int) = 0 from rfl), if_neg (show ¬ (i : Int) > 0 by omega), if_neg (show ¬ ((0 : Nat) = 0 ∧ 0 < i) by omega)]
      by_cases hn : unz (z + 0 * 128 ^ i) < -maxInt
      ·rw [if_pos hn]; unfold maxInt at hn; rw [if_pos hn]; rfl
      ·rw [if_neg hn]; unfold maxInt at hn; rw [if_neg hn]; rfl
    ·rw [if_neg (show ¬ (b : Int) = 0 by omega), if_neg (show ¬ (b = 0 ∧ 0 < i) by omega)]
     by_cases hn : unz (z + b * 128 ^ i) < -maxInt
     ·rw [if_pos hn]; unfold maxInt at hn; rw [if_pos hn]; rfl
     ·rw [if_neg hn]; unfold maxInt at hn; rw [if_neg hn]; rfl
  ·rw [if_pos (by omega), List.drop_eq_nil_of_le (by rw [nl_length]; omega), decF_nil]
   rfl
theorem int_eq (s : ByteArray) (a k : Nat) (hs : s.size ≤ 4611686018427387904) (ha : a ≤ s.size) (hk : 11 ≤ k) :
  wire_Int.f k s (a : Int) = some (resI a (dec ((nl s).drop a))) := by
 obtain ⟨k, rfl⟩ : ∃ m, k = m + 1 := ⟨k - 1, by omega⟩
 unfold wire_Int.f
 rw [if_neg (by omega)]
 simp only [wire_Int.j0]
 rw [decide_eq_false (by omega), if_neg (by decide)]
 exact int_loop s a hs ha 9 0 0 k rfl (by decide) (by omega) (by omega)
theorem int_arg (s : ByteArray) (at_ : Int) (k : Nat) (h : at_ < 0 ∨ (s.size : Int) < at_) (hk : 11 ≤ k) : wire_Int.f k s at_ = some (0, 0, 2) := by
 obtain ⟨k, rfl⟩ : ∃ m, k = m + 1 := ⟨k - 1, by omega⟩
 unfold wire_Int.f
 by_cases h0 : at_ < 0
 ·rw [if_pos h0]; simp only [wire_Int.j0]; rw [if_pos trivial]
 ·rw [if_neg h0]; simp only [wire_Int.j0]; rw [decide_eq_true (by omega)]; simp only [if_true]
theorem putString_in {s : ByteArray} (h : s.size ≤ 65536) : ∃ r, wire_PutString.f s = some (r, 0) ∧ nl r = enc s.size ++ nl s := by
 obtain ⟨r, hr, hn⟩ := putInt_in (n := (s.size : Int)) (by unfold maxInt; omega) (by unfold maxInt; omega)
 have hl : r.size ≤ 9 := by rw [← nl_length, hn]; exact enc_len (by unfold maxInt; omega) (by unfold maxInt; omega)
 refine ⟨r ++ s, ?_, by rw [nl_append, hn]⟩
 unfold wire_PutString.f
 rw [if_neg (by omega), hr]
 simp only [Option.bind_some]
 rw [if_pos (by omega)]
def resS (s : ByteArray) (a : Nat) : Option (Int × Nat) → ByteArray × Int × Int
 | none => (⟨#[]⟩, 0, 10)
 | some (n, c) => if 0 ≤ n ∧ n ≤ 65536 ∧ n ≤ (s.size : Int) - (a + c : Nat) then (s.extract (a + c) (a + c + n.toNat), ((a + c + n.toNat : Nat) : Int), 0) else (⟨#[]⟩, 0, 10)
theorem string_eq (s : ByteArray) (a k : Nat) (hs : s.size ≤ 4611686018427387904) (ha : a ≤ s.size) (hk : 11 ≤ k) :
  wire_String.f k s (a : Int) = some (resS s a (dec ((nl s).drop a))) := by
 unfold wire_String.f
 rw [int_eq s a k hs ha hk]
 simp only [Option.bind_some]
 cases hd : dec ((nl s).drop a) with
 | none => rw [show resI a none = (0, 0, 10) from rfl]; dsimp only; rw [if_neg (by decide)]; rfl
 | some p =>
  obtain ⟨n, c⟩ := p
  obtain ⟨q1, q2, _, q4, q5⟩ := dec_some (fun b hb => nl_lt s b (List.mem_of_mem_drop hb)) hd
  rw [List.length_drop, nl_length] at q2
  rw [show resI a (some (n, c)) = (n, ((a + c : Nat) : Int), 0) from rfl]
  dsimp only
  rw [if_pos rfl]
  unfold resS
  dsimp only
  have e1 : wrap64 ((s.size : Int) - ((a + c : Nat) : Int)) = (s.size : Int) - ((a + c : Nat) : Int) := w64 (by omega) (by omega)
  unfold maxInt at q4 q5
  rw [e1]
  by_cases h0 : n < 0
  ·rw [if_pos h0, if_neg (by omega)]
  ·rw [if_neg h0]
   by_cases h1 : n > 65536
   ·rw [if_pos h1, if_neg (by omega)]
   ·rw [if_neg h1]
    by_cases h2 : n > (s.size : Int) - ((a + c : Nat) : Int)
    ·rw [if_pos h2, if_neg (by omega)]
    ·clear e1
     have e2 : wrap64 (((a + c : Nat) : Int) + n) = ((a + c + n.toNat : Nat) : Int) := by rw [w64 (by omega) (by omega)]; omega
     have t1 : (0 : Int) ≤ ((a + c : Nat) : Int) := by omega
     have t2 : ((a + c : Nat) : Int) ≤ ((a + c + n.toNat : Nat) : Int) := by omega
     have t3 : ((a + c + n.toNat : Nat) : Int) ≤ (s.size : Int) := by omega
     have t4 : 0 ≤ n ∧ n ≤ 65536 ∧ n ≤ (s.size : Int) - ((a + c : Nat) : Int) := by omega
     rw [if_neg h2, e2, if_pos t1, if_pos t2, if_pos t3, if_pos t4]
     rfl
open Go Go.RowKit Go.PlainAid Go.Proofs.YtniegajdmbepbaaGreatDoor.Wire Go.Proofs.YtniegajdmbepbaaGreatDoor.Pr Go.Proofs.YtniegajdmbepbaaGreatDoor.Code Go.Proofs.YtniegajdmbepbaaGreatDoorW.PrintWords Go.Proofs.YtniegajdmbepbaaGreatDoorW.PrintLast Go.Proofs.YtniegajdmbepbaaGreatDoorW.PrintMore
theorem zigzag_eq {n : Int} (h0 : -maxInt ≤ n) (h1 : n ≤ maxInt) : clearwayref01_zigzag.f n = some ((zzn n : Nat) : Int) := by
 unfold maxInt at h0 h1
 unfold clearwayref01_zigzag.f zzn
 by_cases h : n < 0
 ·rw [if_pos h, if_pos h, w64 (n := -n) (by omega) (by omega), u64_nonneg (n := -n) (by omega) (by omega), u64_nonneg (n := -n * 2) (by omega) (by omega), u64_nonneg (n := -n * 2 - 1) (by omega) (by omega)]
  congr 1; omega
 ·rw [if_neg h, if_neg h, u64_nonneg (n := n) (by omega) (by omega), u64_nonneg (n := n * 2) (by omega) (by omega)]
  congr 1; omega
theorem refPut_loop (j : Nat) : ∀ (z k : Nat) (xs : List Int), z < 128 ^ (j + 1) → z < 18446744073709551616 → j < k → xs.length + j < 100 →
  clearwayref01_PutInt.l0 k (z : Int) xs = some (strOfNums (xs ++ (encN z).map (fun n : Nat => (n : Int))), 0) := by
 induction j with
 | zero =>
  intro z k xs hz h64 hk hx
  obtain ⟨k, rfl⟩ : ∃ m, k = m + 1 := ⟨k - 1, by omega⟩
  have h1 : z < 128 := by simpa using hz
  simp only [clearwayref01_PutInt.l0]
  rw [if_neg (by omega), if_pos (by omega), encN_lo h1, show (z : Int) % 256 = (z : Int) by omega]
  rfl
 | succ j ih =>
  intro z k xs hz h64 hk hx
  obtain ⟨k, rfl⟩ : ∃ m, k = m + 1 := ⟨k - 1, by omega⟩
  simp only [clearwayref01_PutInt.l0]
  by_cases h1 : z < 128
  ·rw [if_neg (by omega), if_pos (by omega), encN_lo h1, show (z : Int) % 256 = (z : Int) by omega]
   rfl
  ·have e1 : Int.tdiv (z : Int) 128 = ((z / 128 : Nat) : Int) := by rw [Int.tdiv_eq_ediv_of_nonneg (by omega)]; omega
   have e2 : Int.tmod (z : Int) 128 = ((z % 128 : Nat) : Int) := by rw [Int.tmod_eq_emod_of_nonneg (by omega)]; omega
   rw [if_pos (by omega), if_pos (by omega), e1, e2, u64_nonneg (n := ((z / 128 : Nat) : Int)) (by omega) (by omega), u64_nonneg (n := ((z % 128 : Nat) : Int) + 128) (by omega) (by omega)]
   rw [show (((z % 128 : Nat) : Int) + 128) % 256 = ((z % 128 + 128 : Nat) : Int) by omega, ih (z / 128) k _ (by rw [Nat.pow_succ] at hz; omega) (by omega) (by omega) (by simp; omega), encN_hi h1]
   simp
theorem refPut_in {n : Int} (h0 : -maxInt ≤ n) (h1 : n ≤ maxInt) (k : Nat) (hk : 11 ≤ k) : ∃ s, clearwayref01_PutInt.f k n = some (s, 0) ∧ nl s = enc n := by
 obtain ⟨k, rfl⟩ : ∃ m, k = m + 1 := ⟨k - 1, by omega⟩
 have hz := zzn_lt h0 h1
 have h64 : zzn n < 18446744073709551616 := by simp only [Nat.reducePow] at hz; omega
 refine ⟨strOfNums ((encN (zzn n)).map (fun n : Nat => (n : Int))), ?_, by rw [nl_strOf _ (encN_lt _)]; rfl⟩
 unfold clearwayref01_PutInt.f
 have g0 : ¬ n < -4611686018427387903 := by unfold maxInt at h0; omega
 have g1 : decide (n > 4611686018427387903) = false := decide_eq_false (by unfold maxInt at h1; omega)
 rw [if_neg g0, g1]
 simp only [clearwayref01_PutInt.j0]
 rw [if_neg (by decide), zigzag_eq h0 h1]
 simp only [Option.bind_some]
 have := refPut_loop 8 (zzn n) k [] (by simpa using hz) h64 (by omega) (by simp)
 rw [this]
 rfl
theorem refPut_out {n : Int} (h : n < -maxInt ∨ maxInt < n) (k : Nat) (hk : 11 ≤ k) : clearwayref01_PutInt.f k n = some (⟨#[]⟩, 10) := by
 obtain ⟨k, rfl⟩ : ∃ m, k = m + 1 := ⟨k - 1, by omega⟩
 unfold maxInt at h
 unfold clearwayref01_PutInt.f
 by_cases h1 : n < -4611686018427387903
 ·rw [if_pos h1]; simp only [clearwayref01_PutInt.j0]; simp only [if_true]
 ·rw [if_neg h1, decide_eq_true (show n > 4611686018427387903 by omega)]; simp only [clearwayref01_PutInt.j0]; simp only [if_true]
theorem put_same (n : Int) (k : Nat) (hk : 11 ≤ k) : clearwayref01_PutInt.f k n = wire_PutInt.f n := by
 by_cases h : -maxInt ≤ n ∧ n ≤ maxInt
 ·obtain ⟨s, hs, es⟩ := refPut_in h.1 h.2 k hk
  obtain ⟨t, ht, et⟩ := putInt_in h.1 h.2
  rw [hs, ht, nl_inj (es.trans et.symm)]
 ·rw [refPut_out (by omega) k hk, putInt_out (by omega)]
def refF : Nat → Nat → Nat → List Nat → Option (Int × Nat)
 | _, _, _, [] => none
 | 0, _, _, _ :: _ => none
 | f + 1, i, z, b :: l => if 128 ≤ b then refF f (i + 1) (z + b % 128 * 128 ^ i) l else some (unz (z + b * 128 ^ i), i + 1)
theorem ref_of_dec (f : Nat) : ∀ (i z : Nat) (l : List Nat) (p : Int × Nat), decF f i z l = some p → refF f i z l = some p := by
 induction f with
 | zero => intro i z l p h; rw [decF_zero] at h; cases h
 | succ f ih =>
  intro i z l p h
  cases l with
  | nil => cases h
  | cons b l =>
   simp only [decF] at h
   simp only [refF]
   by_cases h1 : 128 ≤ b
   ·rw [if_pos h1] at h ⊢; exact ih _ _ _ _ h
   ·rw [if_neg h1] at h ⊢
    split at h
    ·cases h
    ·split at h
     ·cases h
     ·exact h
theorem refF_nil (f i z : Nat) : refF f i z [] = none := by cases f <;> rfl
theorem refF_zero (i z : Nat) (l : List Nat) : refF 0 i z l = none := by cases l <;> rfl
def resR (s : ByteArray) (a : Nat) : Option (Int × Nat) → Int × Int × Int
 | none => (0, 0, 10)
 | some (n, c) => if (-maxInt ≤ n ∧ n ≤ maxInt) ∧ enc n = nl (s.extract a (a + c)) then (n, ((a + c : Nat) : Int), 0) else (0, 0, 10)
theorem res_same (s : ByteArray) (a : Nat) (ha : a ≤ s.size) : resR s a (refF 9 0 0 ((nl s).drop a)) = resI a (dec ((nl s).drop a)) := by
 have hb : ∀ b ∈ (nl s).drop a, b < 256 := fun b hb => nl_lt s b (List.mem_of_mem_drop hb)
 have ex : ∀ c, nl (s.extract a (a + c)) = ((nl s).drop a).take c := by
  intro c; rw [nl_extract, List.drop_take]; congr 1; omega
 cases hd : dec ((nl s).drop a) with
 | some p =>
  obtain ⟨n, c⟩ := p
  have hr : refF 9 0 0 ((nl s).drop a) = some (n, c) := ref_of_dec 9 0 0 _ _ hd
  obtain ⟨q1, q2, q3, q4, q5⟩ := dec_some hb hd
  rw [hr]
  show (if _ then _ else _) = _
  rw [if_pos ⟨⟨q4, q5⟩, by rw [ex, q3]⟩]
  rfl
 | none =>
  cases hr : refF 9 0 0 ((nl s).drop a) with
  | none => rfl
  | some p =>
   obtain ⟨n, c⟩ := p
   show (if _ then _ else _) = _
   rw [if_neg]
   ·rfl
   ·rintro ⟨⟨h0, h1⟩, h2⟩
    rw [ex] at h2
    have h3 : (nl s).drop a = enc n ++ ((nl s).drop a).drop c := by rw [h2]; exact (List.take_append_drop c _).symm
    rw [h3, dec_enc h0 h1] at hd
    cases hd
end Go.Proofs.YtniegajdmbepbaaGreatDoor.WPure
