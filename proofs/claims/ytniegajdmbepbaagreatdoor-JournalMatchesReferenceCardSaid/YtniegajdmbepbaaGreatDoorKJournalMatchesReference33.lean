/- The contracts of functions, written by this session's program (wip/pp.py): what the list functions answer, the code comes to. No condition. The reference's Int, String and PutString answer what the program's functions answer. No condition but sizes. -/
import Derived.Test.YtniegajdmbepbaaGreatDoorProg
import Derived.Below
import Derived.Deep.Draws
import Derived.Deep.AppendLies
import Derived.Maps.AppendAt
import Derived.OwnWalk
import Derived.Laws.BytesArg
import Derived.Laws.MakeOwn
import Derived.Laws.OwnMore
import Derived.Deep.OwnRows
import Derived.Tactics
import Derived.Lib.ConvBytes
import Derived.Laws.Slices
import Derived.WalkKit
import Derived.KernelRfl
import Derived.RowKit3
import Derived.Deep.LoopGhost
import Derived.Deep.QuietTactic
import Derived.BigQuiet
import Derived.WideLaws
import Derived.Deep.DeepCutAuto
import Derived.Deep.CutBlock
import Derived.Deep.RegionHeld3
import Derived.Laws.Rows
import Derived.Lib.AppendStr
import Derived.ArgAppend
import Derived.Laws.IdiomCopy
import Derived.OrdersHeld
import Derived.Laws.BitsLemmas
import Derived.RowKit
import Derived.Test.YtniegajdmbepbaaGreatDoorKJournalMatchesReference30
import Derived.Test.YtniegajdmbepbaaGreatDoorKJournalMatchesReference22
import Derived.Test.YtniegajdmbepbaaGreatDoorKJournalMatchesReference2
import Derived.Test.YtniegajdmbepbaaGreatDoorKJournalMatchesReference9
import Derived.Test.YtniegajdmbepbaaGreatDoorKJournalMatchesReference10
set_option linter.unusedSimpArgs false
set_option linter.unusedVariables false
namespace Go.Proofs.YtniegajdmbepbaaGreatDoor.Rw
open Go.RowKit Go.Proofs.YtniegajdmbepbaaGreatDoor.Dm Go.Proofs.YtniegajdmbepbaaGreatDoor.Pr Go.Proofs.YtniegajdmbepbaaGreatDoorW.PrintWords Go.Proofs.YtniegajdmbepbaaGreatDoorW.PrintLast Go.Proofs.YtniegajdmbepbaaGreatDoorW.PrintMore
attribute [local go_sem] max2_int min2_int max_two min_two max_three min_three max_four min_four   -- for this text's walks alone
def errW : Option Int → Value
  | none => .nilIface
  | some c => .iface 0 (.int .i64 c)
theorem errW_none : errW none = .nilIface := rfl
theorem errW_some (c : Int) : errW (some c) = .iface 0 (.int .i64 c) := rfl
-- the values' own types
open Go.RowKit Go.Proofs.YtniegajdmbepbaaGreatDoor.Dm Go.Proofs.YtniegajdmbepbaaGreatDoor.Pr Go.Proofs.YtniegajdmbepbaaGreatDoorW.PrintWords Go.Proofs.YtniegajdmbepbaaGreatDoorW.PrintLast Go.Proofs.YtniegajdmbepbaaGreatDoorW.PrintMore
attribute [local go_sem] max2_int min2_int max_two min_two max_three min_three max_four min_four   -- for this text's walks alone
def clearwayref29_Stored.f (k : Nat) (a0 : ByteArray) (a1 : ByteArray) : Option (ByteArray × ByteArray) := (clearwayref02_Chain.f k a0 a1).bind fun t101 => ((clearwayref01_PutString.f k a1).bind fun bt102 => (if 1 + bt102.1.size ≤ 9223372036854775807 then (if ((⟨#[1]⟩ : ByteArray) ++ bt102.1).size + t101.size ≤ 9223372036854775807 then (some (((⟨#[1]⟩ : ByteArray) ++ bt102.1) ++ t101, t101)) else (none)) else (none)))
set_option maxHeartbeats 8000000 in
set_option maxRecDepth 100000 in
theorem clearwayref29_Stored.calls (k : Nat) (a0 : ByteArray) (a1 : ByteArray) (r1 : ByteArray) (r2 : ByteArray) (w : World) (h : clearwayref29_Stored.f k a0 a1 = some (r1, r2)) :
  Calls Tryz.prog 44 #[.string a0, .string a1] w fun e w' => e = .returned (.tuple #[.string r1, .string r2]) ∧ Below w.heap.size w w' := by
 have HB := Aside0.mk (Below.refl w.heap.size w)
 have H : ((clearwayref02_Chain.f k a0 a1).bind fun t101 => ((clearwayref01_PutString.f k a1).bind fun bt102 => (if 1 + bt102.1.size ≤ 9223372036854775807 then (if ((⟨#[1]⟩ : ByteArray) ++ bt102.1).size + t101.size ≤ 9223372036854775807 then (some (((⟨#[1]⟩ : ByteArray) ++ bt102.1) ++ t101, t101)) else (none)) else (none)))) = some (r1, r2) := h
 clear h
 replace H := Option.bind_eq_some_iff.mp H
 obtain ⟨t101, A30, H⟩ := H
 replace H : ((clearwayref01_PutString.f k a1).bind fun bt102 => (if 1 + bt102.1.size ≤ 9223372036854775807 then (if ((⟨#[1]⟩ : ByteArray) ++ bt102.1).size + t101.size ≤ 9223372036854775807 then (some (((⟨#[1]⟩ : ByteArray) ++ bt102.1) ++ t101, t101)) else (none)) else (none))) = some (r1, r2) := H
 have A3 := Aside0.mk A30
 clear A30
 replace H := Option.bind_eq_some_iff.mp H
 obtain ⟨⟨t102, t103⟩, A40, H⟩ := H
 replace H : (if 1 + t102.size ≤ 9223372036854775807 then (if ((⟨#[1]⟩ : ByteArray) ++ t102).size + t101.size ≤ 9223372036854775807 then (some (((⟨#[1]⟩ : ByteArray) ++ t102) ++ t101, t101)) else (none)) else (none)) = some (r1, r2) := H
 have A4 := Aside0.mk A40
 clear A40
 by_cases c5 : 1 + t102.size ≤ 9223372036854775807
 ·rw [if_pos c5] at H
  have c5b0 := eq_true c5
  have c5b1 := decide_eq_true c5
  try have c5b2 : (9223372036854775807 < 1 + t102.size) = False := eq_false (Nat.not_lt.2 c5)
  by_cases c6 : ((⟨#[1]⟩ : ByteArray) ++ t102).size + t101.size ≤ 9223372036854775807
  ·rw [if_pos c6] at H
   have c6b0 := eq_true c6
   have c6b1 := decide_eq_true c6
   try have c6b2 : (9223372036854775807 < ((⟨#[1]⟩ : ByteArray) ++ t102).size + t101.size) = False := eq_false (Nat.not_lt.2 c6)
   simp only [Option.some.injEq, Prod.mk.injEq] at H
   obtain ⟨rfl, rfl⟩ := H
   go_enter Tryz.func44, Tryz.ntmps44
   go_wp2_with (first | ((with_reducible refine gate_callee (f := 57) rfl ?_); refine goesL_ (some 11) rfl rfl Tryz.func57 (by kernel_rfl) rfl #[.string a0, .string a1] rfl (by (try simp only [List.map_toArray, List.map_cons, List.map_nil]); first | done | rfl | (simp only [List.length_drop, List.length_take]; rfl)) ?_; (with_reducible refine (clearwayref02_Chain.calls k a0 a1 t101 _ A3.out).mono ?_); rintro e w7 ⟨rfl, hb⟩; refine ⟨_, rfl, ?_⟩; have n0_ := Aside0.mk (below_step (by repeat (first | (with_reducible first | exact HB.out | apply below_alloc | apply pw_below_drewN | apply below_drew1) | exact HB.out)) hb); clear HB; have HB := n0_; clear n0_; (try clear hb); (try clear hb2); (try clear hk); (try clear hi)) | ((with_reducible refine gate_callee (f := 73) rfl ?_); refine goesL_ (some 14) rfl rfl Tryz.func73 (by kernel_rfl) rfl #[.string a1] rfl (by (try simp only [List.map_toArray, List.map_cons, List.map_nil]); first | done | rfl | (simp only [List.length_drop, List.length_take]; rfl)) ?_; (with_reducible refine (clearwayref01_PutString.calls k a1 t102 t103 _ A4.out).mono ?_); rintro e w8 ⟨rfl, hb⟩; refine ⟨_, rfl, ?_⟩; have n0_ := Aside0.mk (below_step (by repeat (first | (with_reducible first | exact HB.out | apply below_alloc | apply pw_below_drewN | apply below_drew1) | exact HB.out)) hb); clear HB; have HB := n0_; clear n0_; (try clear hb); (try clear hb2); (try clear hk); (try clear hi)))
   go_ret2
   exact ⟨by first | rfl | (simp [errW_none, errW_some] <;> rfl) | (simp [*, errW_none, errW_some] <;> rfl), by repeat (first | (with_reducible first | exact HB.out | apply below_alloc | apply pw_below_drewN | apply below_drew1) | exact HB.out)⟩
  ·rw [if_neg c6] at H
   exact absurd H (by simp)
 ·rw [if_neg c5] at H
  exact absurd H (by simp)
mutual
def clearwayref01_Int.j0 : Nat → ByteArray → Int → Bool → Option (Int × Int × Int)
 | 0, _, _, _ => none
 | k + 1, x0, x1, x20 => if x20 = true then (some (0, 0, 2)) else (clearwayref01_Int.l0 k x0 x1 0 0)
def clearwayref01_Int.l0 : Nat → ByteArray → Int → Int → Int → Option (Int × Int × Int)
 | 0, _, _, _, _ => none
 | k + 1, x0, x1, x7, x8 => if x8 < 9 then (clearwayref01_Int.j2 k x0 x1 x7 x8 (decide ((wrap64 (x1 + x8)) < (x0.size : Int)))) else (clearwayref01_Int.j2 k x0 x1 x7 x8 false)
def clearwayref01_Int.j2 : Nat → ByteArray → Int → Int → Int → Bool → Option (Int × Int × Int)
 | 0, _, _, _, _, _ => none
 | k + 1, x0, x1, x7, x8, x30 => if x30 = true then (if 0 ≤ (wrap64 (x1 + x8)) then (if (wrap64 (x1 + x8)) < (x0.size : Int) then (if 0 ≤ (wrap64 (7 * x8)) then (if (IntKind.u64.wrap (bt x0 (wrap64 (x1 + x8)))) ≥ 128 then (clearwayref01_Int.l0 k x0 x1 (IntKind.u64.wrap (x7 + (shl .u64 (Int.tmod (IntKind.u64.wrap (bt x0 (wrap64 (x1 + x8)))) 128) (wrap64 (7 * x8))))) (wrap64 (x8 + 1))) else (if (Int.tmod (IntKind.u64.wrap (x7 + (shl .u64 (Int.tmod (IntKind.u64.wrap (bt x0 (wrap64 (x1 + x8)))) 128) (wrap64 (7 * x8))))) 2) = 1 then ((clearwayref01_PutInt.f k (wrap64 ((wrap64 (-(wrap64 (IntKind.u64.wrap (Int.tdiv (IntKind.u64.wrap (x7 + (shl .u64 (Int.tmod (IntKind.u64.wrap (bt x0 (wrap64 (x1 + x8)))) 128) (wrap64 (7 * x8))))) 2))))) - 1))).bind fun bt104 => (if bt104.2 = 0 then (if 0 ≤ x1 then (if x1 ≤ (wrap64 ((wrap64 (x1 + x8)) + 1)) then (if (wrap64 ((wrap64 (x1 + x8)) + 1)) ≤ (x0.size : Int) then (if bt104.1.toList = (x0.extract (x1 : Int).toNat ((wrap64 ((wrap64 (x1 + x8)) + 1)) : Int).toNat).toList then (some (wrap64 ((wrap64 (-(wrap64 (IntKind.u64.wrap (Int.tdiv (IntKind.u64.wrap (x7 + (shl .u64 (Int.tmod (IntKind.u64.wrap (bt x0 (wrap64 (x1 + x8)))) 128) (wrap64 (7 * x8))))) 2))))) - 1), wrap64 ((wrap64 (x1 + x8)) + 1), 0)) else (some (0, 0, 10))) else (none)) else (none)) else (none)) else (some (0, 0, 10)))) else ((clearwayref01_PutInt.f k (wrap64 (IntKind.u64.wrap (Int.tdiv (IntKind.u64.wrap (x7 + (shl .u64 (Int.tmod (IntKind.u64.wrap (bt x0 (wrap64 (x1 + x8)))) 128) (wrap64 (7 * x8))))) 2)))).bind fun bt106 => (if bt106.2 = 0 then (if 0 ≤ x1 then (if x1 ≤ (wrap64 ((wrap64 (x1 + x8)) + 1)) then (if (wrap64 ((wrap64 (x1 + x8)) + 1)) ≤ (x0.size : Int) then (if bt106.1.toList = (x0.extract (x1 : Int).toNat ((wrap64 ((wrap64 (x1 + x8)) + 1)) : Int).toNat).toList then (some (wrap64 (IntKind.u64.wrap (Int.tdiv (IntKind.u64.wrap (x7 + (shl .u64 (Int.tmod (IntKind.u64.wrap (bt x0 (wrap64 (x1 + x8)))) 128) (wrap64 (7 * x8))))) 2)), wrap64 ((wrap64 (x1 + x8)) + 1), 0)) else (some (0, 0, 10))) else (none)) else (none)) else (none)) else (some (0, 0, 10)))))) else (none)) else (none)) else (none)) else (some (0, 0, 10))
end
def clearwayref01_Int.f (k : Nat) (a0 : ByteArray) (a1 : Int) : Option (Int × Int × Int) := if a1 < 0 then (clearwayref01_Int.j0 k a0 a1 true) else (clearwayref01_Int.j0 k a0 a1 (decide (a1 > (a0.size : Int))))
set_option maxHeartbeats 8000000 in
set_option maxRecDepth 100000 in
theorem clearwayref01_Int.calls (k : Nat) (a0 : ByteArray) (a1 : Int) (r1 : Int) (r2 : Int) (r3 : Int) (w : World) (h : clearwayref01_Int.f k a0 a1 = some (r1, r2, r3)) :
  Calls Tryz.prog 97 #[.string a0, .int .i64 a1] w fun e w' => e = .returned (.tuple #[.int .i64 r1, .int .i64 r2, .int .i64 r3]) ∧ Below w.heap.size w w' := by
 have HB := Aside0.mk (Below.refl w.heap.size w)
 have H : (if a1 < 0 then (clearwayref01_Int.j0 k a0 a1 true) else (clearwayref01_Int.j0 k a0 a1 (decide (a1 > (a0.size : Int))))) = some (r1, r2, r3) := h
 clear h
 have HC3 := Aside0.mk H
 clear H
 go_enter Tryz.func97, Tryz.ntmps97
 go_upto_region 1 with (fail)
 go_cut [20] (fun v20 wc => ∃ (kq : Nat) (x20_2 : Bool), v20 = .bool x20_2 ∧ Aside0 (clearwayref01_Int.j0 kq a0 a1 x20_2 = some (r1, r2, r3)) ∧ Aside0 (kq ≤ k) ∧ Aside0 (Below w.heap.size w wc))
 case first =>
  have H := HC3.out
  clear HC3
  by_cases c4 : a1 < 0
  ·rw [if_pos c4] at H
   have c4b0 := decide_eq_true c4
   clear c4
   (first | rw [c4b0] | (simp only [i64_w, i32_w]; rw [c4b0]) | skip)
   have H' := Aside0.mk H
   clear H
   go_wp2
   go_meet
   case rel => exact ⟨_, (true), (by first | rfl | (simp; done) | (simp [*]; done)), H', ⟨by first | omega | exact Nat.le_refl _⟩, ⟨by repeat (first | (with_reducible first | exact HB.out | apply below_alloc | apply pw_below_drewN | apply below_drew1) | exact HB.out)⟩⟩
  ·rw [if_neg c4] at H
   have c4b0 := decide_eq_false c4
   clear c4
   (first | rw [c4b0] | (simp only [i64_w, i32_w]; rw [c4b0]) | skip)
   have H' := Aside0.mk H
   clear H
   go_wp2
   go_meet
   case rel => exact ⟨_, (decide (a1 > (a0.size : Int))), (by first | rfl | (simp; done) | (simp [*]; done)), H', ⟨by first | omega | exact Nat.le_refl _⟩, ⟨by repeat (first | (with_reducible first | exact HB.out | apply below_alloc | apply pw_below_drewN | apply below_drew1) | exact HB.out)⟩⟩
 case rest =>
  clear HC3
  try clear p2
  try clear c4
  try clear c4b0
  obtain ⟨kq, x20_2, rfl, HA, HJ2, HB⟩ := hcut
  cases kq with
  | zero => exact absurd HA.out (by simp [clearwayref01_Int.j0])
  | succ kj2 =>
   have H := HA.out
   clear HA
   simp only [clearwayref01_Int.j0] at H
   by_cases c5 : x20_2 = true
   ·subst c5
    have H1 : (some (0, 0, 2)) = some (r1, r2, r3) := by rw [if_pos rfl] at H; exact H
    clear H
    have H := H1
    clear H1
    simp only [Option.some.injEq, Prod.mk.injEq] at H
    obtain ⟨rfl, rfl, rfl⟩ := H
    go_wp2
    go_ret3
    exact ⟨by first | rfl | (simp [errW_none, errW_some] <;> rfl) | (simp [*, errW_none, errW_some] <;> rfl), by repeat (first | (with_reducible first | exact HB.out | apply below_alloc | apply pw_below_drewN | apply below_drew1) | exact HB.out)⟩
   ·replace c5 := Bool.eq_false_iff.mpr c5
    subst c5
    have H1 : (clearwayref01_Int.l0 kj2 a0 a1 0 0) = some (r1, r2, r3) := by rw [if_neg (show ¬ (false = true) by decide)] at H; exact H
    clear H
    have H := H1
    clear H1
    have H' := Aside0.mk H
    clear H
    go_wp2
    go_loopg [7, 8] kj2 (fun kq v7 v8 w' => ∃ (x7_2 : Int) (x8_2 : Int), v7 = .int .u64 x7_2 ∧ v8 = .int .i64 x8_2 ∧ Aside0 (clearwayref01_Int.l0 kq a0 a1 x7_2 x8_2 = some (r1, r2, r3)) ∧ Aside0 (kq ≤ kj2) ∧ Aside0 (Below w.heap.size w w'))
    case atStart => exact ⟨(0), (0), (by first | rfl | (simp; done) | (simp [*]; done)), (by first | rfl | (simp; done) | (simp [*]; done)), H', ⟨Nat.le_refl _⟩, ⟨by repeat (first | (with_reducible first | exact HB.out | apply below_alloc | apply pw_below_drewN | apply below_drew1) | exact HB.out)⟩⟩
    case round =>
     clear H'
     try clear p2
     try clear c4
     try clear c4b0
     try clear c5
     try clear p2
     obtain ⟨x7_2, x8_2, rfl, rfl, HA, HK2, HB⟩ := hrel
     cases gk with
     | zero => exact absurd HA.out (by simp [clearwayref01_Int.l0])
     | succ k2 =>
      have H := HA.out
      clear HA
      simp only [clearwayref01_Int.l0] at H
      have HC6 := Aside0.mk H
      clear H
      go_upto_region 5 with (fail)
      go_cut [30] (fun v30 wc => ∃ (kq : Nat) (x30_5 : Bool), v30 = .bool x30_5 ∧ Aside0 (clearwayref01_Int.j2 kq a0 a1 x7_2 x8_2 x30_5 = some (r1, r2, r3)) ∧ Aside0 (kq ≤ k2) ∧ Aside0 (Below w.heap.size w wc))
      case first =>
       have H := HC6.out
       clear HC6
       by_cases c7 : x8_2 < 9
       ·rw [if_pos c7] at H
        have c7b0 := decide_eq_true c7
        clear c7
        (first | rw [c7b0] | (simp only [i64_w, i32_w]; rw [c7b0]) | skip)
        have H' := Aside0.mk H
        clear H
        go_wp2
        go_meet
        case rel => exact ⟨_, (decide ((wrap64 (a1 + x8_2)) < (a0.size : Int))), (by first | rfl | (simp; done) | (simp [*]; done)), H', ⟨by have := HJ2.out; have := HK2.out; first | omega | exact Nat.le_refl _⟩, ⟨by repeat (first | (with_reducible first | exact HB.out | apply below_alloc | apply pw_below_drewN | apply below_drew1) | exact HB.out)⟩⟩
       ·rw [if_neg c7] at H
        have c7b0 := decide_eq_false c7
        clear c7
        (first | rw [c7b0] | (simp only [i64_w, i32_w]; rw [c7b0]) | skip)
        have H' := Aside0.mk H
        clear H
        go_wp2
        go_meet
        case rel => exact ⟨_, (false), (by first | rfl | (simp; done) | (simp [*]; done)), H', ⟨by have := HJ2.out; have := HK2.out; first | omega | exact Nat.le_refl _⟩, ⟨by repeat (first | (with_reducible first | exact HB.out | apply below_alloc | apply pw_below_drewN | apply below_drew1) | exact HB.out)⟩⟩
      case rest =>
       clear HC6
       try clear p2
       try clear c4
       try clear c4b0
       try clear c5
       try clear p6
       try clear c7
       try clear c7b0
       try clear p2
       obtain ⟨kq, x30_5, rfl, HA, HJ5, HB⟩ := hcut
       cases kq with
       | zero => exact absurd HA.out (by simp [clearwayref01_Int.j2])
       | succ kj5 =>
        have H := HA.out
        clear HA
        simp only [clearwayref01_Int.j2] at H
        by_cases c8 : x30_5 = true
        ·subst c8
         have H1 : (if 0 ≤ (wrap64 (a1 + x8_2)) then (if (wrap64 (a1 + x8_2)) < (a0.size : Int) then (if 0 ≤ (wrap64 (7 * x8_2)) then (if (IntKind.u64.wrap (bt a0 (wrap64 (a1 + x8_2)))) ≥ 128 then (clearwayref01_Int.l0 kj5 a0 a1 (IntKind.u64.wrap (x7_2 + (shl .u64 (Int.tmod (IntKind.u64.wrap (bt a0 (wrap64 (a1 + x8_2)))) 128) (wrap64 (7 * x8_2))))) (wrap64 (x8_2 + 1))) else (if (Int.tmod (IntKind.u64.wrap (x7_2 + (shl .u64 (Int.tmod (IntKind.u64.wrap (bt a0 (wrap64 (a1 + x8_2)))) 128) (wrap64 (7 * x8_2))))) 2) = 1 then ((clearwayref01_PutInt.f kj5 (wrap64 ((wrap64 (-(wrap64 (IntKind.u64.wrap (Int.tdiv (IntKind.u64.wrap (x7_2 + (shl .u64 (Int.tmod (IntKind.u64.wrap (bt a0 (wrap64 (a1 + x8_2)))) 128) (wrap64 (7 * x8_2))))) 2))))) - 1))).bind fun bt104 => (if bt104.2 = 0 then (if 0 ≤ a1 then (if a1 ≤ (wrap64 ((wrap64 (a1 + x8_2)) + 1)) then (if (wrap64 ((wrap64 (a1 + x8_2)) + 1)) ≤ (a0.size : Int) then (if bt104.1.toList = (a0.extract (a1 : Int).toNat ((wrap64 ((wrap64 (a1 + x8_2)) + 1)) : Int).toNat).toList then (some (wrap64 ((wrap64 (-(wrap64 (IntKind.u64.wrap (Int.tdiv (IntKind.u64.wrap (x7_2 + (shl .u64 (Int.tmod (IntKind.u64.wrap (bt a0 (wrap64 (a1 + x8_2)))) 128) (wrap64 (7 * x8_2))))) 2))))) - 1), wrap64 ((wrap64 (a1 + x8_2)) + 1), 0)) else (some (0, 0, 10))) else (none)) else (none)) else (none)) else (some (0, 0, 10)))) else ((clearwayref01_PutInt.f kj5 (wrap64 (IntKind.u64.wrap (Int.tdiv (IntKind.u64.wrap (x7_2 + (shl .u64 (Int.tmod (IntKind.u64.wrap (bt a0 (wrap64 (a1 + x8_2)))) 128) (wrap64 (7 * x8_2))))) 2)))).bind fun bt106 => (if bt106.2 = 0 then (if 0 ≤ a1 then (if a1 ≤ (wrap64 ((wrap64 (a1 + x8_2)) + 1)) then (if (wrap64 ((wrap64 (a1 + x8_2)) + 1)) ≤ (a0.size : Int) then (if bt106.1.toList = (a0.extract (a1 : Int).toNat ((wrap64 ((wrap64 (a1 + x8_2)) + 1)) : Int).toNat).toList then (some (wrap64 (IntKind.u64.wrap (Int.tdiv (IntKind.u64.wrap (x7_2 + (shl .u64 (Int.tmod (IntKind.u64.wrap (bt a0 (wrap64 (a1 + x8_2)))) 128) (wrap64 (7 * x8_2))))) 2)), wrap64 ((wrap64 (a1 + x8_2)) + 1), 0)) else (some (0, 0, 10))) else (none)) else (none)) else (none)) else (some (0, 0, 10)))))) else (none)) else (none)) else (none)) = some (r1, r2, r3) := by rw [if_pos rfl] at H; exact H
         clear H
         have H := H1
         clear H1
         obtain ⟨ji9, hji9⟩ : ∃ j_ : Int, (wrap64 (a1 + x8_2)) = j_ := ⟨_, rfl⟩
         replace H : (if 0 ≤ (ji9) then (if (ji9) < (a0.size : Int) then (if 0 ≤ (wrap64 (7 * x8_2)) then (if (IntKind.u64.wrap (bt a0 (ji9))) ≥ 128 then (clearwayref01_Int.l0 kj5 a0 a1 (IntKind.u64.wrap (x7_2 + (shl .u64 (Int.tmod (IntKind.u64.wrap (bt a0 (ji9))) 128) (wrap64 (7 * x8_2))))) (wrap64 (x8_2 + 1))) else (if (Int.tmod (IntKind.u64.wrap (x7_2 + (shl .u64 (Int.tmod (IntKind.u64.wrap (bt a0 (ji9))) 128) (wrap64 (7 * x8_2))))) 2) = 1 then ((clearwayref01_PutInt.f kj5 (wrap64 ((wrap64 (-(wrap64 (IntKind.u64.wrap (Int.tdiv (IntKind.u64.wrap (x7_2 + (shl .u64 (Int.tmod (IntKind.u64.wrap (bt a0 (ji9))) 128) (wrap64 (7 * x8_2))))) 2))))) - 1))).bind fun bt104 => (if bt104.2 = 0 then (if 0 ≤ a1 then (if a1 ≤ (wrap64 ((ji9) + 1)) then (if (wrap64 ((ji9) + 1)) ≤ (a0.size : Int) then (if bt104.1.toList = (a0.extract (a1 : Int).toNat ((wrap64 ((ji9) + 1)) : Int).toNat).toList then (some (wrap64 ((wrap64 (-(wrap64 (IntKind.u64.wrap (Int.tdiv (IntKind.u64.wrap (x7_2 + (shl .u64 (Int.tmod (IntKind.u64.wrap (bt a0 (ji9))) 128) (wrap64 (7 * x8_2))))) 2))))) - 1), wrap64 ((ji9) + 1), 0)) else (some (0, 0, 10))) else (none)) else (none)) else (none)) else (some (0, 0, 10)))) else ((clearwayref01_PutInt.f kj5 (wrap64 (IntKind.u64.wrap (Int.tdiv (IntKind.u64.wrap (x7_2 + (shl .u64 (Int.tmod (IntKind.u64.wrap (bt a0 (ji9))) 128) (wrap64 (7 * x8_2))))) 2)))).bind fun bt106 => (if bt106.2 = 0 then (if 0 ≤ a1 then (if a1 ≤ (wrap64 ((ji9) + 1)) then (if (wrap64 ((ji9) + 1)) ≤ (a0.size : Int) then (if bt106.1.toList = (a0.extract (a1 : Int).toNat ((wrap64 ((ji9) + 1)) : Int).toNat).toList then (some (wrap64 (IntKind.u64.wrap (Int.tdiv (IntKind.u64.wrap (x7_2 + (shl .u64 (Int.tmod (IntKind.u64.wrap (bt a0 (ji9))) 128) (wrap64 (7 * x8_2))))) 2)), wrap64 ((ji9) + 1), 0)) else (some (0, 0, 10))) else (none)) else (none)) else (none)) else (some (0, 0, 10)))))) else (none)) else (none)) else (none)) = some (r1, r2, r3) := by first | (rw [hji9] at H; exact H) | (simp only [hji9] at H ⊢; exact H)
         have hji9w : (IntKind.i64.wrap (a1 + x8_2)) = ji9 := (i64_w _).trans hji9
         by_cases c10 : 0 ≤ (ji9)
         ·rw [if_pos c10] at H
          have c10b0 := decide_eq_true c10
          clear c10
          by_cases c11 : (ji9) < (a0.size : Int)
          ·rw [if_pos c11] at H
           have c11b0 := decide_eq_true c11
           clear c11
           obtain ⟨ji13, hji13⟩ : ∃ j_ : Int, (wrap64 (7 * x8_2)) = j_ := ⟨_, rfl⟩
           replace H : (if 0 ≤ (ji13) then (if (IntKind.u64.wrap (bt a0 (ji9))) ≥ 128 then (clearwayref01_Int.l0 kj5 a0 a1 (IntKind.u64.wrap (x7_2 + (shl .u64 (Int.tmod (IntKind.u64.wrap (bt a0 (ji9))) 128) (ji13)))) (wrap64 (x8_2 + 1))) else (if (Int.tmod (IntKind.u64.wrap (x7_2 + (shl .u64 (Int.tmod (IntKind.u64.wrap (bt a0 (ji9))) 128) (ji13)))) 2) = 1 then ((clearwayref01_PutInt.f kj5 (wrap64 ((wrap64 (-(wrap64 (IntKind.u64.wrap (Int.tdiv (IntKind.u64.wrap (x7_2 + (shl .u64 (Int.tmod (IntKind.u64.wrap (bt a0 (ji9))) 128) (ji13)))) 2))))) - 1))).bind fun bt104 => (if bt104.2 = 0 then (if 0 ≤ a1 then (if a1 ≤ (wrap64 ((ji9) + 1)) then (if (wrap64 ((ji9) + 1)) ≤ (a0.size : Int) then (if bt104.1.toList = (a0.extract (a1 : Int).toNat ((wrap64 ((ji9) + 1)) : Int).toNat).toList then (some (wrap64 ((wrap64 (-(wrap64 (IntKind.u64.wrap (Int.tdiv (IntKind.u64.wrap (x7_2 + (shl .u64 (Int.tmod (IntKind.u64.wrap (bt a0 (ji9))) 128) (ji13)))) 2))))) - 1), wrap64 ((ji9) + 1), 0)) else (some (0, 0, 10))) else (none)) else (none)) else (none)) else (some (0, 0, 10)))) else ((clearwayref01_PutInt.f kj5 (wrap64 (IntKind.u64.wrap (Int.tdiv (IntKind.u64.wrap (x7_2 + (shl .u64 (Int.tmod (IntKind.u64.wrap (bt a0 (ji9))) 128) (ji13)))) 2)))).bind fun bt106 => (if bt106.2 = 0 then (if 0 ≤ a1 then (if a1 ≤ (wrap64 ((ji9) + 1)) then (if (wrap64 ((ji9) + 1)) ≤ (a0.size : Int) then (if bt106.1.toList = (a0.extract (a1 : Int).toNat ((wrap64 ((ji9) + 1)) : Int).toNat).toList then (some (wrap64 (IntKind.u64.wrap (Int.tdiv (IntKind.u64.wrap (x7_2 + (shl .u64 (Int.tmod (IntKind.u64.wrap (bt a0 (ji9))) 128) (ji13)))) 2)), wrap64 ((ji9) + 1), 0)) else (some (0, 0, 10))) else (none)) else (none)) else (none)) else (some (0, 0, 10)))))) else (none)) = some (r1, r2, r3) := by first | (rw [hji13] at H; exact H) | (simp only [hji13] at H ⊢; exact H)
           have hji13w : (IntKind.i64.wrap (7 * x8_2)) = ji13 := (i64_w _).trans hji13
           by_cases c14 : 0 ≤ (ji13)
           ·rw [if_pos c14] at H
            have c14b0 := eq_true c14
            have c14b1 := decide_eq_true c14
            clear c14
            obtain ⟨ji15, hji15⟩ : ∃ j_ : Int, (shl .u64 (Int.tmod (IntKind.u64.wrap (bt a0 (ji9))) 128) (ji13)) = j_ := ⟨_, rfl⟩
            replace H : (if (IntKind.u64.wrap (bt a0 (ji9))) ≥ 128 then (clearwayref01_Int.l0 kj5 a0 a1 (IntKind.u64.wrap (x7_2 + (ji15))) (wrap64 (x8_2 + 1))) else (if (Int.tmod (IntKind.u64.wrap (x7_2 + (ji15))) 2) = 1 then ((clearwayref01_PutInt.f kj5 (wrap64 ((wrap64 (-(wrap64 (IntKind.u64.wrap (Int.tdiv (IntKind.u64.wrap (x7_2 + (ji15))) 2))))) - 1))).bind fun bt104 => (if bt104.2 = 0 then (if 0 ≤ a1 then (if a1 ≤ (wrap64 ((ji9) + 1)) then (if (wrap64 ((ji9) + 1)) ≤ (a0.size : Int) then (if bt104.1.toList = (a0.extract (a1 : Int).toNat ((wrap64 ((ji9) + 1)) : Int).toNat).toList then (some (wrap64 ((wrap64 (-(wrap64 (IntKind.u64.wrap (Int.tdiv (IntKind.u64.wrap (x7_2 + (ji15))) 2))))) - 1), wrap64 ((ji9) + 1), 0)) else (some (0, 0, 10))) else (none)) else (none)) else (none)) else (some (0, 0, 10)))) else ((clearwayref01_PutInt.f kj5 (wrap64 (IntKind.u64.wrap (Int.tdiv (IntKind.u64.wrap (x7_2 + (ji15))) 2)))).bind fun bt106 => (if bt106.2 = 0 then (if 0 ≤ a1 then (if a1 ≤ (wrap64 ((ji9) + 1)) then (if (wrap64 ((ji9) + 1)) ≤ (a0.size : Int) then (if bt106.1.toList = (a0.extract (a1 : Int).toNat ((wrap64 ((ji9) + 1)) : Int).toNat).toList then (some (wrap64 (IntKind.u64.wrap (Int.tdiv (IntKind.u64.wrap (x7_2 + (ji15))) 2)), wrap64 ((ji9) + 1), 0)) else (some (0, 0, 10))) else (none)) else (none)) else (none)) else (some (0, 0, 10)))))) = some (r1, r2, r3) := by first | (rw [hji15] at H; exact H) | (simp only [hji15] at H ⊢; exact H)
            have hji15_ : (IntKind.u64.wrap ((Int.tmod (IntKind.u64.wrap (bt a0 (ji9))) 128) * 2 ^ min (ji13).toNat 64)) = ji15 := hji15
            have hji15z : (ji13) ≤ 64 → (IntKind.u64.wrap ((Int.tmod (IntKind.u64.wrap (bt a0 (ji9))) 128) * 2 ^ (ji13).toNat)) = ji15 := shl_small hji15
            by_cases c16 : (IntKind.u64.wrap (bt a0 (ji9))) ≥ 128
            ·rw [if_pos c16] at H
             have c16b0 := decide_eq_true c16
             clear c16
             have H' := Aside0.mk H
             clear H
             have p12 : 0 ≤ ((ji9) : Int) := of_decide_eq_true (by first | (with_reducible assumption) | assumption)
             have q12 : (ji9) < (a0.size : Int) := of_decide_eq_true (by first | (with_reducible assumption) | assumption)
             have hx12 := bt_at a0 (ji9)
             replace p12 := eq_true p12
             replace q12 := eq_true q12
             go_wp2
             go_roundg kj5
             case measure => have := HJ2.out; have := HK2.out; have := HJ5.out; omega
             case rel => exact ⟨(IntKind.u64.wrap (x7_2 + (ji15))), (wrap64 (x8_2 + 1)), (by first | rfl | (simp; done) | (simp only [← hji15] <;> (first | rfl | simp)) | (simp [*]; done)), (by first | rfl | (simp; done) | (simp [*]; done)), H', ⟨by have := HJ2.out; have := HK2.out; have := HJ5.out; omega⟩, ⟨by repeat (first | (with_reducible first | exact HB.out | apply below_alloc | apply pw_below_drewN | apply below_drew1) | exact HB.out)⟩⟩
            ·rw [if_neg c16] at H
             have c16b0 := decide_eq_false c16
             clear c16
             by_cases c17 : (Int.tmod (IntKind.u64.wrap (x7_2 + (ji15))) 2) = 1
             ·rw [if_pos c17] at H
              have c17b0 : ((Int.tmod (IntKind.u64.wrap (x7_2 + (ji15))) 2) == 1) = true := beq_iff_eq.mpr c17
              have c17b1 : ((Int.tmod (IntKind.u64.wrap (x7_2 + (ji15))) 2) != 1) = false := bne_eq_false_iff_eq.mpr c17
              clear c17
              replace H := Option.bind_eq_some_iff.mp H
              obtain ⟨⟨t104, t105⟩, A180, H⟩ := H
              replace H : (if t105 = 0 then (if 0 ≤ a1 then (if a1 ≤ (wrap64 ((ji9) + 1)) then (if (wrap64 ((ji9) + 1)) ≤ (a0.size : Int) then (if t104.toList = (a0.extract (a1 : Int).toNat ((wrap64 ((ji9) + 1)) : Int).toNat).toList then (some (wrap64 ((wrap64 (-(wrap64 (IntKind.u64.wrap (Int.tdiv (IntKind.u64.wrap (x7_2 + (ji15))) 2))))) - 1), wrap64 ((ji9) + 1), 0)) else (some (0, 0, 10))) else (none)) else (none)) else (none)) else (some (0, 0, 10))) = some (r1, r2, r3) := H
              have A18 := Aside0.mk A180
              clear A180
              by_cases c19 : t105 = 0
              ·rw [if_pos c19] at H
               have c19b0 : (t105 == 0) = true := beq_iff_eq.mpr c19
               have c19b1 : (t105 != 0) = false := bne_eq_false_iff_eq.mpr c19
               clear c19
               by_cases c20 : 0 ≤ a1
               ·rw [if_pos c20] at H
                have c20b0 := eq_true c20
                have c20b1 := decide_eq_true c20
                clear c20
                by_cases c21 : a1 ≤ (wrap64 ((ji9) + 1))
                ·rw [if_pos c21] at H
                 have c21b0 := eq_true c21
                 have c21b1 := decide_eq_true c21
                 by_cases c22 : (wrap64 ((ji9) + 1)) ≤ (a0.size : Int)
                 ·rw [if_pos c22] at H
                  have c22b0 := eq_true c22
                  have c22b1 := decide_eq_true c22
                  by_cases c23 : t104.toList = (a0.extract (a1 : Int).toNat ((wrap64 ((ji9) + 1)) : Int).toNat).toList
                  ·rw [if_pos c23] at H
                   have c23b0 : (t104.toList == (a0.extract (a1 : Int).toNat ((wrap64 ((ji9) + 1)) : Int).toNat).toList) = true := beq_iff_eq.mpr c23
                   have c23b1 : (t104.toList != (a0.extract (a1 : Int).toNat ((wrap64 ((ji9) + 1)) : Int).toNat).toList) = false := bne_eq_false_iff_eq.mpr c23
                   clear c23
                   simp only [Option.some.injEq, Prod.mk.injEq] at H
                   obtain ⟨rfl, rfl, rfl⟩ := H
                   have p12 : 0 ≤ ((ji9) : Int) := of_decide_eq_true (by first | (with_reducible assumption) | assumption)
                   have q12 : (ji9) < (a0.size : Int) := of_decide_eq_true (by first | (with_reducible assumption) | assumption)
                   have hx12 := bt_at a0 (ji9)
                   replace p12 := eq_true p12
                   replace q12 := eq_true q12
                   go_wp2_with (first | ((with_reducible refine gate_callee (f := 56) rfl ?_); refine goesL_ (some 59) rfl rfl Tryz.func56 (by kernel_rfl) rfl #[.int .i64 (wrap64 ((wrap64 (-(wrap64 (IntKind.u64.wrap (Int.tdiv (IntKind.u64.wrap (x7_2 + (ji15))) 2))))) - 1))] rfl (by (try simp only [List.map_toArray, List.map_cons, List.map_nil]); first | done | (simp only [hji15]; rfl) | rfl | (simp only [List.length_drop, List.length_take]; rfl)) ?_; (with_reducible refine (clearwayref01_PutInt.calls kj5 (wrap64 ((wrap64 (-(wrap64 (IntKind.u64.wrap (Int.tdiv (IntKind.u64.wrap (x7_2 + (ji15))) 2))))) - 1)) t104 t105 _ A18.out).mono ?_); rintro e w24 ⟨rfl, hb⟩; refine ⟨_, rfl, ?_⟩; have n0_ := Aside0.mk (below_step (by repeat (first | (with_reducible first | exact HB.out | apply below_alloc | apply pw_below_drewN | apply below_drew1) | exact HB.out)) hb); clear HB; have HB := n0_; clear n0_; (try clear hb); (try clear hb2); (try clear hk); (try clear hi)))
                   go_ret3
                   exact ⟨by first | rfl | (simp [errW_none, errW_some] <;> rfl) | (simp only [← hji9, ← hji13, ← hji15]; first | rfl | (simp [errW_none, errW_some] <;> rfl)) | (simp [*, errW_none, errW_some] <;> rfl), by repeat (first | (with_reducible first | exact HB.out | apply below_alloc | apply pw_below_drewN | apply below_drew1) | exact HB.out)⟩
                  ·rw [if_neg c23] at H
                   have c23b0 : (t104.toList == (a0.extract (a1 : Int).toNat ((wrap64 ((ji9) + 1)) : Int).toNat).toList) = false := beq_eq_false_iff_ne.mpr c23
                   have c23b1 : (t104.toList != (a0.extract (a1 : Int).toNat ((wrap64 ((ji9) + 1)) : Int).toNat).toList) = true := bne_iff_ne.mpr c23
                   simp only [Option.some.injEq, Prod.mk.injEq] at H
                   obtain ⟨rfl, rfl, rfl⟩ := H
                   have p12 : 0 ≤ ((ji9) : Int) := of_decide_eq_true (by first | (with_reducible assumption) | assumption)
                   have q12 : (ji9) < (a0.size : Int) := of_decide_eq_true (by first | (with_reducible assumption) | assumption)
                   have hx12 := bt_at a0 (ji9)
                   replace p12 := eq_true p12
                   replace q12 := eq_true q12
                   go_wp2_with (first | ((with_reducible refine gate_callee (f := 56) rfl ?_); refine goesL_ (some 59) rfl rfl Tryz.func56 (by kernel_rfl) rfl #[.int .i64 (wrap64 ((wrap64 (-(wrap64 (IntKind.u64.wrap (Int.tdiv (IntKind.u64.wrap (x7_2 + (ji15))) 2))))) - 1))] rfl (by (try simp only [List.map_toArray, List.map_cons, List.map_nil]); first | done | (simp only [hji15]; rfl) | rfl | (simp only [List.length_drop, List.length_take]; rfl)) ?_; (with_reducible refine (clearwayref01_PutInt.calls kj5 (wrap64 ((wrap64 (-(wrap64 (IntKind.u64.wrap (Int.tdiv (IntKind.u64.wrap (x7_2 + (ji15))) 2))))) - 1)) t104 t105 _ A18.out).mono ?_); rintro e w25 ⟨rfl, hb⟩; refine ⟨_, rfl, ?_⟩; have n0_ := Aside0.mk (below_step (by repeat (first | (with_reducible first | exact HB.out | apply below_alloc | apply pw_below_drewN | apply below_drew1) | exact HB.out)) hb); clear HB; have HB := n0_; clear n0_; (try clear hb); (try clear hb2); (try clear hk); (try clear hi)))
                   go_ret3
                   exact ⟨by first | rfl | (simp [errW_none, errW_some] <;> rfl) | (simp only [← hji9, ← hji13, ← hji15]; first | rfl | (simp [errW_none, errW_some] <;> rfl)) | (simp [*, errW_none, errW_some] <;> rfl), by repeat (first | (with_reducible first | exact HB.out | apply below_alloc | apply pw_below_drewN | apply below_drew1) | exact HB.out)⟩
                 ·rw [if_neg c22] at H
                  exact absurd H (by simp)
                ·rw [if_neg c21] at H
                 exact absurd H (by simp)
               ·rw [if_neg c20] at H
                exact absurd H (by simp)
              ·rw [if_neg c19] at H
               have c19b0 : (t105 == 0) = false := beq_eq_false_iff_ne.mpr c19
               have c19b1 : (t105 != 0) = true := bne_iff_ne.mpr c19
               simp only [Option.some.injEq, Prod.mk.injEq] at H
               obtain ⟨rfl, rfl, rfl⟩ := H
               have p12 : 0 ≤ ((ji9) : Int) := of_decide_eq_true (by first | (with_reducible assumption) | assumption)
               have q12 : (ji9) < (a0.size : Int) := of_decide_eq_true (by first | (with_reducible assumption) | assumption)
               have hx12 := bt_at a0 (ji9)
               replace p12 := eq_true p12
               replace q12 := eq_true q12
               go_wp2_with (first | ((with_reducible refine gate_callee (f := 56) rfl ?_); refine goesL_ (some 59) rfl rfl Tryz.func56 (by kernel_rfl) rfl #[.int .i64 (wrap64 ((wrap64 (-(wrap64 (IntKind.u64.wrap (Int.tdiv (IntKind.u64.wrap (x7_2 + (ji15))) 2))))) - 1))] rfl (by (try simp only [List.map_toArray, List.map_cons, List.map_nil]); first | done | (simp only [hji15]; rfl) | rfl | (simp only [List.length_drop, List.length_take]; rfl)) ?_; (with_reducible refine (clearwayref01_PutInt.calls kj5 (wrap64 ((wrap64 (-(wrap64 (IntKind.u64.wrap (Int.tdiv (IntKind.u64.wrap (x7_2 + (ji15))) 2))))) - 1)) t104 t105 _ A18.out).mono ?_); rintro e w26 ⟨rfl, hb⟩; refine ⟨_, rfl, ?_⟩; have n0_ := Aside0.mk (below_step (by repeat (first | (with_reducible first | exact HB.out | apply below_alloc | apply pw_below_drewN | apply below_drew1) | exact HB.out)) hb); clear HB; have HB := n0_; clear n0_; (try clear hb); (try clear hb2); (try clear hk); (try clear hi)))
               go_ret3
               exact ⟨by first | rfl | (simp [errW_none, errW_some] <;> rfl) | (simp only [← hji9, ← hji13, ← hji15]; first | rfl | (simp [errW_none, errW_some] <;> rfl)) | (simp [*, errW_none, errW_some] <;> rfl), by repeat (first | (with_reducible first | exact HB.out | apply below_alloc | apply pw_below_drewN | apply below_drew1) | exact HB.out)⟩
             ·rw [if_neg c17] at H
              have c17b0 : ((Int.tmod (IntKind.u64.wrap (x7_2 + (ji15))) 2) == 1) = false := beq_eq_false_iff_ne.mpr c17
              have c17b1 : ((Int.tmod (IntKind.u64.wrap (x7_2 + (ji15))) 2) != 1) = true := bne_iff_ne.mpr c17
              replace H := Option.bind_eq_some_iff.mp H
              obtain ⟨⟨t106, t107⟩, A270, H⟩ := H
              replace H : (if t107 = 0 then (if 0 ≤ a1 then (if a1 ≤ (wrap64 ((ji9) + 1)) then (if (wrap64 ((ji9) + 1)) ≤ (a0.size : Int) then (if t106.toList = (a0.extract (a1 : Int).toNat ((wrap64 ((ji9) + 1)) : Int).toNat).toList then (some (wrap64 (IntKind.u64.wrap (Int.tdiv (IntKind.u64.wrap (x7_2 + (ji15))) 2)), wrap64 ((ji9) + 1), 0)) else (some (0, 0, 10))) else (none)) else (none)) else (none)) else (some (0, 0, 10))) = some (r1, r2, r3) := H
              have A27 := Aside0.mk A270
              clear A270
              by_cases c28 : t107 = 0
              ·rw [if_pos c28] at H
               have c28b0 : (t107 == 0) = true := beq_iff_eq.mpr c28
               have c28b1 : (t107 != 0) = false := bne_eq_false_iff_eq.mpr c28
               clear c28
               by_cases c29 : 0 ≤ a1
               ·rw [if_pos c29] at H
                have c29b0 := eq_true c29
                have c29b1 := decide_eq_true c29
                clear c29
                by_cases c30 : a1 ≤ (wrap64 ((ji9) + 1))
                ·rw [if_pos c30] at H
                 have c30b0 := eq_true c30
                 have c30b1 := decide_eq_true c30
                 by_cases c31 : (wrap64 ((ji9) + 1)) ≤ (a0.size : Int)
                 ·rw [if_pos c31] at H
                  have c31b0 := eq_true c31
                  have c31b1 := decide_eq_true c31
                  by_cases c32 : t106.toList = (a0.extract (a1 : Int).toNat ((wrap64 ((ji9) + 1)) : Int).toNat).toList
                  ·rw [if_pos c32] at H
                   have c32b0 : (t106.toList == (a0.extract (a1 : Int).toNat ((wrap64 ((ji9) + 1)) : Int).toNat).toList) = true := beq_iff_eq.mpr c32
                   have c32b1 : (t106.toList != (a0.extract (a1 : Int).toNat ((wrap64 ((ji9) + 1)) : Int).toNat).toList) = false := bne_eq_false_iff_eq.mpr c32
                   clear c32
                   simp only [Option.some.injEq, Prod.mk.injEq] at H
                   obtain ⟨rfl, rfl, rfl⟩ := H
                   have p12 : 0 ≤ ((ji9) : Int) := of_decide_eq_true (by first | (with_reducible assumption) | assumption)
                   have q12 : (ji9) < (a0.size : Int) := of_decide_eq_true (by first | (with_reducible assumption) | assumption)
                   have hx12 := bt_at a0 (ji9)
                   replace p12 := eq_true p12
                   replace q12 := eq_true q12
                   go_wp2_with (first | ((with_reducible refine gate_callee (f := 56) rfl ?_); refine goesL_ (some 59) rfl rfl Tryz.func56 (by kernel_rfl) rfl #[.int .i64 (wrap64 (IntKind.u64.wrap (Int.tdiv (IntKind.u64.wrap (x7_2 + (ji15))) 2)))] rfl (by (try simp only [List.map_toArray, List.map_cons, List.map_nil]); first | done | (simp only [hji15]; rfl) | rfl | (simp only [List.length_drop, List.length_take]; rfl)) ?_; (with_reducible refine (clearwayref01_PutInt.calls kj5 (wrap64 (IntKind.u64.wrap (Int.tdiv (IntKind.u64.wrap (x7_2 + (ji15))) 2))) t106 t107 _ A27.out).mono ?_); rintro e w33 ⟨rfl, hb⟩; refine ⟨_, rfl, ?_⟩; have n0_ := Aside0.mk (below_step (by repeat (first | (with_reducible first | exact HB.out | apply below_alloc | apply pw_below_drewN | apply below_drew1) | exact HB.out)) hb); clear HB; have HB := n0_; clear n0_; (try clear hb); (try clear hb2); (try clear hk); (try clear hi)))
                   go_ret3
                   exact ⟨by first | rfl | (simp [errW_none, errW_some] <;> rfl) | (simp only [← hji9, ← hji13, ← hji15]; first | rfl | (simp [errW_none, errW_some] <;> rfl)) | (simp [*, errW_none, errW_some] <;> rfl), by repeat (first | (with_reducible first | exact HB.out | apply below_alloc | apply pw_below_drewN | apply below_drew1) | exact HB.out)⟩
                  ·rw [if_neg c32] at H
                   have c32b0 : (t106.toList == (a0.extract (a1 : Int).toNat ((wrap64 ((ji9) + 1)) : Int).toNat).toList) = false := beq_eq_false_iff_ne.mpr c32
                   have c32b1 : (t106.toList != (a0.extract (a1 : Int).toNat ((wrap64 ((ji9) + 1)) : Int).toNat).toList) = true := bne_iff_ne.mpr c32
                   simp only [Option.some.injEq, Prod.mk.injEq] at H
                   obtain ⟨rfl, rfl, rfl⟩ := H
                   have p12 : 0 ≤ ((ji9) : Int) := of_decide_eq_true (by first | (with_reducible assumption) | assumption)
                   have q12 : (ji9) < (a0.size : Int) := of_decide_eq_true (by first | (with_reducible assumption) | assumption)
                   have hx12 := bt_at a0 (ji9)
                   replace p12 := eq_true p12
                   replace q12 := eq_true q12
                   go_wp2_with (first | ((with_reducible refine gate_callee (f := 56) rfl ?_); refine goesL_ (some 59) rfl rfl Tryz.func56 (by kernel_rfl) rfl #[.int .i64 (wrap64 (IntKind.u64.wrap (Int.tdiv (IntKind.u64.wrap (x7_2 + (ji15))) 2)))] rfl (by (try simp only [List.map_toArray, List.map_cons, List.map_nil]); first | done | (simp only [hji15]; rfl) | rfl | (simp only [List.length_drop, List.length_take]; rfl)) ?_; (with_reducible refine (clearwayref01_PutInt.calls kj5 (wrap64 (IntKind.u64.wrap (Int.tdiv (IntKind.u64.wrap (x7_2 + (ji15))) 2))) t106 t107 _ A27.out).mono ?_); rintro e w34 ⟨rfl, hb⟩; refine ⟨_, rfl, ?_⟩; have n0_ := Aside0.mk (below_step (by repeat (first | (with_reducible first | exact HB.out | apply below_alloc | apply pw_below_drewN | apply below_drew1) | exact HB.out)) hb); clear HB; have HB := n0_; clear n0_; (try clear hb); (try clear hb2); (try clear hk); (try clear hi)))
                   go_ret3
                   exact ⟨by first | rfl | (simp [errW_none, errW_some] <;> rfl) | (simp only [← hji9, ← hji13, ← hji15]; first | rfl | (simp [errW_none, errW_some] <;> rfl)) | (simp [*, errW_none, errW_some] <;> rfl), by repeat (first | (with_reducible first | exact HB.out | apply below_alloc | apply pw_below_drewN | apply below_drew1) | exact HB.out)⟩
                 ·rw [if_neg c31] at H
                  exact absurd H (by simp)
                ·rw [if_neg c30] at H
                 exact absurd H (by simp)
               ·rw [if_neg c29] at H
                exact absurd H (by simp)
              ·rw [if_neg c28] at H
               have c28b0 : (t107 == 0) = false := beq_eq_false_iff_ne.mpr c28
               have c28b1 : (t107 != 0) = true := bne_iff_ne.mpr c28
               simp only [Option.some.injEq, Prod.mk.injEq] at H
               obtain ⟨rfl, rfl, rfl⟩ := H
               have p12 : 0 ≤ ((ji9) : Int) := of_decide_eq_true (by first | (with_reducible assumption) | assumption)
               have q12 : (ji9) < (a0.size : Int) := of_decide_eq_true (by first | (with_reducible assumption) | assumption)
               have hx12 := bt_at a0 (ji9)
               replace p12 := eq_true p12
               replace q12 := eq_true q12
               go_wp2_with (first | ((with_reducible refine gate_callee (f := 56) rfl ?_); refine goesL_ (some 59) rfl rfl Tryz.func56 (by kernel_rfl) rfl #[.int .i64 (wrap64 (IntKind.u64.wrap (Int.tdiv (IntKind.u64.wrap (x7_2 + (ji15))) 2)))] rfl (by (try simp only [List.map_toArray, List.map_cons, List.map_nil]); first | done | (simp only [hji15]; rfl) | rfl | (simp only [List.length_drop, List.length_take]; rfl)) ?_; (with_reducible refine (clearwayref01_PutInt.calls kj5 (wrap64 (IntKind.u64.wrap (Int.tdiv (IntKind.u64.wrap (x7_2 + (ji15))) 2))) t106 t107 _ A27.out).mono ?_); rintro e w35 ⟨rfl, hb⟩; refine ⟨_, rfl, ?_⟩; have n0_ := Aside0.mk (below_step (by repeat (first | (with_reducible first | exact HB.out | apply below_alloc | apply pw_below_drewN | apply below_drew1) | exact HB.out)) hb); clear HB; have HB := n0_; clear n0_; (try clear hb); (try clear hb2); (try clear hk); (try clear hi)))
               go_ret3
               exact ⟨by first | rfl | (simp [errW_none, errW_some] <;> rfl) | (simp only [← hji9, ← hji13, ← hji15]; first | rfl | (simp [errW_none, errW_some] <;> rfl)) | (simp [*, errW_none, errW_some] <;> rfl), by repeat (first | (with_reducible first | exact HB.out | apply below_alloc | apply pw_below_drewN | apply below_drew1) | exact HB.out)⟩
           ·rw [if_neg c14] at H
            exact absurd H (by simp)
          ·rw [if_neg c11] at H
           exact absurd H (by simp)
         ·rw [if_neg c10] at H
          exact absurd H (by simp)
        ·replace c8 := Bool.eq_false_iff.mpr c8
         subst c8
         have H1 : (some (0, 0, 10)) = some (r1, r2, r3) := by rw [if_neg (show ¬ (false = true) by decide)] at H; exact H
         clear H
         have H := H1
         clear H1
         simp only [Option.some.injEq, Prod.mk.injEq] at H
         obtain ⟨rfl, rfl, rfl⟩ := H
         go_wp2
         go_ret3
         exact ⟨by first | rfl | (simp [errW_none, errW_some] <;> rfl) | (simp [*, errW_none, errW_some] <;> rfl), by repeat (first | (with_reducible first | exact HB.out | apply below_alloc | apply pw_below_drewN | apply below_drew1) | exact HB.out)⟩
def clearwayref01_String.f (k : Nat) (a0 : ByteArray) (a1 : Int) : Option (ByteArray × Int × Int) := (clearwayref01_Int.f k a0 a1).bind fun bt108 => (if bt108.2.2 = 0 then (if bt108.1 < 0 then (some ((⟨#[]⟩ : ByteArray), 0, 10)) else (if bt108.1 > 65536 then (some ((⟨#[]⟩ : ByteArray), 0, 10)) else (if bt108.1 > (wrap64 ((a0.size : Int) - bt108.2.1)) then (some ((⟨#[]⟩ : ByteArray), 0, 10)) else (if 0 ≤ bt108.2.1 then (if bt108.2.1 ≤ (wrap64 (bt108.2.1 + bt108.1)) then (if (wrap64 (bt108.2.1 + bt108.1)) ≤ (a0.size : Int) then (some (a0.extract (bt108.2.1 : Int).toNat ((wrap64 (bt108.2.1 + bt108.1)) : Int).toNat, wrap64 (bt108.2.1 + bt108.1), 0)) else (none)) else (none)) else (none))))) else (some ((⟨#[]⟩ : ByteArray), 0, bt108.2.2)))
set_option maxHeartbeats 8000000 in
set_option maxRecDepth 100000 in
theorem clearwayref01_String.calls (k : Nat) (a0 : ByteArray) (a1 : Int) (r1 : ByteArray) (r2 : Int) (r3 : Int) (w : World) (h : clearwayref01_String.f k a0 a1 = some (r1, r2, r3)) :
  Calls Tryz.prog 75 #[.string a0, .int .i64 a1] w fun e w' => e = .returned (.tuple #[.string r1, .int .i64 r2, .int .i64 r3]) ∧ Below w.heap.size w w' := by
 have HB := Aside0.mk (Below.refl w.heap.size w)
 have H : ((clearwayref01_Int.f k a0 a1).bind fun bt108 => (if bt108.2.2 = 0 then (if bt108.1 < 0 then (some ((⟨#[]⟩ : ByteArray), 0, 10)) else (if bt108.1 > 65536 then (some ((⟨#[]⟩ : ByteArray), 0, 10)) else (if bt108.1 > (wrap64 ((a0.size : Int) - bt108.2.1)) then (some ((⟨#[]⟩ : ByteArray), 0, 10)) else (if 0 ≤ bt108.2.1 then (if bt108.2.1 ≤ (wrap64 (bt108.2.1 + bt108.1)) then (if (wrap64 (bt108.2.1 + bt108.1)) ≤ (a0.size : Int) then (some (a0.extract (bt108.2.1 : Int).toNat ((wrap64 (bt108.2.1 + bt108.1)) : Int).toNat, wrap64 (bt108.2.1 + bt108.1), 0)) else (none)) else (none)) else (none))))) else (some ((⟨#[]⟩ : ByteArray), 0, bt108.2.2)))) = some (r1, r2, r3) := h
 clear h
 replace H := Option.bind_eq_some_iff.mp H
 obtain ⟨⟨t108, t109, t110⟩, A30, H⟩ := H
 replace H : (if t110 = 0 then (if t108 < 0 then (some ((⟨#[]⟩ : ByteArray), 0, 10)) else (if t108 > 65536 then (some ((⟨#[]⟩ : ByteArray), 0, 10)) else (if t108 > (wrap64 ((a0.size : Int) - t109)) then (some ((⟨#[]⟩ : ByteArray), 0, 10)) else (if 0 ≤ t109 then (if t109 ≤ (wrap64 (t109 + t108)) then (if (wrap64 (t109 + t108)) ≤ (a0.size : Int) then (some (a0.extract (t109 : Int).toNat ((wrap64 (t109 + t108)) : Int).toNat, wrap64 (t109 + t108), 0)) else (none)) else (none)) else (none))))) else (some ((⟨#[]⟩ : ByteArray), 0, t110))) = some (r1, r2, r3) := H
 have A3 := Aside0.mk A30
 clear A30
 by_cases c4 : t110 = 0
 ·rw [if_pos c4] at H
  have c4b0 : (t110 == 0) = true := beq_iff_eq.mpr c4
  have c4b1 : (t110 != 0) = false := bne_eq_false_iff_eq.mpr c4
  clear c4
  by_cases c5 : t108 < 0
  ·rw [if_pos c5] at H
   have c5b0 := decide_eq_true c5
   clear c5
   simp only [Option.some.injEq, Prod.mk.injEq] at H
   obtain ⟨rfl, rfl, rfl⟩ := H
   go_enter Tryz.func75, Tryz.ntmps75
   go_wp2_with (first | ((with_reducible refine gate_callee (f := 97) rfl ?_); refine goesL_ (some 13) rfl rfl Tryz.func97 (by kernel_rfl) rfl #[.string a0, .int .i64 a1] rfl (by (try simp only [List.map_toArray, List.map_cons, List.map_nil]); first | done | rfl | (simp only [List.length_drop, List.length_take]; rfl)) ?_; (with_reducible refine (clearwayref01_Int.calls k a0 a1 t108 t109 t110 _ A3.out).mono ?_); rintro e w6 ⟨rfl, hb⟩; refine ⟨_, rfl, ?_⟩; have n0_ := Aside0.mk (below_step (by repeat (first | (with_reducible first | exact HB.out | apply below_alloc | apply pw_below_drewN | apply below_drew1) | exact HB.out)) hb); clear HB; have HB := n0_; clear n0_; (try clear hb); (try clear hb2); (try clear hk); (try clear hi)))
   go_ret3
   exact ⟨by first | rfl | (simp [errW_none, errW_some] <;> rfl) | (simp [*, errW_none, errW_some] <;> rfl), by repeat (first | (with_reducible first | exact HB.out | apply below_alloc | apply pw_below_drewN | apply below_drew1) | exact HB.out)⟩
  ·rw [if_neg c5] at H
   have c5b0 := decide_eq_false c5
   clear c5
   by_cases c7 : t108 > 65536
   ·rw [if_pos c7] at H
    have c7b0 := decide_eq_true c7
    clear c7
    simp only [Option.some.injEq, Prod.mk.injEq] at H
    obtain ⟨rfl, rfl, rfl⟩ := H
    go_enter Tryz.func75, Tryz.ntmps75
    go_wp2_with (first | ((with_reducible refine gate_callee (f := 97) rfl ?_); refine goesL_ (some 13) rfl rfl Tryz.func97 (by kernel_rfl) rfl #[.string a0, .int .i64 a1] rfl (by (try simp only [List.map_toArray, List.map_cons, List.map_nil]); first | done | rfl | (simp only [List.length_drop, List.length_take]; rfl)) ?_; (with_reducible refine (clearwayref01_Int.calls k a0 a1 t108 t109 t110 _ A3.out).mono ?_); rintro e w8 ⟨rfl, hb⟩; refine ⟨_, rfl, ?_⟩; have n0_ := Aside0.mk (below_step (by repeat (first | (with_reducible first | exact HB.out | apply below_alloc | apply pw_below_drewN | apply below_drew1) | exact HB.out)) hb); clear HB; have HB := n0_; clear n0_; (try clear hb); (try clear hb2); (try clear hk); (try clear hi)))
    go_ret3
    exact ⟨by first | rfl | (simp [errW_none, errW_some] <;> rfl) | (simp [*, errW_none, errW_some] <;> rfl), by repeat (first | (with_reducible first | exact HB.out | apply below_alloc | apply pw_below_drewN | apply below_drew1) | exact HB.out)⟩
   ·rw [if_neg c7] at H
    have c7b0 := decide_eq_false c7
    clear c7
    by_cases c9 : t108 > (wrap64 ((a0.size : Int) - t109))
    ·rw [if_pos c9] at H
     have c9b0 := decide_eq_true c9
     clear c9
     simp only [Option.some.injEq, Prod.mk.injEq] at H
     obtain ⟨rfl, rfl, rfl⟩ := H
     go_enter Tryz.func75, Tryz.ntmps75
     go_wp2_with (first | ((with_reducible refine gate_callee (f := 97) rfl ?_); refine goesL_ (some 13) rfl rfl Tryz.func97 (by kernel_rfl) rfl #[.string a0, .int .i64 a1] rfl (by (try simp only [List.map_toArray, List.map_cons, List.map_nil]); first | done | rfl | (simp only [List.length_drop, List.length_take]; rfl)) ?_; (with_reducible refine (clearwayref01_Int.calls k a0 a1 t108 t109 t110 _ A3.out).mono ?_); rintro e w10 ⟨rfl, hb⟩; refine ⟨_, rfl, ?_⟩; have n0_ := Aside0.mk (below_step (by repeat (first | (with_reducible first | exact HB.out | apply below_alloc | apply pw_below_drewN | apply below_drew1) | exact HB.out)) hb); clear HB; have HB := n0_; clear n0_; (try clear hb); (try clear hb2); (try clear hk); (try clear hi)))
     go_ret3
     exact ⟨by first | rfl | (simp [errW_none, errW_some] <;> rfl) | (simp [*, errW_none, errW_some] <;> rfl), by repeat (first | (with_reducible first | exact HB.out | apply below_alloc | apply pw_below_drewN | apply below_drew1) | exact HB.out)⟩
    ·rw [if_neg c9] at H
     have c9b0 := decide_eq_false c9
     clear c9
     by_cases c11 : 0 ≤ t109
     ·rw [if_pos c11] at H
      have c11b0 := eq_true c11
      have c11b1 := decide_eq_true c11
      clear c11
      by_cases c12 : t109 ≤ (wrap64 (t109 + t108))
      ·rw [if_pos c12] at H
       have c12b0 := eq_true c12
       have c12b1 := decide_eq_true c12
       by_cases c13 : (wrap64 (t109 + t108)) ≤ (a0.size : Int)
       ·rw [if_pos c13] at H
        have c13b0 := eq_true c13
        have c13b1 := decide_eq_true c13
        simp only [Option.some.injEq, Prod.mk.injEq] at H
        obtain ⟨rfl, rfl, rfl⟩ := H
        go_enter Tryz.func75, Tryz.ntmps75
        go_wp2_with (first | ((with_reducible refine gate_callee (f := 97) rfl ?_); refine goesL_ (some 13) rfl rfl Tryz.func97 (by kernel_rfl) rfl #[.string a0, .int .i64 a1] rfl (by (try simp only [List.map_toArray, List.map_cons, List.map_nil]); first | done | rfl | (simp only [List.length_drop, List.length_take]; rfl)) ?_; (with_reducible refine (clearwayref01_Int.calls k a0 a1 t108 t109 t110 _ A3.out).mono ?_); rintro e w14 ⟨rfl, hb⟩; refine ⟨_, rfl, ?_⟩; have n0_ := Aside0.mk (below_step (by repeat (first | (with_reducible first | exact HB.out | apply below_alloc | apply pw_below_drewN | apply below_drew1) | exact HB.out)) hb); clear HB; have HB := n0_; clear n0_; (try clear hb); (try clear hb2); (try clear hk); (try clear hi)))
        go_ret3
        exact ⟨by first | rfl | (simp [errW_none, errW_some] <;> rfl) | (simp [*, errW_none, errW_some] <;> rfl), by repeat (first | (with_reducible first | exact HB.out | apply below_alloc | apply pw_below_drewN | apply below_drew1) | exact HB.out)⟩
       ·rw [if_neg c13] at H
        exact absurd H (by simp)
      ·rw [if_neg c12] at H
       exact absurd H (by simp)
     ·rw [if_neg c11] at H
      exact absurd H (by simp)
 ·rw [if_neg c4] at H
  have c4b0 : (t110 == 0) = false := beq_eq_false_iff_ne.mpr c4
  have c4b1 : (t110 != 0) = true := bne_iff_ne.mpr c4
  simp only [Option.some.injEq, Prod.mk.injEq] at H
  obtain ⟨rfl, rfl, rfl⟩ := H
  go_enter Tryz.func75, Tryz.ntmps75
  go_wp2_with (first | ((with_reducible refine gate_callee (f := 97) rfl ?_); refine goesL_ (some 13) rfl rfl Tryz.func97 (by kernel_rfl) rfl #[.string a0, .int .i64 a1] rfl (by (try simp only [List.map_toArray, List.map_cons, List.map_nil]); first | done | rfl | (simp only [List.length_drop, List.length_take]; rfl)) ?_; (with_reducible refine (clearwayref01_Int.calls k a0 a1 t108 t109 t110 _ A3.out).mono ?_); rintro e w15 ⟨rfl, hb⟩; refine ⟨_, rfl, ?_⟩; have n0_ := Aside0.mk (below_step (by repeat (first | (with_reducible first | exact HB.out | apply below_alloc | apply pw_below_drewN | apply below_drew1) | exact HB.out)) hb); clear HB; have HB := n0_; clear n0_; (try clear hb); (try clear hb2); (try clear hk); (try clear hi)))
  go_ret3
  exact ⟨by first | rfl | (simp [errW_none, errW_some] <;> rfl) | (simp [*, errW_none, errW_some] <;> rfl), by repeat (first | (with_reducible first | exact HB.out | apply below_alloc | apply pw_below_drewN | apply below_drew1) | exact HB.out)⟩
end Go.Proofs.YtniegajdmbepbaaGreatDoor.Rw
namespace Go.Proofs.YtniegajdmbepbaaGreatDoor.WPure
open Go.Proofs.YtniegajdmbepbaaGreatDoor.Rw Go Go.RowKit Go.PlainAid Go.Proofs.YtniegajdmbepbaaGreatDoor.Wire Go.Proofs.YtniegajdmbepbaaGreatDoor.Pr Go.Proofs.YtniegajdmbepbaaGreatDoor.Code Go.Proofs.YtniegajdmbepbaaGreatDoorW.PrintWords Go.Proofs.YtniegajdmbepbaaGreatDoorW.PrintLast Go.Proofs.YtniegajdmbepbaaGreatDoorW.PrintMore
theorem join2 (i z b : Nat) (hi : i < 9) (hz : z < 128 ^ i) (hb : b < 256) : IntKind.u64.wrap ((z : Int) + shl .u64 (Int.tmod (IntKind.u64.wrap (b : Int)) 128) (7 * (i : Int))) = ((z + b % 128 * 128 ^ i : Nat) : Int) := by
 have e1 : Int.tmod (IntKind.u64.wrap (b : Int)) 128 = ((b % 128 : Nat) : Int) := by
  rw [u64_nonneg (by omega) (by omega), Int.tmod_eq_emod_of_nonneg (by omega)]; omega
 have hp : (128 : Nat) ^ i = 2 ^ (7 * i) := by rw [show (128 : Nat) = 2 ^ 7 from rfl, ← Nat.pow_mul]
 have hp8 : (128 : Nat) ^ i ≤ 128 ^ 8 := Nat.pow_le_pow_right (by decide) (by omega)
 simp only [Nat.reducePow] at hp8
 have hlt : b % 128 * 128 ^ i < 9223372036854775808 := by
  have := Nat.mul_le_mul (show b % 128 ≤ 127 by omega) hp8
  omega
 have e2 : shl .u64 (Int.tmod (IntKind.u64.wrap (b : Int)) 128) (7 * (i : Int)) = ((b % 128 * 128 ^ i : Nat) : Int) := by
  rw [e1]
  unfold shl
  rw [show min (7 * (i : Int)).toNat (IntKind.bits .u64) = 7 * i by simp [IntKind.bits]; omega, IntKind.wrap_u64]
  have : ((b % 128 : Nat) : Int) * 2 ^ (7 * i) = ((b % 128 * 128 ^ i : Nat) : Int) := by rw [hp]; push_cast; rfl
  rw [this]
  omega
 rw [e2, IntKind.wrap_u64]
 have : z < 128 ^ i := hz
 omega
theorem nodd (Z : Nat) (hZ : Z < 9223372036854775808) (h : Z % 2 = 1) : wrap64 ((wrap64 (-(wrap64 (IntKind.u64.wrap (Int.tdiv (Z : Int) 2))))) - 1) = unz Z := by
 rw [Int.tdiv_eq_ediv_of_nonneg (by omega), u64_nonneg (n := (Z : Int) / 2) (by omega) (by omega), w64 (n := (Z : Int) / 2) (by omega) (by omega), w64 (n := -((Z : Int) / 2)) (by omega) (by omega), w64 (by omega) (by omega)]
 unfold unz
 rw [if_neg (by omega)]; omega
theorem neven (Z : Nat) (hZ : Z < 9223372036854775808) (h : Z % 2 = 0) : wrap64 (IntKind.u64.wrap (Int.tdiv (Z : Int) 2)) = unz Z := by
 rw [Int.tdiv_eq_ediv_of_nonneg (by omega), u64_nonneg (n := (Z : Int) / 2) (by omega) (by omega), w64 (n := (Z : Int) / 2) (by omega) (by omega)]
 unfold unz
 rw [if_pos h]; omega
theorem tail_eq (s : ByteArray) (a i k : Nat) (n : Int) (hs : s.size ≤ 4611686018427387904) (hlt : a + i < s.size) (hk : 11 ≤ k) :
  ((clearwayref01_PutInt.f k n).bind fun bt121 => (if bt121.2 = 0 then (if 0 ≤ (a : Int) then (if (a : Int) ≤ ((a + i + 1 : Nat) : Int) then (if ((a + i + 1 : Nat) : Int) ≤ (s.size : Int) then (if bt121.1.toList = (s.extract ((a : Int)).toNat (((a + i + 1 : Nat) : Int)).toNat).toList then (some (n, ((a + i + 1 : Nat) : Int), 0)) else (some (0, 0, 10))) else (none)) else (none)) else (none)) else (some ((0 : Int), (0 : Int), (10 : Int))))) = some (resR s a (some (n, i + 1))) := by
 have t1 : (0 : Int) ≤ (a : Int) := by omega
 have t2 : (a : Int) ≤ ((a + i + 1 : Nat) : Int) := by omega
 have t3 : ((a + i + 1 : Nat) : Int) ≤ (s.size : Int) := by omega
 by_cases h : -maxInt ≤ n ∧ n ≤ maxInt
 ·obtain ⟨t, ht, et⟩ := refPut_in h.1 h.2 k hk
  rw [ht]
  simp only [Option.bind_some]
  rw [if_pos trivial, if_pos t1, if_pos t2, if_pos t3]
  show (if t.toList = (s.extract a (a + i + 1)).toList then _ else _) = some (if (-maxInt ≤ n ∧ n ≤ maxInt) ∧ enc n = nl (s.extract a (a + (i + 1))) then (n, ((a + (i + 1) : Nat) : Int), 0) else (0, 0, 10))
  by_cases he : t = s.extract a (a + i + 1)
  ·rw [if_pos (congrArg ByteArray.toList he), if_pos ⟨h, by rw [← et, he]; rfl⟩]
   rfl
  ·rw [if_neg (fun hh => he (nl_toList.1 hh)), if_neg (fun hh => he (nl_inj (et.trans hh.2)))]
 ·rw [refPut_out (by omega) k hk]
  simp only [Option.bind_some]
  rw [if_neg (by decide)]
  show _ = some (if (-maxInt ≤ n ∧ n ≤ maxInt) ∧ enc n = nl (s.extract a (a + (i + 1))) then (n, ((a + (i + 1) : Nat) : Int), 0) else (0, 0, 10))
  rw [if_neg (fun hh => h hh.1)]
theorem refInt_loop (s : ByteArray) (a : Nat) (hs : s.size ≤ 4611686018427387904) (ha : a ≤ s.size) (f : Nat) : ∀ (i z k : Nat), f + i = 9 → z < 128 ^ i → 2 * f + 20 < k → a + i ≤ s.size + 9 →
  clearwayref01_Int.l0 k s (a : Int) (z : Int) (i : Int) = some (resR s a (refF f i z ((nl s).drop (a + i)))) := by
 induction f with
 | zero =>
  intro i z k hf hz hk _
  obtain ⟨k, rfl⟩ : ∃ m, k = m + 2 := ⟨k - 2, by omega⟩
  rw [refF_zero]
  simp only [clearwayref01_Int.l0]
  rw [if_neg (by omega)]
  simp only [clearwayref01_Int.j2]
  rw [if_neg (by decide)]
  rfl
 | succ f ih =>
  intro i z k hf hz hk hle
  obtain ⟨k, rfl⟩ : ∃ m, k = m + 2 := ⟨k - 2, by omega⟩
  have h19 : (i : Int) < 9 := by omega
  simp only [clearwayref01_Int.l0]
  rw [if_pos h19, w64_add a i (by omega)]
  by_cases hlt : a + i < s.size
  ·obtain ⟨b, hb, hb2, hb3⟩ := bt_nl s (a + i) hlt
   have hd : (nl s).drop (a + i) = b :: (nl s).drop (a + (i + 1)) := by
    rw [List.drop_eq_getElem_cons (by rw [nl_length]; exact hlt)]
    congr 1
    have := List.getElem?_eq_getElem (l := nl s) (i := a + i) (by rw [nl_length]; exact hlt)
    rw [hb3] at this
    exact (Option.some.inj this).symm
   have hp8 : (128 : Nat) ^ i ≤ 128 ^ 8 := Nat.pow_le_pow_right (by decide) (by omega)
   have hps : (128 : Nat) ^ (i + 1) ≤ 128 ^ 9 := Nat.pow_le_pow_right (by decide) (by omega)
   have hZ : z + b % 128 * 128 ^ i < 128 ^ (i + 1) := by
    rw [Nat.pow_succ]
    have := Nat.mul_le_mul (show b % 128 ≤ 127 by omega) (Nat.le_refl (128 ^ i))
    omega
   simp only [Nat.reducePow] at hps
   have hZ2 : z + b % 128 * 128 ^ i < 9223372036854775808 := by omega
   have t0 : ((a + i : Nat) : Int) < (s.size : Int) := by omega
   have t2 : 0 ≤ ((a + i : Nat) : Int) := by omega
   have t4 : 0 ≤ 7 * (i : Int) := by omega
   have t5 : i < 9 := by omega
   have t7 : i ≤ 100 := by omega
   have t8 : i ≤ 9223372036854775806 := by omega
   have t9 : a + i ≤ 9223372036854775806 := by omega
   have t10 : 11 ≤ k := by omega
   have t11 : f + (i + 1) = 9 := by omega
   have t12 : 2 * f + 20 < k := by omega
   have t13 : a + (i + 1) ≤ s.size + 9 := by omega
   have t14 : ¬ 128 ≤ b → b % 128 = b := by omega
   have t15 : Int.tmod ((z + b % 128 * 128 ^ i : Nat) : Int) 2 = (((z + b % 128 * 128 ^ i) % 2 : Nat) : Int) := by rw [Int.tmod_eq_emod_of_nonneg (by omega)]; omega
   rw [decide_eq_true t0]
   simp only [clearwayref01_Int.j2]
   rw [if_pos trivial, w64_add a i (by omega), if_pos t2, if_pos t0, w64_seven i t7, if_pos t4, hb, join2 i z b t5 hz hb2, hd, w64_one i t8, w64_one (a + i) t9, u64_nonneg (n := (b : Int)) (by omega) (by omega)]
   by_cases h128 : 128 ≤ b
   ·rw [if_pos (show (b : Int) ≥ 128 by omega)]
    simp only [refF]
    rw [if_pos h128]
    exact ih (i + 1) _ k t11 hZ t12 t13
   ·rw [if_neg (show ¬ (b : Int) ≥ 128 by omega), t15]
    simp only [refF]
    rw [if_neg h128]
    have hm := t14 h128
    by_cases ho : (z + b % 128 * 128 ^ i) % 2 = 1
    ·rw [if_pos (by omega), nodd _ hZ2 ho, tail_eq s a i k _ hs hlt t10, hm]
    ·rw [if_neg (by omega), neven _ hZ2 (by omega), tail_eq s a i k _ hs hlt t10, hm]
  ·rw [decide_eq_false (by omega), List.drop_eq_nil_of_le (by rw [nl_length]; omega), refF_nil]
   simp only [clearwayref01_Int.j2]
   rw [if_neg (by decide)]
   rfl
theorem int_same (s : ByteArray) (at_ : Int) (k : Nat) (hs : s.size ≤ 4611686018427387904) (hk : 45 ≤ k) : clearwayref01_Int.f k s at_ = wire_Int.f k s at_ := by
 by_cases h : at_ < 0 ∨ (s.size : Int) < at_
 ·rw [int_arg s at_ k h (by omega)]
  obtain ⟨k, rfl⟩ : ∃ m, k = m + 1 := ⟨k - 1, by omega⟩
  unfold clearwayref01_Int.f
  by_cases h0 : at_ < 0
  ·rw [if_pos h0]; simp only [clearwayref01_Int.j0]; simp only [if_true]
  ·rw [if_neg h0]; simp only [clearwayref01_Int.j0]; rw [decide_eq_true (by omega)]; simp only [if_true]
 ·obtain ⟨a, rfl⟩ := Int.eq_ofNat_of_zero_le (show 0 ≤ at_ by omega)
  rw [int_eq s a k hs (by omega) (by omega), ← res_same s a (by omega)]
  obtain ⟨k, rfl⟩ : ∃ m, k = m + 1 := ⟨k - 1, by omega⟩
  unfold clearwayref01_Int.f
  rw [if_neg (by omega)]
  simp only [clearwayref01_Int.j0]
  rw [decide_eq_false (by omega), if_neg (by decide)]
  exact refInt_loop s a hs (by omega) 9 0 0 k rfl (by decide) (by omega) (by omega)
theorem string_same (s : ByteArray) (at_ : Int) (k : Nat) (hs : s.size ≤ 4611686018427387904) (hk : 45 ≤ k) : clearwayref01_String.f k s at_ = wire_String.f k s at_ := by
 unfold clearwayref01_String.f wire_String.f
 rw [int_same s at_ k hs hk]
theorem putString_same (s : ByteArray) (k : Nat) (hk : 11 ≤ k) : clearwayref01_PutString.f k s = wire_PutString.f s := by
 unfold clearwayref01_PutString.f wire_PutString.f
 rw [put_same _ k hk]
end Go.Proofs.YtniegajdmbepbaaGreatDoor.WPure
