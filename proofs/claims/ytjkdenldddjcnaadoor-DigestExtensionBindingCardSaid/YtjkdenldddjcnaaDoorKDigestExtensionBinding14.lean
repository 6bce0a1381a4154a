/- The contracts of functions, written by this session's program (wip/pp.py): what the list functions answer, the code comes to. No condition. Plain law of DigestExtensionBinding: the strings of two extension proofs that come to the same root. No condition but bounds on lengths. The fixed examples of layer 2 hold: what 'sane' computes is true. No condition. DigestExtensionBinding returns true for all arguments: the printed contract joined with the plain law. Condition: none but the sizes that any call has. -/
import Derived.Test.YtjkdenldddjcnaaDoorProg
import Derived.Below
import Derived.Deep.Draws
import Derived.Deep.AppendLies
import Derived.Maps.AppendAt
import Derived.OwnWalk
import Derived.Laws.BytesArg
import Derived.Laws.MakeOwn
import Derived.Laws.OwnMore
import Derived.Deep.OwnRows
import Derived.Tactics
import Derived.Lib.ConvBytes
import Derived.Laws.Slices
import Derived.WalkKit
import Derived.KernelRfl
import Derived.RowKit3
import Derived.Deep.LoopGhost
import Derived.Deep.QuietTactic
import Derived.BigQuiet
import Derived.WideLaws
import Derived.Deep.DeepCutAuto
import Derived.Deep.CutBlock
import Derived.Deep.RegionHeld3
import Derived.Laws.Rows
import Derived.Lib.AppendStr
import Derived.ArgAppend
import Derived.Laws.IdiomCopy
import Derived.OrdersHeld
import Derived.Laws.BitsLemmas
import Derived.RowKit
import Derived.Test.YtjkdenldddjcnaaDoorKDigestExtensionBinding9
import Derived.Test.YtjkdenldddjcnaaDoorKDigestExtensionBinding13
import Derived.Test.YtjkdenldddjcnaaDoorWWords
import Derived.Test.YtjkdenldddjcnaaDoorWLast
import Derived.Test.YtjkdenldddjcnaaDoorWTab
import Derived.Test.YtjkdenldddjcnaaDoorWQPut
import Derived.Test.YtjkdenldddjcnaaDoorWApart
import Derived.Test.YtjkdenldddjcnaaDoorWArr
import Derived.Test.YtjkdenldddjcnaaDoorWZeros
import Derived.Test.YtjkdenldddjcnaaDoorWFoot
import Derived.Test.YtjkdenldddjcnaaDoorWKept
import Derived.Test.YtjkdenldddjcnaaDoorWShare
import Derived.Test.YtjkdenldddjcnaaDoorWN
import Derived.Test.YtjkdenldddjcnaaDoorWRepsOne
import Derived.Test.YtjkdenldddjcnaaDoorWGuard
import Derived.Test.YtjkdenldddjcnaaDoorWNEv
import Derived.Test.YtjkdenldddjcnaaDoorWMore
import Derived.Test.YtjkdenldddjcnaaDoorKDigestExtensionBinding11
namespace Go.Proofs.YtjkdenldddjcnaaDoor.Dh
open Go.RowKit Go.Proofs.YtjkdenldddjcnaaDoor.Sha Go.Proofs.YtjkdenldddjcnaaDoor.Df Go.Proofs.YtjkdenldddjcnaaDoorW.PrintWords Go.Proofs.YtjkdenldddjcnaaDoorW.PrintLast Go.Proofs.YtjkdenldddjcnaaDoorW.PrintMore
attribute [local go_sem] max2_int min2_int max_two min_two max_three min_three max_four min_four   -- for this text's walks alone
set_option linter.unusedVariables false
set_option linter.unusedSimpArgs false



def errW : Option Int → Value
  | none => .nilIface
  | some c => .iface 0 (.int .i64 c)
theorem errW_none : errW none = .nilIface := rfl
theorem errW_some (c : Int) : errW (some c) = .iface 0 (.int .i64 c) := rfl

theorem info9 : (Tryd.prog.info? 9).map (fun i => (i.zero, i.size, i.bytes)) = some (some (.string ⟨#[]⟩), 1, 16) := by kernel_rfl
-- the values' own types

end Go.Proofs.YtjkdenldddjcnaaDoor.Dh

namespace Go.Proofs.YtjkdenldddjcnaaDoor.Dh
open Go.RowKit Go.Proofs.YtjkdenldddjcnaaDoor.Sha Go.Proofs.YtjkdenldddjcnaaDoor.Df Go.Proofs.YtjkdenldddjcnaaDoorW.PrintWords Go.Proofs.YtjkdenldddjcnaaDoorW.PrintLast Go.Proofs.YtjkdenldddjcnaaDoorW.PrintMore
attribute [local go_sem] max2_int min2_int max_two min_two max_three min_three max_four min_four   -- for this text's walks alone
set_option linter.unusedVariables false
set_option linter.unusedSimpArgs false

/-! ### clearwaylaw02_sides: function 28 -/
mutual
def clearwaylaw02_sides.j0 : Nat → ByteArray → Int → Int → List ByteArray → Bool → Bool → Option (List ByteArray × ByteArray)
 | 0, _, _, _, _, _, _ => none
 | k + 1, x0, x1, x2, x3, x4, x26 => if x26 = true then (if x4 = true then (some (([] : List ByteArray), x0)) else (if (x3.length : Int) = 0 then (some (([] : List ByteArray), x0)) else (if 0 < (x3.length : Int) then (some (([] : List ByteArray), rdOf ByteArray.empty x3 0)) else (none)))) else (if 0 ≤ (wrap64 ((x3.length : Int) - 1)) then (if (wrap64 ((x3.length : Int) - 1)) < (x3.length : Int) then (if (wrap64 ((x3.length : Int) - 1)) ≤ (x3.length : Int) then ((clearwaylaw02_left.f k x2).bind fun t111 => (if x1 ≤ t111 then ((clearwaylaw02_sides.f k x0 x1 t111 (x3.take ((wrap64 ((x3.length : Int) - 1)) : Int).toNat) x4).bind fun bt112 => (if 1 + bt112.2.size ≤ 9223372036854775807 then (if ((⟨#[1]⟩ : ByteArray) ++ bt112.2).size + (rdOf ByteArray.empty x3 (wrap64 ((x3.length : Int) - 1))).size ≤ 9223372036854775807 then ((some (([((⟨#[1]⟩ : ByteArray) ++ bt112.2) ++ (rdOf ByteArray.empty x3 (wrap64 ((x3.length : Int) - 1)))] : List ByteArray) : List ByteArray)).bind fun y116 => (if y116.length + bt112.1.length < 8796093022208 then ((digest_Node.f bt112.2 (rdOf ByteArray.empty x3 (wrap64 ((x3.length : Int) - 1)))).bind fun t122 => (some ((y116 ++ bt112.1), t122))) else (none))) else (none)) else (none))) else ((clearwaylaw02_sides.f k x0 (wrap64 (x1 - t111)) (wrap64 (x2 - t111)) (x3.take ((wrap64 ((x3.length : Int) - 1)) : Int).toNat) false).bind fun bt123 => (if 1 + (rdOf ByteArray.empty x3 (wrap64 ((x3.length : Int) - 1))).size ≤ 9223372036854775807 then (if ((⟨#[1]⟩ : ByteArray) ++ (rdOf ByteArray.empty x3 (wrap64 ((x3.length : Int) - 1)))).size + bt123.2.size ≤ 9223372036854775807 then ((some (([((⟨#[1]⟩ : ByteArray) ++ (rdOf ByteArray.empty x3 (wrap64 ((x3.length : Int) - 1)))) ++ bt123.2] : List ByteArray) : List ByteArray)).bind fun y127 => (if y127.length + bt123.1.length < 8796093022208 then ((digest_Node.f (rdOf ByteArray.empty x3 (wrap64 ((x3.length : Int) - 1))) bt123.2).bind fun t133 => (some ((y127 ++ bt123.1), t133))) else (none))) else (none)) else (none))))) else (none)) else (none)) else (none))
def clearwaylaw02_sides.f : Nat → ByteArray → Int → Int → List ByteArray → Bool → Option (List ByteArray × ByteArray)
 | 0, _, _, _, _, _ => none
 | k + 1, a0, a1, a2, l3, a4 => if a1 ≥ a2 then (clearwaylaw02_sides.j0 k a0 a1 a2 l3 a4 true) else (clearwaylaw02_sides.j0 k a0 a1 a2 l3 a4 ((l3.length : Int) == 0))
end
theorem clearwaylaw02_sides.mono_l : ∀ k, (∀ y0 y1 y2 y3 y4, LeO (clearwaylaw02_sides.f k y0 y1 y2 y3 y4) (clearwaylaw02_sides.f (k + 1) y0 y1 y2 y3 y4)) ∧ (∀ y0 y1 y2 y3 y4 y5, LeO (clearwaylaw02_sides.j0 k y0 y1 y2 y3 y4 y5) (clearwaylaw02_sides.j0 (k + 1) y0 y1 y2 y3 y4 y5))
 | 0 => ⟨fun _ _ _ _ _ r h => by simp [clearwaylaw02_sides.f] at h, fun _ _ _ _ _ _ r h => by simp [clearwaylaw02_sides.j0] at h⟩
 | k + 1 => by
  obtain ⟨ih0, ih1⟩ := clearwaylaw02_sides.mono_l k
  refine ⟨?_, ?_⟩
  ·intro y0 y1 y2 y3 y4
   unfold clearwaylaw02_sides.f
   repeat' first
   | (with_reducible exact ih0 _ _ _ _ _)
   | (with_reducible exact ih1 _ _ _ _ _ _)
   | (with_reducible exact clearwaylaw02_left.mono _ _)
   | (with_reducible exact LeO.refl _)
   | (with_reducible exact LeO.none _)
   | (with_reducible refine LeO.ite ?_ ?_)
   | (with_reducible refine LeO.bind ?_ (fun _ => ?_))
   | exact ih0 _ _ _ _ _
   | exact ih1 _ _ _ _ _ _
   | exact clearwaylaw02_left.mono _ _
   | exact LeO.none _
   | refine LeO.ite ?_ ?_
   | refine LeO.bind ?_ (fun _ => ?_)
  ·intro y0 y1 y2 y3 y4 y5
   unfold clearwaylaw02_sides.j0
   repeat' first
   | (with_reducible exact ih0 _ _ _ _ _)
   | (with_reducible exact ih1 _ _ _ _ _ _)
   | (with_reducible exact clearwaylaw02_left.mono _ _)
   | (with_reducible exact LeO.refl _)
   | (with_reducible exact LeO.none _)
   | (with_reducible refine LeO.ite ?_ ?_)
   | (with_reducible refine LeO.bind ?_ (fun _ => ?_))
   | exact ih0 _ _ _ _ _
   | exact ih1 _ _ _ _ _ _
   | exact clearwaylaw02_left.mono _ _
   | exact LeO.none _
   | refine LeO.ite ?_ ?_
   | refine LeO.bind ?_ (fun _ => ?_)
theorem clearwaylaw02_sides.mono : ∀ a0 a1 a2 a3 a4 k, LeO (clearwaylaw02_sides.f k a0 a1 a2 a3 a4) (clearwaylaw02_sides.f (k + 1) a0 a1 a2 a3 a4) := by
 intro a0 a1 a2 a3 a4 k
 obtain ⟨ih0, ih1⟩ := clearwaylaw02_sides.mono_l k
 exact ih0 a0 a1 a2 a3 a4
set_option maxHeartbeats 8000000 in
set_option maxRecDepth 100000 in
theorem clearwaylaw02_sides.calls (k : Nat) : ∀ (a0 : ByteArray) (a1 : Int) (a2 : Int) (A3 : Option Addr) (c3 : Nat) (l3 : List ByteArray) (a4 : Bool) (r1 : List ByteArray) (r2 : ByteArray) (w : World) (hr3 : Kd.C Kd.string w A3 l3.length l3) (hc3 : l3.length ≤ c3) (hG_ : Amb w) (h : clearwaylaw02_sides.f k a0 a1 a2 l3 a4 = some (r1, r2)),
  Calls Tryd.prog 28 #[.string a0, .int .i64 a1, .int .i64 a2, .slice A3 l3.length c3, .bool a4] w fun e w' => ∃ v0_ : Value, e = .returned (.tuple #[v0_, .string r2]) ∧ Kd.R Kd.string 9 w' w.heap.size (fun _ => True) v0_ r1 ∧ Below w.heap.size w w' := by
 induction k using Nat.strongRecOn with
 | _ k ih =>
 intro a0 a1 a2 A3 c3 l3 a4 r1 r2 w hr3 hc3 hG_ h
 cases k with
 | zero => exact absurd h (by simp [clearwaylaw02_sides.f])
 | succ k =>
 simp only [clearwaylaw02_sides.f] at h
 have HR3 := Aside0.mk hr3
 have HC3 := Aside0.mk hc3
 clear hr3 hc3
 have HB := Aside0.mk (Below.refl w.heap.size w)
 have H : (if a1 ≥ a2 then (clearwaylaw02_sides.j0 k a0 a1 a2 l3 a4 true) else (clearwaylaw02_sides.j0 k a0 a1 a2 l3 a4 ((l3.length : Int) == 0))) = some (r1, r2) := h
 clear h
 have HC6 := Aside0.mk H
 clear H
 go_enter Tryd.func28, Tryd.ntmps28
 go_upto_region 1 with (fail)
 repeat (go_quiet (fail); go_upto_region 1 with (fail))
 go_cut [26] (fun v26 wc => ∃ (kq : Nat) (x26_5 : Bool), v26 = .bool x26_5 ∧ Aside0 (clearwaylaw02_sides.j0 kq a0 a1 a2 l3 a4 x26_5 = some (r1, r2)) ∧ Aside0 (kq ≤ k) ∧ Aside0 (Below w.heap.size w wc))
 case first =>
  have H := HC6.out
  clear HC6
  by_cases c7 : a1 ≥ a2
  ·rw [if_pos c7] at H
   have c7b0 : decide (a2 ≤ a1) = true := decide_eq_true c7
   clear c7
   (first | rw [c7b0] | (simp only [i64_w, i32_w]; rw [c7b0]) | skip)
   have H' := Aside0.mk H
   clear H
   go_wp2
   repeat (go_quiet (fail); try go_wp2)
   go_meet
   case rel => exact ⟨_, (true), (by first | rfl | (simp; done) | (simp [*]; done)), H', ⟨by first | omega | exact Nat.le_refl _⟩, ⟨by repeat (first | (with_reducible first | exact HB.out | apply below_alloc | apply pw_below_drewN | apply below_drew1) | exact HB.out)⟩⟩
  ·rw [if_neg c7] at H
   have c7b0 : decide (a2 ≤ a1) = false := decide_eq_false c7
   clear c7
   (first | rw [c7b0] | (simp only [i64_w, i32_w]; rw [c7b0]) | skip)
   have H' := Aside0.mk H
   clear H
   go_wp2
   repeat (go_quiet (fail); try go_wp2)
   go_meet
   case rel => exact ⟨_, (((l3.length : Int) == 0)), (by first | rfl | (simp; done) | (simp [*]; done)), H', ⟨by first | omega | exact Nat.le_refl _⟩, ⟨by repeat (first | (with_reducible first | exact HB.out | apply below_alloc | apply pw_below_drewN | apply below_drew1) | exact HB.out)⟩⟩
 case rest =>
  clear HC6
  try clear c2
  try clear p2
  try clear c3
  try clear c7
  try clear c7b0
  obtain ⟨kq, x26_5, rfl, HA, HJ5, HB⟩ := hcut
  cases kq with
  | zero => exact absurd HA.out (by simp [clearwaylaw02_sides.j0])
  | succ kj5 =>
   have H := HA.out
   clear HA
   simp only [clearwaylaw02_sides.j0] at H
   by_cases c8 : x26_5 = true
   ·subst c8
    have H1 : (if a4 = true then (some (([] : List ByteArray), a0)) else (if (l3.length : Int) = 0 then (some (([] : List ByteArray), a0)) else (if 0 < (l3.length : Int) then (some (([] : List ByteArray), rdOf ByteArray.empty l3 0)) else (none)))) = some (r1, r2) := by rw [if_pos rfl] at H; exact H
    clear H
    have H := H1
    clear H1
    by_cases c9 : a4 = true
    ·subst c9
     have H1 : (some (([] : List ByteArray), a0)) = some (r1, r2) := by rw [if_pos rfl] at H; exact H
     clear H
     have H := H1
     clear H1
     simp only [Option.some.injEq, Prod.mk.injEq] at H
     obtain ⟨rfl, rfl⟩ := H
     go_wp2
     repeat (go_quiet (fail); try go_wp2)
     go_ret2
     exact ⟨_, by first | rfl | (simp [errW_none, errW_some] <;> rfl) | (simp [*, errW_none, errW_some] <;> rfl), by first | exact Kd.R_nil _ _ _ _ _ | exact Kd.N_nil _ _ _ _ _ | exact Kd.V_nil _ _ _ _ _ | exact Kd.Q_nil _ _ _ _ _ | exact Kd.S_nil _ _ _ _ _, by repeat (first | (with_reducible first | exact HB.out | apply below_alloc | apply pw_below_drewN | apply below_drew1) | exact HB.out)⟩
    ·replace c9 := Bool.eq_false_iff.mpr c9
     subst c9
     have H1 : (if (l3.length : Int) = 0 then (some (([] : List ByteArray), a0)) else (if 0 < (l3.length : Int) then (some (([] : List ByteArray), rdOf ByteArray.empty l3 0)) else (none))) = some (r1, r2) := by rw [if_neg (show ¬ (false = true) by decide)] at H; exact H
     clear H
     have H := H1
     clear H1
     by_cases c10 : (l3.length : Int) = 0
     ·rw [if_pos c10] at H
      have c10b0 : ((l3.length : Int) == 0) = true := beq_iff_eq.mpr c10
      have c10b1 : ((l3.length : Int) != 0) = false := bne_eq_false_iff_eq.mpr c10
      clear c10
      simp only [Option.some.injEq, Prod.mk.injEq] at H
      obtain ⟨rfl, rfl⟩ := H
      go_wp2
      repeat (go_quiet (fail); try go_wp2)
      go_ret2
      exact ⟨_, by first | rfl | (simp [errW_none, errW_some] <;> rfl) | (simp [*, errW_none, errW_some] <;> rfl), by first | exact Kd.R_nil _ _ _ _ _ | exact Kd.N_nil _ _ _ _ _ | exact Kd.V_nil _ _ _ _ _ | exact Kd.Q_nil _ _ _ _ _ | exact Kd.S_nil _ _ _ _ _, by repeat (first | (with_reducible first | exact HB.out | apply below_alloc | apply pw_below_drewN | apply below_drew1) | exact HB.out)⟩
     ·rw [if_neg c10] at H
      have c10b0 : ((l3.length : Int) == 0) = false := beq_eq_false_iff_ne.mpr c10
      have c10b1 : ((l3.length : Int) != 0) = true := bne_iff_ne.mpr c10
      have c10b2 : ¬ (l3 = []) := fun h_ => c10 (by rw [h_]; rfl)
      by_cases c11 : 0 < (l3.length : Int)
      ·rw [if_pos c11] at H
       have c11b0 : decide (0 < (l3.length : Int)) = true := decide_eq_true c11
       have c11b1 : decide (0 < l3.length) = true := decide_eq_true (by omega)
       clear c11
       simp only [Option.some.injEq, Prod.mk.injEq] at H
       obtain ⟨rfl, rfl⟩ := H
       have p108 : 0 ≤ (0 : Int) := (by omega)
       have q108 : 0 < (l3.length : Int) := of_decide_eq_true (by first | (with_reducible assumption) | assumption)
       obtain ⟨ad108, e108, hx108_0⟩ := Kd.at_string HR3.out 0 p108 q108
       cases e108
       have qi108 : (0 < l3.length) = True := eq_true (by omega)
       (try rw [show ((0 : Int)).toNat = 0 from rfl] at hx108_0)
       (try rw [Addr.add_zero'] at hx108_0)
       replace hx108_0 := (HB.out.cell (World.block_lt_of_cell? w _ hx108_0)).trans hx108_0
       replace p108 := eq_true p108
       replace q108 := eq_true q108
       go_wp2
       repeat (go_quiet (fail); try go_wp2)
       go_ret2
       exact ⟨_, by first | rfl | (simp [errW_none, errW_some] <;> rfl) | (simp [*, errW_none, errW_some] <;> rfl), by first | exact Kd.R_nil _ _ _ _ _ | exact Kd.N_nil _ _ _ _ _ | exact Kd.V_nil _ _ _ _ _ | exact Kd.Q_nil _ _ _ _ _ | exact Kd.S_nil _ _ _ _ _, by repeat (first | (with_reducible first | exact HB.out | apply below_alloc | apply pw_below_drewN | apply below_drew1) | exact HB.out)⟩
      ·rw [if_neg c11] at H
       exact absurd H (by simp)
   ·replace c8 := Bool.eq_false_iff.mpr c8
    subst c8
    have H1 : (if 0 ≤ (wrap64 ((l3.length : Int) - 1)) then (if (wrap64 ((l3.length : Int) - 1)) < (l3.length : Int) then (if (wrap64 ((l3.length : Int) - 1)) ≤ (l3.length : Int) then ((clearwaylaw02_left.f kj5 a2).bind fun t111 => (if a1 ≤ t111 then ((clearwaylaw02_sides.f kj5 a0 a1 t111 (l3.take ((wrap64 ((l3.length : Int) - 1)) : Int).toNat) a4).bind fun bt112 => (if 1 + bt112.2.size ≤ 9223372036854775807 then (if ((⟨#[1]⟩ : ByteArray) ++ bt112.2).size + (rdOf ByteArray.empty l3 (wrap64 ((l3.length : Int) - 1))).size ≤ 9223372036854775807 then ((some (([((⟨#[1]⟩ : ByteArray) ++ bt112.2) ++ (rdOf ByteArray.empty l3 (wrap64 ((l3.length : Int) - 1)))] : List ByteArray) : List ByteArray)).bind fun y116 => (if y116.length + bt112.1.length < 8796093022208 then ((digest_Node.f bt112.2 (rdOf ByteArray.empty l3 (wrap64 ((l3.length : Int) - 1)))).bind fun t122 => (some ((y116 ++ bt112.1), t122))) else (none))) else (none)) else (none))) else ((clearwaylaw02_sides.f kj5 a0 (wrap64 (a1 - t111)) (wrap64 (a2 - t111)) (l3.take ((wrap64 ((l3.length : Int) - 1)) : Int).toNat) false).bind fun bt123 => (if 1 + (rdOf ByteArray.empty l3 (wrap64 ((l3.length : Int) - 1))).size ≤ 9223372036854775807 then (if ((⟨#[1]⟩ : ByteArray) ++ (rdOf ByteArray.empty l3 (wrap64 ((l3.length : Int) - 1)))).size + bt123.2.size ≤ 9223372036854775807 then ((some (([((⟨#[1]⟩ : ByteArray) ++ (rdOf ByteArray.empty l3 (wrap64 ((l3.length : Int) - 1)))) ++ bt123.2] : List ByteArray) : List ByteArray)).bind fun y127 => (if y127.length + bt123.1.length < 8796093022208 then ((digest_Node.f (rdOf ByteArray.empty l3 (wrap64 ((l3.length : Int) - 1))) bt123.2).bind fun t133 => (some ((y127 ++ bt123.1), t133))) else (none))) else (none)) else (none))))) else (none)) else (none)) else (none)) = some (r1, r2) := by rw [if_neg (show ¬ (false = true) by decide)] at H; exact H
    clear H
    have H := H1
    clear H1
    obtain ⟨ji12, hji12⟩ : ∃ j_ : Int, (wrap64 ((l3.length : Int) - 1)) = j_ := ⟨_, rfl⟩
    replace H : (if 0 ≤ (ji12) then (if (ji12) < (l3.length : Int) then (if (ji12) ≤ (l3.length : Int) then ((clearwaylaw02_left.f kj5 a2).bind fun t111 => (if a1 ≤ t111 then ((clearwaylaw02_sides.f kj5 a0 a1 t111 (l3.take ((ji12) : Int).toNat) a4).bind fun bt112 => (if 1 + bt112.2.size ≤ 9223372036854775807 then (if ((⟨#[1]⟩ : ByteArray) ++ bt112.2).size + (rdOf ByteArray.empty l3 (ji12)).size ≤ 9223372036854775807 then ((some (([((⟨#[1]⟩ : ByteArray) ++ bt112.2) ++ (rdOf ByteArray.empty l3 (ji12))] : List ByteArray) : List ByteArray)).bind fun y116 => (if y116.length + bt112.1.length < 8796093022208 then ((digest_Node.f bt112.2 (rdOf ByteArray.empty l3 (ji12))).bind fun t122 => (some ((y116 ++ bt112.1), t122))) else (none))) else (none)) else (none))) else ((clearwaylaw02_sides.f kj5 a0 (wrap64 (a1 - t111)) (wrap64 (a2 - t111)) (l3.take ((ji12) : Int).toNat) false).bind fun bt123 => (if 1 + (rdOf ByteArray.empty l3 (ji12)).size ≤ 9223372036854775807 then (if ((⟨#[1]⟩ : ByteArray) ++ (rdOf ByteArray.empty l3 (ji12))).size + bt123.2.size ≤ 9223372036854775807 then ((some (([((⟨#[1]⟩ : ByteArray) ++ (rdOf ByteArray.empty l3 (ji12))) ++ bt123.2] : List ByteArray) : List ByteArray)).bind fun y127 => (if y127.length + bt123.1.length < 8796093022208 then ((digest_Node.f (rdOf ByteArray.empty l3 (ji12)) bt123.2).bind fun t133 => (some ((y127 ++ bt123.1), t133))) else (none))) else (none)) else (none))))) else (none)) else (none)) else (none)) = some (r1, r2) := by first | (rw [hji12] at H; exact H) | (simp only [hji12] at H ⊢; exact H)
    have hji12w : (IntKind.i64.wrap ((l3.length : Int) - 1)) = ji12 := (i64_w _).trans hji12
    by_cases c13 : 0 ≤ (ji12)
    ·rw [if_pos c13] at H
     have c13b0 : decide (0 ≤ (ji12)) = true := decide_eq_true c13
     clear c13
     by_cases c14 : (ji12) < (l3.length : Int)
     ·rw [if_pos c14] at H
      have c14b0 : decide ((ji12) < (l3.length : Int)) = true := decide_eq_true c14
      clear c14
      have c15b0 := eq_true (of_decide_eq_true (by first | (with_reducible assumption) | assumption) : 0 ≤ (ji12))
      by_cases c16 : (ji12) ≤ (l3.length : Int)
      ·rw [if_pos c16] at H
       have c16b0 := eq_true c16
       have c16b1 : decide ((ji12) ≤ (l3.length : Int)) = true := decide_eq_true c16
       clear c16
       replace H := Option.bind_eq_some_iff.mp H
       obtain ⟨t111, A170, H⟩ := H
       replace H : (if a1 ≤ t111 then ((clearwaylaw02_sides.f kj5 a0 a1 t111 (l3.take ((ji12) : Int).toNat) a4).bind fun bt112 => (if 1 + bt112.2.size ≤ 9223372036854775807 then (if ((⟨#[1]⟩ : ByteArray) ++ bt112.2).size + (rdOf ByteArray.empty l3 (ji12)).size ≤ 9223372036854775807 then ((some (([((⟨#[1]⟩ : ByteArray) ++ bt112.2) ++ (rdOf ByteArray.empty l3 (ji12))] : List ByteArray) : List ByteArray)).bind fun y116 => (if y116.length + bt112.1.length < 8796093022208 then ((digest_Node.f bt112.2 (rdOf ByteArray.empty l3 (ji12))).bind fun t122 => (some ((y116 ++ bt112.1), t122))) else (none))) else (none)) else (none))) else ((clearwaylaw02_sides.f kj5 a0 (wrap64 (a1 - t111)) (wrap64 (a2 - t111)) (l3.take ((ji12) : Int).toNat) false).bind fun bt123 => (if 1 + (rdOf ByteArray.empty l3 (ji12)).size ≤ 9223372036854775807 then (if ((⟨#[1]⟩ : ByteArray) ++ (rdOf ByteArray.empty l3 (ji12))).size + bt123.2.size ≤ 9223372036854775807 then ((some (([((⟨#[1]⟩ : ByteArray) ++ (rdOf ByteArray.empty l3 (ji12))) ++ bt123.2] : List ByteArray) : List ByteArray)).bind fun y127 => (if y127.length + bt123.1.length < 8796093022208 then ((digest_Node.f (rdOf ByteArray.empty l3 (ji12)) bt123.2).bind fun t133 => (some ((y127 ++ bt123.1), t133))) else (none))) else (none)) else (none)))) = some (r1, r2) := H
       have A17 := Aside0.mk A170
       clear A170
       by_cases c18 : a1 ≤ t111
       ·rw [if_pos c18] at H
        have c18b0 : decide (a1 ≤ t111) = true := decide_eq_true c18
        clear c18
        replace H := Option.bind_eq_some_iff.mp H
        obtain ⟨⟨t112, t113⟩, A190, H⟩ := H
        replace H : (if 1 + t113.size ≤ 9223372036854775807 then (if ((⟨#[1]⟩ : ByteArray) ++ t113).size + (rdOf ByteArray.empty l3 (ji12)).size ≤ 9223372036854775807 then ((some (([((⟨#[1]⟩ : ByteArray) ++ t113) ++ (rdOf ByteArray.empty l3 (ji12))] : List ByteArray) : List ByteArray)).bind fun y116 => (if y116.length + t112.length < 8796093022208 then ((digest_Node.f t113 (rdOf ByteArray.empty l3 (ji12))).bind fun t122 => (some ((y116 ++ t112), t122))) else (none))) else (none)) else (none)) = some (r1, r2) := H
        have A19 := Aside0.mk A190
        clear A190
        by_cases c20 : 1 + t113.size ≤ 9223372036854775807
        ·rw [if_pos c20] at H
         have c20b0 := eq_true c20
         have c20b1 : decide (1 + t113.size ≤ 9223372036854775807) = true := decide_eq_true c20
         try have c20b2 : (9223372036854775807 < 1 + t113.size) = False := eq_false (Nat.not_lt.2 c20)
         by_cases c21 : ((⟨#[1]⟩ : ByteArray) ++ t113).size + (rdOf ByteArray.empty l3 (ji12)).size ≤ 9223372036854775807
         ·rw [if_pos c21] at H
          have c21b0 := eq_true c21
          have c21b1 : decide (((⟨#[1]⟩ : ByteArray) ++ t113).size + (rdOf ByteArray.empty l3 (ji12)).size ≤ 9223372036854775807) = true := decide_eq_true c21
          try have c21b2 : (9223372036854775807 < ((⟨#[1]⟩ : ByteArray) ++ t113).size + (rdOf ByteArray.empty l3 (ji12)).size) = False := eq_false (Nat.not_lt.2 c21)
          obtain ⟨yc21, hyc21⟩ : ∃ u_ : ByteArray, ((⟨#[1]⟩ : ByteArray) ++ t113) ++ (rdOf ByteArray.empty l3 (ji12)) = u_ := ⟨_, rfl⟩
          try rw [hyc21] at H
          obtain ⟨y116, hy116⟩ : ∃ y_ : List ByteArray, y_ = (([yc21] : List ByteArray)) := ⟨_, rfl⟩
          replace H : (if y116.length + t112.length < 8796093022208 then ((digest_Node.f t113 (rdOf ByteArray.empty l3 (ji12))).bind fun t122 => (some ((y116 ++ t112), t122))) else (none)) = some (r1, r2) := by first | (rw [hy116]; with_reducible exact H) | (have H2_ := (Option.bind_some _ _).symm.trans H; rw [hy116]; with_reducible exact H2_) | (have H2_ := (Option.bind_some _ _).symm.trans H; with_reducible exact H2_) | with_reducible exact H | (rw [hy116]; exact H) | exact H
          have Ny116 := Aside0.mk hy116
          clear hy116
          by_cases c22 : y116.length + t112.length < 8796093022208
          ·rw [if_pos c22] at H
           have LMc22 := Aside0.mk c22
           clear c22
           obtain ⟨y119, hy119⟩ : ∃ y_ : List ByteArray, y_ = (y116 ++ t112) := ⟨_, rfl⟩
           replace H : ((digest_Node.f t113 (rdOf ByteArray.empty l3 (ji12))).bind fun t122 => (some (y119, t122))) = some (r1, r2) := by first | (rw [hy119]; with_reducible exact H) | (have H2_ := (Option.bind_some _ _).symm.trans H; rw [hy119]; with_reducible exact H2_) | (have H2_ := (Option.bind_some _ _).symm.trans H; with_reducible exact H2_) | with_reducible exact H | (rw [hy119]; exact H) | exact H
           have Ny119 := Aside0.mk hy119
           clear hy119
           replace H := Option.bind_eq_some_iff.mp H
           obtain ⟨t122, A230, H⟩ := H
           replace H : (some (y119, t122)) = some (r1, r2) := H
           have A23 := Aside0.mk A230
           clear A230
           simp only [Option.some.injEq, Prod.mk.injEq] at H
           obtain ⟨rfl, rfl⟩ := H
           have p109 : 0 ≤ ((ji12) : Int) := of_decide_eq_true (by first | (with_reducible assumption) | assumption)
           have q109 : (ji12) < (l3.length : Int) := of_decide_eq_true (by first | (with_reducible assumption) | assumption)
           obtain ⟨ad109, e109, hx109_0⟩ := Kd.at_string HR3.out (ji12) p109 q109
           cases e109
           replace hx109_0 := (HB.out.cell (World.block_lt_of_cell? w _ hx109_0)).trans hx109_0
           replace p109 := eq_true p109
           replace q109 := eq_true q109
           obtain ⟨i024, hi024, _, hsz24, _⟩ := info_parts info9
           obtain ⟨hcut24, hA24, hC24⟩ := print_take_of (P := Tryd.prog) Value.string (⟨#[]⟩ : ByteArray) 22 9 .i64 Tryd.underlying22 hi024 hsz24 (some ad109) c3 l3 (ji12) (of_decide_eq_true (by first | (with_reducible assumption) | assumption)) (of_decide_eq_true (by first | (with_reducible assumption) | assumption)) HC3.out
           have HR110 := Aside0.mk (Kd.C_of_reads (h1 := fun _ => rfl) (hA24 _ (Kd.reads_of_C HR3.out)))
           have HC110 := Aside0.mk hC24
           clear hA24 hC24 hi024 hsz24
           go_wp2_with (first | (go_at_call 31; (with_reducible refine (clearwaylaw02_left.calls kj5 a2 t111 _ A17.out).mono ?_); rintro e w' ⟨rfl, ⟨nd, rfl⟩⟩; (try first | exact ⟨rfl, _, World.drewN_drewN _ _ _⟩ | exact ⟨rfl, _, Eq.trans (World.drewN_drewN _ _ _) (congrArg (World.drewN _) (Nat.add_assoc _ _ _))⟩)) | (go_at_call 28; (try rw [show ((ji12) : Int).toNat = (l3.take ((ji12) : Int).toNat).length from (by have h_ : (ji12) ≤ (l3.length : Int) := of_decide_eq_true (by first | (with_reducible assumption) | assumption); rw [List.length_take]; omega)]); (with_reducible refine (ih kj5 (by have := HJ5.out; omega) a0 a1 t111 _ _ (l3.take ((ji12) : Int).toNat) a4 t112 t113 _ ?side1 ?side2 ?side3 A19.out).mono ?_); (case side1 => repeat (first | exact (Kd.C_below HR110.out (by repeat (first | (with_reducible first | exact HB.out | apply below_alloc | apply pw_below_drewN | apply below_drew1) | exact HB.out))) | (with_reducible refine Kd.C_alloc ?_ _) | (with_reducible refine Kd.C_drewN ?_ _) | (with_reducible refine Kd.C_drew ?_))); (case side2 => exact HC110.out); (case side3 => exact Amb.below hG_ (by repeat (first | (with_reducible first | exact HB.out | apply below_alloc | apply pw_below_drewN | apply below_drew1) | exact HB.out))); rintro e w25 ⟨v114, rfl, ho0, hb⟩; have n0_ := Aside0.mk (Kd.R_lower ho0 (below_size (by repeat (first | (with_reducible first | exact HB.out | apply below_alloc | apply pw_below_drewN | apply below_drew1) | exact HB.out)))); have n1_ := Aside0.mk (below_step (by repeat (first | (with_reducible first | exact HB.out | apply below_alloc | apply pw_below_drewN | apply below_drew1) | exact HB.out)) hb); clear HB; have HO115 := n0_; have HB := n1_; clear n0_ n1_; (try clear hb); (try clear hb2); (try clear hk); (try clear hi); (try clear ho0)) | ((with_reducible refine gate_dst (N := 66) rfl ?_); (try (refine gate_guard (by rfl) ?_; dsimp only)); refine Kd.R_lit Kd.string _ 9 ?hg (N := 66) ?hd (xs := ([yc21] : List ByteArray)) (inner := [.string yc21]) (ok := fun _ => True) (okp := fun _ => True) ?hr ?hp (fun _ hk => hk) trivial (Below.refl _ _) (Nat.le_refl _) (by simp) ?_; (case hd => rfl); (case hg => rfl); (case hr => first | (go_simp; done) | (go_simp; rfl)); (case hp => exact (Reps.one (show Kd.M Kd.string _ _ _ yc21 [.string yc21] from rfl) (Reps.none _ _))); intro v117 w26 ho27 hb hg_ hnew_; clear hg_ hnew_; (first | rw [← Ny116.out] at ho27 | (simp only [Int.reduceToNat] at ho27; rw [← Ny116.out] at ho27)); have n0_ := Aside0.mk (Kd.R_elder' (by (with_reducible repeat (first | apply Kd.R_alloc | apply Kd.R_drewN | apply Kd.R_drew)); exact HO115.out) (Kd.R_base ho27) hb); have n1_ := Aside0.mk (Kd.R_lower (Kd.R_new' ho27 (Kd.R_lt (by (with_reducible repeat (first | apply Kd.R_alloc | apply Kd.R_drewN | apply Kd.R_drew)); exact HO115.out))) (below_size (by repeat (first | (with_reducible first | exact HB.out | apply below_alloc | apply pw_below_drewN | apply below_drew1) | exact HB.out)))); have n2_ := Aside0.mk (below_step (by repeat (first | (with_reducible first | exact HB.out | apply below_alloc | apply pw_below_drewN | apply below_drew1) | exact HB.out)) hb); clear HO115; clear HB; have HO115 := n0_; have HO118 := n1_; have HB := n2_; clear n0_ n1_ n2_; clear hb ho27; obtain ⟨Ao29, co29, eo29⟩ := Kd.R_slice HO115.out; subst eo29) | ((with_reducible refine gate_builtin (b := .append) (xs := #[.tmp 66, .tmp 67]) rfl ?_); (try (refine gate_guard (by rfl) ?_; dsimp only)); at_builtin; refine Kd.R_append_rows Kd.string (w0 := w) w.heap.size rfl (.tmp 66) (.tmp 67) 22 9 (.string ⟨#[]⟩) 16 rfl Tryd.underlying22 info9 rfl (by decide) (by omega) v117 y116 t112 _ _ _ (fun k_ => some k_ ≠ (.slice Ao29 t112.length co29 : Value).ownBlock) (fun _ => False) rfl rfl ?aO ?aR (fun _ _ h => h) (fun _ h => h.elim) ?aF ?aB ?aS ?aL ?_; (case aR => repeat (first | exact (Kd.R_reads' HO115.out).2.2 | (with_reducible refine Kd.C_alloc ?_ _) | (with_reducible refine Kd.C_drewN ?_ _) | (with_reducible refine Kd.C_drew ?_))); (case aB => exact (by repeat (first | (with_reducible first | exact HB.out | apply below_alloc | apply pw_below_drewN | apply below_drew1) | exact HB.out))); (case aF => exact (fun k_ hk => Kd.fresh' (Kd.R_lt (by (with_reducible repeat (first | apply Kd.R_alloc | apply Kd.R_drewN | apply Kd.R_drew)); exact HO115.out)) k_ hk)); (case aO => exact (by (with_reducible repeat (first | apply Kd.R_alloc | apply Kd.R_drewN | apply Kd.R_drew)); exact Kd.R_mono HO118.out (fun _ hk => hk.2))); (case aS => exact (below_size (by repeat (first | (with_reducible first | exact HB.out | apply below_alloc | apply pw_below_drewN | apply below_drew1) | exact HB.out)))); (case aL => have := LMc22.out; omega); intro v120 w28 ho hb hg hat; rw [← Ny119.out] at ho; have n0_ := Aside0.mk (Kd.R_after (ok := (fun _ => True)) (by (with_reducible repeat (first | apply Kd.R_alloc | apply Kd.R_drewN | apply Kd.R_drew)); exact HO115.out) hg hat); have n1_ := Aside0.mk (hb); have n2_ := Aside0.mk (ho); clear HO115; clear HB; clear HO118; have HO115 := n0_; have HB := n1_; have HO121 := n2_; clear n0_ n1_ n2_; clear ho hb hg hat) | (go_at_call 32; (with_reducible refine (digest_Node.calls t113 (rdOf ByteArray.empty l3 (ji12)) t122 _ ?side1 A23.out).mono ?_); (case side1 => exact Amb.below hG_ (by repeat (first | (with_reducible first | exact HB.out | apply below_alloc | apply pw_below_drewN | apply below_drew1) | exact HB.out))); rintro e w30 ⟨rfl, hb⟩; have n0_ := Aside0.mk (Kd.R_below (by (with_reducible repeat (first | apply Kd.R_alloc | apply Kd.R_drewN | apply Kd.R_drew)); exact HO115.out) hb); have n1_ := Aside0.mk (Kd.R_below (by (with_reducible repeat (first | apply Kd.R_alloc | apply Kd.R_drewN | apply Kd.R_drew)); exact HO121.out) hb); have n2_ := Aside0.mk (below_step (by repeat (first | (with_reducible first | exact HB.out | apply below_alloc | apply pw_below_drewN | apply below_drew1) | exact HB.out)) hb); clear HO115; clear HO121; clear HB; have HO115 := n0_; have HO121 := n1_; have HB := n2_; clear n0_ n1_ n2_; (try clear hb); (try clear hb2); (try clear hk); (try clear hi)))
           repeat (go_quiet (first | (go_at_call 31; (with_reducible refine (clearwaylaw02_left.calls kj5 a2 t111 _ A17.out).mono ?_); rintro e w' ⟨rfl, ⟨nd, rfl⟩⟩; (try first | exact ⟨rfl, _, World.drewN_drewN _ _ _⟩ | exact ⟨rfl, _, Eq.trans (World.drewN_drewN _ _ _) (congrArg (World.drewN _) (Nat.add_assoc _ _ _))⟩)) | (go_at_call 28; (try rw [show ((ji12) : Int).toNat = (l3.take ((ji12) : Int).toNat).length from (by have h_ : (ji12) ≤ (l3.length : Int) := of_decide_eq_true (by first | (with_reducible assumption) | assumption); rw [List.length_take]; omega)]); (with_reducible refine (ih kj5 (by have := HJ5.out; omega) a0 a1 t111 _ _ (l3.take ((ji12) : Int).toNat) a4 t112 t113 _ ?side1 ?side2 ?side3 A19.out).mono ?_); (case side1 => repeat (first | exact (Kd.C_below HR110.out (by repeat (first | (with_reducible first | exact HB.out | apply below_alloc | apply pw_below_drewN | apply below_drew1) | exact HB.out))) | (with_reducible refine Kd.C_alloc ?_ _) | (with_reducible refine Kd.C_drewN ?_ _) | (with_reducible refine Kd.C_drew ?_))); (case side2 => exact HC110.out); (case side3 => exact Amb.below hG_ (by repeat (first | (with_reducible first | exact HB.out | apply below_alloc | apply pw_below_drewN | apply below_drew1) | exact HB.out))); rintro e w25 ⟨v114, rfl, ho0, hb⟩; have n0_ := Aside0.mk (Kd.R_lower ho0 (below_size (by repeat (first | (with_reducible first | exact HB.out | apply below_alloc | apply pw_below_drewN | apply below_drew1) | exact HB.out)))); have n1_ := Aside0.mk (below_step (by repeat (first | (with_reducible first | exact HB.out | apply below_alloc | apply pw_below_drewN | apply below_drew1) | exact HB.out)) hb); clear HB; have HO115 := n0_; have HB := n1_; clear n0_ n1_; (try clear hb); (try clear hb2); (try clear hk); (try clear hi); (try clear ho0)) | ((with_reducible refine gate_dst (N := 66) rfl ?_); (try (refine gate_guard (by rfl) ?_; dsimp only)); refine Kd.R_lit Kd.string _ 9 ?hg (N := 66) ?hd (xs := ([yc21] : List ByteArray)) (inner := [.string yc21]) (ok := fun _ => True) (okp := fun _ => True) ?hr ?hp (fun _ hk => hk) trivial (Below.refl _ _) (Nat.le_refl _) (by simp) ?_; (case hd => rfl); (case hg => rfl); (case hr => first | (go_simp; done) | (go_simp; rfl)); (case hp => exact (Reps.one (show Kd.M Kd.string _ _ _ yc21 [.string yc21] from rfl) (Reps.none _ _))); intro v117 w26 ho27 hb hg_ hnew_; clear hg_ hnew_; (first | rw [← Ny116.out] at ho27 | (simp only [Int.reduceToNat] at ho27; rw [← Ny116.out] at ho27)); have n0_ := Aside0.mk (Kd.R_elder' (by (with_reducible repeat (first | apply Kd.R_alloc | apply Kd.R_drewN | apply Kd.R_drew)); exact HO115.out) (Kd.R_base ho27) hb); have n1_ := Aside0.mk (Kd.R_lower (Kd.R_new' ho27 (Kd.R_lt (by (with_reducible repeat (first | apply Kd.R_alloc | apply Kd.R_drewN | apply Kd.R_drew)); exact HO115.out))) (below_size (by repeat (first | (with_reducible first | exact HB.out | apply below_alloc | apply pw_below_drewN | apply below_drew1) | exact HB.out)))); have n2_ := Aside0.mk (below_step (by repeat (first | (with_reducible first | exact HB.out | apply below_alloc | apply pw_below_drewN | apply below_drew1) | exact HB.out)) hb); clear HO115; clear HB; have HO115 := n0_; have HO118 := n1_; have HB := n2_; clear n0_ n1_ n2_; clear hb ho27; obtain ⟨Ao29, co29, eo29⟩ := Kd.R_slice HO115.out; subst eo29) | ((with_reducible refine gate_builtin (b := .append) (xs := #[.tmp 66, .tmp 67]) rfl ?_); (try (refine gate_guard (by rfl) ?_; dsimp only)); at_builtin; refine Kd.R_append_rows Kd.string (w0 := w) w.heap.size rfl (.tmp 66) (.tmp 67) 22 9 (.string ⟨#[]⟩) 16 rfl Tryd.underlying22 info9 rfl (by decide) (by omega) v117 y116 t112 _ _ _ (fun k_ => some k_ ≠ (.slice Ao29 t112.length co29 : Value).ownBlock) (fun _ => False) rfl rfl ?aO ?aR (fun _ _ h => h) (fun _ h => h.elim) ?aF ?aB ?aS ?aL ?_; (case aR => repeat (first | exact (Kd.R_reads' HO115.out).2.2 | (with_reducible refine Kd.C_alloc ?_ _) | (with_reducible refine Kd.C_drewN ?_ _) | (with_reducible refine Kd.C_drew ?_))); (case aB => exact (by repeat (first | (with_reducible first | exact HB.out | apply below_alloc | apply pw_below_drewN | apply below_drew1) | exact HB.out))); (case aF => exact (fun k_ hk => Kd.fresh' (Kd.R_lt (by (with_reducible repeat (first | apply Kd.R_alloc | apply Kd.R_drewN | apply Kd.R_drew)); exact HO115.out)) k_ hk)); (case aO => exact (by (with_reducible repeat (first | apply Kd.R_alloc | apply Kd.R_drewN | apply Kd.R_drew)); exact Kd.R_mono HO118.out (fun _ hk => hk.2))); (case aS => exact (below_size (by repeat (first | (with_reducible first | exact HB.out | apply below_alloc | apply pw_below_drewN | apply below_drew1) | exact HB.out)))); (case aL => have := LMc22.out; omega); intro v120 w28 ho hb hg hat; rw [← Ny119.out] at ho; have n0_ := Aside0.mk (Kd.R_after (ok := (fun _ => True)) (by (with_reducible repeat (first | apply Kd.R_alloc | apply Kd.R_drewN | apply Kd.R_drew)); exact HO115.out) hg hat); have n1_ := Aside0.mk (hb); have n2_ := Aside0.mk (ho); clear HO115; clear HB; clear HO118; have HO115 := n0_; have HB := n1_; have HO121 := n2_; clear n0_ n1_ n2_; clear ho hb hg hat) | (go_at_call 32; (with_reducible refine (digest_Node.calls t113 (rdOf ByteArray.empty l3 (ji12)) t122 _ ?side1 A23.out).mono ?_); (case side1 => exact Amb.below hG_ (by repeat (first | (with_reducible first | exact HB.out | apply below_alloc | apply pw_below_drewN | apply below_drew1) | exact HB.out))); rintro e w30 ⟨rfl, hb⟩; have n0_ := Aside0.mk (Kd.R_below (by (with_reducible repeat (first | apply Kd.R_alloc | apply Kd.R_drewN | apply Kd.R_drew)); exact HO115.out) hb); have n1_ := Aside0.mk (Kd.R_below (by (with_reducible repeat (first | apply Kd.R_alloc | apply Kd.R_drewN | apply Kd.R_drew)); exact HO121.out) hb); have n2_ := Aside0.mk (below_step (by repeat (first | (with_reducible first | exact HB.out | apply below_alloc | apply pw_below_drewN | apply below_drew1) | exact HB.out)) hb); clear HO115; clear HO121; clear HB; have HO115 := n0_; have HO121 := n1_; have HB := n2_; clear n0_ n1_ n2_; (try clear hb); (try clear hb2); (try clear hk); (try clear hi))); try go_wp2_with (first | (go_at_call 31; (with_reducible refine (clearwaylaw02_left.calls kj5 a2 t111 _ A17.out).mono ?_); rintro e w' ⟨rfl, ⟨nd, rfl⟩⟩; (try first | exact ⟨rfl, _, World.drewN_drewN _ _ _⟩ | exact ⟨rfl, _, Eq.trans (World.drewN_drewN _ _ _) (congrArg (World.drewN _) (Nat.add_assoc _ _ _))⟩)) | (go_at_call 28; (try rw [show ((ji12) : Int).toNat = (l3.take ((ji12) : Int).toNat).length from (by have h_ : (ji12) ≤ (l3.length : Int) := of_decide_eq_true (by first | (with_reducible assumption) | assumption); rw [List.length_take]; omega)]); (with_reducible refine (ih kj5 (by have := HJ5.out; omega) a0 a1 t111 _ _ (l3.take ((ji12) : Int).toNat) a4 t112 t113 _ ?side1 ?side2 ?side3 A19.out).mono ?_); (case side1 => repeat (first | exact (Kd.C_below HR110.out (by repeat (first | (with_reducible first | exact HB.out | apply below_alloc | apply pw_below_drewN | apply below_drew1) | exact HB.out))) | (with_reducible refine Kd.C_alloc ?_ _) | (with_reducible refine Kd.C_drewN ?_ _) | (with_reducible refine Kd.C_drew ?_))); (case side2 => exact HC110.out); (case side3 => exact Amb.below hG_ (by repeat (first | (with_reducible first | exact HB.out | apply below_alloc | apply pw_below_drewN | apply below_drew1) | exact HB.out))); rintro e w25 ⟨v114, rfl, ho0, hb⟩; have n0_ := Aside0.mk (Kd.R_lower ho0 (below_size (by repeat (first | (with_reducible first | exact HB.out | apply below_alloc | apply pw_below_drewN | apply below_drew1) | exact HB.out)))); have n1_ := Aside0.mk (below_step (by repeat (first | (with_reducible first | exact HB.out | apply below_alloc | apply pw_below_drewN | apply below_drew1) | exact HB.out)) hb); clear HB; have HO115 := n0_; have HB := n1_; clear n0_ n1_; (try clear hb); (try clear hb2); (try clear hk); (try clear hi); (try clear ho0)) | ((with_reducible refine gate_dst (N := 66) rfl ?_); (try (refine gate_guard (by rfl) ?_; dsimp only)); refine Kd.R_lit Kd.string _ 9 ?hg (N := 66) ?hd (xs := ([yc21] : List ByteArray)) (inner := [.string yc21]) (ok := fun _ => True) (okp := fun _ => True) ?hr ?hp (fun _ hk => hk) trivial (Below.refl _ _) (Nat.le_refl _) (by simp) ?_; (case hd => rfl); (case hg => rfl); (case hr => first | (go_simp; done) | (go_simp; rfl)); (case hp => exact (Reps.one (show Kd.M Kd.string _ _ _ yc21 [.string yc21] from rfl) (Reps.none _ _))); intro v117 w26 ho27 hb hg_ hnew_; clear hg_ hnew_; (first | rw [← Ny116.out] at ho27 | (simp only [Int.reduceToNat] at ho27; rw [← Ny116.out] at ho27)); have n0_ := Aside0.mk (Kd.R_elder' (by (with_reducible repeat (first | apply Kd.R_alloc | apply Kd.R_drewN | apply Kd.R_drew)); exact HO115.out) (Kd.R_base ho27) hb); have n1_ := Aside0.mk (Kd.R_lower (Kd.R_new' ho27 (Kd.R_lt (by (with_reducible repeat (first | apply Kd.R_alloc | apply Kd.R_drewN | apply Kd.R_drew)); exact HO115.out))) (below_size (by repeat (first | (with_reducible first | exact HB.out | apply below_alloc | apply pw_below_drewN | apply below_drew1) | exact HB.out)))); have n2_ := Aside0.mk (below_step (by repeat (first | (with_reducible first | exact HB.out | apply below_alloc | apply pw_below_drewN | apply below_drew1) | exact HB.out)) hb); clear HO115; clear HB; have HO115 := n0_; have HO118 := n1_; have HB := n2_; clear n0_ n1_ n2_; clear hb ho27; obtain ⟨Ao29, co29, eo29⟩ := Kd.R_slice HO115.out; subst eo29) | ((with_reducible refine gate_builtin (b := .append) (xs := #[.tmp 66, .tmp 67]) rfl ?_); (try (refine gate_guard (by rfl) ?_; dsimp only)); at_builtin; refine Kd.R_append_rows Kd.string (w0 := w) w.heap.size rfl (.tmp 66) (.tmp 67) 22 9 (.string ⟨#[]⟩) 16 rfl Tryd.underlying22 info9 rfl (by decide) (by omega) v117 y116 t112 _ _ _ (fun k_ => some k_ ≠ (.slice Ao29 t112.length co29 : Value).ownBlock) (fun _ => False) rfl rfl ?aO ?aR (fun _ _ h => h) (fun _ h => h.elim) ?aF ?aB ?aS ?aL ?_; (case aR => repeat (first | exact (Kd.R_reads' HO115.out).2.2 | (with_reducible refine Kd.C_alloc ?_ _) | (with_reducible refine Kd.C_drewN ?_ _) | (with_reducible refine Kd.C_drew ?_))); (case aB => exact (by repeat (first | (with_reducible first | exact HB.out | apply below_alloc | apply pw_below_drewN | apply below_drew1) | exact HB.out))); (case aF => exact (fun k_ hk => Kd.fresh' (Kd.R_lt (by (with_reducible repeat (first | apply Kd.R_alloc | apply Kd.R_drewN | apply Kd.R_drew)); exact HO115.out)) k_ hk)); (case aO => exact (by (with_reducible repeat (first | apply Kd.R_alloc | apply Kd.R_drewN | apply Kd.R_drew)); exact Kd.R_mono HO118.out (fun _ hk => hk.2))); (case aS => exact (below_size (by repeat (first | (with_reducible first | exact HB.out | apply below_alloc | apply pw_below_drewN | apply below_drew1) | exact HB.out)))); (case aL => have := LMc22.out; omega); intro v120 w28 ho hb hg hat; rw [← Ny119.out] at ho; have n0_ := Aside0.mk (Kd.R_after (ok := (fun _ => True)) (by (with_reducible repeat (first | apply Kd.R_alloc | apply Kd.R_drewN | apply Kd.R_drew)); exact HO115.out) hg hat); have n1_ := Aside0.mk (hb); have n2_ := Aside0.mk (ho); clear HO115; clear HB; clear HO118; have HO115 := n0_; have HB := n1_; have HO121 := n2_; clear n0_ n1_ n2_; clear ho hb hg hat) | (go_at_call 32; (with_reducible refine (digest_Node.calls t113 (rdOf ByteArray.empty l3 (ji12)) t122 _ ?side1 A23.out).mono ?_); (case side1 => exact Amb.below hG_ (by repeat (first | (with_reducible first | exact HB.out | apply below_alloc | apply pw_below_drewN | apply below_drew1) | exact HB.out))); rintro e w30 ⟨rfl, hb⟩; have n0_ := Aside0.mk (Kd.R_below (by (with_reducible repeat (first | apply Kd.R_alloc | apply Kd.R_drewN | apply Kd.R_drew)); exact HO115.out) hb); have n1_ := Aside0.mk (Kd.R_below (by (with_reducible repeat (first | apply Kd.R_alloc | apply Kd.R_drewN | apply Kd.R_drew)); exact HO121.out) hb); have n2_ := Aside0.mk (below_step (by repeat (first | (with_reducible first | exact HB.out | apply below_alloc | apply pw_below_drewN | apply below_drew1) | exact HB.out)) hb); clear HO115; clear HO121; clear HB; have HO115 := n0_; have HO121 := n1_; have HB := n2_; clear n0_ n1_ n2_; (try clear hb); (try clear hb2); (try clear hk); (try clear hi))))
           go_ret2
           exact ⟨_, by first | rfl | (simp [errW_none, errW_some] <;> rfl) | (simp only [← hji12]; first | rfl | (simp [errW_none, errW_some] <;> rfl)) | (simp [*, errW_none, errW_some] <;> rfl), by (with_reducible repeat (first | apply Kd.R_alloc | apply Kd.R_drewN | apply Kd.R_drew)); exact Kd.R_mono HO121.out (fun _ hk => trivial), by repeat (first | (with_reducible first | exact HB.out | apply below_alloc | apply pw_below_drewN | apply below_drew1) | exact HB.out)⟩
          ·rw [if_neg c22] at H
           exact absurd H (by simp)
         ·rw [if_neg c21] at H
          exact absurd H (by simp)
        ·rw [if_neg c20] at H
         exact absurd H (by simp)
       ·rw [if_neg c18] at H
        have c18b0 : decide (a1 ≤ t111) = false := decide_eq_false c18
        clear c18
        replace H := Option.bind_eq_some_iff.mp H
        obtain ⟨⟨t123, t124⟩, A310, H⟩ := H
        replace H : (if 1 + (rdOf ByteArray.empty l3 (ji12)).size ≤ 9223372036854775807 then (if ((⟨#[1]⟩ : ByteArray) ++ (rdOf ByteArray.empty l3 (ji12))).size + t124.size ≤ 9223372036854775807 then ((some (([((⟨#[1]⟩ : ByteArray) ++ (rdOf ByteArray.empty l3 (ji12))) ++ t124] : List ByteArray) : List ByteArray)).bind fun y127 => (if y127.length + t123.length < 8796093022208 then ((digest_Node.f (rdOf ByteArray.empty l3 (ji12)) t124).bind fun t133 => (some ((y127 ++ t123), t133))) else (none))) else (none)) else (none)) = some (r1, r2) := H
        have A31 := Aside0.mk A310
        clear A310
        by_cases c32 : 1 + (rdOf ByteArray.empty l3 (ji12)).size ≤ 9223372036854775807
        ·rw [if_pos c32] at H
         have c32b0 := eq_true c32
         have c32b1 : decide (1 + (rdOf ByteArray.empty l3 (ji12)).size ≤ 9223372036854775807) = true := decide_eq_true c32
         try have c32b2 : (9223372036854775807 < 1 + (rdOf ByteArray.empty l3 (ji12)).size) = False := eq_false (Nat.not_lt.2 c32)
         by_cases c33 : ((⟨#[1]⟩ : ByteArray) ++ (rdOf ByteArray.empty l3 (ji12))).size + t124.size ≤ 9223372036854775807
         ·rw [if_pos c33] at H
          have c33b0 := eq_true c33
          have c33b1 : decide (((⟨#[1]⟩ : ByteArray) ++ (rdOf ByteArray.empty l3 (ji12))).size + t124.size ≤ 9223372036854775807) = true := decide_eq_true c33
          try have c33b2 : (9223372036854775807 < ((⟨#[1]⟩ : ByteArray) ++ (rdOf ByteArray.empty l3 (ji12))).size + t124.size) = False := eq_false (Nat.not_lt.2 c33)
          obtain ⟨yc33, hyc33⟩ : ∃ u_ : ByteArray, ((⟨#[1]⟩ : ByteArray) ++ (rdOf ByteArray.empty l3 (ji12))) ++ t124 = u_ := ⟨_, rfl⟩
          try rw [hyc33] at H
          obtain ⟨y127, hy127⟩ : ∃ y_ : List ByteArray, y_ = (([yc33] : List ByteArray)) := ⟨_, rfl⟩
          replace H : (if y127.length + t123.length < 8796093022208 then ((digest_Node.f (rdOf ByteArray.empty l3 (ji12)) t124).bind fun t133 => (some ((y127 ++ t123), t133))) else (none)) = some (r1, r2) := by first | (rw [hy127]; with_reducible exact H) | (have H2_ := (Option.bind_some _ _).symm.trans H; rw [hy127]; with_reducible exact H2_) | (have H2_ := (Option.bind_some _ _).symm.trans H; with_reducible exact H2_) | with_reducible exact H | (rw [hy127]; exact H) | exact H
          have Ny127 := Aside0.mk hy127
          clear hy127
          by_cases c34 : y127.length + t123.length < 8796093022208
          ·rw [if_pos c34] at H
           have LMc34 := Aside0.mk c34
           clear c34
           obtain ⟨y130, hy130⟩ : ∃ y_ : List ByteArray, y_ = (y127 ++ t123) := ⟨_, rfl⟩
           replace H : ((digest_Node.f (rdOf ByteArray.empty l3 (ji12)) t124).bind fun t133 => (some (y130, t133))) = some (r1, r2) := by first | (rw [hy130]; with_reducible exact H) | (have H2_ := (Option.bind_some _ _).symm.trans H; rw [hy130]; with_reducible exact H2_) | (have H2_ := (Option.bind_some _ _).symm.trans H; with_reducible exact H2_) | with_reducible exact H | (rw [hy130]; exact H) | exact H
           have Ny130 := Aside0.mk hy130
           clear hy130
           replace H := Option.bind_eq_some_iff.mp H
           obtain ⟨t133, A350, H⟩ := H
           replace H : (some (y130, t133)) = some (r1, r2) := H
           have A35 := Aside0.mk A350
           clear A350
           simp only [Option.some.injEq, Prod.mk.injEq] at H
           obtain ⟨rfl, rfl⟩ := H
           have p109 : 0 ≤ ((ji12) : Int) := of_decide_eq_true (by first | (with_reducible assumption) | assumption)
           have q109 : (ji12) < (l3.length : Int) := of_decide_eq_true (by first | (with_reducible assumption) | assumption)
           obtain ⟨ad109, e109, hx109_0⟩ := Kd.at_string HR3.out (ji12) p109 q109
           cases e109
           replace hx109_0 := (HB.out.cell (World.block_lt_of_cell? w _ hx109_0)).trans hx109_0
           replace p109 := eq_true p109
           replace q109 := eq_true q109
           obtain ⟨i036, hi036, _, hsz36, _⟩ := info_parts info9
           obtain ⟨hcut36, hA36, hC36⟩ := print_take_of (P := Tryd.prog) Value.string (⟨#[]⟩ : ByteArray) 22 9 .i64 Tryd.underlying22 hi036 hsz36 (some ad109) c3 l3 (ji12) (of_decide_eq_true (by first | (with_reducible assumption) | assumption)) (of_decide_eq_true (by first | (with_reducible assumption) | assumption)) HC3.out
           have HR110 := Aside0.mk (Kd.C_of_reads (h1 := fun _ => rfl) (hA36 _ (Kd.reads_of_C HR3.out)))
           have HC110 := Aside0.mk hC36
           clear hA36 hC36 hi036 hsz36
           go_wp2_with (first | (go_at_call 31; (with_reducible refine (clearwaylaw02_left.calls kj5 a2 t111 _ A17.out).mono ?_); rintro e w' ⟨rfl, ⟨nd, rfl⟩⟩; (try first | exact ⟨rfl, _, World.drewN_drewN _ _ _⟩ | exact ⟨rfl, _, Eq.trans (World.drewN_drewN _ _ _) (congrArg (World.drewN _) (Nat.add_assoc _ _ _))⟩)) | (go_at_call 28; (try rw [show ((ji12) : Int).toNat = (l3.take ((ji12) : Int).toNat).length from (by have h_ : (ji12) ≤ (l3.length : Int) := of_decide_eq_true (by first | (with_reducible assumption) | assumption); rw [List.length_take]; omega)]); (with_reducible refine (ih kj5 (by have := HJ5.out; omega) a0 (wrap64 (a1 - t111)) (wrap64 (a2 - t111)) _ _ (l3.take ((ji12) : Int).toNat) false t123 t124 _ ?side1 ?side2 ?side3 A31.out).mono ?_); (case side1 => repeat (first | exact (Kd.C_below HR110.out (by repeat (first | (with_reducible first | exact HB.out | apply below_alloc | apply pw_below_drewN | apply below_drew1) | exact HB.out))) | (with_reducible refine Kd.C_alloc ?_ _) | (with_reducible refine Kd.C_drewN ?_ _) | (with_reducible refine Kd.C_drew ?_))); (case side2 => exact HC110.out); (case side3 => exact Amb.below hG_ (by repeat (first | (with_reducible first | exact HB.out | apply below_alloc | apply pw_below_drewN | apply below_drew1) | exact HB.out))); rintro e w37 ⟨v125, rfl, ho0, hb⟩; have n0_ := Aside0.mk (Kd.R_lower ho0 (below_size (by repeat (first | (with_reducible first | exact HB.out | apply below_alloc | apply pw_below_drewN | apply below_drew1) | exact HB.out)))); have n1_ := Aside0.mk (below_step (by repeat (first | (with_reducible first | exact HB.out | apply below_alloc | apply pw_below_drewN | apply below_drew1) | exact HB.out)) hb); clear HB; have HO126 := n0_; have HB := n1_; clear n0_ n1_; (try clear hb); (try clear hb2); (try clear hk); (try clear hi); (try clear ho0)) | ((with_reducible refine gate_dst (N := 88) rfl ?_); (try (refine gate_guard (by rfl) ?_; dsimp only)); refine Kd.R_lit Kd.string _ 9 ?hg (N := 88) ?hd (xs := ([yc33] : List ByteArray)) (inner := [.string yc33]) (ok := fun _ => True) (okp := fun _ => True) ?hr ?hp (fun _ hk => hk) trivial (Below.refl _ _) (Nat.le_refl _) (by simp) ?_; (case hd => rfl); (case hg => rfl); (case hr => first | (go_simp; done) | (go_simp; rfl)); (case hp => exact (Reps.one (show Kd.M Kd.string _ _ _ yc33 [.string yc33] from rfl) (Reps.none _ _))); intro v128 w38 ho39 hb hg_ hnew_; clear hg_ hnew_; (first | rw [← Ny127.out] at ho39 | (simp only [Int.reduceToNat] at ho39; rw [← Ny127.out] at ho39)); have n0_ := Aside0.mk (Kd.R_elder' (by (with_reducible repeat (first | apply Kd.R_alloc | apply Kd.R_drewN | apply Kd.R_drew)); exact HO126.out) (Kd.R_base ho39) hb); have n1_ := Aside0.mk (Kd.R_lower (Kd.R_new' ho39 (Kd.R_lt (by (with_reducible repeat (first | apply Kd.R_alloc | apply Kd.R_drewN | apply Kd.R_drew)); exact HO126.out))) (below_size (by repeat (first | (with_reducible first | exact HB.out | apply below_alloc | apply pw_below_drewN | apply below_drew1) | exact HB.out)))); have n2_ := Aside0.mk (below_step (by repeat (first | (with_reducible first | exact HB.out | apply below_alloc | apply pw_below_drewN | apply below_drew1) | exact HB.out)) hb); clear HO126; clear HB; have HO126 := n0_; have HO129 := n1_; have HB := n2_; clear n0_ n1_ n2_; clear hb ho39; obtain ⟨Ao41, co41, eo41⟩ := Kd.R_slice HO126.out; subst eo41) | ((with_reducible refine gate_builtin (b := .append) (xs := #[.tmp 88, .tmp 89]) rfl ?_); (try (refine gate_guard (by rfl) ?_; dsimp only)); at_builtin; refine Kd.R_append_rows Kd.string (w0 := w) w.heap.size rfl (.tmp 88) (.tmp 89) 22 9 (.string ⟨#[]⟩) 16 rfl Tryd.underlying22 info9 rfl (by decide) (by omega) v128 y127 t123 _ _ _ (fun k_ => some k_ ≠ (.slice Ao41 t123.length co41 : Value).ownBlock) (fun _ => False) rfl rfl ?aO ?aR (fun _ _ h => h) (fun _ h => h.elim) ?aF ?aB ?aS ?aL ?_; (case aR => repeat (first | exact (Kd.R_reads' HO126.out).2.2 | (with_reducible refine Kd.C_alloc ?_ _) | (with_reducible refine Kd.C_drewN ?_ _) | (with_reducible refine Kd.C_drew ?_))); (case aB => exact (by repeat (first | (with_reducible first | exact HB.out | apply below_alloc | apply pw_below_drewN | apply below_drew1) | exact HB.out))); (case aF => exact (fun k_ hk => Kd.fresh' (Kd.R_lt (by (with_reducible repeat (first | apply Kd.R_alloc | apply Kd.R_drewN | apply Kd.R_drew)); exact HO126.out)) k_ hk)); (case aO => exact (by (with_reducible repeat (first | apply Kd.R_alloc | apply Kd.R_drewN | apply Kd.R_drew)); exact Kd.R_mono HO129.out (fun _ hk => hk.2))); (case aS => exact (below_size (by repeat (first | (with_reducible first | exact HB.out | apply below_alloc | apply pw_below_drewN | apply below_drew1) | exact HB.out)))); (case aL => have := LMc34.out; omega); intro v131 w40 ho hb hg hat; rw [← Ny130.out] at ho; have n0_ := Aside0.mk (Kd.R_after (ok := (fun _ => True)) (by (with_reducible repeat (first | apply Kd.R_alloc | apply Kd.R_drewN | apply Kd.R_drew)); exact HO126.out) hg hat); have n1_ := Aside0.mk (hb); have n2_ := Aside0.mk (ho); clear HO126; clear HB; clear HO129; have HO126 := n0_; have HB := n1_; have HO132 := n2_; clear n0_ n1_ n2_; clear ho hb hg hat) | (go_at_call 32; (with_reducible refine (digest_Node.calls (rdOf ByteArray.empty l3 (ji12)) t124 t133 _ ?side1 A35.out).mono ?_); (case side1 => exact Amb.below hG_ (by repeat (first | (with_reducible first | exact HB.out | apply below_alloc | apply pw_below_drewN | apply below_drew1) | exact HB.out))); rintro e w42 ⟨rfl, hb⟩; have n0_ := Aside0.mk (Kd.R_below (by (with_reducible repeat (first | apply Kd.R_alloc | apply Kd.R_drewN | apply Kd.R_drew)); exact HO126.out) hb); have n1_ := Aside0.mk (Kd.R_below (by (with_reducible repeat (first | apply Kd.R_alloc | apply Kd.R_drewN | apply Kd.R_drew)); exact HO132.out) hb); have n2_ := Aside0.mk (below_step (by repeat (first | (with_reducible first | exact HB.out | apply below_alloc | apply pw_below_drewN | apply below_drew1) | exact HB.out)) hb); clear HO126; clear HO132; clear HB; have HO126 := n0_; have HO132 := n1_; have HB := n2_; clear n0_ n1_ n2_; (try clear hb); (try clear hb2); (try clear hk); (try clear hi)))
           repeat (go_quiet (first | (go_at_call 31; (with_reducible refine (clearwaylaw02_left.calls kj5 a2 t111 _ A17.out).mono ?_); rintro e w' ⟨rfl, ⟨nd, rfl⟩⟩; (try first | exact ⟨rfl, _, World.drewN_drewN _ _ _⟩ | exact ⟨rfl, _, Eq.trans (World.drewN_drewN _ _ _) (congrArg (World.drewN _) (Nat.add_assoc _ _ _))⟩)) | (go_at_call 28; (try rw [show ((ji12) : Int).toNat = (l3.take ((ji12) : Int).toNat).length from (by have h_ : (ji12) ≤ (l3.length : Int) := of_decide_eq_true (by first | (with_reducible assumption) | assumption); rw [List.length_take]; omega)]); (with_reducible refine (ih kj5 (by have := HJ5.out; omega) a0 (wrap64 (a1 - t111)) (wrap64 (a2 - t111)) _ _ (l3.take ((ji12) : Int).toNat) false t123 t124 _ ?side1 ?side2 ?side3 A31.out).mono ?_); (case side1 => repeat (first | exact (Kd.C_below HR110.out (by repeat (first | (with_reducible first | exact HB.out | apply below_alloc | apply pw_below_drewN | apply below_drew1) | exact HB.out))) | (with_reducible refine Kd.C_alloc ?_ _) | (with_reducible refine Kd.C_drewN ?_ _) | (with_reducible refine Kd.C_drew ?_))); (case side2 => exact HC110.out); (case side3 => exact Amb.below hG_ (by repeat (first | (with_reducible first | exact HB.out | apply below_alloc | apply pw_below_drewN | apply below_drew1) | exact HB.out))); rintro e w37 ⟨v125, rfl, ho0, hb⟩; have n0_ := Aside0.mk (Kd.R_lower ho0 (below_size (by repeat (first | (with_reducible first | exact HB.out | apply below_alloc | apply pw_below_drewN | apply below_drew1) | exact HB.out)))); have n1_ := Aside0.mk (below_step (by repeat (first | (with_reducible first | exact HB.out | apply below_alloc | apply pw_below_drewN | apply below_drew1) | exact HB.out)) hb); clear HB; have HO126 := n0_; have HB := n1_; clear n0_ n1_; (try clear hb); (try clear hb2); (try clear hk); (try clear hi); (try clear ho0)) | ((with_reducible refine gate_dst (N := 88) rfl ?_); (try (refine gate_guard (by rfl) ?_; dsimp only)); refine Kd.R_lit Kd.string _ 9 ?hg (N := 88) ?hd (xs := ([yc33] : List ByteArray)) (inner := [.string yc33]) (ok := fun _ => True) (okp := fun _ => True) ?hr ?hp (fun _ hk => hk) trivial (Below.refl _ _) (Nat.le_refl _) (by simp) ?_; (case hd => rfl); (case hg => rfl); (case hr => first | (go_simp; done) | (go_simp; rfl)); (case hp => exact (Reps.one (show Kd.M Kd.string _ _ _ yc33 [.string yc33] from rfl) (Reps.none _ _))); intro v128 w38 ho39 hb hg_ hnew_; clear hg_ hnew_; (first | rw [← Ny127.out] at ho39 | (simp only [Int.reduceToNat] at ho39; rw [← Ny127.out] at ho39)); have n0_ := Aside0.mk (Kd.R_elder' (by (with_reducible repeat (first | apply Kd.R_alloc | apply Kd.R_drewN | apply Kd.R_drew)); exact HO126.out) (Kd.R_base ho39) hb); have n1_ := Aside0.mk (Kd.R_lower (Kd.R_new' ho39 (Kd.R_lt (by (with_reducible repeat (first | apply Kd.R_alloc | apply Kd.R_drewN | apply Kd.R_drew)); exact HO126.out))) (below_size (by repeat (first | (with_reducible first | exact HB.out | apply below_alloc | apply pw_below_drewN | apply below_drew1) | exact HB.out)))); have n2_ := Aside0.mk (below_step (by repeat (first | (with_reducible first | exact HB.out | apply below_alloc | apply pw_below_drewN | apply below_drew1) | exact HB.out)) hb); clear HO126; clear HB; have HO126 := n0_; have HO129 := n1_; have HB := n2_; clear n0_ n1_ n2_; clear hb ho39; obtain ⟨Ao41, co41, eo41⟩ := Kd.R_slice HO126.out; subst eo41) | ((with_reducible refine gate_builtin (b := .append) (xs := #[.tmp 88, .tmp 89]) rfl ?_); (try (refine gate_guard (by rfl) ?_; dsimp only)); at_builtin; refine Kd.R_append_rows Kd.string (w0 := w) w.heap.size rfl (.tmp 88) (.tmp 89) 22 9 (.string ⟨#[]⟩) 16 rfl Tryd.underlying22 info9 rfl (by decide) (by omega) v128 y127 t123 _ _ _ (fun k_ => some k_ ≠ (.slice Ao41 t123.length co41 : Value).ownBlock) (fun _ => False) rfl rfl ?aO ?aR (fun _ _ h => h) (fun _ h => h.elim) ?aF ?aB ?aS ?aL ?_; (case aR => repeat (first | exact (Kd.R_reads' HO126.out).2.2 | (with_reducible refine Kd.C_alloc ?_ _) | (with_reducible refine Kd.C_drewN ?_ _) | (with_reducible refine Kd.C_drew ?_))); (case aB => exact (by repeat (first | (with_reducible first | exact HB.out | apply below_alloc | apply pw_below_drewN | apply below_drew1) | exact HB.out))); (case aF => exact (fun k_ hk => Kd.fresh' (Kd.R_lt (by (with_reducible repeat (first | apply Kd.R_alloc | apply Kd.R_drewN | apply Kd.R_drew)); exact HO126.out)) k_ hk)); (case aO => exact (by (with_reducible repeat (first | apply Kd.R_alloc | apply Kd.R_drewN | apply Kd.R_drew)); exact Kd.R_mono HO129.out (fun _ hk => hk.2))); (case aS => exact (below_size (by repeat (first | (with_reducible first | exact HB.out | apply below_alloc | apply pw_below_drewN | apply below_drew1) | exact HB.out)))); (case aL => have := LMc34.out; omega); intro v131 w40 ho hb hg hat; rw [← Ny130.out] at ho; have n0_ := Aside0.mk (Kd.R_after (ok := (fun _ => True)) (by (with_reducible repeat (first | apply Kd.R_alloc | apply Kd.R_drewN | apply Kd.R_drew)); exact HO126.out) hg hat); have n1_ := Aside0.mk (hb); have n2_ := Aside0.mk (ho); clear HO126; clear HB; clear HO129; have HO126 := n0_; have HB := n1_; have HO132 := n2_; clear n0_ n1_ n2_; clear ho hb hg hat) | (go_at_call 32; (with_reducible refine (digest_Node.calls (rdOf ByteArray.empty l3 (ji12)) t124 t133 _ ?side1 A35.out).mono ?_); (case side1 => exact Amb.below hG_ (by repeat (first | (with_reducible first | exact HB.out | apply below_alloc | apply pw_below_drewN | apply below_drew1) | exact HB.out))); rintro e w42 ⟨rfl, hb⟩; have n0_ := Aside0.mk (Kd.R_below (by (with_reducible repeat (first | apply Kd.R_alloc | apply Kd.R_drewN | apply Kd.R_drew)); exact HO126.out) hb); have n1_ := Aside0.mk (Kd.R_below (by (with_reducible repeat (first | apply Kd.R_alloc | apply Kd.R_drewN | apply Kd.R_drew)); exact HO132.out) hb); have n2_ := Aside0.mk (below_step (by repeat (first | (with_reducible first | exact HB.out | apply below_alloc | apply pw_below_drewN | apply below_drew1) | exact HB.out)) hb); clear HO126; clear HO132; clear HB; have HO126 := n0_; have HO132 := n1_; have HB := n2_; clear n0_ n1_ n2_; (try clear hb); (try clear hb2); (try clear hk); (try clear hi))); try go_wp2_with (first | (go_at_call 31; (with_reducible refine (clearwaylaw02_left.calls kj5 a2 t111 _ A17.out).mono ?_); rintro e w' ⟨rfl, ⟨nd, rfl⟩⟩; (try first | exact ⟨rfl, _, World.drewN_drewN _ _ _⟩ | exact ⟨rfl, _, Eq.trans (World.drewN_drewN _ _ _) (congrArg (World.drewN _) (Nat.add_assoc _ _ _))⟩)) | (go_at_call 28; (try rw [show ((ji12) : Int).toNat = (l3.take ((ji12) : Int).toNat).length from (by have h_ : (ji12) ≤ (l3.length : Int) := of_decide_eq_true (by first | (with_reducible assumption) | assumption); rw [List.length_take]; omega)]); (with_reducible refine (ih kj5 (by have := HJ5.out; omega) a0 (wrap64 (a1 - t111)) (wrap64 (a2 - t111)) _ _ (l3.take ((ji12) : Int).toNat) false t123 t124 _ ?side1 ?side2 ?side3 A31.out).mono ?_); (case side1 => repeat (first | exact (Kd.C_below HR110.out (by repeat (first | (with_reducible first | exact HB.out | apply below_alloc | apply pw_below_drewN | apply below_drew1) | exact HB.out))) | (with_reducible refine Kd.C_alloc ?_ _) | (with_reducible refine Kd.C_drewN ?_ _) | (with_reducible refine Kd.C_drew ?_))); (case side2 => exact HC110.out); (case side3 => exact Amb.below hG_ (by repeat (first | (with_reducible first | exact HB.out | apply below_alloc | apply pw_below_drewN | apply below_drew1) | exact HB.out))); rintro e w37 ⟨v125, rfl, ho0, hb⟩; have n0_ := Aside0.mk (Kd.R_lower ho0 (below_size (by repeat (first | (with_reducible first | exact HB.out | apply below_alloc | apply pw_below_drewN | apply below_drew1) | exact HB.out)))); have n1_ := Aside0.mk (below_step (by repeat (first | (with_reducible first | exact HB.out | apply below_alloc | apply pw_below_drewN | apply below_drew1) | exact HB.out)) hb); clear HB; have HO126 := n0_; have HB := n1_; clear n0_ n1_; (try clear hb); (try clear hb2); (try clear hk); (try clear hi); (try clear ho0)) | ((with_reducible refine gate_dst (N := 88) rfl ?_); (try (refine gate_guard (by rfl) ?_; dsimp only)); refine Kd.R_lit Kd.string _ 9 ?hg (N := 88) ?hd (xs := ([yc33] : List ByteArray)) (inner := [.string yc33]) (ok := fun _ => True) (okp := fun _ => True) ?hr ?hp (fun _ hk => hk) trivial (Below.refl _ _) (Nat.le_refl _) (by simp) ?_; (case hd => rfl); (case hg => rfl); (case hr => first | (go_simp; done) | (go_simp; rfl)); (case hp => exact (Reps.one (show Kd.M Kd.string _ _ _ yc33 [.string yc33] from rfl) (Reps.none _ _))); intro v128 w38 ho39 hb hg_ hnew_; clear hg_ hnew_; (first | rw [← Ny127.out] at ho39 | (simp only [Int.reduceToNat] at ho39; rw [← Ny127.out] at ho39)); have n0_ := Aside0.mk (Kd.R_elder' (by (with_reducible repeat (first | apply Kd.R_alloc | apply Kd.R_drewN | apply Kd.R_drew)); exact HO126.out) (Kd.R_base ho39) hb); have n1_ := Aside0.mk (Kd.R_lower (Kd.R_new' ho39 (Kd.R_lt (by (with_reducible repeat (first | apply Kd.R_alloc | apply Kd.R_drewN | apply Kd.R_drew)); exact HO126.out))) (below_size (by repeat (first | (with_reducible first | exact HB.out | apply below_alloc | apply pw_below_drewN | apply below_drew1) | exact HB.out)))); have n2_ := Aside0.mk (below_step (by repeat (first | (with_reducible first | exact HB.out | apply below_alloc | apply pw_below_drewN | apply below_drew1) | exact HB.out)) hb); clear HO126; clear HB; have HO126 := n0_; have HO129 := n1_; have HB := n2_; clear n0_ n1_ n2_; clear hb ho39; obtain ⟨Ao41, co41, eo41⟩ := Kd.R_slice HO126.out; subst eo41) | ((with_reducible refine gate_builtin (b := .append) (xs := #[.tmp 88, .tmp 89]) rfl ?_); (try (refine gate_guard (by rfl) ?_; dsimp only)); at_builtin; refine Kd.R_append_rows Kd.string (w0 := w) w.heap.size rfl (.tmp 88) (.tmp 89) 22 9 (.string ⟨#[]⟩) 16 rfl Tryd.underlying22 info9 rfl (by decide) (by omega) v128 y127 t123 _ _ _ (fun k_ => some k_ ≠ (.slice Ao41 t123.length co41 : Value).ownBlock) (fun _ => False) rfl rfl ?aO ?aR (fun _ _ h => h) (fun _ h => h.elim) ?aF ?aB ?aS ?aL ?_; (case aR => repeat (first | exact (Kd.R_reads' HO126.out).2.2 | (with_reducible refine Kd.C_alloc ?_ _) | (with_reducible refine Kd.C_drewN ?_ _) | (with_reducible refine Kd.C_drew ?_))); (case aB => exact (by repeat (first | (with_reducible first | exact HB.out | apply below_alloc | apply pw_below_drewN | apply below_drew1) | exact HB.out))); (case aF => exact (fun k_ hk => Kd.fresh' (Kd.R_lt (by (with_reducible repeat (first | apply Kd.R_alloc | apply Kd.R_drewN | apply Kd.R_drew)); exact HO126.out)) k_ hk)); (case aO => exact (by (with_reducible repeat (first | apply Kd.R_alloc | apply Kd.R_drewN | apply Kd.R_drew)); exact Kd.R_mono HO129.out (fun _ hk => hk.2))); (case aS => exact (below_size (by repeat (first | (with_reducible first | exact HB.out | apply below_alloc | apply pw_below_drewN | apply below_drew1) | exact HB.out)))); (case aL => have := LMc34.out; omega); intro v131 w40 ho hb hg hat; rw [← Ny130.out] at ho; have n0_ := Aside0.mk (Kd.R_after (ok := (fun _ => True)) (by (with_reducible repeat (first | apply Kd.R_alloc | apply Kd.R_drewN | apply Kd.R_drew)); exact HO126.out) hg hat); have n1_ := Aside0.mk (hb); have n2_ := Aside0.mk (ho); clear HO126; clear HB; clear HO129; have HO126 := n0_; have HB := n1_; have HO132 := n2_; clear n0_ n1_ n2_; clear ho hb hg hat) | (go_at_call 32; (with_reducible refine (digest_Node.calls (rdOf ByteArray.empty l3 (ji12)) t124 t133 _ ?side1 A35.out).mono ?_); (case side1 => exact Amb.below hG_ (by repeat (first | (with_reducible first | exact HB.out | apply below_alloc | apply pw_below_drewN | apply below_drew1) | exact HB.out))); rintro e w42 ⟨rfl, hb⟩; have n0_ := Aside0.mk (Kd.R_below (by (with_reducible repeat (first | apply Kd.R_alloc | apply Kd.R_drewN | apply Kd.R_drew)); exact HO126.out) hb); have n1_ := Aside0.mk (Kd.R_below (by (with_reducible repeat (first | apply Kd.R_alloc | apply Kd.R_drewN | apply Kd.R_drew)); exact HO132.out) hb); have n2_ := Aside0.mk (below_step (by repeat (first | (with_reducible first | exact HB.out | apply below_alloc | apply pw_below_drewN | apply below_drew1) | exact HB.out)) hb); clear HO126; clear HO132; clear HB; have HO126 := n0_; have HO132 := n1_; have HB := n2_; clear n0_ n1_ n2_; (try clear hb); (try clear hb2); (try clear hk); (try clear hi))))
           go_ret2
           exact ⟨_, by first | rfl | (simp [errW_none, errW_some] <;> rfl) | (simp only [← hji12]; first | rfl | (simp [errW_none, errW_some] <;> rfl)) | (simp [*, errW_none, errW_some] <;> rfl), by (with_reducible repeat (first | apply Kd.R_alloc | apply Kd.R_drewN | apply Kd.R_drew)); exact Kd.R_mono HO132.out (fun _ hk => trivial), by repeat (first | (with_reducible first | exact HB.out | apply below_alloc | apply pw_below_drewN | apply below_drew1) | exact HB.out)⟩
          ·rw [if_neg c34] at H
           exact absurd H (by simp)
         ·rw [if_neg c33] at H
          exact absurd H (by simp)
        ·rw [if_neg c32] at H
         exact absurd H (by simp)
      ·rw [if_neg c16] at H
       exact absurd H (by simp)
     ·rw [if_neg c14] at H
      exact absurd H (by simp)
    ·rw [if_neg c13] at H
     exact absurd H (by simp)

/-! ### clearwaylaw02_DigestExtensionBinding: function 8 -/
def clearwaylaw02_DigestExtensionBinding.j0 : Nat → ByteArray → List ByteArray → ByteArray → List ByteArray → Int → Int → Bool → Bool → Option (Bool)
 | 0, _, _, _, _, _, _, _, _ => none
 | k + 1, x0, x1, x2, x3, x4, x6, x15, x49 => if x49 = true then (some x15) else ((clearwaylaw02_sides.f k x0 x4 x6 x1 true).bind fun bt143 => ((clearwaylaw02_sides.f k x2 x4 x6 x3 true).bind fun bt147 => (if x15 = true then ((clearwaylaw02_collide.f k bt143.1 bt147.1).bind fun t151 => (some t151)) else (some false))))
def clearwaylaw02_DigestExtensionBinding.f (k : Nat) (a0 : ByteArray) (l1 : List ByteArray) (a2 : ByteArray) (l3 : List ByteArray) (a4 : Int) (a5 : ByteArray) (a6 : Int) : Option (Bool) := (clearwaylaw02_sane.f k).bind fun t134 => ((clearwaylaw02_few.f k l1 70).bind fun t135 => ((clearwaylaw02_few.f k l3 70).bind fun t138 => ((digest_VerifyExtension.f a0 a4 a5 a6 t135).bind fun t141 => ((digest_VerifyExtension.f a2 a4 a5 a6 t138).bind fun t142 => (if t141 = true then (if t142 = true then (clearwaylaw02_DigestExtensionBinding.j0 k a0 t135 a2 t138 a4 a6 t134 (a0.toList == a2.toList)) else (clearwaylaw02_DigestExtensionBinding.j0 k a0 t135 a2 t138 a4 a6 t134 true)) else (clearwaylaw02_DigestExtensionBinding.j0 k a0 t135 a2 t138 a4 a6 t134 true))))))
theorem clearwaylaw02_DigestExtensionBinding.mono_l : ∀ k, (∀ y0 y1 y2 y3 y4 y5 y6 y7, LeO (clearwaylaw02_DigestExtensionBinding.j0 k y0 y1 y2 y3 y4 y5 y6 y7) (clearwaylaw02_DigestExtensionBinding.j0 (k + 1) y0 y1 y2 y3 y4 y5 y6 y7))
 | 0 => fun _ _ _ _ _ _ _ _ r h => by simp [clearwaylaw02_DigestExtensionBinding.j0] at h
 | k + 1 => by
  have ih0 := clearwaylaw02_DigestExtensionBinding.mono_l k
  ·intro y0 y1 y2 y3 y4 y5 y6 y7
   unfold clearwaylaw02_DigestExtensionBinding.j0
   repeat' first
   | (with_reducible exact ih0 _ _ _ _ _ _ _ _)
   | (with_reducible exact clearwaylaw02_collide.mono _ _ _)
   | (with_reducible exact clearwaylaw02_few.mono _ _ _)
   | (with_reducible exact clearwaylaw02_sane.mono _)
   | (with_reducible exact clearwaylaw02_sides.mono _ _ _ _ _ _)
   | (with_reducible exact LeO.refl _)
   | (with_reducible exact LeO.none _)
   | (with_reducible refine LeO.ite ?_ ?_)
   | (with_reducible refine LeO.bind ?_ (fun _ => ?_))
   | exact ih0 _ _ _ _ _ _ _ _
   | exact clearwaylaw02_collide.mono _ _ _
   | exact clearwaylaw02_few.mono _ _ _
   | exact clearwaylaw02_sane.mono _
   | exact clearwaylaw02_sides.mono _ _ _ _ _ _
   | exact LeO.none _
   | refine LeO.ite ?_ ?_
   | refine LeO.bind ?_ (fun _ => ?_)
theorem clearwaylaw02_DigestExtensionBinding.mono : ∀ a0 a1 a2 a3 a4 a5 a6 k, LeO (clearwaylaw02_DigestExtensionBinding.f k a0 a1 a2 a3 a4 a5 a6) (clearwaylaw02_DigestExtensionBinding.f (k + 1) a0 a1 a2 a3 a4 a5 a6) := by
 intro a0 a1 a2 a3 a4 a5 a6 k
 have ih0 := clearwaylaw02_DigestExtensionBinding.mono_l k
 unfold clearwaylaw02_DigestExtensionBinding.f
 repeat' first
   | (with_reducible exact ih0 _ _ _ _ _ _ _ _)
   | (with_reducible exact clearwaylaw02_collide.mono _ _ _)
   | (with_reducible exact clearwaylaw02_few.mono _ _ _)
   | (with_reducible exact clearwaylaw02_sane.mono _)
   | (with_reducible exact clearwaylaw02_sides.mono _ _ _ _ _ _)
   | (with_reducible exact LeO.refl _)
   | (with_reducible exact LeO.none _)
   | (with_reducible refine LeO.ite ?_ ?_)
   | (with_reducible refine LeO.bind ?_ (fun _ => ?_))
   | exact ih0 _ _ _ _ _ _ _ _
   | exact clearwaylaw02_collide.mono _ _ _
   | exact clearwaylaw02_few.mono _ _ _
   | exact clearwaylaw02_sane.mono _
   | exact clearwaylaw02_sides.mono _ _ _ _ _ _
   | exact LeO.none _
   | refine LeO.ite ?_ ?_
   | refine LeO.bind ?_ (fun _ => ?_)
set_option maxHeartbeats 8000000 in
set_option maxRecDepth 100000 in
theorem clearwaylaw02_DigestExtensionBinding.calls (k : Nat) (a0 : ByteArray) (A1 : Option Addr) (c1 : Nat) (l1 : List ByteArray) (a2 : ByteArray) (A3 : Option Addr) (c3 : Nat) (l3 : List ByteArray) (a4 : Int) (a5 : ByteArray) (a6 : Int) (r : Bool) (w : World) (hr1 : Kd.C Kd.string w A1 l1.length l1) (hc1 : l1.length ≤ c1) (hr3 : Kd.C Kd.string w A3 l3.length l3) (hc3 : l3.length ≤ c3) (hG_ : Amb w) (h : clearwaylaw02_DigestExtensionBinding.f k a0 l1 a2 l3 a4 a5 a6 = some r) :
  Calls Tryd.prog 8 #[.string a0, .slice A1 l1.length c1, .string a2, .slice A3 l3.length c3, .int .i64 a4, .string a5, .int .i64 a6] w fun e w' => e = .returned (.bool r) ∧ Below w.heap.size w w' := by
 have HR1 := Aside0.mk hr1
 have HC1 := Aside0.mk hc1
 clear hr1 hc1
 have HR3 := Aside0.mk hr3
 have HC3 := Aside0.mk hc3
 clear hr3 hc3
 have HB := Aside0.mk (Below.refl w.heap.size w)
 have H : ((clearwaylaw02_sane.f k).bind fun t134 => ((clearwaylaw02_few.f k l1 70).bind fun t135 => ((clearwaylaw02_few.f k l3 70).bind fun t138 => ((digest_VerifyExtension.f a0 a4 a5 a6 t135).bind fun t141 => ((digest_VerifyExtension.f a2 a4 a5 a6 t138).bind fun t142 => (if t141 = true then (if t142 = true then (clearwaylaw02_DigestExtensionBinding.j0 k a0 t135 a2 t138 a4 a6 t134 (a0.toList == a2.toList)) else (clearwaylaw02_DigestExtensionBinding.j0 k a0 t135 a2 t138 a4 a6 t134 true)) else (clearwaylaw02_DigestExtensionBinding.j0 k a0 t135 a2 t138 a4 a6 t134 true))))))) = some r := h
 clear h
 replace H := Option.bind_eq_some_iff.mp H
 obtain ⟨t134, A80, H⟩ := H
 replace H : ((clearwaylaw02_few.f k l1 70).bind fun t135 => ((clearwaylaw02_few.f k l3 70).bind fun t138 => ((digest_VerifyExtension.f a0 a4 a5 a6 t135).bind fun t141 => ((digest_VerifyExtension.f a2 a4 a5 a6 t138).bind fun t142 => (if t141 = true then (if t142 = true then (clearwaylaw02_DigestExtensionBinding.j0 k a0 t135 a2 t138 a4 a6 t134 (a0.toList == a2.toList)) else (clearwaylaw02_DigestExtensionBinding.j0 k a0 t135 a2 t138 a4 a6 t134 true)) else (clearwaylaw02_DigestExtensionBinding.j0 k a0 t135 a2 t138 a4 a6 t134 true)))))) = some r := H
 have A8 := Aside0.mk A80
 clear A80
 replace H := Option.bind_eq_some_iff.mp H
 obtain ⟨t135, A90, H⟩ := H
 replace H : ((clearwaylaw02_few.f k l3 70).bind fun t138 => ((digest_VerifyExtension.f a0 a4 a5 a6 t135).bind fun t141 => ((digest_VerifyExtension.f a2 a4 a5 a6 t138).bind fun t142 => (if t141 = true then (if t142 = true then (clearwaylaw02_DigestExtensionBinding.j0 k a0 t135 a2 t138 a4 a6 t134 (a0.toList == a2.toList)) else (clearwaylaw02_DigestExtensionBinding.j0 k a0 t135 a2 t138 a4 a6 t134 true)) else (clearwaylaw02_DigestExtensionBinding.j0 k a0 t135 a2 t138 a4 a6 t134 true))))) = some r := H
 have A9 := Aside0.mk A90
 clear A90
 replace H := Option.bind_eq_some_iff.mp H
 obtain ⟨t138, A100, H⟩ := H
 replace H : ((digest_VerifyExtension.f a0 a4 a5 a6 t135).bind fun t141 => ((digest_VerifyExtension.f a2 a4 a5 a6 t138).bind fun t142 => (if t141 = true then (if t142 = true then (clearwaylaw02_DigestExtensionBinding.j0 k a0 t135 a2 t138 a4 a6 t134 (a0.toList == a2.toList)) else (clearwaylaw02_DigestExtensionBinding.j0 k a0 t135 a2 t138 a4 a6 t134 true)) else (clearwaylaw02_DigestExtensionBinding.j0 k a0 t135 a2 t138 a4 a6 t134 true)))) = some r := H
 have A10 := Aside0.mk A100
 clear A100
 replace H := Option.bind_eq_some_iff.mp H
 obtain ⟨t141, A110, H⟩ := H
 replace H : ((digest_VerifyExtension.f a2 a4 a5 a6 t138).bind fun t142 => (if t141 = true then (if t142 = true then (clearwaylaw02_DigestExtensionBinding.j0 k a0 t135 a2 t138 a4 a6 t134 (a0.toList == a2.toList)) else (clearwaylaw02_DigestExtensionBinding.j0 k a0 t135 a2 t138 a4 a6 t134 true)) else (clearwaylaw02_DigestExtensionBinding.j0 k a0 t135 a2 t138 a4 a6 t134 true))) = some r := H
 have A11 := Aside0.mk A110
 clear A110
 replace H := Option.bind_eq_some_iff.mp H
 obtain ⟨t142, A120, H⟩ := H
 replace H : (if t141 = true then (if t142 = true then (clearwaylaw02_DigestExtensionBinding.j0 k a0 t135 a2 t138 a4 a6 t134 (a0.toList == a2.toList)) else (clearwaylaw02_DigestExtensionBinding.j0 k a0 t135 a2 t138 a4 a6 t134 true)) else (clearwaylaw02_DigestExtensionBinding.j0 k a0 t135 a2 t138 a4 a6 t134 true)) = some r := H
 have A12 := Aside0.mk A120
 clear A120
 have HC13 := Aside0.mk H
 clear H
 go_enter Tryd.func8, Tryd.ntmps8
 go_upto_region 6 with (first | ((with_reducible refine gate_callee (f := 12) rfl ?_); refine goesL_ (some 22) rfl rfl Tryd.func12 (by kernel_rfl) rfl #[] rfl (by (try simp only [List.map_toArray, List.map_cons, List.map_nil]); first | done | rfl | (simp only [List.length_drop, List.length_take]; rfl)) ?_; (with_reducible refine (clearwaylaw02_sane.calls k  t134 _ ?side1 A8.out).mono ?_); (case side1 => exact Amb.below hG_ (by repeat (first | (with_reducible first | exact HB.out | apply below_alloc | apply pw_below_drewN | apply below_drew1) | exact HB.out))); rintro e w14 ⟨rfl, hb⟩; refine ⟨_, rfl, ?_⟩; have n0_ := Aside0.mk (below_step (by repeat (first | (with_reducible first | exact HB.out | apply below_alloc | apply pw_below_drewN | apply below_drew1) | exact HB.out)) hb); clear HB; have HB := n0_; clear n0_; (try clear hb); (try clear hb2); (try clear hk); (try clear hi)) | ((with_reducible refine gate_callee (f := 13) rfl ?_); refine goesL_ (some 24) rfl rfl Tryd.func13 (by kernel_rfl) rfl #[.slice A1 l1.length c1, .int .i64 70] rfl (by (try simp only [List.map_toArray, List.map_cons, List.map_nil]); first | done | rfl | (simp only [List.length_drop, List.length_take]; rfl)) ?_; (with_reducible refine (clearwaylaw02_few.calls k _ _ l1 70 t135 _ ?side1 ?side2 A9.out).mono ?_); (case side1 => repeat (first | exact (Kd.C_below HR1.out HB.out) | (with_reducible refine Kd.C_alloc ?_ _) | (with_reducible refine Kd.C_drewN ?_ _) | (with_reducible refine Kd.C_drew ?_))); (case side2 => exact HC1.out); rintro e w15 ⟨v136, rfl, ho0, hb⟩; refine ⟨_, rfl, ?_⟩; have n0_ := Aside0.mk (Kd.R_lower ho0 (below_size (by repeat (first | (with_reducible first | exact HB.out | apply below_alloc | apply pw_below_drewN | apply below_drew1) | exact HB.out)))); have n1_ := Aside0.mk (below_step (by repeat (first | (with_reducible first | exact HB.out | apply below_alloc | apply pw_below_drewN | apply below_drew1) | exact HB.out)) hb); clear HB; have HO137 := n0_; have HB := n1_; clear n0_ n1_; (try clear hb); (try clear hb2); (try clear hk); (try clear hi); (try clear ho0)) | ((with_reducible refine gate_callee (f := 13) rfl ?_); refine goesL_ (some 26) rfl rfl Tryd.func13 (by kernel_rfl) rfl #[.slice A3 l3.length c3, .int .i64 70] rfl (by (try simp only [List.map_toArray, List.map_cons, List.map_nil]); first | done | rfl | (simp only [List.length_drop, List.length_take]; rfl)) ?_; (with_reducible refine (clearwaylaw02_few.calls k _ _ l3 70 t138 _ ?side1 ?side2 A10.out).mono ?_); (case side1 => repeat (first | exact (Kd.C_below HR3.out HB.out) | (with_reducible refine Kd.C_alloc ?_ _) | (with_reducible refine Kd.C_drewN ?_ _) | (with_reducible refine Kd.C_drew ?_))); (case side2 => exact HC3.out); rintro e w16 ⟨v139, rfl, ho0, hb⟩; refine ⟨_, rfl, ?_⟩; have n0_ := Aside0.mk (Kd.R_elder' (by (with_reducible repeat (first | apply Kd.R_alloc | apply Kd.R_drewN | apply Kd.R_drew)); exact HO137.out) (Kd.R_base ho0) hb); have n1_ := Aside0.mk (Kd.R_lower (Kd.R_new' ho0 (Kd.R_lt (by (with_reducible repeat (first | apply Kd.R_alloc | apply Kd.R_drewN | apply Kd.R_drew)); exact HO137.out))) (below_size (by repeat (first | (with_reducible first | exact HB.out | apply below_alloc | apply pw_below_drewN | apply below_drew1) | exact HB.out)))); have n2_ := Aside0.mk (below_step (by repeat (first | (with_reducible first | exact HB.out | apply below_alloc | apply pw_below_drewN | apply below_drew1) | exact HB.out)) hb); clear HO137; clear HB; have HO137 := n0_; have HO140 := n1_; have HB := n2_; clear n0_ n1_ n2_; (try clear hb); (try clear hb2); (try clear hk); (try clear hi); (try clear ho0); obtain ⟨Ao17, co17, eo17⟩ := Kd.R_slice HO137.out; subst eo17) | ((with_reducible refine gate_callee (f := 23) rfl ?_); refine goesL_ (some 32) rfl rfl Tryd.func23 (by kernel_rfl) rfl #[.string a0, .int .i64 a4, .string a5, .int .i64 a6, .slice Ao17 t135.length co17] rfl (by (try simp only [List.map_toArray, List.map_cons, List.map_nil]); first | done | rfl | (simp only [List.length_drop, List.length_take]; rfl)) ?_; (with_reducible refine (digest_VerifyExtension.calls a0 a4 a5 a6 _ _ t135 t141 _ ?side1 ?side2 ?side3 A11.out).mono ?_); (case side1 => repeat (first | exact (Kd.R_reads' HO137.out).2.2 | (with_reducible refine Kd.C_alloc ?_ _) | (with_reducible refine Kd.C_drewN ?_ _) | (with_reducible refine Kd.C_drew ?_))); (case side2 => exact (Kd.R_reads' HO137.out).2.1); (case side3 => exact Amb.below hG_ (by repeat (first | (with_reducible first | exact HB.out | apply below_alloc | apply pw_below_drewN | apply below_drew1) | exact HB.out))); rintro e w18 ⟨rfl, hb⟩; refine ⟨_, rfl, ?_⟩; have n0_ := Aside0.mk (Kd.R_below (by (with_reducible repeat (first | apply Kd.R_alloc | apply Kd.R_drewN | apply Kd.R_drew)); exact HO137.out) hb); have n1_ := Aside0.mk (Kd.R_below (by (with_reducible repeat (first | apply Kd.R_alloc | apply Kd.R_drewN | apply Kd.R_drew)); exact HO140.out) hb); have n2_ := Aside0.mk (below_step (by repeat (first | (with_reducible first | exact HB.out | apply below_alloc | apply pw_below_drewN | apply below_drew1) | exact HB.out)) hb); clear HO137; clear HO140; clear HB; have HO137 := n0_; have HO140 := n1_; have HB := n2_; clear n0_ n1_ n2_; (try clear hb); (try clear hb2); (try clear hk); (try clear hi); obtain ⟨Ao19, co19, eo19⟩ := Kd.R_slice HO140.out; subst eo19) | ((with_reducible refine gate_callee (f := 23) rfl ?_); refine goesL_ (some 38) rfl rfl Tryd.func23 (by kernel_rfl) rfl #[.string a2, .int .i64 a4, .string a5, .int .i64 a6, .slice Ao19 t138.length co19] rfl (by (try simp only [List.map_toArray, List.map_cons, List.map_nil]); first | done | rfl | (simp only [List.length_drop, List.length_take]; rfl)) ?_; (with_reducible refine (digest_VerifyExtension.calls a2 a4 a5 a6 _ _ t138 t142 _ ?side1 ?side2 ?side3 A12.out).mono ?_); (case side1 => repeat (first | exact (Kd.R_reads' HO140.out).2.2 | (with_reducible refine Kd.C_alloc ?_ _) | (with_reducible refine Kd.C_drewN ?_ _) | (with_reducible refine Kd.C_drew ?_))); (case side2 => exact (Kd.R_reads' HO140.out).2.1); (case side3 => exact Amb.below hG_ (by repeat (first | (with_reducible first | exact HB.out | apply below_alloc | apply pw_below_drewN | apply below_drew1) | exact HB.out))); rintro e w20 ⟨rfl, hb⟩; refine ⟨_, rfl, ?_⟩; have n0_ := Aside0.mk (Kd.R_below (by (with_reducible repeat (first | apply Kd.R_alloc | apply Kd.R_drewN | apply Kd.R_drew)); exact HO137.out) hb); have n1_ := Aside0.mk (Kd.R_below (by (with_reducible repeat (first | apply Kd.R_alloc | apply Kd.R_drewN | apply Kd.R_drew)); exact HO140.out) hb); have n2_ := Aside0.mk (below_step (by repeat (first | (with_reducible first | exact HB.out | apply below_alloc | apply pw_below_drewN | apply below_drew1) | exact HB.out)) hb); clear HO137; clear HO140; clear HB; have HO137 := n0_; have HO140 := n1_; have HB := n2_; clear n0_ n1_ n2_; (try clear hb); (try clear hb2); (try clear hk); (try clear hi)))
 (try simp only [Act.put, List.setIfInBounds_toArray, List.set_cons_zero, List.set_cons_succ])
 go_cut [49] (fun v49 wc => ∃ (kq : Nat) (x49_12 : Bool), v49 = .bool x49_12 ∧ Aside0 (clearwaylaw02_DigestExtensionBinding.j0 kq a0 t135 a2 t138 a4 a6 t134 x49_12 = some r) ∧ Aside0 (kq ≤ k) ∧ Aside0 (Kd.R Kd.string 9 wc w.heap.size (fun k_ => some k_ ≠ ((.slice Ao19 t138.length co19) : Value).ownBlock) (.slice Ao17 t135.length co17) t135) ∧ Aside0 (Kd.R Kd.string 9 wc w.heap.size (fun k_ => some k_ ≠ ((.slice Ao17 t135.length co17) : Value).ownBlock) (.slice Ao19 t138.length co19) t138) ∧ Aside0 (Below w.heap.size w wc))
 case first =>
  have H := HC13.out
  clear HC13
  by_cases c21 : t141 = true
  ·subst c21
   have H1 : (if t142 = true then (clearwaylaw02_DigestExtensionBinding.j0 k a0 t135 a2 t138 a4 a6 t134 (a0.toList == a2.toList)) else (clearwaylaw02_DigestExtensionBinding.j0 k a0 t135 a2 t138 a4 a6 t134 true)) = some r := by rw [if_pos rfl] at H; exact H
   clear H
   have H := H1
   clear H1
   by_cases c22 : t142 = true
   ·subst c22
    have H1 : (clearwaylaw02_DigestExtensionBinding.j0 k a0 t135 a2 t138 a4 a6 t134 (a0.toList == a2.toList)) = some r := by rw [if_pos rfl] at H; exact H
    clear H
    have H := H1
    clear H1
    have H' := Aside0.mk H
    clear H
    go_wp2
    go_meet
    case rel => exact ⟨_, ((a0.toList == a2.toList)), (by first | rfl | (simp; done) | (simp [*]; done)), H', ⟨by first | omega | exact Nat.le_refl _⟩, ⟨by (with_reducible repeat (first | apply Kd.R_alloc | apply Kd.R_drewN | apply Kd.R_drew)); exact Kd.R_mono HO137.out (fun _ hk => hk.2)⟩, ⟨by (with_reducible repeat (first | apply Kd.R_alloc | apply Kd.R_drewN | apply Kd.R_drew)); exact Kd.R_mono HO140.out (fun _ hk => hk.2)⟩, ⟨by repeat (first | (with_reducible first | exact HB.out | apply below_alloc | apply pw_below_drewN | apply below_drew1) | exact HB.out)⟩⟩
   ·replace c22 := Bool.eq_false_iff.mpr c22
    subst c22
    have H1 : (clearwaylaw02_DigestExtensionBinding.j0 k a0 t135 a2 t138 a4 a6 t134 true) = some r := by rw [if_neg (show ¬ (false = true) by decide)] at H; exact H
    clear H
    have H := H1
    clear H1
    have H' := Aside0.mk H
    clear H
    go_wp2
    go_meet
    case rel => exact ⟨_, (true), (by first | rfl | (simp; done) | (simp [*]; done)), H', ⟨by first | omega | exact Nat.le_refl _⟩, ⟨by (with_reducible repeat (first | apply Kd.R_alloc | apply Kd.R_drewN | apply Kd.R_drew)); exact Kd.R_mono HO137.out (fun _ hk => hk.2)⟩, ⟨by (with_reducible repeat (first | apply Kd.R_alloc | apply Kd.R_drewN | apply Kd.R_drew)); exact Kd.R_mono HO140.out (fun _ hk => hk.2)⟩, ⟨by repeat (first | (with_reducible first | exact HB.out | apply below_alloc | apply pw_below_drewN | apply below_drew1) | exact HB.out)⟩⟩
  ·replace c21 := Bool.eq_false_iff.mpr c21
   subst c21
   have H1 : (clearwaylaw02_DigestExtensionBinding.j0 k a0 t135 a2 t138 a4 a6 t134 true) = some r := by rw [if_neg (show ¬ (false = true) by decide)] at H; exact H
   clear H
   have H := H1
   clear H1
   have H' := Aside0.mk H
   clear H
   go_wp2
   go_meet
   case rel => exact ⟨_, (true), (by first | rfl | (simp; done) | (simp [*]; done)), H', ⟨by first | omega | exact Nat.le_refl _⟩, ⟨by (with_reducible repeat (first | apply Kd.R_alloc | apply Kd.R_drewN | apply Kd.R_drew)); exact Kd.R_mono HO137.out (fun _ hk => hk.2)⟩, ⟨by (with_reducible repeat (first | apply Kd.R_alloc | apply Kd.R_drewN | apply Kd.R_drew)); exact Kd.R_mono HO140.out (fun _ hk => hk.2)⟩, ⟨by repeat (first | (with_reducible first | exact HB.out | apply below_alloc | apply pw_below_drewN | apply below_drew1) | exact HB.out)⟩⟩
 case rest =>
  clear HC13
  try clear c1
  try clear c2
  try clear p2
  try clear c3
  try clear c8
  try clear c12
  try clear c13
  try clear c21
  try clear c22
  obtain ⟨kq, x49_12, rfl, HA, HJ12, HO_1, HO_3, HB⟩ := hcut
  cases kq with
  | zero => exact absurd HA.out (by simp [clearwaylaw02_DigestExtensionBinding.j0])
  | succ kj12 =>
   have H := HA.out
   clear HA
   simp only [clearwaylaw02_DigestExtensionBinding.j0] at H
   by_cases c23 : x49_12 = true
   ·subst c23
    have H1 : (some t134) = some r := by rw [if_pos rfl] at H; exact H
    clear H
    have H := H1
    clear H1
    obtain rfl := Option.some.inj H
    go_wp2
    go_ret
    exact ⟨by first | rfl | (simp [errW_none, errW_some] <;> rfl) | (simp [*, errW_none, errW_some] <;> rfl), by repeat (first | (with_reducible first | exact HB.out | apply below_alloc | apply pw_below_drewN | apply below_drew1) | exact HB.out)⟩
   ·replace c23 := Bool.eq_false_iff.mpr c23
    subst c23
    have H1 : ((clearwaylaw02_sides.f kj12 a0 a4 a6 t135 true).bind fun bt143 => ((clearwaylaw02_sides.f kj12 a2 a4 a6 t138 true).bind fun bt147 => (if t134 = true then ((clearwaylaw02_collide.f kj12 bt143.1 bt147.1).bind fun t151 => (some t151)) else (some false)))) = some r := by rw [if_neg (show ¬ (false = true) by decide)] at H; exact H
    clear H
    have H := H1
    clear H1
    replace H := Option.bind_eq_some_iff.mp H
    obtain ⟨⟨t143, t144⟩, A240, H⟩ := H
    replace H : ((clearwaylaw02_sides.f kj12 a2 a4 a6 t138 true).bind fun bt147 => (if t134 = true then ((clearwaylaw02_collide.f kj12 t143 bt147.1).bind fun t151 => (some t151)) else (some false))) = some r := H
    have A24 := Aside0.mk A240
    clear A240
    replace H := Option.bind_eq_some_iff.mp H
    obtain ⟨⟨t147, t148⟩, A250, H⟩ := H
    replace H : (if t134 = true then ((clearwaylaw02_collide.f kj12 t143 t147).bind fun t151 => (some t151)) else (some false)) = some r := H
    have A25 := Aside0.mk A250
    clear A250
    by_cases c26 : t134 = true
    ·subst c26
     have H1 : ((clearwaylaw02_collide.f kj12 t143 t147).bind fun t151 => (some t151)) = some r := by rw [if_pos rfl] at H; exact H
     clear H
     have H := H1
     clear H1
     replace H := Option.bind_eq_some_iff.mp H
     obtain ⟨t151, A270, H⟩ := H
     replace H : (some t151) = some r := H
     have A27 := Aside0.mk A270
     clear A270
     obtain rfl := Option.some.inj H
     go_wp2_with (first | ((with_reducible refine gate_callee (f := 28) rfl ?_); refine goesL_ (some 56) rfl rfl Tryd.func28 (by kernel_rfl) rfl #[.string a0, .int .i64 a4, .int .i64 a6, .slice Ao17 t135.length co17, .bool true] rfl (by (try simp only [List.map_toArray, List.map_cons, List.map_nil]); first | done | rfl | (simp only [List.length_drop, List.length_take]; rfl)) ?_; (with_reducible refine (clearwaylaw02_sides.calls kj12 a0 a4 a6 _ _ t135 true t143 t144 _ ?side1 ?side2 ?side3 A24.out).mono ?_); (case side1 => repeat (first | exact (Kd.R_reads' HO_1.out).2.2 | (with_reducible refine Kd.C_alloc ?_ _) | (with_reducible refine Kd.C_drewN ?_ _) | (with_reducible refine Kd.C_drew ?_))); (case side2 => exact (Kd.R_reads' HO_1.out).2.1); (case side3 => exact Amb.below hG_ (by repeat (first | (with_reducible first | exact HB.out | apply below_alloc | apply pw_below_drewN | apply below_drew1) | exact HB.out))); rintro e w28 ⟨v145, rfl, ho0, hb⟩; refine ⟨_, rfl, ?_⟩; have n0_ := Aside0.mk (Kd.R_elder' (by (with_reducible repeat (first | apply Kd.R_alloc | apply Kd.R_drewN | apply Kd.R_drew)); exact HO_1.out) (Kd.R_base ho0) hb); have n1_ := Aside0.mk (Kd.R_elder' (by (with_reducible repeat (first | apply Kd.R_alloc | apply Kd.R_drewN | apply Kd.R_drew)); exact HO_3.out) (Kd.R_base ho0) hb); have n2_ := Aside0.mk (Kd.R_lower (Kd.R_new' (Kd.R_new' ho0 (Kd.R_lt (by (with_reducible repeat (first | apply Kd.R_alloc | apply Kd.R_drewN | apply Kd.R_drew)); exact HO_1.out))) (Kd.R_lt (by (with_reducible repeat (first | apply Kd.R_alloc | apply Kd.R_drewN | apply Kd.R_drew)); exact HO_3.out))) (below_size (by repeat (first | (with_reducible first | exact HB.out | apply below_alloc | apply pw_below_drewN | apply below_drew1) | exact HB.out)))); have n3_ := Aside0.mk (below_step (by repeat (first | (with_reducible first | exact HB.out | apply below_alloc | apply pw_below_drewN | apply below_drew1) | exact HB.out)) hb); clear HO_1; clear HO_3; clear HB; have HO_1 := n0_; have HO_3 := n1_; have HO146 := n2_; have HB := n3_; clear n0_ n1_ n2_ n3_; (try clear hb); (try clear hb2); (try clear hk); (try clear hi); (try clear ho0)) | ((with_reducible refine gate_callee (f := 28) rfl ?_); refine goesL_ (some 64) rfl rfl Tryd.func28 (by kernel_rfl) rfl #[.string a2, .int .i64 a4, .int .i64 a6, .slice Ao19 t138.length co19, .bool true] rfl (by (try simp only [List.map_toArray, List.map_cons, List.map_nil]); first | done | rfl | (simp only [List.length_drop, List.length_take]; rfl)) ?_; (with_reducible refine (clearwaylaw02_sides.calls kj12 a2 a4 a6 _ _ t138 true t147 t148 _ ?side1 ?side2 ?side3 A25.out).mono ?_); (case side1 => repeat (first | exact (Kd.R_reads' HO_3.out).2.2 | (with_reducible refine Kd.C_alloc ?_ _) | (with_reducible refine Kd.C_drewN ?_ _) | (with_reducible refine Kd.C_drew ?_))); (case side2 => exact (Kd.R_reads' HO_3.out).2.1); (case side3 => exact Amb.below hG_ (by repeat (first | (with_reducible first | exact HB.out | apply below_alloc | apply pw_below_drewN | apply below_drew1) | exact HB.out))); rintro e w29 ⟨v149, rfl, ho0, hb⟩; refine ⟨_, rfl, ?_⟩; have n0_ := Aside0.mk (Kd.R_elder' (by (with_reducible repeat (first | apply Kd.R_alloc | apply Kd.R_drewN | apply Kd.R_drew)); exact HO_1.out) (Kd.R_base ho0) hb); have n1_ := Aside0.mk (Kd.R_elder' (by (with_reducible repeat (first | apply Kd.R_alloc | apply Kd.R_drewN | apply Kd.R_drew)); exact HO_3.out) (Kd.R_base ho0) hb); have n2_ := Aside0.mk (Kd.R_elder' (by (with_reducible repeat (first | apply Kd.R_alloc | apply Kd.R_drewN | apply Kd.R_drew)); exact HO146.out) (Kd.R_base ho0) hb); have n3_ := Aside0.mk (Kd.R_lower (Kd.R_new' (Kd.R_new' (Kd.R_new' ho0 (Kd.R_lt (by (with_reducible repeat (first | apply Kd.R_alloc | apply Kd.R_drewN | apply Kd.R_drew)); exact HO_1.out))) (Kd.R_lt (by (with_reducible repeat (first | apply Kd.R_alloc | apply Kd.R_drewN | apply Kd.R_drew)); exact HO_3.out))) (Kd.R_lt (by (with_reducible repeat (first | apply Kd.R_alloc | apply Kd.R_drewN | apply Kd.R_drew)); exact HO146.out))) (below_size (by repeat (first | (with_reducible first | exact HB.out | apply below_alloc | apply pw_below_drewN | apply below_drew1) | exact HB.out)))); have n4_ := Aside0.mk (below_step (by repeat (first | (with_reducible first | exact HB.out | apply below_alloc | apply pw_below_drewN | apply below_drew1) | exact HB.out)) hb); clear HO_1; clear HO_3; clear HO146; clear HB; have HO_1 := n0_; have HO_3 := n1_; have HO146 := n2_; have HO150 := n3_; have HB := n4_; clear n0_ n1_ n2_ n3_ n4_; (try clear hb); (try clear hb2); (try clear hk); (try clear hi); (try clear ho0); obtain ⟨Ao30, co30, eo30⟩ := Kd.R_slice HO146.out; subst eo30; obtain ⟨Ao31, co31, eo31⟩ := Kd.R_slice HO150.out; subst eo31) | (go_at_call 27; (with_reducible refine (clearwaylaw02_collide.calls kj12 _ _ t143 _ _ t147 t151 _ ?side1 ?side2 ?side3 ?side4 ?side5 A27.out).mono ?_); (case side1 => repeat (first | exact (Kd.R_reads' HO146.out).2.2 | (with_reducible refine Kd.C_alloc ?_ _) | (with_reducible refine Kd.C_drewN ?_ _) | (with_reducible refine Kd.C_drew ?_))); (case side2 => exact (Kd.R_reads' HO146.out).2.1); (case side3 => repeat (first | exact (Kd.R_reads' HO150.out).2.2 | (with_reducible refine Kd.C_alloc ?_ _) | (with_reducible refine Kd.C_drewN ?_ _) | (with_reducible refine Kd.C_drew ?_))); (case side4 => exact (Kd.R_reads' HO150.out).2.1); (case side5 => exact Amb.below hG_ (by repeat (first | (with_reducible first | exact HB.out | apply below_alloc | apply pw_below_drewN | apply below_drew1) | exact HB.out))); rintro e w32 ⟨rfl, hb⟩; have n0_ := Aside0.mk (Kd.R_below (by (with_reducible repeat (first | apply Kd.R_alloc | apply Kd.R_drewN | apply Kd.R_drew)); exact HO_1.out) hb); have n1_ := Aside0.mk (Kd.R_below (by (with_reducible repeat (first | apply Kd.R_alloc | apply Kd.R_drewN | apply Kd.R_drew)); exact HO_3.out) hb); have n2_ := Aside0.mk (Kd.R_below (by (with_reducible repeat (first | apply Kd.R_alloc | apply Kd.R_drewN | apply Kd.R_drew)); exact HO146.out) hb); have n3_ := Aside0.mk (Kd.R_below (by (with_reducible repeat (first | apply Kd.R_alloc | apply Kd.R_drewN | apply Kd.R_drew)); exact HO150.out) hb); have n4_ := Aside0.mk (below_step (by repeat (first | (with_reducible first | exact HB.out | apply below_alloc | apply pw_below_drewN | apply below_drew1) | exact HB.out)) hb); clear HO_1; clear HO_3; clear HO146; clear HO150; clear HB; have HO_1 := n0_; have HO_3 := n1_; have HO146 := n2_; have HO150 := n3_; have HB := n4_; clear n0_ n1_ n2_ n3_ n4_; (try clear hb); (try clear hb2); (try clear hk); (try clear hi)))
     go_ret
     exact ⟨by first | rfl | (simp [errW_none, errW_some] <;> rfl) | (simp [*, errW_none, errW_some] <;> rfl), by repeat (first | (with_reducible first | exact HB.out | apply below_alloc | apply pw_below_drewN | apply below_drew1) | exact HB.out)⟩
    ·replace c26 := Bool.eq_false_iff.mpr c26
     subst c26
     have H1 : (some false) = some r := by rw [if_neg (show ¬ (false = true) by decide)] at H; exact H
     clear H
     have H := H1
     clear H1
     obtain rfl := Option.some.inj H
     go_wp2_with (first | ((with_reducible refine gate_callee (f := 28) rfl ?_); refine goesL_ (some 56) rfl rfl Tryd.func28 (by kernel_rfl) rfl #[.string a0, .int .i64 a4, .int .i64 a6, .slice Ao17 t135.length co17, .bool true] rfl (by (try simp only [List.map_toArray, List.map_cons, List.map_nil]); first | done | rfl | (simp only [List.length_drop, List.length_take]; rfl)) ?_; (with_reducible refine (clearwaylaw02_sides.calls kj12 a0 a4 a6 _ _ t135 true t143 t144 _ ?side1 ?side2 ?side3 A24.out).mono ?_); (case side1 => repeat (first | exact (Kd.R_reads' HO_1.out).2.2 | (with_reducible refine Kd.C_alloc ?_ _) | (with_reducible refine Kd.C_drewN ?_ _) | (with_reducible refine Kd.C_drew ?_))); (case side2 => exact (Kd.R_reads' HO_1.out).2.1); (case side3 => exact Amb.below hG_ (by repeat (first | (with_reducible first | exact HB.out | apply below_alloc | apply pw_below_drewN | apply below_drew1) | exact HB.out))); rintro e w33 ⟨v145, rfl, ho0, hb⟩; refine ⟨_, rfl, ?_⟩; have n0_ := Aside0.mk (Kd.R_elder' (by (with_reducible repeat (first | apply Kd.R_alloc | apply Kd.R_drewN | apply Kd.R_drew)); exact HO_1.out) (Kd.R_base ho0) hb); have n1_ := Aside0.mk (Kd.R_elder' (by (with_reducible repeat (first | apply Kd.R_alloc | apply Kd.R_drewN | apply Kd.R_drew)); exact HO_3.out) (Kd.R_base ho0) hb); have n2_ := Aside0.mk (Kd.R_lower (Kd.R_new' (Kd.R_new' ho0 (Kd.R_lt (by (with_reducible repeat (first | apply Kd.R_alloc | apply Kd.R_drewN | apply Kd.R_drew)); exact HO_1.out))) (Kd.R_lt (by (with_reducible repeat (first | apply Kd.R_alloc | apply Kd.R_drewN | apply Kd.R_drew)); exact HO_3.out))) (below_size (by repeat (first | (with_reducible first | exact HB.out | apply below_alloc | apply pw_below_drewN | apply below_drew1) | exact HB.out)))); have n3_ := Aside0.mk (below_step (by repeat (first | (with_reducible first | exact HB.out | apply below_alloc | apply pw_below_drewN | apply below_drew1) | exact HB.out)) hb); clear HO_1; clear HO_3; clear HB; have HO_1 := n0_; have HO_3 := n1_; have HO146 := n2_; have HB := n3_; clear n0_ n1_ n2_ n3_; (try clear hb); (try clear hb2); (try clear hk); (try clear hi); (try clear ho0)) | ((with_reducible refine gate_callee (f := 28) rfl ?_); refine goesL_ (some 64) rfl rfl Tryd.func28 (by kernel_rfl) rfl #[.string a2, .int .i64 a4, .int .i64 a6, .slice Ao19 t138.length co19, .bool true] rfl (by (try simp only [List.map_toArray, List.map_cons, List.map_nil]); first | done | rfl | (simp only [List.length_drop, List.length_take]; rfl)) ?_; (with_reducible refine (clearwaylaw02_sides.calls kj12 a2 a4 a6 _ _ t138 true t147 t148 _ ?side1 ?side2 ?side3 A25.out).mono ?_); (case side1 => repeat (first | exact (Kd.R_reads' HO_3.out).2.2 | (with_reducible refine Kd.C_alloc ?_ _) | (with_reducible refine Kd.C_drewN ?_ _) | (with_reducible refine Kd.C_drew ?_))); (case side2 => exact (Kd.R_reads' HO_3.out).2.1); (case side3 => exact Amb.below hG_ (by repeat (first | (with_reducible first | exact HB.out | apply below_alloc | apply pw_below_drewN | apply below_drew1) | exact HB.out))); rintro e w34 ⟨v149, rfl, ho0, hb⟩; refine ⟨_, rfl, ?_⟩; have n0_ := Aside0.mk (Kd.R_elder' (by (with_reducible repeat (first | apply Kd.R_alloc | apply Kd.R_drewN | apply Kd.R_drew)); exact HO_1.out) (Kd.R_base ho0) hb); have n1_ := Aside0.mk (Kd.R_elder' (by (with_reducible repeat (first | apply Kd.R_alloc | apply Kd.R_drewN | apply Kd.R_drew)); exact HO_3.out) (Kd.R_base ho0) hb); have n2_ := Aside0.mk (Kd.R_elder' (by (with_reducible repeat (first | apply Kd.R_alloc | apply Kd.R_drewN | apply Kd.R_drew)); exact HO146.out) (Kd.R_base ho0) hb); have n3_ := Aside0.mk (Kd.R_lower (Kd.R_new' (Kd.R_new' (Kd.R_new' ho0 (Kd.R_lt (by (with_reducible repeat (first | apply Kd.R_alloc | apply Kd.R_drewN | apply Kd.R_drew)); exact HO_1.out))) (Kd.R_lt (by (with_reducible repeat (first | apply Kd.R_alloc | apply Kd.R_drewN | apply Kd.R_drew)); exact HO_3.out))) (Kd.R_lt (by (with_reducible repeat (first | apply Kd.R_alloc | apply Kd.R_drewN | apply Kd.R_drew)); exact HO146.out))) (below_size (by repeat (first | (with_reducible first | exact HB.out | apply below_alloc | apply pw_below_drewN | apply below_drew1) | exact HB.out)))); have n4_ := Aside0.mk (below_step (by repeat (first | (with_reducible first | exact HB.out | apply below_alloc | apply pw_below_drewN | apply below_drew1) | exact HB.out)) hb); clear HO_1; clear HO_3; clear HO146; clear HB; have HO_1 := n0_; have HO_3 := n1_; have HO146 := n2_; have HO150 := n3_; have HB := n4_; clear n0_ n1_ n2_ n3_ n4_; (try clear hb); (try clear hb2); (try clear hk); (try clear hi); (try clear ho0)))
     go_ret
     exact ⟨by first | rfl | (simp [errW_none, errW_some] <;> rfl) | (simp [*, errW_none, errW_some] <;> rfl), by repeat (first | (with_reducible first | exact HB.out | apply below_alloc | apply pw_below_drewN | apply below_drew1) | exact HB.out)⟩

end Go.Proofs.YtjkdenldddjcnaaDoor.Dh
set_option linter.unusedVariables false
set_option linter.unusedSimpArgs false
namespace Go.Proofs.YtjkdenldddjcnaaDoor.Sha
open Go Go.RowKit Go.Proofs.YtjkdenldddjcnaaDoor.Df Go.Proofs.YtjkdenldddjcnaaDoor.Dh Go.Proofs.YtjkdenldddjcnaaDoorW.PrintWords Go.Proofs.YtjkdenldddjcnaaDoorW.PrintLast Go.Proofs.YtjkdenldddjcnaaDoorW.PrintMore

/-- The strings along an extension's proof (its last element first), and its value. -/
def sd (old : ByteArray) : List ByteArray → Nat → Nat → Bool → List ByteArray × ByteArray
  | [], _, _, _ => ([], old)
  | x :: r, m, n, wh => if n ≤ m then ([], if wh = true then old else (x :: r).getLast (List.cons_ne_nil _ _)) else if leftN n < m then ([(⟨#[1]⟩ ++ x) ++ (sd old r (m - leftN n) (n - leftN n) false).2] ++ (sd old r (m - leftN n) (n - leftN n) false).1, nodeF x (sd old r (m - leftN n) (n - leftN n) false).2)
    else ([(⟨#[1]⟩ ++ (sd old r m (leftN n) wh).2) ++ x] ++ (sd old r m (leftN n) wh).1, nodeF (sd old r m (leftN n) wh).2 x)
/-- The older root that such a proof comes to. -/
def od (old : ByteArray) : List ByteArray → Nat → Nat → Bool → ByteArray
  | [], _, _, _ => old
  | x :: r, m, n, wh => if n ≤ m then (if wh = true then old else (x :: r).getLast (List.cons_ne_nil _ _)) else if leftN n < m then nodeF x (od old r (m - leftN n) (n - leftN n) false) else od old r m (leftN n) wh
theorem sd_size (old : ByteArray) (ho : old.size = 32) (rev : List ByteArray) (hr : ∀ x ∈ rev, x.size = 32) : ∀ m n wh, (sd old rev m n wh).2.size = 32 ∧ (sd old rev m n wh).1.length ≤ rev.length := by
  induction rev with
  | nil => intro m n wh; exact ⟨ho, by simp [sd]⟩
  | cons x r ih =>
    have ih := ih (fun z hz => hr z (List.mem_cons_of_mem _ hz))
    intro m n wh
    rw [sd]
    by_cases h1 : n ≤ m
    · rw [if_pos h1]
      refine ⟨?_, by simp⟩
      by_cases hw : wh = true
      · show (if wh = true then old else _).size = 32
        rw [if_pos hw]; exact ho
      · show (if wh = true then old else _).size = 32
        rw [if_neg hw]; exact hr _ (List.getLast_mem _)
    · rw [if_neg h1]
      by_cases h2 : leftN n < m
      · rw [if_pos h2]
        have := (ih (m - leftN n) (n - leftN n) false).2
        exact ⟨node_size _ _, by simp; omega⟩
      · rw [if_neg h2]
        have := (ih m (leftN n) wh).2
        exact ⟨node_size _ _, by simp; omega⟩
theorem sd_sizes (old : ByteArray) (ho : old.size = 32) (rev : List ByteArray) (hr : ∀ x ∈ rev, x.size = 32) : ∀ m n wh, ∀ y ∈ (sd old rev m n wh).1, y.size ≤ 200 := by
  induction rev with
  | nil => intro m n wh y hy; rw [sd] at hy; cases hy
  | cons x r ih =>
    intro m n wh y hy
    have hx := hr x List.mem_cons_self
    have hr' : ∀ z ∈ r, z.size = 32 := fun z hz => hr z (List.mem_cons_of_mem _ hz)
    have ih := ih hr'
    have e1 : (⟨#[1]⟩ : ByteArray).size = 1 := rfl
    rw [sd] at hy
    by_cases h1 : n ≤ m
    · rw [if_pos h1] at hy; cases hy
    · rw [if_neg h1] at hy
      by_cases h2 : leftN n < m
      · rw [if_pos h2] at hy
        rcases List.mem_append.1 hy with h | h
        · rw [List.mem_singleton.1 h, ByteArray.size_append, ByteArray.size_append, (sd_size old ho r hr' _ _ _).1]
          omega
        · exact ih _ _ _ y h
      · rw [if_neg h2] at hy
        rcases List.mem_append.1 hy with h | h
        · rw [List.mem_singleton.1 h, ByteArray.size_append, ByteArray.size_append, (sd_size old ho r hr' _ _ _).1]
          omega
        · exact ih _ _ _ y h
theorem rev_first (x : ByteArray) (r : List ByteArray) : rdOf ByteArray.empty (x :: r).reverse 0 = (x :: r).getLast (List.cons_ne_nil _ _) := by
  have h : (x :: r).reverse[0]? = some ((x :: r).getLast (List.cons_ne_nil _ _)) := by
    rw [List.getElem?_reverse (by simp), List.getLast_eq_getElem, List.getElem?_eq_getElem (by simp)]
    simp
  exact rdOf_at (j := 0) h
theorem sides_f (old : ByteArray) (ho : old.size = 32) : ∀ (rev : List ByteArray), (∀ x ∈ rev, x.size = 32) → rev.length ≤ 1000000 → ∀ (k m n : Nat) (wh : Bool), 1 ≤ m → n ≤ 9223372036854775807 → m ≤ 9223372036854775807 → 2 * rev.length + 70 ≤ k →
    clearwaylaw02_sides.f k old (m : Int) (n : Int) rev.reverse wh = some (sd old rev m n wh) := by
  intro rev
  have e1 : (⟨#[1]⟩ : ByteArray).size = 1 := rfl
  induction rev with
  | nil =>
    intro _ _ k m n wh hm hn hmm hk
    obtain ⟨f, rfl⟩ : ∃ f, k = f + 1 + 1 := ⟨k - 2, by simp at hk; omega⟩
    rw [clearwaylaw02_sides.f]
    have : ∀ b : Bool, b = true → clearwaylaw02_sides.j0 (f + 1) old (m : Int) (n : Int) [] wh b = some (sd old [] m n wh) := by
      intro b hb
      rw [clearwaylaw02_sides.j0, if_pos hb]
      by_cases hw : wh = true
      · rw [if_pos hw]; rfl
      · rw [if_neg hw, if_pos (by decide)]; rfl
    by_cases h1 : (m : Int) ≥ (n : Int)
    · rw [if_pos h1]; exact this _ rfl
    · rw [if_neg h1]; exact this _ (by decide)
  | cons x r ih =>
    intro hx hl k m n wh hm hn hmm hk
    have hx0 := hx x List.mem_cons_self
    have hr : ∀ z ∈ r, z.size = 32 := fun z hz => hx z (List.mem_cons_of_mem _ hz)
    have ih := ih hr (by simp at hl; omega)
    simp only [List.length_cons] at hl hk
    obtain ⟨f, rfl⟩ : ∃ f, k = f + 1 + 1 := ⟨k - 2, by omega⟩
    have hlen : ((x :: r).reverse.length : Int) = (r.length : Int) + 1 := by simp
    rw [clearwaylaw02_sides.f, sd]
    by_cases h1 : n ≤ m
    · rw [if_pos (show (m : Int) ≥ (n : Int) by omega), if_pos h1, clearwaylaw02_sides.j0, if_pos rfl]
      by_cases hw : wh = true
      · rw [if_pos hw, if_pos hw]
      · rw [if_neg hw, if_neg (by omega), if_pos (by omega), if_neg hw, rev_first]
    · rw [if_neg (show ¬((m : Int) ≥ (n : Int)) by omega), if_neg h1, clearwaylaw02_sides.j0]
      have hw : wrap64 ((r.length : Int) + 1 - 1) = ((r.length : Nat) : Int) := by unfold wrap64; omega
      have hrd : rdOf ByteArray.empty (x :: r).reverse ((r.length : Nat) : Int) = x := rdOf_at (by simp)
      have htk : (x :: r).reverse.take ((r.length : Nat) : Int).toNat = r.reverse := by simp
      rw [hlen, if_neg (by simp; omega), hw, if_pos (by omega), if_pos (by omega), if_pos (by omega), left_f n f (by omega) hn (by omega), Option.bind_some, hrd, htk]
      have hlt := leftN_lt n (by omega) hn
      by_cases h2 : leftN n < m
      · have z := (sd_size old ho r hr (m - leftN n) (n - leftN n) false)
        have w1 : wrap64 ((n : Int) - (leftN n : Int)) = ((n - leftN n : Nat) : Int) := by unfold wrap64; omega
        have w2 : wrap64 ((m : Int) - (leftN n : Int)) = ((m - leftN n : Nat) : Int) := by unfold wrap64; omega
        rw [if_neg (by omega), if_pos h2, w1, w2, ih f _ _ _ (by omega) (by omega) (by omega) (by omega), Option.bind_some, if_pos (by omega), if_pos (by rw [ByteArray.size_append]; omega), Option.bind_some, if_pos (by simp; omega)]
        unfold digest_Node.f
        rw [if_pos (by omega)]
        rfl
      · have z := (sd_size old ho r hr m (leftN n) wh)
        rw [if_pos (by omega), if_neg h2, ih f _ _ _ (by omega) (by omega) (by omega) (by omega), Option.bind_some, if_pos (by omega), if_pos (by rw [ByteArray.size_append]; omega), Option.bind_some, if_pos (by simp; omega)]
        unfold digest_Node.f
        rw [if_pos (by omega)]
        rfl
theorem up_cons (x : ByteArray) (b : Bool) (way : Way) (s : ByteArray) : upF ((x, b) :: way) s = upF way (joinF (x, b) s) := by unfold upF; rw [List.foldl_cons]
theorem upE_cons (x : ByteArray) (b : Bool) (way : Way) (s : ByteArray) : upE ((x, b) :: way) s = upE way (joinE (x, b) s) := by unfold upE; rw [List.foldl_cons]
theorem joinF_t (x s : ByteArray) : joinF (x, true) s = nodeF x s := by rw [joinF, if_pos rfl]
theorem joinF_f (x s : ByteArray) : joinF (x, false) s = nodeF s x := by rw [joinF, if_neg (by simp)]
theorem joinE_t (x s : ByteArray) : joinE (x, true) s = nodeF x s := by rw [joinE, if_pos rfl, joinF_t]
theorem joinE_f (x s : ByteArray) : joinE (x, false) s = s := by rw [joinE, if_neg (by simp)]
/-- What the climbs compute. -/
theorem descE_up (old : ByteArray) : ∀ (rev : List ByteArray) (m n : Nat) (wh : Bool) (way way' : Way) (tail : List ByteArray) (wh' : Bool) (e : ByteArray), descE rev m n wh way = some (way', tail, wh') → (wh' = true ∧ tail = [] ∧ e = old ∨ wh' = false ∧ tail = [e]) →
    upF way' e = upF way (sd old rev m n wh).2 ∧ upE way' e = upE way (od old rev m n wh) := by
  intro rev
  induction rev with
  | nil =>
    intro m n wh way way' tail wh' e h hc
    rw [descE] at h
    by_cases h1 : n ≤ m
    · rw [if_pos h1] at h
      have h2 := Prod.mk.inj (Option.some.inj h)
      have h3 := Prod.mk.inj h2.2
      rcases hc with ⟨_, _, rfl⟩ | ⟨_, ht⟩
      · rw [sd, od, h2.1]; exact ⟨rfl, rfl⟩
      · rw [← h3.1] at ht; cases ht
    · rw [if_neg h1] at h; cases h
  | cons x r ih =>
    intro m n wh way way' tail wh' e h hc
    rw [descE] at h
    by_cases h1 : n ≤ m
    · rw [if_pos h1] at h
      have h2 := Prod.mk.inj (Option.some.inj h)
      have h3 := Prod.mk.inj h2.2
      rcases hc with ⟨_, ht, _⟩ | ⟨hw, ht⟩
      · rw [← h3.1] at ht; cases ht
      · rw [← h3.1] at ht
        obtain ⟨rfl, rfl⟩ := List.cons.inj ht
        rw [sd, od, if_pos h1, if_pos h1, h2.1, h3.2, hw]
        exact ⟨rfl, rfl⟩
    · rw [if_neg h1] at h
      rw [sd, od, if_neg h1, if_neg h1]
      by_cases h2 : leftN n < m
      · rw [if_pos h2] at h
        rw [if_pos h2, if_pos h2]
        have := ih _ _ _ _ _ _ _ e h hc
        rw [up_cons, upE_cons, joinF_t, joinE_t] at this
        exact this
      · rw [if_neg h2] at h
        rw [if_neg h2, if_neg h2]
        have := ih _ _ _ _ _ _ _ e h hc
        rw [up_cons, upE_cons, joinF_f, joinE_f] at this
        exact this
/-- Two proofs of the same value: at some place two different strings with the same digest, or the same older root. -/
theorem sd_collide (a b : ByteArray) (ha : a.size = 32) (hb : b.size = 32) : ∀ (p q : List ByteArray), (∀ x ∈ p, x.size = 32) → (∀ x ∈ q, x.size = 32) → ∀ (m n : Nat) (wh : Bool) (w1 w2 w1' w2' : Way) (t1 t2 : List ByteArray) (u1 u2 : Bool), descE p m n wh w1 = some (w1', t1, u1) → descE q m n wh w2 = some (w2', t2, u2) →
    (u1 = true ∧ t1 = [] ∨ u1 = false ∧ ∃ e, t1 = [e]) → (u2 = true ∧ t2 = [] ∨ u2 = false ∧ ∃ e, t2 = [e]) → (sd a p m n wh).2 = (sd b q m n wh).2 →
    od a p m n wh = od b q m n wh ∨ ∃ j x y, (sd a p m n wh).1[j]? = some x ∧ (sd b q m n wh).1[j]? = some y ∧ x ≠ y ∧ sumF x = sumF y ∧ j ≤ p.length := by
  intro p
  induction p with
  | nil =>
    intro q _ hq m n wh w1 w2 w1' w2' t1 t2 u1 u2 h1 h2 c1 c2 he
    rw [descE] at h1
    by_cases hn : n ≤ m
    · rw [if_pos hn] at h1
      have g1 := Prod.mk.inj (Prod.mk.inj (Option.some.inj h1)).2
      have hwh : wh = true := by
        rcases c1 with ⟨hu, _⟩ | ⟨_, e, ht⟩
        · rw [g1.2, hu]
        · rw [← g1.1] at ht; cases ht
      cases q with
      | nil => exact .inl he
      | cons y r =>
        rw [descE, if_pos hn] at h2
        have g2 := Prod.mk.inj (Prod.mk.inj (Option.some.inj h2)).2
        rcases c2 with ⟨_, ht⟩ | ⟨hu, _⟩
        · rw [← g2.1] at ht; cases ht
        · rw [← g2.2, hwh] at hu; cases hu
    · rw [if_neg hn] at h1; cases h1
  | cons x p ih =>
    intro q hp hq m n wh w1 w2 w1' w2' t1 t2 u1 u2 h1 h2 c1 c2 he
    rw [descE] at h1
    by_cases hn : n ≤ m
    · rw [if_pos hn] at h1
      have g1 := Prod.mk.inj (Prod.mk.inj (Option.some.inj h1)).2
      have hwh : wh = false := by
        rcases c1 with ⟨_, ht⟩ | ⟨hu, _⟩
        · rw [← g1.1] at ht; cases ht
        · rw [g1.2, hu]
      subst hwh
      cases q with
      | nil =>
        rw [descE, if_pos hn] at h2
        have g2 := Prod.mk.inj (Prod.mk.inj (Option.some.inj h2)).2
        rcases c2 with ⟨hu, _⟩ | ⟨_, e, ht⟩
        · rw [← g2.2] at hu; cases hu
        · rw [← g2.1] at ht; cases ht
      | cons y r =>
        left
        rw [sd, sd, if_pos hn, if_pos hn] at he
        rw [od, od, if_pos hn, if_pos hn]
        exact he
    · rw [if_neg hn] at h1
      cases q with
      | nil => rw [descE, if_neg hn] at h2; cases h2
      | cons y q =>
        rw [descE, if_neg hn] at h2
        have hx := hp x List.mem_cons_self
        have hy := hq y List.mem_cons_self
        have hp' : ∀ z ∈ p, z.size = 32 := fun z hz => hp z (List.mem_cons_of_mem _ hz)
        have hq' : ∀ z ∈ q, z.size = 32 := fun z hz => hq z (List.mem_cons_of_mem _ hz)
        have ih := ih q hp' hq'
        rw [sd, sd, if_neg hn, if_neg hn] at he ⊢
        rw [od, od, if_neg hn, if_neg hn]
        by_cases hi : leftN n < m
        · rw [if_pos hi] at h1 h2
          rw [if_pos hi, if_pos hi] at he ⊢
          rw [if_pos hi, if_pos hi]
          by_cases hne : (⟨#[1]⟩ ++ x) ++ (sd a p (m - leftN n) (n - leftN n) false).2 = (⟨#[1]⟩ ++ y) ++ (sd b q (m - leftN n) (n - leftN n) false).2
          · rw [app3, app3] at hne
            have e1 := app_inj (app_inj hne rfl).2 (hx.trans hy.symm)
            rcases ih _ _ _ _ _ _ _ _ _ _ _ h1 h2 c1 c2 e1.2 with h | ⟨j, u, v, g1, g2, g3, g4, g5⟩
            · left; rw [h, e1.1]
            · exact .inr ⟨j + 1, u, v, by simpa using g1, by simpa using g2, g3, g4, by simp; omega⟩
          · refine .inr ⟨0, _, _, rfl, rfl, hne, ?_, Nat.zero_le _⟩
            rw [app3, app3]
            exact he
        · rw [if_neg hi] at h1 h2
          rw [if_neg hi, if_neg hi] at he ⊢
          rw [if_neg hi, if_neg hi]
          have z1 := (sd_size a ha p hp' m (leftN n) wh).1
          have z2 := (sd_size b hb q hq' m (leftN n) wh).1
          by_cases hne : (⟨#[1]⟩ ++ (sd a p m (leftN n) wh).2) ++ x = (⟨#[1]⟩ ++ (sd b q m (leftN n) wh).2) ++ y
          · rw [app3, app3] at hne
            have e2 := (app_inj (app_inj hne rfl).2 (z1.trans z2.symm)).1
            rcases ih _ _ _ _ _ _ _ _ _ _ _ h1 h2 c1 c2 e2 with h | ⟨j, u, v, g1, g2, g3, g4, g5⟩
            · exact .inl h
            · exact .inr ⟨j + 1, u, v, by simpa using g1, by simpa using g2, g3, g4, by simp; omega⟩
          · refine .inr ⟨0, _, _, rfl, rfl, hne, ?_, Nat.zero_le _⟩
            rw [app3, app3]
            exact he
end Go.Proofs.YtjkdenldddjcnaaDoor.Sha

set_option linter.unusedVariables false
set_option linter.unusedSimpArgs false
namespace Go.Proofs.YtjkdenldddjcnaaDoor.Sha
open Go Go.RowKit Go.Proofs.YtjkdenldddjcnaaDoor.Df Go.Proofs.YtjkdenldddjcnaaDoorW.PrintWords Go.Proofs.YtjkdenldddjcnaaDoorW.PrintLast Go.Proofs.YtjkdenldddjcnaaDoorW.PrintMore
set_option maxRecDepth 100000
set_option maxRecDepth 100000 in
theorem dsn1 : digest_Proof.f 200 [(⟨#[97]⟩ : ByteArray), (⟨#[98]⟩ : ByteArray), (⟨#[99]⟩ : ByteArray)] 2 = some ([(⟨#[177, 55, 152, 95, 244, 132, 251, 96, 13, 185, 49, 7, 199, 123, 3, 101, 200, 13, 120, 245, 180, 41, 222, 208, 253, 151, 54, 29, 7, 121, 153, 235]⟩ : ByteArray)], 0) := by kernel_rfl
set_option maxRecDepth 100000 in
theorem dsn2 : digest_Extension.f 200 [(⟨#[97]⟩ : ByteArray), (⟨#[98]⟩ : ByteArray), (⟨#[99]⟩ : ByteArray)] 1 = some ([(⟨#[87, 235, 53, 97, 93, 71, 243, 78, 199, 20, 202, 205, 245, 253, 116, 96, 138, 94, 142, 16, 39, 36, 232, 11, 36, 178, 135, 192, 194, 123, 106, 49]⟩ : ByteArray), (⟨#[89, 127, 203, 49, 40, 45, 52, 101, 76, 32, 13, 52, 24, 252, 165, 112, 92, 100, 142, 191, 50, 110, 199, 61, 141, 222, 241, 24, 65, 248, 118, 216]⟩ : ByteArray)], 0) := by kernel_rfl
set_option maxRecDepth 100000 in
theorem dsn3 : digest_Proof.f 200 [(⟨#[97]⟩ : ByteArray), (⟨#[98]⟩ : ByteArray), (⟨#[99]⟩ : ByteArray)] 3 = some ([], 2) := by kernel_rfl
set_option maxRecDepth 100000 in
theorem dsn4 : digest_Root.f [(⟨#[97]⟩ : ByteArray), (⟨#[98]⟩ : ByteArray), (⟨#[99]⟩ : ByteArray)] = some (⟨#[54, 100, 46, 115, 194, 84, 10, 177, 33, 227, 166, 191, 149, 69, 176, 162, 73, 130, 205, 131, 14, 177, 61, 60, 209, 157, 227, 206, 108, 2, 30, 193]⟩ : ByteArray) := by kernel_rfl
set_option maxRecDepth 100000 in
theorem dsn5 : digest_Sum.f (⟨#[]⟩ : ByteArray) = some (⟨#[227, 176, 196, 66, 152, 252, 28, 20, 154, 251, 244, 200, 153, 111, 185, 36, 39, 174, 65, 228, 100, 155, 147, 76, 164, 149, 153, 27, 120, 82, 184, 85]⟩ : ByteArray) := by kernel_rfl
set_option maxRecDepth 100000 in
theorem dsn6 : digest_Sum.f (⟨#[97, 98, 99]⟩ : ByteArray) = some (⟨#[186, 120, 22, 191, 143, 1, 207, 234, 65, 65, 64, 222, 93, 174, 34, 35, 176, 3, 97, 163, 150, 23, 122, 156, 180, 16, 255, 97, 242, 0, 21, 173]⟩ : ByteArray) := by kernel_rfl
set_option maxRecDepth 100000 in
theorem dsn7 : clearwaylaw02_hex.f (⟨#[227, 176, 196, 66, 152, 252, 28, 20, 154, 251, 244, 200, 153, 111, 185, 36, 39, 174, 65, 228, 100, 155, 147, 76, 164, 149, 153, 27, 120, 82, 184, 85]⟩ : ByteArray) = some (⟨#[101, 51, 98, 48, 99, 52, 52, 50, 57, 56, 102, 99, 49, 99, 49, 52, 57, 97, 102, 98, 102, 52, 99, 56, 57, 57, 54, 102, 98, 57, 50, 52, 50, 55, 97, 101, 52, 49, 101, 52, 54, 52, 57, 98, 57, 51, 52, 99, 97, 52, 57, 53, 57, 57, 49, 98, 55, 56, 53, 50, 98, 56, 53, 53]⟩ : ByteArray) := by kernel_rfl
set_option maxRecDepth 100000 in
theorem dsn8 : clearwaylaw02_hex.f (⟨#[186, 120, 22, 191, 143, 1, 207, 234, 65, 65, 64, 222, 93, 174, 34, 35, 176, 3, 97, 163, 150, 23, 122, 156, 180, 16, 255, 97, 242, 0, 21, 173]⟩ : ByteArray) = some (⟨#[98, 97, 55, 56, 49, 54, 98, 102, 56, 102, 48, 49, 99, 102, 101, 97, 52, 49, 52, 49, 52, 48, 100, 101, 53, 100, 97, 101, 50, 50, 50, 51, 98, 48, 48, 51, 54, 49, 97, 51, 57, 54, 49, 55, 55, 97, 57, 99, 98, 52, 49, 48, 102, 102, 54, 49, 102, 50, 48, 48, 49, 53, 97, 100]⟩ : ByteArray) := by kernel_rfl
set_option maxRecDepth 100000 in
theorem dsn9 : digest_Verify.f (⟨#[54, 100, 46, 115, 194, 84, 10, 177, 33, 227, 166, 191, 149, 69, 176, 162, 73, 130, 205, 131, 14, 177, 61, 60, 209, 157, 227, 206, 108, 2, 30, 193]⟩ : ByteArray) 3 2 (⟨#[99]⟩ : ByteArray) [(⟨#[177, 55, 152, 95, 244, 132, 251, 96, 13, 185, 49, 7, 199, 123, 3, 101, 200, 13, 120, 245, 180, 41, 222, 208, 253, 151, 54, 29, 7, 121, 153, 235]⟩ : ByteArray)] = some true := by kernel_rfl
set_option maxRecDepth 100000 in
theorem dsn10 : digest_Verify.f (⟨#[54, 100, 46, 115, 194, 84, 10, 177, 33, 227, 166, 191, 149, 69, 176, 162, 73, 130, 205, 131, 14, 177, 61, 60, 209, 157, 227, 206, 108, 2, 30, 193]⟩ : ByteArray) 3 2 (⟨#[100]⟩ : ByteArray) [(⟨#[177, 55, 152, 95, 244, 132, 251, 96, 13, 185, 49, 7, 199, 123, 3, 101, 200, 13, 120, 245, 180, 41, 222, 208, 253, 151, 54, 29, 7, 121, 153, 235]⟩ : ByteArray)] = some false := by kernel_rfl
set_option maxRecDepth 100000 in
theorem dsn11 : digest_Root.f [(⟨#[97]⟩ : ByteArray)] = some (⟨#[2, 42, 105, 121, 230, 218, 183, 170, 90, 228, 195, 229, 228, 95, 126, 151, 113, 18, 167, 230, 53, 147, 130, 13, 190, 193, 236, 115, 138, 36, 249, 60]⟩ : ByteArray) := by kernel_rfl
set_option maxRecDepth 100000 in
theorem dsn12 : digest_Root.f [(⟨#[97]⟩ : ByteArray), (⟨#[98]⟩ : ByteArray)] = some (⟨#[177, 55, 152, 95, 244, 132, 251, 96, 13, 185, 49, 7, 199, 123, 3, 101, 200, 13, 120, 245, 180, 41, 222, 208, 253, 151, 54, 29, 7, 121, 153, 235]⟩ : ByteArray) := by kernel_rfl
set_option maxRecDepth 100000 in
theorem dsn13 : digest_VerifyExtension.f (⟨#[2, 42, 105, 121, 230, 218, 183, 170, 90, 228, 195, 229, 228, 95, 126, 151, 113, 18, 167, 230, 53, 147, 130, 13, 190, 193, 236, 115, 138, 36, 249, 60]⟩ : ByteArray) 1 (⟨#[54, 100, 46, 115, 194, 84, 10, 177, 33, 227, 166, 191, 149, 69, 176, 162, 73, 130, 205, 131, 14, 177, 61, 60, 209, 157, 227, 206, 108, 2, 30, 193]⟩ : ByteArray) 3 [(⟨#[87, 235, 53, 97, 93, 71, 243, 78, 199, 20, 202, 205, 245, 253, 116, 96, 138, 94, 142, 16, 39, 36, 232, 11, 36, 178, 135, 192, 194, 123, 106, 49]⟩ : ByteArray), (⟨#[89, 127, 203, 49, 40, 45, 52, 101, 76, 32, 13, 52, 24, 252, 165, 112, 92, 100, 142, 191, 50, 110, 199, 61, 141, 222, 241, 24, 65, 248, 118, 216]⟩ : ByteArray)] = some true := by kernel_rfl
set_option maxRecDepth 100000 in
theorem dsn14 : digest_VerifyExtension.f (⟨#[177, 55, 152, 95, 244, 132, 251, 96, 13, 185, 49, 7, 199, 123, 3, 101, 200, 13, 120, 245, 180, 41, 222, 208, 253, 151, 54, 29, 7, 121, 153, 235]⟩ : ByteArray) 1 (⟨#[54, 100, 46, 115, 194, 84, 10, 177, 33, 227, 166, 191, 149, 69, 176, 162, 73, 130, 205, 131, 14, 177, 61, 60, 209, 157, 227, 206, 108, 2, 30, 193]⟩ : ByteArray) 3 [(⟨#[87, 235, 53, 97, 93, 71, 243, 78, 199, 20, 202, 205, 245, 253, 116, 96, 138, 94, 142, 16, 39, 36, 232, 11, 36, 178, 135, 192, 194, 123, 106, 49]⟩ : ByteArray), (⟨#[89, 127, 203, 49, 40, 45, 52, 101, 76, 32, 13, 52, 24, 252, 165, 112, 92, 100, 142, 191, 50, 110, 199, 61, 141, 222, 241, 24, 65, 248, 118, 216]⟩ : ByteArray)] = some false := by kernel_rfl
theorem sane_f : clearwaylaw02_sane.f 200 = some true := by
  unfold clearwaylaw02_sane.f
  rw [Option.bind_some, dsn1, Option.bind_some, dsn2, Option.bind_some, dsn3, Option.bind_some, dsn4, Option.bind_some, dsn5, Option.bind_some, dsn7, Option.bind_some, if_pos (by rw [toList_data]), dsn6, Option.bind_some, dsn8, Option.bind_some]
  rw [show (ByteArray.toList (⟨#[98, 97, 55, 56, 49, 54, 98, 102, 56, 102, 48, 49, 99, 102, 101, 97, 52, 49, 52, 49, 52, 48, 100, 101, 53, 100, 97, 101, 50, 50, 50, 51, 98, 48, 48, 51, 54, 49, 97, 51, 57, 54, 49, 55, 55, 97, 57, 99, 98, 52, 49, 48, 102, 102, 54, 49, 102, 50, 48, 48, 49, 53, 97, 100]⟩ : ByteArray) == [98, 97, 55, 56, 49, 54, 98, 102, 56, 102, 48, 49, 99, 102, 101, 97, 52, 49, 52, 49, 52, 48, 100, 101, 53, 100, 97, 101, 50, 50, 50, 51, 98, 48, 48, 51, 54, 49, 97, 51, 57, 54, 49, 55, 55, 97, 57, 99, 98, 52, 49, 48, 102, 102, 54, 49, 102, 50, 48, 48, 49, 53, 97, 100]) = true by rw [toList_data]; decide]
  rw [clearwaylaw02_sane.j0, if_pos (by decide), if_pos (by decide), if_pos (by decide), if_pos (by decide), clearwaylaw02_sane.j1, if_pos rfl, if_pos (by decide), dsn9, Option.bind_some, if_pos rfl, dsn10, Option.bind_some, if_neg (by decide), if_pos (by decide)]
  rw [show List.take 1 [(⟨#[97]⟩ : ByteArray), (⟨#[98]⟩ : ByteArray), (⟨#[99]⟩ : ByteArray)] = [(⟨#[97]⟩ : ByteArray)] from rfl, dsn11, Option.bind_some, dsn13, Option.bind_some, if_pos rfl, if_pos (by decide), show List.take 2 [(⟨#[97]⟩ : ByteArray), (⟨#[98]⟩ : ByteArray), (⟨#[99]⟩ : ByteArray)] = [(⟨#[97]⟩ : ByteArray), (⟨#[98]⟩ : ByteArray)] from rfl, dsn12, Option.bind_some, dsn14, Option.bind_some]
  rfl
end Go.Proofs.YtjkdenldddjcnaaDoor.Sha

set_option linter.unusedVariables false
set_option linter.unusedSimpArgs false
namespace Go.Proofs.YtjkdenldddjcnaaDoor.Sha
open Go Go.RowKit Go.Proofs.YtjkdenldddjcnaaDoor.Df Go.Proofs.YtjkdenldddjcnaaDoor.Dh Go.Proofs.YtjkdenldddjcnaaDoorW.PrintWords Go.Proofs.YtjkdenldddjcnaaDoorW.PrintLast Go.Proofs.YtjkdenldddjcnaaDoorW.PrintMore

theorem eq_of_beq {a b : ByteArray} (h : (a == b) = true) : a = b := by
  rw [beq_toListBytes] at h
  exact (toList_eq _ _).1 (beq_iff_eq.1 h)
theorem int_bd {n : Int} (h : (Lit.int .i64 n).wf = true) : -9223372036854775808 ≤ n ∧ n ≤ 9223372036854775807 := by
  simp [Lit.wf] at h
  exact ⟨h.1, h.2⟩
/-- What an accepted extension is: nothing to climb, or a climb to both roots. -/
theorem verifyE_parts {old root : ByteArray} {m n : Int} {l : List ByteArray} (h : verifyEF old m root n l = true) :
    old.size = 32 ∧ (∀ x ∈ l, x.size = 32) ∧ 0 ≤ m ∧ m ≤ n ∧ (m = 0 ∧ old = sumF ⟨#[]⟩ ∨ (0 < m ∧ m = n) ∧ old = root ∨ 0 < m ∧ m < n ∧ ∃ w' t u, descE l.reverse m.toNat n.toNat true [] = some (w', t, u) ∧ (u = true ∧ t = [] ∨ u = false ∧ ∃ e, t = [e]) ∧ (sd old l.reverse m.toNat n.toNat true).2 = root ∧ od old l.reverse m.toNat n.toNat true = old) := by
  unfold verifyEF at h
  by_cases h1 : m < 0
  · rw [if_pos h1] at h; cases h
  rw [if_neg h1] at h
  by_cases h2 : n < m
  · rw [if_pos h2] at h; cases h
  rw [if_neg h2] at h
  by_cases h3 : all32 l = false
  · rw [if_pos h3] at h; cases h
  rw [if_neg h3] at h
  by_cases h4 : ((old.size : Int) == 32) = false
  · rw [if_pos h4] at h; cases h
  rw [if_neg h4] at h
  by_cases h5 : ((root.size : Int) == 32) = false
  · rw [if_pos h5] at h; cases h
  rw [if_neg h5] at h
  have h4' := beq_iff_eq.1 ((Bool.not_eq_false _).mp h4)
  refine ⟨by omega, ?_, by omega, by omega, ?_⟩
  · intro x hx
    have := (Bool.not_eq_false _).mp h3
    unfold all32 at this
    have := beq_iff_eq.1 (List.all_eq_true.1 this x hx)
    omega
  by_cases h6 : m = 0
  · rw [if_pos h6] at h
    exact .inl ⟨h6, eq_of_beq (Bool.and_eq_true_iff.1 h).2⟩
  rw [if_neg h6] at h
  by_cases h7 : m = n
  · rw [if_pos h7] at h
    exact .inr (.inl ⟨⟨by omega, h7⟩, eq_of_beq (Bool.and_eq_true_iff.1 h).2⟩)
  rw [if_neg h7] at h
  refine .inr (.inr ⟨by omega, by omega, ?_⟩)
  cases hd : descE l.reverse m.toNat n.toNat true [] with
  | none => rw [hd] at h; cases h
  | some p =>
    obtain ⟨w', t, u⟩ := p
    rw [hd] at h
    cases u with
    | true =>
      unfold endE at h
      have k1 := Bool.and_eq_true_iff.1 h
      have k2 := Bool.and_eq_true_iff.1 k1.1
      have ht : t = [] := List.isEmpty_iff.1 k2.1
      have hu := descE_up old l.reverse _ _ _ _ _ _ _ old hd (.inl ⟨rfl, ht, rfl⟩)
      refine ⟨w', t, true, rfl, .inl ⟨rfl, ht⟩, ?_, ?_⟩
      · rw [eq_of_beq k1.2] at hu; exact hu.1.symm
      · rw [eq_of_beq k2.2] at hu; exact hu.2.symm
    | false =>
      match t, hd, h with
      | [], _, h => exact absurd h (by unfold endE; simp)
      | [y], hd, h =>
        unfold endE at h
        have k1 := Bool.and_eq_true_iff.1 h
        have hu := descE_up old l.reverse _ _ _ _ _ _ _ y hd (.inr ⟨rfl, rfl⟩)
        refine ⟨w', [y], false, rfl, .inr ⟨rfl, y, rfl⟩, ?_, ?_⟩
        · rw [eq_of_beq k1.2] at hu; exact hu.1.symm
        · rw [eq_of_beq k1.1] at hu; exact hu.2.symm
      | y :: z :: r, _, h => exact absurd h (by unfold endE; simp)
theorem ebinding_f (a0 : ByteArray) (l1 : List ByteArray) (a2 : ByteArray) (l3 : List ByteArray) (a4 : Int) (a5 : ByteArray) (a6 : Int) (h6 : a6 ≤ 9223372036854775807) : ∃ k, clearwaylaw02_DigestExtensionBinding.f k a0 l1 a2 l3 a4 a5 a6 = some true := by
  refine ⟨1000, ?_⟩
  have sane1000 : clearwaylaw02_sane.f 1000 = some true := by
    have step : ∀ n, clearwaylaw02_sane.f (200 + n) = some true := by
      intro n
      induction n with
      | zero => exact sane_f
      | succ n ih => exact clearwaylaw02_sane.mono (200 + n) _ ih
    exact step 800
  obtain ⟨p, hp, hpl, hps⟩ := few_f l1 70 1000 (by decide) (by decide)
  obtain ⟨q, hq, hql, hqs⟩ := few_f l3 70 1000 (by decide) (by decide)
  unfold clearwaylaw02_DigestExtensionBinding.f
  have hp' : clearwaylaw02_few.f 1000 l1 70 = some p := hp
  have hq' : clearwaylaw02_few.f 1000 l3 70 = some q := hq
  rw [sane1000, Option.bind_some, hp', Option.bind_some, hq', Option.bind_some]
  have v1 : digest_VerifyExtension.f a0 a4 a5 a6 p = some (verifyEF a0 a4 a5 a6 p) := by unfold digest_VerifyExtension.f; rw [if_pos ⟨h6, by omega⟩]
  have v2 : digest_VerifyExtension.f a2 a4 a5 a6 q = some (verifyEF a2 a4 a5 a6 q) := by unfold digest_VerifyExtension.f; rw [if_pos ⟨h6, by omega⟩]
  rw [v1, Option.bind_some, v2, Option.bind_some]
  have j_true : clearwaylaw02_DigestExtensionBinding.j0 1000 a0 p a2 q a4 a6 true true = some true := by rw [show (1000 : Nat) = 999 + 1 from rfl, clearwaylaw02_DigestExtensionBinding.j0, if_pos rfl]
  by_cases e1 : verifyEF a0 a4 a5 a6 p = true
  · rw [if_pos e1]
    by_cases e2 : verifyEF a2 a4 a5 a6 q = true
    · rw [if_pos e2]
      by_cases hab : a0 = a2
      · rw [show (a0.toList == a2.toList) = true by rw [hab]; simp]
        exact j_true
      · rw [show (1000 : Nat) = 999 + 1 from rfl, clearwaylaw02_DigestExtensionBinding.j0, if_neg (by rw [beq_iff_eq]; exact fun h => hab ((toList_eq _ _).1 h))]
        obtain ⟨s1, p32, m0, mn, c1⟩ := verifyE_parts e1
        obtain ⟨s2, q32, _, _, c2⟩ := verifyE_parts e2
        rcases c1 with ⟨x1, x2⟩ | ⟨x1, x2⟩ | ⟨x1, x2, w1, t1, u1, g1, g2, g3, g4⟩
        · rcases c2 with ⟨y1, y2⟩ | ⟨y1, y2⟩ | ⟨y1, y2, _⟩
          · exact absurd (x2.trans y2.symm) hab
          · omega
          · omega
        · rcases c2 with ⟨y1, y2⟩ | ⟨y1, y2⟩ | ⟨y1, y2, _⟩
          · omega
          · exact absurd (x2.trans y2.symm) hab
          · omega
        · rcases c2 with ⟨y1, y2⟩ | ⟨y1, y2⟩ | ⟨y1, y2, w2, t2, u2, k1, k2, k3, k4⟩
          · omega
          · omega
          · have r1 := sides_f a0 s1 p.reverse (by simpa using p32) (by simp; omega) 999 a4.toNat a6.toNat true (by omega) (by omega) (by omega) (by simp; omega)
            have r2 := sides_f a2 s2 q.reverse (by simpa using q32) (by simp; omega) 999 a4.toNat a6.toNat true (by omega) (by omega) (by omega) (by simp; omega)
            rw [List.reverse_reverse, Int.toNat_of_nonneg (by omega), Int.toNat_of_nonneg (by omega)] at r1 r2
            rw [r1, Option.bind_some, r2, Option.bind_some, if_pos rfl]
            rcases sd_collide a0 a2 s1 s2 p.reverse q.reverse (by simpa using p32) (by simpa using q32) a4.toNat a6.toNat true [] [] w1 w2 t1 t2 u1 u2 g1 k1 g2 k2 (g3.trans k3.symm) with h | ⟨j, x, y, z1, z2, z3, z4, z5⟩
            · exact absurd ((g4.symm.trans h).trans k4) hab
            · have b1 := sd_sizes a0 s1 p.reverse (by simpa using p32) a4.toNat a6.toNat true
              have b2 := sd_sizes a2 s2 q.reverse (by simpa using q32) a4.toNat a6.toNat true
              have b3 := (sd_size a0 s1 p.reverse (by simpa using p32) a4.toNat a6.toNat true).2
              simp only [List.length_reverse] at z5 b3
              rw [collide_f _ _ (fun u hu => by have := b1 u hu; omega) (fun u hu => by have := b2 u hu; omega) (by omega) j x y z1 z2 z3 z4 999 (by omega), Option.bind_some]
    · rw [if_neg e2]; exact j_true
  · rw [if_neg e1]; exact j_true
theorem ebinding (a0 : ByteArray) (A1 : Option Addr) (n1 c1 : Nat) (l1 : List ByteArray) (a2 : ByteArray) (A3 : Option Addr) (n3 c3 : Nat) (l3 : List ByteArray) (a4 : Int) (a5 : ByteArray) (a6 : Int) (w : World)
    (w0 : a0.size ≤ 140737488351232) (w1 : l1.length = n1 ∧ n1 ≤ c1 ∧ c1 ≤ maxLen ∧ Kd.C Kd.string w A1 n1 l1 ∧ ∀ x ∈ l1, x.size ≤ maxLen) (w2 : a2.size ≤ 140737488351232) (w3 : l3.length = n3 ∧ n3 ≤ c3 ∧ c3 ≤ maxLen ∧ Kd.C Kd.string w A3 n3 l3 ∧ ∀ x ∈ l3, x.size ≤ maxLen)
    (w4 : (Lit.int .i64 a4).wf = true) (w5 : a5.size ≤ 140737488351232) (w6 : (Lit.int .i64 a6).wf = true) (hG : Amb w) :
    Calls Tryd.prog 8 #[.string a0, .slice A1 n1 c1, .string a2, .slice A3 n3 c3, .int .i64 a4, .string a5, .int .i64 a6] w fun e w' => e = .returned (.bool true) ∧ Below w.heap.size w w' := by
  obtain ⟨rfl, h1, _, k1, _⟩ := w1
  obtain ⟨rfl, h3, _, k3, _⟩ := w3
  obtain ⟨k, hk⟩ := ebinding_f a0 l1 a2 l3 a4 a5 a6 (int_bd w6).2
  exact clearwaylaw02_DigestExtensionBinding.calls k a0 A1 c1 l1 a2 A3 c3 l3 a4 a5 a6 true w k1 h1 k3 h3 hG hk
end Go.Proofs.YtjkdenldddjcnaaDoor.Sha

