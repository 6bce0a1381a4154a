/- PutInt: the iterator over 7-bit groups, the loop that collects them: PutInt n is the encoding that the list function 'leb' gives.
   No condition. -/
import Derived.Test.YtniegajdmbepbaaGreatDoorProg
import Derived.Test.YtniegajdmbepbaaGreatDoorKJournalMatchesReference0
import Derived.Maps.AppendAt
import Derived.KernelRfl
import Derived.Laws.BytesArg
import Derived.Lib.ConvBytes
import Derived.PlainAid
import Derived.Outline
set_option linter.unusedSimpArgs false
set_option linter.unusedVariables false
namespace Go.Proofs.YtniegajdmbepbaaGreatDoor.Wire
open Go Go.RowKit Go.Shelf Go.Proofs.YtniegajdmbepbaaGreatDoor.Rf
attribute [local go_sem] Oper.semAt_some
structure Hid0 (p : Prop) : Prop where mk :: (out : p)
def grp (z : Int) : Int × Bool := (Go.bits .and .u64 z 127 % 256, decide (z < 128))
def groups : Nat → Int → List (Int × Bool)
  | 0, _ => []
  | k + 1, z => if z < 128 then [grp z] else grp z :: groups k (z / 128)
theorem iter_in (l Bz : Nat) (k : Nat) (z0 : Int) (h0 : 0 ≤ z0) (h64 : z0 < 18446744073709551616) (hk : z0 < 128 ^ (k + 1)) (J Jx : List (Int × Bool) → World → Prop) (Z : Nat → Prop) (hZ : ∀ r, r = Bz → Z r) (hJ : AbZ Z J)
    (hY : ∀ pre x W, J pre W → pre.length < k + 1 → YieldAt Fence.wide 2 Tryz.prog l #[.int .u8 x.1, .bool x.2] W fun e W' =>
      (e = .returned (.bool true) ∧ J (pre ++ [x]) W' ∧ W'.heap[Bz]? = W.heap[Bz]?) ∨ (e = .returned (.bool false) ∧ Jx (pre ++ [x]) W'))
    (W : World) (hB : Boxed W Bz 141 (.int .u64 z0)) (hJ0 : J [] W) :
    CallsIn Fence.wide 3 Tryz.prog 132 #[.func (.yield l) #[] #[], .pointer (some ⟨Bz, 0, none⟩)] W fun e W' => (∃ v, e = .returned v) ∧
      ((∃ ys, ys = groups (k + 1) z0 ∧ J ys W') ∨ (∃ pre : List (Int × Bool), True ∧ Jx pre W')) := by
  refine callsIn_of_wp Tryz.func132 rfl trivial ?_ rfl
  simp only [Tryz.ntmps132, List.size_toArray, List.length_cons, List.length_nil, Nat.reduceAdd, Nat.reduceSub, Array.replicate_succ, Array.replicate_zero, List.push_toArray, List.append_toArray, List.nil_append, List.cons_append]
  gi_wp2
  gi_loopw [3] (fun _ wr => ∃ (pre : List (Int × Bool)) (z : Int) (j : Nat), Boxed wr Bz 141 (.int .u64 z) ∧ 0 ≤ z ∧ z < 18446744073709551616 ∧ z < 128 ^ (j + 1) ∧ Hid0 (pre ++ groups (j + 1) z = groups (k + 1) z0) ∧ pre.length + j = k ∧ J pre wr)
    (fun _ wr => (intOf ((wr.cell? ⟨Bz, 0, none⟩).getD undef)).toNat)
  case atStart => exact ⟨[], z0, k, hB, h0, h64, hk, ⟨rfl⟩, by simp, hJ0⟩
  case round =>
    obtain ⟨pre, z, j, hb, hz0, hz1, hzj, hg, hpj, hj⟩ := hrel
    obtain ⟨fn, tmps, assign, body, hy, hR⟩ := hY pre (grp z) wr hj (by omega)
    have hc := hb.cell
    have hf := hb.frozen
    by_cases hlt : z < 128
    · have eg : grp z = (Go.bits .and .u64 z 127 % 256, true) := by unfold grp; rw [decide_eq_true hlt]
      rw [eg] at hy hR
      dsimp only at hy
      have EG := Hid0.mk eg
      clear eg
      gi_wp2
      refine hR.mono ?_
      rintro e W3 (⟨rfl, hJ3, hk3⟩ | ⟨rfl, hJx3⟩)
      · gi_wp2
        refine bodyPost_ret (results_none rfl _ _ _) rfl ?_
        refine ⟨⟨_, rfl⟩, .inl ⟨_, rfl, ?_⟩⟩
        have e2 : groups (j + 1) z = [grp z] := by simp only [groups]; rw [if_pos hlt]
        rw [← hg.out, e2, EG.out]
        exact hJ3
      · gi_wp2
        refine bodyPost_ret (results_none rfl _ _ _) rfl ?_
        exact ⟨⟨_, rfl⟩, .inr ⟨_, trivial, hJx3⟩⟩
    · have eg : grp z = (Go.bits .and .u64 z 127 % 256, false) := by unfold grp; rw [decide_eq_false hlt]
      rw [eg] at hy hR
      dsimp only at hy
      have EG := Hid0.mk eg
      clear eg
      gi_wp2
      refine hR.mono ?_
      rintro e W3 (⟨rfl, hJ3, hk3⟩ | ⟨rfl, hJx3⟩)
      · have hb3 : Boxed W3 Bz 141 (.int .u64 z) := hk3.trans hb
        have hc3 := hb3.cell
        have hf3 := hb3.frozen
        gi_wp2
        go_roundw
        case rel =>
          cases j with
          | zero => simp at hzj; omega
          | succ j =>
            have e2 : groups (j + 1 + 1) z = grp z :: groups (j + 1) (z / 128) := by rw [groups, if_neg (by omega)]
            refine ⟨pre ++ [grp z], z / 128, j, hb3.set _, by omega, by omega, ?_, ⟨?_⟩, by simp; omega, ?_⟩
            · rw [Int.pow_succ] at hzj; omega
            · rw [← hg.out, e2]; simp
            · rw [EG.out]; exact hJ _ _ _ (some Bz) hJ3 (grownBy_setCell' _ _ _) (fun r e => hZ r (by cases e; rfl))
        case measure =>
          have hc4 := (hb3.set (.int .u64 (z / 128))).cell
          rw [hc4, hc]
          simp [intOf]; omega
      · gi_wp2
        refine bodyPost_ret (results_none rfl _ _ _) rfl ?_
        exact ⟨⟨_, rfl⟩, .inr ⟨_, trivial, hJx3⟩⟩
end Go.Proofs.YtniegajdmbepbaaGreatDoor.Wire
