/- slices.Chunk over bytes, by 64: the iterator yields the blocks of 64 bytes. No condition. -/
import Derived.Test.YtniegajdmbepbaaGreatDoorKJournalMatchesReference17
import Derived.Test.YtniegajdmbepbaaGreatDoorKJournalMatchesReference0
import Derived.Maps.AppendAt
import Derived.KernelRfl
import Derived.PlainAid
import Derived.Sort.QuietIn
import Derived.Sort.CutIn
import Derived.Outline
set_option linter.unusedSimpArgs false
set_option linter.unusedVariables false
namespace Go.Proofs.YtniegajdmbepbaaGreatDoor.Sha
open Go Go.RowKit Go.Shelf Go.Proofs.YtniegajdmbepbaaGreatDoor.Rf
attribute [local go_sem] Oper.semAt_some
theorem chunk_fn (A : Option Addr) (n c : Nat) (w : World) :
  CallsIn Fence.wide 3 Tryz.prog 128 #[.slice A n c, .int .i64 64] w fun e w' => e = .returned (.func (.func 143) #[] #[.pointer (some ⟨w.heap.size, 0, none⟩), .pointer (some ⟨w.heap.size + 1, 0, none⟩)]) ∧ w' = (w.alloc (.cells #[.slice A n c] 39)).alloc (.cells #[.int .i64 64] 3) := by
 refine callsIn_of_wp Tryz.func128 rfl trivial ?_ rfl
 simp only [Tryz.ntmps128, List.size_toArray, List.length_cons, List.length_nil, Nat.reduceAdd, Nat.reduceSub, Array.replicate_succ, Array.replicate_zero, List.push_toArray, List.append_toArray, List.nil_append, List.cons_append]
 gi_wp2
 go_ret
 exact ⟨rfl, rfl⟩
theorem chunk_in (l B1 B2 g K c : Nat) (hK : 64 * K ≤ 140737488355328) (hc : 64 * K ≤ c) (J Jx : List (Fin K) → World → Prop) (hJ' : AbZ (fun _ => False) J)
  (hY : ∀ pre (x : Fin K) W, J pre W → pre.length < K → YieldAt Fence.wide 2 Tryz.prog l #[.slice (some ⟨g, 64 * x.val, none⟩) 64 64] W fun e W' =>
   (e = .returned (.bool true) ∧ J (pre ++ [x]) W' ∧ (W'.heap[B1]? = W.heap[B1]? ∧ W'.heap[B2]? = W.heap[B2]?)) ∨ (e = .returned (.bool false) ∧ Jx (pre ++ [x]) W'))
  (W : World) (hB1 : Boxed W B1 39 (.slice (some ⟨g, 0, none⟩) (64 * K) c)) (hB2 : Boxed W B2 3 (.int .i64 64)) (hJ0 : J [] W) :
  CallsIn Fence.wide 3 Tryz.prog 143 #[.func (.yield l) #[] #[], .pointer (some ⟨B1, 0, none⟩), .pointer (some ⟨B2, 0, none⟩)] W fun e W' => (∃ v, e = .returned v) ∧
   ((∃ ys : List (Fin K), ys.map Fin.val = List.range K ∧ J ys W') ∨ (∃ pre : List (Fin K), True ∧ Jx pre W')) := by
 refine callsIn_of_wp Tryz.func143 rfl trivial ?_ rfl
 simp only [Tryz.ntmps143, List.size_toArray, List.length_cons, List.length_nil, Nat.reduceAdd, Nat.reduceSub, Array.replicate_succ, Array.replicate_zero, List.push_toArray, List.append_toArray, List.nil_append, List.cons_append]
 gi_wp2
 gi_loopw [4] (fun v wr => ∃ j p : Nat, v = .int .i64 (p : Int) ∧ 64 * j = p ∧ j ≤ K ∧ Boxed wr B1 39 (.slice (some ⟨g, 0, none⟩) (64 * K) c) ∧ Boxed wr B2 3 (.int .i64 64) ∧ ∃ pre : List (Fin K), pre.map Fin.val = List.range j ∧ J pre wr)
  (fun v wr => 64 * K - (intOf v).toNat)
 case atStart => exact ⟨0, 0, rfl, rfl, by omega, hB1, hB2, [], rfl, hJ0⟩
 case round =>
  obtain ⟨j, p, rfl, hp, hj, hb1, hb2, pre, hpre, hJ⟩ := hrel
  have hpl : pre.length = j := by have := congrArg List.length hpre; simpa using this
  obtain ⟨n, hn⟩ : ∃ n, 64 * K = n := ⟨_, rfl⟩
  rw [hn] at hb1 hc hK ⊢
  have hc1 := hb1.cell
  have hc2 := hb2.cell
  by_cases hlt : p < n
  ·have e1 : decide ((p : Int) < (n : Int)) = true := decide_eq_true (by omega)
   have k1 : IntKind.i64.wrap ((p : Int) + 64) = ((p + 64 : Nat) : Int) := by rw [IntKind.wrap_i64]; omega
   have c3 : decide ((p : Int) ≤ (n : Int)) = true := decide_eq_true (by omega)
   obtain ⟨m, hm⟩ : ∃ m, n - p = m := ⟨_, rfl⟩
   gi_upto_region 3 with (fail)
   gi_quiet (fail)
   have hgr : wr.grownBy (wr.drewN nq) none := ⟨rfl, rfl, rfl, Nat.le_refl _, fun _ _ _ => rfl⟩
   have hJ1 := hJ' _ _ _ none hJ hgr (fun r e => by cases e)
   have hb1' := hb1.kept hgr (by simp)
   have hb2' := hb2.kept hgr (by simp)
   generalize wr.drewN nq = wr at hJ1 hb1' hb2' ⊢
   clear hJ hb1 hb2 hc1 hc2
   have hc1 := hb1'.cell
   have hc2 := hb2'.cell
   obtain ⟨fn, tmps, assign, body, hy, hR⟩ := hY pre ⟨j, by omega⟩ wr hJ1 (by omega)
   dsimp only at hy
   rw [hp] at hy
   have k1 : IntKind.i64.wrap ((p : Int) + 64) = ((p + 64 : Nat) : Int) := by rw [IntKind.wrap_i64]; omega
   obtain ⟨p', hp'⟩ : ∃ p', p + 64 = p' := ⟨_, rfl⟩
   rw [hp'] at k1
   have c4 : decide ((p : Int) ≤ (p' : Int)) = true := decide_eq_true (by omega)
   have c5 : decide ((p' : Int) ≤ (c : Int)) = true := decide_eq_true (by omega)
   have c6 : p' - p = 64 := by omega
   gi_wp2
   refine hR.mono ?_
   rintro e W3 (⟨rfl, hJ3, hk1, hk2⟩ | ⟨rfl, hJx3⟩)
   ·have hb3 : Boxed W3 B1 39 (.slice (some ⟨g, 0, none⟩) n c) := hk1.trans hb1'
    have hb4 : Boxed W3 B2 3 (.int .i64 64) := hk2.trans hb2'
    have hc3 := hb3.cell
    have hc4 := hb4.cell
    gi_wp2
    go_roundw
    case rel => exact ⟨j + 1, p', rfl, by omega, by omega, hb3, hb4, pre ++ [⟨j, by omega⟩], by rw [List.map_append, hpre, List.range_succ]; rfl, hJ3⟩
    case measure => simp [intOf]; omega
   ·gi_wp2
    refine bodyPost_ret (results_none rfl _ _ _) rfl ?_
    exact ⟨⟨_, rfl⟩, .inr ⟨_, trivial, hJx3⟩⟩
  ·have e1 : decide ((p : Int) < (n : Int)) = false := decide_eq_false (by omega)
   gi_wp2
   go_end0
   have : j = K := by omega
   subst this
   exact ⟨⟨_, rfl⟩, .inl ⟨_, hpre, hJ⟩⟩
end Go.Proofs.YtniegajdmbepbaaGreatDoor.Sha
