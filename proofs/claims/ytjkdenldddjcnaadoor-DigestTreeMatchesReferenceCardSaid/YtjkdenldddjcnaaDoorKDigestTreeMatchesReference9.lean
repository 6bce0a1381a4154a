/- slices.Chunk over bytes, by 64: the iterator yields the blocks of 64 bytes. No condition. slices.Backward over strings and over steps: the iterator yields the elements from the last one on. No condition. -/
import Derived.Test.YtjkdenldddjcnaaDoorKDigestTreeMatchesReference7
import Derived.Test.YtjkdenldddjcnaaDoorKDigestTreeMatchesReference8
import Derived.Maps.AppendAt
import Derived.KernelRfl
import Derived.PlainAid
import Derived.Sort.QuietIn
import Derived.Sort.CutIn
import Derived.Outline
import Derived.Test.YtjkdenldddjcnaaDoorProg
import Derived.Test.YtjkdenldddjcnaaDoorKDigestTreeMatchesReference0
set_option linter.unusedVariables false
set_option linter.unusedSimpArgs false
namespace Go.Proofs.YtjkdenldddjcnaaDoor.Sha
open Go Go.RowKit Go.Shelf Go.Proofs.YtjkdenldddjcnaaDoor.Rf
attribute [local go_sem] Oper.semAt_some

theorem chunk_fn (A : Option Addr) (n c : Nat) (w : World) :
  CallsIn Fence.wide 3 Tryd.prog 54 #[.slice A n c, .int .i64 64] w fun e w' => e = .returned (.func (.func 66) #[] #[.pointer (some ⟨w.heap.size, 0, none⟩), .pointer (some ⟨w.heap.size + 1, 0, none⟩)]) ∧ w' = (w.alloc (.cells #[.slice A n c] 46)).alloc (.cells #[.int .i64 64] 3) := by
 refine callsIn_of_wp Tryd.func54 rfl trivial ?_ rfl
 simp only [Tryd.ntmps54, List.size_toArray, List.length_cons, List.length_nil, Nat.reduceAdd, Nat.reduceSub, Array.replicate_succ, Array.replicate_zero, List.push_toArray, List.append_toArray, List.nil_append, List.cons_append]
 gi_wp2
 go_ret
 exact ⟨rfl, rfl⟩
theorem chunk_in (l B1 B2 g K c : Nat) (hK : 64 * K ≤ 140737488355328) (hc : 64 * K ≤ c) (J Jx : List (Fin K) → World → Prop) (hJ' : AbZ (fun _ => False) J)
  (hY : ∀ pre (x : Fin K) W, J pre W → pre.length < K → YieldAt Fence.wide 2 Tryd.prog l #[.slice (some ⟨g, 64 * x.val, none⟩) 64 64] W fun e W' =>
   (e = .returned (.bool true) ∧ J (pre ++ [x]) W' ∧ (W'.heap[B1]? = W.heap[B1]? ∧ W'.heap[B2]? = W.heap[B2]?)) ∨ (e = .returned (.bool false) ∧ Jx (pre ++ [x]) W'))
  (W : World) (hB1 : Boxed W B1 46 (.slice (some ⟨g, 0, none⟩) (64 * K) c)) (hB2 : Boxed W B2 3 (.int .i64 64)) (hJ0 : J [] W) :
  CallsIn Fence.wide 3 Tryd.prog 66 #[.func (.yield l) #[] #[], .pointer (some ⟨B1, 0, none⟩), .pointer (some ⟨B2, 0, none⟩)] W fun e W' => (∃ v, e = .returned v) ∧
   ((∃ ys : List (Fin K), ys.map Fin.val = List.range K ∧ J ys W') ∨ (∃ pre : List (Fin K), True ∧ Jx pre W')) := by
 refine callsIn_of_wp Tryd.func66 rfl trivial ?_ rfl
 simp only [Tryd.ntmps66, List.size_toArray, List.length_cons, List.length_nil, Nat.reduceAdd, Nat.reduceSub, Array.replicate_succ, Array.replicate_zero, List.push_toArray, List.append_toArray, List.nil_append, List.cons_append]
 gi_wp2
 gi_loopw [4] (fun v wr => ∃ j p : Nat, v = .int .i64 (p : Int) ∧ 64 * j = p ∧ j ≤ K ∧ Boxed wr B1 46 (.slice (some ⟨g, 0, none⟩) (64 * K) c) ∧ Boxed wr B2 3 (.int .i64 64) ∧ ∃ pre : List (Fin K), pre.map Fin.val = List.range j ∧ J pre wr)
  (fun v wr => 64 * K - (intOf v).toNat)
 case atStart => exact ⟨0, 0, rfl, rfl, by omega, hB1, hB2, [], rfl, hJ0⟩
 case round =>
  obtain ⟨j, p, rfl, hp, hj, hb1, hb2, pre, hpre, hJ⟩ := hrel
  have hpl : pre.length = j := by have := congrArg List.length hpre; simpa using this
  obtain ⟨n, hn⟩ : ∃ n, 64 * K = n := ⟨_, rfl⟩
  rw [hn] at hb1 hc hK ⊢
  have hc1 := hb1.cell
  have hc2 := hb2.cell
  by_cases hlt : p < n
  ·have e1 : decide ((p : Int) < (n : Int)) = true := decide_eq_true (by omega)
   have k1 : IntKind.i64.wrap ((p : Int) + 64) = ((p + 64 : Nat) : Int) := by rw [IntKind.wrap_i64]; omega
   have c3 : decide ((p : Int) ≤ (n : Int)) = true := decide_eq_true (by omega)
   obtain ⟨m, hm⟩ : ∃ m, n - p = m := ⟨_, rfl⟩
   gi_upto_region 3 with (fail)
   gi_quiet (fail)
   have hgr : wr.grownBy (wr.drewN nq) none := ⟨rfl, rfl, rfl, Nat.le_refl _, fun _ _ _ => rfl⟩
   have hJ1 := hJ' _ _ _ none hJ hgr (fun r e => by cases e)
   have hb1' := hb1.kept hgr (by simp)
   have hb2' := hb2.kept hgr (by simp)
   generalize wr.drewN nq = wr at hJ1 hb1' hb2' ⊢
   clear hJ hb1 hb2 hc1 hc2
   have hc1 := hb1'.cell
   have hc2 := hb2'.cell
   obtain ⟨fn, tmps, assign, body, hy, hR⟩ := hY pre ⟨j, by omega⟩ wr hJ1 (by omega)
   dsimp only at hy
   rw [hp] at hy
   have k1 : IntKind.i64.wrap ((p : Int) + 64) = ((p + 64 : Nat) : Int) := by rw [IntKind.wrap_i64]; omega
   obtain ⟨p', hp'⟩ : ∃ p', p + 64 = p' := ⟨_, rfl⟩
   rw [hp'] at k1
   have c4 : decide ((p : Int) ≤ (p' : Int)) = true := decide_eq_true (by omega)
   have c5 : decide ((p' : Int) ≤ (c : Int)) = true := decide_eq_true (by omega)
   have c6 : p' - p = 64 := by omega
   gi_wp2
   refine hR.mono ?_
   rintro e W3 (⟨rfl, hJ3, hk1, hk2⟩ | ⟨rfl, hJx3⟩)
   ·have hb3 : Boxed W3 B1 46 (.slice (some ⟨g, 0, none⟩) n c) := hk1.trans hb1'
    have hb4 : Boxed W3 B2 3 (.int .i64 64) := hk2.trans hb2'
    have hc3 := hb3.cell
    have hc4 := hb4.cell
    gi_wp2
    go_roundw
    case rel => exact ⟨j + 1, p', rfl, by omega, by omega, hb3, hb4, pre ++ [⟨j, by omega⟩], by rw [List.map_append, hpre, List.range_succ]; rfl, hJ3⟩
    case measure => simp [intOf]; omega
   ·gi_wp2
    refine bodyPost_ret (results_none rfl _ _ _) rfl ?_
    exact ⟨⟨_, rfl⟩, .inr ⟨_, trivial, hJx3⟩⟩
  ·have e1 : decide ((p : Int) < (n : Int)) = false := decide_eq_false (by omega)
   gi_wp2
   go_end0
   have : j = K := by omega
   subst this
   exact ⟨⟨_, rfl⟩, .inl ⟨_, hpre, hJ⟩⟩
end Go.Proofs.YtjkdenldddjcnaaDoor.Sha

set_option linter.unusedVariables false
set_option linter.unusedSimpArgs false
namespace Go.Proofs.YtjkdenldddjcnaaDoor.Sha
open Go Go.RowKit Go.Shelf Go.Proofs.YtjkdenldddjcnaaDoor.Rf Go.Proofs.YtjkdenldddjcnaaDoorW.PrintWords Go.Proofs.YtjkdenldddjcnaaDoorW.PrintLast
attribute [local go_sem] Oper.semAt_some
/-- A step as a value. -/
def encD (x : ByteArray × Bool) : Value := .agg #[.string x.1, .bool x.2]

theorem backS_fn (A : Option Addr) (n c : Nat) (w : World) :
  CallsIn Fence.wide 3 Tryd.prog 44 #[.slice A n c] w fun e w' => e = .returned (.func (.func 60) #[] #[.pointer (some ⟨w.heap.size, 0, none⟩)]) ∧ w' = w.alloc (.cells #[.slice A n c] 22) := by
 refine callsIn_of_wp Tryd.func44 rfl trivial ?_ rfl
 simp only [Tryd.ntmps44, List.size_toArray, List.length_cons, List.length_nil, Nat.reduceAdd, Nat.reduceSub, Array.replicate_succ, Array.replicate_zero, List.push_toArray, List.append_toArray, List.nil_append, List.cons_append]
 gi_wp2
 go_ret
 exact ⟨rfl, rfl⟩
def backSR (xs : List (ByteArray)) (bk o : Nat) (W : World) : Prop := ∀ j x, xs[j]? = some x → W.cell? ⟨bk, o + j, none⟩ = some (.string x)
theorem backSR.block {xs : List (ByteArray)} {bk o : Nat} {W W' : World} (h : backSR xs bk o W) (k : W'.heap[bk]? = W.heap[bk]?) : backSR xs bk o W' := by
 intro j x hx
 have := h j x hx
 simp only [World.cell?] at this ⊢
 rw [k]
 exact this
set_option maxHeartbeats 2000000 in
theorem backS_in (l Bx bk o n c : Nat) (A : Option Addr) (xs : List (ByteArray)) (hn : xs.length = n) (hs : n ≤ 140737488355328) (hA : 0 < n → A = some ⟨bk, o, none⟩) (J Jx : List (Fin n) → World → Prop)
  (hY : ∀ pre (x : Fin n) W, J pre W → pre.length < n → YieldAt Fence.wide 2 Tryd.prog l #[.int .i64 (x.val : Int), Value.string (xs[x.val]'(hn ▸ x.isLt))] W fun e W' =>
   (e = .returned (.bool true) ∧ J (pre ++ [x]) W' ∧ (W'.heap[Bx]? = W.heap[Bx]? ∧ W'.heap[bk]? = W.heap[bk]?)) ∨ (e = .returned (.bool false) ∧ Jx (pre ++ [x]) W'))
  (W : World) (hB : Boxed W Bx 22 (.slice A n c)) (hR : backSR xs bk o W) (hJ0 : J [] W) :
  CallsIn Fence.wide 3 Tryd.prog 60 #[.func (.yield l) #[] #[], .pointer (some ⟨Bx, 0, none⟩)] W fun e W' => (∃ v, e = .returned v) ∧
   ((∃ ys : List (Fin n), ys.map Fin.val = (List.range n).reverse ∧ J ys W') ∨ (∃ pre : List (Fin n), True ∧ Jx pre W')) := by
 refine callsIn_of_wp Tryd.func60 rfl trivial ?_ rfl
 simp only [Tryd.ntmps60, List.size_toArray, List.length_cons, List.length_nil, Nat.reduceAdd, Nat.reduceSub, Array.replicate_succ, Array.replicate_zero, List.push_toArray, List.append_toArray, List.nil_append, List.cons_append]
 have hc := hB.cell
 obtain ⟨q, hq⟩ : ∃ q : Int, (n : Int) - 1 = q := ⟨_, rfl⟩
 have k0 : IntKind.i64.wrap ((n : Int) - 1) = q := by rw [IntKind.wrap_i64]; omega
 replace hq := Aside0.mk hq
 gi_upto_region 1 with (fail)
 gi_wp2_with fail
 gi_loopw [3] (fun v wr => ∃ (j : Nat) (p : Int), v = .int .i64 p ∧ Aside0 (p = (n : Int) - 1 - j) ∧ j ≤ n ∧ Boxed wr Bx 22 (.slice A n c) ∧ backSR xs bk o wr ∧ ∃ pre : List (Fin n), pre.map Fin.val = (List.range n).reverse.take j ∧ J pre wr)
  (fun v _ => (intOf v + 1).toNat)
 case atStart => exact ⟨0, q, rfl, ⟨by have := hq.out; omega⟩, by omega, hB, hR, [], by simp, hJ0⟩
 case round =>
  clear hc k0 hB hR hJ0 hq
  obtain ⟨j, p, rfl, hp, hj, hB, hR, pre, hpre, hJ⟩ := hrel
  have hpl : pre.length = j := by have := congrArg List.length hpre; simp at this; omega
  have hc := hB.cell
  by_cases hlt : 0 ≤ p
  ·have e1 : decide (0 ≤ p) = true := decide_eq_true hlt
   obtain ⟨i, hi⟩ : ∃ i : Nat, p = i := ⟨p.toNat, by omega⟩
   subst hi
   have hA' := hA (by have := hp.out; omega)
   subst hA'
   have hin : i < n := by have := hp.out; omega
   obtain ⟨x, hx⟩ : ∃ x, xs[i]? = some x := ⟨_, List.getElem?_eq_getElem (by omega)⟩
   have hcx := hR i x hx
   have hg : xs[i]'(hn ▸ hin) = x := (List.getElem?_eq_some_iff.1 hx).2
   obtain ⟨fn, tmps, assign, body, hy, hY'⟩ := hY pre ⟨i, hin⟩ wr hJ (by have := hp.out; omega)
   dsimp only at hy
   rw [hg] at hy
   have x1 : ((i : Int) < (n : Int)) = True := eq_true (by omega)
   have x2 : (i < n) = True := eq_true (by omega)
   have k2 : IntKind.i64.wrap ((i : Int) - 1) = (i : Int) - 1 := by rw [IntKind.wrap_i64]; omega
   gi_wp2
   refine hY'.mono ?_
   rintro e W3 (⟨rfl, hJ3, hk1, hk2⟩ | ⟨rfl, hJx3⟩)
   ·have hb3 : Boxed W3 Bx 22 (.slice (some ⟨bk, o, none⟩) n c) := hk1.trans hB
    have hR3 := hR.block hk2
    have hc3 := hb3.cell
    gi_wp2
    go_roundw
    case rel =>
     refine ⟨j + 1, (i : Int) - 1, rfl, ⟨by have := hp.out; omega⟩, by have := hp.out; omega, hb3, hR3, pre ++ [⟨i, hin⟩], ?_, hJ3⟩
     rw [List.map_append, hpre, List.take_add_one, List.getElem?_eq_getElem (by simp; have := hp.out; omega), List.getElem_reverse]
     have := hp.out
     simp
     omega
    case measure => simp [intOf]
   ·gi_wp2
    refine bodyPost_ret (results_none rfl _ _ _) rfl ?_
    exact ⟨⟨_, rfl⟩, .inr ⟨_, trivial, hJx3⟩⟩
  ·have e1 : decide (0 ≤ p) = false := decide_eq_false hlt
   gi_wp2
   go_end0
   have ej : j = n := by have := hp.out; omega
   subst ej
   exact ⟨⟨_, rfl⟩, .inl ⟨pre, by rw [hpre, List.take_of_length_le (by simp)], hJ⟩⟩

theorem backD_fn (A : Option Addr) (n c : Nat) (w : World) :
  CallsIn Fence.wide 3 Tryd.prog 47 #[.slice A n c] w fun e w' => e = .returned (.func (.func 63) #[] #[.pointer (some ⟨w.heap.size, 0, none⟩)]) ∧ w' = w.alloc (.cells #[.slice A n c] 54) := by
 refine callsIn_of_wp Tryd.func47 rfl trivial ?_ rfl
 simp only [Tryd.ntmps47, List.size_toArray, List.length_cons, List.length_nil, Nat.reduceAdd, Nat.reduceSub, Array.replicate_succ, Array.replicate_zero, List.push_toArray, List.append_toArray, List.nil_append, List.cons_append]
 gi_wp2
 go_ret
 exact ⟨rfl, rfl⟩
def backDR (xs : List (ByteArray × Bool)) (bk o : Nat) (W : World) : Prop := ∀ j (x : ByteArray × Bool), xs[j]? = some x → W.cell? ⟨bk, o + j * 2, none⟩ = some (.string x.1) ∧ W.cell? ⟨bk, o + j * 2 + 1, none⟩ = some (.bool x.2)
theorem backDR.block {xs : List (ByteArray × Bool)} {bk o : Nat} {W W' : World} (h : backDR xs bk o W) (k : W'.heap[bk]? = W.heap[bk]?) : backDR xs bk o W' := by
 intro j x hx
 have := h j x hx
 simp only [World.cell?] at this ⊢
 rw [k]
 exact this
set_option maxHeartbeats 2000000 in
theorem backD_in (l Bx bk o n c : Nat) (A : Option Addr) (xs : List (ByteArray × Bool)) (hn : xs.length = n) (hs : n ≤ 140737488355328) (hA : 0 < n → A = some ⟨bk, o, none⟩) (J Jx : List (Fin n) → World → Prop)
  (hY : ∀ pre (x : Fin n) W, J pre W → pre.length < n → YieldAt Fence.wide 2 Tryd.prog l #[.int .i64 (x.val : Int), encD (xs[x.val]'(hn ▸ x.isLt))] W fun e W' =>
   (e = .returned (.bool true) ∧ J (pre ++ [x]) W' ∧ (W'.heap[Bx]? = W.heap[Bx]? ∧ W'.heap[bk]? = W.heap[bk]?)) ∨ (e = .returned (.bool false) ∧ Jx (pre ++ [x]) W'))
  (W : World) (hB : Boxed W Bx 54 (.slice A n c)) (hR : backDR xs bk o W) (hJ0 : J [] W) :
  CallsIn Fence.wide 3 Tryd.prog 63 #[.func (.yield l) #[] #[], .pointer (some ⟨Bx, 0, none⟩)] W fun e W' => (∃ v, e = .returned v) ∧
   ((∃ ys : List (Fin n), ys.map Fin.val = (List.range n).reverse ∧ J ys W') ∨ (∃ pre : List (Fin n), True ∧ Jx pre W')) := by
 refine callsIn_of_wp Tryd.func63 rfl trivial ?_ rfl
 simp only [Tryd.ntmps63, List.size_toArray, List.length_cons, List.length_nil, Nat.reduceAdd, Nat.reduceSub, Array.replicate_succ, Array.replicate_zero, List.push_toArray, List.append_toArray, List.nil_append, List.cons_append]
 have hc := hB.cell
 obtain ⟨q, hq⟩ : ∃ q : Int, (n : Int) - 1 = q := ⟨_, rfl⟩
 have k0 : IntKind.i64.wrap ((n : Int) - 1) = q := by rw [IntKind.wrap_i64]; omega
 replace hq := Aside0.mk hq
 gi_upto_region 1 with (fail)
 gi_wp2_with fail
 gi_loopw [3] (fun v wr => ∃ (j : Nat) (p : Int), v = .int .i64 p ∧ Aside0 (p = (n : Int) - 1 - j) ∧ j ≤ n ∧ Boxed wr Bx 54 (.slice A n c) ∧ backDR xs bk o wr ∧ ∃ pre : List (Fin n), pre.map Fin.val = (List.range n).reverse.take j ∧ J pre wr)
  (fun v _ => (intOf v + 1).toNat)
 case atStart => exact ⟨0, q, rfl, ⟨by have := hq.out; omega⟩, by omega, hB, hR, [], by simp, hJ0⟩
 case round =>
  clear hc k0 hB hR hJ0 hq
  obtain ⟨j, p, rfl, hp, hj, hB, hR, pre, hpre, hJ⟩ := hrel
  have hpl : pre.length = j := by have := congrArg List.length hpre; simp at this; omega
  have hc := hB.cell
  by_cases hlt : 0 ≤ p
  ·have e1 : decide (0 ≤ p) = true := decide_eq_true hlt
   obtain ⟨i, hi⟩ : ∃ i : Nat, p = i := ⟨p.toNat, by omega⟩
   subst hi
   have hA' := hA (by have := hp.out; omega)
   subst hA'
   have hin : i < n := by have := hp.out; omega
   obtain ⟨x, hx⟩ : ∃ x, xs[i]? = some x := ⟨_, List.getElem?_eq_getElem (by omega)⟩
   have hcx := hR i x hx
   have hg : xs[i]'(hn ▸ hin) = x := (List.getElem?_eq_some_iff.1 hx).2
   obtain ⟨x1, x2⟩ := x
   obtain ⟨hcx1, hcx2⟩ := hcx
   dsimp only at hcx1 hcx2
   obtain ⟨fn, tmps, assign, body, hy, hY'⟩ := hY pre ⟨i, hin⟩ wr hJ (by have := hp.out; omega)
   dsimp only at hy
   rw [hg] at hy
   unfold encD at hy
   dsimp only at hy
   have x1 : ((i : Int) < (n : Int)) = True := eq_true (by omega)
   have x2 : (i < n) = True := eq_true (by omega)
   have k2 : IntKind.i64.wrap ((i : Int) - 1) = (i : Int) - 1 := by rw [IntKind.wrap_i64]; omega
   gi_wp2
   refine hY'.mono ?_
   rintro e W3 (⟨rfl, hJ3, hk1, hk2⟩ | ⟨rfl, hJx3⟩)
   ·have hb3 : Boxed W3 Bx 54 (.slice (some ⟨bk, o, none⟩) n c) := hk1.trans hB
    have hR3 := hR.block hk2
    have hc3 := hb3.cell
    gi_wp2
    go_roundw
    case rel =>
     refine ⟨j + 1, (i : Int) - 1, rfl, ⟨by have := hp.out; omega⟩, by have := hp.out; omega, hb3, hR3, pre ++ [⟨i, hin⟩], ?_, hJ3⟩
     rw [List.map_append, hpre, List.take_add_one, List.getElem?_eq_getElem (by simp; have := hp.out; omega), List.getElem_reverse]
     have := hp.out
     simp
     omega
    case measure => simp [intOf]
   ·gi_wp2
    refine bodyPost_ret (results_none rfl _ _ _) rfl ?_
    exact ⟨⟨_, rfl⟩, .inr ⟨_, trivial, hJx3⟩⟩
  ·have e1 : decide (0 ≤ p) = false := decide_eq_false hlt
   gi_wp2
   go_end0
   have ej : j = n := by have := hp.out; omega
   subst ej
   exact ⟨⟨_, rfl⟩, .inl ⟨pre, by rw [hpre, List.take_of_length_le (by simp)], hJ⟩⟩
end Go.Proofs.YtjkdenldddjcnaaDoor.Sha

