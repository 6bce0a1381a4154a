/- digest.marked's closure, Leaf, Node, Chain: the digest behind a mark. digest.marked's closure, Leaf, Node, Chain: the digest behind a mark. Conditions: the string is at most 2^40 bytes. Sum, Leaf, Node, Chain and left as the printed texts name them. Conditions: strings of at most 2^39 bytes; a number from 2 on. The contracts of functions, written by this session's program (wip/pp.py): what the list functions answer, the code comes to. No condition. digest.Root's drawing regions that append, each a theorem. Root's walk: the stack of complete parts, and the digest that it leads to. Conditions: at most 1,000,000 entries of at most 2^39 bytes. Root as the printed texts name it. Conditions: at most 1,000,000 entries of at most 2^39 bytes. The law's hex, walked: two letters a byte. Condition: at most 2^40 bytes. digest.all's walk: whether all strings of a list are 32 bytes long. No condition. digest.take and (side).join, walked. Conditions: the strings of a step are at most 2^39 bytes together. -/
import Derived.Test.YtjkdenldddjcnaaDoorKDigestTreeMatchesReference10
import Derived.Test.YtjkdenldddjcnaaDoorKDigestTreeMatchesReference11
import Derived.Lib.BitFns
import Derived.Outline
import Derived.Test.YtjkdenldddjcnaaDoorProg
import Derived.Below
import Derived.Deep.Draws
import Derived.Deep.AppendLies
import Derived.Maps.AppendAt
import Derived.OwnWalk
import Derived.Laws.BytesArg
import Derived.Laws.MakeOwn
import Derived.Laws.OwnMore
import Derived.Deep.OwnRows
import Derived.Tactics
import Derived.Lib.ConvBytes
import Derived.Laws.Slices
import Derived.WalkKit
import Derived.KernelRfl
import Derived.RowKit3
import Derived.Deep.LoopGhost
import Derived.Deep.QuietTactic
import Derived.BigQuiet
import Derived.WideLaws
import Derived.Deep.DeepCutAuto
import Derived.Deep.CutBlock
import Derived.Deep.RegionHeld3
import Derived.Laws.Rows
import Derived.Lib.AppendStr
import Derived.ArgAppend
import Derived.Laws.IdiomCopy
import Derived.OrdersHeld
import Derived.Laws.BitsLemmas
import Derived.RowKit
import Derived.Test.YtjkdenldddjcnaaDoorKDigestTreeMatchesReference1
import Derived.Test.YtjkdenldddjcnaaDoorKDigestTreeMatchesReference2
import Derived.Test.YtjkdenldddjcnaaDoorKDigestTreeMatchesReference3
import Derived.Laws.AppendOwn
import Derived.Test.YtjkdenldddjcnaaDoorKDigestTreeMatchesReference9
import Derived.RangeFuncCalls
import Derived.Test.YtjkdenldddjcnaaDoorKDigestTreeMatchesReference8
set_option linter.unusedVariables false
set_option linter.unusedSimpArgs false
namespace Go.Proofs.YtjkdenldddjcnaaDoor.Sha
open Go Go.RowKit Go.Shelf Go.Proofs.YtjkdenldddjcnaaDoor.Rf Go.Proofs.YtjkdenldddjcnaaDoorW.PrintWords Go.Proofs.YtjkdenldddjcnaaDoorW.PrintLast Go.Proofs.YtjkdenldddjcnaaDoorW.PrintMore

/-- Strings, one behind the other. -/
def joinS (xs : List ByteArray) : ByteArray := ⟨((xs.map (·.data.toList)).flatten).toArray⟩
theorem append_data (x y : ByteArray) : (x ++ y).data.toList = x.data.toList ++ y.data.toList := by
 rw [ByteArray.data_append, Array.toList_append]
theorem join_flat : ∀ xs : List (List UInt8), Lib.join xs [] = xs.flatten
 | [] => rfl
 | x :: r => by rw [Lib.join_cons]; simp [Lib.joinTail]
theorem join_joinS (xs : List ByteArray) : (⟨(Lib.join (xs.map (·.data.toList)) (⟨#[]⟩ : ByteArray).data.toList).toArray⟩ : ByteArray) = joinS xs := by
 rw [show (⟨#[]⟩ : ByteArray).data.toList = [] from rfl, join_flat]
 rfl
theorem joinS_one (x : ByteArray) : joinS [x] = x := by
 obtain ⟨⟨l⟩⟩ := x
 simp [joinS]
theorem joinS_two (x y : ByteArray) : joinS [x, y] = x ++ y := by
 apply ByteArray.ext
 apply Array.toList_inj.1
 rw [append_data]
 simp [joinS]
theorem join_calls (bk c : Nat) (xs : List ByteArray) (w : World) (hx : w.heap[bk]? = some (.cells (xs.map Value.string).toArray 9 (0, 0))) (hn : xs.length ≤ 1000) (hc : xs.length ≤ c) (hj : (joinS xs).size ≤ 140737488355328) :
  Calls Tryd.prog 65 #[.slice (some ⟨bk, 0, none⟩) xs.length c, .string ⟨#[]⟩] w fun e w' => e = .returned (.string (joinS xs)) ∧ Below w.heap.size w w' := by
 have h := Tryd.strings_Join bk 0 c xs ⟨#[]⟩ w (fun j x hj => by simp [World.cell?, hx, hj]) (Array.getElem?_eq_some_iff.1 hx).1 (by omega) hc (by
  have e := congrArg ByteArray.size (join_joinS xs)
  have e2 : (⟨(Lib.join (xs.map (·.data.toList)) (⟨#[]⟩ : ByteArray).data.toList).toArray⟩ : ByteArray).size = (Lib.join (xs.map (·.data.toList)) (⟨#[]⟩ : ByteArray).data.toList).length := rfl
  omega)
 rw [join_joinS] at h
 exact h
def SM (v : World) (Bm bk : Nat) (mark : ByteArray) (xs : List ByteArray) (W : World) : Prop :=
 Boxed W Bm 9 (.string mark) ∧ W.heap[bk]? = some (.cells (xs.map Value.string).toArray 9 (0, 0)) ∧ Amb W ∧ Below v.heap.size v W ∧ v.heap.size ≤ W.heap.size
theorem keepSM {v : World} {Bm bk : Nat} {mark : ByteArray} {xs : List ByteArray} {W W' : World} (h : SM v Bm bk mark xs W) (hb : Below W.heap.size W W') : SM v Bm bk mark xs W' := by
 obtain ⟨h1, h2, h3, h4, h5⟩ := h
 exact ⟨(hb.block _ h1.lt).trans h1, (hb.block _ (Array.getElem?_eq_some_iff.1 h2).1).trans h2, h3.below_block hb, below_then h4 h5 hb, Nat.le_trans h5 hb.size⟩
def marked.T1 : Bool × List (List Nat × List Nat) := (true, [([], []), ([], []), ([1], [1]), ([0, 2], [0, 2]), ([3, 2], [3]), ([4, 4, 0, 1, 2, 3, 4], [4])])
def marked.B1 : List Nat := [0, 0, 2, 7, 15, 31]
theorem marked.tab1 : rtab .any (opsOf Tryd.f64 1) = marked.T1 := by kernel_rfl
theorem marked.bits1 : waitsOk marked.T1.2 marked.B1 = true := by kernel_rfl
noncomputable def markR1 : Code := ((Tryd.f64.body.bind (regionOf 1)).getD .skip)
set_option maxHeartbeats 4000000 in
set_option maxRecDepth 100000 in
theorem mark_r1 (R : Act → World → Prop) (v W : World) (v2 v3 v4 v5 v6 v7 v8 : Value) (Bm bk c : Nat) (mark : ByteArray) (xs : List ByteArray) (hn : xs.length ≤ 1000) (hc : xs.length ≤ c) (hj : (joinS xs).size ≤ 140737488355328)
  (hsz : (mark ++ joinS xs).size ≤ 1099511627776) (hlim : (9223372036854775807 < mark.size + (joinS xs).size) = False)
  (hS : SM v Bm bk mark xs W)
  (hQ : ∀ (z4 z5 z6 z7 z8 : Value) (W' : World), SM v Bm bk mark xs W' → R ⟨#[Value.slice (some ⟨bk, 0, none⟩) xs.length c, Value.pointer (some ⟨Bm, 0, none⟩), v2, Value.string (sumF (mark ++ joinS xs)), z4, z5, z6, z7, z8], []⟩ W') :
  markR1.wp Tryd.prog (Norm R) ⟨#[Value.slice (some ⟨bk, 0, none⟩) xs.length c, Value.pointer (some ⟨Bm, 0, none⟩), v2, v3, v4, v5, v6, v7, v8], []⟩ W := by
 unfold markR1
 conv => arg 2; whnf
 refine start_ (n := 6) (S := SM v Bm bk mark xs) (ds := []) #[false, false, false, false, false, false] (by kernel_rfl) rfl rfl (keepSM hS (below_drew1 (Below.refl _ _))) (fun hHeld => ?_); refine with_tabW marked.tab1 marked.bits1 (fun HT_ HW_ => ?_)
 generalize W.drew = w0_ at hHeld ⊢
 refine pure_ (i := 1) (N := some 5) (v := ?_) (a' := ?_) #[false, true, false, false, false, false] rfl rfl (any_of HT_.out (by kernel_rfl)) (fun _ _ _ h => h) (Or.inl ⟨by rfl, ?_⟩) ?_ ?_
 rotate_left
 ·intro w'
  go_simp
  with_reducible rfl
 rotate_left
 ·simp only [Act.put, List.setIfInBounds_toArray, List.set_cons_zero, List.set_cons_succ, i64_w, i32_w]
  rfl
 refine take_ (i := 0) (N := some 4) (v := ?_) (a' := ?_) #[true, true, false, false, false, false] rfl rfl (take_ofW HT_.out HW_.out (by kernel_rfl)) (fun _ _ _ h => h) (Or.inl ⟨by rfl, ?_⟩) hHeld ?_ ?_
 rotate_left
 ·intro w' hS_
  have c_ := hS_.1.cell
  go_simp
  with_reducible rfl
 rotate_left
 ·simp only [Act.put, List.setIfInBounds_toArray, List.set_cons_zero, List.set_cons_succ, i64_w, i32_w]
  rfl
 refine one_ (i := 2) (N := some 6) #[true, true, true, false, false, false] rfl rfl (one_of HT_.out (by kernel_rfl)) (by decide) (fun K hK => ?_)
 refine goes_ Tryd.func65 (by kernel_rfl) rfl #[.slice (some ⟨bk, 0, none⟩) xs.length c, .string ⟨#[]⟩] (by rfl) rfl rfl (by (try simp only [List.map_toArray, List.map_cons, List.map_nil]); first | done | rfl) ?_
 refine (join_calls bk c xs _ hHeld.2.1 hn hc hj).mono ?_
 rintro e w1_ ⟨rfl, hd⟩
 refine ⟨_, rfl, ?_⟩
 refine hK.out _ _ (keepSM hHeld hd) (fun hHeld => ?_)
 clear hK K hd
 refine norm_ (a' := ?_) ?_ ?_
 rotate_left
 ·show Act.put _ (some 6) _ = _
  simp only [Act.put, List.setIfInBounds_toArray, List.set_cons_zero, List.set_cons_succ, i64_w, i32_w]
  rfl
 refine pure_ (i := 3) (N := some 7) (v := ?_) (a' := ?_) #[true, true, true, true, false, false] rfl rfl (any_of HT_.out (by kernel_rfl)) (fun _ _ _ h => h) (Or.inl ⟨by rfl, ?_⟩) ?_ ?_
 rotate_left
 ·intro w'
  go_simp
  with_reducible rfl
 rotate_left
 ·simp only [Act.put, List.setIfInBounds_toArray, List.set_cons_zero, List.set_cons_succ, i64_w, i32_w]
  rfl
 refine one_ (i := 4) (N := some 8) #[true, true, true, true, true, false] rfl rfl (one_of HT_.out (by kernel_rfl)) (by decide) (fun K hK => ?_)
 refine goes_ Tryd.func30 (by kernel_rfl) rfl #[.string (mark ++ joinS xs)] (by rfl) rfl rfl (by (try simp only [List.map_toArray, List.map_cons, List.map_nil]); first | done | rfl) ?_
 refine (sum_calls (mark ++ joinS xs) hsz _ hHeld.2.2.1).mono ?_
 rintro e w2_ ⟨rfl, hd⟩
 refine ⟨_, rfl, ?_⟩
 refine hK.out _ _ (keepSM hHeld hd) (fun hHeld => ?_)
 clear hK K hd
 refine norm_ (a' := ?_) ?_ ?_
 rotate_left
 ·show Act.put _ (some 8) _ = _
  simp only [Act.put, List.setIfInBounds_toArray, List.set_cons_zero, List.set_cons_succ, i64_w, i32_w]
  rfl
 refine pure_ (i := 5) (N := some 3) (v := ?_) (a' := ?_) #[true, true, true, true, true, true] rfl rfl (any_of HT_.out (by kernel_rfl)) (fun _ _ _ h => h) (Or.inl ⟨by rfl, ?_⟩) ?_ ?_
 rotate_left
 ·intro w'
  go_simp
  with_reducible rfl
 rotate_left
 ·simp only [Act.put, List.setIfInBounds_toArray, List.set_cons_zero, List.set_cons_succ, i64_w, i32_w]
  rfl
 refine done_ (done_of HT_.out (by kernel_rfl)) ?_
 exact hQ _ _ _ _ _ _ hHeld
end Go.Proofs.YtjkdenldddjcnaaDoor.Sha

set_option linter.unusedVariables false
set_option linter.unusedSimpArgs false
namespace Go.Proofs.YtjkdenldddjcnaaDoor.Sha
open Go Go.RowKit Go.Shelf Go.Proofs.YtjkdenldddjcnaaDoor.Rf Go.Proofs.YtjkdenldddjcnaaDoorW.PrintWords Go.Proofs.YtjkdenldddjcnaaDoorW.PrintLast Go.Proofs.YtjkdenldddjcnaaDoorW.PrintMore

def leafF (s : ByteArray) : ByteArray := sumF (⟨#[0]⟩ ++ s)
def nodeF (a b : ByteArray) : ByteArray := sumF (⟨#[1]⟩ ++ (a ++ b))
def chainF (a b : ByteArray) : ByteArray := sumF (⟨#[2]⟩ ++ (a ++ b))
theorem below_alloc' {n : Nat} {w W : World} (h : Below n w W) (hn : n ≤ W.heap.size) (o : Obj) : Below n w (W.alloc o) := h.trans ((below_alloc (Below.refl W.heap.size W) o).mono hn)
theorem leaf_calls (s : ByteArray) (w : World) (hr : Amb w) (hs : s.size ≤ 549755813888) :
  Calls Tryd.prog 29 #[.string s] w fun e w' => e = .returned (.string (leafF s)) ∧ Below w.heap.size w w' := by
 obtain ⟨w1, h1⟩ : ∃ w1, w.alloc (Obj.cells #[.string ⟨#[0]⟩] 9) = w1 := ⟨_, rfl⟩
 obtain ⟨w2, h2⟩ : ∃ w2, w1.alloc (Obj.cells #[.string s] 9) = w2 := ⟨_, rfl⟩
 have hsz : w1.heap.size = w.heap.size + 1 := by rw [← h1]; simp
 have b1 : Boxed w1 w.heap.size 9 (.string ⟨#[0]⟩) := by rw [← h1]; exact Boxed.new w _ _
 have b2 : Boxed w2 w.heap.size 9 (.string ⟨#[0]⟩) := by rw [← h2]; exact b1.alloc _
 have r2 : w2.heap[w.heap.size + 1]? = some (.cells ([s].map Value.string).toArray 9 (0, 0)) := by rw [← h2, ← hsz]; exact heap_alloc_new ..
 have bel : Below w.heap.size w w2 := by rw [← h2]; exact below_alloc' (by rw [← h1]; exact below_alloc (Below.refl _ _) _) (by omega) _
 have hr2 := hr.below_block bel
 have hl : (⟨#[0]⟩ ++ joinS [s] : ByteArray).size ≤ 1099511627776 := by rw [joinS_one, ByteArray.size_append]; show 1 + _ ≤ _; omega
 have hle : w.heap.size ≤ w2.heap.size := bel.size
 go_enter Tryd.func29, Tryd.ntmps29
 go_wp2_with go_in
 refine norm_wp ?_
 refine mark_r1 _ w2 w2 _ _ _ _ _ _ _ w.heap.size (w.heap.size + 1) 1 ⟨#[0]⟩ [s] (by simp) (by simp) (by rw [ByteArray.size_append] at hl; omega) hl (eq_false (by rw [ByteArray.size_append] at hl; omega)) ⟨b2, r2, hr2, Below.refl _ _, Nat.le_refl _⟩ ?_
 intro z4 z5 z6 z7 z8 W' hS
 have hb := hS.2.2.2.1
 go_wp2
 go_ret
 rw [joinS_one]
 exact ⟨rfl, bel.trans (hb.mono hle)⟩
theorem node_calls (a b : ByteArray) (w : World) (hr : Amb w) (hs : a.size + b.size ≤ 549755813888) :
  Calls Tryd.prog 32 #[.string a, .string b] w fun e w' => e = .returned (.string (nodeF a b)) ∧ Below w.heap.size w w' := by
 obtain ⟨w1, h1⟩ : ∃ w1, w.alloc (Obj.cells #[.string ⟨#[1]⟩] 9) = w1 := ⟨_, rfl⟩
 obtain ⟨w2, h2⟩ : ∃ w2, w1.alloc (Obj.cells #[.string a, .string b] 9) = w2 := ⟨_, rfl⟩
 have hsz : w1.heap.size = w.heap.size + 1 := by rw [← h1]; simp
 have b1 : Boxed w1 w.heap.size 9 (.string ⟨#[1]⟩) := by rw [← h1]; exact Boxed.new w _ _
 have b2 : Boxed w2 w.heap.size 9 (.string ⟨#[1]⟩) := by rw [← h2]; exact b1.alloc _
 have r2 : w2.heap[w.heap.size + 1]? = some (.cells ([a, b].map Value.string).toArray 9 (0, 0)) := by rw [← h2, ← hsz]; exact heap_alloc_new ..
 have bel : Below w.heap.size w w2 := by rw [← h2]; exact below_alloc' (by rw [← h1]; exact below_alloc (Below.refl _ _) _) (by omega) _
 have hr2 := hr.below_block bel
 have hl : (⟨#[1]⟩ ++ joinS [a, b] : ByteArray).size ≤ 1099511627776 := by rw [joinS_two, ByteArray.size_append, ByteArray.size_append]; show 1 + _ ≤ _; omega
 have hle : w.heap.size ≤ w2.heap.size := bel.size
 go_enter Tryd.func32, Tryd.ntmps32
 go_wp2_with go_in
 refine norm_wp ?_
 refine mark_r1 _ w2 w2 _ _ _ _ _ _ _ w.heap.size (w.heap.size + 1) 2 ⟨#[1]⟩ [a, b] (by simp) (by simp) (by rw [ByteArray.size_append] at hl; omega) hl (eq_false (by rw [ByteArray.size_append] at hl; omega)) ⟨b2, r2, hr2, Below.refl _ _, Nat.le_refl _⟩ ?_
 intro z4 z5 z6 z7 z8 W' hS
 have hb := hS.2.2.2.1
 go_wp2
 go_ret
 rw [joinS_two]
 exact ⟨rfl, bel.trans (hb.mono hle)⟩
theorem chain_calls (a b : ByteArray) (w : World) (hr : Amb w) (hs : a.size + b.size ≤ 549755813888) :
  Calls Tryd.prog 36 #[.string a, .string b] w fun e w' => e = .returned (.string (chainF a b)) ∧ Below w.heap.size w w' := by
 obtain ⟨w1, h1⟩ : ∃ w1, w.alloc (Obj.cells #[.string ⟨#[2]⟩] 9) = w1 := ⟨_, rfl⟩
 obtain ⟨w2, h2⟩ : ∃ w2, w1.alloc (Obj.cells #[.string a, .string b] 9) = w2 := ⟨_, rfl⟩
 have hsz : w1.heap.size = w.heap.size + 1 := by rw [← h1]; simp
 have b1 : Boxed w1 w.heap.size 9 (.string ⟨#[2]⟩) := by rw [← h1]; exact Boxed.new w _ _
 have b2 : Boxed w2 w.heap.size 9 (.string ⟨#[2]⟩) := by rw [← h2]; exact b1.alloc _
 have r2 : w2.heap[w.heap.size + 1]? = some (.cells ([a, b].map Value.string).toArray 9 (0, 0)) := by rw [← h2, ← hsz]; exact heap_alloc_new ..
 have bel : Below w.heap.size w w2 := by rw [← h2]; exact below_alloc' (by rw [← h1]; exact below_alloc (Below.refl _ _) _) (by omega) _
 have hr2 := hr.below_block bel
 have hl : (⟨#[2]⟩ ++ joinS [a, b] : ByteArray).size ≤ 1099511627776 := by rw [joinS_two, ByteArray.size_append, ByteArray.size_append]; show 1 + _ ≤ _; omega
 have hle : w.heap.size ≤ w2.heap.size := bel.size
 go_enter Tryd.func36, Tryd.ntmps36
 go_wp2_with go_in
 refine norm_wp ?_
 refine mark_r1 _ w2 w2 _ _ _ _ _ _ _ w.heap.size (w.heap.size + 1) 2 ⟨#[2]⟩ [a, b] (by simp) (by simp) (by rw [ByteArray.size_append] at hl; omega) hl (eq_false (by rw [ByteArray.size_append] at hl; omega)) ⟨b2, r2, hr2, Below.refl _ _, Nat.le_refl _⟩ ?_
 intro z4 z5 z6 z7 z8 W' hS
 have hb := hS.2.2.2.1
 go_wp2
 go_ret
 rw [joinS_two]
 exact ⟨rfl, bel.trans (hb.mono hle)⟩
end Go.Proofs.YtjkdenldddjcnaaDoor.Sha

set_option linter.unusedVariables false
set_option linter.unusedSimpArgs false
namespace Go.Proofs.YtjkdenldddjcnaaDoor.Sha
open Go Go.RowKit Go.Shelf Go.Proofs.YtjkdenldddjcnaaDoor.Rf Go.Proofs.YtjkdenldddjcnaaDoorW.PrintWords Go.Proofs.YtjkdenldddjcnaaDoorW.PrintLast Go.Proofs.YtjkdenldddjcnaaDoorW.PrintMore

theorem Amb.below {w W : World} (h : Amb w) (hb : Below w.heap.size w W) : Amb W := h.below_block hb
def digest_Sum.f (a0 : ByteArray) : Option ByteArray := if a0.size ≤ 549755813888 then some (sumF a0) else none
theorem digest_Sum.calls (a0 : ByteArray) (r : ByteArray) (w : World) (hG_ : Amb w) (h : digest_Sum.f a0 = some r) :
  Calls Tryd.prog 30 #[.string a0] w fun e w' => e = .returned (.string r) ∧ Below w.heap.size w w' := by
 unfold digest_Sum.f at h
 by_cases hc : a0.size ≤ 549755813888
 ·rw [if_pos hc] at h
  have e := Option.some.inj h
  rw [← e]
  exact sum_calls a0 (by omega) w hG_
 ·rw [if_neg hc] at h
  exact absurd h (by simp)
def digest_Leaf.f (a0 : ByteArray) : Option ByteArray := if a0.size ≤ 549755813888 then some (leafF a0) else none
theorem digest_Leaf.calls (a0 : ByteArray) (r : ByteArray) (w : World) (hG_ : Amb w) (h : digest_Leaf.f a0 = some r) :
  Calls Tryd.prog 29 #[.string a0] w fun e w' => e = .returned (.string r) ∧ Below w.heap.size w w' := by
 unfold digest_Leaf.f at h
 by_cases hc : a0.size ≤ 549755813888
 ·rw [if_pos hc] at h
  have e := Option.some.inj h
  rw [← e]
  exact leaf_calls a0 w hG_ (by omega)
 ·rw [if_neg hc] at h
  exact absurd h (by simp)
def digest_Node.f (a0 a1 : ByteArray) : Option ByteArray := if a0.size + a1.size ≤ 549755813888 then some (nodeF a0 a1) else none
theorem digest_Node.calls (a0 a1 : ByteArray) (r : ByteArray) (w : World) (hG_ : Amb w) (h : digest_Node.f a0 a1 = some r) :
  Calls Tryd.prog 32 #[.string a0, .string a1] w fun e w' => e = .returned (.string r) ∧ Below w.heap.size w w' := by
 unfold digest_Node.f at h
 by_cases hc : a0.size + a1.size ≤ 549755813888
 ·rw [if_pos hc] at h
  have e := Option.some.inj h
  rw [← e]
  exact node_calls a0 a1 w hG_ (by omega)
 ·rw [if_neg hc] at h
  exact absurd h (by simp)
def digest_Chain.f (a0 a1 : ByteArray) : Option ByteArray := if a0.size + a1.size ≤ 549755813888 then some (chainF a0 a1) else none
theorem digest_Chain.calls (a0 a1 : ByteArray) (r : ByteArray) (w : World) (hG_ : Amb w) (h : digest_Chain.f a0 a1 = some r) :
  Calls Tryd.prog 36 #[.string a0, .string a1] w fun e w' => e = .returned (.string r) ∧ Below w.heap.size w w' := by
 unfold digest_Chain.f at h
 by_cases hc : a0.size + a1.size ≤ 549755813888
 ·rw [if_pos hc] at h
  have e := Option.some.inj h
  rw [← e]
  exact chain_calls a0 a1 w hG_ (by omega)
 ·rw [if_neg hc] at h
  exact absurd h (by simp)
/-- The number of the program's left. -/
def leftN (n : Nat) : Nat := 2 ^ (Lib.bitLen (n - 1) - 1)
def digest_left.f (a0 : Int) : Option Int := if 2 ≤ a0 ∧ a0 ≤ 9223372036854775807 then some (leftN a0.toNat) else none
theorem bitLenAux_le (f : Nat) : ∀ x m, x < 2 ^ m → Lib.bitLenAux f x ≤ m := by
 induction f with
 | zero => intro x m _; exact Nat.zero_le _
 | succ f ih =>
  intro x m h
  unfold Lib.bitLenAux
  split
  ·exact Nat.zero_le _
  ·cases m with
   | zero => simp at h; omega
   | succ m =>
    have := ih (x / 2) m (by rw [Nat.pow_succ] at h; omega)
    omega
theorem bitLen_pos (x : Nat) (h : 0 < x) : 0 < Lib.bitLen x := by
 unfold Lib.bitLen Lib.bitLenAux
 rw [if_neg (by omega)]
 omega
theorem digest_left.calls (a0 : Int) (r : Int) (w : World) (h : digest_left.f a0 = some r) :
  Calls Tryd.prog 40 #[.int .i64 a0] w fun e w' => e = .returned (.int .i64 r) ∧ ∃ n_, w' = w.drewN n_ := by
 unfold digest_left.f at h
 split at h
 ·rename_i hc
  cases h
  obtain ⟨n, hn⟩ : ∃ n : Nat, a0 = n := ⟨a0.toNat, by omega⟩
  subst hn
  have k1 : IntKind.i64.wrap ((n : Int) - 1) = ((n - 1 : Nat) : Int) := by rw [IntKind.wrap_i64]; omega
  obtain ⟨m, hm⟩ : ∃ m, n - 1 = m := ⟨_, rfl⟩
  have k2 : IntKind.u64.wrap (m : Int) = (m : Int) := by rw [IntKind.wrap_u64]; omega
  have hb1 := bitLen_pos m (by omega)
  have hb2 : Lib.bitLen m ≤ 63 := bitLenAux_le 64 m 63 (by omega)
  obtain ⟨b, hb⟩ : ∃ b, Lib.bitLen m = b := ⟨_, rfl⟩
  rw [hb] at hb1 hb2
  obtain ⟨b', hb'⟩ : ∃ b', b - 1 = b' := ⟨_, rfl⟩
  have k3 : IntKind.i64.wrap ((b : Int) - 1) = (b' : Int) := by rw [IntKind.wrap_i64]; omega
  have hlt : 2 ^ b' ≤ 4611686018427387904 := Nat.le_trans (Nat.pow_le_pow_right (n := 2) (by decide) (show b' ≤ 62 by omega)) (by decide)
  have k4 : IntKind.i64.wrap ((2 : Int) ^ b') = (2 : Int) ^ b' := by
   have e : ((2 : Int) ^ b') = ((2 ^ b' : Nat) : Int) := by simp
   rw [e, IntKind.wrap_i64]
   generalize 2 ^ b' = z at hlt
   omega
  have k5 : min b' 64 = b' := by omega
  have er : leftN ((n : Int)).toNat = 2 ^ b' := by
   unfold leftN
   rw [show ((n : Int)).toNat = n by omega, hm, hb, hb']
  rw [er]
  rw [hm] at k1
  go_enter Tryd.func40, Tryd.ntmps40
  go_wp2_with (go_at_call 59; refine (Tryd.bits_Len _ _ (by omega) (by omega)).mono ?_; rintro e w' ⟨rfl, rfl⟩; (try rw [show ((m : Int)).toNat = m by omega, hb]))
  go_ret
  exact ⟨by simp, 0, rfl⟩
 ·cases h
end Go.Proofs.YtjkdenldddjcnaaDoor.Sha

namespace Go.Proofs.YtjkdenldddjcnaaDoor.Df
open Go.RowKit Go.Proofs.YtjkdenldddjcnaaDoor.Sha Go.Proofs.YtjkdenldddjcnaaDoorW.PrintWords Go.Proofs.YtjkdenldddjcnaaDoorW.PrintLast Go.Proofs.YtjkdenldddjcnaaDoorW.PrintMore
attribute [local go_sem] max2_int min2_int max_two min_two max_three min_three max_four min_four   -- for this text's walks alone
set_option linter.unusedVariables false
set_option linter.unusedSimpArgs false



def errW : Option Int → Value
  | none => .nilIface
  | some c => .iface 0 (.int .i64 c)
theorem errW_none : errW none = .nilIface := rfl
theorem errW_some (c : Int) : errW (some c) = .iface 0 (.int .i64 c) := rfl

theorem info9 : (Tryd.prog.info? 9).map (fun i => (i.zero, i.size, i.bytes)) = some (some (.string ⟨#[]⟩), 1, 16) := by kernel_rfl
-- the values' own types

end Go.Proofs.YtjkdenldddjcnaaDoor.Df

set_option linter.unusedVariables false
set_option linter.unusedSimpArgs false
namespace Go.Proofs.YtjkdenldddjcnaaDoor.Sha
open Go Go.RowKit Go.Shelf Go.Proofs.YtjkdenldddjcnaaDoor.Rf Go.Proofs.YtjkdenldddjcnaaDoorW.PrintWords Go.Proofs.YtjkdenldddjcnaaDoorW.PrintLast Go.Proofs.YtjkdenldddjcnaaDoorW.PrintMore

theorem info9 : (Tryd.prog.info? 9).map (fun i => (i.zero, i.size, i.bytes)) = some (some (.string ⟨#[]⟩), 1, 16) := by kernel_rfl
theorem info3 : (Tryd.prog.info? 3).map (fun i => (i.zero, i.size, i.bytes)) = some (some (.int .i64 0), 1, 8) := by kernel_rfl
theorem own_at {w : World} {base : Nat} {e : TypeId} {g n cap : Nat} {xs : List Value} (h : w.ownsRow base e 1 (.slice (some ⟨g, 0, none⟩) n cap) n xs) (j : Nat) (u : Value) (hu : xs[j]? = some u) : w.cell? ⟨g, j, none⟩ = some u := by
 have := h.cells (g := g) rfl j u hu
 have hadd : (⟨g, 0, none⟩ : Addr).add j = ⟨g, j, none⟩ := by unfold Addr.add; split <;> simp_all
 rwa [hadd] at this
theorem own_lt {w : World} {base : Nat} {e : TypeId} {g n cap : Nat} {xs : List Value} (h : w.ownsRow base e 1 (.slice (some ⟨g, 0, none⟩) n cap) n xs) : base ≤ g ∧ g < w.heap.size := h.lt g rfl
theorem own_take {w : World} {base : Nat} {e : TypeId} {g n cap : Nat} {xs : List Value} (h : w.ownsRow base e 1 (.slice (some ⟨g, 0, none⟩) n cap) n xs) (m : Nat) (hm : m ≤ n) : w.ownsRow base e 1 (.slice (some ⟨g, 0, none⟩) m cap) m (xs.take m) := by
 obtain ⟨hl, ⟨h1, _⟩ | ⟨g', cap', cur, e1, hb, hg, hnc, hcm, hcs, ht⟩⟩ := h
 ·cases h1
 ·injection e1 with e1 e2 e3
  injection e1 with e1
  injection e1 with e1
  subst e1 e3
  refine ⟨by simp; omega, .inr ⟨g, cap, cur, rfl, hb, hg, by omega, hcm, hcs, ?_⟩⟩
  rw [← ht, List.take_take]
  congr 1
  omega
theorem own_keep {w W : World} {base : Nat} {e : TypeId} {v : Value} {n : Nat} {xs : List Value} (h : w.ownsRow base e 1 v n xs) (hb : Below w.heap.size w W) : W.ownsRow base e 1 v n xs :=
 h.kept (row := none) ⟨hb.os, hb.tape, hb.output, hb.size, fun k hk _ => hb.block k hk⟩ (by cases hv : v.ownBlock <;> simp)
theorem one_of_block {w : World} {g : Nat} {x : Value} {t : TypeId} {fr : Nat × Nat} (h : w.heap[g]? = some (.cells #[x] t fr)) : ∀ j u, [x][j]? = some u → w.cell? ((⟨g, 0, none⟩ : Addr).add j) = some u := by
 intro j u hj
 match j, hj with
 | 0, hj =>
  simp at hj
  subst hj
  have hadd : (⟨g, 0, none⟩ : Addr).add 0 = ⟨g, 0, none⟩ := by unfold Addr.add; split <;> simp_all
  rw [hadd]
  simp [World.cell?, h]
theorem own_apart {w : World} {base : Nat} {e e' : TypeId} {g n cap : Nat} {xs : List Value} {v : Value} {m : Nat} {ys : List Value} (h : w.ownsRow base e 1 (.slice (some ⟨g, 0, none⟩) n cap) n xs) (k : w.ownsRow base e' 1 v m ys) (hne : e ≠ e') :
  v.ownBlock = none ∨ v.ownBlock ≠ (Value.slice (some ⟨g, 0, none⟩) (n - 2) cap).ownBlock := by
 obtain ⟨_, ⟨h1, _⟩ | ⟨g1, cap1, cur1, e1, _, hg1, _⟩⟩ := h
 ·cases h1
 ·obtain ⟨_, ⟨rfl, _⟩ | ⟨g2, cap2, cur2, rfl, _, hg2, _⟩⟩ := k
  ·exact .inl rfl
  ·refine .inr fun hh => ?_
   injection e1 with e1 e2 e3
   injection e1 with e1
   injection e1 with e1
   simp only [Value.ownBlock, Option.some.injEq] at hh
   subst hh
   subst e1
   rw [hg1] at hg2
   injection hg2 with hg2
   injection hg2 with _ he
   exact hne he
theorem step_own {P : Program} {ops : Array Oper} {o : Oper} {a : Act} {K : Act → World → Prop} {Q : Exit → Act → World → Prop} (w : World) (hw : Region.wanted o (yielded ops a.tmps) = true) (s x : Operand) (t : TypeId)
  (ho : o.op = .call { callee := .builtin .append, args := #[s, x], argTypes := #[t, t] })
  (base : Nat) (e : TypeId) (i : TypeInfo) (z : Value) (size bytes : Nat) (ht : P.underlying t = some (.slice e)) (hi : P.info? e = some i) (hz : i.zero = some z)
  (hsize : i.size = size) (hby : i.bytes = bytes) (hzs : z.cells.size = size) (hsz : 0 < size)
  (v : Value) (n : Nat) (xs : List Value) (hs : a.eval s = v) (hown : w.ownsRow base e size v n xs)
  (ad : Addr) (m c : Nat) (news : List Value) (hx : a.eval x = .slice (some ad) m c) (hl : news.length = m * size) (hnews : ∀ j u, news[j]? = some u → w.cell? (ad.add j) = some u) (h1 : ∀ u ∈ news, u.oneCell' = true)
  (h63 : n + m ≤ maxLen) (hbytes : (n + m) * bytes ≤ 140737488355328) (hbase : base ≤ w.heap.size)
  (h : ∀ v' w', w'.ownsRow base e size v' (n + m) (xs ++ news) → w.grownBy w' v.ownBlock → (v' = .slice none 0 0 ↔ v = .slice none 0 0 ∧ m = 0) → K (a.put o.dst v') w') :
  if Region.wanted o (yielded ops a.tmps) = true then Oper.wp P o a w K Q else K (a.put o.dst undef) w := by
 rw [if_pos hw]
 exact wp_append_own w s x t ho base e i z size bytes ht hi hz hsize hby hzs hsz v n xs hs hown ad m c news hx hl hnews h1 h63 hbytes hbase h
def SRt (v : World) (g cap n : Nat) (u4 : Value) (k4 : Nat) (ws ss : List Value) (W : World) : Prop :=
 W.ownsRow v.heap.size 9 1 (.slice (some ⟨g, 0, none⟩) n cap) n ws ∧ W.ownsRow v.heap.size 3 1 u4 k4 ss ∧ Amb v ∧ Below v.heap.size v W
theorem keepSRt {v : World} {g cap n : Nat} {u4 : Value} {k4 : Nat} {ws ss : List Value} {W W' : World} (h : SRt v g cap n u4 k4 ws ss W) (hb : Below W.heap.size W W') : SRt v g cap n u4 k4 ws ss W' := by
 obtain ⟨h1, h2, h3, h4⟩ := h
 exact ⟨own_keep h1 hb, own_keep h2 hb, h3, below_then h4 h4.size hb⟩
def SRu (v : World) (g cap n : Nat) (vw : Value) (kw : Nat) (xw ss : List Value) (W : World) : Prop :=
 W.ownsRow v.heap.size 3 1 (.slice (some ⟨g, 0, none⟩) n cap) n ss ∧ W.ownsRow v.heap.size 9 1 vw kw xw ∧ Amb v ∧ Below v.heap.size v W
theorem keepSRu {v : World} {g cap n : Nat} {vw : Value} {kw : Nat} {xw ss : List Value} {W W' : World} (h : SRu v g cap n vw kw xw ss W) (hb : Below W.heap.size W W') : SRu v g cap n vw kw xw ss W' := by
 obtain ⟨h1, h2, h3, h4⟩ := h
 exact ⟨own_keep h1 hb, own_keep h2 hb, h3, below_then h4 h4.size hb⟩
def root.T10 : Bool × List (List Nat × List Nat) := (true, [([], []), ([], []), ([1], [1]), ([0, 2], [0, 2]), ([], []), ([], []), ([5], [5]), ([4, 6], [4, 6]), ([7], [7]), ([], []), ([], []), ([10], [10]), ([9, 11], [9, 11]), ([12], [12]), ([8, 13], [8, 13]), ([14], [14]), ([3, 15, 14], [3, 15]), ([16, 16, 0, 1, 2, 3, 4, 5, 6, 7, 8, 9, 10, 11, 12, 13, 14, 15, 16], [0, 4, 9, 16])])
def root.B10 : List Nat := [0, 0, 2, 7, 0, 0, 32, 112, 240, 0, 0, 1024, 3584, 7680, 16368, 32752, 65535, 131071]
theorem root.tab10 : rtab .any (opsOf Tryd.f19 10) = root.T10 := by kernel_rfl
theorem root.bits10 : waitsOk root.T10.2 root.B10 = true := by kernel_rfl
noncomputable def rootR10 : Code := ((Tryd.f19.body.bind (regionOf 10)).getD .skip)
set_option maxHeartbeats 4000000 in
set_option maxRecDepth 100000 in
theorem root_r10 (R : Act → World → Prop) (v W : World) (v0 v1 v2 v5 v6 v8 v9 v10 v11 v12 v13 v14 v15 v16 v17 v18 v19 v20 v21 v22 v23 v24 v25 v26 v27 v28 v29 v30 v31 v32 v33 v34 v35 v36 v37 v38 v39 v40 v41 v42 v43 v44 v45 v46 v47 v48 v49 v50 v51 v52 v53 v54 v55 v56 v57 v58 v59 v60 v61 v62 v63 v64 v65 v66 v67 v68 v69 v70 v71 v72 v73 v74 v75 v76 v77 v78 v79 v80 v81 v82 v83 v84 v85 v86 v87 v88 v89 v90 v91 v92 v93 v94 v95 : Value) (u4 : Value) (g cap n m1 m2 k4 : Nat) (a b : ByteArray) (ws ss : List Value)
  (hn : n ≤ 1000000) (h2 : m2 + 2 = n) (h1 : m1 + 1 = n) (hcap : n ≤ cap)
  (k1 : IntKind.i64.wrap ((n : Int) - 1) = (m1 : Int)) (k2 : IntKind.i64.wrap ((n : Int) - 2) = (m2 : Int)) (y1 : IntKind.i64.wrap (m1 : Int) = (m1 : Int)) (y2 : IntKind.i64.wrap (m2 : Int) = (m2 : Int))
  (x1 : ((m1 : Int) < (n : Int)) = True) (x2 : ((m2 : Int) < (n : Int)) = True) (x3 : ((m2 : Int) ≤ (cap : Int)) = True) (z1 : (m1 < n) = True) (z2 : (m2 < n) = True) (z3 : (m2 ≤ cap) = True)
  (ha : ws[m2]? = some (.string a)) (hb : ws[m1]? = some (.string b)) (hnode : a.size + b.size ≤ 549755813888)
  (hS : SRt v g cap n u4 k4 ws ss W)
  (hQ : ∀ (z44 z45 z46 z47 z48 z49 z50 z51 z52 z53 z54 z55 z56 z57 z58 z59 z60 v' : Value) (W' : World), W'.ownsRow v.heap.size 9 1 v' (m2 + 1) (ws.take m2 ++ [.string (nodeF a b)]) ∧ W'.ownsRow v.heap.size 3 1 u4 k4 ss ∧ Amb v ∧ Below v.heap.size v W' → R ⟨#[v0, v1, v2, v', u4, v5, v6, Value.int .i64 (n : Int), v8, v9, v10, v11, v12, v13, v14, v15, v16, v17, v18, v19, v20, v21, v22, v23, v24, v25, v26, v27, v28, v29, v30, v31, v32, v33, v34, v35, v36, v37, v38, v39, v40, v41, v42, v43, z44, z45, z46, z47, z48, z49, z50, z51, z52, z53, z54, z55, z56, z57, z58, z59, z60, v61, v62, v63, v64, v65, v66, v67, v68, v69, v70, v71, v72, v73, v74, v75, v76, v77, v78, v79, v80, v81, v82, v83, v84, v85, v86, v87, v88, v89, v90, v91, v92, v93, v94, v95], []⟩ W') :
  rootR10.wp Tryd.prog (Norm R) ⟨#[v0, v1, v2, Value.slice (some ⟨g, 0, none⟩) n cap, u4, v5, v6, Value.int .i64 (n : Int), v8, v9, v10, v11, v12, v13, v14, v15, v16, v17, v18, v19, v20, v21, v22, v23, v24, v25, v26, v27, v28, v29, v30, v31, v32, v33, v34, v35, v36, v37, v38, v39, v40, v41, v42, v43, v44, v45, v46, v47, v48, v49, v50, v51, v52, v53, v54, v55, v56, v57, v58, v59, v60, v61, v62, v63, v64, v65, v66, v67, v68, v69, v70, v71, v72, v73, v74, v75, v76, v77, v78, v79, v80, v81, v82, v83, v84, v85, v86, v87, v88, v89, v90, v91, v92, v93, v94, v95], []⟩ W := by
 unfold rootR10
 conv => arg 2; whnf
 refine start_ (n := 18) (S := SRt v g cap n u4 k4 ws ss) (ds := [16]) #[false, false, false, false, false, false, false, false, false, false, false, false, false, false, false, false, false, false] (by kernel_rfl) rfl rfl (keepSRt hS (below_drew1 (Below.refl _ _))) (fun hHeld => ?_); refine with_tabW root.tab10 root.bits10 (fun HT_ HW_ => ?_)
 generalize W.drew = w0_ at hHeld ⊢
 refine pure_ (i := 0) (N := some 44) (v := ?_) (a' := ?_) #[true, false, false, false, false, false, false, false, false, false, false, false, false, false, false, false, false, false] rfl rfl (any_of HT_.out (by kernel_rfl)) (fun _ _ _ h => h) (Or.inl ⟨by rfl, ?_⟩) ?_ ?_
 rotate_left
 ·intro w'
  go_simp
  with_reducible rfl
 rotate_left
 ·simp only [Act.put, List.setIfInBounds_toArray, List.set_cons_zero, List.set_cons_succ, i64_w, i32_w]
  rfl
 refine pure_ (i := 1) (N := some 45) (v := ?_) (a' := ?_) #[true, true, false, false, false, false, false, false, false, false, false, false, false, false, false, false, false, false] rfl rfl (any_of HT_.out (by kernel_rfl)) (fun _ _ _ h => h) (Or.inl ⟨by rfl, ?_⟩) ?_ ?_
 rotate_left
 ·intro w'
  go_simp
  with_reducible rfl
 rotate_left
 ·simp only [Act.put, List.setIfInBounds_toArray, List.set_cons_zero, List.set_cons_succ, i64_w, i32_w]
  rfl
 refine pure_ (i := 2) (N := some 46) (v := ?_) (a' := ?_) #[true, true, true, false, false, false, false, false, false, false, false, false, false, false, false, false, false, false] rfl rfl (any_of HT_.out (by kernel_rfl)) (fun _ _ _ h => h) (Or.inl ⟨by rfl, ?_⟩) ?_ ?_
 rotate_left
 ·intro w'
  go_simp
  with_reducible rfl
 rotate_left
 ·simp only [Act.put, List.setIfInBounds_toArray, List.set_cons_zero, List.set_cons_succ, i64_w, i32_w]
  rfl
 refine pure_ (i := 3) (N := some 47) (v := ?_) (a' := ?_) #[true, true, true, true, false, false, false, false, false, false, false, false, false, false, false, false, false, false] rfl rfl (any_of HT_.out (by kernel_rfl)) (fun _ _ _ h => h) (Or.inl ⟨by rfl, ?_⟩) ?_ ?_
 rotate_left
 ·intro w'
  go_simp
  with_reducible rfl
 rotate_left
 ·simp only [Act.put, List.setIfInBounds_toArray, List.set_cons_zero, List.set_cons_succ, i64_w, i32_w]
  rfl
 refine pure_ (i := 4) (N := some 48) (v := ?_) (a' := ?_) #[true, true, true, true, true, false, false, false, false, false, false, false, false, false, false, false, false, false] rfl rfl (any_of HT_.out (by kernel_rfl)) (fun _ _ _ h => h) (Or.inl ⟨by rfl, ?_⟩) ?_ ?_
 rotate_left
 ·intro w'
  go_simp
  with_reducible rfl
 rotate_left
 ·simp only [Act.put, List.setIfInBounds_toArray, List.set_cons_zero, List.set_cons_succ, i64_w, i32_w]
  rfl
 refine pure_ (i := 5) (N := some 49) (v := ?_) (a' := ?_) #[true, true, true, true, true, true, false, false, false, false, false, false, false, false, false, false, false, false] rfl rfl (any_of HT_.out (by kernel_rfl)) (fun _ _ _ h => h) (Or.inl ⟨by rfl, ?_⟩) ?_ ?_
 rotate_left
 ·intro w'
  go_simp
  with_reducible rfl
 rotate_left
 ·simp only [Act.put, List.setIfInBounds_toArray, List.set_cons_zero, List.set_cons_succ, i64_w, i32_w]
  rfl
 refine pure_ (i := 6) (N := some 50) (v := ?_) (a' := ?_) #[true, true, true, true, true, true, true, false, false, false, false, false, false, false, false, false, false, false] rfl rfl (any_of HT_.out (by kernel_rfl)) (fun _ _ _ h => h) (Or.inl ⟨by rfl, ?_⟩) ?_ ?_
 rotate_left
 ·intro w'
  go_simp
  with_reducible rfl
 rotate_left
 ·simp only [Act.put, List.setIfInBounds_toArray, List.set_cons_zero, List.set_cons_succ, i64_w, i32_w]
  rfl
 refine pure_ (i := 7) (N := some 51) (v := ?_) (a' := ?_) #[true, true, true, true, true, true, true, true, false, false, false, false, false, false, false, false, false, false] rfl rfl (any_of HT_.out (by kernel_rfl)) (fun _ _ _ h => h) (Or.inl ⟨by rfl, ?_⟩) ?_ ?_
 rotate_left
 ·intro w'
  go_simp
  with_reducible rfl
 rotate_left
 ·simp only [Act.put, List.setIfInBounds_toArray, List.set_cons_zero, List.set_cons_succ, i64_w, i32_w]
  rfl
 refine pure_ (i := 9) (N := some 53) (v := ?_) (a' := ?_) #[true, true, true, true, true, true, true, true, false, true, false, false, false, false, false, false, false, false] rfl rfl (any_of HT_.out (by kernel_rfl)) (fun _ _ _ h => h) (Or.inl ⟨by rfl, ?_⟩) ?_ ?_
 rotate_left
 ·intro w'
  go_simp
  with_reducible rfl
 rotate_left
 ·simp only [Act.put, List.setIfInBounds_toArray, List.set_cons_zero, List.set_cons_succ, i64_w, i32_w]
  rfl
 refine pure_ (i := 10) (N := some 54) (v := ?_) (a' := ?_) #[true, true, true, true, true, true, true, true, false, true, true, false, false, false, false, false, false, false] rfl rfl (any_of HT_.out (by kernel_rfl)) (fun _ _ _ h => h) (Or.inl ⟨by rfl, ?_⟩) ?_ ?_
 rotate_left
 ·intro w'
  go_simp
  with_reducible rfl
 rotate_left
 ·simp only [Act.put, List.setIfInBounds_toArray, List.set_cons_zero, List.set_cons_succ, i64_w, i32_w]
  rfl
 refine pure_ (i := 11) (N := some 55) (v := ?_) (a' := ?_) #[true, true, true, true, true, true, true, true, false, true, true, true, false, false, false, false, false, false] rfl rfl (any_of HT_.out (by kernel_rfl)) (fun _ _ _ h => h) (Or.inl ⟨by rfl, ?_⟩) ?_ ?_
 rotate_left
 ·intro w'
  go_simp
  with_reducible rfl
 rotate_left
 ·simp only [Act.put, List.setIfInBounds_toArray, List.set_cons_zero, List.set_cons_succ, i64_w, i32_w]
  rfl
 refine pure_ (i := 12) (N := some 56) (v := ?_) (a' := ?_) #[true, true, true, true, true, true, true, true, false, true, true, true, true, false, false, false, false, false] rfl rfl (any_of HT_.out (by kernel_rfl)) (fun _ _ _ h => h) (Or.inl ⟨by rfl, ?_⟩) ?_ ?_
 rotate_left
 ·intro w'
  go_simp
  with_reducible rfl
 rotate_left
 ·simp only [Act.put, List.setIfInBounds_toArray, List.set_cons_zero, List.set_cons_succ, i64_w, i32_w]
  rfl
 refine take_ (i := 8) (N := some 52) (v := ?_) (a' := ?_) #[true, true, true, true, true, true, true, true, true, true, true, true, true, false, false, false, false, false] rfl rfl (take_ofW HT_.out HW_.out (by kernel_rfl)) (fun _ _ _ h => h) (Or.inl ⟨by rfl, ?_⟩) hHeld ?_ ?_
 rotate_left
 ·intro w' hS_
  have ca_ := own_at hS_.1 m2 _ ha
  have cb_ := own_at hS_.1 m1 _ hb
  go_simp
  with_reducible rfl
 rotate_left
 ·simp only [Act.put, List.setIfInBounds_toArray, List.set_cons_zero, List.set_cons_succ, i64_w, i32_w]
  rfl
 refine take_ (i := 13) (N := some 57) (v := ?_) (a' := ?_) #[true, true, true, true, true, true, true, true, true, true, true, true, true, true, false, false, false, false] rfl rfl (take_ofW HT_.out HW_.out (by kernel_rfl)) (fun _ _ _ h => h) (Or.inl ⟨by rfl, ?_⟩) hHeld ?_ ?_
 rotate_left
 ·intro w' hS_
  have ca_ := own_at hS_.1 m2 _ ha
  have cb_ := own_at hS_.1 m1 _ hb
  go_simp
  with_reducible rfl
 rotate_left
 ·simp only [Act.put, List.setIfInBounds_toArray, List.set_cons_zero, List.set_cons_succ, i64_w, i32_w]
  rfl
 refine one_ (i := 14) (N := some 58) #[true, true, true, true, true, true, true, true, true, true, true, true, true, true, true, false, false, false] rfl rfl (one_of HT_.out (by kernel_rfl)) (by decide) (fun K hK => ?_)
 refine goes_ Tryd.func32 (by kernel_rfl) rfl #[.string a, .string b] (by rfl) rfl rfl (by (try simp only [List.map_toArray, List.map_cons, List.map_nil]); first | done | rfl) ?_
 refine (node_calls a b _ (hHeld.2.2.1.below hHeld.2.2.2) hnode).mono ?_
 rintro e w1_ ⟨rfl, hd⟩
 refine ⟨_, rfl, ?_⟩
 refine hK.out _ _ (keepSRt hHeld hd) (fun hHeld => ?_)
 clear hK K hd
 refine norm_ (a' := ?_) ?_ ?_
 rotate_left
 ·show Act.put _ (some 58) _ = _
  simp only [Act.put, List.setIfInBounds_toArray, List.set_cons_zero, List.set_cons_succ, i64_w, i32_w]
  rfl
 refine one_ (i := 15) (N := some 59) #[true, true, true, true, true, true, true, true, true, true, true, true, true, true, true, true, false, false] rfl rfl (one_of HT_.out (by kernel_rfl)) (by decide) (fun K hK => ?_)
 go_simp
 refine hK.out _ _ (keepSRt hHeld (below_alloc (Below.refl _ _) _)) (fun hHeld => ?_)
 clear hK K
 have hg15 := heap_alloc_new w1_ (Obj.cells #[.string (nodeF a b)] 9)
 generalize hw2_ : w1_.alloc (Obj.cells #[.string (nodeF a b)] 9) = w2_ at hg15 hHeld ⊢
 clear hw2_
 refine last_ (i := 16) (N := some 60) #[true, true, true, true, true, true, true, true, true, true, true, true, true, true, true, true, true, false] rfl rfl (one_of HT_.out (by kernel_rfl)) (by decide) (fun K hK => ?_)
 obtain ⟨ho_, hs_, hr_, hb_⟩ := hHeld
 obtain ⟨i9_, hi9_, h91_, h92_, h93_⟩ := info_parts info9
 refine step_own _ (by rfl) (.tmp 47) (.tmp 59) 22 rfl v.heap.size 9 i9_ (.string ⟨#[]⟩) 1 16 Tryd.underlying22 hi9_ h91_ h92_ h93_ rfl (by decide) _ m2 _ rfl (own_take ho_ m2 (by omega)) ⟨_, 0, none⟩ 1 1 [.string (nodeF a b)] rfl rfl (one_of_block hg15) (by simp [Value.oneCell']) (by unfold maxLen; omega) (by omega) hb_.size ?_
 intro v' w' hown_ hgr_ _
 refine hK.out _ _ ?_
 clear hK K
 refine norm_ (a' := ?_) ?_ ?_
 rotate_left
 ·show Act.put _ (some 60) _ = _
  simp only [Act.put, List.setIfInBounds_toArray, List.set_cons_zero, List.set_cons_succ, i64_w, i32_w]
  rfl
 refine pure_ (i := 17) (N := some 3) (v := ?_) (a' := ?_) #[true, true, true, true, true, true, true, true, true, true, true, true, true, true, true, true, true, true] rfl rfl (any_of HT_.out (by kernel_rfl)) (fun _ _ _ h => h) (Or.inl ⟨by rfl, ?_⟩) ?_ ?_
 rotate_left
 ·intro w'
  go_simp
  with_reducible rfl
 rotate_left
 ·simp only [Act.put, List.setIfInBounds_toArray, List.set_cons_zero, List.set_cons_succ, i64_w, i32_w]
  rfl
 refine done_ (done_of HT_.out (by kernel_rfl)) ?_
 exact hQ _ _ _ _ _ _ _ _ _ _ _ _ _ _ _ _ _ v' w' ⟨hown_, hs_.kept hgr_ (own_apart ho_ hs_ (by decide)), hr_, hb_.grown hgr_ hb_.size (fun k e => by have e1 : g = k := Option.some.inj e; rw [← e1]; exact (own_lt ho_).1)⟩
def root.T11 : Bool × List (List Nat × List Nat) := (true, [([], []), ([], []), ([1], [1]), ([0, 2], [0, 2]), ([], []), ([], []), ([5], [5]), ([4, 6], [4, 6]), ([7], [7]), ([8], [8]), ([9], [9]), ([3, 10], [3, 10]), ([11, 11, 0, 1, 2, 3, 4, 5, 6, 7, 8, 9, 10, 11], [0, 4, 11])])
def root.B11 : List Nat := [0, 0, 2, 7, 0, 0, 32, 112, 240, 496, 1008, 2047, 4095]
theorem root.tab11 : rtab .any (opsOf Tryd.f19 11) = root.T11 := by kernel_rfl
theorem root.bits11 : waitsOk root.T11.2 root.B11 = true := by kernel_rfl
noncomputable def rootR11 : Code := ((Tryd.f19.body.bind (regionOf 11)).getD .skip)
set_option maxHeartbeats 4000000 in
set_option maxRecDepth 100000 in
theorem root_r11 (R : Act → World → Prop) (v W : World) (v0 v1 v2 v5 v6 v8 v9 v10 v11 v12 v13 v14 v15 v16 v17 v18 v19 v20 v21 v22 v23 v24 v25 v26 v27 v28 v29 v30 v31 v32 v33 v34 v35 v36 v37 v38 v39 v40 v41 v42 v43 v44 v45 v46 v47 v48 v49 v50 v51 v52 v53 v54 v55 v56 v57 v58 v59 v60 v61 v62 v63 v64 v65 v66 v67 v68 v69 v70 v71 v72 v73 v74 v75 v76 v77 v78 v79 v80 v81 v82 v83 v84 v85 v86 v87 v88 v89 v90 v91 v92 v93 v94 v95 : Value) (vw : Value) (g cap n m1 m2 kw y1 y2 : Nat) (xw ss : List Value)
  (hn : n ≤ 1000000) (h2 : m2 + 2 = n) (h1 : m1 + 1 = n) (hcap : n ≤ cap)
  (k1 : IntKind.i64.wrap ((n : Int) - 1) = (m1 : Int)) (k2 : IntKind.i64.wrap ((n : Int) - 2) = (m2 : Int)) (ky1 : IntKind.i64.wrap (m1 : Int) = (m1 : Int)) (ky2 : IntKind.i64.wrap (m2 : Int) = (m2 : Int)) (k3 : IntKind.i64.wrap (2 * (y1 : Int)) = (y2 : Int))
  (x1 : ((m1 : Int) < (n : Int)) = True) (x2 : ((m2 : Int) < (n : Int)) = True) (x3 : ((m2 : Int) ≤ (cap : Int)) = True) (z1 : (m1 < n) = True) (z2 : (m2 < n) = True) (z3 : (m2 ≤ cap) = True)
  (hb : ss[m1]? = some (.int .i64 (y1 : Int)))
  (hS : SRu v g cap n vw kw xw ss W)
  (hQ : ∀ (z61 z62 z63 z64 z65 z66 z67 z68 z69 z70 z71 z72 v' : Value) (W' : World), W'.ownsRow v.heap.size 3 1 v' (m2 + 1) (ss.take m2 ++ [.int .i64 (y2 : Int)]) ∧ W'.ownsRow v.heap.size 9 1 vw kw xw ∧ Amb v ∧ Below v.heap.size v W' → R ⟨#[v0, v1, v2, vw, v', v5, v6, Value.int .i64 (n : Int), v8, v9, v10, v11, v12, v13, v14, v15, v16, v17, v18, v19, v20, v21, v22, v23, v24, v25, v26, v27, v28, v29, v30, v31, v32, v33, v34, v35, v36, v37, v38, v39, v40, v41, v42, v43, v44, v45, v46, v47, v48, v49, v50, v51, v52, v53, v54, v55, v56, v57, v58, v59, v60, z61, z62, z63, z64, z65, z66, z67, z68, z69, z70, z71, z72, v73, v74, v75, v76, v77, v78, v79, v80, v81, v82, v83, v84, v85, v86, v87, v88, v89, v90, v91, v92, v93, v94, v95], []⟩ W') :
  rootR11.wp Tryd.prog (Norm R) ⟨#[v0, v1, v2, vw, Value.slice (some ⟨g, 0, none⟩) n cap, v5, v6, Value.int .i64 (n : Int), v8, v9, v10, v11, v12, v13, v14, v15, v16, v17, v18, v19, v20, v21, v22, v23, v24, v25, v26, v27, v28, v29, v30, v31, v32, v33, v34, v35, v36, v37, v38, v39, v40, v41, v42, v43, v44, v45, v46, v47, v48, v49, v50, v51, v52, v53, v54, v55, v56, v57, v58, v59, v60, v61, v62, v63, v64, v65, v66, v67, v68, v69, v70, v71, v72, v73, v74, v75, v76, v77, v78, v79, v80, v81, v82, v83, v84, v85, v86, v87, v88, v89, v90, v91, v92, v93, v94, v95], []⟩ W := by
 unfold rootR11
 conv => arg 2; whnf
 refine start_ (n := 13) (S := SRu v g cap n vw kw xw ss) (ds := [11]) #[false, false, false, false, false, false, false, false, false, false, false, false, false] (by kernel_rfl) rfl rfl (keepSRu hS (below_drew1 (Below.refl _ _))) (fun hHeld => ?_); refine with_tabW root.tab11 root.bits11 (fun HT_ HW_ => ?_)
 generalize W.drew = w0_ at hHeld ⊢
 refine pure_ (i := 0) (N := some 61) (v := ?_) (a' := ?_) #[true, false, false, false, false, false, false, false, false, false, false, false, false] rfl rfl (any_of HT_.out (by kernel_rfl)) (fun _ _ _ h => h) (Or.inl ⟨by rfl, ?_⟩) ?_ ?_
 rotate_left
 ·intro w'
  go_simp
  with_reducible rfl
 rotate_left
 ·simp only [Act.put, List.setIfInBounds_toArray, List.set_cons_zero, List.set_cons_succ, i64_w, i32_w]
  rfl
 refine pure_ (i := 1) (N := some 62) (v := ?_) (a' := ?_) #[true, true, false, false, false, false, false, false, false, false, false, false, false] rfl rfl (any_of HT_.out (by kernel_rfl)) (fun _ _ _ h => h) (Or.inl ⟨by rfl, ?_⟩) ?_ ?_
 rotate_left
 ·intro w'
  go_simp
  with_reducible rfl
 rotate_left
 ·simp only [Act.put, List.setIfInBounds_toArray, List.set_cons_zero, List.set_cons_succ, i64_w, i32_w]
  rfl
 refine pure_ (i := 2) (N := some 63) (v := ?_) (a' := ?_) #[true, true, true, false, false, false, false, false, false, false, false, false, false] rfl rfl (any_of HT_.out (by kernel_rfl)) (fun _ _ _ h => h) (Or.inl ⟨by rfl, ?_⟩) ?_ ?_
 rotate_left
 ·intro w'
  go_simp
  with_reducible rfl
 rotate_left
 ·simp only [Act.put, List.setIfInBounds_toArray, List.set_cons_zero, List.set_cons_succ, i64_w, i32_w]
  rfl
 refine pure_ (i := 3) (N := some 64) (v := ?_) (a' := ?_) #[true, true, true, true, false, false, false, false, false, false, false, false, false] rfl rfl (any_of HT_.out (by kernel_rfl)) (fun _ _ _ h => h) (Or.inl ⟨by rfl, ?_⟩) ?_ ?_
 rotate_left
 ·intro w'
  go_simp
  with_reducible rfl
 rotate_left
 ·simp only [Act.put, List.setIfInBounds_toArray, List.set_cons_zero, List.set_cons_succ, i64_w, i32_w]
  rfl
 refine pure_ (i := 4) (N := some 65) (v := ?_) (a' := ?_) #[true, true, true, true, true, false, false, false, false, false, false, false, false] rfl rfl (any_of HT_.out (by kernel_rfl)) (fun _ _ _ h => h) (Or.inl ⟨by rfl, ?_⟩) ?_ ?_
 rotate_left
 ·intro w'
  go_simp
  with_reducible rfl
 rotate_left
 ·simp only [Act.put, List.setIfInBounds_toArray, List.set_cons_zero, List.set_cons_succ, i64_w, i32_w]
  rfl
 refine pure_ (i := 5) (N := some 66) (v := ?_) (a' := ?_) #[true, true, true, true, true, true, false, false, false, false, false, false, false] rfl rfl (any_of HT_.out (by kernel_rfl)) (fun _ _ _ h => h) (Or.inl ⟨by rfl, ?_⟩) ?_ ?_
 rotate_left
 ·intro w'
  go_simp
  with_reducible rfl
 rotate_left
 ·simp only [Act.put, List.setIfInBounds_toArray, List.set_cons_zero, List.set_cons_succ, i64_w, i32_w]
  rfl
 refine pure_ (i := 6) (N := some 67) (v := ?_) (a' := ?_) #[true, true, true, true, true, true, true, false, false, false, false, false, false] rfl rfl (any_of HT_.out (by kernel_rfl)) (fun _ _ _ h => h) (Or.inl ⟨by rfl, ?_⟩) ?_ ?_
 rotate_left
 ·intro w'
  go_simp
  with_reducible rfl
 rotate_left
 ·simp only [Act.put, List.setIfInBounds_toArray, List.set_cons_zero, List.set_cons_succ, i64_w, i32_w]
  rfl
 refine pure_ (i := 7) (N := some 68) (v := ?_) (a' := ?_) #[true, true, true, true, true, true, true, true, false, false, false, false, false] rfl rfl (any_of HT_.out (by kernel_rfl)) (fun _ _ _ h => h) (Or.inl ⟨by rfl, ?_⟩) ?_ ?_
 rotate_left
 ·intro w'
  go_simp
  with_reducible rfl
 rotate_left
 ·simp only [Act.put, List.setIfInBounds_toArray, List.set_cons_zero, List.set_cons_succ, i64_w, i32_w]
  rfl
 refine take_ (i := 8) (N := some 69) (v := ?_) (a' := ?_) #[true, true, true, true, true, true, true, true, true, false, false, false, false] rfl rfl (take_ofW HT_.out HW_.out (by kernel_rfl)) (fun _ _ _ h => h) (Or.inl ⟨by rfl, ?_⟩) hHeld ?_ ?_
 rotate_left
 ·intro w' hS_
  have cb_ := own_at hS_.1 m1 _ hb
  go_simp
  with_reducible rfl
 rotate_left
 ·simp only [Act.put, List.setIfInBounds_toArray, List.set_cons_zero, List.set_cons_succ, i64_w, i32_w]
  rfl
 refine pure_ (i := 9) (N := some 70) (v := ?_) (a' := ?_) #[true, true, true, true, true, true, true, true, true, true, false, false, false] rfl rfl (any_of HT_.out (by kernel_rfl)) (fun _ _ _ h => h) (Or.inl ⟨by rfl, ?_⟩) ?_ ?_
 rotate_left
 ·intro w'
  go_simp
  with_reducible rfl
 rotate_left
 ·simp only [Act.put, List.setIfInBounds_toArray, List.set_cons_zero, List.set_cons_succ, i64_w, i32_w]
  rfl
 refine one_ (i := 10) (N := some 71) #[true, true, true, true, true, true, true, true, true, true, true, false, false] rfl rfl (one_of HT_.out (by kernel_rfl)) (by decide) (fun K hK => ?_)
 go_simp
 refine hK.out _ _ (keepSRu hHeld (below_alloc (Below.refl _ _) _)) (fun hHeld => ?_)
 clear hK K
 have hg10 := heap_alloc_new w0_ (Obj.cells #[.int .i64 (y2 : Int)] 3)
 generalize hw1_ : w0_.alloc (Obj.cells #[.int .i64 (y2 : Int)] 3) = w1_ at hg10 hHeld ⊢
 clear hw1_
 refine last_ (i := 11) (N := some 72) #[true, true, true, true, true, true, true, true, true, true, true, true, false] rfl rfl (one_of HT_.out (by kernel_rfl)) (by decide) (fun K hK => ?_)
 obtain ⟨ho_, hs_, hr_, hb_⟩ := hHeld
 obtain ⟨i3_, hi3_, h31_, h32_, h33_⟩ := info_parts info3
 refine step_own _ (by rfl) (.tmp 64) (.tmp 71) 49 rfl v.heap.size 3 i3_ (.int .i64 0) 1 8 Tryd.underlying49 hi3_ h31_ h32_ h33_ rfl (by decide) _ m2 _ rfl (own_take ho_ m2 (by omega)) ⟨_, 0, none⟩ 1 1 [.int .i64 (y2 : Int)] rfl rfl (one_of_block hg10) (by simp [Value.oneCell']) (by unfold maxLen; omega) (by omega) hb_.size ?_
 intro v' w' hown_ hgr_ _
 refine hK.out _ _ ?_
 clear hK K
 refine norm_ (a' := ?_) ?_ ?_
 rotate_left
 ·show Act.put _ (some 72) _ = _
  simp only [Act.put, List.setIfInBounds_toArray, List.set_cons_zero, List.set_cons_succ, i64_w, i32_w]
  rfl
 refine pure_ (i := 12) (N := some 4) (v := ?_) (a' := ?_) #[true, true, true, true, true, true, true, true, true, true, true, true, true] rfl rfl (any_of HT_.out (by kernel_rfl)) (fun _ _ _ h => h) (Or.inl ⟨by rfl, ?_⟩) ?_ ?_
 rotate_left
 ·intro w'
  go_simp
  with_reducible rfl
 rotate_left
 ·simp only [Act.put, List.setIfInBounds_toArray, List.set_cons_zero, List.set_cons_succ, i64_w, i32_w]
  rfl
 refine done_ (done_of HT_.out (by kernel_rfl)) ?_
 exact hQ _ _ _ _ _ _ _ _ _ _ _ _ v' w' ⟨hown_, hs_.kept hgr_ (own_apart ho_ hs_ (by decide)), hr_, hb_.grown hgr_ hb_.size (fun k e => by have e1 : g = k := Option.some.inj e; rw [← e1]; exact (own_lt ho_).1)⟩
end Go.Proofs.YtjkdenldddjcnaaDoor.Sha

set_option linter.unusedVariables false
set_option linter.unusedSimpArgs false
namespace Go.Proofs.YtjkdenldddjcnaaDoor.Sha
open Go Go.RowKit Go.Shelf Go.Proofs.YtjkdenldddjcnaaDoor.Rf Go.Proofs.YtjkdenldddjcnaaDoorW.PrintWords Go.Proofs.YtjkdenldddjcnaaDoorW.PrintLast Go.Proofs.YtjkdenldddjcnaaDoorW.PrintMore
attribute [local go_sem] Oper.semAt_some

theorem sumF_size (s : ByteArray) : (sumF s).size = 32 := by
 unfold sumF digW
 rw [strOfNums_size, List.length_map, dst_length]
abbrev St := List (ByteArray × Nat)
/-- The stack's two rows, the bottom first. -/
def wsV (st : St) : List Value := (st.map fun p => Value.string p.1).reverse
def ssV (st : St) : List Value := (st.map fun p => Value.int .i64 (p.2 : Int)).reverse
def mergeF : Nat → St → St
 | 0, st => st
 | k + 1, st => match st with
  | (b, s) :: (a, t) :: r => if t = s then mergeF k ((nodeF a b, 2 * s) :: r) else st
  | _ => st
def stepF (st : St) (x : ByteArray) : St := mergeF (st.length + 1) ((leafF x, 1) :: st)
def foldF (l : List ByteArray) : St := l.foldl stepF []
def endF : St → ByteArray
 | [] => sumF ⟨#[]⟩
 | (x, _) :: r => r.foldl (fun out p => nodeF p.1 out) x
def rootF (l : List ByteArray) : ByteArray := endF (foldF l)
structure Good (st : St) (i : Nat) : Prop where
 h : ∀ p ∈ st, p.1.size = 32 ∧ 1 ≤ p.2
 sum : (st.map (·.2)).sum = i
theorem Good.len {st : St} {i : Nat} (h : Good st i) : st.length ≤ i := by
 obtain ⟨h1, h2⟩ := h
 induction st generalizing i with
 | nil => simp
 | cons p st ih =>
  simp only [List.map_cons, List.sum_cons] at h2
  have := ih (i := (st.map (·.2)).sum) (fun q hq => h1 q (List.mem_cons_of_mem _ hq)) rfl
  have := (h1 p List.mem_cons_self).2
  simp
  omega
theorem wsV_length (st : St) : (wsV st).length = st.length := by simp [wsV]
theorem ssV_length (st : St) : (ssV st).length = st.length := by simp [ssV]
theorem Good.leaf {st : St} {i : Nat} (h : Good st i) (x : ByteArray) : Good ((leafF x, 1) :: st) (i + 1) :=
 ⟨fun p hp => by
  rcases List.mem_cons.1 hp with rfl | hp
  ·exact ⟨sumF_size _, Nat.le_refl _⟩
  ·exact h.h p hp, by have := h.sum; simp; omega⟩
theorem Good.merge {a b : ByteArray} {s : Nat} {r : St} {i : Nat} (h : Good ((b, s) :: (a, s) :: r) i) : Good ((nodeF a b, 2 * s) :: r) i :=
 ⟨fun p hp => by
  rcases List.mem_cons.1 hp with rfl | hp
  ·exact ⟨sumF_size _, by have := (h.h (b, s) List.mem_cons_self).2; simp at this ⊢; omega⟩
  ·exact h.h p (List.mem_cons_of_mem _ (List.mem_cons_of_mem _ hp)), by have := h.sum; simp at this ⊢; omega⟩
theorem Good.mergeF : ∀ (k : Nat) {st : St} {i : Nat}, Good st i → Good (mergeF k st) i
 | 0, st, i, h => h
 | k + 1, st, i, h => by
  unfold Sha.mergeF
  split
  ·split
   ·rename_i hts
    subst hts
    exact Good.mergeF k h.merge
   ·exact h
  ·exact h
theorem foldF_good : ∀ (l : List ByteArray) (st : St) (i : Nat), Good st i → Good (l.foldl stepF st) (i + l.length)
 | [], st, i, h => h
 | x :: l, st, i, h => by
  have := foldF_good l (stepF st x) (i + 1) (Good.mergeF _ (h.leaf x))
  rw [List.foldl_cons, List.length_cons]
  rwa [Nat.add_assoc, Nat.add_comm 1] at this
theorem good_take (l : List ByteArray) (i : Nat) (hi : i ≤ l.length) : Good (foldF (l.take i)) i := by
 have := foldF_good (l.take i) [] 0 ⟨fun p hp => (by cases hp), rfl⟩
 rw [List.length_take, Nat.min_eq_left hi, Nat.zero_add] at this
 exact this
theorem own_apart2 {w : World} {base : Nat} {e e' : TypeId} {v u : Value} {n m : Nat} {xs ys : List Value} (h : w.ownsRow base e 1 v n xs) (k : w.ownsRow base e' 1 u m ys) (hne : e ≠ e') :
  u.ownBlock = none ∨ u.ownBlock ≠ v.ownBlock := by
 obtain ⟨_, ⟨rfl, _⟩ | ⟨g1, cap1, cur1, rfl, _, hg1, _⟩⟩ := h
 ·cases hu : u.ownBlock with
  | none => exact .inl rfl
  | some q => exact .inr (by simp [Value.ownBlock])
 ·obtain ⟨_, ⟨rfl, _⟩ | ⟨g2, cap2, cur2, rfl, _, hg2, _⟩⟩ := k
  ·exact .inl rfl
  ·refine .inr fun hh => ?_
   simp only [Value.ownBlock, Option.some.injEq] at hh
   subst hh
   rw [hg1] at hg2
   injection hg2 with hg2
   injection hg2 with _ he
   exact hne he
theorem own_cap {w : World} {base : Nat} {e : TypeId} {g n cap : Nat} {xs : List Value} (h : w.ownsRow base e 1 (.slice (some ⟨g, 0, none⟩) n cap) n xs) : n ≤ cap := by
 obtain ⟨_, ⟨h1, _⟩ | ⟨g1, cap1, cur1, e1, _, hg1, h2, _⟩⟩ := h
 ·cases h1
 ·injection e1 with e1 e2 e3
  omega
theorem zip_two {α β : Type} (x x' : α) (y y' : β) : (#[x, x']).zip #[y, y'] = #[(x, y), (x', y')] := by simp
theorem foldl_two {α β : Type} (f : β → α → β) (t : β) (x x' : α) : Array.foldl f t #[x, x'] = f (f t x) x' := by simp
theorem node_size (a b : ByteArray) : (nodeF a b).size = 32 := by
 unfold nodeF
 exact sumF_size _
theorem fold_size {α : Type} (f : α → ByteArray) : ∀ (pre : List α) (x : ByteArray) (_ : x.size = 32), (pre.foldl (fun out y => nodeF (f y) out) x).size = 32
 | [], _, h => h
 | y :: pre, x, _ => by
  rw [List.foldl_cons]
  exact fold_size f pre (nodeF (f y) x) (node_size _ _)
theorem fold_rev {α : Type} [Inhabited α] {β : Type} {m : Nat} (xs : List α) (hxl : xs.length = m) (ys : List (Fin m)) (hys : ys.map Fin.val = (List.range m).reverse) (g : α → β → β) (x : β) :
  ys.foldl (fun out y => g (xs[y.val]'(hxl ▸ y.isLt)) out) x = xs.reverse.foldl (fun out y => g y out) x := by
 have h1 : ys.map (fun y => xs[y.val]'(hxl ▸ y.isLt)) = xs.reverse := by
  have h2 : ys.map (fun y => xs[y.val]'(hxl ▸ y.isLt)) = (ys.map Fin.val).map (fun i => xs.getD i default) := by
   rw [List.map_map]
   apply List.map_congr_left
   intro y _
   have : y.val < xs.length := hxl ▸ y.isLt
   simp [List.getD_eq_getElem?_getD, List.getElem?_eq_getElem this]
  rw [h2, hys, List.map_reverse]
  congr 1
  apply List.ext_getElem?
  intro j
  rw [List.getElem?_map]
  by_cases hj : j < m
  ·rw [List.getElem?_range hj, List.getElem?_eq_getElem (by omega)]
   simp [List.getD_eq_getElem?_getD, List.getElem?_eq_getElem (show j < xs.length by omega)]
  ·rw [List.getElem?_eq_none (by simp; omega), List.getElem?_eq_none (by omega)]
   rfl
 rw [← h1, List.foldl_map]
theorem wsV_cons (p : ByteArray × Nat) (st : St) : wsV (p :: st) = wsV st ++ [.string p.1] := by simp [wsV]
theorem ssV_cons (p : ByteArray × Nat) (st : St) : ssV (p :: st) = ssV st ++ [.int .i64 (p.2 : Int)] := by simp [ssV]
set_option maxHeartbeats 2000000 in
set_option maxRecDepth 100000 in
theorem root_calls (A0 : Option Addr) (c0 : Nat) (l : List ByteArray) (w : World) (hr0 : Kd.C Kd.string w A0 l.length l) (hc0 : l.length ≤ c0) (hG_ : Amb w) (hln : l.length ≤ 1000000) (hsz : ∀ s ∈ l, s.size ≤ 549755813888) :
  Calls Tryd.prog 19 #[.slice A0 l.length c0] w fun e w' => e = .returned (.string (rootF l)) ∧ Below w.heap.size w w' := by
 have HR0 := Aside0.mk hr0
 clear hr0
 obtain ⟨n0, hn0⟩ : ∃ n0, l.length = n0 := ⟨_, rfl⟩
 rw [hn0] at hc0 hln HR0 ⊢
 replace hn0 := Aside0.mk hn0
 obtain ⟨i9, hi9, h91, h92, h93⟩ := info_parts info9
 obtain ⟨i3, hi3, h31, h32, h33⟩ := info_parts info3
 refine (callsIn_wide (n := 4)).1 ?_
 refine callsIn_of_wp_marks Tryd.func19 rfl trivial ?_ rfl
 refine wpIn_wide.2 ?_
 simp only [Tryd.ntmps19, List.size_toArray, List.length_cons, List.length_nil, Nat.reduceAdd, Nat.reduceSub, Array.replicate_succ, Array.replicate_zero, List.push_toArray, List.append_toArray, List.nil_append, List.cons_append]
 go_upto_region 4 with (fail)
 go_loopw [3, 4, 13] (fun v3 v4 v13 w' => ∃ i : Nat, v13 = .int .i64 i ∧ i ≤ n0 ∧ Aside0 (w'.ownsRow w.heap.size 9 1 v3 (foldF (l.take i)).length (wsV (foldF (l.take i)))) ∧ Aside0 (w'.ownsRow w.heap.size 3 1 v4 (foldF (l.take i)).length (ssV (foldF (l.take i)))) ∧ Aside0 (Below w.heap.size w w')) (fun _ _ v _ => n0 - (intOf v).toNat)
 case atStart => exact ⟨0, rfl, by omega, ⟨World.ownsRow_nil _ _ _ _⟩, ⟨World.ownsRow_nil _ _ _ _⟩, ⟨Below.refl _ _⟩⟩
 case round =>
  obtain ⟨i, rfl, hi, O3, O4, HB⟩ := hrel
  by_cases h1 : i < n0
  ·have e1 : decide ((i : Int) < (n0 : Int)) = true := decide_eq_true (by omega)
   have p0 : 0 ≤ (i : Int) := by omega
   have q0 : (i : Int) < (n0 : Int) := by omega
   obtain ⟨ad, ea, hx⟩ := Kd.at_string (Kd.C_below HR0.out HB.out) (i : Int) p0 q0
   cases ea
   replace p0 := eq_true p0
   replace q0 := eq_true q0
   obtain ⟨x, hxl⟩ : ∃ x, l[i]? = some x := ⟨_, List.getElem?_eq_getElem (by rw [hn0.out]; exact h1)⟩
   have hx1 : rdOf ByteArray.empty l (i : Int) = x := by
    unfold rdOf
    simp [hxl]
   rw [hx1, show ((i : Int)).toNat = i by omega] at hx
   have hxs : x.size ≤ 549755813888 := hsz x (List.mem_of_getElem? hxl)
   have hgd := good_take l i (by rw [hn0.out]; exact hi)
   have hfs : foldF (l.take (i + 1)) = stepF (foldF (l.take i)) x := by
    unfold foldF
    rw [List.take_add_one, hxl, List.foldl_append]
    rfl
   replace hfs := Aside0.mk hfs
   replace hxl := Aside0.mk hxl
   obtain ⟨st, hst⟩ : ∃ st, foldF (l.take i) = st := ⟨_, rfl⟩
   rw [hst] at O3 O4 hgd
   replace hst := Aside0.mk hst
   have hsl := hgd.len
   replace hgd := Aside0.mk hgd
   go_wp2_with (first
    | (go_at_call 29; refine (leaf_calls x _ (hG_.below HB.out) hxs).mono ?_; rintro e w1 ⟨rfl, hb1⟩; have O31 := Aside0.mk (own_keep O3.out hb1); have O41 := Aside0.mk (own_keep O4.out hb1); have HB1 := Aside0.mk (below_then HB.out HB.out.size hb1); clear hb1 O3 O4 HB hx)
    | ((with_reducible refine gate_builtin (b := .append) (xs := #[.tmp 17, .tmp 20]) rfl ?_); at_builtin; refine wpList_append_own _ rfl (.tmp 17) (.tmp 20) 22 rfl w.heap.size 9 i9 (.string ⟨#[]⟩) 1 16 Tryd.underlying22 hi9 h91 h92 h93 rfl (by decide) _ st.length (wsV st) rfl (O31.out.alloc _) ⟨w1.heap.size, 0, none⟩ 1 1 [.string (leafF x)] rfl rfl (cell_one_new _ _ _) (by simp [Value.oneCell']) (by unfold maxLen; omega) (by omega) (by have := HB1.out.size; simp; omega) ?_; intro v21 w2 o3 hg2 _; have O42 := Aside0.mk ((O41.out.alloc (.cells #[.string (leafF x)] 9)).kept hg2 (own_apart2 (O31.out.alloc (.cells #[.string (leafF x)] 9)) (O41.out.alloc (.cells #[.string (leafF x)] 9)) (by decide))); have HB2 := Aside0.mk ((below_alloc' HB1.out HB1.out.size (.cells #[.string (leafF x)] 9)).grown hg2 (by have := HB1.out.size; simp; omega) (fun k e => (O31.out.lt k e).1)); obtain ⟨g21, c21, ev21⟩ := ownsRow_succ o3; subst ev21; have O32 := Aside0.mk o3; clear o3 hg2 O31 O41 HB1)
    | ((with_reducible refine gate_builtin (b := .append) (xs := #[.tmp 22, .tmp 23]) rfl ?_); at_builtin; refine wpList_append_own _ rfl (.tmp 22) (.tmp 23) 49 rfl w.heap.size 3 i3 (.int .i64 0) 1 8 Tryd.underlying49 hi3 h31 h32 h33 rfl (by decide) _ st.length (ssV st) rfl (O42.out.alloc _) ⟨w2.heap.size, 0, none⟩ 1 1 [.int .i64 1] rfl rfl (cell_one_new _ _ _) (by simp [Value.oneCell']) (by unfold maxLen; omega) (by omega) (by have := HB2.out.size; simp; omega) ?_; intro v24 w3 o4 hg3 _; have O33 := Aside0.mk ((O32.out.alloc (.cells #[.int .i64 1] 3)).kept hg3 (own_apart2 (O42.out.alloc (.cells #[.int .i64 1] 3)) (O32.out.alloc (.cells #[.int .i64 1] 3)) (by decide))); have HB3 := Aside0.mk ((below_alloc' HB2.out HB2.out.size (.cells #[.int .i64 1] 3)).grown hg3 (by have := HB2.out.size; simp; omega) (fun k e => (O42.out.lt k e).1)); obtain ⟨g24, c24, ev24⟩ := ownsRow_succ o4; subst ev24; have O43 := Aside0.mk o4; clear o4 hg3 O32 O42 HB2))
   clear p0 q0 hxs hx1
   have hO3 := O33.out
   rw [← wsV_cons (leafF x, 1)] at hO3
   have hO4 := O43.out
   rw [show (Value.int IntKind.i64 1) = .int .i64 (((leafF x, 1) : ByteArray × Nat).2 : Int) from rfl, ← ssV_cons (leafF x, 1)] at hO4
   have hG1 := Aside0.mk (hgd.out.leaf x)
   obtain ⟨T, hT⟩ : ∃ T, stepF st x = T := ⟨_, rfl⟩
   have hT2 := Aside0.mk hT
   unfold stepF at hT
   replace hT := Aside0.mk hT
   clear O33 O43 hgd
   go_loopw [3, 4, 7] (fun v3 v4 v7 w' => ∃ (k n : Nat) (cur : St), v7 = .int .i64 ((n + 1 : Nat) : Int) ∧ Aside0 (cur.length = n + 1) ∧ Aside0 (n + 1 ≤ k) ∧ Aside0 (mergeF k cur = T) ∧ Aside0 (Good cur (i + 1)) ∧ Aside0 (w'.ownsRow w.heap.size 9 1 v3 (n + 1) (wsV cur)) ∧ Aside0 (w'.ownsRow w.heap.size 3 1 v4 (n + 1) (ssV cur)) ∧ Aside0 (Below w.heap.size w w')) (fun _ _ v _ => (intOf v).toNat)
   case atStart => exact ⟨st.length + 1, st.length, (leafF x, 1) :: st, by simp, ⟨by simp⟩, ⟨by simp⟩, hT, hG1, ⟨hO3⟩, ⟨hO4⟩, HB3⟩
   case round =>
    clear hO3 hO4 hG1 HB3 hT
    obtain ⟨k, n', cur, rfl, hlen, hk, hmg, hgd, O3, O4, HB⟩ := hrel
    obtain ⟨g3, c3, ev3⟩ := ownsRow_succ O3.out
    subst ev3
    obtain ⟨g4, c4, ev4⟩ := ownsRow_succ O4.out
    subst ev4
    obtain ⟨n, hn⟩ : ∃ n, n' + 1 = n := ⟨_, rfl⟩
    rw [hn] at hlen hk O3 O4 ⊢
    replace hn := Aside0.mk hn
    have hnle : n ≤ 1000000 := by have := hgd.out.len; have := hlen.out; omega
    by_cases h2 : 1 < n
    ·have d1 : decide ((1 : Int) < (n : Int)) = true := decide_eq_true (by omega)
     obtain ⟨b, s, a, t, r, hcur⟩ : ∃ b s a t r, cur = (b, s) :: (a, t) :: r := by
      match cur, hlen.out with
      | [], h => simp at h; omega
      | [_], h => simp at h; omega
      | (b, s) :: (a, t) :: r, _ => exact ⟨b, s, a, t, r, rfl⟩
     subst hcur
     obtain ⟨m2, hm2⟩ : ∃ m, r.length = m := ⟨_, rfl⟩
     obtain ⟨m1, hm1⟩ : ∃ m, m2 + 1 = m := ⟨_, rfl⟩
     have hn2 : m2 + 2 = n := by have := hlen.out; simp at this; omega
     have ht : (ssV ((b, s) :: (a, t) :: r))[m2]? = some (.int .i64 (t : Int)) := by
      rw [ssV_cons, ssV_cons, List.append_assoc, List.getElem?_append_right (by rw [ssV_length]; omega), ssV_length, hm2]
      simp
     have hs : (ssV ((b, s) :: (a, t) :: r))[m1]? = some (.int .i64 (s : Int)) := by
      rw [ssV_cons, List.getElem?_append_right (by rw [ssV_length]; simp; omega), ssV_length]
      simp only [List.length_cons, hm2, hm1, Nat.sub_self]
      rfl
     have ha : (wsV ((b, s) :: (a, t) :: r))[m2]? = some (.string a) := by
      rw [wsV_cons, wsV_cons, List.append_assoc, List.getElem?_append_right (by rw [wsV_length]; omega), wsV_length, hm2]
      simp
     have hb : (wsV ((b, s) :: (a, t) :: r))[m1]? = some (.string b) := by
      rw [wsV_cons, List.getElem?_append_right (by rw [wsV_length]; simp; omega), wsV_length]
      simp only [List.length_cons, hm2, hm1, Nat.sub_self]
      rfl
     have ct := own_at O4.out m2 _ ht
     have cs := own_at O4.out m1 _ hs
     have k1 : IntKind.i64.wrap ((n : Int) - 1) = (m1 : Int) := by rw [IntKind.wrap_i64]; omega
     have k2 : IntKind.i64.wrap ((n : Int) - 2) = (m2 : Int) := by rw [IntKind.wrap_i64]; omega
     have y1 : IntKind.i64.wrap (m1 : Int) = (m1 : Int) := by rw [IntKind.wrap_i64]; omega
     have y2 : IntKind.i64.wrap (m2 : Int) = (m2 : Int) := by rw [IntKind.wrap_i64]; omega
     have x1 : ((m1 : Int) < (n : Int)) = True := eq_true (by omega)
     have x2 : ((m2 : Int) < (n : Int)) = True := eq_true (by omega)
     have z1 : (m1 < n) = True := eq_true (by omega)
     have z2 : (m2 < n) = True := eq_true (by omega)
     by_cases hts : t = s
     ·have d2 : ((t : Int) == (s : Int)) = true := beq_iff_eq.mpr (by omega)
      go_upto_region 8 with (fail)
      go_quiet (fail)
      go_upto_region 10 with (fail)
      have hnode : a.size + b.size ≤ 549755813888 := by
       have h1 := (hgd.out.h (b, s) List.mem_cons_self).1
       have h2 := (hgd.out.h (a, t) (List.mem_cons_of_mem _ List.mem_cons_self)).1
       simp only at h1 h2
       omega
      have hsle : s ≤ 1000001 := by
       have := hgd.out.sum
       simp at this
       omega
      have hc3 := own_cap O3.out
      have hc4 := own_cap O4.out
      have x3 : ((m2 : Int) ≤ (c3 : Int)) = True := eq_true (by omega)
      have z3 : (m2 ≤ c3) = True := eq_true (by omega)
      have x4 : ((m2 : Int) ≤ (c4 : Int)) = True := eq_true (by omega)
      have z4 : (m2 ≤ c4) = True := eq_true (by omega)
      have k3 : IntKind.i64.wrap (2 * (s : Int)) = ((2 * s : Nat) : Int) := by rw [IntKind.wrap_i64]; omega
      refine norm_wp ?_
      refine root_r10 _ w (wr.drewN nq) _ _ _ _ _ _ _ _ _ _ _ _ _ _ _ _ _ _ _ _ _ _ _ _ _ _ _ _ _ _ _ _ _ _ _ _ _ _ _ _ _ _ _ _ _ _ _ _ _ _ _ _ _ _ _ _ _ _ _ _ _ _ _ _ _ _ _ _ _ _ _ _ _ _ _ _ _ _ _ _ _ _ _ _ _ _ _ _ _ _ _ _ _ _ g3 c3 n m1 m2 n a b (wsV ((b, s) :: (a, t) :: r)) (ssV ((b, s) :: (a, t) :: r)) hnle hn2 (by omega) hc3 k1 k2 y1 y2 x1 x2 x3 z1 z2 z3 ha hb hnode (keepSRt ⟨O3.out, O4.out, hG_, HB.out⟩ (pw_below_drewN (Below.refl _ wr) nq)) ?_
      rintro z44 z45 z46 z47 z48 z49 z50 z51 z52 z53 z54 z55 z56 z57 z58 z59 z60 v3' W1 ⟨O31, O41, _, HB1⟩
      replace O31 := Aside0.mk O31
      replace O41 := Aside0.mk O41
      replace HB1 := Aside0.mk HB1
      go_upto_region 11 with (fail)
      refine norm_wp ?_
      refine root_r11 _ w W1 _ _ _ _ _ _ _ _ _ _ _ _ _ _ _ _ _ _ _ _ _ _ _ _ _ _ _ _ _ _ _ _ _ _ _ _ _ _ _ _ _ _ _ _ _ _ _ _ _ _ _ _ _ _ _ _ _ _ _ _ _ _ _ _ _ _ _ _ _ _ _ _ _ _ _ _ _ _ _ _ _ _ _ _ _ _ _ _ _ _ _ _ _ v3' g4 c4 n m1 m2 (m2 + 1) s (2 * s) _ (ssV ((b, s) :: (a, t) :: r)) hnle hn2 (by omega) hc4 k1 k2 y1 y2 k3 x1 x2 x4 z1 z2 z4 hs ⟨O41.out, O31.out, hG_, HB1.out⟩ ?_
      rintro y61_ y62_ y63_ y64_ y65_ y66_ y67_ y68_ y69_ y70_ y71_ y72_ v4' W2 ⟨O42, O32, _, HB2⟩
      replace O32 := Aside0.mk O32
      replace O42 := Aside0.mk O42
      replace HB2 := Aside0.mk HB2
      go_wp2_with fail
      obtain ⟨k', rfl⟩ : ∃ k', k = k' + 1 := ⟨k - 1, by have := hk.out; omega⟩
      have hgd' := hgd.out
      have hmg' := hmg.out
      subst hts
      rw [mergeF, if_pos rfl] at hmg'
      have e3 : (wsV ((b, t) :: (a, t) :: r)).take m2 ++ [.string (nodeF a b)] = wsV ((nodeF a b, 2 * t) :: r) := by
       rw [wsV_cons, wsV_cons, wsV_cons, List.append_assoc, List.take_append_of_le_length (by rw [wsV_length]; omega), List.take_of_length_le (by rw [wsV_length]; omega)]
      have e4 : (ssV ((b, t) :: (a, t) :: r)).take m2 ++ [.int .i64 ((2 * t : Nat) : Int)] = ssV ((nodeF a b, 2 * t) :: r) := by
       rw [ssV_cons, ssV_cons, ssV_cons, List.append_assoc, List.take_append_of_le_length (by rw [ssV_length]; omega), List.take_of_length_le (by rw [ssV_length]; omega)]
      have O3e := O32.out
      have O4e := O42.out
      rw [e3] at O3e
      rw [e4] at O4e
      refine ⟨⟨k', m2, (nodeF a b, 2 * t) :: r, by rw [hm1], ⟨by simp [hm2]⟩, ⟨by have := hk.out; omega⟩, ⟨hmg'⟩, ⟨hgd'.merge⟩, ⟨O3e⟩, ⟨O4e⟩, HB2⟩, ?_⟩
      simp only [intOf]
      omega
     ·have d2 : ((t : Int) == (s : Int)) = false := beq_eq_false_iff_ne.mpr (by omega)
      go_upto_region 8 with (fail)
      go_quiet (fail)
      go_wp2_with fail
      have hce : (b, s) :: (a, t) :: r = T := by
       rw [← hmg.out]
       obtain ⟨k', rfl⟩ : ∃ k', k = k' + 1 := ⟨k - 1, by have := hk.out; omega⟩
       rw [mergeF, if_neg hts]
      have hlen' := hlen.out
      have O3e := own_keep O3.out (pw_below_drewN (Below.refl _ wr) nq)
      have O4e := own_keep O4.out (pw_below_drewN (Below.refl _ wr) nq)
      have HBe := below_then HB.out HB.out.size (pw_below_drewN (Below.refl _ wr) nq)
      rw [hce] at O3e O4e hlen'
      refine ⟨⟨i + 1, by simp, by omega, ⟨by rw [hfs.out, hst.out, hT2.out, hlen']; exact O3e⟩, ⟨by rw [hfs.out, hst.out, hT2.out, hlen']; exact O4e⟩, ⟨HBe⟩⟩, ?_⟩
      simp only [intOf]
      omega
    ·have d1 : decide ((1 : Int) < (n : Int)) = false := decide_eq_false (by omega)
     go_upto_region 8 with (fail)
     go_quiet (fail)
     go_wp2_with fail
     have hce : cur = T := by
      rw [← hmg.out]
      obtain ⟨k', rfl⟩ : ∃ k', k = k' + 1 := ⟨k - 1, by have := hk.out; have := hn.out; omega⟩
      match cur, hlen.out with
      | [], h => rfl
      | [_], h => rfl
      | _ :: _ :: _, h => simp at h; omega
     have hlen' := hlen.out
     have O3e := own_keep O3.out (pw_below_drewN (Below.refl _ wr) nq)
     have O4e := own_keep O4.out (pw_below_drewN (Below.refl _ wr) nq)
     have HBe := below_then HB.out HB.out.size (pw_below_drewN (Below.refl _ wr) nq)
     rw [hce] at O3e O4e hlen'
     refine ⟨⟨i + 1, by simp, by omega, ⟨by rw [hfs.out, hst.out, hT2.out, hlen']; exact O3e⟩, ⟨by rw [hfs.out, hst.out, hT2.out, hlen']; exact O4e⟩, ⟨HBe⟩⟩, ?_⟩
     simp only [intOf]
     omega
  ·have ei : i = n0 := by omega
   subst ei
   have e1 : decide ((i : Int) < (i : Int)) = false := decide_eq_false (by omega)
   have hgd := good_take l i (by rw [hn0.out]; exact Nat.le_refl _)
   rw [List.take_of_length_le (by rw [hn0.out]; exact Nat.le_refl _)] at O3 O4 hgd
   obtain ⟨st, hst⟩ : ∃ st, foldF l = st := ⟨_, rfl⟩
   rw [hst] at O3 O4 hgd
   have hrt : rootF l = endF st := by unfold rootF; rw [hst]
   replace hrt := Aside0.mk hrt
   clear hst O4
   match st, O3, hgd with
   | [], O3, hgd =>
    have hv : ∃ A c, u3 = .slice A 0 c := by
     obtain ⟨_, ⟨h, _⟩ | ⟨g1, cap1, cur1, e1, _⟩⟩ := O3.out
     ·exact ⟨_, _, h⟩
     ·exact ⟨_, _, e1⟩
    obtain ⟨A, c, hv⟩ := hv
    subst hv
    go_wp2_with (go_at_call 30; refine (sum_calls ⟨#[]⟩ (by decide) _ (hG_.below HB.out)).mono ?_; rintro e w1 ⟨rfl, hb1⟩)
    exact ⟨.string (sumF ⟨#[]⟩), by simp [results, Tryd.results19, go_sem], by rw [hrt.out]; rfl, below_then HB.out HB.out.size hb1⟩
   | (x, sx) :: r, O3, hgd =>
    obtain ⟨g3, c3, ev3⟩ := ownsRow_succ O3.out
    subst ev3
    obtain ⟨m, hm⟩ : ∃ m, r.length = m := ⟨_, rfl⟩
    have hxm : (wsV ((x, sx) :: r))[m]? = some (.string x) := by
     rw [wsV_cons, List.getElem?_append_right (by rw [wsV_length]; omega), wsV_length, hm]
     simp
    have hcx := own_at O3.out m _ hxm
    have hc3 := own_cap O3.out
    obtain ⟨n, hn⟩ : ∃ n, r.length + 1 = n := ⟨_, rfl⟩
    have hO3 := O3.out
    simp only [List.length_cons] at hO3
    rw [hn] at hO3 hc3 ⊢
    have hmn : m + 1 = n := by omega
    replace hn := Aside0.mk hn
    replace hm := Aside0.mk hm
    have hnle : n ≤ 1000000 := by have h1 := hgd.len; have h2 := hn.out; rw [List.length_cons] at h1; omega
    have k1 : IntKind.i64.wrap ((n : Int) - 1) = (m : Int) := by rw [IntKind.wrap_i64]; omega
    have y1 : IntKind.i64.wrap (m : Int) = (m : Int) := by rw [IntKind.wrap_i64]; omega
    have x1 : ((m : Int) < (n : Int)) = True := eq_true (by omega)
    have z1 : (m < n) = True := eq_true (by omega)
    have x3 : ((m : Int) ≤ (c3 : Int)) = True := eq_true (by omega)
    have z3 : (m ≤ c3) = True := eq_true (by omega)
    have d1 : ((n : Int) == 0) = false := beq_eq_false_iff_ne.mpr (by omega)
    replace hmn := Aside0.mk hmn
    replace O3 := Aside0.mk hO3
    clear hO3
    go_upto_region 16 with (fail)
    go_wp2_with (go_at_call 44; refine (callsIn_wide.1 (backS_fn _ _ _ _)).mono ?_; rintro e w' ⟨rfl, rfl⟩)
    obtain ⟨W0, hW0⟩ : ∃ W0, (wr.alloc (Obj.cells #[Value.string x] 9)).alloc (Obj.cells #[Value.slice (some ⟨g3, 0, none⟩) m c3] 22) = W0 := ⟨_, rfl⟩
    have hsz0 : W0.heap.size = wr.heap.size + 2 := by rw [← hW0]; simp
    have b1 : Boxed W0 wr.heap.size 9 (.string x) := by rw [← hW0]; exact (Boxed.new wr _ _).alloc _
    have b2 : Boxed W0 (wr.heap.size + 1) 22 (.slice (some ⟨g3, 0, none⟩) m c3) := by
     rw [← hW0]
     have := Boxed.new (wr.alloc (.cells #[Value.string x] 9)) 22 (.slice (some ⟨g3, 0, none⟩) m c3)
     rwa [World.size_alloc] at this
    have bel : Below wr.heap.size wr W0 := by rw [← hW0]; exact ((Below.refl _ wr).alloc (Nat.le_refl _) _).alloc (by simp) _
    have belw : Below w.heap.size w W0 := below_then HB.out HB.out.size bel
    obtain ⟨xs, hxs⟩ : ∃ xs, (r.map (·.1)).reverse = xs := ⟨_, rfl⟩
    have hxl : xs.length = m := by rw [← hxs, ← hm.out]; simp
    have hog := own_lt O3.out
    have RB : backSR xs g3 0 W0 := by
     intro j y hy
     have hj : (wsV ((x, sx) :: r))[j]? = some (.string y) := by
      rw [wsV_cons, List.getElem?_append_left (by rw [wsV_length, hm.out, ← hxl]; exact (List.getElem?_eq_some_iff.1 hy).1)]
      unfold wsV
      rw [← hxs, ← List.map_reverse, List.getElem?_map] at hy
      rw [← List.map_reverse, List.getElem?_map]
      obtain ⟨p, hp, rfl⟩ := Option.map_eq_some_iff.1 hy
      rw [hp]
      rfl
     have := own_at O3.out j _ hj
     rw [Nat.zero_add, ← this]
     simp only [World.cell?]
     rw [bel.block g3 hog.2]
    have hall : ∀ y ∈ xs, y.size = 32 := by
     intro y hy
     rw [← hxs, List.mem_reverse, List.mem_map] at hy
     obtain ⟨p, hp, rfl⟩ := hy
     exact (hgd.h p (List.mem_cons_of_mem _ hp)).1
    have hx32 : x.size = 32 := (hgd.h (x, sx) List.mem_cons_self).1
    have hend : endF ((x, sx) :: r) = xs.reverse.foldl (fun out y => nodeF y out) x := by
     rw [← hxs, List.reverse_reverse, List.foldl_map]
     rfl
    have hgw : w.heap.size ≤ wr.heap.size := HB.out.size
    have RR : Amb W0 := hG_.below belw
    rw [hW0]
    have hg3 : g3 < wr.heap.size := hog.2
    clear hW0 O3 hcx bel HB hxm hog
    generalize wr.heap.size = gb at hsz0 b1 b2 hgw hg3 ⊢
    refine (wpIn_wide (n := 4)).1 ?_
    refine rangeFunc_Z rfl (by decide) (gf := 60) (lb := #[.pointer (some ⟨gb + 1, 0, none⟩)]) rfl trivial (enters_of Tryd.func60 (by kernel_rfl) rfl)
     (Z := fun _ => False) (fun k hk => hk.elim)
     (encs := fun y : Fin m => #[.int .i64 (y.val : Int), Value.string (xs[y.val]'(hxl ▸ y.isLt))]) (Kp := fun A B => B.heap[gb + 1]? = A.heap[gb + 1]? ∧ B.heap[g3]? = A.heap[g3]?) (S := fun ys => ys.map Fin.val = (List.range m).reverse) (Sp := fun _ => True) (N := m) ?iter
     (fun h k => ⟨k.1.trans h.1, k.2.trans h.2⟩) (fun W l o hl => ⟨World.putObj_heap_other (by omega), World.putObj_heap_other (by omega)⟩) (fun _ => rfl)
     (fun pre W => Boxed W gb 9 (.string (pre.foldl (fun out y => nodeF (xs[y.val]'(hxl ▸ y.isLt)) out) x)) ∧ BelowBut gb W0 W)
     (fun _ _ _ => False)
     ?ab (fun _ _ _ _ _ hs _ _ => hs)
     ⟨b1, ⟨rfl, rfl, rfl, Nat.le_refl _, fun _ _ _ => rfl⟩⟩ ?round ?done ?stop
    case iter =>
     intro l' J Jx W hW hJ hJx hY hJ0
     exact backS_in l' (gb + 1) g3 0 m c3 _ xs hxl (by have := hmn.out; omega) (fun _ => rfl) J Jx hY W (b2.kept hW (by simp)) (RB.block (hW.block g3 (by omega) (by simp))) hJ0
    case ab =>
     rintro pre W W' row ⟨hA, hB⟩ hg hrow
     have hne : ∀ r, row = some r → W0.heap.size ≤ r := fun r e => by
      rcases hrow r e with h | ⟨h, _⟩
      ·exact h.elim
      ·exact h
     refine ⟨hA.kept hg (fun e => by have := hne gb e.symm; omega), ⟨hg.os.trans hB.os, hg.tape.trans hB.tape, hg.output.trans hB.output, Nat.le_trans hB.size hg.size, fun i hi hig => (hg.block i (Nat.lt_of_lt_of_le hi hB.size) (fun e => by have := hne i e.symm; omega)).trans (hB.block i hi hig)⟩⟩
    case round =>
     rintro l' pre y W ⟨hA, hB⟩ hlt
     dsimp only
     rw [zip_two, foldl_two]
     simp only [List.setIfInBounds_toArray, List.set_cons_succ, List.set_cons_zero]
     gi_wp2
     refine ⟨trivial, ?_⟩
     clear hA hB
     rintro V ⟨hA, hB⟩
     obtain ⟨out, hout⟩ : ∃ out, pre.foldl (fun out y => nodeF (xs[y.val]'(hxl ▸ y.isLt)) out) x = out := ⟨_, rfl⟩
     have hos : out.size = 32 := by rw [← hout]; exact fold_size (fun y : Fin m => xs[y.val]'(hxl ▸ y.isLt)) pre x hx32
     have hys : (xs[y.val]'(hxl ▸ y.isLt)).size = 32 := hall _ (List.getElem_mem _)
     rw [hout] at hA
     have hc := hA.cell
     have hRV : Amb V := by
      obtain ⟨t, fr, h⟩ := RR
      have hlt0 : 0 < gb := by
       obtain ⟨_, _, h'⟩ := hG_
       have := (Array.getElem?_eq_some_iff.1 h').1
       omega
      exact ⟨t, fr, (hB.block _ (by omega) (by omega)).trans h⟩
     have hF : Fence.wide.fn 32 := trivial
     gi_wp2_with fail
     refine CallsIn.mono (CallsIn.inRound _ (callsIn_wide.2 (node_calls (xs[y.val]'(hxl ▸ y.isLt)) out V hRV (by omega)))) ?_
     rintro e w' ⟨rfl, hb'⟩
     have hgbV : gb < V.heap.size := hA.lt
     have hA' : Boxed w' gb 9 (.string out) := (hb'.block gb hgbV).trans hA
     have hc' := hA'.cell
     have hf' := hA'.frozen
     gi_wp2_with fail
     have hq : gb + 1 < V.heap.size := Nat.lt_of_lt_of_le (by omega) hB.size
     have hq3 : g3 < V.heap.size := Nat.lt_of_lt_of_le (by omega) hB.size
     have G := grownBy_setCell' w' gb (.string (nodeF (xs[y.val]'(hxl ▸ y.isLt)) out))
     have T1 : ∀ i, i < V.heap.size → i ≠ gb → (w'.setCell ⟨gb, 0, none⟩ (.string (nodeF (xs[y.val]'(hxl ▸ y.isLt)) out))).heap[i]? = V.heap[i]? := fun i hi hig => (G.block i (Nat.lt_of_lt_of_le hi hb'.size) (fun e => hig (by injection e))).trans (hb'.block i hi)
     have hset := hA'.set (.string (nodeF (xs[y.val]'(hxl ▸ y.isLt)) out))
     refine ⟨⟨Nat.le_trans hb'.size G.size, fun k o hk ho _ => (T1 k (Array.getElem?_eq_some_iff.1 ho).1 (by omega)).trans ho⟩, ⟨T1 _ hq (by omega), T1 _ hq3 (by omega)⟩, ?_, ⟨G.os.trans (hb'.os.trans hB.os), G.tape.trans (hb'.tape.trans hB.tape), G.output.trans (hb'.output.trans hB.output), Nat.le_trans hB.size (Nat.le_trans hb'.size G.size), fun i hi hig => (T1 i (Nat.lt_of_lt_of_le hi hB.size) hig).trans (hB.block i hi hig)⟩⟩
     rw [List.foldl_append, hout]
     exact hset
    case done =>
     rintro D ys W hD hys ⟨hA, hB⟩ hK
     have hfin : ys.foldl (fun out y => nodeF (xs[y.val]'(hxl ▸ y.isLt)) out) x = xs.reverse.foldl (fun out y => nodeF y out) x := fold_rev xs hxl ys hys nodeF x
     rw [hfin, ← hend, ← hrt.out] at hA
     have hc := hA.cell
     dsimp only [Exit.inBlock, Exit.then]
     go_wp2_with fail
     refine ⟨by simp, .inl ⟨_, _, rfl, run_takeDeferred hK, ?_⟩⟩
     refine ⟨.string (rootF l), by simp [results, Tryd.results19, go_sem], rfl, ?_⟩
     have t1 : Below w.heap.size w W := ⟨hB.os.trans belw.os, hB.tape.trans belw.tape, hB.output.trans belw.output, Nat.le_trans belw.size hB.size, fun i hi => (hB.block i (by omega) (by omega)).trans (belw.block i hi)⟩
     exact t1.trans (belowK_b (w := W0) belw.size W D _ _ hD hK rfl rfl)
    case stop =>
     rintro D c pre W _ _ h _
     exact h.elim
end Go.Proofs.YtjkdenldddjcnaaDoor.Sha

set_option linter.unusedVariables false
set_option linter.unusedSimpArgs false
namespace Go.Proofs.YtjkdenldddjcnaaDoor.Sha
open Go Go.RowKit Go.Shelf Go.Proofs.YtjkdenldddjcnaaDoorW.PrintWords Go.Proofs.YtjkdenldddjcnaaDoorW.PrintLast Go.Proofs.YtjkdenldddjcnaaDoorW.PrintMore
def small (l : List ByteArray) : Bool := decide (l.length ≤ 1000000) && l.all (fun s => decide (s.size ≤ 549755813888))
def digest_Root.f (l0 : List ByteArray) : Option ByteArray := if small l0 = true then some (rootF l0) else none
theorem digest_Root.calls (A0 : Option Addr) (c0 : Nat) (l0 : List ByteArray) (r : ByteArray) (w : World) (hr0 : Kd.C Kd.string w A0 l0.length l0) (hc0 : l0.length ≤ c0) (hG_ : Amb w) (h : digest_Root.f l0 = some r) :
    Calls Tryd.prog 19 #[.slice A0 l0.length c0] w fun e w' => e = .returned (.string r) ∧ Below w.heap.size w w' := by
  unfold digest_Root.f at h
  by_cases hc : small l0 = true
  · rw [if_pos hc] at h
    have e := Option.some.inj h
    rw [← e]
    unfold small at hc
    rw [Bool.and_eq_true, decide_eq_true_iff, List.all_eq_true] at hc
    exact root_calls A0 c0 l0 w hr0 hc0 hG_ hc.1 (fun s hs => of_decide_eq_true (hc.2 s hs))
  · rw [if_neg hc] at h
    exact absurd h (by simp)
end Go.Proofs.YtjkdenldddjcnaaDoor.Sha

namespace Go.Proofs.YtjkdenldddjcnaaDoor.Df
open Go.RowKit Go.Proofs.YtjkdenldddjcnaaDoor.Sha Go.Proofs.YtjkdenldddjcnaaDoorW.PrintWords Go.Proofs.YtjkdenldddjcnaaDoorW.PrintLast Go.Proofs.YtjkdenldddjcnaaDoorW.PrintMore
attribute [local go_sem] max2_int min2_int max_two min_two max_three min_three max_four min_four   -- for this text's walks alone
set_option linter.unusedVariables false
set_option linter.unusedSimpArgs false

-- NOT PRINTED: function 53 (digest_marked)

-- NOT PRINTED: function 54 (slices_Chunk_byte_byte)

/-! ### bits_RotateLeft32: function 77 -/
/-! ### digest_mixed: function 68 -/
-- NOT PRINTED: function 67 (digest_schedule)

-- NOT PRINTED: function 55 (digest_words_add)

-- NOT PRINTED: function 56 (digest_words_digest)

-- NOT PRINTED: function 44 (slices_Backward_string_string)

/-! ### slices_Reverse_string_string: function 41 -/
def slices_Reverse_string_string.l0 : Nat → List ByteArray → Int → Int → Option (List ByteArray)
 | 0, _, _, _ => none
 | k + 1, x0, x2, x3 => if x2 < x3 then (if 0 ≤ x3 then (if x3 < (x0.length : Int) then (if 0 ≤ x2 then (if x2 < (x0.length : Int) then (slices_Reverse_string_string.l0 k ((x0.set (x2 : Int).toNat (rdOf ByteArray.empty x0 x3)).set (x3 : Int).toNat (rdOf ByteArray.empty x0 x2)) (wrap64 (x2 + 1)) (wrap64 (x3 - 1))) else (none)) else (none)) else (none)) else (none)) else (some x0)
def slices_Reverse_string_string.f (k : Nat) (l0 : List ByteArray) : Option (List ByteArray) := slices_Reverse_string_string.l0 k l0 0 (wrap64 ((l0.length : Int) - 1))
theorem slices_Reverse_string_string.mono_l : ∀ k, (∀ y0 y1 y2, LeO (slices_Reverse_string_string.l0 k y0 y1 y2) (slices_Reverse_string_string.l0 (k + 1) y0 y1 y2))
 | 0 => fun _ _ _ r h => by simp [slices_Reverse_string_string.l0] at h
 | k + 1 => by
  have ih0 := slices_Reverse_string_string.mono_l k
  ·intro y0 y1 y2
   unfold slices_Reverse_string_string.l0
   repeat' first
   | (with_reducible exact ih0 _ _ _)
   | (with_reducible exact LeO.refl _)
   | (with_reducible exact LeO.none _)
   | (with_reducible refine LeO.ite ?_ ?_)
   | (with_reducible refine LeO.bind ?_ (fun _ => ?_))
   | exact ih0 _ _ _
   | exact LeO.none _
   | refine LeO.ite ?_ ?_
   | refine LeO.bind ?_ (fun _ => ?_)
theorem slices_Reverse_string_string.mono : ∀ a0 k, LeO (slices_Reverse_string_string.f k a0) (slices_Reverse_string_string.f (k + 1) a0) := by
 intro a0 k
 have ih0 := slices_Reverse_string_string.mono_l k
 unfold slices_Reverse_string_string.f
 repeat' first
   | (with_reducible exact ih0 _ _ _)
   | (with_reducible exact LeO.refl _)
   | (with_reducible exact LeO.none _)
   | (with_reducible refine LeO.ite ?_ ?_)
   | (with_reducible refine LeO.bind ?_ (fun _ => ?_))
   | exact ih0 _ _ _
   | exact LeO.none _
   | refine LeO.ite ?_ ?_
   | refine LeO.bind ?_ (fun _ => ?_)
def slices_Reverse_string_string.T3 : Bool × List (List Nat × List Nat) := (true, [([], []), ([], []), ([], []), ([], []), ([], []), ([], []), ([4, 5], [4, 5]), ([6], [6]), ([], []), ([], []), ([8, 9], [8, 9]), ([10], [10]), ([0, 1, 0, 1, 4, 5, 6, 7, 11], [0, 1]), ([12, 7, 0, 1, 4, 5, 6, 7, 11], [7, 12]), ([2, 3, 0, 1, 2, 3, 4, 5, 6, 7, 8, 9, 10, 11, 12, 13], [2, 3]), ([14, 11, 13, 0, 1, 2, 3, 4, 5, 6, 7, 8, 9, 10, 11, 12, 13], [11, 14])])
def slices_Reverse_string_string.B3 : List Nat := [0, 0, 0, 0, 0, 0, 48, 112, 0, 0, 768, 1792, 4083, 8179, 16383, 32767]
theorem slices_Reverse_string_string.tab3 : rtab .any (opsOf Tryd.f41 3) = slices_Reverse_string_string.T3 := by kernel_rfl
theorem slices_Reverse_string_string.bits3 : waitsOk slices_Reverse_string_string.T3.2 slices_Reverse_string_string.B3 = true := by kernel_rfl
set_option maxHeartbeats 8000000 in
set_option maxRecDepth 100000 in
theorem slices_Reverse_string_string.calls (k : Nat) (P0_ : Nat → Prop) (u9000_ : Value) (l0 : List ByteArray) (r : List ByteArray) (w0 w : World) (hB : Below w0.heap.size w0 w) (ho0 : Kd.R Kd.string 9 w w0.heap.size P0_ u9000_ l0) (h : slices_Reverse_string_string.f k l0 = some r) :
  Calls Tryd.prog 41 #[u9000_] w fun e w' => e = .returned (.tuple #[]) ∧ Kd.R Kd.string 9 w' w0.heap.size (fun k_ => (P0_ k_ ∨ w.heap.size ≤ k_)) u9000_ r ∧ Below w0.heap.size w0 w' ∧ Kept w w' (fun k_ => P0_ k_) := by
 have HO0 := Aside0.mk (show Kd.R Kd.string 9 w w0.heap.size (fun k_ => (P0_ k_ ∨ w.heap.size ≤ k_)) u9000_ l0 from Kd.R_mono ho0 (fun k_ hk => (.inl hk)))
 have HK := Aside0.mk (Kept.refl w (fun k_ => P0_ k_))
 have HW0 := Aside0.mk hB.size
 have HB := Aside0.mk hB
 clear hB
 have H : (slices_Reverse_string_string.l0 k l0 0 (wrap64 ((l0.length : Int) - 1))) = some r := h
 clear h
 have H' := Aside0.mk H
 clear H
 obtain ⟨Ao2, co2, eo2⟩ := Kd.R_slice HO0.out
 subst eo2
 go_enter Tryd.func41, Tryd.ntmps41
 go_wp2
 go_loopg [2, 3] k (fun kq v2 v3 w' => ∃ (x0_1 : List ByteArray) (x2_1 : Int) (x3_1 : Int), v2 = .int .i64 x2_1 ∧ v3 = .int .i64 x3_1 ∧ Aside0 (slices_Reverse_string_string.l0 kq x0_1 x2_1 x3_1 = some r) ∧ Aside0 (kq ≤ k) ∧ Aside0 (Kd.R Kd.string 9 w' w0.heap.size (fun k_ => (P0_ k_ ∨ w.heap.size ≤ k_)) (.slice Ao2 l0.length co2) x0_1) ∧ Aside0 (Kept w w' (fun k_ => P0_ k_)) ∧ Aside0 (Below w0.heap.size w0 w'))
 case atStart => exact ⟨(l0), (0), (wrap64 ((l0.length : Int) - 1)), (by first | rfl | (simp; done) | (simp [*]; done)), (by first | rfl | (simp; done) | (simp [*]; done)), H', ⟨Nat.le_refl _⟩, ⟨by (with_reducible repeat (first | apply Kd.R_alloc | apply Kd.R_drewN | apply Kd.R_drew)); exact HO0.out⟩, ⟨by repeat (first | (with_reducible first | exact HK.out | apply Kept.alloc | apply Kept.drewN | apply Kept.drew) | exact HK.out)⟩, ⟨by repeat (first | (with_reducible first | exact HB.out | apply below_alloc | apply pw_below_drewN | apply below_drew1) | exact HB.out)⟩⟩
 case round =>
  clear H'
  try clear p2
  obtain ⟨x0_1, x2_1, x3_1, rfl, rfl, HA, HK1, HO_0, HK, HB⟩ := hrel
  have hl0_1 := (Kd.R_reads' HO_0.out).1
  rw [hl0_1] at HO_0
  (try simp only [hl0_1])
  cases gk with
  | zero => exact absurd HA.out (by simp [slices_Reverse_string_string.l0])
  | succ k1 =>
   have H := HA.out
   clear HA
   simp only [slices_Reverse_string_string.l0] at H
   by_cases c3 : x2_1 < x3_1
   ·rw [if_pos c3] at H
    have c3b0 : decide (x2_1 < x3_1) = true := decide_eq_true c3
    clear c3
    by_cases c4 : 0 ≤ x3_1
    ·rw [if_pos c4] at H
     have c4b0 : decide (0 ≤ x3_1) = true := decide_eq_true c4
     clear c4
     by_cases c5 : x3_1 < (x0_1.length : Int)
     ·rw [if_pos c5] at H
      have c5b0 : decide (x3_1 < (x0_1.length : Int)) = true := decide_eq_true c5
      clear c5
      by_cases c6 : 0 ≤ x2_1
      ·rw [if_pos c6] at H
       have c6b0 : decide (0 ≤ x2_1) = true := decide_eq_true c6
       clear c6
       by_cases c7 : x2_1 < (x0_1.length : Int)
       ·rw [if_pos c7] at H
        have c7b0 : decide (x2_1 < (x0_1.length : Int)) = true := decide_eq_true c7
        clear c7
        obtain ⟨y105, hy105⟩ : ∃ y_ : List ByteArray, y_ = (x0_1.set (x2_1 : Int).toNat (rdOf ByteArray.empty x0_1 x3_1)) := ⟨_, rfl⟩
        replace H : (slices_Reverse_string_string.l0 k1 (y105.set (x3_1 : Int).toNat (rdOf ByteArray.empty x0_1 x2_1)) (wrap64 (x2_1 + 1)) (wrap64 (x3_1 - 1))) = some r := by first | (rw [hy105]; with_reducible exact H) | (have H2_ := (Option.bind_some _ _).symm.trans H; rw [hy105]; with_reducible exact H2_) | (have H2_ := (Option.bind_some _ _).symm.trans H; with_reducible exact H2_) | with_reducible exact H | (rw [hy105]; exact H) | exact H
        have Ny105 := Aside0.mk hy105
        clear hy105
        obtain ⟨y106, hy106⟩ : ∃ y_ : List ByteArray, y_ = (y105.set (x3_1 : Int).toNat (rdOf ByteArray.empty x0_1 x2_1)) := ⟨_, rfl⟩
        replace H : (slices_Reverse_string_string.l0 k1 y106 (wrap64 (x2_1 + 1)) (wrap64 (x3_1 - 1))) = some r := by first | (rw [hy106]; with_reducible exact H) | (have H2_ := (Option.bind_some _ _).symm.trans H; rw [hy106]; with_reducible exact H2_) | (have H2_ := (Option.bind_some _ _).symm.trans H; with_reducible exact H2_) | with_reducible exact H | (rw [hy106]; exact H) | exact H
        have Ny106 := Aside0.mk hy106
        clear hy106
        have H' := Aside0.mk H
        clear H
        try go_wp2
        have n0_ := Aside0.mk (Kd.R_drew HO_0.out)
        have n1_ := Aside0.mk (Kept.drew HK.out)
        have n2_ := Aside0.mk (below_drew1 HB.out)
        clear HO_0
        clear HK
        clear HB
        have HO_0 := n0_
        have HK := n1_
        have HB := n2_
        clear n0_ n1_ n2_
        have p103 : 0 ≤ (x3_1 : Int) := of_decide_eq_true (by first | (with_reducible assumption) | assumption)
        have q103 : x3_1 < (x0_1.length : Int) := of_decide_eq_true (by first | (with_reducible assumption) | assumption)
        obtain ⟨ad103, e103, hx103_0⟩ := Kd.at_string (Kd.R_reads' HO_0.out).2.2 x3_1 p103 q103
        cases e103
        replace p103 := eq_true p103
        replace q103 := eq_true q103
        have p104 : 0 ≤ (x2_1 : Int) := of_decide_eq_true (by first | (with_reducible assumption) | assumption)
        have q104 : x2_1 < (x0_1.length : Int) := of_decide_eq_true (by first | (with_reducible assumption) | assumption)
        obtain ⟨ad104, e104, hx104_0⟩ := Kd.at_string (Kd.R_reads' HO_0.out).2.2 x2_1 p104 q104
        obtain rfl : ad103 = ad104 := (by injection e104)
        replace p104 := eq_true p104
        replace q104 := eq_true q104
        have p8 : 0 ≤ (x2_1 : Int) := of_decide_eq_true (by first | (with_reducible assumption) | assumption)
        have q8 : (x2_1 : Int) < ((x0_1.length : Int) : Int) := of_decide_eq_true (by first | (with_reducible assumption) | assumption)
        obtain ⟨go8, co8, eo8, gb8, gl8, cl8, HG8⟩ := Kd.R_form HO_0.out (by omega)
        (first | cases eo8 | (injection eo8 with ea_ en_ ec_; (first | subst ea_ | (injection ea_ with ea_; subst ea_)); subst ec_; clear en_))
        have GB8 := Aside0.mk gb8
        have GG8 := Aside0.mk HG8
        clear gb8 gl8 HG8
        have HMgo8 := Aside0.mk (show (P0_ go8 ∨ w.heap.size ≤ go8) from (HO_0.out.1 _ rfl))
        (first | simp only [add_plain] at hx103_0 | skip)
        (first | simp only [add_plain] at hx104_0 | skip)
        obtain ⟨hx8_0, hf8_0⟩ := Kd.R_celln (⟨#[]⟩ : ByteArray) HO_0.out (x2_1 : Int) p8 q8
        replace p8 := eq_true p8
        replace q8 := eq_true q8
        have HP11 := Kd.R_putn HO_0.out (x2_1 : Int) (rdOf ByteArray.empty x0_1 x3_1)
        rw [← Ny105.out] at HP11
        have HQ11 := Aside0.mk HP11
        clear HP11
        have p9 : 0 ≤ (x3_1 : Int) := of_decide_eq_true (by first | (with_reducible assumption) | assumption)
        have q9 : (x3_1 : Int) < ((x0_1.length : Int) : Int) := of_decide_eq_true (by first | (with_reducible assumption) | assumption)
        obtain ⟨hx9_0, hf9_0⟩ := Kd.R_celln (⟨#[]⟩ : ByteArray) HQ11.out (x3_1 : Int) p9 q9
        replace p9 := eq_true p9
        replace q9 := eq_true q9
        have HP12 := Kd.R_putn HQ11.out (x3_1 : Int) (rdOf ByteArray.empty x0_1 x2_1)
        rw [← Ny106.out] at HP12
        have HQ12 := Aside0.mk HP12
        clear HP12
        refine start_ (n := 16) (S := fun w' => w'.cell? ⟨go8, (x3_1).toNat, none⟩ = some (.string (rdOf ByteArray.empty x0_1 x3_1)) ∧ w'.cell? ⟨go8, (x2_1).toNat, none⟩ = some (.string (rdOf ByteArray.empty x0_1 x2_1))) (ds := [13, 15]) #[false, false, false, false, false, false, false, false, false, false, false, false, false, false, false, false] (by kernel_rfl) rfl rfl ⟨hx103_0, hx104_0⟩ (fun hHeld => ?_); refine with_tabW slices_Reverse_string_string.tab3 slices_Reverse_string_string.bits3 (fun HT_ HW_ => ?_)
        generalize wr.drew = w10 at HO_0 HK HB GG8 HQ11 HQ12 hf8_0 hf9_0 hx103_0 hx104_0 hx8_0 hx9_0 hHeld ⊢
        refine pure_ (i := 0) (N := some 14) (v := ?_) (a' := ?_) #[true, false, false, false, false, false, false, false, false, false, false, false, false, false, false, false] rfl rfl (any_of HT_.out (by kernel_rfl)) (fun _ _ _ h => h) (Or.inl ⟨by rfl, ?_⟩) ?_ ?_
        rotate_left
        ·intro w'
         go_simp
         with_reducible rfl
        rotate_left
        ·simp only [Act.put, List.setIfInBounds_toArray, List.set_cons_zero, List.set_cons_succ, i64_w, i32_w]
         rfl
        refine pure_ (i := 1) (N := some 15) (v := ?_) (a' := ?_) #[true, true, false, false, false, false, false, false, false, false, false, false, false, false, false, false] rfl rfl (any_of HT_.out (by kernel_rfl)) (fun _ _ _ h => h) (Or.inl ⟨by rfl, ?_⟩) ?_ ?_
        rotate_left
        ·intro w'
         go_simp
         with_reducible rfl
        rotate_left
        ·simp only [Act.put, List.setIfInBounds_toArray, List.set_cons_zero, List.set_cons_succ, i64_w, i32_w]
         rfl
        refine pure_ (i := 2) (N := some 16) (v := ?_) (a' := ?_) #[true, true, true, false, false, false, false, false, false, false, false, false, false, false, false, false] rfl rfl (any_of HT_.out (by kernel_rfl)) (fun _ _ _ h => h) (Or.inl ⟨by rfl, ?_⟩) ?_ ?_
        rotate_left
        ·intro w'
         go_simp
         with_reducible rfl
        rotate_left
        ·simp only [Act.put, List.setIfInBounds_toArray, List.set_cons_zero, List.set_cons_succ, i64_w, i32_w]
         rfl
        refine pure_ (i := 3) (N := some 17) (v := ?_) (a' := ?_) #[true, true, true, true, false, false, false, false, false, false, false, false, false, false, false, false] rfl rfl (any_of HT_.out (by kernel_rfl)) (fun _ _ _ h => h) (Or.inl ⟨by rfl, ?_⟩) ?_ ?_
        rotate_left
        ·intro w'
         go_simp
         with_reducible rfl
        rotate_left
        ·simp only [Act.put, List.setIfInBounds_toArray, List.set_cons_zero, List.set_cons_succ, i64_w, i32_w]
         rfl
        refine pure_ (i := 4) (N := some 18) (v := ?_) (a' := ?_) #[true, true, true, true, true, false, false, false, false, false, false, false, false, false, false, false] rfl rfl (any_of HT_.out (by kernel_rfl)) (fun _ _ _ h => h) (Or.inl ⟨by rfl, ?_⟩) ?_ ?_
        rotate_left
        ·intro w'
         go_simp
         with_reducible rfl
        rotate_left
        ·simp only [Act.put, List.setIfInBounds_toArray, List.set_cons_zero, List.set_cons_succ, i64_w, i32_w]
         rfl
        refine pure_ (i := 5) (N := some 19) (v := ?_) (a' := ?_) #[true, true, true, true, true, true, false, false, false, false, false, false, false, false, false, false] rfl rfl (any_of HT_.out (by kernel_rfl)) (fun _ _ _ h => h) (Or.inl ⟨by rfl, ?_⟩) ?_ ?_
        rotate_left
        ·intro w'
         go_simp
         with_reducible rfl
        rotate_left
        ·simp only [Act.put, List.setIfInBounds_toArray, List.set_cons_zero, List.set_cons_succ, i64_w, i32_w]
         rfl
        refine pure_ (i := 6) (N := some 20) (v := ?_) (a' := ?_) #[true, true, true, true, true, true, true, false, false, false, false, false, false, false, false, false] rfl rfl (any_of HT_.out (by kernel_rfl)) (fun _ _ _ h => h) (Or.inl ⟨by rfl, ?_⟩) ?_ ?_
        rotate_left
        ·intro w'
         go_simp
         with_reducible rfl
        rotate_left
        ·simp only [Act.put, List.setIfInBounds_toArray, List.set_cons_zero, List.set_cons_succ, i64_w, i32_w]
         rfl
        refine pure_ (i := 8) (N := some 22) (v := ?_) (a' := ?_) #[true, true, true, true, true, true, true, false, true, false, false, false, false, false, false, false] rfl rfl (any_of HT_.out (by kernel_rfl)) (fun _ _ _ h => h) (Or.inl ⟨by rfl, ?_⟩) ?_ ?_
        rotate_left
        ·intro w'
         go_simp
         with_reducible rfl
        rotate_left
        ·simp only [Act.put, List.setIfInBounds_toArray, List.set_cons_zero, List.set_cons_succ, i64_w, i32_w]
         rfl
        refine pure_ (i := 9) (N := some 23) (v := ?_) (a' := ?_) #[true, true, true, true, true, true, true, false, true, true, false, false, false, false, false, false] rfl rfl (any_of HT_.out (by kernel_rfl)) (fun _ _ _ h => h) (Or.inl ⟨by rfl, ?_⟩) ?_ ?_
        rotate_left
        ·intro w'
         go_simp
         with_reducible rfl
        rotate_left
        ·simp only [Act.put, List.setIfInBounds_toArray, List.set_cons_zero, List.set_cons_succ, i64_w, i32_w]
         rfl
        refine pure_ (i := 10) (N := some 24) (v := ?_) (a' := ?_) #[true, true, true, true, true, true, true, false, true, true, true, false, false, false, false, false] rfl rfl (any_of HT_.out (by kernel_rfl)) (fun _ _ _ h => h) (Or.inl ⟨by rfl, ?_⟩) ?_ ?_
        rotate_left
        ·intro w'
         go_simp
         with_reducible rfl
        rotate_left
        ·simp only [Act.put, List.setIfInBounds_toArray, List.set_cons_zero, List.set_cons_succ, i64_w, i32_w]
         rfl
        refine take_ (i := 7) (N := some 21) (v := ?_) (a' := ?_) #[true, true, true, true, true, true, true, true, true, true, true, false, false, false, false, false] rfl rfl (take_ofW HT_.out HW_.out (by kernel_rfl)) (fun _ _ _ h => h) (Or.inl ⟨by rfl, ?_⟩) hHeld ?_ ?_
        rotate_left
        ·rintro w' ⟨s0, s1⟩
         go_simp
         with_reducible rfl
        rotate_left
        ·simp only [Act.put, List.setIfInBounds_toArray, List.set_cons_zero, List.set_cons_succ, i64_w, i32_w]
         rfl
        refine take_ (i := 11) (N := some 25) (v := ?_) (a' := ?_) #[true, true, true, true, true, true, true, true, true, true, true, true, false, false, false, false] rfl rfl (take_ofW HT_.out HW_.out (by kernel_rfl)) (fun _ _ _ h => h) (Or.inl ⟨by rfl, ?_⟩) hHeld ?_ ?_
        rotate_left
        ·rintro w' ⟨s0, s1⟩
         go_simp
         with_reducible rfl
        rotate_left
        ·simp only [Act.put, List.setIfInBounds_toArray, List.set_cons_zero, List.set_cons_succ, i64_w, i32_w]
         rfl
        refine pure_ (i := 12) (N := some 26) (v := ?_) (a' := ?_) #[true, true, true, true, true, true, true, true, true, true, true, true, true, false, false, false] rfl rfl (any_of HT_.out (by kernel_rfl)) (fun _ _ _ h => h) (Or.inl ⟨by rfl, ?_⟩) ?_ ?_
        rotate_left
        ·intro w'
         go_simp
         with_reducible rfl
        rotate_left
        ·simp only [Act.put, List.setIfInBounds_toArray, List.set_cons_zero, List.set_cons_succ, i64_w, i32_w]
         rfl
        refine last_ (i := 13) (N := none) #[true, true, true, true, true, true, true, true, true, true, true, true, true, true, false, false] rfl rfl (one_of HT_.out (by kernel_rfl)) (by decide) (fun K hK => ?_)
        refine skip_ (w1 := ?_) (by rfl) rfl ?_ ?_
        rotate_left
        ·go_simp
         rfl
        refine hK.out _ _ ?_
        clear hK K
        refine pure_ (i := 14) (N := some 27) (v := ?_) (a' := ?_) #[true, true, true, true, true, true, true, true, true, true, true, true, true, true, true, false] rfl rfl (any_of HT_.out (by kernel_rfl)) (fun _ _ _ h => h) (Or.inl ⟨by rfl, ?_⟩) ?_ ?_
        rotate_left
        ·intro w'
         go_simp
         with_reducible rfl
        rotate_left
        ·simp only [Act.put, List.setIfInBounds_toArray, List.set_cons_zero, List.set_cons_succ, i64_w, i32_w]
         rfl
        refine last_ (i := 15) (N := none) #[true, true, true, true, true, true, true, true, true, true, true, true, true, true, true, true] rfl rfl (one_of HT_.out (by kernel_rfl)) (by decide) (fun K hK => ?_)
        refine skip_ (w1 := ?_) (by rfl) rfl ?_ ?_
        rotate_left
        ·go_simp
         rfl
        refine hK.out _ _ ?_
        clear hK K
        refine done_ (done_of HT_.out (by kernel_rfl)) ?_
        try go_wp2
        (try simp only [← hl0_1])
        go_roundg k1
        case measure => have := HK1.out; omega
        case rel => exact ⟨(y106), (wrap64 (x2_1 + 1)), (wrap64 (x3_1 - 1)), (by first | rfl | (simp; done) | (simp [*]; done)), (by first | rfl | (simp; done) | (simp [*]; done)), H', ⟨by have := HK1.out; omega⟩, ⟨by (try simp only [hl0_1]); (with_reducible repeat (first | apply Kd.R_alloc | apply Kd.R_drewN | apply Kd.R_drew)); exact HQ12.out⟩, ⟨by repeat (first | (with_reducible first | exact HK.out | apply Kept.alloc | apply Kept.drewN | apply Kept.drew | refine Kept.setCell ?_ HMgo8.out _ | refine Kept.setCell ?_ HMgo8.out _) | exact HK.out)⟩, ⟨by repeat (first | (with_reducible first | exact HB.out | apply below_alloc | apply pw_below_drewN | apply below_drew1 | refine below_set ?_ GB8.out | refine below_set ?_ GB8.out) | exact HB.out)⟩⟩
       ·rw [if_neg c7] at H
        exact absurd H (by simp)
      ·rw [if_neg c6] at H
       exact absurd H (by simp)
     ·rw [if_neg c5] at H
      exact absurd H (by simp)
    ·rw [if_neg c4] at H
     exact absurd H (by simp)
   ·rw [if_neg c3] at H
    have c3b0 : decide (x2_1 < x3_1) = false := decide_eq_false c3
    clear c3
    obtain rfl := Option.some.inj H
    go_wp2
    first | go_end0 | ((try simp only [Exit.inBlock, Exit.then]); refine bodyPost_ret (results_none rfl _ _ _) rfl ?_)
    exact ⟨by first | rfl | (simp [errW_none, errW_some] <;> rfl) | (simp [*, errW_none, errW_some] <;> rfl), (by first | exact (by (with_reducible repeat (first | apply Kd.R_alloc | apply Kd.R_drewN | apply Kd.R_drew)); exact HO_0.out) | (simp only [hl0_1]; exact (by (with_reducible repeat (first | apply Kd.R_alloc | apply Kd.R_drewN | apply Kd.R_drew)); exact HO_0.out))), by repeat (first | (with_reducible first | exact HB.out | apply below_alloc | apply pw_below_drewN | apply below_drew1) | exact HB.out), by repeat (first | (with_reducible first | exact HK.out | apply Kept.alloc | apply Kept.drewN | apply Kept.drew) | exact HK.out)⟩

/-! ### digest_Proof: function 14 -/
mutual
def digest_Proof.j0 : Nat → List ByteArray → Int → Bool → Option (List ByteArray × Int)
 | 0, _, _, _ => none
 | k + 1, x0, x1, x17 => if x17 = true then (some (([] : List ByteArray), 2)) else (digest_Proof.l0 k x0 x1 ([] : List ByteArray))
def digest_Proof.l0 : Nat → List ByteArray → Int → List ByteArray → Option (List ByteArray × Int)
 | 0, _, _, _ => none
 | k + 1, x0, x1, x6 => if (x0.length : Int) = 1 then ((slices_Reverse_string_string.f k x6).bind fun t107 => (some (t107, 0))) else ((digest_left.f (x0.length : Int)).bind fun t108 => (if 0 ≤ t108 then (if t108 ≤ (x0.length : Int) then ((some (x0.take (t108 : Int).toNat : List ByteArray)).bind fun y109 => ((some (x0.drop (t108 : Int).toNat : List ByteArray)).bind fun y114 => (if x1 ≥ t108 then ((digest_Root.f y109).bind fun t119 => (if x6.length < 8796093022208 then (digest_Proof.l0 k y114 (wrap64 (x1 - t108)) (x6 ++ [t119])) else (none))) else ((digest_Root.f y114).bind fun t123 => (if x6.length < 8796093022208 then (digest_Proof.l0 k y109 x1 (x6 ++ [t123])) else (none)))))) else (none)) else (none)))
end
def digest_Proof.f (k : Nat) (l0 : List ByteArray) (a1 : Int) : Option (List ByteArray × Int) := if a1 < 0 then (digest_Proof.j0 k l0 a1 true) else (digest_Proof.j0 k l0 a1 (decide (a1 ≥ (l0.length : Int))))
theorem digest_Proof.mono_l : ∀ k, (∀ y0 y1 y2, LeO (digest_Proof.j0 k y0 y1 y2) (digest_Proof.j0 (k + 1) y0 y1 y2)) ∧ (∀ y0 y1 y2, LeO (digest_Proof.l0 k y0 y1 y2) (digest_Proof.l0 (k + 1) y0 y1 y2))
 | 0 => ⟨fun _ _ _ r h => by simp [digest_Proof.j0] at h, fun _ _ _ r h => by simp [digest_Proof.l0] at h⟩
 | k + 1 => by
  obtain ⟨ih0, ih1⟩ := digest_Proof.mono_l k
  refine ⟨?_, ?_⟩
  ·intro y0 y1 y2
   unfold digest_Proof.j0
   repeat' first
   | (with_reducible exact ih0 _ _ _)
   | (with_reducible exact ih1 _ _ _)
   | (with_reducible exact slices_Reverse_string_string.mono _ _)
   | (with_reducible exact LeO.refl _)
   | (with_reducible exact LeO.none _)
   | (with_reducible refine LeO.ite ?_ ?_)
   | (with_reducible refine LeO.bind ?_ (fun _ => ?_))
   | exact ih0 _ _ _
   | exact ih1 _ _ _
   | exact slices_Reverse_string_string.mono _ _
   | exact LeO.none _
   | refine LeO.ite ?_ ?_
   | refine LeO.bind ?_ (fun _ => ?_)
  ·intro y0 y1 y2
   unfold digest_Proof.l0
   repeat' first
   | (with_reducible exact ih0 _ _ _)
   | (with_reducible exact ih1 _ _ _)
   | (with_reducible exact slices_Reverse_string_string.mono _ _)
   | (with_reducible exact LeO.refl _)
   | (with_reducible exact LeO.none _)
   | (with_reducible refine LeO.ite ?_ ?_)
   | (with_reducible refine LeO.bind ?_ (fun _ => ?_))
   | exact ih0 _ _ _
   | exact ih1 _ _ _
   | exact slices_Reverse_string_string.mono _ _
   | exact LeO.none _
   | refine LeO.ite ?_ ?_
   | refine LeO.bind ?_ (fun _ => ?_)
theorem digest_Proof.mono : ∀ a0 a1 k, LeO (digest_Proof.f k a0 a1) (digest_Proof.f (k + 1) a0 a1) := by
 intro a0 a1 k
 obtain ⟨ih0, ih1⟩ := digest_Proof.mono_l k
 unfold digest_Proof.f
 repeat' first
   | (with_reducible exact ih0 _ _ _)
   | (with_reducible exact ih1 _ _ _)
   | (with_reducible exact slices_Reverse_string_string.mono _ _)
   | (with_reducible exact LeO.refl _)
   | (with_reducible exact LeO.none _)
   | (with_reducible refine LeO.ite ?_ ?_)
   | (with_reducible refine LeO.bind ?_ (fun _ => ?_))
   | exact ih0 _ _ _
   | exact ih1 _ _ _
   | exact slices_Reverse_string_string.mono _ _
   | exact LeO.none _
   | refine LeO.ite ?_ ?_
   | refine LeO.bind ?_ (fun _ => ?_)
set_option maxHeartbeats 8000000 in
set_option maxRecDepth 100000 in
theorem digest_Proof.calls (k : Nat) (P0_ : Nat → Prop) (A0 : Option Addr) (c0 : Nat) (l0 : List ByteArray) (a1 : Int) (r1 : List ByteArray) (r2 : Int) (w : World) (hs0 : Kd.V Kd.string 9 w w.heap.size (fun k_ => P0_ k_) (.slice A0 l0.length c0) l0) (hG_ : Amb w) (h : digest_Proof.f k l0 a1 = some (r1, r2)) :
  Calls Tryd.prog 14 #[.slice A0 l0.length c0, .int .i64 a1] w fun e w' => ∃ v0_ : Value, e = .returned (.tuple #[v0_, .int .i64 r2]) ∧ Kd.R Kd.string 9 w' w.heap.size (fun k_ => (w.heap.size ≤ k_)) v0_ r1 ∧ Below w.heap.size w w' := by
 have HO0 := Aside0.mk (show Kd.V Kd.string 9 w w.heap.size (fun k_ => (P0_ k_ ∨ w.heap.size ≤ k_)) (.slice A0 l0.length c0) l0 from Kd.V_mono hs0 (fun k_ hk => .inl hk))
 have HB := Aside0.mk (Below.refl w.heap.size w)
 have H : (if a1 < 0 then (digest_Proof.j0 k l0 a1 true) else (digest_Proof.j0 k l0 a1 (decide (a1 ≥ (l0.length : Int))))) = some (r1, r2) := h
 clear h
 have HC3 := Aside0.mk H
 clear H
 go_enter Tryd.func14, Tryd.ntmps14
 first | apply wp_scope_straight | (go_wp2_with fail; apply wp_scope_straight)
 go_upto_region 1 with (fail)
 repeat (go_quiet (fail); go_upto_region 1 with (fail))
 go_cut [17] (fun v17 wc => ∃ (kq : Nat) (x17_2 : Bool), v17 = .bool x17_2 ∧ Aside0 (digest_Proof.j0 kq l0 a1 x17_2 = some (r1, r2)) ∧ Aside0 (kq ≤ k) ∧ Aside0 (Kd.V Kd.string 9 wc w.heap.size (fun k_ => (P0_ k_ ∨ w.heap.size ≤ k_)) (.slice A0 l0.length c0) l0) ∧ Aside0 (Below w.heap.size w wc))
 case first =>
  have H := HC3.out
  clear HC3
  by_cases c4 : a1 < 0
  ·rw [if_pos c4] at H
   have c4b0 : decide (a1 < 0) = true := decide_eq_true c4
   clear c4
   (first | rw [c4b0] | (simp only [i64_w, i32_w]; rw [c4b0]) | skip)
   have H' := Aside0.mk H
   clear H
   go_wp2
   repeat (go_quiet (fail); try go_wp2)
   go_meet
   case rel => exact ⟨_, (true), (by first | rfl | (simp; done) | (simp [*]; done)), H', ⟨by first | omega | exact Nat.le_refl _⟩, ⟨by (with_reducible repeat (first | apply Kd.V_alloc | apply Kd.V_drewN | apply Kd.V_drew)); exact HO0.out⟩, ⟨by repeat (first | (with_reducible first | exact HB.out | apply below_alloc | apply pw_below_drewN | apply below_drew1) | exact HB.out)⟩⟩
  ·rw [if_neg c4] at H
   have c4b0 : decide (a1 < 0) = false := decide_eq_false c4
   clear c4
   (first | rw [c4b0] | (simp only [i64_w, i32_w]; rw [c4b0]) | skip)
   have H' := Aside0.mk H
   clear H
   go_wp2
   repeat (go_quiet (fail); try go_wp2)
   go_meet
   case rel => exact ⟨_, (decide (a1 ≥ (l0.length : Int))), (by first | rfl | (simp; done) | (simp [*]; done)), H', ⟨by first | omega | exact Nat.le_refl _⟩, ⟨by (with_reducible repeat (first | apply Kd.V_alloc | apply Kd.V_drewN | apply Kd.V_drew)); exact HO0.out⟩, ⟨by repeat (first | (with_reducible first | exact HB.out | apply below_alloc | apply pw_below_drewN | apply below_drew1) | exact HB.out)⟩⟩
 case rest =>
  clear HC3
  try clear c1
  try clear p2
  try clear c4
  try clear c4b0
  obtain ⟨kq, x17_2, rfl, HA, HJ2, HO_0, HB⟩ := hcut
  cases kq with
  | zero => exact absurd HA.out (by simp [digest_Proof.j0])
  | succ kj2 =>
   have H := HA.out
   clear HA
   simp only [digest_Proof.j0] at H
   by_cases c5 : x17_2 = true
   ·subst c5
    have H1 : (some (([] : List ByteArray), 2)) = some (r1, r2) := by rw [if_pos rfl] at H; exact H
    clear H
    have H := H1
    clear H1
    simp only [Option.some.injEq, Prod.mk.injEq] at H
    obtain ⟨rfl, rfl⟩ := H
    go_wp2
    repeat (go_quiet (fail); try go_wp2)
    rw [Exit.noGoto_ret]
    go_ret2
    exact ⟨_, by first | rfl | (simp [errW_none, errW_some] <;> rfl) | (simp [*, errW_none, errW_some] <;> rfl), by first | exact Kd.R_nil _ _ _ _ _ | exact Kd.N_nil _ _ _ _ _ | exact Kd.V_nil _ _ _ _ _ | exact Kd.Q_nil _ _ _ _ _ | exact Kd.S_nil _ _ _ _ _, by repeat (first | (with_reducible first | exact HB.out | apply below_alloc | apply pw_below_drewN | apply below_drew1) | exact HB.out)⟩
   ·replace c5 := Bool.eq_false_iff.mpr c5
    subst c5
    have H1 : (digest_Proof.l0 kj2 l0 a1 ([] : List ByteArray)) = some (r1, r2) := by rw [if_neg (show ¬ (false = true) by decide)] at H; exact H
    clear H
    have H := H1
    clear H1
    have H' := Aside0.mk H
    clear H
    go_wp2
    repeat (go_quiet (fail); try go_wp2)
    all_goals (first | (go_step3; go_wp2) | skip)
    go_loopg [0, 1, 6] kj2 (fun kq v0 v1 v6 w' => ∃ (x0_2 : List ByteArray) (x1_2 : Int) (x6_2 : List ByteArray), v1 = .int .i64 x1_2 ∧ Aside0 (digest_Proof.l0 kq x0_2 x1_2 x6_2 = some (r1, r2)) ∧ Aside0 (kq ≤ kj2) ∧ Aside0 (Kd.V Kd.string 9 w' w.heap.size (fun k_ => (P0_ k_ ∨ w.heap.size ≤ k_) ∧ some k_ ≠ (v6 : Value).ownBlock) v0 x0_2) ∧ Aside0 (Kd.R Kd.string 9 w' w.heap.size (fun k_ => (w.heap.size ≤ k_)) v6 x6_2) ∧ Aside0 (Below w.heap.size w w'))
    case atStart => exact ⟨(l0), (a1), (([] : List ByteArray)), (by first | rfl | (simp; done) | (simp [*]; done)), H', ⟨Nat.le_refl _⟩, ⟨by (with_reducible repeat (first | apply Kd.V_alloc | apply Kd.V_drewN | apply Kd.V_drew)); exact Kd.V_mono HO_0.out (fun _ hk => ⟨hk, (by simp [Value.ownBlock])⟩)⟩, ⟨by first | exact Kd.R_nil _ _ _ _ _ | exact Kd.N_nil _ _ _ _ _ | exact Kd.V_nil _ _ _ _ _ | exact Kd.Q_nil _ _ _ _ _ | exact Kd.S_nil _ _ _ _ _⟩, ⟨by repeat (first | (with_reducible first | exact HB.out | apply below_alloc | apply pw_below_drewN | apply below_drew1) | exact HB.out)⟩⟩
    case round =>
     clear H'
     try clear c1
     try clear p2
     try clear c4
     try clear c4b0
     try clear c5
     try clear p2
     obtain ⟨x0_2, x1_2, x6_2, rfl, HA, HK2, HO_0, HO_6, HB⟩ := hrel
     cases gk with
     | zero => exact absurd HA.out (by simp [digest_Proof.l0])
     | succ k2 =>
      have H := HA.out
      clear HA
      simp only [digest_Proof.l0] at H
      by_cases c6 : (x0_2.length : Int) = 1
      ·rw [if_pos c6] at H
       have c6b0 : ((x0_2.length : Int) == 1) = true := beq_iff_eq.mpr c6
       have c6b1 : ((x0_2.length : Int) != 1) = false := bne_eq_false_iff_eq.mpr c6
       clear c6
       replace H := Option.bind_eq_some_iff.mp H
       obtain ⟨t107, A70, H⟩ := H
       replace H : (some (t107, 0)) = some (r1, r2) := H
       have A7 := Aside0.mk A70
       clear A70
       simp only [Option.some.injEq, Prod.mk.injEq] at H
       obtain ⟨rfl, rfl⟩ := H
       obtain ⟨Ao8, co8, eo8⟩ := Kd.V_slice HO_0.out
       subst eo8
       obtain ⟨Ao9, co9, eo9⟩ := Kd.R_slice HO_6.out
       subst eo9
       go_wp2_with (first | (go_at_call 41; (with_reducible refine (slices_Reverse_string_string.calls k2 (fun k_ => some k_ = (.slice Ao9 x6_2.length co9 : Value).ownBlock) (.slice Ao9 x6_2.length co9) x6_2 t107 w _ ?side1 ?side2 A7.out).mono ?_); (case side1 => repeat (first | (with_reducible first | exact HB.out | apply below_alloc | apply pw_below_drewN | apply below_drew1) | exact HB.out)); (case side2 => exact Kd.R_tight rfl HO_6.out); rintro e w10 ⟨rfl, hy0, hb, hkp⟩; have n0_ := Aside0.mk (Kd.V_mono (ok' := fun k_ => (P0_ k_ ∨ w.heap.size ≤ k_) ∧ some k_ ≠ (.slice Ao9 x6_2.length co9 : Value).ownBlock) (Kd.V_keptB (HO_0.out) hkp (fun k_ hk_ hs_ => (hk_.2) hs_)) (fun k_ hk_ => ⟨hk_.1.1, hk_.1.2⟩)); have n1_ := Aside0.mk (Kd.R_reok rfl hy0 (fun k_ e_ => HO_6.out.1 k_ e_)); have n2_ := Aside0.mk (hb); clear HO_0; clear HO_6; clear HB; have HO_0 := n0_; have HO_6 := n1_; have HB := n2_; clear n0_ n1_ n2_; (try clear hb); (try clear hkp); (try clear hy0)))
       repeat (go_quiet (first | (go_at_call 41; (with_reducible refine (slices_Reverse_string_string.calls k2 (fun k_ => some k_ = (.slice Ao9 x6_2.length co9 : Value).ownBlock) (.slice Ao9 x6_2.length co9) x6_2 t107 w _ ?side1 ?side2 A7.out).mono ?_); (case side1 => repeat (first | (with_reducible first | exact HB.out | apply below_alloc | apply pw_below_drewN | apply below_drew1) | exact HB.out)); (case side2 => exact Kd.R_tight rfl HO_6.out); rintro e w10 ⟨rfl, hy0, hb, hkp⟩; have n0_ := Aside0.mk (Kd.V_mono (ok' := fun k_ => (P0_ k_ ∨ w.heap.size ≤ k_) ∧ some k_ ≠ (.slice Ao9 x6_2.length co9 : Value).ownBlock) (Kd.V_keptB (HO_0.out) hkp (fun k_ hk_ hs_ => (hk_.2) hs_)) (fun k_ hk_ => ⟨hk_.1.1, hk_.1.2⟩)); have n1_ := Aside0.mk (Kd.R_reok rfl hy0 (fun k_ e_ => HO_6.out.1 k_ e_)); have n2_ := Aside0.mk (hb); clear HO_0; clear HO_6; clear HB; have HO_0 := n0_; have HO_6 := n1_; have HB := n2_; clear n0_ n1_ n2_; (try clear hb); (try clear hkp); (try clear hy0))); try go_wp2_with (first | (go_at_call 41; (with_reducible refine (slices_Reverse_string_string.calls k2 (fun k_ => some k_ = (.slice Ao9 x6_2.length co9 : Value).ownBlock) (.slice Ao9 x6_2.length co9) x6_2 t107 w _ ?side1 ?side2 A7.out).mono ?_); (case side1 => repeat (first | (with_reducible first | exact HB.out | apply below_alloc | apply pw_below_drewN | apply below_drew1) | exact HB.out)); (case side2 => exact Kd.R_tight rfl HO_6.out); rintro e w10 ⟨rfl, hy0, hb, hkp⟩; have n0_ := Aside0.mk (Kd.V_mono (ok' := fun k_ => (P0_ k_ ∨ w.heap.size ≤ k_) ∧ some k_ ≠ (.slice Ao9 x6_2.length co9 : Value).ownBlock) (Kd.V_keptB (HO_0.out) hkp (fun k_ hk_ hs_ => (hk_.2) hs_)) (fun k_ hk_ => ⟨hk_.1.1, hk_.1.2⟩)); have n1_ := Aside0.mk (Kd.R_reok rfl hy0 (fun k_ e_ => HO_6.out.1 k_ e_)); have n2_ := Aside0.mk (hb); clear HO_0; clear HO_6; clear HB; have HO_0 := n0_; have HO_6 := n1_; have HB := n2_; clear n0_ n1_ n2_; (try clear hb); (try clear hkp); (try clear hy0))))
       rw [Exit.noGoto_ret]
       go_ret2
       exact ⟨_, by first | rfl | (simp [errW_none, errW_some] <;> rfl) | (simp [*, errW_none, errW_some] <;> rfl), by (with_reducible repeat (first | apply Kd.R_alloc | apply Kd.R_drewN | apply Kd.R_drew)); exact HO_6.out, by repeat (first | (with_reducible first | exact HB.out | apply below_alloc | apply pw_below_drewN | apply below_drew1) | exact HB.out)⟩
      ·rw [if_neg c6] at H
       have c6b0 : ((x0_2.length : Int) == 1) = false := beq_eq_false_iff_ne.mpr c6
       have c6b1 : ((x0_2.length : Int) != 1) = true := bne_iff_ne.mpr c6
       replace H := Option.bind_eq_some_iff.mp H
       obtain ⟨t108, A110, H⟩ := H
       replace H : (if 0 ≤ t108 then (if t108 ≤ (x0_2.length : Int) then ((some (x0_2.take (t108 : Int).toNat : List ByteArray)).bind fun y109 => ((some (x0_2.drop (t108 : Int).toNat : List ByteArray)).bind fun y114 => (if x1_2 ≥ t108 then ((digest_Root.f y109).bind fun t119 => (if x6_2.length < 8796093022208 then (digest_Proof.l0 k2 y114 (wrap64 (x1_2 - t108)) (x6_2 ++ [t119])) else (none))) else ((digest_Root.f y114).bind fun t123 => (if x6_2.length < 8796093022208 then (digest_Proof.l0 k2 y109 x1_2 (x6_2 ++ [t123])) else (none)))))) else (none)) else (none)) = some (r1, r2) := H
       have A11 := Aside0.mk A110
       clear A110
       by_cases c12 : 0 ≤ t108
       ·rw [if_pos c12] at H
        have c12b0 := eq_true c12
        have c12b1 : decide (0 ≤ t108) = true := decide_eq_true c12
        clear c12
        by_cases c13 : t108 ≤ (x0_2.length : Int)
        ·rw [if_pos c13] at H
         have c13b0 := eq_true c13
         have c13b1 : decide (t108 ≤ (x0_2.length : Int)) = true := decide_eq_true c13
         clear c13
         obtain ⟨y109, hy109⟩ : ∃ y_ : List ByteArray, y_ = (x0_2.take (t108 : Int).toNat) := ⟨_, rfl⟩
         replace H : ((some (x0_2.drop (t108 : Int).toNat : List ByteArray)).bind fun y114 => (if x1_2 ≥ t108 then ((digest_Root.f y109).bind fun t119 => (if x6_2.length < 8796093022208 then (digest_Proof.l0 k2 y114 (wrap64 (x1_2 - t108)) (x6_2 ++ [t119])) else (none))) else ((digest_Root.f y114).bind fun t123 => (if x6_2.length < 8796093022208 then (digest_Proof.l0 k2 y109 x1_2 (x6_2 ++ [t123])) else (none))))) = some (r1, r2) := by first | (rw [hy109]; with_reducible exact H) | (have H2_ := (Option.bind_some _ _).symm.trans H; rw [hy109]; with_reducible exact H2_) | (have H2_ := (Option.bind_some _ _).symm.trans H; with_reducible exact H2_) | with_reducible exact H | (rw [hy109]; exact H) | exact H
         have Ny109 := Aside0.mk hy109
         clear hy109
         have c14b0 := eq_true (of_decide_eq_true (by first | (with_reducible assumption) | assumption) : 0 ≤ t108)
         have c15b0 := eq_true (of_decide_eq_true (by first | (with_reducible assumption) | assumption) : t108 ≤ (x0_2.length : Int))
         obtain ⟨y114, hy114⟩ : ∃ y_ : List ByteArray, y_ = (x0_2.drop (t108 : Int).toNat) := ⟨_, rfl⟩
         replace H : (if x1_2 ≥ t108 then ((digest_Root.f y109).bind fun t119 => (if x6_2.length < 8796093022208 then (digest_Proof.l0 k2 y114 (wrap64 (x1_2 - t108)) (x6_2 ++ [t119])) else (none))) else ((digest_Root.f y114).bind fun t123 => (if x6_2.length < 8796093022208 then (digest_Proof.l0 k2 y109 x1_2 (x6_2 ++ [t123])) else (none)))) = some (r1, r2) := by first | (rw [hy114]; with_reducible exact H) | (have H2_ := (Option.bind_some _ _).symm.trans H; rw [hy114]; with_reducible exact H2_) | (have H2_ := (Option.bind_some _ _).symm.trans H; with_reducible exact H2_) | with_reducible exact H | (rw [hy114]; exact H) | exact H
         have Ny114 := Aside0.mk hy114
         clear hy114
         by_cases c16 : x1_2 ≥ t108
         ·rw [if_pos c16] at H
          have c16b0 : decide (t108 ≤ x1_2) = true := decide_eq_true c16
          clear c16
          replace H := Option.bind_eq_some_iff.mp H
          obtain ⟨t119, A170, H⟩ := H
          replace H : (if x6_2.length < 8796093022208 then (digest_Proof.l0 k2 y114 (wrap64 (x1_2 - t108)) (x6_2 ++ [t119])) else (none)) = some (r1, r2) := H
          have A17 := Aside0.mk A170
          clear A170
          by_cases c18 : x6_2.length < 8796093022208
          ·rw [if_pos c18] at H
           have LMc18 := Aside0.mk c18
           clear c18
           obtain ⟨y120, hy120⟩ : ∃ y_ : List ByteArray, y_ = (x6_2 ++ [t119]) := ⟨_, rfl⟩
           replace H : (digest_Proof.l0 k2 y114 (wrap64 (x1_2 - t108)) y120) = some (r1, r2) := by first | (rw [hy120]; with_reducible exact H) | (have H2_ := (Option.bind_some _ _).symm.trans H; rw [hy120]; with_reducible exact H2_) | (have H2_ := (Option.bind_some _ _).symm.trans H; with_reducible exact H2_) | with_reducible exact H | (rw [hy120]; exact H) | exact H
           have Ny120 := Aside0.mk hy120
           clear hy120
           have H' := Aside0.mk H
           clear H
           obtain ⟨Ao19, co19, eo19⟩ := Kd.V_slice HO_0.out
           subst eo19
           go_wp2_with (first | (go_at_call 40; (with_reducible refine (digest_left.calls (x0_2.length : Int) t108 _ A11.out).mono ?_); rintro e w' ⟨rfl, ⟨nd, rfl⟩⟩; (try first | exact ⟨rfl, _, World.drewN_drewN _ _ _⟩ | exact ⟨rfl, _, Eq.trans (World.drewN_drewN _ _ _) (congrArg (World.drewN _) (Nat.add_assoc _ _ _))⟩); have q20 : (t108 : Int) ≤ ((x0_2.length : Int) : Int) := of_decide_eq_true (by first | (with_reducible assumption) | assumption); obtain ⟨i020, hi020, _, hsz20, _⟩ := info_parts info9; have hroom20 : x0_2.length ≤ co19 := (Kd.V_reads' HO_0.out).2.1; have hC20 : Kd.F Kd.string _ _ Ao19 x0_2.length x0_2 := (Kd.V_at (base := w.heap.size) HO_0.out).2.2; have hcut20 := cut_to (P := Tryd.prog) 22 9 .i64 Tryd.underlying22 hi020 Ao19 x0_2.length co19 t108 (of_decide_eq_true (by first | (with_reducible assumption) | assumption)) q20 hroom20; have hr20 := Kd.F_take (m := (t108 : Int).toNat) hC20 (by omega); have hy20 : y109.length = (t108 : Int).toNat := (by rw [Ny109.out, List.length_take]; omega); rw [← Ny109.out] at hr20; rw [← hy20] at hcut20; have HO113 := Aside0.mk (show Kd.V Kd.string 9 _ w.heap.size _ (.slice Ao19 y109.length co19) y109 from Kd.V_mk (by omega) hr20); have HC113 := Aside0.mk (show y109.length ≤ co19 from by omega); clear hr20 hC20 hroom20 hi020 hsz20; have KY20 := Aside0.mk hy20; clear hy20; replace q20 := eq_true q20; have q21 : (t108 : Int) ≤ ((x0_2.length : Int) : Int) := of_decide_eq_true (by first | (with_reducible assumption) | assumption); obtain ⟨i021, hi021, _, hsz21, _⟩ := info_parts info9; have hroom21 : x0_2.length ≤ co19 := (Kd.V_reads' HO_0.out).2.1; have hC21 : Kd.F Kd.string _ _ Ao19 x0_2.length x0_2 := (Kd.V_at (base := w.heap.size) HO_0.out).2.2; have q021 : (0 : Int) ≤ (t108 : Int) := of_decide_eq_true (by first | (with_reducible assumption) | assumption); have hcut21 := cut_from (P := Tryd.prog) 22 9 .i64 Tryd.underlying22 hi021 1 hsz21 Ao19 x0_2.length co19 t108 q021 q21; have hr21 := Kd.F_cut (m := (t108 : Int).toNat) (c := co19) hC21 (by omega) hroom21; obtain ⟨A21, hA21⟩ : ∃ A1, A1 = (if co19 = (t108 : Int).toNat then Ao19 else (Ao19 : Option Addr).map (·.add ((t108 : Int).toNat * 1))) := ⟨_, rfl⟩; obtain ⟨c21, hc21⟩ : ∃ c1, c1 = co19 - (t108 : Int).toNat := ⟨_, rfl⟩; have hy21 : y114.length = x0_2.length - (t108 : Int).toNat := (by rw [Ny114.out, List.length_drop] <;> omega); rw [show (x0_2).drop (t108 : Int).toNat = y114 from Ny114.out.symm] at hr21; replace hr21 : Kd.F Kd.string _ _ A21 y114.length y114 := (by rw [hA21]; exact hr21); rw [← hy21, ← hA21, ← hc21] at hcut21; have HO118 := Aside0.mk (show Kd.V Kd.string 9 _ w.heap.size _ (.slice A21 y114.length c21) y114 from Kd.V_mk (by rw [hy21, hc21]; exact Nat.sub_le_sub_right hroom21 _) hr21); have HC118 := Aside0.mk (show y114.length ≤ c21 from by rw [hy21, hc21]; exact Nat.sub_le_sub_right hroom21 _); clear hr21 hC21 hroom21 hi021 hsz21 hc21; have KY21 := Aside0.mk hy21; have KA21 := Aside0.mk hA21; clear hy21 hA21; replace q21 := eq_true q21) | (go_at_call 19; (with_reducible refine (digest_Root.calls _ _ y109 t119 _ ?side1 ?side2 ?side3 A17.out).mono ?_); (case side1 => repeat (first | exact (Kd.V_reads' HO113.out).2.2 | (with_reducible refine Kd.C_alloc ?_ _) | (with_reducible refine Kd.C_drewN ?_ _) | (with_reducible refine Kd.C_drew ?_))); (case side2 => exact (Kd.V_reads' HO113.out).2.1); (case side3 => exact Amb.below hG_ (by repeat (first | (with_reducible first | exact HB.out | apply below_alloc | apply pw_below_drewN | apply below_drew1) | exact HB.out))); rintro e w22 ⟨rfl, hb⟩; have n0_ := Aside0.mk (Kd.V_below (by (with_reducible repeat (first | apply Kd.V_alloc | apply Kd.V_drewN | apply Kd.V_drew)); exact HO_0.out) hb); have n1_ := Aside0.mk (Kd.R_below (by (with_reducible repeat (first | apply Kd.R_alloc | apply Kd.R_drewN | apply Kd.R_drew)); exact HO_6.out) hb); have n2_ := Aside0.mk (Kd.V_below (by (with_reducible repeat (first | apply Kd.V_alloc | apply Kd.V_drewN | apply Kd.V_drew)); exact HO113.out) hb); have n3_ := Aside0.mk (Kd.V_below (by (with_reducible repeat (first | apply Kd.V_alloc | apply Kd.V_drewN | apply Kd.V_drew)); exact HO118.out) hb); have n4_ := Aside0.mk (below_step (by repeat (first | (with_reducible first | exact HB.out | apply below_alloc | apply pw_below_drewN | apply below_drew1) | exact HB.out)) hb); clear HO_0; clear HO_6; clear HO113; clear HO118; clear HB; have HO_0 := n0_; have HO_6 := n1_; have HO113 := n2_; have HO118 := n3_; have HB := n4_; clear n0_ n1_ n2_ n3_ n4_; (try clear hb); (try clear hb2); (try clear hk); (try clear hi)) | ((with_reducible refine gate_builtin (b := .append) (xs := #[.tmp 38, .tmp 41]) rfl ?_); (try (refine gate_guard (by rfl) ?_; dsimp only)); at_builtin; refine Kd.R_append Kd.string (w0 := w) w.heap.size rfl (.tmp 38) (.tmp 41) 22 9 (.string ⟨#[]⟩) 16 rfl Tryd.underlying22 info9 rfl (by decide) (by omega) u6 x6_2 t119 [.string t119] (fun k_ => (w.heap.size ≤ k_)) (fun _ => False) rfl rfl ?aP (fun _ hk => hk.elim) ?aF ?aO ?aB ?aS ?aL ?_; (case aP => exact rfl); (case aB => exact (by repeat (first | (with_reducible first | exact HB.out | apply below_alloc | apply pw_below_drewN | apply below_drew1) | exact HB.out))); (case aF => exact (fun k_ hk => (Nat.le_trans (below_size (by repeat (first | (with_reducible first | exact HB.out | apply below_alloc | apply pw_below_drewN | apply below_drew1) | exact HB.out))) hk))); (case aO => exact (by (with_reducible repeat (first | apply Kd.R_alloc | apply Kd.R_drewN | apply Kd.R_drew)); exact HO_6.out)); (case aS => exact (below_size (by repeat (first | (with_reducible first | exact HB.out | apply below_alloc | apply pw_below_drewN | apply below_drew1) | exact HB.out)))); (case aL => have := LMc18.out; omega); intro v121 w23 ho hb hg hat; rw [← Ny120.out] at ho; have n0_ := Aside0.mk (Kd.V_afterv (ok := (fun k_ => (P0_ k_ ∨ w.heap.size ≤ k_))) (by (with_reducible repeat (first | apply Kd.V_alloc | apply Kd.V_drewN | apply Kd.V_drew)); exact HO_0.out) hg hat); have n1_ := Aside0.mk (Kd.V_afterv (ok := (fun k_ => (P0_ k_ ∨ w.heap.size ≤ k_))) (by (with_reducible repeat (first | apply Kd.V_alloc | apply Kd.V_drewN | apply Kd.V_drew)); exact HO113.out) hg hat); have n2_ := Aside0.mk (Kd.V_afterv (ok := (fun k_ => (P0_ k_ ∨ w.heap.size ≤ k_))) (by (with_reducible repeat (first | apply Kd.V_alloc | apply Kd.V_drewN | apply Kd.V_drew)); exact HO118.out) hg hat); have n3_ := Aside0.mk (hb); have n4_ := Aside0.mk (ho); clear HO_0; clear HO113; clear HO118; clear HB; clear HO_6; have HO_0 := n0_; have HO113 := n1_; have HO118 := n2_; have HB := n3_; have HO122 := n4_; clear n0_ n1_ n2_ n3_ n4_; clear ho hb hg hat))
           repeat (go_quiet (first | (go_at_call 40; (with_reducible refine (digest_left.calls (x0_2.length : Int) t108 _ A11.out).mono ?_); rintro e w' ⟨rfl, ⟨nd, rfl⟩⟩; (try first | exact ⟨rfl, _, World.drewN_drewN _ _ _⟩ | exact ⟨rfl, _, Eq.trans (World.drewN_drewN _ _ _) (congrArg (World.drewN _) (Nat.add_assoc _ _ _))⟩); have q20 : (t108 : Int) ≤ ((x0_2.length : Int) : Int) := of_decide_eq_true (by first | (with_reducible assumption) | assumption); obtain ⟨i020, hi020, _, hsz20, _⟩ := info_parts info9; have hroom20 : x0_2.length ≤ co19 := (Kd.V_reads' HO_0.out).2.1; have hC20 : Kd.F Kd.string _ _ Ao19 x0_2.length x0_2 := (Kd.V_at (base := w.heap.size) HO_0.out).2.2; have hcut20 := cut_to (P := Tryd.prog) 22 9 .i64 Tryd.underlying22 hi020 Ao19 x0_2.length co19 t108 (of_decide_eq_true (by first | (with_reducible assumption) | assumption)) q20 hroom20; have hr20 := Kd.F_take (m := (t108 : Int).toNat) hC20 (by omega); have hy20 : y109.length = (t108 : Int).toNat := (by rw [Ny109.out, List.length_take]; omega); rw [← Ny109.out] at hr20; rw [← hy20] at hcut20; have HO113 := Aside0.mk (show Kd.V Kd.string 9 _ w.heap.size _ (.slice Ao19 y109.length co19) y109 from Kd.V_mk (by omega) hr20); have HC113 := Aside0.mk (show y109.length ≤ co19 from by omega); clear hr20 hC20 hroom20 hi020 hsz20; have KY20 := Aside0.mk hy20; clear hy20; replace q20 := eq_true q20; have q21 : (t108 : Int) ≤ ((x0_2.length : Int) : Int) := of_decide_eq_true (by first | (with_reducible assumption) | assumption); obtain ⟨i021, hi021, _, hsz21, _⟩ := info_parts info9; have hroom21 : x0_2.length ≤ co19 := (Kd.V_reads' HO_0.out).2.1; have hC21 : Kd.F Kd.string _ _ Ao19 x0_2.length x0_2 := (Kd.V_at (base := w.heap.size) HO_0.out).2.2; have q021 : (0 : Int) ≤ (t108 : Int) := of_decide_eq_true (by first | (with_reducible assumption) | assumption); have hcut21 := cut_from (P := Tryd.prog) 22 9 .i64 Tryd.underlying22 hi021 1 hsz21 Ao19 x0_2.length co19 t108 q021 q21; have hr21 := Kd.F_cut (m := (t108 : Int).toNat) (c := co19) hC21 (by omega) hroom21; obtain ⟨A21, hA21⟩ : ∃ A1, A1 = (if co19 = (t108 : Int).toNat then Ao19 else (Ao19 : Option Addr).map (·.add ((t108 : Int).toNat * 1))) := ⟨_, rfl⟩; obtain ⟨c21, hc21⟩ : ∃ c1, c1 = co19 - (t108 : Int).toNat := ⟨_, rfl⟩; have hy21 : y114.length = x0_2.length - (t108 : Int).toNat := (by rw [Ny114.out, List.length_drop] <;> omega); rw [show (x0_2).drop (t108 : Int).toNat = y114 from Ny114.out.symm] at hr21; replace hr21 : Kd.F Kd.string _ _ A21 y114.length y114 := (by rw [hA21]; exact hr21); rw [← hy21, ← hA21, ← hc21] at hcut21; have HO118 := Aside0.mk (show Kd.V Kd.string 9 _ w.heap.size _ (.slice A21 y114.length c21) y114 from Kd.V_mk (by rw [hy21, hc21]; exact Nat.sub_le_sub_right hroom21 _) hr21); have HC118 := Aside0.mk (show y114.length ≤ c21 from by rw [hy21, hc21]; exact Nat.sub_le_sub_right hroom21 _); clear hr21 hC21 hroom21 hi021 hsz21 hc21; have KY21 := Aside0.mk hy21; have KA21 := Aside0.mk hA21; clear hy21 hA21; replace q21 := eq_true q21) | (go_at_call 19; (with_reducible refine (digest_Root.calls _ _ y109 t119 _ ?side1 ?side2 ?side3 A17.out).mono ?_); (case side1 => repeat (first | exact (Kd.V_reads' HO113.out).2.2 | (with_reducible refine Kd.C_alloc ?_ _) | (with_reducible refine Kd.C_drewN ?_ _) | (with_reducible refine Kd.C_drew ?_))); (case side2 => exact (Kd.V_reads' HO113.out).2.1); (case side3 => exact Amb.below hG_ (by repeat (first | (with_reducible first | exact HB.out | apply below_alloc | apply pw_below_drewN | apply below_drew1) | exact HB.out))); rintro e w22 ⟨rfl, hb⟩; have n0_ := Aside0.mk (Kd.V_below (by (with_reducible repeat (first | apply Kd.V_alloc | apply Kd.V_drewN | apply Kd.V_drew)); exact HO_0.out) hb); have n1_ := Aside0.mk (Kd.R_below (by (with_reducible repeat (first | apply Kd.R_alloc | apply Kd.R_drewN | apply Kd.R_drew)); exact HO_6.out) hb); have n2_ := Aside0.mk (Kd.V_below (by (with_reducible repeat (first | apply Kd.V_alloc | apply Kd.V_drewN | apply Kd.V_drew)); exact HO113.out) hb); have n3_ := Aside0.mk (Kd.V_below (by (with_reducible repeat (first | apply Kd.V_alloc | apply Kd.V_drewN | apply Kd.V_drew)); exact HO118.out) hb); have n4_ := Aside0.mk (below_step (by repeat (first | (with_reducible first | exact HB.out | apply below_alloc | apply pw_below_drewN | apply below_drew1) | exact HB.out)) hb); clear HO_0; clear HO_6; clear HO113; clear HO118; clear HB; have HO_0 := n0_; have HO_6 := n1_; have HO113 := n2_; have HO118 := n3_; have HB := n4_; clear n0_ n1_ n2_ n3_ n4_; (try clear hb); (try clear hb2); (try clear hk); (try clear hi)) | ((with_reducible refine gate_builtin (b := .append) (xs := #[.tmp 38, .tmp 41]) rfl ?_); (try (refine gate_guard (by rfl) ?_; dsimp only)); at_builtin; refine Kd.R_append Kd.string (w0 := w) w.heap.size rfl (.tmp 38) (.tmp 41) 22 9 (.string ⟨#[]⟩) 16 rfl Tryd.underlying22 info9 rfl (by decide) (by omega) u6 x6_2 t119 [.string t119] (fun k_ => (w.heap.size ≤ k_)) (fun _ => False) rfl rfl ?aP (fun _ hk => hk.elim) ?aF ?aO ?aB ?aS ?aL ?_; (case aP => exact rfl); (case aB => exact (by repeat (first | (with_reducible first | exact HB.out | apply below_alloc | apply pw_below_drewN | apply below_drew1) | exact HB.out))); (case aF => exact (fun k_ hk => (Nat.le_trans (below_size (by repeat (first | (with_reducible first | exact HB.out | apply below_alloc | apply pw_below_drewN | apply below_drew1) | exact HB.out))) hk))); (case aO => exact (by (with_reducible repeat (first | apply Kd.R_alloc | apply Kd.R_drewN | apply Kd.R_drew)); exact HO_6.out)); (case aS => exact (below_size (by repeat (first | (with_reducible first | exact HB.out | apply below_alloc | apply pw_below_drewN | apply below_drew1) | exact HB.out)))); (case aL => have := LMc18.out; omega); intro v121 w23 ho hb hg hat; rw [← Ny120.out] at ho; have n0_ := Aside0.mk (Kd.V_afterv (ok := (fun k_ => (P0_ k_ ∨ w.heap.size ≤ k_))) (by (with_reducible repeat (first | apply Kd.V_alloc | apply Kd.V_drewN | apply Kd.V_drew)); exact HO_0.out) hg hat); have n1_ := Aside0.mk (Kd.V_afterv (ok := (fun k_ => (P0_ k_ ∨ w.heap.size ≤ k_))) (by (with_reducible repeat (first | apply Kd.V_alloc | apply Kd.V_drewN | apply Kd.V_drew)); exact HO113.out) hg hat); have n2_ := Aside0.mk (Kd.V_afterv (ok := (fun k_ => (P0_ k_ ∨ w.heap.size ≤ k_))) (by (with_reducible repeat (first | apply Kd.V_alloc | apply Kd.V_drewN | apply Kd.V_drew)); exact HO118.out) hg hat); have n3_ := Aside0.mk (hb); have n4_ := Aside0.mk (ho); clear HO_0; clear HO113; clear HO118; clear HB; clear HO_6; have HO_0 := n0_; have HO113 := n1_; have HO118 := n2_; have HB := n3_; have HO122 := n4_; clear n0_ n1_ n2_ n3_ n4_; clear ho hb hg hat)); try go_wp2_with (first | (go_at_call 40; (with_reducible refine (digest_left.calls (x0_2.length : Int) t108 _ A11.out).mono ?_); rintro e w' ⟨rfl, ⟨nd, rfl⟩⟩; (try first | exact ⟨rfl, _, World.drewN_drewN _ _ _⟩ | exact ⟨rfl, _, Eq.trans (World.drewN_drewN _ _ _) (congrArg (World.drewN _) (Nat.add_assoc _ _ _))⟩); have q20 : (t108 : Int) ≤ ((x0_2.length : Int) : Int) := of_decide_eq_true (by first | (with_reducible assumption) | assumption); obtain ⟨i020, hi020, _, hsz20, _⟩ := info_parts info9; have hroom20 : x0_2.length ≤ co19 := (Kd.V_reads' HO_0.out).2.1; have hC20 : Kd.F Kd.string _ _ Ao19 x0_2.length x0_2 := (Kd.V_at (base := w.heap.size) HO_0.out).2.2; have hcut20 := cut_to (P := Tryd.prog) 22 9 .i64 Tryd.underlying22 hi020 Ao19 x0_2.length co19 t108 (of_decide_eq_true (by first | (with_reducible assumption) | assumption)) q20 hroom20; have hr20 := Kd.F_take (m := (t108 : Int).toNat) hC20 (by omega); have hy20 : y109.length = (t108 : Int).toNat := (by rw [Ny109.out, List.length_take]; omega); rw [← Ny109.out] at hr20; rw [← hy20] at hcut20; have HO113 := Aside0.mk (show Kd.V Kd.string 9 _ w.heap.size _ (.slice Ao19 y109.length co19) y109 from Kd.V_mk (by omega) hr20); have HC113 := Aside0.mk (show y109.length ≤ co19 from by omega); clear hr20 hC20 hroom20 hi020 hsz20; have KY20 := Aside0.mk hy20; clear hy20; replace q20 := eq_true q20; have q21 : (t108 : Int) ≤ ((x0_2.length : Int) : Int) := of_decide_eq_true (by first | (with_reducible assumption) | assumption); obtain ⟨i021, hi021, _, hsz21, _⟩ := info_parts info9; have hroom21 : x0_2.length ≤ co19 := (Kd.V_reads' HO_0.out).2.1; have hC21 : Kd.F Kd.string _ _ Ao19 x0_2.length x0_2 := (Kd.V_at (base := w.heap.size) HO_0.out).2.2; have q021 : (0 : Int) ≤ (t108 : Int) := of_decide_eq_true (by first | (with_reducible assumption) | assumption); have hcut21 := cut_from (P := Tryd.prog) 22 9 .i64 Tryd.underlying22 hi021 1 hsz21 Ao19 x0_2.length co19 t108 q021 q21; have hr21 := Kd.F_cut (m := (t108 : Int).toNat) (c := co19) hC21 (by omega) hroom21; obtain ⟨A21, hA21⟩ : ∃ A1, A1 = (if co19 = (t108 : Int).toNat then Ao19 else (Ao19 : Option Addr).map (·.add ((t108 : Int).toNat * 1))) := ⟨_, rfl⟩; obtain ⟨c21, hc21⟩ : ∃ c1, c1 = co19 - (t108 : Int).toNat := ⟨_, rfl⟩; have hy21 : y114.length = x0_2.length - (t108 : Int).toNat := (by rw [Ny114.out, List.length_drop] <;> omega); rw [show (x0_2).drop (t108 : Int).toNat = y114 from Ny114.out.symm] at hr21; replace hr21 : Kd.F Kd.string _ _ A21 y114.length y114 := (by rw [hA21]; exact hr21); rw [← hy21, ← hA21, ← hc21] at hcut21; have HO118 := Aside0.mk (show Kd.V Kd.string 9 _ w.heap.size _ (.slice A21 y114.length c21) y114 from Kd.V_mk (by rw [hy21, hc21]; exact Nat.sub_le_sub_right hroom21 _) hr21); have HC118 := Aside0.mk (show y114.length ≤ c21 from by rw [hy21, hc21]; exact Nat.sub_le_sub_right hroom21 _); clear hr21 hC21 hroom21 hi021 hsz21 hc21; have KY21 := Aside0.mk hy21; have KA21 := Aside0.mk hA21; clear hy21 hA21; replace q21 := eq_true q21) | (go_at_call 19; (with_reducible refine (digest_Root.calls _ _ y109 t119 _ ?side1 ?side2 ?side3 A17.out).mono ?_); (case side1 => repeat (first | exact (Kd.V_reads' HO113.out).2.2 | (with_reducible refine Kd.C_alloc ?_ _) | (with_reducible refine Kd.C_drewN ?_ _) | (with_reducible refine Kd.C_drew ?_))); (case side2 => exact (Kd.V_reads' HO113.out).2.1); (case side3 => exact Amb.below hG_ (by repeat (first | (with_reducible first | exact HB.out | apply below_alloc | apply pw_below_drewN | apply below_drew1) | exact HB.out))); rintro e w22 ⟨rfl, hb⟩; have n0_ := Aside0.mk (Kd.V_below (by (with_reducible repeat (first | apply Kd.V_alloc | apply Kd.V_drewN | apply Kd.V_drew)); exact HO_0.out) hb); have n1_ := Aside0.mk (Kd.R_below (by (with_reducible repeat (first | apply Kd.R_alloc | apply Kd.R_drewN | apply Kd.R_drew)); exact HO_6.out) hb); have n2_ := Aside0.mk (Kd.V_below (by (with_reducible repeat (first | apply Kd.V_alloc | apply Kd.V_drewN | apply Kd.V_drew)); exact HO113.out) hb); have n3_ := Aside0.mk (Kd.V_below (by (with_reducible repeat (first | apply Kd.V_alloc | apply Kd.V_drewN | apply Kd.V_drew)); exact HO118.out) hb); have n4_ := Aside0.mk (below_step (by repeat (first | (with_reducible first | exact HB.out | apply below_alloc | apply pw_below_drewN | apply below_drew1) | exact HB.out)) hb); clear HO_0; clear HO_6; clear HO113; clear HO118; clear HB; have HO_0 := n0_; have HO_6 := n1_; have HO113 := n2_; have HO118 := n3_; have HB := n4_; clear n0_ n1_ n2_ n3_ n4_; (try clear hb); (try clear hb2); (try clear hk); (try clear hi)) | ((with_reducible refine gate_builtin (b := .append) (xs := #[.tmp 38, .tmp 41]) rfl ?_); (try (refine gate_guard (by rfl) ?_; dsimp only)); at_builtin; refine Kd.R_append Kd.string (w0 := w) w.heap.size rfl (.tmp 38) (.tmp 41) 22 9 (.string ⟨#[]⟩) 16 rfl Tryd.underlying22 info9 rfl (by decide) (by omega) u6 x6_2 t119 [.string t119] (fun k_ => (w.heap.size ≤ k_)) (fun _ => False) rfl rfl ?aP (fun _ hk => hk.elim) ?aF ?aO ?aB ?aS ?aL ?_; (case aP => exact rfl); (case aB => exact (by repeat (first | (with_reducible first | exact HB.out | apply below_alloc | apply pw_below_drewN | apply below_drew1) | exact HB.out))); (case aF => exact (fun k_ hk => (Nat.le_trans (below_size (by repeat (first | (with_reducible first | exact HB.out | apply below_alloc | apply pw_below_drewN | apply below_drew1) | exact HB.out))) hk))); (case aO => exact (by (with_reducible repeat (first | apply Kd.R_alloc | apply Kd.R_drewN | apply Kd.R_drew)); exact HO_6.out)); (case aS => exact (below_size (by repeat (first | (with_reducible first | exact HB.out | apply below_alloc | apply pw_below_drewN | apply below_drew1) | exact HB.out)))); (case aL => have := LMc18.out; omega); intro v121 w23 ho hb hg hat; rw [← Ny120.out] at ho; have n0_ := Aside0.mk (Kd.V_afterv (ok := (fun k_ => (P0_ k_ ∨ w.heap.size ≤ k_))) (by (with_reducible repeat (first | apply Kd.V_alloc | apply Kd.V_drewN | apply Kd.V_drew)); exact HO_0.out) hg hat); have n1_ := Aside0.mk (Kd.V_afterv (ok := (fun k_ => (P0_ k_ ∨ w.heap.size ≤ k_))) (by (with_reducible repeat (first | apply Kd.V_alloc | apply Kd.V_drewN | apply Kd.V_drew)); exact HO113.out) hg hat); have n2_ := Aside0.mk (Kd.V_afterv (ok := (fun k_ => (P0_ k_ ∨ w.heap.size ≤ k_))) (by (with_reducible repeat (first | apply Kd.V_alloc | apply Kd.V_drewN | apply Kd.V_drew)); exact HO118.out) hg hat); have n3_ := Aside0.mk (hb); have n4_ := Aside0.mk (ho); clear HO_0; clear HO113; clear HO118; clear HB; clear HO_6; have HO_0 := n0_; have HO113 := n1_; have HO118 := n2_; have HB := n3_; have HO122 := n4_; clear n0_ n1_ n2_ n3_ n4_; clear ho hb hg hat)))
           go_roundg k2
           case measure => have := HJ2.out; have := HK2.out; omega
           case rel => exact ⟨(y114), (wrap64 (x1_2 - t108)), (y120), (by first | rfl | (simp; done) | (simp [*]; done)), H', ⟨by have := HJ2.out; have := HK2.out; omega⟩, ⟨by (with_reducible repeat (first | apply Kd.V_alloc | apply Kd.V_drewN | apply Kd.V_drew)); exact HO118.out⟩, ⟨by (with_reducible repeat (first | apply Kd.R_alloc | apply Kd.R_drewN | apply Kd.R_drew)); exact HO122.out⟩, ⟨by repeat (first | (with_reducible first | exact HB.out | apply below_alloc | apply pw_below_drewN | apply below_drew1) | exact HB.out)⟩⟩
          ·rw [if_neg c18] at H
           exact absurd H (by simp)
         ·rw [if_neg c16] at H
          have c16b0 : decide (t108 ≤ x1_2) = false := decide_eq_false c16
          clear c16
          replace H := Option.bind_eq_some_iff.mp H
          obtain ⟨t123, A240, H⟩ := H
          replace H : (if x6_2.length < 8796093022208 then (digest_Proof.l0 k2 y109 x1_2 (x6_2 ++ [t123])) else (none)) = some (r1, r2) := H
          have A24 := Aside0.mk A240
          clear A240
          by_cases c25 : x6_2.length < 8796093022208
          ·rw [if_pos c25] at H
           have LMc25 := Aside0.mk c25
           clear c25
           obtain ⟨y124, hy124⟩ : ∃ y_ : List ByteArray, y_ = (x6_2 ++ [t123]) := ⟨_, rfl⟩
           replace H : (digest_Proof.l0 k2 y109 x1_2 y124) = some (r1, r2) := by first | (rw [hy124]; with_reducible exact H) | (have H2_ := (Option.bind_some _ _).symm.trans H; rw [hy124]; with_reducible exact H2_) | (have H2_ := (Option.bind_some _ _).symm.trans H; with_reducible exact H2_) | with_reducible exact H | (rw [hy124]; exact H) | exact H
           have Ny124 := Aside0.mk hy124
           clear hy124
           have H' := Aside0.mk H
           clear H
           obtain ⟨Ao26, co26, eo26⟩ := Kd.V_slice HO_0.out
           subst eo26
           go_wp2_with (first | (go_at_call 40; (with_reducible refine (digest_left.calls (x0_2.length : Int) t108 _ A11.out).mono ?_); rintro e w' ⟨rfl, ⟨nd, rfl⟩⟩; (try first | exact ⟨rfl, _, World.drewN_drewN _ _ _⟩ | exact ⟨rfl, _, Eq.trans (World.drewN_drewN _ _ _) (congrArg (World.drewN _) (Nat.add_assoc _ _ _))⟩); have q27 : (t108 : Int) ≤ ((x0_2.length : Int) : Int) := of_decide_eq_true (by first | (with_reducible assumption) | assumption); obtain ⟨i027, hi027, _, hsz27, _⟩ := info_parts info9; have hroom27 : x0_2.length ≤ co26 := (Kd.V_reads' HO_0.out).2.1; have hC27 : Kd.F Kd.string _ _ Ao26 x0_2.length x0_2 := (Kd.V_at (base := w.heap.size) HO_0.out).2.2; have hcut27 := cut_to (P := Tryd.prog) 22 9 .i64 Tryd.underlying22 hi027 Ao26 x0_2.length co26 t108 (of_decide_eq_true (by first | (with_reducible assumption) | assumption)) q27 hroom27; have hr27 := Kd.F_take (m := (t108 : Int).toNat) hC27 (by omega); have hy27 : y109.length = (t108 : Int).toNat := (by rw [Ny109.out, List.length_take]; omega); rw [← Ny109.out] at hr27; rw [← hy27] at hcut27; have HO113 := Aside0.mk (show Kd.V Kd.string 9 _ w.heap.size _ (.slice Ao26 y109.length co26) y109 from Kd.V_mk (by omega) hr27); have HC113 := Aside0.mk (show y109.length ≤ co26 from by omega); clear hr27 hC27 hroom27 hi027 hsz27; have KY27 := Aside0.mk hy27; clear hy27; replace q27 := eq_true q27; have q28 : (t108 : Int) ≤ ((x0_2.length : Int) : Int) := of_decide_eq_true (by first | (with_reducible assumption) | assumption); obtain ⟨i028, hi028, _, hsz28, _⟩ := info_parts info9; have hroom28 : x0_2.length ≤ co26 := (Kd.V_reads' HO_0.out).2.1; have hC28 : Kd.F Kd.string _ _ Ao26 x0_2.length x0_2 := (Kd.V_at (base := w.heap.size) HO_0.out).2.2; have q028 : (0 : Int) ≤ (t108 : Int) := of_decide_eq_true (by first | (with_reducible assumption) | assumption); have hcut28 := cut_from (P := Tryd.prog) 22 9 .i64 Tryd.underlying22 hi028 1 hsz28 Ao26 x0_2.length co26 t108 q028 q28; have hr28 := Kd.F_cut (m := (t108 : Int).toNat) (c := co26) hC28 (by omega) hroom28; obtain ⟨A28, hA28⟩ : ∃ A1, A1 = (if co26 = (t108 : Int).toNat then Ao26 else (Ao26 : Option Addr).map (·.add ((t108 : Int).toNat * 1))) := ⟨_, rfl⟩; obtain ⟨c28, hc28⟩ : ∃ c1, c1 = co26 - (t108 : Int).toNat := ⟨_, rfl⟩; have hy28 : y114.length = x0_2.length - (t108 : Int).toNat := (by rw [Ny114.out, List.length_drop] <;> omega); rw [show (x0_2).drop (t108 : Int).toNat = y114 from Ny114.out.symm] at hr28; replace hr28 : Kd.F Kd.string _ _ A28 y114.length y114 := (by rw [hA28]; exact hr28); rw [← hy28, ← hA28, ← hc28] at hcut28; have HO118 := Aside0.mk (show Kd.V Kd.string 9 _ w.heap.size _ (.slice A28 y114.length c28) y114 from Kd.V_mk (by rw [hy28, hc28]; exact Nat.sub_le_sub_right hroom28 _) hr28); have HC118 := Aside0.mk (show y114.length ≤ c28 from by rw [hy28, hc28]; exact Nat.sub_le_sub_right hroom28 _); clear hr28 hC28 hroom28 hi028 hsz28 hc28; have KY28 := Aside0.mk hy28; have KA28 := Aside0.mk hA28; clear hy28 hA28; replace q28 := eq_true q28) | (go_at_call 19; (with_reducible refine (digest_Root.calls _ _ y114 t123 _ ?side1 ?side2 ?side3 A24.out).mono ?_); (case side1 => repeat (first | exact (Kd.V_reads' HO118.out).2.2 | (with_reducible refine Kd.C_alloc ?_ _) | (with_reducible refine Kd.C_drewN ?_ _) | (with_reducible refine Kd.C_drew ?_))); (case side2 => exact (Kd.V_reads' HO118.out).2.1); (case side3 => exact Amb.below hG_ (by repeat (first | (with_reducible first | exact HB.out | apply below_alloc | apply pw_below_drewN | apply below_drew1) | exact HB.out))); rintro e w29 ⟨rfl, hb⟩; have n0_ := Aside0.mk (Kd.V_below (by (with_reducible repeat (first | apply Kd.V_alloc | apply Kd.V_drewN | apply Kd.V_drew)); exact HO_0.out) hb); have n1_ := Aside0.mk (Kd.R_below (by (with_reducible repeat (first | apply Kd.R_alloc | apply Kd.R_drewN | apply Kd.R_drew)); exact HO_6.out) hb); have n2_ := Aside0.mk (Kd.V_below (by (with_reducible repeat (first | apply Kd.V_alloc | apply Kd.V_drewN | apply Kd.V_drew)); exact HO113.out) hb); have n3_ := Aside0.mk (Kd.V_below (by (with_reducible repeat (first | apply Kd.V_alloc | apply Kd.V_drewN | apply Kd.V_drew)); exact HO118.out) hb); have n4_ := Aside0.mk (below_step (by repeat (first | (with_reducible first | exact HB.out | apply below_alloc | apply pw_below_drewN | apply below_drew1) | exact HB.out)) hb); clear HO_0; clear HO_6; clear HO113; clear HO118; clear HB; have HO_0 := n0_; have HO_6 := n1_; have HO113 := n2_; have HO118 := n3_; have HB := n4_; clear n0_ n1_ n2_ n3_ n4_; (try clear hb); (try clear hb2); (try clear hk); (try clear hi)) | ((with_reducible refine gate_builtin (b := .append) (xs := #[.tmp 38, .tmp 41]) rfl ?_); (try (refine gate_guard (by rfl) ?_; dsimp only)); at_builtin; refine Kd.R_append Kd.string (w0 := w) w.heap.size rfl (.tmp 38) (.tmp 41) 22 9 (.string ⟨#[]⟩) 16 rfl Tryd.underlying22 info9 rfl (by decide) (by omega) u6 x6_2 t123 [.string t123] (fun k_ => (w.heap.size ≤ k_)) (fun _ => False) rfl rfl ?aP (fun _ hk => hk.elim) ?aF ?aO ?aB ?aS ?aL ?_; (case aP => exact rfl); (case aB => exact (by repeat (first | (with_reducible first | exact HB.out | apply below_alloc | apply pw_below_drewN | apply below_drew1) | exact HB.out))); (case aF => exact (fun k_ hk => (Nat.le_trans (below_size (by repeat (first | (with_reducible first | exact HB.out | apply below_alloc | apply pw_below_drewN | apply below_drew1) | exact HB.out))) hk))); (case aO => exact (by (with_reducible repeat (first | apply Kd.R_alloc | apply Kd.R_drewN | apply Kd.R_drew)); exact HO_6.out)); (case aS => exact (below_size (by repeat (first | (with_reducible first | exact HB.out | apply below_alloc | apply pw_below_drewN | apply below_drew1) | exact HB.out)))); (case aL => have := LMc25.out; omega); intro v125 w30 ho hb hg hat; rw [← Ny124.out] at ho; have n0_ := Aside0.mk (Kd.V_afterv (ok := (fun k_ => (P0_ k_ ∨ w.heap.size ≤ k_))) (by (with_reducible repeat (first | apply Kd.V_alloc | apply Kd.V_drewN | apply Kd.V_drew)); exact HO_0.out) hg hat); have n1_ := Aside0.mk (Kd.V_afterv (ok := (fun k_ => (P0_ k_ ∨ w.heap.size ≤ k_))) (by (with_reducible repeat (first | apply Kd.V_alloc | apply Kd.V_drewN | apply Kd.V_drew)); exact HO113.out) hg hat); have n2_ := Aside0.mk (Kd.V_afterv (ok := (fun k_ => (P0_ k_ ∨ w.heap.size ≤ k_))) (by (with_reducible repeat (first | apply Kd.V_alloc | apply Kd.V_drewN | apply Kd.V_drew)); exact HO118.out) hg hat); have n3_ := Aside0.mk (hb); have n4_ := Aside0.mk (ho); clear HO_0; clear HO113; clear HO118; clear HB; clear HO_6; have HO_0 := n0_; have HO113 := n1_; have HO118 := n2_; have HB := n3_; have HO126 := n4_; clear n0_ n1_ n2_ n3_ n4_; clear ho hb hg hat))
           repeat (go_quiet (first | (go_at_call 40; (with_reducible refine (digest_left.calls (x0_2.length : Int) t108 _ A11.out).mono ?_); rintro e w' ⟨rfl, ⟨nd, rfl⟩⟩; (try first | exact ⟨rfl, _, World.drewN_drewN _ _ _⟩ | exact ⟨rfl, _, Eq.trans (World.drewN_drewN _ _ _) (congrArg (World.drewN _) (Nat.add_assoc _ _ _))⟩); have q27 : (t108 : Int) ≤ ((x0_2.length : Int) : Int) := of_decide_eq_true (by first | (with_reducible assumption) | assumption); obtain ⟨i027, hi027, _, hsz27, _⟩ := info_parts info9; have hroom27 : x0_2.length ≤ co26 := (Kd.V_reads' HO_0.out).2.1; have hC27 : Kd.F Kd.string _ _ Ao26 x0_2.length x0_2 := (Kd.V_at (base := w.heap.size) HO_0.out).2.2; have hcut27 := cut_to (P := Tryd.prog) 22 9 .i64 Tryd.underlying22 hi027 Ao26 x0_2.length co26 t108 (of_decide_eq_true (by first | (with_reducible assumption) | assumption)) q27 hroom27; have hr27 := Kd.F_take (m := (t108 : Int).toNat) hC27 (by omega); have hy27 : y109.length = (t108 : Int).toNat := (by rw [Ny109.out, List.length_take]; omega); rw [← Ny109.out] at hr27; rw [← hy27] at hcut27; have HO113 := Aside0.mk (show Kd.V Kd.string 9 _ w.heap.size _ (.slice Ao26 y109.length co26) y109 from Kd.V_mk (by omega) hr27); have HC113 := Aside0.mk (show y109.length ≤ co26 from by omega); clear hr27 hC27 hroom27 hi027 hsz27; have KY27 := Aside0.mk hy27; clear hy27; replace q27 := eq_true q27; have q28 : (t108 : Int) ≤ ((x0_2.length : Int) : Int) := of_decide_eq_true (by first | (with_reducible assumption) | assumption); obtain ⟨i028, hi028, _, hsz28, _⟩ := info_parts info9; have hroom28 : x0_2.length ≤ co26 := (Kd.V_reads' HO_0.out).2.1; have hC28 : Kd.F Kd.string _ _ Ao26 x0_2.length x0_2 := (Kd.V_at (base := w.heap.size) HO_0.out).2.2; have q028 : (0 : Int) ≤ (t108 : Int) := of_decide_eq_true (by first | (with_reducible assumption) | assumption); have hcut28 := cut_from (P := Tryd.prog) 22 9 .i64 Tryd.underlying22 hi028 1 hsz28 Ao26 x0_2.length co26 t108 q028 q28; have hr28 := Kd.F_cut (m := (t108 : Int).toNat) (c := co26) hC28 (by omega) hroom28; obtain ⟨A28, hA28⟩ : ∃ A1, A1 = (if co26 = (t108 : Int).toNat then Ao26 else (Ao26 : Option Addr).map (·.add ((t108 : Int).toNat * 1))) := ⟨_, rfl⟩; obtain ⟨c28, hc28⟩ : ∃ c1, c1 = co26 - (t108 : Int).toNat := ⟨_, rfl⟩; have hy28 : y114.length = x0_2.length - (t108 : Int).toNat := (by rw [Ny114.out, List.length_drop] <;> omega); rw [show (x0_2).drop (t108 : Int).toNat = y114 from Ny114.out.symm] at hr28; replace hr28 : Kd.F Kd.string _ _ A28 y114.length y114 := (by rw [hA28]; exact hr28); rw [← hy28, ← hA28, ← hc28] at hcut28; have HO118 := Aside0.mk (show Kd.V Kd.string 9 _ w.heap.size _ (.slice A28 y114.length c28) y114 from Kd.V_mk (by rw [hy28, hc28]; exact Nat.sub_le_sub_right hroom28 _) hr28); have HC118 := Aside0.mk (show y114.length ≤ c28 from by rw [hy28, hc28]; exact Nat.sub_le_sub_right hroom28 _); clear hr28 hC28 hroom28 hi028 hsz28 hc28; have KY28 := Aside0.mk hy28; have KA28 := Aside0.mk hA28; clear hy28 hA28; replace q28 := eq_true q28) | (go_at_call 19; (with_reducible refine (digest_Root.calls _ _ y114 t123 _ ?side1 ?side2 ?side3 A24.out).mono ?_); (case side1 => repeat (first | exact (Kd.V_reads' HO118.out).2.2 | (with_reducible refine Kd.C_alloc ?_ _) | (with_reducible refine Kd.C_drewN ?_ _) | (with_reducible refine Kd.C_drew ?_))); (case side2 => exact (Kd.V_reads' HO118.out).2.1); (case side3 => exact Amb.below hG_ (by repeat (first | (with_reducible first | exact HB.out | apply below_alloc | apply pw_below_drewN | apply below_drew1) | exact HB.out))); rintro e w29 ⟨rfl, hb⟩; have n0_ := Aside0.mk (Kd.V_below (by (with_reducible repeat (first | apply Kd.V_alloc | apply Kd.V_drewN | apply Kd.V_drew)); exact HO_0.out) hb); have n1_ := Aside0.mk (Kd.R_below (by (with_reducible repeat (first | apply Kd.R_alloc | apply Kd.R_drewN | apply Kd.R_drew)); exact HO_6.out) hb); have n2_ := Aside0.mk (Kd.V_below (by (with_reducible repeat (first | apply Kd.V_alloc | apply Kd.V_drewN | apply Kd.V_drew)); exact HO113.out) hb); have n3_ := Aside0.mk (Kd.V_below (by (with_reducible repeat (first | apply Kd.V_alloc | apply Kd.V_drewN | apply Kd.V_drew)); exact HO118.out) hb); have n4_ := Aside0.mk (below_step (by repeat (first | (with_reducible first | exact HB.out | apply below_alloc | apply pw_below_drewN | apply below_drew1) | exact HB.out)) hb); clear HO_0; clear HO_6; clear HO113; clear HO118; clear HB; have HO_0 := n0_; have HO_6 := n1_; have HO113 := n2_; have HO118 := n3_; have HB := n4_; clear n0_ n1_ n2_ n3_ n4_; (try clear hb); (try clear hb2); (try clear hk); (try clear hi)) | ((with_reducible refine gate_builtin (b := .append) (xs := #[.tmp 38, .tmp 41]) rfl ?_); (try (refine gate_guard (by rfl) ?_; dsimp only)); at_builtin; refine Kd.R_append Kd.string (w0 := w) w.heap.size rfl (.tmp 38) (.tmp 41) 22 9 (.string ⟨#[]⟩) 16 rfl Tryd.underlying22 info9 rfl (by decide) (by omega) u6 x6_2 t123 [.string t123] (fun k_ => (w.heap.size ≤ k_)) (fun _ => False) rfl rfl ?aP (fun _ hk => hk.elim) ?aF ?aO ?aB ?aS ?aL ?_; (case aP => exact rfl); (case aB => exact (by repeat (first | (with_reducible first | exact HB.out | apply below_alloc | apply pw_below_drewN | apply below_drew1) | exact HB.out))); (case aF => exact (fun k_ hk => (Nat.le_trans (below_size (by repeat (first | (with_reducible first | exact HB.out | apply below_alloc | apply pw_below_drewN | apply below_drew1) | exact HB.out))) hk))); (case aO => exact (by (with_reducible repeat (first | apply Kd.R_alloc | apply Kd.R_drewN | apply Kd.R_drew)); exact HO_6.out)); (case aS => exact (below_size (by repeat (first | (with_reducible first | exact HB.out | apply below_alloc | apply pw_below_drewN | apply below_drew1) | exact HB.out)))); (case aL => have := LMc25.out; omega); intro v125 w30 ho hb hg hat; rw [← Ny124.out] at ho; have n0_ := Aside0.mk (Kd.V_afterv (ok := (fun k_ => (P0_ k_ ∨ w.heap.size ≤ k_))) (by (with_reducible repeat (first | apply Kd.V_alloc | apply Kd.V_drewN | apply Kd.V_drew)); exact HO_0.out) hg hat); have n1_ := Aside0.mk (Kd.V_afterv (ok := (fun k_ => (P0_ k_ ∨ w.heap.size ≤ k_))) (by (with_reducible repeat (first | apply Kd.V_alloc | apply Kd.V_drewN | apply Kd.V_drew)); exact HO113.out) hg hat); have n2_ := Aside0.mk (Kd.V_afterv (ok := (fun k_ => (P0_ k_ ∨ w.heap.size ≤ k_))) (by (with_reducible repeat (first | apply Kd.V_alloc | apply Kd.V_drewN | apply Kd.V_drew)); exact HO118.out) hg hat); have n3_ := Aside0.mk (hb); have n4_ := Aside0.mk (ho); clear HO_0; clear HO113; clear HO118; clear HB; clear HO_6; have HO_0 := n0_; have HO113 := n1_; have HO118 := n2_; have HB := n3_; have HO126 := n4_; clear n0_ n1_ n2_ n3_ n4_; clear ho hb hg hat)); try go_wp2_with (first | (go_at_call 40; (with_reducible refine (digest_left.calls (x0_2.length : Int) t108 _ A11.out).mono ?_); rintro e w' ⟨rfl, ⟨nd, rfl⟩⟩; (try first | exact ⟨rfl, _, World.drewN_drewN _ _ _⟩ | exact ⟨rfl, _, Eq.trans (World.drewN_drewN _ _ _) (congrArg (World.drewN _) (Nat.add_assoc _ _ _))⟩); have q27 : (t108 : Int) ≤ ((x0_2.length : Int) : Int) := of_decide_eq_true (by first | (with_reducible assumption) | assumption); obtain ⟨i027, hi027, _, hsz27, _⟩ := info_parts info9; have hroom27 : x0_2.length ≤ co26 := (Kd.V_reads' HO_0.out).2.1; have hC27 : Kd.F Kd.string _ _ Ao26 x0_2.length x0_2 := (Kd.V_at (base := w.heap.size) HO_0.out).2.2; have hcut27 := cut_to (P := Tryd.prog) 22 9 .i64 Tryd.underlying22 hi027 Ao26 x0_2.length co26 t108 (of_decide_eq_true (by first | (with_reducible assumption) | assumption)) q27 hroom27; have hr27 := Kd.F_take (m := (t108 : Int).toNat) hC27 (by omega); have hy27 : y109.length = (t108 : Int).toNat := (by rw [Ny109.out, List.length_take]; omega); rw [← Ny109.out] at hr27; rw [← hy27] at hcut27; have HO113 := Aside0.mk (show Kd.V Kd.string 9 _ w.heap.size _ (.slice Ao26 y109.length co26) y109 from Kd.V_mk (by omega) hr27); have HC113 := Aside0.mk (show y109.length ≤ co26 from by omega); clear hr27 hC27 hroom27 hi027 hsz27; have KY27 := Aside0.mk hy27; clear hy27; replace q27 := eq_true q27; have q28 : (t108 : Int) ≤ ((x0_2.length : Int) : Int) := of_decide_eq_true (by first | (with_reducible assumption) | assumption); obtain ⟨i028, hi028, _, hsz28, _⟩ := info_parts info9; have hroom28 : x0_2.length ≤ co26 := (Kd.V_reads' HO_0.out).2.1; have hC28 : Kd.F Kd.string _ _ Ao26 x0_2.length x0_2 := (Kd.V_at (base := w.heap.size) HO_0.out).2.2; have q028 : (0 : Int) ≤ (t108 : Int) := of_decide_eq_true (by first | (with_reducible assumption) | assumption); have hcut28 := cut_from (P := Tryd.prog) 22 9 .i64 Tryd.underlying22 hi028 1 hsz28 Ao26 x0_2.length co26 t108 q028 q28; have hr28 := Kd.F_cut (m := (t108 : Int).toNat) (c := co26) hC28 (by omega) hroom28; obtain ⟨A28, hA28⟩ : ∃ A1, A1 = (if co26 = (t108 : Int).toNat then Ao26 else (Ao26 : Option Addr).map (·.add ((t108 : Int).toNat * 1))) := ⟨_, rfl⟩; obtain ⟨c28, hc28⟩ : ∃ c1, c1 = co26 - (t108 : Int).toNat := ⟨_, rfl⟩; have hy28 : y114.length = x0_2.length - (t108 : Int).toNat := (by rw [Ny114.out, List.length_drop] <;> omega); rw [show (x0_2).drop (t108 : Int).toNat = y114 from Ny114.out.symm] at hr28; replace hr28 : Kd.F Kd.string _ _ A28 y114.length y114 := (by rw [hA28]; exact hr28); rw [← hy28, ← hA28, ← hc28] at hcut28; have HO118 := Aside0.mk (show Kd.V Kd.string 9 _ w.heap.size _ (.slice A28 y114.length c28) y114 from Kd.V_mk (by rw [hy28, hc28]; exact Nat.sub_le_sub_right hroom28 _) hr28); have HC118 := Aside0.mk (show y114.length ≤ c28 from by rw [hy28, hc28]; exact Nat.sub_le_sub_right hroom28 _); clear hr28 hC28 hroom28 hi028 hsz28 hc28; have KY28 := Aside0.mk hy28; have KA28 := Aside0.mk hA28; clear hy28 hA28; replace q28 := eq_true q28) | (go_at_call 19; (with_reducible refine (digest_Root.calls _ _ y114 t123 _ ?side1 ?side2 ?side3 A24.out).mono ?_); (case side1 => repeat (first | exact (Kd.V_reads' HO118.out).2.2 | (with_reducible refine Kd.C_alloc ?_ _) | (with_reducible refine Kd.C_drewN ?_ _) | (with_reducible refine Kd.C_drew ?_))); (case side2 => exact (Kd.V_reads' HO118.out).2.1); (case side3 => exact Amb.below hG_ (by repeat (first | (with_reducible first | exact HB.out | apply below_alloc | apply pw_below_drewN | apply below_drew1) | exact HB.out))); rintro e w29 ⟨rfl, hb⟩; have n0_ := Aside0.mk (Kd.V_below (by (with_reducible repeat (first | apply Kd.V_alloc | apply Kd.V_drewN | apply Kd.V_drew)); exact HO_0.out) hb); have n1_ := Aside0.mk (Kd.R_below (by (with_reducible repeat (first | apply Kd.R_alloc | apply Kd.R_drewN | apply Kd.R_drew)); exact HO_6.out) hb); have n2_ := Aside0.mk (Kd.V_below (by (with_reducible repeat (first | apply Kd.V_alloc | apply Kd.V_drewN | apply Kd.V_drew)); exact HO113.out) hb); have n3_ := Aside0.mk (Kd.V_below (by (with_reducible repeat (first | apply Kd.V_alloc | apply Kd.V_drewN | apply Kd.V_drew)); exact HO118.out) hb); have n4_ := Aside0.mk (below_step (by repeat (first | (with_reducible first | exact HB.out | apply below_alloc | apply pw_below_drewN | apply below_drew1) | exact HB.out)) hb); clear HO_0; clear HO_6; clear HO113; clear HO118; clear HB; have HO_0 := n0_; have HO_6 := n1_; have HO113 := n2_; have HO118 := n3_; have HB := n4_; clear n0_ n1_ n2_ n3_ n4_; (try clear hb); (try clear hb2); (try clear hk); (try clear hi)) | ((with_reducible refine gate_builtin (b := .append) (xs := #[.tmp 38, .tmp 41]) rfl ?_); (try (refine gate_guard (by rfl) ?_; dsimp only)); at_builtin; refine Kd.R_append Kd.string (w0 := w) w.heap.size rfl (.tmp 38) (.tmp 41) 22 9 (.string ⟨#[]⟩) 16 rfl Tryd.underlying22 info9 rfl (by decide) (by omega) u6 x6_2 t123 [.string t123] (fun k_ => (w.heap.size ≤ k_)) (fun _ => False) rfl rfl ?aP (fun _ hk => hk.elim) ?aF ?aO ?aB ?aS ?aL ?_; (case aP => exact rfl); (case aB => exact (by repeat (first | (with_reducible first | exact HB.out | apply below_alloc | apply pw_below_drewN | apply below_drew1) | exact HB.out))); (case aF => exact (fun k_ hk => (Nat.le_trans (below_size (by repeat (first | (with_reducible first | exact HB.out | apply below_alloc | apply pw_below_drewN | apply below_drew1) | exact HB.out))) hk))); (case aO => exact (by (with_reducible repeat (first | apply Kd.R_alloc | apply Kd.R_drewN | apply Kd.R_drew)); exact HO_6.out)); (case aS => exact (below_size (by repeat (first | (with_reducible first | exact HB.out | apply below_alloc | apply pw_below_drewN | apply below_drew1) | exact HB.out)))); (case aL => have := LMc25.out; omega); intro v125 w30 ho hb hg hat; rw [← Ny124.out] at ho; have n0_ := Aside0.mk (Kd.V_afterv (ok := (fun k_ => (P0_ k_ ∨ w.heap.size ≤ k_))) (by (with_reducible repeat (first | apply Kd.V_alloc | apply Kd.V_drewN | apply Kd.V_drew)); exact HO_0.out) hg hat); have n1_ := Aside0.mk (Kd.V_afterv (ok := (fun k_ => (P0_ k_ ∨ w.heap.size ≤ k_))) (by (with_reducible repeat (first | apply Kd.V_alloc | apply Kd.V_drewN | apply Kd.V_drew)); exact HO113.out) hg hat); have n2_ := Aside0.mk (Kd.V_afterv (ok := (fun k_ => (P0_ k_ ∨ w.heap.size ≤ k_))) (by (with_reducible repeat (first | apply Kd.V_alloc | apply Kd.V_drewN | apply Kd.V_drew)); exact HO118.out) hg hat); have n3_ := Aside0.mk (hb); have n4_ := Aside0.mk (ho); clear HO_0; clear HO113; clear HO118; clear HB; clear HO_6; have HO_0 := n0_; have HO113 := n1_; have HO118 := n2_; have HB := n3_; have HO126 := n4_; clear n0_ n1_ n2_ n3_ n4_; clear ho hb hg hat)))
           go_roundg k2
           case measure => have := HJ2.out; have := HK2.out; omega
           case rel => exact ⟨(y109), (x1_2), (y124), (by first | rfl | (simp; done) | (simp [*]; done)), H', ⟨by have := HJ2.out; have := HK2.out; omega⟩, ⟨by (with_reducible repeat (first | apply Kd.V_alloc | apply Kd.V_drewN | apply Kd.V_drew)); exact HO113.out⟩, ⟨by (with_reducible repeat (first | apply Kd.R_alloc | apply Kd.R_drewN | apply Kd.R_drew)); exact HO126.out⟩, ⟨by repeat (first | (with_reducible first | exact HB.out | apply below_alloc | apply pw_below_drewN | apply below_drew1) | exact HB.out)⟩⟩
          ·rw [if_neg c25] at H
           exact absurd H (by simp)
        ·rw [if_neg c13] at H
         exact absurd H (by simp)
       ·rw [if_neg c12] at H
        exact absurd H (by simp)

end Go.Proofs.YtjkdenldddjcnaaDoor.Df

set_option linter.unusedVariables false
set_option linter.unusedSimpArgs false
namespace Go.Proofs.YtjkdenldddjcnaaDoor.Sha
open Go Go.RowKit Go.Shelf Go.Proofs.YtjkdenldddjcnaaDoorW.PrintWords Go.Proofs.YtjkdenldddjcnaaDoorW.PrintLast Go.Proofs.YtjkdenldddjcnaaDoorW.PrintMore

def digits : ByteArray := ⟨#[48, 49, 50, 51, 52, 53, 54, 55, 56, 57, 97, 98, 99, 100, 101, 102]⟩
def hexT : List UInt8 → ByteArray → ByteArray
 | [], out => out
 | b :: l, out => hexT l (out ++ digits.extract (b.toNat / 16) (b.toNat / 16 + 1) ++ digits.extract (b.toNat % 16) (b.toNat % 16 + 1))
theorem hexT_snoc : ∀ (l : List UInt8) (b : UInt8) (out : ByteArray), hexT (l ++ [b]) out = hexT l out ++ digits.extract (b.toNat / 16) (b.toNat / 16 + 1) ++ digits.extract (b.toNat % 16) (b.toNat % 16 + 1)
 | [], b, out => rfl
 | c :: l, b, out => by rw [List.cons_append, hexT, hexT, hexT_snoc l b]
def clearwaylaw02_hex.f (a0 : ByteArray) : Option ByteArray := if a0.size ≤ 1000000 then some (hexT a0.data.toList ⟨#[]⟩) else none
theorem digits_size (i : Nat) (h : i < 16) : (digits.extract i (i + 1)).size = 1 := by
 rw [ByteArray.size_extract]
 show min (i + 1) 16 - i = 1
 omega
theorem hexT_size : ∀ (l : List UInt8) (out : ByteArray), (hexT l out).size = out.size + 2 * l.length
 | [], out => by simp [hexT]
 | b :: l, out => by
  rw [hexT, hexT_size l, ByteArray.size_append, ByteArray.size_append, digits_size _ (by have := b.toNat_lt; omega), digits_size _ (by omega)]
  simp
  omega
set_option maxHeartbeats 2000000 in
set_option maxRecDepth 100000 in
theorem clearwaylaw02_hex.calls (a0 : ByteArray) (r : ByteArray) (w : World) (h : clearwaylaw02_hex.f a0 = some r) :
  Calls Tryd.prog 39 #[.string a0] w fun e w' => e = .returned (.string r) ∧ Drawn0 w w' := by
 unfold clearwaylaw02_hex.f at h
 by_cases hs : a0.size ≤ 1000000
 ·rw [if_pos hs] at h
  have hr := Aside0.mk (Option.some.inj h)
  clear h
  go_enter Tryd.func39, Tryd.ntmps39
  go_wp2_with fail
  obtain ⟨n, hn⟩ : ∃ n, a0.size = n := ⟨_, rfl⟩
  replace hn := Aside0.mk hn
  go_loopw [3, 4] (fun v3 v w' => ∃ i : Nat, v = .int .i64 i ∧ i ≤ a0.size ∧ Aside0 (v3 = .string (hexT (a0.data.toList.take i) ⟨#[]⟩)) ∧ Drawn0 w w') (fun _ v _ => a0.size - (intOf v).toNat)
  case atStart => exact ⟨0, rfl, by omega, ⟨rfl⟩, Drawn0.refl _⟩
  case round =>
   obtain ⟨i, rfl, hi, hv, hd⟩ := hrel
   by_cases h1 : i < a0.size
   ·have e1 : decide ((i : Int) < (a0.size : Int)) = true := decide_eq_true (by omega)
    obtain ⟨b, hb⟩ : ∃ b, a0.data.toList[i]? = some b := ⟨_, List.getElem?_eq_getElem (by rw [Array.length_toList]; exact h1)⟩
    obtain ⟨out, hout⟩ : ∃ out, hexT (a0.data.toList.take i) ⟨#[]⟩ = out := ⟨_, rfl⟩
    have hv' := hv.out
    rw [hout] at hv'
    subst hv'
    have hos : out.size = 2 * i := by
     rw [← hout, hexT_size, List.length_take, Array.length_toList]
     show 0 + 2 * min i a0.size = _
     omega
    have p0 : 0 ≤ (i : Int) := by omega
    have q0 : (i : Int) < (a0.size : Int) := by omega
    obtain ⟨c, hc⟩ : ∃ c, b.toNat = c := ⟨_, rfl⟩
    have hc256 : c < 256 := by rw [← hc]; exact b.toNat_lt
    have hg : ((a0[i]'h1).toNat : Nat) = c := by
     rw [← hc]
     congr 1
     have := (List.getElem?_eq_some_iff.1 hb).2
     rw [← this]
     rfl
    obtain ⟨d, hd1⟩ : ∃ d, c / 16 = d := ⟨_, rfl⟩
    obtain ⟨d', hd2⟩ : ∃ d', d + 1 = d' := ⟨_, rfl⟩
    obtain ⟨m, hm1⟩ : ∃ m, c % 16 = m := ⟨_, rfl⟩
    obtain ⟨m', hm2⟩ : ∃ m', m + 1 = m' := ⟨_, rfl⟩
    have f1 : IntKind.u8.wrap ((c : Int) / 16) = (d : Int) := by rw [show (c : Int) / 16 = (d : Int) by omega]; simp [IntKind.wrap, IntKind.signed, IntKind.bits]; omega
    have f2 : IntKind.u8.wrap ((d : Int) + 1) = (d' : Int) := by simp [IntKind.wrap, IntKind.signed, IntKind.bits]; omega
    have f3 : (c : Int).tmod 16 = (m : Int) := by rw [Int.tmod_eq_emod_of_nonneg (by omega)]; omega
    have f4 : IntKind.u8.wrap (m : Int) = (m : Int) := by simp [IntKind.wrap, IntKind.signed, IntKind.bits]; omega
    have f5 : IntKind.u8.wrap ((m : Int) + 1) = (m' : Int) := by simp [IntKind.wrap, IntKind.signed, IntKind.bits]; omega
    have g1 : ((d : Int) ≤ (d' : Int)) = True := eq_true (by omega)
    have g2 : ((d' : Int) ≤ 16) = True := eq_true (by omega)
    have g3 : ((m : Int) ≤ (m' : Int)) = True := eq_true (by omega)
    have g4 : ((m' : Int) ≤ 16) = True := eq_true (by omega)
    have g5 : (d ≤ d') = True := eq_true (by omega)
    have g6 : (d' ≤ 16) = True := eq_true (by omega)
    have g7 : (m ≤ m') = True := eq_true (by omega)
    have g8 : (m' ≤ 16) = True := eq_true (by omega)
    obtain ⟨u1, hu1⟩ : ∃ u, digits.extract d d' = u := ⟨_, rfl⟩
    obtain ⟨u2, hu2⟩ : ∃ u, digits.extract m m' = u := ⟨_, rfl⟩
    have hu1s : u1.size = 1 := by rw [← hu1, ← hd2]; exact digits_size d (by omega)
    have hu2s : u2.size = 1 := by rw [← hu2, ← hm2]; exact digits_size m (by omega)
    have l1 : (9223372036854775807 < out.size + u1.size) = False := eq_false (by omega)
    have l2 : (9223372036854775807 < (out ++ u1).size + u2.size) = False := eq_false (by rw [ByteArray.size_append]; omega)
    have l3 : (9223372036854775807 < out.size + u1.size + u2.size) = False := eq_false (by omega)
    have hu1' := hu1
    have hu2' := hu2
    unfold digits at hu1' hu2'
    have htk : a0.data.toList.take (i + 1) = a0.data.toList.take i ++ [b] := by rw [List.take_add_one, hb]; rfl
    have hnx : hexT (a0.data.toList.take (i + 1)) ⟨#[]⟩ = out ++ u1 ++ u2 := by
     rw [htk, hexT_snoc, hout, hc, hd1, hd2, hm1, hm2, hu1, hu2]
    replace hnx := Aside0.mk hnx
    clear htk hu1 hu2 hb hc hout hd1 hd2 hm1 hm2
    clear hos hu1s hu2s
    replace p0 := eq_true p0
    replace q0 := eq_true q0
    go_upto_region 5 with (fail)
    go_quiet (fail)
    have k1 : IntKind.i64.wrap ((i : Int) + 1) = ((i + 1 : Nat) : Int) := by rw [IntKind.wrap_i64]; omega
    go_wp2
    refine ⟨⟨i + 1, by simp, by omega, ⟨by rw [hnx.out]⟩, ?_⟩, ?_⟩
    ·exact hd.step nq
    ·simp only [intOf]
     omega
   ·have ei : i = a0.size := by omega
    subst ei
    have e1 : decide ((a0.size : Int) < (a0.size : Int)) = false := decide_eq_false (by omega)
    have hv' := hv.out
    rw [List.take_of_length_le (by rw [Array.length_toList]; exact Nat.le_refl _), hr.out] at hv'
    subst hv'
    go_wp2
    go_ret
    exact ⟨rfl, hd⟩
 ·rw [if_neg hs] at h
  cases h
end Go.Proofs.YtjkdenldddjcnaaDoor.Sha

set_option linter.unusedVariables false
set_option linter.unusedSimpArgs false
namespace Go.Proofs.YtjkdenldddjcnaaDoor.Sha
open Go Go.RowKit Go.Shelf Go.Proofs.YtjkdenldddjcnaaDoorW.PrintWords Go.Proofs.YtjkdenldddjcnaaDoorW.PrintLast Go.Proofs.YtjkdenldddjcnaaDoorW.PrintMore

theorem index_calls (A0 : Option Addr) (c0 : Nat) (l : List ByteArray) (w : World) (hr0 : Kd.C Kd.string w A0 l.length l) (hn : l.length ≤ 9223372036854775807) :
  Calls Tryd.prog 73 #[.slice A0 l.length c0, .func (.func 61) #[] #[]] w fun e w' => ∃ r : Int, e = .returned (.int .i64 r) ∧ decide (0 ≤ r) = l.any (fun s => !((s.size : Int) == 32)) ∧ w' = w := by
 have HR0 := Aside0.mk hr0
 clear hr0
 obtain ⟨n0, hn0⟩ : ∃ n0, l.length = n0 := ⟨_, rfl⟩
 rw [hn0] at HR0 hn ⊢
 replace hn0 := Aside0.mk hn0
 go_enter Tryd.func73, Tryd.ntmps73
 go_upto_region 2 with (fail)
 go_loopw [8] (fun v w' => ∃ i : Nat, v = .int .i64 i ∧ i ≤ n0 ∧ Aside0 ((l.take i).any (fun s => !((s.size : Int) == 32)) = false) ∧ w' = w) (fun v _ => n0 - (intOf v).toNat)
 case atStart => exact ⟨0, rfl, by omega, ⟨by simp⟩, rfl⟩
 case round =>
  obtain ⟨i, rfl, hi, ha, hw⟩ := hrel
  subst hw
  by_cases h1 : i < n0
  ·have e1 : decide ((i : Int) < (n0 : Int)) = true := decide_eq_true (by omega)
   have p0 : 0 ≤ (i : Int) := by omega
   have q0 : (i : Int) < (n0 : Int) := by omega
   obtain ⟨ad, ea, hx⟩ := Kd.at_string HR0.out (i : Int) p0 q0
   cases ea
   replace p0 := eq_true p0
   replace q0 := eq_true q0
   obtain ⟨x, hxl⟩ : ∃ x, l[i]? = some x := ⟨_, List.getElem?_eq_getElem (by rw [hn0.out]; exact h1)⟩
   have hx1 : rdOf ByteArray.empty l (i : Int) = x := by
    unfold rdOf
    simp [hxl]
   rw [hx1, show ((i : Int)).toNat = i by omega] at hx
   have htk : l.take (i + 1) = l.take i ++ [x] := by rw [List.take_add_one, hxl]; rfl
   replace htk := Aside0.mk htk
   replace hxl := Aside0.mk hxl
   have k1 : IntKind.i64.wrap ((i : Int) + 1) = ((i + 1 : Nat) : Int) := by rw [IntKind.wrap_i64]; omega
   by_cases h2 : (x.size : Int) = 32
   ·have d1 : ((x.size : Int) == 32) = true := beq_iff_eq.mpr h2
    clear h2
    go_wp2
    refine ⟨⟨i + 1, by simp, by omega, ⟨by rw [htk.out, List.any_append, ha.out]; simp [d1]⟩, trivial⟩, ?_⟩
    simp only [intOf]
    omega
   ·have d1 : ((x.size : Int) == 32) = false := beq_eq_false_iff_ne.mpr h2
    clear h2
    go_wp2
    go_ret
    refine ⟨_, rfl, ?_, rfl⟩
    have : l.any (fun s => !((s.size : Int) == 32)) = true := by
     rw [List.any_eq_true]
     exact ⟨x, List.mem_of_getElem? hxl.out, by simp [d1]⟩
    rw [this]
    exact decide_eq_true (by omega)
  ·have ei : i = n0 := by omega
   subst ei
   have e1 : decide ((i : Int) < (i : Int)) = false := decide_eq_false (by omega)
   go_wp2
   go_ret
   refine ⟨_, rfl, ?_, rfl⟩
   have := ha.out
   rw [List.take_of_length_le (by rw [hn0.out]; exact Nat.le_refl _)] at this
   rw [this]
   rfl
def digest_all.f (l0 : List ByteArray) : Option Bool := some (l0.all (fun s => (s.size : Int) == 32))
theorem digest_all.calls (A0 : Option Addr) (c0 : Nat) (l0 : List ByteArray) (r : Bool) (w : World) (hr0 : Kd.C Kd.string w A0 l0.length l0) (hc0 : l0.length ≤ c0) (h : digest_all.f l0 = some r) :
  Calls Tryd.prog 45 #[.slice A0 l0.length c0] w fun e w' => e = .returned (.bool r) ∧ Drawn0 w w' := by
 have hr : r = l0.all (fun s => (s.size : Int) == 32) := (Option.some.inj h).symm
 have hr2 : r = !(l0.any (fun s => !((s.size : Int) == 32))) := by rw [hr]; simp [List.all_eq_not_any_not]
 clear h hr
 go_enter Tryd.func45, Tryd.ntmps45
 go_wp2_with (first
  | (go_at_call 73; refine (index_calls A0 c0 l0 _ hr0 hr0.2.1).mono ?_; rintro e w' ⟨z, rfl, hz, rfl⟩)
  | go_in)
 go_ret
 exact ⟨by rw [hr2]; rfl, Drawn0.refl _⟩
end Go.Proofs.YtjkdenldddjcnaaDoor.Sha

set_option linter.unusedVariables false
set_option linter.unusedSimpArgs false
namespace Go.Proofs.YtjkdenldddjcnaaDoor.Sha
open Go Go.RowKit Go.Shelf Go.Proofs.YtjkdenldddjcnaaDoorW.PrintWords Go.Proofs.YtjkdenldddjcnaaDoorW.PrintLast Go.Proofs.YtjkdenldddjcnaaDoorW.PrintMore

theorem take_nil (A : Option Addr) (c : Nat) (w : World) :
  Calls Tryd.prog 46 #[.slice A 0 c] w fun e w' => (e = .returned (.tuple #[.string ⟨#[]⟩, .slice none 0 0, .bool false])) ∧ Drawn0 w w' := by
 go_enter Tryd.func46, Tryd.ntmps46
 go_wp2
 go_ret3
 exact ⟨rfl, Drawn0.refl _⟩
theorem take_snoc (A : Option Addr) (c : Nat) (l : List ByteArray) (x : ByteArray) (w : World) (hr0 : Kd.C Kd.string w A (l ++ [x]).length (l ++ [x])) (hc : l.length + 1 ≤ c) :
  Calls Tryd.prog 46 #[.slice A (l.length + 1) c] w fun e w' => (e = .returned (.tuple #[.string x, .slice A l.length c, .bool true])) ∧ Drawn0 w w' := by
 have HR0 := Aside0.mk hr0
 have hbig : l.length + 1 ≤ 9223372036854775807 := by have := hr0.2.1; simp at this; omega
 clear hr0
 obtain ⟨m, hm⟩ : ∃ m, l.length = m := ⟨_, rfl⟩
 obtain ⟨n, hn⟩ : ∃ n, l.length + 1 = n := ⟨_, rfl⟩
 have hmn : m + 1 = n := by omega
 have hln : (l ++ [x]).length = n := by simp; omega
 rw [hln] at HR0
 rw [hn] at hbig hc ⊢
 rw [hm]
 have p0 : 0 ≤ (m : Int) := by omega
 have q0 : (m : Int) < (n : Int) := by omega
 obtain ⟨ad, ea, hx⟩ := Kd.at_string HR0.out (m : Int) p0 q0
 cases ea
 have hx1 : rdOf ByteArray.empty (l ++ [x]) (m : Int) = x := by
  unfold rdOf
  simp [List.getD_eq_getElem?_getD, ← hm]
 rw [hx1, show ((m : Int)).toNat = m by omega] at hx
 have k1 : IntKind.i64.wrap ((n : Int) - 1) = (m : Int) := by rw [IntKind.wrap_i64]; omega
 have d1 : ((n : Int) == 0) = false := beq_eq_false_iff_ne.mpr (by omega)
 have x3 : ((m : Int) ≤ (c : Int)) = True := eq_true (by omega)
 have z3 : (m ≤ c) = True := eq_true (by omega)
 replace p0 := eq_true p0
 replace q0 := eq_true q0
 have y1 : IntKind.i64.wrap (m : Int) = (m : Int) := by rw [IntKind.wrap_i64]; omega
 have z1 : (m < n) = True := eq_true (by omega)
 replace hm := Aside0.mk hm
 replace hn := Aside0.mk hn
 replace hmn := Aside0.mk hmn
 replace hln := Aside0.mk hln
 clear hx1
 go_enter Tryd.func46, Tryd.ntmps46
 go_upto_region 4 with (fail)
 go_quiet (fail)
 go_wp2
 go_ret3
 exact ⟨rfl, (Drawn0.refl _).step _⟩
def joinF (p : ByteArray × Bool) (out : ByteArray) : ByteArray := if p.2 = true then nodeF p.1 out else nodeF out p.1
theorem joinF_size (p : ByteArray × Bool) (out : ByteArray) : (joinF p out).size = 32 := by
 unfold joinF
 split
 ·exact node_size _ _
 ·exact node_size _ _
theorem side_join_calls (x : ByteArray) (f : Bool) (out : ByteArray) (w : World) (hr : Amb w) (hs : x.size + out.size ≤ 549755813888) :
  Calls Tryd.prog 48 #[.agg #[.string x, .bool f], .string out] w fun e w' => e = .returned (.string (joinF (x, f) out)) ∧ Below w.heap.size w w' := by
 have bel : Below w.heap.size w (w.alloc (Obj.cells #[Value.string x, Value.bool f] 58)) := below_alloc (Below.refl _ _) _
 have hr2 : Amb (w.alloc (Obj.cells #[Value.string x, Value.bool f] 58)) := hr.below bel
 cases f
 ·go_enter Tryd.func48, Tryd.ntmps48
  go_wp2_with (go_at_call 32; refine (node_calls _ _ _ hr2 (by omega)).mono ?_; rintro e w' ⟨rfl, hb⟩)
  go_ret
  exact ⟨rfl, bel.trans (hb.mono (by simp))⟩
 ·go_enter Tryd.func48, Tryd.ntmps48
  go_wp2_with (go_at_call 32; refine (node_calls _ _ _ hr2 (by omega)).mono ?_; rintro e w' ⟨rfl, hb⟩)
  go_ret
  exact ⟨rfl, bel.trans (hb.mono (by simp))⟩
/-- Steps as cells. -/
def flat : List (ByteArray × Bool) → List Value
 | [] => []
 | p :: l => .string p.1 :: .bool p.2 :: flat l
theorem flat_append : ∀ (a b : List (ByteArray × Bool)), flat (a ++ b) = flat a ++ flat b
 | [], b => rfl
 | p :: a, b => by simp [flat, flat_append a b]
theorem flat_get : ∀ (l : List (ByteArray × Bool)) (j : Nat) (x : ByteArray × Bool), l[j]? = some x → (flat l)[j * 2]? = some (.string x.1) ∧ (flat l)[j * 2 + 1]? = some (.bool x.2)
 | [], j, x, h => by simp at h
 | p :: l, 0, x, h => by
  simp at h
  subst h
  exact ⟨rfl, rfl⟩
 | p :: l, j + 1, x, h => by
  have := flat_get l j x (by simpa using h)
  simpa [flat, Nat.succ_mul] using this
theorem info58 : (Tryd.prog.info? 58).map (fun i => (i.zero, i.size, i.bytes)) = some (some (.agg #[.string ⟨#[]⟩, .bool false]), 2, 24) := by kernel_rfl
theorem own_at2 {w : World} {base : Nat} {e : TypeId} {g n cap : Nat} {xs : List Value} (h : w.ownsRow base e 2 (.slice (some ⟨g, 0, none⟩) n cap) n xs) (j : Nat) (u : Value) (hu : xs[j]? = some u) : w.cell? ⟨g, j, none⟩ = some u := by
 have := h.cells (g := g) rfl j u hu
 have hadd : (⟨g, 0, none⟩ : Addr).add j = ⟨g, j, none⟩ := by unfold Addr.add; split <;> simp_all
 rwa [hadd] at this
theorem own_keep2 {w W : World} {base : Nat} {e : TypeId} {v : Value} {n : Nat} {xs : List Value} (h : w.ownsRow base e 2 v n xs) (hb : Below w.heap.size w W) : W.ownsRow base e 2 v n xs :=
 h.kept (row := none) ⟨hb.os, hb.tape, hb.output, hb.size, fun k hk _ => hb.block k hk⟩ (by cases hv : v.ownBlock <;> simp)
theorem two_of_block {w : World} {x y : Value} {t : TypeId} : ∀ j u, [x, y][j]? = some u → (w.alloc (.cells #[x, y] t)).cell? ((⟨w.heap.size, 0, none⟩ : Addr).add j) = some u := by
 intro j u hj
 have hadd : (⟨w.heap.size, 0, none⟩ : Addr).add j = ⟨w.heap.size, j, none⟩ := by unfold Addr.add; split <;> simp_all
 rw [hadd]
 have h : (w.alloc (.cells #[x, y] t)).heap[w.heap.size]? = some (.cells #[x, y] t (0, 0)) := heap_alloc_new ..
 match j, hj with
 | 0, hj =>
  simp only [World.cell?, h]
  simpa using hj
 | 1, hj =>
  simp only [World.cell?, h]
  simpa using hj
theorem pow_bitLen (f : Nat) : ∀ x, 0 < x → x < 2 ^ f → 2 ^ (Lib.bitLenAux f x - 1) ≤ x := by
 induction f with
 | zero => intro x h0 h; simp at h; omega
 | succ f ih =>
  intro x h0 h
  unfold Lib.bitLenAux
  rw [if_neg (by omega)]
  by_cases h2 : x / 2 = 0
  ·have : Lib.bitLenAux f (x / 2) = 0 := by rw [h2]; cases f <;> simp [Lib.bitLenAux]
   rw [this]
   exact h0
  ·have h3 := ih (x / 2) (by omega) (by rw [Nat.pow_succ] at h; omega)
   obtain ⟨b, hb⟩ : ∃ b, Lib.bitLenAux f (x / 2) = b := ⟨_, rfl⟩
   rw [hb] at h3 ⊢
   cases b with
   | zero => exact h0
   | succ b =>
    simp only [Nat.add_sub_cancel] at h3
    rw [show 1 + (b + 1) - 1 = b + 1 by omega, Nat.pow_succ]
    omega
theorem leftN_lt (n : Nat) (h : 2 ≤ n) (h2 : n ≤ 9223372036854775807) : 1 ≤ leftN n ∧ leftN n < n := by
 unfold leftN
 have h3 := pow_bitLen 64 (n - 1) (by omega) (by omega)
 refine ⟨Nat.one_le_two_pow, ?_⟩
 show 2 ^ (Lib.bitLenAux 64 (n - 1) - 1) < n
 omega
end Go.Proofs.YtjkdenldddjcnaaDoor.Sha

namespace Go.Proofs.YtjkdenldddjcnaaDoor.Df
open Go.RowKit Go.Proofs.YtjkdenldddjcnaaDoor.Sha Go.Proofs.YtjkdenldddjcnaaDoorW.PrintWords Go.Proofs.YtjkdenldddjcnaaDoorW.PrintLast Go.Proofs.YtjkdenldddjcnaaDoorW.PrintMore
attribute [local go_sem] max2_int min2_int max_two min_two max_three min_three max_four min_four   -- for this text's walks alone
set_option linter.unusedVariables false
set_option linter.unusedSimpArgs false

/-! ### clearwaylaw02_collide: function 27 -/
end Go.Proofs.YtjkdenldddjcnaaDoor.Df

