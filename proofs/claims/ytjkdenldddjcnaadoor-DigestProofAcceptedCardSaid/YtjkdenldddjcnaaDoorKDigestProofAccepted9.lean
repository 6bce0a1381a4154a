/- digest.marked's closure, Leaf, Node, Chain: the digest behind a mark. digest.marked's closure, Leaf, Node, Chain: the digest behind a mark. Conditions: the string is at most 2^40 bytes. Sum, Leaf, Node, Chain and left as the printed texts name them. Conditions: strings of at most 2^39 bytes; a number from 2 on. The contracts of functions, written by this session's program (wip/pp.py): what the list functions answer, the code comes to. No condition. digest.Root's drawing regions that append, each a theorem. Root's walk: the stack of complete parts, and the digest that it leads to. Conditions: at most 1,000,000 entries of at most 2^39 bytes. digest.all's walk: whether all strings of a list are 32 bytes long. No condition. digest.take and (side).join, walked. Conditions: the strings of a step are at most 2^39 bytes together. Verify's walk: down by the numbers with the proof's strings from the last one on, and back up. Conditions: at most 1,000,000 strings in the proof, an entry of at most 2^39 bytes. Root as the printed texts name it. Conditions: at most 1,000,000 entries of at most 2^39 bytes. -/
import Derived.Test.YtjkdenldddjcnaaDoorKDigestProofAccepted7
import Derived.Test.YtjkdenldddjcnaaDoorKDigestProofAccepted8
import Derived.Lib.BitFns
import Derived.Outline
import Derived.Test.YtjkdenldddjcnaaDoorProg
import Derived.Below
import Derived.Deep.Draws
import Derived.Deep.AppendLies
import Derived.Maps.AppendAt
import Derived.OwnWalk
import Derived.Laws.BytesArg
import Derived.Laws.MakeOwn
import Derived.Laws.OwnMore
import Derived.Deep.OwnRows
import Derived.Tactics
import Derived.Lib.ConvBytes
import Derived.Laws.Slices
import Derived.WalkKit
import Derived.KernelRfl
import Derived.RowKit3
import Derived.Deep.LoopGhost
import Derived.Deep.QuietTactic
import Derived.BigQuiet
import Derived.WideLaws
import Derived.Deep.DeepCutAuto
import Derived.Deep.CutBlock
import Derived.Deep.RegionHeld3
import Derived.Laws.Rows
import Derived.Lib.AppendStr
import Derived.ArgAppend
import Derived.Laws.IdiomCopy
import Derived.OrdersHeld
import Derived.Laws.BitsLemmas
import Derived.RowKit
import Derived.Test.YtjkdenldddjcnaaDoorWWords
import Derived.Test.YtjkdenldddjcnaaDoorWLast
import Derived.Test.YtjkdenldddjcnaaDoorWTab
import Derived.Test.YtjkdenldddjcnaaDoorWQPut
import Derived.Test.YtjkdenldddjcnaaDoorWApart
import Derived.Test.YtjkdenldddjcnaaDoorWArr
import Derived.Test.YtjkdenldddjcnaaDoorWZeros
import Derived.Test.YtjkdenldddjcnaaDoorWFoot
import Derived.Test.YtjkdenldddjcnaaDoorWKept
import Derived.Test.YtjkdenldddjcnaaDoorWShare
import Derived.Test.YtjkdenldddjcnaaDoorWN
import Derived.Test.YtjkdenldddjcnaaDoorWRepsOne
import Derived.Test.YtjkdenldddjcnaaDoorWGuard
import Derived.Test.YtjkdenldddjcnaaDoorWNEv
import Derived.Test.YtjkdenldddjcnaaDoorWMore
import Derived.Laws.AppendOwn
import Derived.Test.YtjkdenldddjcnaaDoorKDigestProofAccepted6
import Derived.RangeFuncCalls
import Derived.Test.YtjkdenldddjcnaaDoorKDigestProofAccepted5
import Derived.Laws.StructEq
set_option linter.unusedVariables false
set_option linter.unusedSimpArgs false
namespace Go.Proofs.YtjkdenldddjcnaaDoor.Sha
open Go Go.RowKit Go.Shelf Go.Proofs.YtjkdenldddjcnaaDoor.Rf Go.Proofs.YtjkdenldddjcnaaDoorW.PrintWords Go.Proofs.YtjkdenldddjcnaaDoorW.PrintLast Go.Proofs.YtjkdenldddjcnaaDoorW.PrintMore

/-- Strings, one behind the other. -/
def joinS (xs : List ByteArray) : ByteArray := ⟨((xs.map (·.data.toList)).flatten).toArray⟩
theorem append_data (x y : ByteArray) : (x ++ y).data.toList = x.data.toList ++ y.data.toList := by
  rw [ByteArray.data_append, Array.toList_append]
theorem join_flat : ∀ xs : List (List UInt8), Lib.join xs [] = xs.flatten
  | [] => rfl
  | x :: r => by rw [Lib.join_cons]; simp [Lib.joinTail]
theorem join_joinS (xs : List ByteArray) : (⟨(Lib.join (xs.map (·.data.toList)) (⟨#[]⟩ : ByteArray).data.toList).toArray⟩ : ByteArray) = joinS xs := by
  rw [show (⟨#[]⟩ : ByteArray).data.toList = [] from rfl, join_flat]
  rfl
theorem joinS_one (x : ByteArray) : joinS [x] = x := by
  obtain ⟨⟨l⟩⟩ := x
  simp [joinS]
theorem joinS_two (x y : ByteArray) : joinS [x, y] = x ++ y := by
  apply ByteArray.ext
  apply Array.toList_inj.1
  rw [append_data]
  simp [joinS]
theorem join_calls (bk c : Nat) (xs : List ByteArray) (w : World) (hx : w.heap[bk]? = some (.cells (xs.map Value.string).toArray 9 (0, 0))) (hn : xs.length ≤ 1000) (hc : xs.length ≤ c) (hj : (joinS xs).size ≤ 140737488355328) :
    Calls Tryd.prog 65 #[.slice (some ⟨bk, 0, none⟩) xs.length c, .string ⟨#[]⟩] w fun e w' => e = .returned (.string (joinS xs)) ∧ Below w.heap.size w w' := by
  have h := Tryd.strings_Join bk 0 c xs ⟨#[]⟩ w (fun j x hj => by simp [World.cell?, hx, hj]) (Array.getElem?_eq_some_iff.1 hx).1 (by omega) hc (by
    have e := congrArg ByteArray.size (join_joinS xs)
    have e2 : (⟨(Lib.join (xs.map (·.data.toList)) (⟨#[]⟩ : ByteArray).data.toList).toArray⟩ : ByteArray).size = (Lib.join (xs.map (·.data.toList)) (⟨#[]⟩ : ByteArray).data.toList).length := rfl
    omega)
  rw [join_joinS] at h
  exact h
def SM (v : World) (Bm bk : Nat) (mark : ByteArray) (xs : List ByteArray) (W : World) : Prop :=
  Boxed W Bm 9 (.string mark) ∧ W.heap[bk]? = some (.cells (xs.map Value.string).toArray 9 (0, 0)) ∧ Amb W ∧ Below v.heap.size v W ∧ v.heap.size ≤ W.heap.size
theorem keepSM {v : World} {Bm bk : Nat} {mark : ByteArray} {xs : List ByteArray} {W W' : World} (h : SM v Bm bk mark xs W) (hb : Below W.heap.size W W') : SM v Bm bk mark xs W' := by
  obtain ⟨h1, h2, h3, h4, h5⟩ := h
  exact ⟨(hb.block _ h1.lt).trans h1, (hb.block _ (Array.getElem?_eq_some_iff.1 h2).1).trans h2, h3.below_block hb, below_then h4 h5 hb, Nat.le_trans h5 hb.size⟩
def marked.T1 : Bool × List (List Nat × List Nat) := (true, [([], []), ([], []), ([1], [1]), ([0, 2], [0, 2]), ([3, 2], [3]), ([4, 4, 0, 1, 2, 3, 4], [4])])
def marked.B1 : List Nat := [0, 0, 2, 7, 15, 31]
theorem marked.tab1 : rtab .any (opsOf Tryd.f64 1) = marked.T1 := by kernel_rfl
theorem marked.bits1 : waitsOk marked.T1.2 marked.B1 = true := by kernel_rfl
noncomputable def markR1 : Code := ((Tryd.f64.body.bind (regionOf 1)).getD .skip)
set_option maxHeartbeats 4000000 in
set_option maxRecDepth 100000 in
theorem mark_r1 (R : Act → World → Prop) (v W : World) (v2 v3 v4 v5 v6 v7 v8 : Value) (Bm bk c : Nat) (mark : ByteArray) (xs : List ByteArray) (hn : xs.length ≤ 1000) (hc : xs.length ≤ c) (hj : (joinS xs).size ≤ 140737488355328)
    (hsz : (mark ++ joinS xs).size ≤ 1099511627776) (hlim : (9223372036854775807 < mark.size + (joinS xs).size) = False)
    (hS : SM v Bm bk mark xs W)
    (hQ : ∀ (z4 z5 z6 z7 z8 : Value) (W' : World), SM v Bm bk mark xs W' → R ⟨#[Value.slice (some ⟨bk, 0, none⟩) xs.length c, Value.pointer (some ⟨Bm, 0, none⟩), v2, Value.string (sumF (mark ++ joinS xs)), z4, z5, z6, z7, z8], []⟩ W') :
    markR1.wp Tryd.prog (Norm R) ⟨#[Value.slice (some ⟨bk, 0, none⟩) xs.length c, Value.pointer (some ⟨Bm, 0, none⟩), v2, v3, v4, v5, v6, v7, v8], []⟩ W := by
  unfold markR1
  conv => arg 2; whnf
  refine start_ (n := 6) (S := SM v Bm bk mark xs) (ds := []) #[false, false, false, false, false, false] (by kernel_rfl) rfl rfl (keepSM hS (below_drew1 (Below.refl _ _))) (fun hHeld => ?_); refine with_tabW marked.tab1 marked.bits1 (fun HT_ HW_ => ?_)
  generalize W.drew = w0_ at hHeld ⊢
  refine pure_ (i := 1) (N := some 5) (v := ?_) (a' := ?_) #[false, true, false, false, false, false] rfl rfl (any_of HT_.out (by kernel_rfl)) (fun _ _ _ h => h) (Or.inl ⟨by rfl, ?_⟩) ?_ ?_
  rotate_left
  · intro w'
    go_simp
    with_reducible rfl
  rotate_left
  · simp only [Act.put, List.setIfInBounds_toArray, List.set_cons_zero, List.set_cons_succ, i64_w, i32_w]
    rfl
  refine take_ (i := 0) (N := some 4) (v := ?_) (a' := ?_) #[true, true, false, false, false, false] rfl rfl (take_ofW HT_.out HW_.out (by kernel_rfl)) (fun _ _ _ h => h) (Or.inl ⟨by rfl, ?_⟩) hHeld ?_ ?_
  rotate_left
  · intro w' hS_
    have c_ := hS_.1.cell
    go_simp
    with_reducible rfl
  rotate_left
  · simp only [Act.put, List.setIfInBounds_toArray, List.set_cons_zero, List.set_cons_succ, i64_w, i32_w]
    rfl
  refine one_ (i := 2) (N := some 6) #[true, true, true, false, false, false] rfl rfl (one_of HT_.out (by kernel_rfl)) (by decide) (fun K hK => ?_)
  refine goes_ Tryd.func65 (by kernel_rfl) rfl #[.slice (some ⟨bk, 0, none⟩) xs.length c, .string ⟨#[]⟩] (by rfl) rfl rfl (by (try simp only [List.map_toArray, List.map_cons, List.map_nil]); first | done | rfl) ?_
  refine (join_calls bk c xs _ hHeld.2.1 hn hc hj).mono ?_
  rintro e w1_ ⟨rfl, hd⟩
  refine ⟨_, rfl, ?_⟩
  refine hK.out _ _ (keepSM hHeld hd) (fun hHeld => ?_)
  clear hK K hd
  refine norm_ (a' := ?_) ?_ ?_
  rotate_left
  · show Act.put _ (some 6) _ = _
    simp only [Act.put, List.setIfInBounds_toArray, List.set_cons_zero, List.set_cons_succ, i64_w, i32_w]
    rfl
  refine pure_ (i := 3) (N := some 7) (v := ?_) (a' := ?_) #[true, true, true, true, false, false] rfl rfl (any_of HT_.out (by kernel_rfl)) (fun _ _ _ h => h) (Or.inl ⟨by rfl, ?_⟩) ?_ ?_
  rotate_left
  · intro w'
    go_simp
    with_reducible rfl
  rotate_left
  · simp only [Act.put, List.setIfInBounds_toArray, List.set_cons_zero, List.set_cons_succ, i64_w, i32_w]
    rfl
  refine one_ (i := 4) (N := some 8) #[true, true, true, true, true, false] rfl rfl (one_of HT_.out (by kernel_rfl)) (by decide) (fun K hK => ?_)
  refine goes_ Tryd.func30 (by kernel_rfl) rfl #[.string (mark ++ joinS xs)] (by rfl) rfl rfl (by (try simp only [List.map_toArray, List.map_cons, List.map_nil]); first | done | rfl) ?_
  refine (sum_calls (mark ++ joinS xs) hsz _ hHeld.2.2.1).mono ?_
  rintro e w2_ ⟨rfl, hd⟩
  refine ⟨_, rfl, ?_⟩
  refine hK.out _ _ (keepSM hHeld hd) (fun hHeld => ?_)
  clear hK K hd
  refine norm_ (a' := ?_) ?_ ?_
  rotate_left
  · show Act.put _ (some 8) _ = _
    simp only [Act.put, List.setIfInBounds_toArray, List.set_cons_zero, List.set_cons_succ, i64_w, i32_w]
    rfl
  refine pure_ (i := 5) (N := some 3) (v := ?_) (a' := ?_) #[true, true, true, true, true, true] rfl rfl (any_of HT_.out (by kernel_rfl)) (fun _ _ _ h => h) (Or.inl ⟨by rfl, ?_⟩) ?_ ?_
  rotate_left
  · intro w'
    go_simp
    with_reducible rfl
  rotate_left
  · simp only [Act.put, List.setIfInBounds_toArray, List.set_cons_zero, List.set_cons_succ, i64_w, i32_w]
    rfl
  refine done_ (done_of HT_.out (by kernel_rfl)) ?_
  exact hQ _ _ _ _ _ _ hHeld
end Go.Proofs.YtjkdenldddjcnaaDoor.Sha

set_option linter.unusedVariables false
set_option linter.unusedSimpArgs false
namespace Go.Proofs.YtjkdenldddjcnaaDoor.Sha
open Go Go.RowKit Go.Shelf Go.Proofs.YtjkdenldddjcnaaDoor.Rf Go.Proofs.YtjkdenldddjcnaaDoorW.PrintWords Go.Proofs.YtjkdenldddjcnaaDoorW.PrintLast Go.Proofs.YtjkdenldddjcnaaDoorW.PrintMore

def leafF (s : ByteArray) : ByteArray := sumF (⟨#[0]⟩ ++ s)
def nodeF (a b : ByteArray) : ByteArray := sumF (⟨#[1]⟩ ++ (a ++ b))
def chainF (a b : ByteArray) : ByteArray := sumF (⟨#[2]⟩ ++ (a ++ b))
theorem below_alloc' {n : Nat} {w W : World} (h : Below n w W) (hn : n ≤ W.heap.size) (o : Obj) : Below n w (W.alloc o) := h.trans ((below_alloc (Below.refl W.heap.size W) o).mono hn)
theorem leaf_calls (s : ByteArray) (w : World) (hr : Amb w) (hs : s.size ≤ 549755813888) :
    Calls Tryd.prog 29 #[.string s] w fun e w' => e = .returned (.string (leafF s)) ∧ Below w.heap.size w w' := by
  obtain ⟨w1, h1⟩ : ∃ w1, w.alloc (Obj.cells #[.string ⟨#[0]⟩] 9) = w1 := ⟨_, rfl⟩
  obtain ⟨w2, h2⟩ : ∃ w2, w1.alloc (Obj.cells #[.string s] 9) = w2 := ⟨_, rfl⟩
  have hsz : w1.heap.size = w.heap.size + 1 := by rw [← h1]; simp
  have b1 : Boxed w1 w.heap.size 9 (.string ⟨#[0]⟩) := by rw [← h1]; exact Boxed.new w _ _
  have b2 : Boxed w2 w.heap.size 9 (.string ⟨#[0]⟩) := by rw [← h2]; exact b1.alloc _
  have r2 : w2.heap[w.heap.size + 1]? = some (.cells ([s].map Value.string).toArray 9 (0, 0)) := by rw [← h2, ← hsz]; exact heap_alloc_new ..
  have bel : Below w.heap.size w w2 := by rw [← h2]; exact below_alloc' (by rw [← h1]; exact below_alloc (Below.refl _ _) _) (by omega) _
  have hr2 := hr.below_block bel
  have hl : (⟨#[0]⟩ ++ joinS [s] : ByteArray).size ≤ 1099511627776 := by rw [joinS_one, ByteArray.size_append]; show 1 + _ ≤ _; omega
  have hle : w.heap.size ≤ w2.heap.size := bel.size
  go_enter Tryd.func29, Tryd.ntmps29
  go_wp2_with go_in
  refine norm_wp ?_
  refine mark_r1 _ w2 w2 _ _ _ _ _ _ _ w.heap.size (w.heap.size + 1) 1 ⟨#[0]⟩ [s] (by simp) (by simp) (by rw [ByteArray.size_append] at hl; omega) hl (eq_false (by rw [ByteArray.size_append] at hl; omega)) ⟨b2, r2, hr2, Below.refl _ _, Nat.le_refl _⟩ ?_
  intro z4 z5 z6 z7 z8 W' hS
  have hb := hS.2.2.2.1
  go_wp2
  go_ret
  rw [joinS_one]
  exact ⟨rfl, bel.trans (hb.mono hle)⟩
theorem node_calls (a b : ByteArray) (w : World) (hr : Amb w) (hs : a.size + b.size ≤ 549755813888) :
    Calls Tryd.prog 32 #[.string a, .string b] w fun e w' => e = .returned (.string (nodeF a b)) ∧ Below w.heap.size w w' := by
  obtain ⟨w1, h1⟩ : ∃ w1, w.alloc (Obj.cells #[.string ⟨#[1]⟩] 9) = w1 := ⟨_, rfl⟩
  obtain ⟨w2, h2⟩ : ∃ w2, w1.alloc (Obj.cells #[.string a, .string b] 9) = w2 := ⟨_, rfl⟩
  have hsz : w1.heap.size = w.heap.size + 1 := by rw [← h1]; simp
  have b1 : Boxed w1 w.heap.size 9 (.string ⟨#[1]⟩) := by rw [← h1]; exact Boxed.new w _ _
  have b2 : Boxed w2 w.heap.size 9 (.string ⟨#[1]⟩) := by rw [← h2]; exact b1.alloc _
  have r2 : w2.heap[w.heap.size + 1]? = some (.cells ([a, b].map Value.string).toArray 9 (0, 0)) := by rw [← h2, ← hsz]; exact heap_alloc_new ..
  have bel : Below w.heap.size w w2 := by rw [← h2]; exact below_alloc' (by rw [← h1]; exact below_alloc (Below.refl _ _) _) (by omega) _
  have hr2 := hr.below_block bel
  have hl : (⟨#[1]⟩ ++ joinS [a, b] : ByteArray).size ≤ 1099511627776 := by rw [joinS_two, ByteArray.size_append, ByteArray.size_append]; show 1 + _ ≤ _; omega
  have hle : w.heap.size ≤ w2.heap.size := bel.size
  go_enter Tryd.func32, Tryd.ntmps32
  go_wp2_with go_in
  refine norm_wp ?_
  refine mark_r1 _ w2 w2 _ _ _ _ _ _ _ w.heap.size (w.heap.size + 1) 2 ⟨#[1]⟩ [a, b] (by simp) (by simp) (by rw [ByteArray.size_append] at hl; omega) hl (eq_false (by rw [ByteArray.size_append] at hl; omega)) ⟨b2, r2, hr2, Below.refl _ _, Nat.le_refl _⟩ ?_
  intro z4 z5 z6 z7 z8 W' hS
  have hb := hS.2.2.2.1
  go_wp2
  go_ret
  rw [joinS_two]
  exact ⟨rfl, bel.trans (hb.mono hle)⟩
theorem chain_calls (a b : ByteArray) (w : World) (hr : Amb w) (hs : a.size + b.size ≤ 549755813888) :
    Calls Tryd.prog 36 #[.string a, .string b] w fun e w' => e = .returned (.string (chainF a b)) ∧ Below w.heap.size w w' := by
  obtain ⟨w1, h1⟩ : ∃ w1, w.alloc (Obj.cells #[.string ⟨#[2]⟩] 9) = w1 := ⟨_, rfl⟩
  obtain ⟨w2, h2⟩ : ∃ w2, w1.alloc (Obj.cells #[.string a, .string b] 9) = w2 := ⟨_, rfl⟩
  have hsz : w1.heap.size = w.heap.size + 1 := by rw [← h1]; simp
  have b1 : Boxed w1 w.heap.size 9 (.string ⟨#[2]⟩) := by rw [← h1]; exact Boxed.new w _ _
  have b2 : Boxed w2 w.heap.size 9 (.string ⟨#[2]⟩) := by rw [← h2]; exact b1.alloc _
  have r2 : w2.heap[w.heap.size + 1]? = some (.cells ([a, b].map Value.string).toArray 9 (0, 0)) := by rw [← h2, ← hsz]; exact heap_alloc_new ..
  have bel : Below w.heap.size w w2 := by rw [← h2]; exact below_alloc' (by rw [← h1]; exact below_alloc (Below.refl _ _) _) (by omega) _
  have hr2 := hr.below_block bel
  have hl : (⟨#[2]⟩ ++ joinS [a, b] : ByteArray).size ≤ 1099511627776 := by rw [joinS_two, ByteArray.size_append, ByteArray.size_append]; show 1 + _ ≤ _; omega
  have hle : w.heap.size ≤ w2.heap.size := bel.size
  go_enter Tryd.func36, Tryd.ntmps36
  go_wp2_with go_in
  refine norm_wp ?_
  refine mark_r1 _ w2 w2 _ _ _ _ _ _ _ w.heap.size (w.heap.size + 1) 2 ⟨#[2]⟩ [a, b] (by simp) (by simp) (by rw [ByteArray.size_append] at hl; omega) hl (eq_false (by rw [ByteArray.size_append] at hl; omega)) ⟨b2, r2, hr2, Below.refl _ _, Nat.le_refl _⟩ ?_
  intro z4 z5 z6 z7 z8 W' hS
  have hb := hS.2.2.2.1
  go_wp2
  go_ret
  rw [joinS_two]
  exact ⟨rfl, bel.trans (hb.mono hle)⟩
end Go.Proofs.YtjkdenldddjcnaaDoor.Sha

set_option linter.unusedVariables false
set_option linter.unusedSimpArgs false
namespace Go.Proofs.YtjkdenldddjcnaaDoor.Sha
open Go Go.RowKit Go.Shelf Go.Proofs.YtjkdenldddjcnaaDoor.Rf Go.Proofs.YtjkdenldddjcnaaDoorW.PrintWords Go.Proofs.YtjkdenldddjcnaaDoorW.PrintLast Go.Proofs.YtjkdenldddjcnaaDoorW.PrintMore

theorem Amb.below {w W : World} (h : Amb w) (hb : Below w.heap.size w W) : Amb W := h.below_block hb
def digest_Sum.f (a0 : ByteArray) : Option ByteArray := if a0.size ≤ 549755813888 then some (sumF a0) else none
theorem digest_Sum.calls (a0 : ByteArray) (r : ByteArray) (w : World) (hG_ : Amb w) (h : digest_Sum.f a0 = some r) :
    Calls Tryd.prog 30 #[.string a0] w fun e w' => e = .returned (.string r) ∧ Below w.heap.size w w' := by
  unfold digest_Sum.f at h
  by_cases hc : a0.size ≤ 549755813888
  · rw [if_pos hc] at h
    have e := Option.some.inj h
    rw [← e]
    exact sum_calls a0 (by omega) w hG_
  · rw [if_neg hc] at h
    exact absurd h (by simp)
def digest_Leaf.f (a0 : ByteArray) : Option ByteArray := if a0.size ≤ 549755813888 then some (leafF a0) else none
theorem digest_Leaf.calls (a0 : ByteArray) (r : ByteArray) (w : World) (hG_ : Amb w) (h : digest_Leaf.f a0 = some r) :
    Calls Tryd.prog 29 #[.string a0] w fun e w' => e = .returned (.string r) ∧ Below w.heap.size w w' := by
  unfold digest_Leaf.f at h
  by_cases hc : a0.size ≤ 549755813888
  · rw [if_pos hc] at h
    have e := Option.some.inj h
    rw [← e]
    exact leaf_calls a0 w hG_ (by omega)
  · rw [if_neg hc] at h
    exact absurd h (by simp)
def digest_Node.f (a0 a1 : ByteArray) : Option ByteArray := if a0.size + a1.size ≤ 549755813888 then some (nodeF a0 a1) else none
theorem digest_Node.calls (a0 a1 : ByteArray) (r : ByteArray) (w : World) (hG_ : Amb w) (h : digest_Node.f a0 a1 = some r) :
    Calls Tryd.prog 32 #[.string a0, .string a1] w fun e w' => e = .returned (.string r) ∧ Below w.heap.size w w' := by
  unfold digest_Node.f at h
  by_cases hc : a0.size + a1.size ≤ 549755813888
  · rw [if_pos hc] at h
    have e := Option.some.inj h
    rw [← e]
    exact node_calls a0 a1 w hG_ (by omega)
  · rw [if_neg hc] at h
    exact absurd h (by simp)
def digest_Chain.f (a0 a1 : ByteArray) : Option ByteArray := if a0.size + a1.size ≤ 549755813888 then some (chainF a0 a1) else none
theorem digest_Chain.calls (a0 a1 : ByteArray) (r : ByteArray) (w : World) (hG_ : Amb w) (h : digest_Chain.f a0 a1 = some r) :
    Calls Tryd.prog 36 #[.string a0, .string a1] w fun e w' => e = .returned (.string r) ∧ Below w.heap.size w w' := by
  unfold digest_Chain.f at h
  by_cases hc : a0.size + a1.size ≤ 549755813888
  · rw [if_pos hc] at h
    have e := Option.some.inj h
    rw [← e]
    exact chain_calls a0 a1 w hG_ (by omega)
  · rw [if_neg hc] at h
    exact absurd h (by simp)
/-- The number of the program's left. -/
def leftN (n : Nat) : Nat := 2 ^ (Lib.bitLen (n - 1) - 1)
def digest_left.f (a0 : Int) : Option Int := if 2 ≤ a0 ∧ a0 ≤ 9223372036854775807 then some (leftN a0.toNat) else none
theorem bitLenAux_le (f : Nat) : ∀ x m, x < 2 ^ m → Lib.bitLenAux f x ≤ m := by
  induction f with
  | zero => intro x m _; exact Nat.zero_le _
  | succ f ih =>
    intro x m h
    unfold Lib.bitLenAux
    split
    · exact Nat.zero_le _
    · cases m with
      | zero => simp at h; omega
      | succ m =>
        have := ih (x / 2) m (by rw [Nat.pow_succ] at h; omega)
        omega
theorem bitLen_pos (x : Nat) (h : 0 < x) : 0 < Lib.bitLen x := by
  unfold Lib.bitLen Lib.bitLenAux
  rw [if_neg (by omega)]
  omega
theorem digest_left.calls (a0 : Int) (r : Int) (w : World) (h : digest_left.f a0 = some r) :
    Calls Tryd.prog 40 #[.int .i64 a0] w fun e w' => e = .returned (.int .i64 r) ∧ ∃ n_, w' = w.drewN n_ := by
  unfold digest_left.f at h
  split at h
  · rename_i hc
    cases h
    obtain ⟨n, hn⟩ : ∃ n : Nat, a0 = n := ⟨a0.toNat, by omega⟩
    subst hn
    have k1 : IntKind.i64.wrap ((n : Int) - 1) = ((n - 1 : Nat) : Int) := by rw [IntKind.wrap_i64]; omega
    obtain ⟨m, hm⟩ : ∃ m, n - 1 = m := ⟨_, rfl⟩
    have k2 : IntKind.u64.wrap (m : Int) = (m : Int) := by rw [IntKind.wrap_u64]; omega
    have hb1 := bitLen_pos m (by omega)
    have hb2 : Lib.bitLen m ≤ 63 := bitLenAux_le 64 m 63 (by omega)
    obtain ⟨b, hb⟩ : ∃ b, Lib.bitLen m = b := ⟨_, rfl⟩
    rw [hb] at hb1 hb2
    obtain ⟨b', hb'⟩ : ∃ b', b - 1 = b' := ⟨_, rfl⟩
    have k3 : IntKind.i64.wrap ((b : Int) - 1) = (b' : Int) := by rw [IntKind.wrap_i64]; omega
    have hlt : 2 ^ b' ≤ 4611686018427387904 := Nat.le_trans (Nat.pow_le_pow_right (n := 2) (by decide) (show b' ≤ 62 by omega)) (by decide)
    have k4 : IntKind.i64.wrap ((2 : Int) ^ b') = (2 : Int) ^ b' := by
      have e : ((2 : Int) ^ b') = ((2 ^ b' : Nat) : Int) := by simp
      rw [e, IntKind.wrap_i64]
      generalize 2 ^ b' = z at hlt
      omega
    have k5 : min b' 64 = b' := by omega
    have er : leftN ((n : Int)).toNat = 2 ^ b' := by
      unfold leftN
      rw [show ((n : Int)).toNat = n by omega, hm, hb, hb']
    rw [er]
    rw [hm] at k1
    go_enter Tryd.func40, Tryd.ntmps40
    go_wp2_with (go_at_call 59; refine (Tryd.bits_Len _ _ (by omega) (by omega)).mono ?_; rintro e w' ⟨rfl, rfl⟩; (try rw [show ((m : Int)).toNat = m by omega, hb]))
    go_ret
    exact ⟨by simp, 0, rfl⟩
  · cases h
end Go.Proofs.YtjkdenldddjcnaaDoor.Sha

namespace Go.Proofs.YtjkdenldddjcnaaDoor.Df
open Go.RowKit Go.Proofs.YtjkdenldddjcnaaDoor.Sha Go.Proofs.YtjkdenldddjcnaaDoorW.PrintWords Go.Proofs.YtjkdenldddjcnaaDoorW.PrintLast Go.Proofs.YtjkdenldddjcnaaDoorW.PrintMore
attribute [local go_sem] max2_int min2_int max_two min_two max_three min_three max_four min_four   -- for this text's walks alone
set_option linter.unusedVariables false
set_option linter.unusedSimpArgs false



def errW : Option Int → Value
  | none => .nilIface
  | some c => .iface 0 (.int .i64 c)
theorem errW_none : errW none = .nilIface := rfl
theorem errW_some (c : Int) : errW (some c) = .iface 0 (.int .i64 c) := rfl

theorem info9 : (Tryd.prog.info? 9).map (fun i => (i.zero, i.size, i.bytes)) = some (some (.string ⟨#[]⟩), 1, 16) := by kernel_rfl
-- the values' own types

end Go.Proofs.YtjkdenldddjcnaaDoor.Df

namespace Go.Proofs.YtjkdenldddjcnaaDoor.Df
open Go.RowKit Go.Proofs.YtjkdenldddjcnaaDoor.Sha Go.Proofs.YtjkdenldddjcnaaDoorW.PrintWords Go.Proofs.YtjkdenldddjcnaaDoorW.PrintLast Go.Proofs.YtjkdenldddjcnaaDoorW.PrintMore
attribute [local go_sem] max2_int min2_int max_two min_two max_three min_three max_four min_four   -- for this text's walks alone
set_option linter.unusedVariables false
set_option linter.unusedSimpArgs false

/-! ### clearwaylaw02_few: function 13 -/
def clearwaylaw02_few.l0 : Nat → List ByteArray → Int → List ByteArray → Int → Option (List ByteArray)
  | 0, _, _, _, _ => none
  | k + 1, x0, x1, x5, x6 => if x6 < (x0.length : Int) then (if x6 < x1 then (if 0 ≤ x6 then (if 0 ≤ (mn ((rdOf ByteArray.empty x0 x6).size : Int) 60) then (if (mn ((rdOf ByteArray.empty x0 x6).size : Int) 60) ≤ ((rdOf ByteArray.empty x0 x6).size : Int) then (if x5.length < 8796093022208 then (clearwaylaw02_few.l0 k x0 x1 (x5 ++ [(rdOf ByteArray.empty x0 x6).extract 0 ((mn ((rdOf ByteArray.empty x0 x6).size : Int) 60) : Int).toNat]) (wrap64 (x6 + 1))) else (none)) else (none)) else (none)) else (none)) else (some x5)) else (some x5)
def clearwaylaw02_few.f (k : Nat) (l0 : List ByteArray) (a1 : Int) : Option (List ByteArray) := clearwaylaw02_few.l0 k l0 a1 ([] : List ByteArray) 0
theorem clearwaylaw02_few.mono_l : ∀ k, (∀ y0 y1 y2 y3, LeO (clearwaylaw02_few.l0 k y0 y1 y2 y3) (clearwaylaw02_few.l0 (k + 1) y0 y1 y2 y3))
  | 0 => fun _ _ _ _ r h => by simp [clearwaylaw02_few.l0] at h
  | k + 1 => by
    have ih0 := clearwaylaw02_few.mono_l k
    · intro y0 y1 y2 y3
      unfold clearwaylaw02_few.l0
      repeat' first
      | (with_reducible exact ih0 _ _ _ _)
      | (with_reducible exact LeO.refl _)
      | (with_reducible exact LeO.none _)
      | (with_reducible refine LeO.ite ?_ ?_)
      | (with_reducible refine LeO.bind ?_ (fun _ => ?_))
      | exact ih0 _ _ _ _
      | exact LeO.none _
      | refine LeO.ite ?_ ?_
      | refine LeO.bind ?_ (fun _ => ?_)
theorem clearwaylaw02_few.mono : ∀ a0 a1 k, LeO (clearwaylaw02_few.f k a0 a1) (clearwaylaw02_few.f (k + 1) a0 a1) := by
  intro a0 a1 k
  have ih0 := clearwaylaw02_few.mono_l k
  unfold clearwaylaw02_few.f
  repeat' first
      | (with_reducible exact ih0 _ _ _ _)
      | (with_reducible exact LeO.refl _)
      | (with_reducible exact LeO.none _)
      | (with_reducible refine LeO.ite ?_ ?_)
      | (with_reducible refine LeO.bind ?_ (fun _ => ?_))
      | exact ih0 _ _ _ _
      | exact LeO.none _
      | refine LeO.ite ?_ ?_
      | refine LeO.bind ?_ (fun _ => ?_)
def clearwaylaw02_few.T5 : Bool × List (List Nat × List Nat) := (true, [([], []), ([], []), ([], []), ([1, 2], [1, 2]), ([3], [3]), ([], []), ([], []), ([5, 6], [5, 6]), ([7], [7]), ([8], [8]), ([9], [9]), ([4, 10], [4, 10]), ([11], [11]), ([0, 12], [0, 12]), ([13, 13, 0, 1, 2, 3, 4, 5, 6, 7, 8, 9, 10, 11, 12, 13], [0, 13])])
def clearwaylaw02_few.B5 : List Nat := [0, 0, 0, 6, 14, 0, 0, 96, 224, 480, 992, 2046, 4094, 8191, 16383]
theorem clearwaylaw02_few.tab5 : rtab .any (opsOf Tryd.f13 5) = clearwaylaw02_few.T5 := by kernel_rfl
theorem clearwaylaw02_few.bits5 : waitsOk clearwaylaw02_few.T5.2 clearwaylaw02_few.B5 = true := by kernel_rfl
set_option maxHeartbeats 8000000 in
set_option maxRecDepth 100000 in
theorem clearwaylaw02_few.calls (k : Nat) (A0 : Option Addr) (c0 : Nat) (l0 : List ByteArray) (a1 : Int) (r : List ByteArray) (w : World) (hr0 : Kd.C Kd.string w A0 l0.length l0) (hc0 : l0.length ≤ c0) (h : clearwaylaw02_few.f k l0 a1 = some r) :
    Calls Tryd.prog 13 #[.slice A0 l0.length c0, .int .i64 a1] w fun e w' => ∃ v0_ : Value, e = .returned (v0_) ∧ Kd.R Kd.string 9 w' w.heap.size (fun _ => True) v0_ r ∧ Below w.heap.size w w' := by
  have HR0 := Aside0.mk hr0
  have HC0 := Aside0.mk hc0
  clear hr0 hc0
  have HB := Aside0.mk (Below.refl w.heap.size w)
  have H : (clearwaylaw02_few.l0 k l0 a1 ([] : List ByteArray) 0) = some r := h
  clear h
  have H' := Aside0.mk H
  clear H
  go_enter Tryd.func13, Tryd.ntmps13
  go_wp2
  go_loopg [5, 6] k (fun kq v5 v6 w' => ∃ (x5_1 : List ByteArray) (x6_1 : Int), v6 = .int .i64 x6_1 ∧ Aside0 (clearwaylaw02_few.l0 kq l0 a1 x5_1 x6_1 = some r) ∧ Aside0 (kq ≤ k) ∧ Aside0 (Kd.R Kd.string 9 w' w.heap.size (fun _ => True) v5 x5_1) ∧ Aside0 (Below w.heap.size w w'))
  case atStart => exact ⟨(([] : List ByteArray)), (0), (by first | rfl | (simp; done) | (simp [*]; done)), H', ⟨Nat.le_refl _⟩, ⟨by first | exact Kd.R_nil _ _ _ _ _ | exact Kd.N_nil _ _ _ _ _ | exact Kd.V_nil _ _ _ _ _ | exact Kd.Q_nil _ _ _ _ _ | exact Kd.S_nil _ _ _ _ _⟩, ⟨by repeat (first | (with_reducible first | exact HB.out | apply below_alloc | apply pw_below_drewN | apply below_drew1) | exact HB.out)⟩⟩
  case round =>
    clear H'
    try clear c1
    try clear p2
    obtain ⟨x5_1, x6_1, rfl, HA, HK1, HO_5, HB⟩ := hrel
    cases gk with
    | zero => exact absurd HA.out (by simp [clearwaylaw02_few.l0])
    | succ k1 =>
      have H := HA.out
      clear HA
      simp only [clearwaylaw02_few.l0] at H
      by_cases c3 : x6_1 < (l0.length : Int)
      · rw [if_pos c3] at H
        have c3b0 : decide (x6_1 < (l0.length : Int)) = true := decide_eq_true c3
        clear c3
        by_cases c4 : x6_1 < a1
        · rw [if_pos c4] at H
          have c4b0 : decide (x6_1 < a1) = true := decide_eq_true c4
          clear c4
          by_cases c5 : 0 ≤ x6_1
          · rw [if_pos c5] at H
            have c5b0 : decide (0 ≤ x6_1) = true := decide_eq_true c5
            clear c5
            obtain ⟨ji6, hji6⟩ : ∃ j_ : Int, (mn ((rdOf ByteArray.empty l0 x6_1).size : Int) 60) = j_ := ⟨_, rfl⟩
            replace H : (if 0 ≤ (ji6) then (if (ji6) ≤ ((rdOf ByteArray.empty l0 x6_1).size : Int) then (if x5_1.length < 8796093022208 then (clearwaylaw02_few.l0 k1 l0 a1 (x5_1 ++ [(rdOf ByteArray.empty l0 x6_1).extract 0 ((ji6) : Int).toNat]) (wrap64 (x6_1 + 1))) else (none)) else (none)) else (none)) = some r := by first | (rw [hji6] at H; exact H) | (simp only [hji6] at H ⊢; exact H)
            have hji6_ : (if 60 < ((rdOf ByteArray.empty l0 x6_1).size : Int) then 60 else ((rdOf ByteArray.empty l0 x6_1).size : Int)) = ji6 := hji6
            by_cases c7 : 0 ≤ (ji6)
            · rw [if_pos c7] at H
              have c7b0 := eq_true c7
              have c7b1 : decide (0 ≤ (ji6)) = true := decide_eq_true c7
              clear c7
              by_cases c8 : (ji6) ≤ ((rdOf ByteArray.empty l0 x6_1).size : Int)
              · rw [if_pos c8] at H
                have c8b0 := eq_true c8
                have c8b1 : decide ((ji6) ≤ ((rdOf ByteArray.empty l0 x6_1).size : Int)) = true := decide_eq_true c8
                clear c8
                by_cases c9 : x5_1.length < 8796093022208
                · rw [if_pos c9] at H
                  have LMc9 := Aside0.mk c9
                  clear c9
                  obtain ⟨y195, hy195⟩ : ∃ y_ : List ByteArray, y_ = (x5_1 ++ [(rdOf ByteArray.empty l0 x6_1).extract 0 ((ji6) : Int).toNat]) := ⟨_, rfl⟩
                  replace H : (clearwaylaw02_few.l0 k1 l0 a1 y195 (wrap64 (x6_1 + 1))) = some r := by first | (rw [hy195]; with_reducible exact H) | (have H2_ := (Option.bind_some _ _).symm.trans H; rw [hy195]; with_reducible exact H2_) | (have H2_ := (Option.bind_some _ _).symm.trans H; with_reducible exact H2_) | with_reducible exact H | (rw [hy195]; exact H) | exact H
                  have Ny195 := Aside0.mk hy195
                  clear hy195
                  have H' := Aside0.mk H
                  clear H
                  try go_wp2
                  have n0_ := Aside0.mk (Kd.R_drew HO_5.out)
                  have n1_ := Aside0.mk (below_drew1 HB.out)
                  clear HO_5
                  clear HB
                  have HO_5 := n0_
                  have HB := n1_
                  clear n0_ n1_
                  have p193 : 0 ≤ (x6_1 : Int) := of_decide_eq_true (by first | (with_reducible assumption) | assumption)
                  have q193 : x6_1 < (l0.length : Int) := of_decide_eq_true (by first | (with_reducible assumption) | assumption)
                  obtain ⟨ad193, e193, hx193_0⟩ := Kd.at_string HR0.out x6_1 p193 q193
                  have hw193_0 := hx193_0
                  cases e193
                  replace hx193_0 := (HB.out.cell (World.block_lt_of_cell? w _ hx193_0)).trans hx193_0
                  replace p193 := eq_true p193
                  replace q193 := eq_true q193
                  have p194 : 0 ≤ (x6_1 : Int) := of_decide_eq_true (by first | (with_reducible assumption) | assumption)
                  have q194 : x6_1 < (l0.length : Int) := of_decide_eq_true (by first | (with_reducible assumption) | assumption)
                  obtain ⟨ad194, e194, hx194_0⟩ := Kd.at_string HR0.out x6_1 p194 q194
                  have hw194_0 := hx194_0
                  obtain rfl : ad193 = ad194 := (by injection e194)
                  replace hx194_0 := (HB.out.cell (World.block_lt_of_cell? w _ hx194_0)).trans hx194_0
                  replace p194 := eq_true p194
                  replace q194 := eq_true q194
                  refine start_ (n := 15) (S := fun w' => w'.cell? (ad193.add (x6_1).toNat) = some (.string (rdOf ByteArray.empty l0 x6_1)) ∧ w'.cell? (ad193.add (x6_1).toNat) = some (.string (rdOf ByteArray.empty l0 x6_1))) (ds := []) #[false, false, false, false, false, false, false, false, false, false, false, false, false, false, false] (by kernel_rfl) rfl rfl ⟨((HB.out.cell (World.block_lt_of_cell? w _ hw193_0)).trans hw193_0), ((HB.out.cell (World.block_lt_of_cell? w _ hw194_0)).trans hw194_0)⟩ (fun hHeld => ?_); refine with_tabW clearwaylaw02_few.tab5 clearwaylaw02_few.bits5 (fun HT_ HW_ => ?_)
                  generalize wr.drew = w10 at HO_5 HB hx193_0 hx194_0 hHeld ⊢
                  refine pure_ (i := 0) (N := some 18) (v := ?_) (a' := ?_) #[true, false, false, false, false, false, false, false, false, false, false, false, false, false, false] rfl rfl (any_of HT_.out (by kernel_rfl)) (fun _ _ _ h => h) (Or.inl ⟨by rfl, ?_⟩) ?_ ?_
                  rotate_left
                  · intro w'
                    go_simp
                    with_reducible rfl
                  rotate_left
                  · simp only [Act.put, List.setIfInBounds_toArray, List.set_cons_zero, List.set_cons_succ, i64_w, i32_w]
                    rfl
                  refine pure_ (i := 1) (N := some 19) (v := ?_) (a' := ?_) #[true, true, false, false, false, false, false, false, false, false, false, false, false, false, false] rfl rfl (any_of HT_.out (by kernel_rfl)) (fun _ _ _ h => h) (Or.inl ⟨by rfl, ?_⟩) ?_ ?_
                  rotate_left
                  · intro w'
                    go_simp
                    with_reducible rfl
                  rotate_left
                  · simp only [Act.put, List.setIfInBounds_toArray, List.set_cons_zero, List.set_cons_succ, i64_w, i32_w]
                    rfl
                  refine pure_ (i := 2) (N := some 20) (v := ?_) (a' := ?_) #[true, true, true, false, false, false, false, false, false, false, false, false, false, false, false] rfl rfl (any_of HT_.out (by kernel_rfl)) (fun _ _ _ h => h) (Or.inl ⟨by rfl, ?_⟩) ?_ ?_
                  rotate_left
                  · intro w'
                    go_simp
                    with_reducible rfl
                  rotate_left
                  · simp only [Act.put, List.setIfInBounds_toArray, List.set_cons_zero, List.set_cons_succ, i64_w, i32_w]
                    rfl
                  refine pure_ (i := 3) (N := some 21) (v := ?_) (a' := ?_) #[true, true, true, true, false, false, false, false, false, false, false, false, false, false, false] rfl rfl (any_of HT_.out (by kernel_rfl)) (fun _ _ _ h => h) (Or.inl ⟨by rfl, ?_⟩) ?_ ?_
                  rotate_left
                  · intro w'
                    go_simp
                    with_reducible rfl
                  rotate_left
                  · simp only [Act.put, List.setIfInBounds_toArray, List.set_cons_zero, List.set_cons_succ, i64_w, i32_w]
                    rfl
                  refine pure_ (i := 5) (N := some 23) (v := ?_) (a' := ?_) #[true, true, true, true, false, true, false, false, false, false, false, false, false, false, false] rfl rfl (any_of HT_.out (by kernel_rfl)) (fun _ _ _ h => h) (Or.inl ⟨by rfl, ?_⟩) ?_ ?_
                  rotate_left
                  · intro w'
                    go_simp
                    with_reducible rfl
                  rotate_left
                  · simp only [Act.put, List.setIfInBounds_toArray, List.set_cons_zero, List.set_cons_succ, i64_w, i32_w]
                    rfl
                  refine pure_ (i := 6) (N := some 24) (v := ?_) (a' := ?_) #[true, true, true, true, false, true, true, false, false, false, false, false, false, false, false] rfl rfl (any_of HT_.out (by kernel_rfl)) (fun _ _ _ h => h) (Or.inl ⟨by rfl, ?_⟩) ?_ ?_
                  rotate_left
                  · intro w'
                    go_simp
                    with_reducible rfl
                  rotate_left
                  · simp only [Act.put, List.setIfInBounds_toArray, List.set_cons_zero, List.set_cons_succ, i64_w, i32_w]
                    rfl
                  refine pure_ (i := 7) (N := some 25) (v := ?_) (a' := ?_) #[true, true, true, true, false, true, true, true, false, false, false, false, false, false, false] rfl rfl (any_of HT_.out (by kernel_rfl)) (fun _ _ _ h => h) (Or.inl ⟨by rfl, ?_⟩) ?_ ?_
                  rotate_left
                  · intro w'
                    go_simp
                    with_reducible rfl
                  rotate_left
                  · simp only [Act.put, List.setIfInBounds_toArray, List.set_cons_zero, List.set_cons_succ, i64_w, i32_w]
                    rfl
                  refine take_ (i := 4) (N := some 22) (v := ?_) (a' := ?_) #[true, true, true, true, true, true, true, true, false, false, false, false, false, false, false] rfl rfl (take_ofW HT_.out HW_.out (by kernel_rfl)) (fun _ _ _ h => h) (Or.inl ⟨by rfl, ?_⟩) hHeld ?_ ?_
                  rotate_left
                  · rintro w' ⟨s0, s1⟩
                    go_simp
                    with_reducible rfl
                  rotate_left
                  · simp only [Act.put, List.setIfInBounds_toArray, List.set_cons_zero, List.set_cons_succ, i64_w, i32_w]
                    rfl
                  refine take_ (i := 8) (N := some 26) (v := ?_) (a' := ?_) #[true, true, true, true, true, true, true, true, true, false, false, false, false, false, false] rfl rfl (take_ofW HT_.out HW_.out (by kernel_rfl)) (fun _ _ _ h => h) (Or.inl ⟨by rfl, ?_⟩) hHeld ?_ ?_
                  rotate_left
                  · rintro w' ⟨s0, s1⟩
                    go_simp
                    with_reducible rfl
                  rotate_left
                  · simp only [Act.put, List.setIfInBounds_toArray, List.set_cons_zero, List.set_cons_succ, i64_w, i32_w]
                    rfl
                  refine pure_ (i := 9) (N := some 27) (v := ?_) (a' := ?_) #[true, true, true, true, true, true, true, true, true, true, false, false, false, false, false] rfl rfl (any_of HT_.out (by kernel_rfl)) (fun _ _ _ h => h) (Or.inl ⟨by rfl, ?_⟩) ?_ ?_
                  rotate_left
                  · intro w'
                    go_simp
                    with_reducible rfl
                  rotate_left
                  · simp only [Act.put, List.setIfInBounds_toArray, List.set_cons_zero, List.set_cons_succ, i64_w, i32_w]
                    rfl
                  refine pure_ (i := 10) (N := some 28) (v := ?_) (a' := ?_) #[true, true, true, true, true, true, true, true, true, true, true, false, false, false, false] rfl rfl (any_of HT_.out (by kernel_rfl)) (fun _ _ _ h => h) (Or.inl ⟨by rfl, ?_⟩) ?_ ?_
                  rotate_left
                  · intro w'
                    go_simp
                    with_reducible rfl
                  rotate_left
                  · simp only [Act.put, List.setIfInBounds_toArray, List.set_cons_zero, List.set_cons_succ, i64_w, i32_w]
                    rfl
                  refine pure_ (i := 11) (N := some 29) (v := ?_) (a' := ?_) #[true, true, true, true, true, true, true, true, true, true, true, true, false, false, false] rfl rfl (any_of HT_.out (by kernel_rfl)) (fun _ _ _ h => h) (Or.inl ⟨by rfl, ?_⟩) ?_ ?_
                  rotate_left
                  · intro w'
                    go_simp
                    with_reducible rfl
                  rotate_left
                  · simp only [Act.put, List.setIfInBounds_toArray, List.set_cons_zero, List.set_cons_succ, i64_w, i32_w]
                    rfl
                  refine one_ (i := 12) (N := some 30) #[true, true, true, true, true, true, true, true, true, true, true, true, true, false, false] rfl rfl (one_of HT_.out (by kernel_rfl)) (by decide) (fun K hK => ?_)
                  refine value_ (w1 := ?_) (v := ?_) (by rfl) rfl ?_ ?_
                  rotate_left 2
                  · go_simp
                    constructor
                    · rfl
                    · rfl
                  refine hK.out _ _ ⟨(World.cell?_alloc_lt _ _ _ (World.block_lt_of_cell? _ _ (((HB.out.cell (World.block_lt_of_cell? w _ hw193_0)).trans hw193_0)))).trans (((HB.out.cell (World.block_lt_of_cell? w _ hw193_0)).trans hw193_0)), (World.cell?_alloc_lt _ _ _ (World.block_lt_of_cell? _ _ (((HB.out.cell (World.block_lt_of_cell? w _ hw194_0)).trans hw194_0)))).trans (((HB.out.cell (World.block_lt_of_cell? w _ hw194_0)).trans hw194_0))⟩ (fun hHeld => ?_)
                  clear hK K
                  refine norm_ (a' := ?_) ?_ ?_
                  rotate_left
                  · show Act.put _ (some 30) _ = _
                    simp only [Act.put, List.setIfInBounds_toArray, List.set_cons_zero, List.set_cons_succ, i64_w, i32_w]
                    rfl
                  refine one_ (i := 13) (N := some 31) #[true, true, true, true, true, true, true, true, true, true, true, true, true, true, false] rfl rfl (one_of HT_.out (by kernel_rfl)) (by decide) (fun K hK => ?_)
                  refine Kd.R_append_step Kd.string (w0 := w) w.heap.size (by rfl) (.tmp 18) (.tmp 30) 22 9 (.string ⟨#[]⟩) 16 rfl Tryd.underlying22 info9 rfl (by decide) (by omega) u5 x5_1 ((rdOf ByteArray.empty l0 x6_1).extract 0 ((ji6) : Int).toNat) [.string ((rdOf ByteArray.empty l0 x6_1).extract 0 ((ji6) : Int).toNat)] (fun _ => True) (fun _ => False) rfl rfl ?aP (fun _ hk => hk.elim) ?aF ?aO ?aB ?aS ?aL ?_
                  (case aP => exact rfl)
                  (case aB => exact (by repeat (first | (with_reducible first | exact HB.out | apply below_alloc | apply pw_below_drewN | apply below_drew1) | exact HB.out)))
                  (case aF => exact (fun _ _ => trivial))
                  (case aO => exact (by (with_reducible repeat (first | apply Kd.R_alloc | apply Kd.R_drewN | apply Kd.R_drew)); exact HO_5.out))
                  (case aS => exact (below_size (by repeat (first | (with_reducible first | exact HB.out | apply below_alloc | apply pw_below_drewN | apply below_drew1) | exact HB.out))))
                  (case aL => have := LMc9.out; omega)
                  intro v196 w11 ho hb hg hat
                  rw [← Ny195.out] at ho
                  have n0_ := Aside0.mk (hb)
                  have n1_ := Aside0.mk (ho)
                  clear HB
                  clear HO_5
                  have HB := n0_
                  have HO197 := n1_
                  clear n0_ n1_
                  clear ho hb hg hat
                  refine hK.out _ _ ⟨((HB.out.cell (World.block_lt_of_cell? w _ hw193_0)).trans hw193_0), ((HB.out.cell (World.block_lt_of_cell? w _ hw194_0)).trans hw194_0)⟩ (fun hHeld => ?_)
                  clear hK K
                  refine norm_ (a' := ?_) ?_ ?_
                  rotate_left
                  · show Act.put _ (some 31) _ = _
                    simp only [Act.put, List.setIfInBounds_toArray, List.set_cons_zero, List.set_cons_succ, i64_w, i32_w]
                    rfl
                  refine pure_ (i := 14) (N := some 5) (v := ?_) (a' := ?_) #[true, true, true, true, true, true, true, true, true, true, true, true, true, true, true] rfl rfl (any_of HT_.out (by kernel_rfl)) (fun _ _ _ h => h) (Or.inl ⟨by rfl, ?_⟩) ?_ ?_
                  rotate_left
                  · intro w'
                    go_simp
                    with_reducible rfl
                  rotate_left
                  · simp only [Act.put, List.setIfInBounds_toArray, List.set_cons_zero, List.set_cons_succ, i64_w, i32_w]
                    rfl
                  refine done_ (done_of HT_.out (by kernel_rfl)) ?_
                  try go_wp2
                  go_roundg k1
                  case measure => have := HK1.out; omega
                  case rel => exact ⟨(y195), (wrap64 (x6_1 + 1)), (by first | rfl | (simp; done) | (simp [*]; done)), H', ⟨by have := HK1.out; omega⟩, ⟨by (with_reducible repeat (first | apply Kd.R_alloc | apply Kd.R_drewN | apply Kd.R_drew)); exact HO197.out⟩, ⟨by repeat (first | (with_reducible first | exact HB.out | apply below_alloc | apply pw_below_drewN | apply below_drew1) | exact HB.out)⟩⟩
                · rw [if_neg c9] at H
                  exact absurd H (by simp)
              · rw [if_neg c8] at H
                exact absurd H (by simp)
            · rw [if_neg c7] at H
              exact absurd H (by simp)
          · rw [if_neg c5] at H
            exact absurd H (by simp)
        · rw [if_neg c4] at H
          have c4b0 : decide (x6_1 < a1) = false := decide_eq_false c4
          clear c4
          obtain rfl := Option.some.inj H
          go_wp2
          go_ret
          exact ⟨_, by first | rfl | (simp [errW_none, errW_some] <;> rfl) | (simp [*, errW_none, errW_some] <;> rfl), by (with_reducible repeat (first | apply Kd.R_alloc | apply Kd.R_drewN | apply Kd.R_drew)); exact HO_5.out, by repeat (first | (with_reducible first | exact HB.out | apply below_alloc | apply pw_below_drewN | apply below_drew1) | exact HB.out)⟩
      · rw [if_neg c3] at H
        have c3b0 : decide (x6_1 < (l0.length : Int)) = false := decide_eq_false c3
        clear c3
        obtain rfl := Option.some.inj H
        go_wp2
        go_ret
        exact ⟨_, by first | rfl | (simp [errW_none, errW_some] <;> rfl) | (simp [*, errW_none, errW_some] <;> rfl), by (with_reducible repeat (first | apply Kd.R_alloc | apply Kd.R_drewN | apply Kd.R_drew)); exact HO_5.out, by repeat (first | (with_reducible first | exact HB.out | apply below_alloc | apply pw_below_drewN | apply below_drew1) | exact HB.out)⟩

end Go.Proofs.YtjkdenldddjcnaaDoor.Df
namespace Go.Proofs.YtjkdenldddjcnaaDoor.Df
open Go.RowKit Go.Proofs.YtjkdenldddjcnaaDoor.Sha Go.Proofs.YtjkdenldddjcnaaDoorW.PrintWords Go.Proofs.YtjkdenldddjcnaaDoorW.PrintLast Go.Proofs.YtjkdenldddjcnaaDoorW.PrintMore
attribute [local go_sem] max2_int min2_int max_two min_two max_three min_three max_four min_four   -- for this text's walks alone
set_option linter.unusedVariables false
set_option linter.unusedSimpArgs false

end Go.Proofs.YtjkdenldddjcnaaDoor.Df
set_option linter.unusedVariables false
set_option linter.unusedSimpArgs false
namespace Go.Proofs.YtjkdenldddjcnaaDoor.Sha
open Go Go.RowKit Go.Shelf Go.Proofs.YtjkdenldddjcnaaDoor.Rf Go.Proofs.YtjkdenldddjcnaaDoorW.PrintWords Go.Proofs.YtjkdenldddjcnaaDoorW.PrintLast Go.Proofs.YtjkdenldddjcnaaDoorW.PrintMore

theorem info9 : (Tryd.prog.info? 9).map (fun i => (i.zero, i.size, i.bytes)) = some (some (.string ⟨#[]⟩), 1, 16) := by kernel_rfl
theorem info3 : (Tryd.prog.info? 3).map (fun i => (i.zero, i.size, i.bytes)) = some (some (.int .i64 0), 1, 8) := by kernel_rfl
theorem own_at {w : World} {base : Nat} {e : TypeId} {g n cap : Nat} {xs : List Value} (h : w.ownsRow base e 1 (.slice (some ⟨g, 0, none⟩) n cap) n xs) (j : Nat) (u : Value) (hu : xs[j]? = some u) : w.cell? ⟨g, j, none⟩ = some u := by
  have := h.cells (g := g) rfl j u hu
  have hadd : (⟨g, 0, none⟩ : Addr).add j = ⟨g, j, none⟩ := by unfold Addr.add; split <;> simp_all
  rwa [hadd] at this
theorem own_lt {w : World} {base : Nat} {e : TypeId} {g n cap : Nat} {xs : List Value} (h : w.ownsRow base e 1 (.slice (some ⟨g, 0, none⟩) n cap) n xs) : base ≤ g ∧ g < w.heap.size := h.lt g rfl
theorem own_take {w : World} {base : Nat} {e : TypeId} {g n cap : Nat} {xs : List Value} (h : w.ownsRow base e 1 (.slice (some ⟨g, 0, none⟩) n cap) n xs) (m : Nat) (hm : m ≤ n) : w.ownsRow base e 1 (.slice (some ⟨g, 0, none⟩) m cap) m (xs.take m) := by
  obtain ⟨hl, ⟨h1, _⟩ | ⟨g', cap', cur, e1, hb, hg, hnc, hcm, hcs, ht⟩⟩ := h
  · cases h1
  · injection e1 with e1 e2 e3
    injection e1 with e1
    injection e1 with e1
    subst e1 e3
    refine ⟨by simp; omega, .inr ⟨g, cap, cur, rfl, hb, hg, by omega, hcm, hcs, ?_⟩⟩
    rw [← ht, List.take_take]
    congr 1
    omega
theorem own_keep {w W : World} {base : Nat} {e : TypeId} {v : Value} {n : Nat} {xs : List Value} (h : w.ownsRow base e 1 v n xs) (hb : Below w.heap.size w W) : W.ownsRow base e 1 v n xs :=
  h.kept (row := none) ⟨hb.os, hb.tape, hb.output, hb.size, fun k hk _ => hb.block k hk⟩ (by cases hv : v.ownBlock <;> simp)
theorem one_of_block {w : World} {g : Nat} {x : Value} {t : TypeId} {fr : Nat × Nat} (h : w.heap[g]? = some (.cells #[x] t fr)) : ∀ j u, [x][j]? = some u → w.cell? ((⟨g, 0, none⟩ : Addr).add j) = some u := by
  intro j u hj
  match j, hj with
  | 0, hj =>
    simp at hj
    subst hj
    have hadd : (⟨g, 0, none⟩ : Addr).add 0 = ⟨g, 0, none⟩ := by unfold Addr.add; split <;> simp_all
    rw [hadd]
    simp [World.cell?, h]
theorem own_apart {w : World} {base : Nat} {e e' : TypeId} {g n cap : Nat} {xs : List Value} {v : Value} {m : Nat} {ys : List Value} (h : w.ownsRow base e 1 (.slice (some ⟨g, 0, none⟩) n cap) n xs) (k : w.ownsRow base e' 1 v m ys) (hne : e ≠ e') :
    v.ownBlock = none ∨ v.ownBlock ≠ (Value.slice (some ⟨g, 0, none⟩) (n - 2) cap).ownBlock := by
  obtain ⟨_, ⟨h1, _⟩ | ⟨g1, cap1, cur1, e1, _, hg1, _⟩⟩ := h
  · cases h1
  · obtain ⟨_, ⟨rfl, _⟩ | ⟨g2, cap2, cur2, rfl, _, hg2, _⟩⟩ := k
    · exact .inl rfl
    · refine .inr fun hh => ?_
      injection e1 with e1 e2 e3
      injection e1 with e1
      injection e1 with e1
      simp only [Value.ownBlock, Option.some.injEq] at hh
      subst hh
      subst e1
      rw [hg1] at hg2
      injection hg2 with hg2
      injection hg2 with _ he
      exact hne he
theorem step_own {P : Program} {ops : Array Oper} {o : Oper} {a : Act} {K : Act → World → Prop} {Q : Exit → Act → World → Prop} (w : World) (hw : Region.wanted o (yielded ops a.tmps) = true) (s x : Operand) (t : TypeId)
    (ho : o.op = .call { callee := .builtin .append, args := #[s, x], argTypes := #[t, t] })
    (base : Nat) (e : TypeId) (i : TypeInfo) (z : Value) (size bytes : Nat) (ht : P.underlying t = some (.slice e)) (hi : P.info? e = some i) (hz : i.zero = some z)
    (hsize : i.size = size) (hby : i.bytes = bytes) (hzs : z.cells.size = size) (hsz : 0 < size)
    (v : Value) (n : Nat) (xs : List Value) (hs : a.eval s = v) (hown : w.ownsRow base e size v n xs)
    (ad : Addr) (m c : Nat) (news : List Value) (hx : a.eval x = .slice (some ad) m c) (hl : news.length = m * size) (hnews : ∀ j u, news[j]? = some u → w.cell? (ad.add j) = some u) (h1 : ∀ u ∈ news, u.oneCell' = true)
    (h63 : n + m ≤ maxLen) (hbytes : (n + m) * bytes ≤ 140737488355328) (hbase : base ≤ w.heap.size)
    (h : ∀ v' w', w'.ownsRow base e size v' (n + m) (xs ++ news) → w.grownBy w' v.ownBlock → (v' = .slice none 0 0 ↔ v = .slice none 0 0 ∧ m = 0) → K (a.put o.dst v') w') :
    if Region.wanted o (yielded ops a.tmps) = true then Oper.wp P o a w K Q else K (a.put o.dst undef) w := by
  rw [if_pos hw]
  exact wp_append_own w s x t ho base e i z size bytes ht hi hz hsize hby hzs hsz v n xs hs hown ad m c news hx hl hnews h1 h63 hbytes hbase h
def SRt (v : World) (g cap n : Nat) (u4 : Value) (k4 : Nat) (ws ss : List Value) (W : World) : Prop :=
  W.ownsRow v.heap.size 9 1 (.slice (some ⟨g, 0, none⟩) n cap) n ws ∧ W.ownsRow v.heap.size 3 1 u4 k4 ss ∧ Amb v ∧ Below v.heap.size v W
theorem keepSRt {v : World} {g cap n : Nat} {u4 : Value} {k4 : Nat} {ws ss : List Value} {W W' : World} (h : SRt v g cap n u4 k4 ws ss W) (hb : Below W.heap.size W W') : SRt v g cap n u4 k4 ws ss W' := by
  obtain ⟨h1, h2, h3, h4⟩ := h
  exact ⟨own_keep h1 hb, own_keep h2 hb, h3, below_then h4 h4.size hb⟩
def SRu (v : World) (g cap n : Nat) (vw : Value) (kw : Nat) (xw ss : List Value) (W : World) : Prop :=
  W.ownsRow v.heap.size 3 1 (.slice (some ⟨g, 0, none⟩) n cap) n ss ∧ W.ownsRow v.heap.size 9 1 vw kw xw ∧ Amb v ∧ Below v.heap.size v W
theorem keepSRu {v : World} {g cap n : Nat} {vw : Value} {kw : Nat} {xw ss : List Value} {W W' : World} (h : SRu v g cap n vw kw xw ss W) (hb : Below W.heap.size W W') : SRu v g cap n vw kw xw ss W' := by
  obtain ⟨h1, h2, h3, h4⟩ := h
  exact ⟨own_keep h1 hb, own_keep h2 hb, h3, below_then h4 h4.size hb⟩
def root.T10 : Bool × List (List Nat × List Nat) := (true, [([], []), ([], []), ([1], [1]), ([0, 2], [0, 2]), ([], []), ([], []), ([5], [5]), ([4, 6], [4, 6]), ([7], [7]), ([], []), ([], []), ([10], [10]), ([9, 11], [9, 11]), ([12], [12]), ([8, 13], [8, 13]), ([14], [14]), ([3, 15, 14], [3, 15]), ([16, 16, 0, 1, 2, 3, 4, 5, 6, 7, 8, 9, 10, 11, 12, 13, 14, 15, 16], [0, 4, 9, 16])])
def root.B10 : List Nat := [0, 0, 2, 7, 0, 0, 32, 112, 240, 0, 0, 1024, 3584, 7680, 16368, 32752, 65535, 131071]
theorem root.tab10 : rtab .any (opsOf Tryd.f19 10) = root.T10 := by kernel_rfl
theorem root.bits10 : waitsOk root.T10.2 root.B10 = true := by kernel_rfl
noncomputable def rootR10 : Code := ((Tryd.f19.body.bind (regionOf 10)).getD .skip)
set_option maxHeartbeats 4000000 in
set_option maxRecDepth 100000 in
theorem root_r10 (R : Act → World → Prop) (v W : World) (v0 v1 v2 v5 v6 v8 v9 v10 v11 v12 v13 v14 v15 v16 v17 v18 v19 v20 v21 v22 v23 v24 v25 v26 v27 v28 v29 v30 v31 v32 v33 v34 v35 v36 v37 v38 v39 v40 v41 v42 v43 v44 v45 v46 v47 v48 v49 v50 v51 v52 v53 v54 v55 v56 v57 v58 v59 v60 v61 v62 v63 v64 v65 v66 v67 v68 v69 v70 v71 v72 v73 v74 v75 v76 v77 v78 v79 v80 v81 v82 v83 v84 v85 v86 v87 v88 v89 v90 v91 v92 v93 v94 v95 : Value) (u4 : Value) (g cap n m1 m2 k4 : Nat) (a b : ByteArray) (ws ss : List Value)
    (hn : n ≤ 1000000) (h2 : m2 + 2 = n) (h1 : m1 + 1 = n) (hcap : n ≤ cap)
    (k1 : IntKind.i64.wrap ((n : Int) - 1) = (m1 : Int)) (k2 : IntKind.i64.wrap ((n : Int) - 2) = (m2 : Int)) (y1 : IntKind.i64.wrap (m1 : Int) = (m1 : Int)) (y2 : IntKind.i64.wrap (m2 : Int) = (m2 : Int))
    (x1 : ((m1 : Int) < (n : Int)) = True) (x2 : ((m2 : Int) < (n : Int)) = True) (x3 : ((m2 : Int) ≤ (cap : Int)) = True) (z1 : (m1 < n) = True) (z2 : (m2 < n) = True) (z3 : (m2 ≤ cap) = True)
    (ha : ws[m2]? = some (.string a)) (hb : ws[m1]? = some (.string b)) (hnode : a.size + b.size ≤ 549755813888)
    (hS : SRt v g cap n u4 k4 ws ss W)
    (hQ : ∀ (z44 z45 z46 z47 z48 z49 z50 z51 z52 z53 z54 z55 z56 z57 z58 z59 z60 v' : Value) (W' : World), W'.ownsRow v.heap.size 9 1 v' (m2 + 1) (ws.take m2 ++ [.string (nodeF a b)]) ∧ W'.ownsRow v.heap.size 3 1 u4 k4 ss ∧ Amb v ∧ Below v.heap.size v W' → R ⟨#[v0, v1, v2, v', u4, v5, v6, Value.int .i64 (n : Int), v8, v9, v10, v11, v12, v13, v14, v15, v16, v17, v18, v19, v20, v21, v22, v23, v24, v25, v26, v27, v28, v29, v30, v31, v32, v33, v34, v35, v36, v37, v38, v39, v40, v41, v42, v43, z44, z45, z46, z47, z48, z49, z50, z51, z52, z53, z54, z55, z56, z57, z58, z59, z60, v61, v62, v63, v64, v65, v66, v67, v68, v69, v70, v71, v72, v73, v74, v75, v76, v77, v78, v79, v80, v81, v82, v83, v84, v85, v86, v87, v88, v89, v90, v91, v92, v93, v94, v95], []⟩ W') :
    rootR10.wp Tryd.prog (Norm R) ⟨#[v0, v1, v2, Value.slice (some ⟨g, 0, none⟩) n cap, u4, v5, v6, Value.int .i64 (n : Int), v8, v9, v10, v11, v12, v13, v14, v15, v16, v17, v18, v19, v20, v21, v22, v23, v24, v25, v26, v27, v28, v29, v30, v31, v32, v33, v34, v35, v36, v37, v38, v39, v40, v41, v42, v43, v44, v45, v46, v47, v48, v49, v50, v51, v52, v53, v54, v55, v56, v57, v58, v59, v60, v61, v62, v63, v64, v65, v66, v67, v68, v69, v70, v71, v72, v73, v74, v75, v76, v77, v78, v79, v80, v81, v82, v83, v84, v85, v86, v87, v88, v89, v90, v91, v92, v93, v94, v95], []⟩ W := by
  unfold rootR10
  conv => arg 2; whnf
  refine start_ (n := 18) (S := SRt v g cap n u4 k4 ws ss) (ds := [16]) #[false, false, false, false, false, false, false, false, false, false, false, false, false, false, false, false, false, false] (by kernel_rfl) rfl rfl (keepSRt hS (below_drew1 (Below.refl _ _))) (fun hHeld => ?_); refine with_tabW root.tab10 root.bits10 (fun HT_ HW_ => ?_)
  generalize W.drew = w0_ at hHeld ⊢
  refine pure_ (i := 0) (N := some 44) (v := ?_) (a' := ?_) #[true, false, false, false, false, false, false, false, false, false, false, false, false, false, false, false, false, false] rfl rfl (any_of HT_.out (by kernel_rfl)) (fun _ _ _ h => h) (Or.inl ⟨by rfl, ?_⟩) ?_ ?_
  rotate_left
  · intro w'
    go_simp
    with_reducible rfl
  rotate_left
  · simp only [Act.put, List.setIfInBounds_toArray, List.set_cons_zero, List.set_cons_succ, i64_w, i32_w]
    rfl
  refine pure_ (i := 1) (N := some 45) (v := ?_) (a' := ?_) #[true, true, false, false, false, false, false, false, false, false, false, false, false, false, false, false, false, false] rfl rfl (any_of HT_.out (by kernel_rfl)) (fun _ _ _ h => h) (Or.inl ⟨by rfl, ?_⟩) ?_ ?_
  rotate_left
  · intro w'
    go_simp
    with_reducible rfl
  rotate_left
  · simp only [Act.put, List.setIfInBounds_toArray, List.set_cons_zero, List.set_cons_succ, i64_w, i32_w]
    rfl
  refine pure_ (i := 2) (N := some 46) (v := ?_) (a' := ?_) #[true, true, true, false, false, false, false, false, false, false, false, false, false, false, false, false, false, false] rfl rfl (any_of HT_.out (by kernel_rfl)) (fun _ _ _ h => h) (Or.inl ⟨by rfl, ?_⟩) ?_ ?_
  rotate_left
  · intro w'
    go_simp
    with_reducible rfl
  rotate_left
  · simp only [Act.put, List.setIfInBounds_toArray, List.set_cons_zero, List.set_cons_succ, i64_w, i32_w]
    rfl
  refine pure_ (i := 3) (N := some 47) (v := ?_) (a' := ?_) #[true, true, true, true, false, false, false, false, false, false, false, false, false, false, false, false, false, false] rfl rfl (any_of HT_.out (by kernel_rfl)) (fun _ _ _ h => h) (Or.inl ⟨by rfl, ?_⟩) ?_ ?_
  rotate_left
  · intro w'
    go_simp
    with_reducible rfl
  rotate_left
  · simp only [Act.put, List.setIfInBounds_toArray, List.set_cons_zero, List.set_cons_succ, i64_w, i32_w]
    rfl
  refine pure_ (i := 4) (N := some 48) (v := ?_) (a' := ?_) #[true, true, true, true, true, false, false, false, false, false, false, false, false, false, false, false, false, false] rfl rfl (any_of HT_.out (by kernel_rfl)) (fun _ _ _ h => h) (Or.inl ⟨by rfl, ?_⟩) ?_ ?_
  rotate_left
  · intro w'
    go_simp
    with_reducible rfl
  rotate_left
  · simp only [Act.put, List.setIfInBounds_toArray, List.set_cons_zero, List.set_cons_succ, i64_w, i32_w]
    rfl
  refine pure_ (i := 5) (N := some 49) (v := ?_) (a' := ?_) #[true, true, true, true, true, true, false, false, false, false, false, false, false, false, false, false, false, false] rfl rfl (any_of HT_.out (by kernel_rfl)) (fun _ _ _ h => h) (Or.inl ⟨by rfl, ?_⟩) ?_ ?_
  rotate_left
  · intro w'
    go_simp
    with_reducible rfl
  rotate_left
  · simp only [Act.put, List.setIfInBounds_toArray, List.set_cons_zero, List.set_cons_succ, i64_w, i32_w]
    rfl
  refine pure_ (i := 6) (N := some 50) (v := ?_) (a' := ?_) #[true, true, true, true, true, true, true, false, false, false, false, false, false, false, false, false, false, false] rfl rfl (any_of HT_.out (by kernel_rfl)) (fun _ _ _ h => h) (Or.inl ⟨by rfl, ?_⟩) ?_ ?_
  rotate_left
  · intro w'
    go_simp
    with_reducible rfl
  rotate_left
  · simp only [Act.put, List.setIfInBounds_toArray, List.set_cons_zero, List.set_cons_succ, i64_w, i32_w]
    rfl
  refine pure_ (i := 7) (N := some 51) (v := ?_) (a' := ?_) #[true, true, true, true, true, true, true, true, false, false, false, false, false, false, false, false, false, false] rfl rfl (any_of HT_.out (by kernel_rfl)) (fun _ _ _ h => h) (Or.inl ⟨by rfl, ?_⟩) ?_ ?_
  rotate_left
  · intro w'
    go_simp
    with_reducible rfl
  rotate_left
  · simp only [Act.put, List.setIfInBounds_toArray, List.set_cons_zero, List.set_cons_succ, i64_w, i32_w]
    rfl
  refine pure_ (i := 9) (N := some 53) (v := ?_) (a' := ?_) #[true, true, true, true, true, true, true, true, false, true, false, false, false, false, false, false, false, false] rfl rfl (any_of HT_.out (by kernel_rfl)) (fun _ _ _ h => h) (Or.inl ⟨by rfl, ?_⟩) ?_ ?_
  rotate_left
  · intro w'
    go_simp
    with_reducible rfl
  rotate_left
  · simp only [Act.put, List.setIfInBounds_toArray, List.set_cons_zero, List.set_cons_succ, i64_w, i32_w]
    rfl
  refine pure_ (i := 10) (N := some 54) (v := ?_) (a' := ?_) #[true, true, true, true, true, true, true, true, false, true, true, false, false, false, false, false, false, false] rfl rfl (any_of HT_.out (by kernel_rfl)) (fun _ _ _ h => h) (Or.inl ⟨by rfl, ?_⟩) ?_ ?_
  rotate_left
  · intro w'
    go_simp
    with_reducible rfl
  rotate_left
  · simp only [Act.put, List.setIfInBounds_toArray, List.set_cons_zero, List.set_cons_succ, i64_w, i32_w]
    rfl
  refine pure_ (i := 11) (N := some 55) (v := ?_) (a' := ?_) #[true, true, true, true, true, true, true, true, false, true, true, true, false, false, false, false, false, false] rfl rfl (any_of HT_.out (by kernel_rfl)) (fun _ _ _ h => h) (Or.inl ⟨by rfl, ?_⟩) ?_ ?_
  rotate_left
  · intro w'
    go_simp
    with_reducible rfl
  rotate_left
  · simp only [Act.put, List.setIfInBounds_toArray, List.set_cons_zero, List.set_cons_succ, i64_w, i32_w]
    rfl
  refine pure_ (i := 12) (N := some 56) (v := ?_) (a' := ?_) #[true, true, true, true, true, true, true, true, false, true, true, true, true, false, false, false, false, false] rfl rfl (any_of HT_.out (by kernel_rfl)) (fun _ _ _ h => h) (Or.inl ⟨by rfl, ?_⟩) ?_ ?_
  rotate_left
  · intro w'
    go_simp
    with_reducible rfl
  rotate_left
  · simp only [Act.put, List.setIfInBounds_toArray, List.set_cons_zero, List.set_cons_succ, i64_w, i32_w]
    rfl
  refine take_ (i := 8) (N := some 52) (v := ?_) (a' := ?_) #[true, true, true, true, true, true, true, true, true, true, true, true, true, false, false, false, false, false] rfl rfl (take_ofW HT_.out HW_.out (by kernel_rfl)) (fun _ _ _ h => h) (Or.inl ⟨by rfl, ?_⟩) hHeld ?_ ?_
  rotate_left
  · intro w' hS_
    have ca_ := own_at hS_.1 m2 _ ha
    have cb_ := own_at hS_.1 m1 _ hb
    go_simp
    with_reducible rfl
  rotate_left
  · simp only [Act.put, List.setIfInBounds_toArray, List.set_cons_zero, List.set_cons_succ, i64_w, i32_w]
    rfl
  refine take_ (i := 13) (N := some 57) (v := ?_) (a' := ?_) #[true, true, true, true, true, true, true, true, true, true, true, true, true, true, false, false, false, false] rfl rfl (take_ofW HT_.out HW_.out (by kernel_rfl)) (fun _ _ _ h => h) (Or.inl ⟨by rfl, ?_⟩) hHeld ?_ ?_
  rotate_left
  · intro w' hS_
    have ca_ := own_at hS_.1 m2 _ ha
    have cb_ := own_at hS_.1 m1 _ hb
    go_simp
    with_reducible rfl
  rotate_left
  · simp only [Act.put, List.setIfInBounds_toArray, List.set_cons_zero, List.set_cons_succ, i64_w, i32_w]
    rfl
  refine one_ (i := 14) (N := some 58) #[true, true, true, true, true, true, true, true, true, true, true, true, true, true, true, false, false, false] rfl rfl (one_of HT_.out (by kernel_rfl)) (by decide) (fun K hK => ?_)
  refine goes_ Tryd.func32 (by kernel_rfl) rfl #[.string a, .string b] (by rfl) rfl rfl (by (try simp only [List.map_toArray, List.map_cons, List.map_nil]); first | done | rfl) ?_
  refine (node_calls a b _ (hHeld.2.2.1.below hHeld.2.2.2) hnode).mono ?_
  rintro e w1_ ⟨rfl, hd⟩
  refine ⟨_, rfl, ?_⟩
  refine hK.out _ _ (keepSRt hHeld hd) (fun hHeld => ?_)
  clear hK K hd
  refine norm_ (a' := ?_) ?_ ?_
  rotate_left
  · show Act.put _ (some 58) _ = _
    simp only [Act.put, List.setIfInBounds_toArray, List.set_cons_zero, List.set_cons_succ, i64_w, i32_w]
    rfl
  refine one_ (i := 15) (N := some 59) #[true, true, true, true, true, true, true, true, true, true, true, true, true, true, true, true, false, false] rfl rfl (one_of HT_.out (by kernel_rfl)) (by decide) (fun K hK => ?_)
  go_simp
  refine hK.out _ _ (keepSRt hHeld (below_alloc (Below.refl _ _) _)) (fun hHeld => ?_)
  clear hK K
  have hg15 := heap_alloc_new w1_ (Obj.cells #[.string (nodeF a b)] 9)
  generalize hw2_ : w1_.alloc (Obj.cells #[.string (nodeF a b)] 9) = w2_ at hg15 hHeld ⊢
  clear hw2_
  refine last_ (i := 16) (N := some 60) #[true, true, true, true, true, true, true, true, true, true, true, true, true, true, true, true, true, false] rfl rfl (one_of HT_.out (by kernel_rfl)) (by decide) (fun K hK => ?_)
  obtain ⟨ho_, hs_, hr_, hb_⟩ := hHeld
  obtain ⟨i9_, hi9_, h91_, h92_, h93_⟩ := info_parts info9
  refine step_own _ (by rfl) (.tmp 47) (.tmp 59) 22 rfl v.heap.size 9 i9_ (.string ⟨#[]⟩) 1 16 Tryd.underlying22 hi9_ h91_ h92_ h93_ rfl (by decide) _ m2 _ rfl (own_take ho_ m2 (by omega)) ⟨_, 0, none⟩ 1 1 [.string (nodeF a b)] rfl rfl (one_of_block hg15) (by simp [Value.oneCell']) (by unfold maxLen; omega) (by omega) hb_.size ?_
  intro v' w' hown_ hgr_ _
  refine hK.out _ _ ?_
  clear hK K
  refine norm_ (a' := ?_) ?_ ?_
  rotate_left
  · show Act.put _ (some 60) _ = _
    simp only [Act.put, List.setIfInBounds_toArray, List.set_cons_zero, List.set_cons_succ, i64_w, i32_w]
    rfl
  refine pure_ (i := 17) (N := some 3) (v := ?_) (a' := ?_) #[true, true, true, true, true, true, true, true, true, true, true, true, true, true, true, true, true, true] rfl rfl (any_of HT_.out (by kernel_rfl)) (fun _ _ _ h => h) (Or.inl ⟨by rfl, ?_⟩) ?_ ?_
  rotate_left
  · intro w'
    go_simp
    with_reducible rfl
  rotate_left
  · simp only [Act.put, List.setIfInBounds_toArray, List.set_cons_zero, List.set_cons_succ, i64_w, i32_w]
    rfl
  refine done_ (done_of HT_.out (by kernel_rfl)) ?_
  exact hQ _ _ _ _ _ _ _ _ _ _ _ _ _ _ _ _ _ v' w' ⟨hown_, hs_.kept hgr_ (own_apart ho_ hs_ (by decide)), hr_, hb_.grown hgr_ hb_.size (fun k e => by have e1 : g = k := Option.some.inj e; rw [← e1]; exact (own_lt ho_).1)⟩
def root.T11 : Bool × List (List Nat × List Nat) := (true, [([], []), ([], []), ([1], [1]), ([0, 2], [0, 2]), ([], []), ([], []), ([5], [5]), ([4, 6], [4, 6]), ([7], [7]), ([8], [8]), ([9], [9]), ([3, 10], [3, 10]), ([11, 11, 0, 1, 2, 3, 4, 5, 6, 7, 8, 9, 10, 11], [0, 4, 11])])
def root.B11 : List Nat := [0, 0, 2, 7, 0, 0, 32, 112, 240, 496, 1008, 2047, 4095]
theorem root.tab11 : rtab .any (opsOf Tryd.f19 11) = root.T11 := by kernel_rfl
theorem root.bits11 : waitsOk root.T11.2 root.B11 = true := by kernel_rfl
noncomputable def rootR11 : Code := ((Tryd.f19.body.bind (regionOf 11)).getD .skip)
set_option maxHeartbeats 4000000 in
set_option maxRecDepth 100000 in
theorem root_r11 (R : Act → World → Prop) (v W : World) (v0 v1 v2 v5 v6 v8 v9 v10 v11 v12 v13 v14 v15 v16 v17 v18 v19 v20 v21 v22 v23 v24 v25 v26 v27 v28 v29 v30 v31 v32 v33 v34 v35 v36 v37 v38 v39 v40 v41 v42 v43 v44 v45 v46 v47 v48 v49 v50 v51 v52 v53 v54 v55 v56 v57 v58 v59 v60 v61 v62 v63 v64 v65 v66 v67 v68 v69 v70 v71 v72 v73 v74 v75 v76 v77 v78 v79 v80 v81 v82 v83 v84 v85 v86 v87 v88 v89 v90 v91 v92 v93 v94 v95 : Value) (vw : Value) (g cap n m1 m2 kw y1 y2 : Nat) (xw ss : List Value)
    (hn : n ≤ 1000000) (h2 : m2 + 2 = n) (h1 : m1 + 1 = n) (hcap : n ≤ cap)
    (k1 : IntKind.i64.wrap ((n : Int) - 1) = (m1 : Int)) (k2 : IntKind.i64.wrap ((n : Int) - 2) = (m2 : Int)) (ky1 : IntKind.i64.wrap (m1 : Int) = (m1 : Int)) (ky2 : IntKind.i64.wrap (m2 : Int) = (m2 : Int)) (k3 : IntKind.i64.wrap (2 * (y1 : Int)) = (y2 : Int))
    (x1 : ((m1 : Int) < (n : Int)) = True) (x2 : ((m2 : Int) < (n : Int)) = True) (x3 : ((m2 : Int) ≤ (cap : Int)) = True) (z1 : (m1 < n) = True) (z2 : (m2 < n) = True) (z3 : (m2 ≤ cap) = True)
    (hb : ss[m1]? = some (.int .i64 (y1 : Int)))
    (hS : SRu v g cap n vw kw xw ss W)
    (hQ : ∀ (z61 z62 z63 z64 z65 z66 z67 z68 z69 z70 z71 z72 v' : Value) (W' : World), W'.ownsRow v.heap.size 3 1 v' (m2 + 1) (ss.take m2 ++ [.int .i64 (y2 : Int)]) ∧ W'.ownsRow v.heap.size 9 1 vw kw xw ∧ Amb v ∧ Below v.heap.size v W' → R ⟨#[v0, v1, v2, vw, v', v5, v6, Value.int .i64 (n : Int), v8, v9, v10, v11, v12, v13, v14, v15, v16, v17, v18, v19, v20, v21, v22, v23, v24, v25, v26, v27, v28, v29, v30, v31, v32, v33, v34, v35, v36, v37, v38, v39, v40, v41, v42, v43, v44, v45, v46, v47, v48, v49, v50, v51, v52, v53, v54, v55, v56, v57, v58, v59, v60, z61, z62, z63, z64, z65, z66, z67, z68, z69, z70, z71, z72, v73, v74, v75, v76, v77, v78, v79, v80, v81, v82, v83, v84, v85, v86, v87, v88, v89, v90, v91, v92, v93, v94, v95], []⟩ W') :
    rootR11.wp Tryd.prog (Norm R) ⟨#[v0, v1, v2, vw, Value.slice (some ⟨g, 0, none⟩) n cap, v5, v6, Value.int .i64 (n : Int), v8, v9, v10, v11, v12, v13, v14, v15, v16, v17, v18, v19, v20, v21, v22, v23, v24, v25, v26, v27, v28, v29, v30, v31, v32, v33, v34, v35, v36, v37, v38, v39, v40, v41, v42, v43, v44, v45, v46, v47, v48, v49, v50, v51, v52, v53, v54, v55, v56, v57, v58, v59, v60, v61, v62, v63, v64, v65, v66, v67, v68, v69, v70, v71, v72, v73, v74, v75, v76, v77, v78, v79, v80, v81, v82, v83, v84, v85, v86, v87, v88, v89, v90, v91, v92, v93, v94, v95], []⟩ W := by
  unfold rootR11
  conv => arg 2; whnf
  refine start_ (n := 13) (S := SRu v g cap n vw kw xw ss) (ds := [11]) #[false, false, false, false, false, false, false, false, false, false, false, false, false] (by kernel_rfl) rfl rfl (keepSRu hS (below_drew1 (Below.refl _ _))) (fun hHeld => ?_); refine with_tabW root.tab11 root.bits11 (fun HT_ HW_ => ?_)
  generalize W.drew = w0_ at hHeld ⊢
  refine pure_ (i := 0) (N := some 61) (v := ?_) (a' := ?_) #[true, false, false, false, false, false, false, false, false, false, false, false, false] rfl rfl (any_of HT_.out (by kernel_rfl)) (fun _ _ _ h => h) (Or.inl ⟨by rfl, ?_⟩) ?_ ?_
  rotate_left
  · intro w'
    go_simp
    with_reducible rfl
  rotate_left
  · simp only [Act.put, List.setIfInBounds_toArray, List.set_cons_zero, List.set_cons_succ, i64_w, i32_w]
    rfl
  refine pure_ (i := 1) (N := some 62) (v := ?_) (a' := ?_) #[true, true, false, false, false, false, false, false, false, false, false, false, false] rfl rfl (any_of HT_.out (by kernel_rfl)) (fun _ _ _ h => h) (Or.inl ⟨by rfl, ?_⟩) ?_ ?_
  rotate_left
  · intro w'
    go_simp
    with_reducible rfl
  rotate_left
  · simp only [Act.put, List.setIfInBounds_toArray, List.set_cons_zero, List.set_cons_succ, i64_w, i32_w]
    rfl
  refine pure_ (i := 2) (N := some 63) (v := ?_) (a' := ?_) #[true, true, true, false, false, false, false, false, false, false, false, false, false] rfl rfl (any_of HT_.out (by kernel_rfl)) (fun _ _ _ h => h) (Or.inl ⟨by rfl, ?_⟩) ?_ ?_
  rotate_left
  · intro w'
    go_simp
    with_reducible rfl
  rotate_left
  · simp only [Act.put, List.setIfInBounds_toArray, List.set_cons_zero, List.set_cons_succ, i64_w, i32_w]
    rfl
  refine pure_ (i := 3) (N := some 64) (v := ?_) (a' := ?_) #[true, true, true, true, false, false, false, false, false, false, false, false, false] rfl rfl (any_of HT_.out (by kernel_rfl)) (fun _ _ _ h => h) (Or.inl ⟨by rfl, ?_⟩) ?_ ?_
  rotate_left
  · intro w'
    go_simp
    with_reducible rfl
  rotate_left
  · simp only [Act.put, List.setIfInBounds_toArray, List.set_cons_zero, List.set_cons_succ, i64_w, i32_w]
    rfl
  refine pure_ (i := 4) (N := some 65) (v := ?_) (a' := ?_) #[true, true, true, true, true, false, false, false, false, false, false, false, false] rfl rfl (any_of HT_.out (by kernel_rfl)) (fun _ _ _ h => h) (Or.inl ⟨by rfl, ?_⟩) ?_ ?_
  rotate_left
  · intro w'
    go_simp
    with_reducible rfl
  rotate_left
  · simp only [Act.put, List.setIfInBounds_toArray, List.set_cons_zero, List.set_cons_succ, i64_w, i32_w]
    rfl
  refine pure_ (i := 5) (N := some 66) (v := ?_) (a' := ?_) #[true, true, true, true, true, true, false, false, false, false, false, false, false] rfl rfl (any_of HT_.out (by kernel_rfl)) (fun _ _ _ h => h) (Or.inl ⟨by rfl, ?_⟩) ?_ ?_
  rotate_left
  · intro w'
    go_simp
    with_reducible rfl
  rotate_left
  · simp only [Act.put, List.setIfInBounds_toArray, List.set_cons_zero, List.set_cons_succ, i64_w, i32_w]
    rfl
  refine pure_ (i := 6) (N := some 67) (v := ?_) (a' := ?_) #[true, true, true, true, true, true, true, false, false, false, false, false, false] rfl rfl (any_of HT_.out (by kernel_rfl)) (fun _ _ _ h => h) (Or.inl ⟨by rfl, ?_⟩) ?_ ?_
  rotate_left
  · intro w'
    go_simp
    with_reducible rfl
  rotate_left
  · simp only [Act.put, List.setIfInBounds_toArray, List.set_cons_zero, List.set_cons_succ, i64_w, i32_w]
    rfl
  refine pure_ (i := 7) (N := some 68) (v := ?_) (a' := ?_) #[true, true, true, true, true, true, true, true, false, false, false, false, false] rfl rfl (any_of HT_.out (by kernel_rfl)) (fun _ _ _ h => h) (Or.inl ⟨by rfl, ?_⟩) ?_ ?_
  rotate_left
  · intro w'
    go_simp
    with_reducible rfl
  rotate_left
  · simp only [Act.put, List.setIfInBounds_toArray, List.set_cons_zero, List.set_cons_succ, i64_w, i32_w]
    rfl
  refine take_ (i := 8) (N := some 69) (v := ?_) (a' := ?_) #[true, true, true, true, true, true, true, true, true, false, false, false, false] rfl rfl (take_ofW HT_.out HW_.out (by kernel_rfl)) (fun _ _ _ h => h) (Or.inl ⟨by rfl, ?_⟩) hHeld ?_ ?_
  rotate_left
  · intro w' hS_
    have cb_ := own_at hS_.1 m1 _ hb
    go_simp
    with_reducible rfl
  rotate_left
  · simp only [Act.put, List.setIfInBounds_toArray, List.set_cons_zero, List.set_cons_succ, i64_w, i32_w]
    rfl
  refine pure_ (i := 9) (N := some 70) (v := ?_) (a' := ?_) #[true, true, true, true, true, true, true, true, true, true, false, false, false] rfl rfl (any_of HT_.out (by kernel_rfl)) (fun _ _ _ h => h) (Or.inl ⟨by rfl, ?_⟩) ?_ ?_
  rotate_left
  · intro w'
    go_simp
    with_reducible rfl
  rotate_left
  · simp only [Act.put, List.setIfInBounds_toArray, List.set_cons_zero, List.set_cons_succ, i64_w, i32_w]
    rfl
  refine one_ (i := 10) (N := some 71) #[true, true, true, true, true, true, true, true, true, true, true, false, false] rfl rfl (one_of HT_.out (by kernel_rfl)) (by decide) (fun K hK => ?_)
  go_simp
  refine hK.out _ _ (keepSRu hHeld (below_alloc (Below.refl _ _) _)) (fun hHeld => ?_)
  clear hK K
  have hg10 := heap_alloc_new w0_ (Obj.cells #[.int .i64 (y2 : Int)] 3)
  generalize hw1_ : w0_.alloc (Obj.cells #[.int .i64 (y2 : Int)] 3) = w1_ at hg10 hHeld ⊢
  clear hw1_
  refine last_ (i := 11) (N := some 72) #[true, true, true, true, true, true, true, true, true, true, true, true, false] rfl rfl (one_of HT_.out (by kernel_rfl)) (by decide) (fun K hK => ?_)
  obtain ⟨ho_, hs_, hr_, hb_⟩ := hHeld
  obtain ⟨i3_, hi3_, h31_, h32_, h33_⟩ := info_parts info3
  refine step_own _ (by rfl) (.tmp 64) (.tmp 71) 49 rfl v.heap.size 3 i3_ (.int .i64 0) 1 8 Tryd.underlying49 hi3_ h31_ h32_ h33_ rfl (by decide) _ m2 _ rfl (own_take ho_ m2 (by omega)) ⟨_, 0, none⟩ 1 1 [.int .i64 (y2 : Int)] rfl rfl (one_of_block hg10) (by simp [Value.oneCell']) (by unfold maxLen; omega) (by omega) hb_.size ?_
  intro v' w' hown_ hgr_ _
  refine hK.out _ _ ?_
  clear hK K
  refine norm_ (a' := ?_) ?_ ?_
  rotate_left
  · show Act.put _ (some 72) _ = _
    simp only [Act.put, List.setIfInBounds_toArray, List.set_cons_zero, List.set_cons_succ, i64_w, i32_w]
    rfl
  refine pure_ (i := 12) (N := some 4) (v := ?_) (a' := ?_) #[true, true, true, true, true, true, true, true, true, true, true, true, true] rfl rfl (any_of HT_.out (by kernel_rfl)) (fun _ _ _ h => h) (Or.inl ⟨by rfl, ?_⟩) ?_ ?_
  rotate_left
  · intro w'
    go_simp
    with_reducible rfl
  rotate_left
  · simp only [Act.put, List.setIfInBounds_toArray, List.set_cons_zero, List.set_cons_succ, i64_w, i32_w]
    rfl
  refine done_ (done_of HT_.out (by kernel_rfl)) ?_
  exact hQ _ _ _ _ _ _ _ _ _ _ _ _ v' w' ⟨hown_, hs_.kept hgr_ (own_apart ho_ hs_ (by decide)), hr_, hb_.grown hgr_ hb_.size (fun k e => by have e1 : g = k := Option.some.inj e; rw [← e1]; exact (own_lt ho_).1)⟩
end Go.Proofs.YtjkdenldddjcnaaDoor.Sha

set_option linter.unusedVariables false
set_option linter.unusedSimpArgs false
namespace Go.Proofs.YtjkdenldddjcnaaDoor.Sha
open Go Go.RowKit Go.Shelf Go.Proofs.YtjkdenldddjcnaaDoor.Rf Go.Proofs.YtjkdenldddjcnaaDoorW.PrintWords Go.Proofs.YtjkdenldddjcnaaDoorW.PrintLast Go.Proofs.YtjkdenldddjcnaaDoorW.PrintMore
attribute [local go_sem] Oper.semAt_some

theorem sumF_size (s : ByteArray) : (sumF s).size = 32 := by
  unfold sumF digW
  rw [strOfNums_size, List.length_map, dst_length]
abbrev St := List (ByteArray × Nat)
/-- The stack's two rows, the bottom first. -/
def wsV (st : St) : List Value := (st.map fun p => Value.string p.1).reverse
def ssV (st : St) : List Value := (st.map fun p => Value.int .i64 (p.2 : Int)).reverse
def mergeF : Nat → St → St
  | 0, st => st
  | k + 1, st => match st with
    | (b, s) :: (a, t) :: r => if t = s then mergeF k ((nodeF a b, 2 * s) :: r) else st
    | _ => st
def stepF (st : St) (x : ByteArray) : St := mergeF (st.length + 1) ((leafF x, 1) :: st)
def foldF (l : List ByteArray) : St := l.foldl stepF []
def endF : St → ByteArray
  | [] => sumF ⟨#[]⟩
  | (x, _) :: r => r.foldl (fun out p => nodeF p.1 out) x
def rootF (l : List ByteArray) : ByteArray := endF (foldF l)
structure Good (st : St) (i : Nat) : Prop where
  h : ∀ p ∈ st, p.1.size = 32 ∧ 1 ≤ p.2
  sum : (st.map (·.2)).sum = i
theorem Good.len {st : St} {i : Nat} (h : Good st i) : st.length ≤ i := by
  obtain ⟨h1, h2⟩ := h
  induction st generalizing i with
  | nil => simp
  | cons p st ih =>
    simp only [List.map_cons, List.sum_cons] at h2
    have := ih (i := (st.map (·.2)).sum) (fun q hq => h1 q (List.mem_cons_of_mem _ hq)) rfl
    have := (h1 p List.mem_cons_self).2
    simp
    omega
theorem wsV_length (st : St) : (wsV st).length = st.length := by simp [wsV]
theorem ssV_length (st : St) : (ssV st).length = st.length := by simp [ssV]
theorem Good.leaf {st : St} {i : Nat} (h : Good st i) (x : ByteArray) : Good ((leafF x, 1) :: st) (i + 1) :=
  ⟨fun p hp => by
    rcases List.mem_cons.1 hp with rfl | hp
    · exact ⟨sumF_size _, Nat.le_refl _⟩
    · exact h.h p hp, by have := h.sum; simp; omega⟩
theorem Good.merge {a b : ByteArray} {s : Nat} {r : St} {i : Nat} (h : Good ((b, s) :: (a, s) :: r) i) : Good ((nodeF a b, 2 * s) :: r) i :=
  ⟨fun p hp => by
    rcases List.mem_cons.1 hp with rfl | hp
    · exact ⟨sumF_size _, by have := (h.h (b, s) List.mem_cons_self).2; simp at this ⊢; omega⟩
    · exact h.h p (List.mem_cons_of_mem _ (List.mem_cons_of_mem _ hp)), by have := h.sum; simp at this ⊢; omega⟩
theorem Good.mergeF : ∀ (k : Nat) {st : St} {i : Nat}, Good st i → Good (mergeF k st) i
  | 0, st, i, h => h
  | k + 1, st, i, h => by
    unfold Sha.mergeF
    split
    · split
      · rename_i hts
        subst hts
        exact Good.mergeF k h.merge
      · exact h
    · exact h
theorem foldF_good : ∀ (l : List ByteArray) (st : St) (i : Nat), Good st i → Good (l.foldl stepF st) (i + l.length)
  | [], st, i, h => h
  | x :: l, st, i, h => by
    have := foldF_good l (stepF st x) (i + 1) (Good.mergeF _ (h.leaf x))
    rw [List.foldl_cons, List.length_cons]
    rwa [Nat.add_assoc, Nat.add_comm 1] at this
theorem good_take (l : List ByteArray) (i : Nat) (hi : i ≤ l.length) : Good (foldF (l.take i)) i := by
  have := foldF_good (l.take i) [] 0 ⟨fun p hp => (by cases hp), rfl⟩
  rw [List.length_take, Nat.min_eq_left hi, Nat.zero_add] at this
  exact this
theorem own_apart2 {w : World} {base : Nat} {e e' : TypeId} {v u : Value} {n m : Nat} {xs ys : List Value} (h : w.ownsRow base e 1 v n xs) (k : w.ownsRow base e' 1 u m ys) (hne : e ≠ e') :
    u.ownBlock = none ∨ u.ownBlock ≠ v.ownBlock := by
  obtain ⟨_, ⟨rfl, _⟩ | ⟨g1, cap1, cur1, rfl, _, hg1, _⟩⟩ := h
  · cases hu : u.ownBlock with
    | none => exact .inl rfl
    | some q => exact .inr (by simp [Value.ownBlock])
  · obtain ⟨_, ⟨rfl, _⟩ | ⟨g2, cap2, cur2, rfl, _, hg2, _⟩⟩ := k
    · exact .inl rfl
    · refine .inr fun hh => ?_
      simp only [Value.ownBlock, Option.some.injEq] at hh
      subst hh
      rw [hg1] at hg2
      injection hg2 with hg2
      injection hg2 with _ he
      exact hne he
theorem own_cap {w : World} {base : Nat} {e : TypeId} {g n cap : Nat} {xs : List Value} (h : w.ownsRow base e 1 (.slice (some ⟨g, 0, none⟩) n cap) n xs) : n ≤ cap := by
  obtain ⟨_, ⟨h1, _⟩ | ⟨g1, cap1, cur1, e1, _, hg1, h2, _⟩⟩ := h
  · cases h1
  · injection e1 with e1 e2 e3
    omega
theorem zip_two {α β : Type} (x x' : α) (y y' : β) : (#[x, x']).zip #[y, y'] = #[(x, y), (x', y')] := by simp
theorem foldl_two {α β : Type} (f : β → α → β) (t : β) (x x' : α) : Array.foldl f t #[x, x'] = f (f t x) x' := by simp
theorem node_size (a b : ByteArray) : (nodeF a b).size = 32 := by
  unfold nodeF
  exact sumF_size _
theorem fold_size {α : Type} (f : α → ByteArray) : ∀ (pre : List α) (x : ByteArray) (_ : x.size = 32), (pre.foldl (fun out y => nodeF (f y) out) x).size = 32
  | [], _, h => h
  | y :: pre, x, _ => by
    rw [List.foldl_cons]
    exact fold_size f pre (nodeF (f y) x) (node_size _ _)
theorem fold_rev {α : Type} [Inhabited α] {β : Type} {m : Nat} (xs : List α) (hxl : xs.length = m) (ys : List (Fin m)) (hys : ys.map Fin.val = (List.range m).reverse) (g : α → β → β) (x : β) :
    ys.foldl (fun out y => g (xs[y.val]'(hxl ▸ y.isLt)) out) x = xs.reverse.foldl (fun out y => g y out) x := by
  have h1 : ys.map (fun y => xs[y.val]'(hxl ▸ y.isLt)) = xs.reverse := by
    have h2 : ys.map (fun y => xs[y.val]'(hxl ▸ y.isLt)) = (ys.map Fin.val).map (fun i => xs.getD i default) := by
      rw [List.map_map]
      apply List.map_congr_left
      intro y _
      have : y.val < xs.length := hxl ▸ y.isLt
      simp [List.getD_eq_getElem?_getD, List.getElem?_eq_getElem this]
    rw [h2, hys, List.map_reverse]
    congr 1
    apply List.ext_getElem?
    intro j
    rw [List.getElem?_map]
    by_cases hj : j < m
    · rw [List.getElem?_range hj, List.getElem?_eq_getElem (by omega)]
      simp [List.getD_eq_getElem?_getD, List.getElem?_eq_getElem (show j < xs.length by omega)]
    · rw [List.getElem?_eq_none (by simp; omega), List.getElem?_eq_none (by omega)]
      rfl
  rw [← h1, List.foldl_map]
theorem wsV_cons (p : ByteArray × Nat) (st : St) : wsV (p :: st) = wsV st ++ [.string p.1] := by simp [wsV]
theorem ssV_cons (p : ByteArray × Nat) (st : St) : ssV (p :: st) = ssV st ++ [.int .i64 (p.2 : Int)] := by simp [ssV]
set_option maxHeartbeats 2000000 in
set_option maxRecDepth 100000 in
theorem root_calls (A0 : Option Addr) (c0 : Nat) (l : List ByteArray) (w : World) (hr0 : Kd.C Kd.string w A0 l.length l) (hc0 : l.length ≤ c0) (hG_ : Amb w) (hln : l.length ≤ 1000000) (hsz : ∀ s ∈ l, s.size ≤ 549755813888) :
    Calls Tryd.prog 19 #[.slice A0 l.length c0] w fun e w' => e = .returned (.string (rootF l)) ∧ Below w.heap.size w w' := by
  have HR0 := Aside0.mk hr0
  clear hr0
  obtain ⟨n0, hn0⟩ : ∃ n0, l.length = n0 := ⟨_, rfl⟩
  rw [hn0] at hc0 hln HR0 ⊢
  replace hn0 := Aside0.mk hn0
  obtain ⟨i9, hi9, h91, h92, h93⟩ := info_parts info9
  obtain ⟨i3, hi3, h31, h32, h33⟩ := info_parts info3
  refine (callsIn_wide (n := 4)).1 ?_
  refine callsIn_of_wp_marks Tryd.func19 rfl trivial ?_ rfl
  refine wpIn_wide.2 ?_
  simp only [Tryd.ntmps19, List.size_toArray, List.length_cons, List.length_nil, Nat.reduceAdd, Nat.reduceSub, Array.replicate_succ, Array.replicate_zero, List.push_toArray, List.append_toArray, List.nil_append, List.cons_append]
  go_upto_region 4 with (fail)
  go_loopw [3, 4, 13] (fun v3 v4 v13 w' => ∃ i : Nat, v13 = .int .i64 i ∧ i ≤ n0 ∧ Aside0 (w'.ownsRow w.heap.size 9 1 v3 (foldF (l.take i)).length (wsV (foldF (l.take i)))) ∧ Aside0 (w'.ownsRow w.heap.size 3 1 v4 (foldF (l.take i)).length (ssV (foldF (l.take i)))) ∧ Aside0 (Below w.heap.size w w')) (fun _ _ v _ => n0 - (intOf v).toNat)
  case atStart => exact ⟨0, rfl, by omega, ⟨World.ownsRow_nil _ _ _ _⟩, ⟨World.ownsRow_nil _ _ _ _⟩, ⟨Below.refl _ _⟩⟩
  case round =>
    obtain ⟨i, rfl, hi, O3, O4, HB⟩ := hrel
    by_cases h1 : i < n0
    · have e1 : decide ((i : Int) < (n0 : Int)) = true := decide_eq_true (by omega)
      have p0 : 0 ≤ (i : Int) := by omega
      have q0 : (i : Int) < (n0 : Int) := by omega
      obtain ⟨ad, ea, hx⟩ := Kd.at_string (Kd.C_below HR0.out HB.out) (i : Int) p0 q0
      cases ea
      replace p0 := eq_true p0
      replace q0 := eq_true q0
      obtain ⟨x, hxl⟩ : ∃ x, l[i]? = some x := ⟨_, List.getElem?_eq_getElem (by rw [hn0.out]; exact h1)⟩
      have hx1 : rdOf ByteArray.empty l (i : Int) = x := by
        unfold rdOf
        simp [hxl]
      rw [hx1, show ((i : Int)).toNat = i by omega] at hx
      have hxs : x.size ≤ 549755813888 := hsz x (List.mem_of_getElem? hxl)
      have hgd := good_take l i (by rw [hn0.out]; exact hi)
      have hfs : foldF (l.take (i + 1)) = stepF (foldF (l.take i)) x := by
        unfold foldF
        rw [List.take_add_one, hxl, List.foldl_append]
        rfl
      replace hfs := Aside0.mk hfs
      replace hxl := Aside0.mk hxl
      obtain ⟨st, hst⟩ : ∃ st, foldF (l.take i) = st := ⟨_, rfl⟩
      rw [hst] at O3 O4 hgd
      replace hst := Aside0.mk hst
      have hsl := hgd.len
      replace hgd := Aside0.mk hgd
      go_wp2_with (first
        | (go_at_call 29; refine (leaf_calls x _ (hG_.below HB.out) hxs).mono ?_; rintro e w1 ⟨rfl, hb1⟩; have O31 := Aside0.mk (own_keep O3.out hb1); have O41 := Aside0.mk (own_keep O4.out hb1); have HB1 := Aside0.mk (below_then HB.out HB.out.size hb1); clear hb1 O3 O4 HB hx)
        | ((with_reducible refine gate_builtin (b := .append) (xs := #[.tmp 17, .tmp 20]) rfl ?_); at_builtin; refine wpList_append_own _ rfl (.tmp 17) (.tmp 20) 22 rfl w.heap.size 9 i9 (.string ⟨#[]⟩) 1 16 Tryd.underlying22 hi9 h91 h92 h93 rfl (by decide) _ st.length (wsV st) rfl (O31.out.alloc _) ⟨w1.heap.size, 0, none⟩ 1 1 [.string (leafF x)] rfl rfl (cell_one_new _ _ _) (by simp [Value.oneCell']) (by unfold maxLen; omega) (by omega) (by have := HB1.out.size; simp; omega) ?_; intro v21 w2 o3 hg2 _; have O42 := Aside0.mk ((O41.out.alloc (.cells #[.string (leafF x)] 9)).kept hg2 (own_apart2 (O31.out.alloc (.cells #[.string (leafF x)] 9)) (O41.out.alloc (.cells #[.string (leafF x)] 9)) (by decide))); have HB2 := Aside0.mk ((below_alloc' HB1.out HB1.out.size (.cells #[.string (leafF x)] 9)).grown hg2 (by have := HB1.out.size; simp; omega) (fun k e => (O31.out.lt k e).1)); obtain ⟨g21, c21, ev21⟩ := ownsRow_succ o3; subst ev21; have O32 := Aside0.mk o3; clear o3 hg2 O31 O41 HB1)
        | ((with_reducible refine gate_builtin (b := .append) (xs := #[.tmp 22, .tmp 23]) rfl ?_); at_builtin; refine wpList_append_own _ rfl (.tmp 22) (.tmp 23) 49 rfl w.heap.size 3 i3 (.int .i64 0) 1 8 Tryd.underlying49 hi3 h31 h32 h33 rfl (by decide) _ st.length (ssV st) rfl (O42.out.alloc _) ⟨w2.heap.size, 0, none⟩ 1 1 [.int .i64 1] rfl rfl (cell_one_new _ _ _) (by simp [Value.oneCell']) (by unfold maxLen; omega) (by omega) (by have := HB2.out.size; simp; omega) ?_; intro v24 w3 o4 hg3 _; have O33 := Aside0.mk ((O32.out.alloc (.cells #[.int .i64 1] 3)).kept hg3 (own_apart2 (O42.out.alloc (.cells #[.int .i64 1] 3)) (O32.out.alloc (.cells #[.int .i64 1] 3)) (by decide))); have HB3 := Aside0.mk ((below_alloc' HB2.out HB2.out.size (.cells #[.int .i64 1] 3)).grown hg3 (by have := HB2.out.size; simp; omega) (fun k e => (O42.out.lt k e).1)); obtain ⟨g24, c24, ev24⟩ := ownsRow_succ o4; subst ev24; have O43 := Aside0.mk o4; clear o4 hg3 O32 O42 HB2))
      clear p0 q0 hxs hx1
      have hO3 := O33.out
      rw [← wsV_cons (leafF x, 1)] at hO3
      have hO4 := O43.out
      rw [show (Value.int IntKind.i64 1) = .int .i64 (((leafF x, 1) : ByteArray × Nat).2 : Int) from rfl, ← ssV_cons (leafF x, 1)] at hO4
      have hG1 := Aside0.mk (hgd.out.leaf x)
      obtain ⟨T, hT⟩ : ∃ T, stepF st x = T := ⟨_, rfl⟩
      have hT2 := Aside0.mk hT
      unfold stepF at hT
      replace hT := Aside0.mk hT
      clear O33 O43 hgd
      go_loopw [3, 4, 7] (fun v3 v4 v7 w' => ∃ (k n : Nat) (cur : St), v7 = .int .i64 ((n + 1 : Nat) : Int) ∧ Aside0 (cur.length = n + 1) ∧ Aside0 (n + 1 ≤ k) ∧ Aside0 (mergeF k cur = T) ∧ Aside0 (Good cur (i + 1)) ∧ Aside0 (w'.ownsRow w.heap.size 9 1 v3 (n + 1) (wsV cur)) ∧ Aside0 (w'.ownsRow w.heap.size 3 1 v4 (n + 1) (ssV cur)) ∧ Aside0 (Below w.heap.size w w')) (fun _ _ v _ => (intOf v).toNat)
      case atStart => exact ⟨st.length + 1, st.length, (leafF x, 1) :: st, by simp, ⟨by simp⟩, ⟨by simp⟩, hT, hG1, ⟨hO3⟩, ⟨hO4⟩, HB3⟩
      case round =>
        clear hO3 hO4 hG1 HB3 hT
        obtain ⟨k, n', cur, rfl, hlen, hk, hmg, hgd, O3, O4, HB⟩ := hrel
        obtain ⟨g3, c3, ev3⟩ := ownsRow_succ O3.out
        subst ev3
        obtain ⟨g4, c4, ev4⟩ := ownsRow_succ O4.out
        subst ev4
        obtain ⟨n, hn⟩ : ∃ n, n' + 1 = n := ⟨_, rfl⟩
        rw [hn] at hlen hk O3 O4 ⊢
        replace hn := Aside0.mk hn
        have hnle : n ≤ 1000000 := by have := hgd.out.len; have := hlen.out; omega
        by_cases h2 : 1 < n
        · have d1 : decide ((1 : Int) < (n : Int)) = true := decide_eq_true (by omega)
          obtain ⟨b, s, a, t, r, hcur⟩ : ∃ b s a t r, cur = (b, s) :: (a, t) :: r := by
            match cur, hlen.out with
            | [], h => simp at h; omega
            | [_], h => simp at h; omega
            | (b, s) :: (a, t) :: r, _ => exact ⟨b, s, a, t, r, rfl⟩
          subst hcur
          obtain ⟨m2, hm2⟩ : ∃ m, r.length = m := ⟨_, rfl⟩
          obtain ⟨m1, hm1⟩ : ∃ m, m2 + 1 = m := ⟨_, rfl⟩
          have hn2 : m2 + 2 = n := by have := hlen.out; simp at this; omega
          have ht : (ssV ((b, s) :: (a, t) :: r))[m2]? = some (.int .i64 (t : Int)) := by
            rw [ssV_cons, ssV_cons, List.append_assoc, List.getElem?_append_right (by rw [ssV_length]; omega), ssV_length, hm2]
            simp
          have hs : (ssV ((b, s) :: (a, t) :: r))[m1]? = some (.int .i64 (s : Int)) := by
            rw [ssV_cons, List.getElem?_append_right (by rw [ssV_length]; simp; omega), ssV_length]
            simp only [List.length_cons, hm2, hm1, Nat.sub_self]
            rfl
          have ha : (wsV ((b, s) :: (a, t) :: r))[m2]? = some (.string a) := by
            rw [wsV_cons, wsV_cons, List.append_assoc, List.getElem?_append_right (by rw [wsV_length]; omega), wsV_length, hm2]
            simp
          have hb : (wsV ((b, s) :: (a, t) :: r))[m1]? = some (.string b) := by
            rw [wsV_cons, List.getElem?_append_right (by rw [wsV_length]; simp; omega), wsV_length]
            simp only [List.length_cons, hm2, hm1, Nat.sub_self]
            rfl
          have ct := own_at O4.out m2 _ ht
          have cs := own_at O4.out m1 _ hs
          have k1 : IntKind.i64.wrap ((n : Int) - 1) = (m1 : Int) := by rw [IntKind.wrap_i64]; omega
          have k2 : IntKind.i64.wrap ((n : Int) - 2) = (m2 : Int) := by rw [IntKind.wrap_i64]; omega
          have y1 : IntKind.i64.wrap (m1 : Int) = (m1 : Int) := by rw [IntKind.wrap_i64]; omega
          have y2 : IntKind.i64.wrap (m2 : Int) = (m2 : Int) := by rw [IntKind.wrap_i64]; omega
          have x1 : ((m1 : Int) < (n : Int)) = True := eq_true (by omega)
          have x2 : ((m2 : Int) < (n : Int)) = True := eq_true (by omega)
          have z1 : (m1 < n) = True := eq_true (by omega)
          have z2 : (m2 < n) = True := eq_true (by omega)
          by_cases hts : t = s
          · have d2 : ((t : Int) == (s : Int)) = true := beq_iff_eq.mpr (by omega)
            go_upto_region 8 with (fail)
            go_quiet (fail)
            go_upto_region 10 with (fail)
            have hnode : a.size + b.size ≤ 549755813888 := by
              have h1 := (hgd.out.h (b, s) List.mem_cons_self).1
              have h2 := (hgd.out.h (a, t) (List.mem_cons_of_mem _ List.mem_cons_self)).1
              simp only at h1 h2
              omega
            have hsle : s ≤ 1000001 := by
              have := hgd.out.sum
              simp at this
              omega
            have hc3 := own_cap O3.out
            have hc4 := own_cap O4.out
            have x3 : ((m2 : Int) ≤ (c3 : Int)) = True := eq_true (by omega)
            have z3 : (m2 ≤ c3) = True := eq_true (by omega)
            have x4 : ((m2 : Int) ≤ (c4 : Int)) = True := eq_true (by omega)
            have z4 : (m2 ≤ c4) = True := eq_true (by omega)
            have k3 : IntKind.i64.wrap (2 * (s : Int)) = ((2 * s : Nat) : Int) := by rw [IntKind.wrap_i64]; omega
            refine norm_wp ?_
            refine root_r10 _ w (wr.drewN nq) _ _ _ _ _ _ _ _ _ _ _ _ _ _ _ _ _ _ _ _ _ _ _ _ _ _ _ _ _ _ _ _ _ _ _ _ _ _ _ _ _ _ _ _ _ _ _ _ _ _ _ _ _ _ _ _ _ _ _ _ _ _ _ _ _ _ _ _ _ _ _ _ _ _ _ _ _ _ _ _ _ _ _ _ _ _ _ _ _ _ _ _ _ _ g3 c3 n m1 m2 n a b (wsV ((b, s) :: (a, t) :: r)) (ssV ((b, s) :: (a, t) :: r)) hnle hn2 (by omega) hc3 k1 k2 y1 y2 x1 x2 x3 z1 z2 z3 ha hb hnode (keepSRt ⟨O3.out, O4.out, hG_, HB.out⟩ (pw_below_drewN (Below.refl _ wr) nq)) ?_
            rintro z44 z45 z46 z47 z48 z49 z50 z51 z52 z53 z54 z55 z56 z57 z58 z59 z60 v3' W1 ⟨O31, O41, _, HB1⟩
            replace O31 := Aside0.mk O31
            replace O41 := Aside0.mk O41
            replace HB1 := Aside0.mk HB1
            go_upto_region 11 with (fail)
            refine norm_wp ?_
            refine root_r11 _ w W1 _ _ _ _ _ _ _ _ _ _ _ _ _ _ _ _ _ _ _ _ _ _ _ _ _ _ _ _ _ _ _ _ _ _ _ _ _ _ _ _ _ _ _ _ _ _ _ _ _ _ _ _ _ _ _ _ _ _ _ _ _ _ _ _ _ _ _ _ _ _ _ _ _ _ _ _ _ _ _ _ _ _ _ _ _ _ _ _ _ _ _ _ _ v3' g4 c4 n m1 m2 (m2 + 1) s (2 * s) _ (ssV ((b, s) :: (a, t) :: r)) hnle hn2 (by omega) hc4 k1 k2 y1 y2 k3 x1 x2 x4 z1 z2 z4 hs ⟨O41.out, O31.out, hG_, HB1.out⟩ ?_
            rintro y61_ y62_ y63_ y64_ y65_ y66_ y67_ y68_ y69_ y70_ y71_ y72_ v4' W2 ⟨O42, O32, _, HB2⟩
            replace O32 := Aside0.mk O32
            replace O42 := Aside0.mk O42
            replace HB2 := Aside0.mk HB2
            go_wp2_with fail
            obtain ⟨k', rfl⟩ : ∃ k', k = k' + 1 := ⟨k - 1, by have := hk.out; omega⟩
            have hgd' := hgd.out
            have hmg' := hmg.out
            subst hts
            rw [mergeF, if_pos rfl] at hmg'
            have e3 : (wsV ((b, t) :: (a, t) :: r)).take m2 ++ [.string (nodeF a b)] = wsV ((nodeF a b, 2 * t) :: r) := by
              rw [wsV_cons, wsV_cons, wsV_cons, List.append_assoc, List.take_append_of_le_length (by rw [wsV_length]; omega), List.take_of_length_le (by rw [wsV_length]; omega)]
            have e4 : (ssV ((b, t) :: (a, t) :: r)).take m2 ++ [.int .i64 ((2 * t : Nat) : Int)] = ssV ((nodeF a b, 2 * t) :: r) := by
              rw [ssV_cons, ssV_cons, ssV_cons, List.append_assoc, List.take_append_of_le_length (by rw [ssV_length]; omega), List.take_of_length_le (by rw [ssV_length]; omega)]
            have O3e := O32.out
            have O4e := O42.out
            rw [e3] at O3e
            rw [e4] at O4e
            refine ⟨⟨k', m2, (nodeF a b, 2 * t) :: r, by rw [hm1], ⟨by simp [hm2]⟩, ⟨by have := hk.out; omega⟩, ⟨hmg'⟩, ⟨hgd'.merge⟩, ⟨O3e⟩, ⟨O4e⟩, HB2⟩, ?_⟩
            simp only [intOf]
            omega
          · have d2 : ((t : Int) == (s : Int)) = false := beq_eq_false_iff_ne.mpr (by omega)
            go_upto_region 8 with (fail)
            go_quiet (fail)
            go_wp2_with fail
            have hce : (b, s) :: (a, t) :: r = T := by
              rw [← hmg.out]
              obtain ⟨k', rfl⟩ : ∃ k', k = k' + 1 := ⟨k - 1, by have := hk.out; omega⟩
              rw [mergeF, if_neg hts]
            have hlen' := hlen.out
            have O3e := own_keep O3.out (pw_below_drewN (Below.refl _ wr) nq)
            have O4e := own_keep O4.out (pw_below_drewN (Below.refl _ wr) nq)
            have HBe := below_then HB.out HB.out.size (pw_below_drewN (Below.refl _ wr) nq)
            rw [hce] at O3e O4e hlen'
            refine ⟨⟨i + 1, by simp, by omega, ⟨by rw [hfs.out, hst.out, hT2.out, hlen']; exact O3e⟩, ⟨by rw [hfs.out, hst.out, hT2.out, hlen']; exact O4e⟩, ⟨HBe⟩⟩, ?_⟩
            simp only [intOf]
            omega
        · have d1 : decide ((1 : Int) < (n : Int)) = false := decide_eq_false (by omega)
          go_upto_region 8 with (fail)
          go_quiet (fail)
          go_wp2_with fail
          have hce : cur = T := by
            rw [← hmg.out]
            obtain ⟨k', rfl⟩ : ∃ k', k = k' + 1 := ⟨k - 1, by have := hk.out; have := hn.out; omega⟩
            match cur, hlen.out with
            | [], h => rfl
            | [_], h => rfl
            | _ :: _ :: _, h => simp at h; omega
          have hlen' := hlen.out
          have O3e := own_keep O3.out (pw_below_drewN (Below.refl _ wr) nq)
          have O4e := own_keep O4.out (pw_below_drewN (Below.refl _ wr) nq)
          have HBe := below_then HB.out HB.out.size (pw_below_drewN (Below.refl _ wr) nq)
          rw [hce] at O3e O4e hlen'
          refine ⟨⟨i + 1, by simp, by omega, ⟨by rw [hfs.out, hst.out, hT2.out, hlen']; exact O3e⟩, ⟨by rw [hfs.out, hst.out, hT2.out, hlen']; exact O4e⟩, ⟨HBe⟩⟩, ?_⟩
          simp only [intOf]
          omega
    · have ei : i = n0 := by omega
      subst ei
      have e1 : decide ((i : Int) < (i : Int)) = false := decide_eq_false (by omega)
      have hgd := good_take l i (by rw [hn0.out]; exact Nat.le_refl _)
      rw [List.take_of_length_le (by rw [hn0.out]; exact Nat.le_refl _)] at O3 O4 hgd
      obtain ⟨st, hst⟩ : ∃ st, foldF l = st := ⟨_, rfl⟩
      rw [hst] at O3 O4 hgd
      have hrt : rootF l = endF st := by unfold rootF; rw [hst]
      replace hrt := Aside0.mk hrt
      clear hst O4
      match st, O3, hgd with
      | [], O3, hgd =>
        have hv : ∃ A c, u3 = .slice A 0 c := by
          obtain ⟨_, ⟨h, _⟩ | ⟨g1, cap1, cur1, e1, _⟩⟩ := O3.out
          · exact ⟨_, _, h⟩
          · exact ⟨_, _, e1⟩
        obtain ⟨A, c, hv⟩ := hv
        subst hv
        go_wp2_with (go_at_call 30; refine (sum_calls ⟨#[]⟩ (by decide) _ (hG_.below HB.out)).mono ?_; rintro e w1 ⟨rfl, hb1⟩)
        exact ⟨.string (sumF ⟨#[]⟩), by simp [results, Tryd.results19, go_sem], by rw [hrt.out]; rfl, below_then HB.out HB.out.size hb1⟩
      | (x, sx) :: r, O3, hgd =>
        obtain ⟨g3, c3, ev3⟩ := ownsRow_succ O3.out
        subst ev3
        obtain ⟨m, hm⟩ : ∃ m, r.length = m := ⟨_, rfl⟩
        have hxm : (wsV ((x, sx) :: r))[m]? = some (.string x) := by
          rw [wsV_cons, List.getElem?_append_right (by rw [wsV_length]; omega), wsV_length, hm]
          simp
        have hcx := own_at O3.out m _ hxm
        have hc3 := own_cap O3.out
        obtain ⟨n, hn⟩ : ∃ n, r.length + 1 = n := ⟨_, rfl⟩
        have hO3 := O3.out
        simp only [List.length_cons] at hO3
        rw [hn] at hO3 hc3 ⊢
        have hmn : m + 1 = n := by omega
        replace hn := Aside0.mk hn
        replace hm := Aside0.mk hm
        have hnle : n ≤ 1000000 := by have h1 := hgd.len; have h2 := hn.out; rw [List.length_cons] at h1; omega
        have k1 : IntKind.i64.wrap ((n : Int) - 1) = (m : Int) := by rw [IntKind.wrap_i64]; omega
        have y1 : IntKind.i64.wrap (m : Int) = (m : Int) := by rw [IntKind.wrap_i64]; omega
        have x1 : ((m : Int) < (n : Int)) = True := eq_true (by omega)
        have z1 : (m < n) = True := eq_true (by omega)
        have x3 : ((m : Int) ≤ (c3 : Int)) = True := eq_true (by omega)
        have z3 : (m ≤ c3) = True := eq_true (by omega)
        have d1 : ((n : Int) == 0) = false := beq_eq_false_iff_ne.mpr (by omega)
        replace hmn := Aside0.mk hmn
        replace O3 := Aside0.mk hO3
        clear hO3
        go_upto_region 16 with (fail)
        go_wp2_with (go_at_call 44; refine (callsIn_wide.1 (backS_fn _ _ _ _)).mono ?_; rintro e w' ⟨rfl, rfl⟩)
        obtain ⟨W0, hW0⟩ : ∃ W0, (wr.alloc (Obj.cells #[Value.string x] 9)).alloc (Obj.cells #[Value.slice (some ⟨g3, 0, none⟩) m c3] 22) = W0 := ⟨_, rfl⟩
        have hsz0 : W0.heap.size = wr.heap.size + 2 := by rw [← hW0]; simp
        have b1 : Boxed W0 wr.heap.size 9 (.string x) := by rw [← hW0]; exact (Boxed.new wr _ _).alloc _
        have b2 : Boxed W0 (wr.heap.size + 1) 22 (.slice (some ⟨g3, 0, none⟩) m c3) := by
          rw [← hW0]
          have := Boxed.new (wr.alloc (.cells #[Value.string x] 9)) 22 (.slice (some ⟨g3, 0, none⟩) m c3)
          rwa [World.size_alloc] at this
        have bel : Below wr.heap.size wr W0 := by rw [← hW0]; exact ((Below.refl _ wr).alloc (Nat.le_refl _) _).alloc (by simp) _
        have belw : Below w.heap.size w W0 := below_then HB.out HB.out.size bel
        obtain ⟨xs, hxs⟩ : ∃ xs, (r.map (·.1)).reverse = xs := ⟨_, rfl⟩
        have hxl : xs.length = m := by rw [← hxs, ← hm.out]; simp
        have hog := own_lt O3.out
        have RB : backSR xs g3 0 W0 := by
          intro j y hy
          have hj : (wsV ((x, sx) :: r))[j]? = some (.string y) := by
            rw [wsV_cons, List.getElem?_append_left (by rw [wsV_length, hm.out, ← hxl]; exact (List.getElem?_eq_some_iff.1 hy).1)]
            unfold wsV
            rw [← hxs, ← List.map_reverse, List.getElem?_map] at hy
            rw [← List.map_reverse, List.getElem?_map]
            obtain ⟨p, hp, rfl⟩ := Option.map_eq_some_iff.1 hy
            rw [hp]
            rfl
          have := own_at O3.out j _ hj
          rw [Nat.zero_add, ← this]
          simp only [World.cell?]
          rw [bel.block g3 hog.2]
        have hall : ∀ y ∈ xs, y.size = 32 := by
          intro y hy
          rw [← hxs, List.mem_reverse, List.mem_map] at hy
          obtain ⟨p, hp, rfl⟩ := hy
          exact (hgd.h p (List.mem_cons_of_mem _ hp)).1
        have hx32 : x.size = 32 := (hgd.h (x, sx) List.mem_cons_self).1
        have hend : endF ((x, sx) :: r) = xs.reverse.foldl (fun out y => nodeF y out) x := by
          rw [← hxs, List.reverse_reverse, List.foldl_map]
          rfl
        have hgw : w.heap.size ≤ wr.heap.size := HB.out.size
        have RR : Amb W0 := hG_.below belw
        rw [hW0]
        have hg3 : g3 < wr.heap.size := hog.2
        clear hW0 O3 hcx bel HB hxm hog
        generalize wr.heap.size = gb at hsz0 b1 b2 hgw hg3 ⊢
        refine (wpIn_wide (n := 4)).1 ?_
        refine rangeFunc_Z rfl (by decide) (gf := 60) (lb := #[.pointer (some ⟨gb + 1, 0, none⟩)]) rfl trivial (enters_of Tryd.func60 (by kernel_rfl) rfl)
          (Z := fun _ => False) (fun k hk => hk.elim)
          (encs := fun y : Fin m => #[.int .i64 (y.val : Int), Value.string (xs[y.val]'(hxl ▸ y.isLt))]) (Kp := fun A B => B.heap[gb + 1]? = A.heap[gb + 1]? ∧ B.heap[g3]? = A.heap[g3]?) (S := fun ys => ys.map Fin.val = (List.range m).reverse) (Sp := fun _ => True) (N := m) ?iter
          (fun h k => ⟨k.1.trans h.1, k.2.trans h.2⟩) (fun W l o hl => ⟨World.putObj_heap_other (by omega), World.putObj_heap_other (by omega)⟩) (fun _ => rfl)
          (fun pre W => Boxed W gb 9 (.string (pre.foldl (fun out y => nodeF (xs[y.val]'(hxl ▸ y.isLt)) out) x)) ∧ BelowBut gb W0 W)
          (fun _ _ _ => False)
          ?ab (fun _ _ _ _ _ hs _ _ => hs)
          ⟨b1, ⟨rfl, rfl, rfl, Nat.le_refl _, fun _ _ _ => rfl⟩⟩ ?round ?done ?stop
        case iter =>
          intro l' J Jx W hW hJ hJx hY hJ0
          exact backS_in l' (gb + 1) g3 0 m c3 _ xs hxl (by have := hmn.out; omega) (fun _ => rfl) J Jx hY W (b2.kept hW (by simp)) (RB.block (hW.block g3 (by omega) (by simp))) hJ0
        case ab =>
          rintro pre W W' row ⟨hA, hB⟩ hg hrow
          have hne : ∀ r, row = some r → W0.heap.size ≤ r := fun r e => by
            rcases hrow r e with h | ⟨h, _⟩
            · exact h.elim
            · exact h
          refine ⟨hA.kept hg (fun e => by have := hne gb e.symm; omega), ⟨hg.os.trans hB.os, hg.tape.trans hB.tape, hg.output.trans hB.output, Nat.le_trans hB.size hg.size, fun i hi hig => (hg.block i (Nat.lt_of_lt_of_le hi hB.size) (fun e => by have := hne i e.symm; omega)).trans (hB.block i hi hig)⟩⟩
        case round =>
          rintro l' pre y W ⟨hA, hB⟩ hlt
          dsimp only
          rw [zip_two, foldl_two]
          simp only [List.setIfInBounds_toArray, List.set_cons_succ, List.set_cons_zero]
          gi_wp2
          refine ⟨trivial, ?_⟩
          clear hA hB
          rintro V ⟨hA, hB⟩
          obtain ⟨out, hout⟩ : ∃ out, pre.foldl (fun out y => nodeF (xs[y.val]'(hxl ▸ y.isLt)) out) x = out := ⟨_, rfl⟩
          have hos : out.size = 32 := by rw [← hout]; exact fold_size (fun y : Fin m => xs[y.val]'(hxl ▸ y.isLt)) pre x hx32
          have hys : (xs[y.val]'(hxl ▸ y.isLt)).size = 32 := hall _ (List.getElem_mem _)
          rw [hout] at hA
          have hc := hA.cell
          have hRV : Amb V := by
            obtain ⟨t, fr, h⟩ := RR
            have hlt0 : 0 < gb := by
              obtain ⟨_, _, h'⟩ := hG_
              have := (Array.getElem?_eq_some_iff.1 h').1
              omega
            exact ⟨t, fr, (hB.block _ (by omega) (by omega)).trans h⟩
          have hF : Fence.wide.fn 32 := trivial
          gi_wp2_with fail
          refine CallsIn.mono (CallsIn.inRound _ (callsIn_wide.2 (node_calls (xs[y.val]'(hxl ▸ y.isLt)) out V hRV (by omega)))) ?_
          rintro e w' ⟨rfl, hb'⟩
          have hgbV : gb < V.heap.size := hA.lt
          have hA' : Boxed w' gb 9 (.string out) := (hb'.block gb hgbV).trans hA
          have hc' := hA'.cell
          have hf' := hA'.frozen
          gi_wp2_with fail
          have hq : gb + 1 < V.heap.size := Nat.lt_of_lt_of_le (by omega) hB.size
          have hq3 : g3 < V.heap.size := Nat.lt_of_lt_of_le (by omega) hB.size
          have G := grownBy_setCell' w' gb (.string (nodeF (xs[y.val]'(hxl ▸ y.isLt)) out))
          have T1 : ∀ i, i < V.heap.size → i ≠ gb → (w'.setCell ⟨gb, 0, none⟩ (.string (nodeF (xs[y.val]'(hxl ▸ y.isLt)) out))).heap[i]? = V.heap[i]? := fun i hi hig => (G.block i (Nat.lt_of_lt_of_le hi hb'.size) (fun e => hig (by injection e))).trans (hb'.block i hi)
          have hset := hA'.set (.string (nodeF (xs[y.val]'(hxl ▸ y.isLt)) out))
          refine ⟨⟨Nat.le_trans hb'.size G.size, fun k o hk ho _ => (T1 k (Array.getElem?_eq_some_iff.1 ho).1 (by omega)).trans ho⟩, ⟨T1 _ hq (by omega), T1 _ hq3 (by omega)⟩, ?_, ⟨G.os.trans (hb'.os.trans hB.os), G.tape.trans (hb'.tape.trans hB.tape), G.output.trans (hb'.output.trans hB.output), Nat.le_trans hB.size (Nat.le_trans hb'.size G.size), fun i hi hig => (T1 i (Nat.lt_of_lt_of_le hi hB.size) hig).trans (hB.block i hi hig)⟩⟩
          rw [List.foldl_append, hout]
          exact hset
        case done =>
          rintro D ys W hD hys ⟨hA, hB⟩ hK
          have hfin : ys.foldl (fun out y => nodeF (xs[y.val]'(hxl ▸ y.isLt)) out) x = xs.reverse.foldl (fun out y => nodeF y out) x := fold_rev xs hxl ys hys nodeF x
          rw [hfin, ← hend, ← hrt.out] at hA
          have hc := hA.cell
          dsimp only [Exit.inBlock, Exit.then]
          go_wp2_with fail
          refine ⟨by simp, .inl ⟨_, _, rfl, run_takeDeferred hK, ?_⟩⟩
          refine ⟨.string (rootF l), by simp [results, Tryd.results19, go_sem], rfl, ?_⟩
          have t1 : Below w.heap.size w W := ⟨hB.os.trans belw.os, hB.tape.trans belw.tape, hB.output.trans belw.output, Nat.le_trans belw.size hB.size, fun i hi => (hB.block i (by omega) (by omega)).trans (belw.block i hi)⟩
          exact t1.trans (belowK_b (w := W0) belw.size W D _ _ hD hK rfl rfl)
        case stop =>
          rintro D c pre W _ _ h _
          exact h.elim
end Go.Proofs.YtjkdenldddjcnaaDoor.Sha

set_option linter.unusedVariables false
set_option linter.unusedSimpArgs false
namespace Go.Proofs.YtjkdenldddjcnaaDoor.Sha
open Go Go.RowKit Go.Shelf Go.Proofs.YtjkdenldddjcnaaDoorW.PrintWords Go.Proofs.YtjkdenldddjcnaaDoorW.PrintLast Go.Proofs.YtjkdenldddjcnaaDoorW.PrintMore

theorem index_calls (A0 : Option Addr) (c0 : Nat) (l : List ByteArray) (w : World) (hr0 : Kd.C Kd.string w A0 l.length l) (hn : l.length ≤ 9223372036854775807) :
    Calls Tryd.prog 73 #[.slice A0 l.length c0, .func (.func 61) #[] #[]] w fun e w' => ∃ r : Int, e = .returned (.int .i64 r) ∧ decide (0 ≤ r) = l.any (fun s => !((s.size : Int) == 32)) ∧ w' = w := by
  have HR0 := Aside0.mk hr0
  clear hr0
  obtain ⟨n0, hn0⟩ : ∃ n0, l.length = n0 := ⟨_, rfl⟩
  rw [hn0] at HR0 hn ⊢
  replace hn0 := Aside0.mk hn0
  go_enter Tryd.func73, Tryd.ntmps73
  go_upto_region 2 with (fail)
  go_loopw [8] (fun v w' => ∃ i : Nat, v = .int .i64 i ∧ i ≤ n0 ∧ Aside0 ((l.take i).any (fun s => !((s.size : Int) == 32)) = false) ∧ w' = w) (fun v _ => n0 - (intOf v).toNat)
  case atStart => exact ⟨0, rfl, by omega, ⟨by simp⟩, rfl⟩
  case round =>
    obtain ⟨i, rfl, hi, ha, hw⟩ := hrel
    subst hw
    by_cases h1 : i < n0
    · have e1 : decide ((i : Int) < (n0 : Int)) = true := decide_eq_true (by omega)
      have p0 : 0 ≤ (i : Int) := by omega
      have q0 : (i : Int) < (n0 : Int) := by omega
      obtain ⟨ad, ea, hx⟩ := Kd.at_string HR0.out (i : Int) p0 q0
      cases ea
      replace p0 := eq_true p0
      replace q0 := eq_true q0
      obtain ⟨x, hxl⟩ : ∃ x, l[i]? = some x := ⟨_, List.getElem?_eq_getElem (by rw [hn0.out]; exact h1)⟩
      have hx1 : rdOf ByteArray.empty l (i : Int) = x := by
        unfold rdOf
        simp [hxl]
      rw [hx1, show ((i : Int)).toNat = i by omega] at hx
      have htk : l.take (i + 1) = l.take i ++ [x] := by rw [List.take_add_one, hxl]; rfl
      replace htk := Aside0.mk htk
      replace hxl := Aside0.mk hxl
      have k1 : IntKind.i64.wrap ((i : Int) + 1) = ((i + 1 : Nat) : Int) := by rw [IntKind.wrap_i64]; omega
      by_cases h2 : (x.size : Int) = 32
      · have d1 : ((x.size : Int) == 32) = true := beq_iff_eq.mpr h2
        clear h2
        go_wp2
        refine ⟨⟨i + 1, by simp, by omega, ⟨by rw [htk.out, List.any_append, ha.out]; simp [d1]⟩, trivial⟩, ?_⟩
        simp only [intOf]
        omega
      · have d1 : ((x.size : Int) == 32) = false := beq_eq_false_iff_ne.mpr h2
        clear h2
        go_wp2
        go_ret
        refine ⟨_, rfl, ?_, rfl⟩
        have : l.any (fun s => !((s.size : Int) == 32)) = true := by
          rw [List.any_eq_true]
          exact ⟨x, List.mem_of_getElem? hxl.out, by simp [d1]⟩
        rw [this]
        exact decide_eq_true (by omega)
    · have ei : i = n0 := by omega
      subst ei
      have e1 : decide ((i : Int) < (i : Int)) = false := decide_eq_false (by omega)
      go_wp2
      go_ret
      refine ⟨_, rfl, ?_, rfl⟩
      have := ha.out
      rw [List.take_of_length_le (by rw [hn0.out]; exact Nat.le_refl _)] at this
      rw [this]
      rfl
def digest_all.f (l0 : List ByteArray) : Option Bool := some (l0.all (fun s => (s.size : Int) == 32))
theorem digest_all.calls (A0 : Option Addr) (c0 : Nat) (l0 : List ByteArray) (r : Bool) (w : World) (hr0 : Kd.C Kd.string w A0 l0.length l0) (hc0 : l0.length ≤ c0) (h : digest_all.f l0 = some r) :
    Calls Tryd.prog 45 #[.slice A0 l0.length c0] w fun e w' => e = .returned (.bool r) ∧ Drawn0 w w' := by
  have hr : r = l0.all (fun s => (s.size : Int) == 32) := (Option.some.inj h).symm
  have hr2 : r = !(l0.any (fun s => !((s.size : Int) == 32))) := by rw [hr]; simp [List.all_eq_not_any_not]
  clear h hr
  go_enter Tryd.func45, Tryd.ntmps45
  go_wp2_with (first
    | (go_at_call 73; refine (index_calls A0 c0 l0 _ hr0 hr0.2.1).mono ?_; rintro e w' ⟨z, rfl, hz, rfl⟩)
    | go_in)
  go_ret
  exact ⟨by rw [hr2]; rfl, Drawn0.refl _⟩
end Go.Proofs.YtjkdenldddjcnaaDoor.Sha

set_option linter.unusedVariables false
set_option linter.unusedSimpArgs false
namespace Go.Proofs.YtjkdenldddjcnaaDoor.Sha
open Go Go.RowKit Go.Shelf Go.Proofs.YtjkdenldddjcnaaDoorW.PrintWords Go.Proofs.YtjkdenldddjcnaaDoorW.PrintLast Go.Proofs.YtjkdenldddjcnaaDoorW.PrintMore

theorem take_nil (A : Option Addr) (c : Nat) (w : World) :
    Calls Tryd.prog 46 #[.slice A 0 c] w fun e w' => (e = .returned (.tuple #[.string ⟨#[]⟩, .slice none 0 0, .bool false])) ∧ Drawn0 w w' := by
  go_enter Tryd.func46, Tryd.ntmps46
  go_wp2
  go_ret3
  exact ⟨rfl, Drawn0.refl _⟩
theorem take_snoc (A : Option Addr) (c : Nat) (l : List ByteArray) (x : ByteArray) (w : World) (hr0 : Kd.C Kd.string w A (l ++ [x]).length (l ++ [x])) (hc : l.length + 1 ≤ c) :
    Calls Tryd.prog 46 #[.slice A (l.length + 1) c] w fun e w' => (e = .returned (.tuple #[.string x, .slice A l.length c, .bool true])) ∧ Drawn0 w w' := by
  have HR0 := Aside0.mk hr0
  have hbig : l.length + 1 ≤ 9223372036854775807 := by have := hr0.2.1; simp at this; omega
  clear hr0
  obtain ⟨m, hm⟩ : ∃ m, l.length = m := ⟨_, rfl⟩
  obtain ⟨n, hn⟩ : ∃ n, l.length + 1 = n := ⟨_, rfl⟩
  have hmn : m + 1 = n := by omega
  have hln : (l ++ [x]).length = n := by simp; omega
  rw [hln] at HR0
  rw [hn] at hbig hc ⊢
  rw [hm]
  have p0 : 0 ≤ (m : Int) := by omega
  have q0 : (m : Int) < (n : Int) := by omega
  obtain ⟨ad, ea, hx⟩ := Kd.at_string HR0.out (m : Int) p0 q0
  cases ea
  have hx1 : rdOf ByteArray.empty (l ++ [x]) (m : Int) = x := by
    unfold rdOf
    simp [List.getD_eq_getElem?_getD, ← hm]
  rw [hx1, show ((m : Int)).toNat = m by omega] at hx
  have k1 : IntKind.i64.wrap ((n : Int) - 1) = (m : Int) := by rw [IntKind.wrap_i64]; omega
  have d1 : ((n : Int) == 0) = false := beq_eq_false_iff_ne.mpr (by omega)
  have x3 : ((m : Int) ≤ (c : Int)) = True := eq_true (by omega)
  have z3 : (m ≤ c) = True := eq_true (by omega)
  replace p0 := eq_true p0
  replace q0 := eq_true q0
  have y1 : IntKind.i64.wrap (m : Int) = (m : Int) := by rw [IntKind.wrap_i64]; omega
  have z1 : (m < n) = True := eq_true (by omega)
  replace hm := Aside0.mk hm
  replace hn := Aside0.mk hn
  replace hmn := Aside0.mk hmn
  replace hln := Aside0.mk hln
  clear hx1
  go_enter Tryd.func46, Tryd.ntmps46
  go_upto_region 4 with (fail)
  go_quiet (fail)
  go_wp2
  go_ret3
  exact ⟨rfl, (Drawn0.refl _).step _⟩
def joinF (p : ByteArray × Bool) (out : ByteArray) : ByteArray := if p.2 = true then nodeF p.1 out else nodeF out p.1
theorem joinF_size (p : ByteArray × Bool) (out : ByteArray) : (joinF p out).size = 32 := by
  unfold joinF
  split
  · exact node_size _ _
  · exact node_size _ _
theorem side_join_calls (x : ByteArray) (f : Bool) (out : ByteArray) (w : World) (hr : Amb w) (hs : x.size + out.size ≤ 549755813888) :
    Calls Tryd.prog 48 #[.agg #[.string x, .bool f], .string out] w fun e w' => e = .returned (.string (joinF (x, f) out)) ∧ Below w.heap.size w w' := by
  have bel : Below w.heap.size w (w.alloc (Obj.cells #[Value.string x, Value.bool f] 58)) := below_alloc (Below.refl _ _) _
  have hr2 : Amb (w.alloc (Obj.cells #[Value.string x, Value.bool f] 58)) := hr.below bel
  cases f
  · go_enter Tryd.func48, Tryd.ntmps48
    go_wp2_with (go_at_call 32; refine (node_calls _ _ _ hr2 (by omega)).mono ?_; rintro e w' ⟨rfl, hb⟩)
    go_ret
    exact ⟨rfl, bel.trans (hb.mono (by simp))⟩
  · go_enter Tryd.func48, Tryd.ntmps48
    go_wp2_with (go_at_call 32; refine (node_calls _ _ _ hr2 (by omega)).mono ?_; rintro e w' ⟨rfl, hb⟩)
    go_ret
    exact ⟨rfl, bel.trans (hb.mono (by simp))⟩
/-- Steps as cells. -/
def flat : List (ByteArray × Bool) → List Value
  | [] => []
  | p :: l => .string p.1 :: .bool p.2 :: flat l
theorem flat_append : ∀ (a b : List (ByteArray × Bool)), flat (a ++ b) = flat a ++ flat b
  | [], b => rfl
  | p :: a, b => by simp [flat, flat_append a b]
theorem flat_get : ∀ (l : List (ByteArray × Bool)) (j : Nat) (x : ByteArray × Bool), l[j]? = some x → (flat l)[j * 2]? = some (.string x.1) ∧ (flat l)[j * 2 + 1]? = some (.bool x.2)
  | [], j, x, h => by simp at h
  | p :: l, 0, x, h => by
    simp at h
    subst h
    exact ⟨rfl, rfl⟩
  | p :: l, j + 1, x, h => by
    have := flat_get l j x (by simpa using h)
    simpa [flat, Nat.succ_mul] using this
theorem info58 : (Tryd.prog.info? 58).map (fun i => (i.zero, i.size, i.bytes)) = some (some (.agg #[.string ⟨#[]⟩, .bool false]), 2, 24) := by kernel_rfl
theorem own_at2 {w : World} {base : Nat} {e : TypeId} {g n cap : Nat} {xs : List Value} (h : w.ownsRow base e 2 (.slice (some ⟨g, 0, none⟩) n cap) n xs) (j : Nat) (u : Value) (hu : xs[j]? = some u) : w.cell? ⟨g, j, none⟩ = some u := by
  have := h.cells (g := g) rfl j u hu
  have hadd : (⟨g, 0, none⟩ : Addr).add j = ⟨g, j, none⟩ := by unfold Addr.add; split <;> simp_all
  rwa [hadd] at this
theorem own_keep2 {w W : World} {base : Nat} {e : TypeId} {v : Value} {n : Nat} {xs : List Value} (h : w.ownsRow base e 2 v n xs) (hb : Below w.heap.size w W) : W.ownsRow base e 2 v n xs :=
  h.kept (row := none) ⟨hb.os, hb.tape, hb.output, hb.size, fun k hk _ => hb.block k hk⟩ (by cases hv : v.ownBlock <;> simp)
theorem two_of_block {w : World} {x y : Value} {t : TypeId} : ∀ j u, [x, y][j]? = some u → (w.alloc (.cells #[x, y] t)).cell? ((⟨w.heap.size, 0, none⟩ : Addr).add j) = some u := by
  intro j u hj
  have hadd : (⟨w.heap.size, 0, none⟩ : Addr).add j = ⟨w.heap.size, j, none⟩ := by unfold Addr.add; split <;> simp_all
  rw [hadd]
  have h : (w.alloc (.cells #[x, y] t)).heap[w.heap.size]? = some (.cells #[x, y] t (0, 0)) := heap_alloc_new ..
  match j, hj with
  | 0, hj =>
    simp only [World.cell?, h]
    simpa using hj
  | 1, hj =>
    simp only [World.cell?, h]
    simpa using hj
theorem pow_bitLen (f : Nat) : ∀ x, 0 < x → x < 2 ^ f → 2 ^ (Lib.bitLenAux f x - 1) ≤ x := by
  induction f with
  | zero => intro x h0 h; simp at h; omega
  | succ f ih =>
    intro x h0 h
    unfold Lib.bitLenAux
    rw [if_neg (by omega)]
    by_cases h2 : x / 2 = 0
    · have : Lib.bitLenAux f (x / 2) = 0 := by rw [h2]; cases f <;> simp [Lib.bitLenAux]
      rw [this]
      exact h0
    · have h3 := ih (x / 2) (by omega) (by rw [Nat.pow_succ] at h; omega)
      obtain ⟨b, hb⟩ : ∃ b, Lib.bitLenAux f (x / 2) = b := ⟨_, rfl⟩
      rw [hb] at h3 ⊢
      cases b with
      | zero => exact h0
      | succ b =>
        simp only [Nat.add_sub_cancel] at h3
        rw [show 1 + (b + 1) - 1 = b + 1 by omega, Nat.pow_succ]
        omega
theorem leftN_lt (n : Nat) (h : 2 ≤ n) (h2 : n ≤ 9223372036854775807) : 1 ≤ leftN n ∧ leftN n < n := by
  unfold leftN
  have h3 := pow_bitLen 64 (n - 1) (by omega) (by omega)
  refine ⟨Nat.one_le_two_pow, ?_⟩
  show 2 ^ (Lib.bitLenAux 64 (n - 1) - 1) < n
  omega
end Go.Proofs.YtjkdenldddjcnaaDoor.Sha

set_option linter.unusedVariables false
set_option linter.unusedSimpArgs false
namespace Go.Proofs.YtjkdenldddjcnaaDoor.Sha
open Go Go.RowKit Go.Shelf Go.Proofs.YtjkdenldddjcnaaDoor.Rf Go.Proofs.YtjkdenldddjcnaaDoorW.PrintWords Go.Proofs.YtjkdenldddjcnaaDoorW.PrintLast Go.Proofs.YtjkdenldddjcnaaDoorW.PrintMore
attribute [local go_sem] Oper.semAt_some

abbrev Way := List (ByteArray × Bool)
/-- Down: the proof's strings, the last one first; the steps, the last one first; what is left of the proof. -/
def descF : List ByteArray → Nat → Nat → Way → Option (Way × List ByteArray)
  | [], n, i, way => if n ≤ 1 then some (way, []) else none
  | x :: r, n, i, way => if n ≤ 1 then some (way, x :: r) else if leftN n ≤ i then descF r (n - leftN n) (i - leftN n) ((x, true) :: way) else descF r (leftN n) i ((x, false) :: way)
def all32 (l : List ByteArray) : Bool := l.all (fun s => (s.size : Int) == 32)
def upF (way : Way) (s : ByteArray) : ByteArray := way.foldl (fun out p => joinF p out) s
def endV (root s : ByteArray) : Option (Way × List ByteArray) → Bool
  | none => false
  | some (way, pr) => pr.isEmpty && (upF way (leafF s) == root)
def verifyF (root : ByteArray) (n i : Int) (s : ByteArray) (l : List ByteArray) : Bool :=
  if i < 0 then false else if n ≤ i then false else if all32 l = false then false else endV root s (descF l.reverse n.toNat i.toNat [])
theorem jfold_size {α : Type} (f : α → ByteArray × Bool) : ∀ (pre : List α) (x : ByteArray) (_ : x.size = 32), (pre.foldl (fun out y => joinF (f y) out) x).size = 32
  | [], _, h => h
  | y :: pre, x, _ => by
    rw [List.foldl_cons]
    exact jfold_size f pre (joinF (f y) x) (joinF_size _ _)
set_option maxHeartbeats 4000000 in
set_option maxRecDepth 100000 in
theorem verify_calls (root s : ByteArray) (n i : Int) (A : Option Addr) (c : Nat) (l : List ByteArray) (w : World) (hr0 : Kd.C Kd.string w A l.length l) (hc : l.length ≤ c) (hG_ : Amb w) (hs : s.size ≤ 549755813888) (hni : n ≤ 9223372036854775807) (hl : l.length ≤ 1000000) :
    Calls Tryd.prog 21 #[.string root, .int .i64 n, .int .i64 i, .string s, .slice A l.length c] w fun e w' => e = .returned (.bool (verifyF root n i s l)) ∧ Below w.heap.size w w' := by
  have HR0 := Aside0.mk hr0
  have HC0 := Aside0.mk hc
  clear hr0
  obtain ⟨L, hL⟩ : ∃ L, l.length = L := ⟨_, rfl⟩
  rw [hL] at HR0 hc hl ⊢
  replace hL := Aside0.mk hL
  refine (callsIn_wide (n := 4)).1 ?_
  refine callsIn_of_wp_marks Tryd.func21 rfl trivial ?_ rfl
  refine wpIn_wide.2 ?_
  simp only [Tryd.ntmps21, List.size_toArray, List.length_cons, List.length_nil, Nat.reduceAdd, Nat.reduceSub, Array.replicate_succ, Array.replicate_zero, List.push_toArray, List.append_toArray, List.nil_append, List.cons_append]
  by_cases h1 : i < 0
  · have d1 : decide (i < 0) = true := decide_eq_true h1
    have hv : verifyF root n i s l = false := by unfold verifyF; rw [if_pos h1]
    clear h1
    go_wp2
    exact ⟨.bool false, by simp [results, Tryd.results21, go_sem], by rw [hv], Below.refl _ _⟩
  · have d1 : decide (i < 0) = false := decide_eq_false h1
    by_cases h2 : n ≤ i
    · have d2 : decide (n ≤ i) = true := decide_eq_true h2
      have hv : verifyF root n i s l = false := by unfold verifyF; rw [if_neg h1, if_pos h2]
      clear h1 h2
      go_wp2
      exact ⟨.bool false, by simp [results, Tryd.results21, go_sem], by rw [hv], Below.refl _ _⟩
    · have d2 : decide (n ≤ i) = false := decide_eq_false h2
      have HI := Aside0.mk h1
      have HN := Aside0.mk h2
      clear h1 h2
      obtain ⟨b, hb⟩ : ∃ b, all32 l = b := ⟨_, rfl⟩
      have hfa : digest_all.f l = some b := by rw [← hb]; rfl
      replace hfa := Aside0.mk hfa
      replace hb := Aside0.mk hb
      have HA : ∀ b, digest_all.f l = some b → Calls Tryd.prog 45 #[.slice A L c] w fun e w' => e = .returned (.bool b) ∧ Drawn0 w w' := by
        intro b h
        have := digest_all.calls A c l b w (by rw [hL.out]; exact HR0.out) (by rw [hL.out]; exact hc) h
        rwa [hL.out] at this
      replace HA := Aside0.mk HA
      cases b
      · go_wp2_with (go_at_call 45; refine (HA.out false hfa.out).mono ?_; rintro e w' ⟨rfl, hd⟩)
        have hv : verifyF root n i s l = false := by unfold verifyF; rw [if_neg (by have := HI.out; omega), if_neg (by have := HN.out; omega), if_pos hb.out]
        exact ⟨.bool false, by simp [results, Tryd.results21, go_sem], by rw [hv], hd.below⟩
      · go_wp2_with (go_at_call 45; refine (HA.out true hfa.out).mono ?_; rintro e w' ⟨rfl, hd⟩)
        have hv : verifyF root n i s l = endV root s (descF l.reverse n.toNat i.toNat []) := by unfold verifyF; rw [if_neg (by have := HI.out; omega), if_neg (by have := HN.out; omega), if_neg (by rw [hb.out]; simp)]
        obtain ⟨D, hD⟩ : ∃ D, descF l.reverse n.toNat i.toNat [] = D := ⟨_, rfl⟩
        rw [hD] at hv
        replace hv := Aside0.mk hv
        replace hD := Aside0.mk hD
        have hall : ∀ y ∈ l, y.size = 32 := by
          intro y hy
          have := hb.out
          unfold all32 at this
          rw [List.all_eq_true] at this
          have := this y hy
          simp at this
          omega
        replace hall := Aside0.mk hall
        obtain ⟨n', hn'⟩ : ∃ n' : Nat, n = n' := ⟨n.toNat, by have := HI.out; have := HN.out; omega⟩
        obtain ⟨i', hi'⟩ : ∃ i' : Nat, i = i' := ⟨i.toNat, by have := HI.out; omega⟩
        subst hn'
        subst hi'
        have hin : i' < n' := by have := HN.out; omega
        replace hin := Aside0.mk hin
        replace hni := Aside0.mk hni
        have hBw := Aside0.mk hd.below
        clear hd HI HN HA hfa hb d1 d2
        obtain ⟨i58, hi58, h581, h582, h583⟩ := info_parts info58
        go_loopw [1, 2, 4, 11] (fun v1 v2 v4 v11 w' => ∃ (n i m : Nat) (way : Way), v1 = .int .i64 (n : Int) ∧ v2 = .int .i64 (i : Int) ∧ v4 = .slice A m c ∧ Aside0 (m + way.length = L) ∧ Aside0 (i < n) ∧ Aside0 (n ≤ 9223372036854775807) ∧ Aside0 (descF (l.take m).reverse n i way = D) ∧ Aside0 (∀ p ∈ way, p.1.size = 32) ∧ Aside0 (w'.ownsRow w.heap.size 58 2 v11 way.length (flat way.reverse)) ∧ Aside0 (Below w.heap.size w w')) (fun v _ _ _ _ => (intOf v).toNat)
        case atStart => exact ⟨n', i', L, [], rfl, rfl, rfl, ⟨rfl⟩, hin, ⟨by have := hni.out; omega⟩, ⟨by rw [List.take_of_length_le (by rw [hL.out]; exact Nat.le_refl _)]; have := hD.out; simpa using this⟩, ⟨fun p hp => by cases hp⟩, ⟨World.ownsRow_nil _ _ _ _⟩, hBw⟩
        case round =>
          clear hBw hin hni hD
          obtain ⟨n, i, m, way, rfl, rfl, rfl, hmw, hin, hn63, hdf, hw32, OW, HB⟩ := hrel
          by_cases h2 : 1 < n
          · have e1 : decide ((1 : Int) < (n : Int)) = true := decide_eq_true (by omega)
            cases m with
            | zero =>
              have hD0 : D = none := by
                rw [← hdf.out]
                simp [descF]
                omega
              have hv0 : verifyF root n' i' s l = false := by rw [hv.out, hD0]; rfl
              go_wp2_with (go_at_call 46; refine (take_nil _ _ _).mono ?_; rintro e w1 ⟨rfl, hd1⟩)
              exact ⟨.bool false, by simp [results, Tryd.results21, go_sem], by rw [hv0], below_then HB.out HB.out.size hd1.below⟩
            | succ m =>
              have hmL : m + 1 ≤ L := by have := hmw.out; omega
              obtain ⟨x, hx⟩ : ∃ x, l[m]? = some x := ⟨_, List.getElem?_eq_getElem (by rw [hL.out]; omega)⟩
              have htk : l.take (m + 1) = l.take m ++ [x] := by rw [List.take_add_one, hx]; rfl
              have hlm : (l.take m).length = m := by rw [List.length_take, hL.out]; omega
              have hCw : Kd.C Kd.string wr A (l.take m ++ [x]).length (l.take m ++ [x]) := by
                rw [← htk]
                refine Kd.C_below (Kd.C_take (by rw [hL.out]; exact HR0.out) (by rw [hL.out]; exact hmL)) HB.out
              have HT := take_snoc A c (l.take m) x wr hCw (by rw [hlm]; have := HC0.out; rw [hL.out] at this; omega)
              rw [hlm] at HT
              replace HT := Aside0.mk HT
              have hx32 : x.size = 32 := hall.out x (List.mem_of_getElem? hx)
              replace hx32 := Aside0.mk hx32
              have hdf1 := hdf.out
              rw [htk, List.reverse_append, List.reverse_singleton, List.singleton_append, descF, if_neg (by omega)] at hdf1
              replace hdf1 := Aside0.mk hdf1
              have hk := leftN_lt n (by omega) hn63.out
              have hlf : digest_left.f (n : Int) = some (leftN n : Int) := by
                unfold digest_left.f
                rw [if_pos ⟨by omega, by have := hn63.out; omega⟩]
                rfl
              obtain ⟨k, hkk⟩ : ∃ k, leftN n = k := ⟨_, rfl⟩
              rw [hkk] at hk hlf hdf1
              replace hk := Aside0.mk hk
              replace hlf := Aside0.mk hlf
              clear hdf hx htk hlm hCw hkk
              have hwl : way.length ≤ 1000000 := by have := hmw.out; omega
              replace hmw := Aside0.mk hmw.out
              by_cases hki : k ≤ i
              · have e2 : decide ((k : Int) ≤ (i : Int)) = true := decide_eq_true (by omega)
                go_upto_region 8 with (go_at_call 46; refine HT.out.mono ?_; rintro e w1 ⟨rfl, hd1⟩)
                have OW1 := Aside0.mk (own_keep2 OW.out hd1.below)
                have HB1 := Aside0.mk (below_then HB.out HB.out.size hd1.below)
                clear OW HB hd1 HT
                go_upto_region 10 with (go_at_call 40; refine (digest_left.calls _ _ _ hlf.out).mono ?_; rintro e w2 ⟨rfl, ⟨q, rfl⟩⟩)
                have OW2 := Aside0.mk (own_keep2 OW1.out (pw_below_drewN (Below.refl _ w1) q))
                have HB2 := Aside0.mk (below_then HB1.out HB1.out.size (pw_below_drewN (Below.refl _ w1) q))
                clear OW1 HB1
                generalize w1.drewN q = w2 at OW2 HB2 ⊢
                refine wp_region_list ?_
                iterate 7 (go_step; go_simp; rename_i hK; refine hK _ _ ?_; clear hK)
                have O1 := OW2.out.alloc (.cells #[Value.string x, Value.bool true] 58)
                have B1 := below_alloc' HB2.out HB2.out.size (.cells #[Value.string x, Value.bool true] 58)
                refine wpList_append_own _ rfl (.tmp 44) (.tmp 50) 54 rfl w.heap.size 58 i58 (.agg #[.string ⟨#[]⟩, .bool false]) 2 24 Tryd.underlying54 hi58 h581 h582 h583 rfl (by decide) _ way.length (flat way.reverse) rfl O1 ⟨w2.heap.size, 0, none⟩ 1 1 [Value.string x, Value.bool true] rfl rfl two_of_block (by simp [Value.oneCell']) (by unfold maxLen; omega) (by omega) B1.size ?_
                intro v51 w3 o3 hg3 _
                have HB3 := Aside0.mk (B1.grown hg3 B1.size (fun k e => (OW2.out.lt k e).1))
                rw [show flat way.reverse ++ [Value.string x, Value.bool true] = flat ((x, true) :: way).reverse by rw [List.reverse_cons, flat_append]; rfl] at o3
                have OW3 := Aside0.mk o3
                clear o3 hg3 B1 O1 OW2 HB2
                have q1 : IntKind.i64.wrap ((n : Int) - (k : Int)) = ((n - k : Nat) : Int) := by have := hk.out; have := hn63.out; rw [IntKind.wrap_i64]; omega
                have q2 : IntKind.i64.wrap ((i : Int) - (k : Int)) = ((i - k : Nat) : Int) := by have := hk.out; have := hn63.out; have := hin.out; rw [IntKind.wrap_i64]; omega
                obtain ⟨nk, hnk⟩ : ∃ nk, n - k = nk := ⟨_, rfl⟩
                obtain ⟨ik, hik⟩ : ∃ ik, i - k = ik := ⟨_, rfl⟩
                rw [hnk] at q1
                rw [hik] at q2
                replace hnk := Aside0.mk hnk
                replace hik := Aside0.mk hik
                go_step
                go_simp
                rename_i hK
                refine hK _ _ ?_
                clear hK
                go_wp2_with fail
                have hkk' := hk.out
                have hin' := hin.out
                have hmw' := hmw.out
                have hn' := hn63.out
                have hnk' := hnk.out
                have hik' := hik.out
                refine ⟨⟨nk, ik, m, (x, true) :: way, rfl, rfl, rfl, ⟨by rw [List.length_cons]; omega⟩, ⟨by omega⟩, ⟨by omega⟩, ⟨by
                  have := hdf1.out
                  rw [if_pos hki] at this
                  rw [hnk', hik'] at this
                  exact this⟩, ⟨fun p hp => by
                  rcases List.mem_cons.1 hp with rfl | hp
                  · exact hx32.out
                  · exact hw32.out p hp⟩, OW3, HB3⟩, ?_⟩
                simp only [intOf]
                omega
              · have e2 : decide ((k : Int) ≤ (i : Int)) = false := decide_eq_false (by omega)
                go_upto_region 8 with (go_at_call 46; refine HT.out.mono ?_; rintro e w1 ⟨rfl, hd1⟩)
                have OW1 := Aside0.mk (own_keep2 OW.out hd1.below)
                have HB1 := Aside0.mk (below_then HB.out HB.out.size hd1.below)
                clear OW HB hd1 HT
                go_upto_region 10 with (go_at_call 40; refine (digest_left.calls _ _ _ hlf.out).mono ?_; rintro e w2 ⟨rfl, ⟨q, rfl⟩⟩)
                have OW2 := Aside0.mk (own_keep2 OW1.out (pw_below_drewN (Below.refl _ w1) q))
                have HB2 := Aside0.mk (below_then HB1.out HB1.out.size (pw_below_drewN (Below.refl _ w1) q))
                clear OW1 HB1
                generalize w1.drewN q = w2 at OW2 HB2 ⊢
                refine wp_region_list ?_
                iterate 7 (go_step; go_simp; rename_i hK; refine hK _ _ ?_; clear hK)
                have O1 := OW2.out.alloc (.cells #[Value.string x, Value.bool false] 58)
                have B1 := below_alloc' HB2.out HB2.out.size (.cells #[Value.string x, Value.bool false] 58)
                refine wpList_append_own _ rfl (.tmp 44) (.tmp 50) 54 rfl w.heap.size 58 i58 (.agg #[.string ⟨#[]⟩, .bool false]) 2 24 Tryd.underlying54 hi58 h581 h582 h583 rfl (by decide) _ way.length (flat way.reverse) rfl O1 ⟨w2.heap.size, 0, none⟩ 1 1 [Value.string x, Value.bool false] rfl rfl two_of_block (by simp [Value.oneCell']) (by unfold maxLen; omega) (by omega) B1.size ?_
                intro v51 w3 o3 hg3 _
                have HB3 := Aside0.mk (B1.grown hg3 B1.size (fun k e => (OW2.out.lt k e).1))
                rw [show flat way.reverse ++ [Value.string x, Value.bool false] = flat ((x, false) :: way).reverse by rw [List.reverse_cons, flat_append]; rfl] at o3
                have OW3 := Aside0.mk o3
                clear o3 hg3 B1 O1 OW2 HB2
                go_step
                go_simp
                rename_i hK
                refine hK _ _ ?_
                clear hK
                go_wp2_with fail
                have hkk' := hk.out
                have hin' := hin.out
                have hmw' := hmw.out
                have hn' := hn63.out
                
                
                refine ⟨⟨k, i, m, (x, false) :: way, rfl, rfl, rfl, ⟨by rw [List.length_cons]; omega⟩, ⟨by omega⟩, ⟨by omega⟩, ⟨by
                  have := hdf1.out
                  rw [if_neg hki] at this
                  skip
                  exact this⟩, ⟨fun p hp => by
                  rcases List.mem_cons.1 hp with rfl | hp
                  · exact hx32.out
                  · exact hw32.out p hp⟩, OW3, HB3⟩, ?_⟩
                simp only [intOf]
                omega
          · have e1 : decide ((1 : Int) < (n : Int)) = false := decide_eq_false (by omega)
            have hmL : m ≤ L := by have := hmw.out; omega
            have hlm : (l.take m).length = m := by rw [List.length_take, hL.out]; omega
            have hDw : D = some (way, (l.take m).reverse) := by
              rw [← hdf.out]
              cases (l.take m).reverse with
              | nil => rw [descF, if_pos (by omega)]
              | cons y r => rw [descF, if_pos (by omega)]
            have hv1 : verifyF root n' i' s l = (decide (m = 0) && (upF way (leafF s) == root)) := by
              rw [hv.out, hDw]
              show ((l.take m).reverse.isEmpty && _) = _
              congr 1
              cases m with
              | zero => rfl
              | succ m =>
                have : (l.take (m + 1)).reverse ≠ [] := fun e => by
                  have := congrArg List.length e
                  rw [List.length_reverse, hlm] at this
                  simp at this
                cases h : (l.take (m + 1)).reverse with
                | nil => exact absurd h this
                | cons y r => rfl
            replace hv1 := Aside0.mk hv1
            clear hDw hlm hdf hv
            have hwl : way.length ≤ 1000000 := by have := hmw.out; omega
            have hss : s.size ≤ 549755813888 := hs
            go_upto_region 15 with (go_at_call 29; refine (leaf_calls s _ (hG_.below HB.out) hs).mono ?_; rintro e w1 ⟨rfl, hb1⟩)
            obtain ⟨Aw, cw, gw, huw, hAw, hgw, hcw⟩ : ∃ Aw cw gw, u11 = .slice Aw way.length cw ∧ (0 < way.length → Aw = some ⟨gw, 0, none⟩) ∧ gw < wr.heap.size ∧ backDR way.reverse gw 0 wr := by
              have h := OW.out
              obtain ⟨_, ⟨h1, h2⟩ | ⟨g, cap, cur, h1, hb, hg, _⟩⟩ := h
              · have hw0 : way = [] := List.eq_nil_of_length_eq_zero h2
                refine ⟨none, 0, 0, by rw [h1, h2], fun h => by omega, ?_, ?_⟩
                · obtain ⟨_, _, h'⟩ := hG_
                  have := (Array.getElem?_eq_some_iff.1 h').1
                  have := HB.out.size
                  omega
                · intro j y hy
                  rw [hw0] at hy
                  simp at hy
              · refine ⟨_, cap, g, h1, fun _ => rfl, (Array.getElem?_eq_some_iff.1 hg).1, ?_⟩
                intro j y hy
                have h0 := OW.out
                rw [h1] at h0
                obtain ⟨f1, f2⟩ := flat_get _ j y hy
                have e1 := own_at2 h0 _ _ f1
                have e2 := own_at2 h0 _ _ f2
                rw [Nat.zero_add]
                exact ⟨e1, e2⟩
            subst huw
            clear OW
            go_wp2_with (go_at_call 47; refine (callsIn_wide.1 (backD_fn _ _ _ _)).mono ?_; rintro e w' ⟨rfl, rfl⟩)
            obtain ⟨nw, hnw⟩ : ∃ nw, way.length = nw := ⟨_, rfl⟩
            rw [hnw] at hAw hwl ⊢
            obtain ⟨W0, hW0⟩ : ∃ W0, (w1.alloc (Obj.cells #[Value.string (leafF s)] 9)).alloc (Obj.cells #[Value.slice Aw nw cw] 54) = W0 := ⟨_, rfl⟩
            have hsz0 : W0.heap.size = w1.heap.size + 2 := by rw [← hW0]; simp
            have b1 : Boxed W0 w1.heap.size 9 (.string (leafF s)) := by rw [← hW0]; exact (Boxed.new w1 _ _).alloc _
            have b2 : Boxed W0 (w1.heap.size + 1) 54 (.slice Aw nw cw) := by
              rw [← hW0]
              have := Boxed.new (w1.alloc (.cells #[Value.string (leafF s)] 9)) 54 (.slice Aw nw cw)
              rwa [World.size_alloc] at this
            have bel1 : Below w1.heap.size w1 W0 := by rw [← hW0]; exact ((Below.refl _ w1).alloc (Nat.le_refl _) _).alloc (by simp) _
            have belr : Below wr.heap.size wr W0 := below_then hb1 hb1.size bel1
            have belw : Below w.heap.size w W0 := below_then HB.out HB.out.size belr
            obtain ⟨xs, hxs⟩ : ∃ xs, way.reverse = xs := ⟨_, rfl⟩
            have hxl : xs.length = nw := by rw [← hxs, ← hnw]; simp
            rw [hxs] at hcw
            have RB : backDR xs gw 0 W0 := hcw.block (belr.block gw hgw)
            have hall2 : ∀ y ∈ xs, y.1.size = 32 := by
              intro y hy
              rw [← hxs, List.mem_reverse] at hy
              exact hw32.out y hy
            have hend : upF way (leafF s) = xs.reverse.foldl (fun out y => joinF y out) (leafF s) := by
              rw [← hxs, List.reverse_reverse]
              rfl
            have hg1 : gw < w1.heap.size := Nat.lt_of_lt_of_le hgw hb1.size
            have hgw1 : w.heap.size ≤ w1.heap.size := Nat.le_trans HB.out.size hb1.size
            have RR : Amb W0 := hG_.below belw
            replace hend := Aside0.mk hend
            rw [hW0]
            clear hW0 hcw bel1 belr HB hb1 hw32 hmw hgw hxs
            generalize w1.heap.size = gb at hsz0 b1 b2 hg1 hgw1 ⊢
            refine (wpIn_wide (n := 4)).1 ?_
            refine rangeFunc_Y rfl (by decide) (gf := 63) (lb := #[.pointer (some ⟨gb + 1, 0, none⟩)]) rfl trivial (enters_of Tryd.func63 (by kernel_rfl) rfl)
              (Z := fun _ => False) (fun k hk => hk.elim)
              (encs := fun y : Fin nw => #[.int .i64 (y.val : Int), encD (xs[y.val]'(hxl ▸ y.isLt))]) (Kp := fun A B => B.heap[gb + 1]? = A.heap[gb + 1]? ∧ B.heap[gw]? = A.heap[gw]?) (S := fun ys => ys.map Fin.val = (List.range nw).reverse) (Sp := fun _ => True) (N := nw) ?iter
              (fun h k => ⟨k.1.trans h.1, k.2.trans h.2⟩) (fun W l o hl => ⟨World.putObj_heap_other (by omega), World.putObj_heap_other (by omega)⟩) (fun _ => rfl)
              (fun pre W => Boxed W gb 9 (.string (pre.foldl (fun out y => joinF (xs[y.val]'(hxl ▸ y.isLt)) out) (leafF s))) ∧ BelowBut gb W0 W)
              (fun _ _ _ => False)
              ?ab (fun _ _ _ _ _ hs _ _ => hs)
              ⟨b1, ⟨rfl, rfl, rfl, Nat.le_refl _, fun _ _ _ => rfl⟩⟩ ?round ?done ?stop
            case iter =>
              intro l' J Jx W hW hJ hJx hY hJ0
              exact backD_in l' (gb + 1) gw 0 nw cw _ xs hxl (by omega) hAw J Jx hY W (b2.kept hW (by simp)) (RB.block (hW.block gw (by omega) (by simp))) hJ0
            case ab =>
              rintro pre W W' row ⟨hA, hB⟩ hg hrow
              have hne : ∀ r, row = some r → W0.heap.size ≤ r := fun r e => by
                rcases hrow r e with h | ⟨h, _⟩
                · exact h.elim
                · exact h
              refine ⟨hA.kept hg (fun e => by have := hne gb e.symm; omega), ⟨hg.os.trans hB.os, hg.tape.trans hB.tape, hg.output.trans hB.output, Nat.le_trans hB.size hg.size, fun i hi hig => (hg.block i (Nat.lt_of_lt_of_le hi hB.size) (fun e => by have := hne i e.symm; omega)).trans (hB.block i hi hig)⟩⟩
            case round =>
              rintro l' pre y W ⟨hA, hB⟩ hlt hWs
              dsimp only
              rw [zip_two, foldl_two]
              simp only [List.setIfInBounds_toArray, List.set_cons_succ, List.set_cons_zero]
              have hys := hall2 _ (List.getElem_mem (hxl ▸ y.isLt : y.val < xs.length))
              obtain ⟨p, hp⟩ : ∃ p, xs[y.val]'(hxl ▸ y.isLt) = p := ⟨_, rfl⟩
              rw [hp] at hys ⊢
              replace hp := Aside0.mk hp
              obtain ⟨x1, x2⟩ := p
              unfold encD
              dsimp only at hys ⊢
              gi_wp2
              have hgbW : gb < W.heap.size := hA.lt
              have hqW : gb + 1 < W.heap.size := by omega
              have hgwW : gw < W.heap.size := by omega
              refine ⟨⟨below_alloc (Below.refl _ _) _, ⟨hA.alloc _, ⟨hB.os, hB.tape, hB.output, Nat.le_trans hB.size (by simp), fun i hi hig => ((below_alloc (Below.refl W.heap.size W) _).block i (by omega)).trans (hB.block i hi hig)⟩⟩, (below_alloc (Below.refl W.heap.size W) _).block _ hqW, (below_alloc (Below.refl W.heap.size W) _).block _ hgwW⟩, ?_⟩
              rintro V hV ⟨hA', hB'⟩
              have hbox : V.heap[W.heap.size]? = some (.cells #[Value.string x1, Value.bool x2] 58 (0, 0)) := (hV.block W.heap.size (by simp) (by simp; omega)).trans (heap_alloc_new ..)
              have hb0 : V.cell? ⟨W.heap.size, 0, none⟩ = some (.string x1) := by simp [World.cell?, hbox]
              have hb1 : V.cell? ⟨W.heap.size, 1, none⟩ = some (.bool x2) := by simp [World.cell?, hbox]
              obtain ⟨out, hout⟩ : ∃ out, pre.foldl (fun out y => joinF (xs[y.val]'(hxl ▸ y.isLt)) out) (leafF s) = out := ⟨_, rfl⟩
              have hos : out.size = 32 := by rw [← hout]; exact jfold_size (fun y : Fin nw => xs[y.val]'(hxl ▸ y.isLt)) pre _ (sumF_size _)
              rw [hout] at hA'
              have hc := hA'.cell
              have hRV : Amb V := by
                obtain ⟨t, fr, h⟩ := RR
                have hlt0 : 0 < gb := by
                  obtain ⟨_, _, h'⟩ := hG_
                  have := (Array.getElem?_eq_some_iff.1 h').1
                  omega
                exact ⟨t, fr, (hB'.block _ (by omega) (by omega)).trans h⟩
              have hF : Fence.wide.fn 48 := trivial
              clear hbox hV
              gi_wp2_with fail
              refine CallsIn.mono (CallsIn.inRound _ (callsIn_wide.2 (side_join_calls x1 x2 out V hRV (by omega)))) ?_
              rintro e w' ⟨rfl, hb'⟩
              have hgbV : gb < V.heap.size := hA'.lt
              have hA2 : Boxed w' gb 9 (.string out) := (hb'.block gb hgbV).trans hA'
              have hc' := hA2.cell
              have hf' := hA2.frozen
              clear hb0 hb1
              gi_wp2_with fail
              have hq : gb + 1 < V.heap.size := Nat.lt_of_lt_of_le (by omega) hB'.size
              have hq3 : gw < V.heap.size := Nat.lt_of_lt_of_le (by omega) hB'.size
              have G := grownBy_setCell' w' gb (.string (joinF (x1, x2) out))
              have T1 : ∀ i, i < V.heap.size → i ≠ gb → (w'.setCell ⟨gb, 0, none⟩ (.string (joinF (x1, x2) out))).heap[i]? = V.heap[i]? := fun i hi hig => (G.block i (Nat.lt_of_lt_of_le hi hb'.size) (fun e => hig (by injection e))).trans (hb'.block i hi)
              have hset := hA2.set (.string (joinF (x1, x2) out))
              refine ⟨⟨Nat.le_trans hb'.size G.size, fun k o hk ho _ => (T1 k (Array.getElem?_eq_some_iff.1 ho).1 (by omega)).trans ho⟩, ⟨T1 _ hq (by omega), T1 _ hq3 (by omega)⟩, ?_, ⟨G.os.trans (hb'.os.trans hB'.os), G.tape.trans (hb'.tape.trans hB'.tape), G.output.trans (hb'.output.trans hB'.output), Nat.le_trans hB'.size (Nat.le_trans hb'.size G.size), fun i hi hig => (T1 i (Nat.lt_of_lt_of_le hi hB'.size) hig).trans (hB'.block i hi hig)⟩⟩
              rw [List.foldl_append, hout]
              show Boxed _ gb 9 (.string (joinF (xs[y.val]'(hxl ▸ y.isLt)) out))
              rw [hp.out]
              exact hset
            case done =>
              rintro D ys W hD hys ⟨hA, hB⟩ hK
              have hfin := fold_rev xs hxl ys hys joinF (leafF s)
              rw [hfin, ← hend.out] at hA
              have hc := hA.cell
              have t1 : Below w.heap.size w W := ⟨hB.os.trans belw.os, hB.tape.trans belw.tape, hB.output.trans belw.output, Nat.le_trans belw.size hB.size, fun i hi => (hB.block i (by omega) (by omega)).trans (belw.block i hi)⟩
              have t2 := Aside0.mk (t1.trans (belowK_b (w := W0) (o' := .deferred none) belw.size W D _ hD hK rfl rfl))
              have hv2 := hv1.out
              rw [beq_toListBytes] at hv2
              dsimp only [Exit.inBlock, Exit.then]
              by_cases hm0 : m = 0
              · subst hm0
                rw [decide_eq_true rfl, Bool.true_and] at hv2
                replace hv2 := Aside0.mk hv2
                go_wp2_with fail
                refine ⟨by simp, .inl ⟨_, _, rfl, run_takeDeferred hK, ?_⟩⟩
                exact ⟨.bool ((upF way (leafF s)).toList == root.toList), by simp [results, Tryd.results21, go_sem], by rw [hv2.out], t2.out⟩
              · rw [decide_eq_false hm0, Bool.false_and] at hv2
                replace hv2 := Aside0.mk hv2
                have dm : ((m : Int) == 0) = false := beq_eq_false_iff_ne.mpr (by omega)
                go_wp2_with fail
                refine ⟨by simp, .inl ⟨_, _, rfl, run_takeDeferred hK, ?_⟩⟩
                exact ⟨.bool false, by simp [results, Tryd.results21, go_sem], by rw [hv2.out], t2.out⟩
            case stop =>
              rintro D c pre W _ _ h _
              exact h.elim
end Go.Proofs.YtjkdenldddjcnaaDoor.Sha

set_option linter.unusedVariables false
set_option linter.unusedSimpArgs false
namespace Go.Proofs.YtjkdenldddjcnaaDoor.Sha
open Go Go.RowKit Go.Shelf Go.Proofs.YtjkdenldddjcnaaDoorW.PrintWords Go.Proofs.YtjkdenldddjcnaaDoorW.PrintLast Go.Proofs.YtjkdenldddjcnaaDoorW.PrintMore
def small (l : List ByteArray) : Bool := decide (l.length ≤ 1000000) && l.all (fun s => decide (s.size ≤ 549755813888))
def digest_Root.f (l0 : List ByteArray) : Option ByteArray := if small l0 = true then some (rootF l0) else none
theorem digest_Root.calls (A0 : Option Addr) (c0 : Nat) (l0 : List ByteArray) (r : ByteArray) (w : World) (hr0 : Kd.C Kd.string w A0 l0.length l0) (hc0 : l0.length ≤ c0) (hG_ : Amb w) (h : digest_Root.f l0 = some r) :
    Calls Tryd.prog 19 #[.slice A0 l0.length c0] w fun e w' => e = .returned (.string r) ∧ Below w.heap.size w w' := by
  unfold digest_Root.f at h
  by_cases hc : small l0 = true
  · rw [if_pos hc] at h
    have e := Option.some.inj h
    rw [← e]
    unfold small at hc
    rw [Bool.and_eq_true, decide_eq_true_iff, List.all_eq_true] at hc
    exact root_calls A0 c0 l0 w hr0 hc0 hG_ hc.1 (fun s hs => of_decide_eq_true (hc.2 s hs))
  · rw [if_neg hc] at h
    exact absurd h (by simp)
end Go.Proofs.YtjkdenldddjcnaaDoor.Sha

