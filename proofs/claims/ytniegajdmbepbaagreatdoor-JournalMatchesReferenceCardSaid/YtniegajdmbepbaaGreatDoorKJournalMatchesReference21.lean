/- digest.marked's closure, Leaf, Node, Chain: the digest behind a mark. digest.marked's closure, Leaf, Node, Chain: the digest behind a mark. Conditions: the string is at most 2^40 bytes. -/
import Derived.Test.YtniegajdmbepbaaGreatDoorKJournalMatchesReference14
import Derived.Test.YtniegajdmbepbaaGreatDoorKJournalMatchesReference19
import Derived.Test.YtniegajdmbepbaaGreatDoorKJournalMatchesReference20
set_option linter.unusedSimpArgs false
set_option linter.unusedVariables false
open Go.Proofs.YtniegajdmbepbaaGreatDoor
namespace Go.Proofs.YtniegajdmbepbaaGreatDoor.Sha
open Go Go.RowKit Go.Shelf Go.Proofs.YtniegajdmbepbaaGreatDoor.Rf Go.Proofs.YtniegajdmbepbaaGreatDoorW.PrintWords Go.Proofs.YtniegajdmbepbaaGreatDoorW.PrintLast Go.Proofs.YtniegajdmbepbaaGreatDoorW.PrintMore
def joinS (xs : List ByteArray) : ByteArray := ⟨((xs.map (·.data.toList)).flatten).toArray⟩
theorem append_data (x y : ByteArray) : (x ++ y).data.toList = x.data.toList ++ y.data.toList := by
 rw [ByteArray.data_append, Array.toList_append]
theorem join_flat : ∀ xs : List (List UInt8), Lib.join xs [] = xs.flatten
 | [] => rfl
 | x :: r => by rw [Lib.join_cons]; simp [Lib.joinTail]
theorem join_joinS (xs : List ByteArray) : (⟨(Lib.join (xs.map (·.data.toList)) (⟨#[]⟩ : ByteArray).data.toList).toArray⟩ : ByteArray) = joinS xs := by
 rw [show (⟨#[]⟩ : ByteArray).data.toList = [] from rfl, join_flat]
 rfl
theorem joinS_two (x y : ByteArray) : joinS [x, y] = x ++ y := by
 apply ByteArray.ext
 apply Array.toList_inj.1
 rw [append_data]
 simp [joinS]
theorem join_calls (bk c : Nat) (xs : List ByteArray) (w : World) (hx : w.heap[bk]? = some (.cells (xs.map Value.string).toArray 9 (0, 0))) (hn : xs.length ≤ 1000) (hc : xs.length ≤ c) (hj : (joinS xs).size ≤ 140737488355328) :
  Calls Tryz.prog 111 #[.slice (some ⟨bk, 0, none⟩) xs.length c, .string ⟨#[]⟩] w fun e w' => e = .returned (.string (joinS xs)) ∧ Below w.heap.size w w' := by
 have h := Tryz.strings_Join bk 0 c xs ⟨#[]⟩ w (fun j x hj => by simp [World.cell?, hx, hj]) (Array.getElem?_eq_some_iff.1 hx).1 (by omega) hc (by
  have e := congrArg ByteArray.size (join_joinS xs)
  have e2 : (⟨(Lib.join (xs.map (·.data.toList)) (⟨#[]⟩ : ByteArray).data.toList).toArray⟩ : ByteArray).size = (Lib.join (xs.map (·.data.toList)) (⟨#[]⟩ : ByteArray).data.toList).length := rfl
  omega)
 rw [join_joinS] at h
 exact h
def SM (v : World) (Bm bk : Nat) (mark : ByteArray) (xs : List ByteArray) (W : World) : Prop :=
 Boxed W Bm 9 (.string mark) ∧ W.heap[bk]? = some (.cells (xs.map Value.string).toArray 9 (0, 0)) ∧ Amb W ∧ Below v.heap.size v W ∧ v.heap.size ≤ W.heap.size
theorem keepSM {v : World} {Bm bk : Nat} {mark : ByteArray} {xs : List ByteArray} {W W' : World} (h : SM v Bm bk mark xs W) (hb : Below W.heap.size W W') : SM v Bm bk mark xs W' := by
 obtain ⟨h1, h2, h3, h4, h5⟩ := h
 exact ⟨(hb.block _ h1.lt).trans h1, (hb.block _ (Array.getElem?_eq_some_iff.1 h2).1).trans h2, h3.below_block hb, below_then h4 h5 hb, Nat.le_trans h5 hb.size⟩
def marked.T1 : Bool × List (List Nat × List Nat) := (true, [([], []), ([], []), ([1], [1]), ([0, 2], [0, 2]), ([3, 2], [3]), ([4, 4, 0, 1, 2, 3, 4], [4])])
def marked.B1 : List Nat := [0, 0, 2, 7, 15, 31]
theorem marked.tab1 : rtab .any (opsOf Tryz.f109 1) = marked.T1 := by kernel_rfl
theorem marked.bits1 : waitsOk marked.T1.2 marked.B1 = true := by kernel_rfl
noncomputable def markR1 : Code := ((Tryz.f109.body.bind (regionOf 1)).getD .skip)
set_option maxHeartbeats 4000000 in
set_option maxRecDepth 100000 in
theorem mark_r1 (R : Act → World → Prop) (v W : World) (v2 v3 v4 v5 v6 v7 v8 : Value) (Bm bk c : Nat) (mark : ByteArray) (xs : List ByteArray) (hn : xs.length ≤ 1000) (hc : xs.length ≤ c) (hj : (joinS xs).size ≤ 140737488355328)
  (hsz : (mark ++ joinS xs).size ≤ 1099511627776) (hlim : (9223372036854775807 < mark.size + (joinS xs).size) = False)
  (hS : SM v Bm bk mark xs W)
  (hQ : ∀ (z4 z5 z6 z7 z8 : Value) (W' : World), SM v Bm bk mark xs W' → R ⟨#[Value.slice (some ⟨bk, 0, none⟩) xs.length c, Value.pointer (some ⟨Bm, 0, none⟩), v2, Value.string (sumF (mark ++ joinS xs)), z4, z5, z6, z7, z8], []⟩ W') :
  markR1.wp Tryz.prog (Norm R) ⟨#[Value.slice (some ⟨bk, 0, none⟩) xs.length c, Value.pointer (some ⟨Bm, 0, none⟩), v2, v3, v4, v5, v6, v7, v8], []⟩ W := by
 unfold markR1
 conv => arg 2; whnf
 refine start_ (n := 6) (S := SM v Bm bk mark xs) (ds := []) (Sx14.b 6 0) (by kernel_rfl) rfl rfl (keepSM hS (below_drew1 (Below.refl _ _))) (fun hHeld => ?_); refine with_tabW marked.tab1 marked.bits1 (fun HT_ HW_ => ?_)
 generalize W.drew = w0_ at hHeld ⊢
 refine Sx14.p (i := 1) (N := some 5) HT_.out (Sx14.b 6 2) ?_
 refine take_ (i := 0) (N := some 4) (v := ?_) (a' := ?_) (Sx14.b 6 3) rfl rfl (take_ofW HT_.out HW_.out (by kernel_rfl)) (fun _ _ _ h => h) (Or.inl ⟨by rfl, ?_⟩) hHeld ?_ ?_
 rotate_left
 ·intro w' hS_
  have c_ := hS_.1.cell
  go_simp
  with_reducible rfl
 rotate_left
 ·simp only [Act.put, List.setIfInBounds_toArray, List.set_cons_zero, List.set_cons_succ, i64_w, i32_w]
  rfl
 refine one_ (i := 2) (N := some 6) (Sx14.b 6 7) rfl rfl (one_of HT_.out (by kernel_rfl)) (by decide) (fun K hK => ?_)
 refine goes_ Tryz.func111 (by kernel_rfl) rfl #[.slice (some ⟨bk, 0, none⟩) xs.length c, .string ⟨#[]⟩] (by rfl) rfl rfl (by (try simp only [List.map_toArray, List.map_cons, List.map_nil]); first | done | rfl) ?_
 refine (join_calls bk c xs _ hHeld.2.1 hn hc hj).mono ?_
 rintro e w1_ ⟨rfl, hd⟩
 refine ⟨_, rfl, ?_⟩
 refine hK.out _ _ (keepSM hHeld hd) (fun hHeld => ?_)
 clear hK K hd
 refine norm_ (a' := ?_) ?_ ?_
 rotate_left
 ·show Act.put _ (some 6) _ = _
  simp only [Act.put, List.setIfInBounds_toArray, List.set_cons_zero, List.set_cons_succ, i64_w, i32_w]
  rfl
 refine Sx14.p (i := 3) (N := some 7) HT_.out (Sx14.b 6 15) ?_
 refine one_ (i := 4) (N := some 8) (Sx14.b 6 31) rfl rfl (one_of HT_.out (by kernel_rfl)) (by decide) (fun K hK => ?_)
 refine goes_ Tryz.func110 (by kernel_rfl) rfl #[.string (mark ++ joinS xs)] (by rfl) rfl rfl (by (try simp only [List.map_toArray, List.map_cons, List.map_nil]); first | done | rfl) ?_
 refine (sum_calls (mark ++ joinS xs) hsz _ hHeld.2.2.1).mono ?_
 rintro e w2_ ⟨rfl, hd⟩
 refine ⟨_, rfl, ?_⟩
 refine hK.out _ _ (keepSM hHeld hd) (fun hHeld => ?_)
 clear hK K hd
 refine norm_ (a' := ?_) ?_ ?_
 rotate_left
 ·show Act.put _ (some 8) _ = _
  simp only [Act.put, List.setIfInBounds_toArray, List.set_cons_zero, List.set_cons_succ, i64_w, i32_w]
  rfl
 refine Sx14.p (i := 5) (N := some 3) HT_.out (Sx14.b 6 63) ?_
 refine done_ (done_of HT_.out (by kernel_rfl)) ?_
 exact hQ _ _ _ _ _ _ hHeld
open Go Go.RowKit Go.Shelf Go.Proofs.YtniegajdmbepbaaGreatDoor.Rf Go.Proofs.YtniegajdmbepbaaGreatDoorW.PrintWords Go.Proofs.YtniegajdmbepbaaGreatDoorW.PrintLast Go.Proofs.YtniegajdmbepbaaGreatDoorW.PrintMore
def chainF (a b : ByteArray) : ByteArray := sumF (⟨#[2]⟩ ++ (a ++ b))
theorem below_alloc' {n : Nat} {w W : World} (h : Below n w W) (hn : n ≤ W.heap.size) (o : Obj) : Below n w (W.alloc o) := h.trans ((below_alloc (Below.refl W.heap.size W) o).mono hn)
theorem chain_calls (a b : ByteArray) (w : World) (hr : Amb w) (hs : a.size + b.size ≤ 549755813888) :
    Calls Tryz.prog 70 #[.string a, .string b] w fun e w' => e = .returned (.string (chainF a b)) ∧ Below w.heap.size w w' := by
  obtain ⟨w1, h1⟩ : ∃ w1, w.alloc (Obj.cells #[.string ⟨#[2]⟩] 9) = w1 := ⟨_, rfl⟩
  obtain ⟨w2, h2⟩ : ∃ w2, w1.alloc (Obj.cells #[.string a, .string b] 9) = w2 := ⟨_, rfl⟩
  have hsz : w1.heap.size = w.heap.size + 1 := by rw [← h1]; simp
  have b1 : Boxed w1 w.heap.size 9 (.string ⟨#[2]⟩) := by rw [← h1]; exact Boxed.new w _ _
  have b2 : Boxed w2 w.heap.size 9 (.string ⟨#[2]⟩) := by rw [← h2]; exact b1.alloc _
  have r2 : w2.heap[w.heap.size + 1]? = some (.cells ([a, b].map Value.string).toArray 9 (0, 0)) := by rw [← h2, ← hsz]; exact heap_alloc_new ..
  have bel : Below w.heap.size w w2 := by rw [← h2]; exact below_alloc' (by rw [← h1]; exact below_alloc (Below.refl _ _) _) (by omega) _
  have hr2 := hr.below_block bel
  have hl : (⟨#[2]⟩ ++ joinS [a, b] : ByteArray).size ≤ 1099511627776 := by rw [joinS_two, ByteArray.size_append, ByteArray.size_append]; show 1 + _ ≤ _; omega
  have hle : w.heap.size ≤ w2.heap.size := bel.size
  go_enter Tryz.func70, Tryz.ntmps70
  go_wp2_with go_in
  refine norm_wp ?_
  refine mark_r1 _ w2 w2 _ _ _ _ _ _ _ w.heap.size (w.heap.size + 1) 2 ⟨#[2]⟩ [a, b] (by simp) (by simp) (by rw [ByteArray.size_append] at hl; omega) hl (eq_false (by rw [ByteArray.size_append] at hl; omega)) ⟨b2, r2, hr2, Below.refl _ _, Nat.le_refl _⟩ ?_
  intro z4 z5 z6 z7 z8 W' hS
  have hb := hS.2.2.2.1
  go_wp2
  go_ret
  rw [joinS_two]
  exact ⟨rfl, bel.trans (hb.mono hle)⟩
end Go.Proofs.YtniegajdmbepbaaGreatDoor.Sha
