/- digest.schedule's regions, each a theorem. digest.schedule's walk. (*words).add's drawing regions, each a theorem. -/
import Derived.Test.YtniegajdmbepbaaGreatDoorKJournalMatchesReference14
import Derived.Test.YtniegajdmbepbaaGreatDoorKJournalMatchesReference15
import Derived.Deep.QuietTactic
import Derived.BigQuiet
import Derived.Deep.RegionHeld3
import Derived.Test.YtniegajdmbepbaaGreatDoorProg
import Derived.Test.YtniegajdmbepbaaGreatDoorKJournalMatchesReference2
import Derived.Test.YtniegajdmbepbaaGreatDoorKJournalMatchesReference10
import Derived.WalkKit
import Derived.KernelRfl
import Derived.Below
import Derived.StillTailTactics
import Derived.LoopTactic
import Derived.OwnWalk
import Derived.WalkMore
import Derived.Outline
import Derived.Deep.Cut
import Derived.Deep.MidRow
set_option linter.unusedSimpArgs false
set_option linter.unusedVariables false
open Go.Proofs.YtniegajdmbepbaaGreatDoor
namespace Go.Proofs.YtniegajdmbepbaaGreatDoor.Sha
open Go Go.RowKit Go.Proofs.YtniegajdmbepbaaGreatDoorW.PrintWords Go.Proofs.YtniegajdmbepbaaGreatDoorW.PrintLast Go.Proofs.YtniegajdmbepbaaGreatDoorW.PrintMore
attribute [local go_sem] bits_xor bits_and bits_or bits_not wrap_u wrap_add wrap_shl24 wrap_shl16 wrap_shl8 shr3 shr10 wrap_wide
def Arr (w : World) (g : Nat) (e : TypeId) (l : List B) : Prop := w.heap[g]? = some (.cells (l.map fun x => Value.int .u32 (u x)).toArray e (0, 0))
def Bytes (w : World) (g o : Nat) (l : List (BitVec 8)) : Prop := ∀ j b, l[j]? = some b → w.cell? ⟨g, o + j, none⟩ = some (.int .u8 (ub b))
theorem Arr.cell {w : World} {g : Nat} {e : TypeId} {l : List B} (h : Arr w g e l) (j : Nat) (x : B) (hx : l[j]? = some x) : w.cell? ⟨g, j, none⟩ = some (.int .u32 (u x)) := by
 unfold Arr at h
 simp only [World.cell?, h]
 have hj : j < l.length := (List.getElem?_eq_some_iff.1 hx).1
 have := (List.getElem?_eq_some_iff.1 hx).2
 simp [List.getElem?_eq_getElem hj, this]
theorem Arr.block {w W : World} {g : Nat} {e : TypeId} {l : List B} (h : Arr w g e l) (k : W.heap[g]? = w.heap[g]?) : Arr W g e l := k.trans h
theorem Arr.lt {w : World} {g : Nat} {e : TypeId} {l : List B} (h : Arr w g e l) : g < w.heap.size := (Array.getElem?_eq_some_iff.1 h).1
theorem Arr.notFrozen {w : World} {g : Nat} {e : TypeId} {l : List B} (h : Arr w g e l) (j : Nat) : w.frozen? ⟨g, j, none⟩ = false := by
 unfold Arr at h
 simp only [World.frozen?, h, Bool.and_eq_false_iff, decide_eq_false_iff_not]
 right
 omega
theorem Arr.set {w : World} {g : Nat} {e : TypeId} {l : List B} (h : Arr w g e l) (j : Nat) (x : B) : Arr (w.setCell ⟨g, j, none⟩ (.int .u32 (u x))) g e (l.set j x) := by
 have h' := h
 unfold Arr at h'
 rw [setCell_eq_setRow w g j _ _ _ _ h']
 unfold Arr
 rw [setRow_heap w g _ _ _ (0, 0) h']
 congr 2
 apply Array.toList_inj.1
 simp [Array.toList_setIfInBounds, List.map_set]
theorem Arr.set_below {v w : World} {g : Nat} {e : TypeId} {l : List B} (h : Arr w g e l) (j : Nat) (x : Value) (hb : Below v.heap.size v w) (hg : v.heap.size ≤ g) : Below v.heap.size v (w.setCell ⟨g, j, none⟩ x) := by
 unfold Arr at h
 rw [setCell_eq_setRow w g j _ _ _ _ h]
 exact ⟨hb.os, hb.tape, hb.output, by have := hb.size; simpa using this, fun i hi => (setRow_other w g i _ (by omega)).trans (hb.block i hi)⟩
theorem Arr.cellD {w : World} {g : Nat} {e : TypeId} {l : List B} (h : Arr w g e l) (j : Nat) (hj : j < l.length) : w.cell? ⟨g, j, none⟩ = some (.int .u32 (u (l.getD j 0))) := h.cell j _ (by rw [List.getD_eq_getElem?_getD, List.getElem?_eq_getElem hj]; rfl)
theorem Below.all {w W : World} (h : Below w.heap.size w W) {q : Nat} (hq : q < w.heap.size) : W.heap[q]? = w.heap[q]? := h.block q hq
theorem keep_all {v w W : World} {q n7 n16 m : Nat} {e : TypeId} {L : List B} {x7 x16 xm : Value} (h : Below w.heap.size w W) (h16 : w.cell? ⟨q, n16, none⟩ = some x16) (h7 : w.cell? ⟨q, n7, none⟩ = some x7) (hm : w.cell? ⟨q, m, none⟩ = some xm)
  (hf : w.frozen? ⟨q, m, none⟩ = false) (hA : Arr w q e L) (hB : Below v.heap.size v w) (hs : v.heap.size ≤ w.heap.size) :
  W.cell? ⟨q, n16, none⟩ = some x16 ∧ W.cell? ⟨q, n7, none⟩ = some x7 ∧ W.cell? ⟨q, m, none⟩ = some xm ∧ W.frozen? ⟨q, m, none⟩ = false ∧ Arr W q e L ∧ Below v.heap.size v W ∧ v.heap.size ≤ W.heap.size := by
 have hk := h.block q hA.lt
 refine ⟨?_, ?_, ?_, (hA.block hk).notFrozen m, hA.block hk, below_then hB hs h, Nat.le_trans hs h.size⟩
 ·rw [← h16]; simp only [World.cell?, hk]
 ·rw [← h7]; simp only [World.cell?, hk]
 ·rw [← hm]; simp only [World.cell?, hk]
def SR (v : World) (q m7 m16 m : Nat) (b7 b16 bm : B) (L : List B) (W : World) : Prop :=
 W.cell? ⟨q, m16, none⟩ = some (.int .u32 (u b16)) ∧ W.cell? ⟨q, m7, none⟩ = some (.int .u32 (u b7)) ∧ W.cell? ⟨q, m, none⟩ = some (.int .u32 (u bm)) ∧ W.frozen? ⟨q, m, none⟩ = false ∧ Arr W q 214 L ∧ Below v.heap.size v W ∧ v.heap.size ≤ W.heap.size
theorem keepSR {v : World} {q m7 m16 m : Nat} {b7 b16 bm : B} {L : List B} {W W' : World} (h : SR v q m7 m16 m b7 b16 bm L W) (hb : Below W.heap.size W W') : SR v q m7 m16 m b7 b16 bm L W' := by
 obtain ⟨h1, h2, h3, h4, h5, h6, h7⟩ := h
 exact keep_all hb h1 h2 h3 h4 h5 h6 h7
theorem keep_blk {W : World} {g : Nat} {b X : Obj} (h : W.heap[g]? = some b) : (W.alloc X).heap[g]? = some b := by
 have hl := (Array.getElem?_eq_some_iff.1 h).1
 rw [(below_alloc (Below.refl W.heap.size W) X).block g hl]; exact h
theorem keep_dr {W W' : World} {g : Nat} {b : Obj} (h : W.heap[g]? = some b) (hd : Drawn0 W W') : W'.heap[g]? = some b := by
 rw [hd.below.block g (Array.getElem?_eq_some_iff.1 h).1]; exact h
def s0 (x : B) : B := (rr 7 x ^^^ rr 18 x) ^^^ x >>> 3
def s1 (x : B) : B := (rr 17 x ^^^ rr 19 x) ^^^ x >>> 10
def regionOf (n : Nat) : Code → Option Code
 | .region id ops b => if id = n then some (.region id ops b) else none
 | .seq a b => match regionOf n a with
  | some c => some c
  | none => regionOf n b
 | .loop c => regionOf n c
 | .block _ c => regionOf n c
 | .scope c => regionOf n c
 | .cond _ a b => match regionOf n a with
  | some c => some c
  | none => regionOf n b
 | _ => none
noncomputable def schedR10 : Code := ((Tryz.f144.body.bind (regionOf 10)).getD .skip)
def Norm (R : Act → World → Prop) : Exit → Act → World → Prop
 | .normal, a, w => R a w
 | _, _, _ => False
def sched.T10 : Bool × List (List Nat × List Nat) := (true, [([], []), ([], []), ([1], [1]), ([2], [2]), ([3], [3]), ([], []), ([], []), ([5, 6], [5, 6]), ([], []), ([8], [8]), ([7, 9], [7, 9]), ([4, 10], [4, 10]), ([], []), ([12], [12]), ([13], [13]), ([14], [14]), ([11, 15], [11, 15]), ([], []), ([], []), ([17, 18, 7], [17, 18]), ([], []), ([20], [20]), ([19, 21], [19, 21]), ([16, 22], [16, 22]), ([0, 0, 1, 2, 3, 4, 5, 6, 7, 8, 9, 10, 11, 12, 13, 14, 15, 16, 17, 18, 19, 20, 21, 22, 23], [0]), ([24, 23, 19, 0, 1, 2, 3, 4, 5, 6, 7, 8, 9, 10, 11, 12, 13, 14, 15, 16, 17, 18, 19, 20, 21, 22, 23], [23, 24])])
def sched.B10 : List Nat := [0, 0, 2, 6, 14, 0, 0, 96, 0, 256, 992, 2046, 0, 4096, 12288, 28672, 65534, 0, 0, 393440, 0, 1048576, 4063456, 8388606, 16777215, 33554431]
theorem sched.tab10 : rtab .any (opsOf Tryz.f144 10) = sched.T10 := by kernel_rfl
theorem sched.bits10 : waitsOk sched.T10.2 sched.B10 = true := by kernel_rfl
set_option maxHeartbeats 4000000 in
set_option maxRecDepth 100000 in
theorem sched_r10 (R : Act → World → Prop) (v W : World) (v0 v1 v3 v7 v8 v9 v10 v11 v12 v13 v14 v15 v16 v17 v18 v19 v20 v21 v22 v23 v24 v25 v26 v27 v28 v29 v30 v31 v32 v33 v34 v35 v36 v37 v38 v39 v40 v41 v42 v43 v44 v45 v46 v47 v48 v49 v50 v51 v52 v53 v54 v55 v56 v57 v58 v59 v60 v61 v62 v63 v64 v65 v66 v67 v68 v69 v70 v71 v72 v73 v74 v75 v76 v77 v78 v79 v80 v81 v82 v83 : Value) (q m m7 m16 : Nat) (b15 b16 b2 b7 bm : B) (L : List B)
  (k16 : IntKind.i64.wrap ((m : Int) - 16) = (m16 : Int)) (k7 : IntKind.i64.wrap ((m : Int) - 7) = (m7 : Int))
  (y16 : IntKind.i64.wrap (m16 : Int) = (m16 : Int)) (y7 : IntKind.i64.wrap (m7 : Int) = (m7 : Int)) (ym : IntKind.i64.wrap (m : Int) = (m : Int))
  (x16 : ((m16 : Int) < 64) = True) (x7 : ((m7 : Int) < 64) = True) (xm : ((m : Int) < 64) = True)
  (hS : SR v q m7 m16 m b7 b16 bm L W) (hq : v.heap.size ≤ q)
  (hQ : ∀ (z58 z59 z60 z61 z62 z63 z64 z65 z66 z67 z68 z69 z70 z71 z72 z73 z74 z75 z76 z77 z78 z79 z80 z81 z82 : Value) (W' : World), Arr W' q 214 (L.set m (b16 + s0 b15 + b7 + s1 b2)) → Below v.heap.size v W' → R ⟨#[v0, v1, Value.pointer (some ⟨q, 0, none⟩), v3, Value.int .i64 (m : Int), Value.int .u32 (u b15), Value.int .u32 (u b2), v7, v8, v9, v10, v11, v12, v13, v14, v15, v16, v17, v18, v19, v20, v21, v22, v23, v24, v25, v26, v27, v28, v29, v30, v31, v32, v33, v34, v35, v36, v37, v38, v39, v40, v41, v42, v43, v44, v45, v46, v47, v48, v49, v50, v51, v52, v53, v54, v55, v56, v57, z58, z59, z60, z61, z62, z63, z64, z65, z66, z67, z68, z69, z70, z71, z72, z73, z74, z75, z76, z77, z78, z79, z80, z81, z82, v83], []⟩ W') :
  schedR10.wp Tryz.prog (Norm R) ⟨#[v0, v1, Value.pointer (some ⟨q, 0, none⟩), v3, Value.int .i64 (m : Int), Value.int .u32 (u b15), Value.int .u32 (u b2), v7, v8, v9, v10, v11, v12, v13, v14, v15, v16, v17, v18, v19, v20, v21, v22, v23, v24, v25, v26, v27, v28, v29, v30, v31, v32, v33, v34, v35, v36, v37, v38, v39, v40, v41, v42, v43, v44, v45, v46, v47, v48, v49, v50, v51, v52, v53, v54, v55, v56, v57, v58, v59, v60, v61, v62, v63, v64, v65, v66, v67, v68, v69, v70, v71, v72, v73, v74, v75, v76, v77, v78, v79, v80, v81, v82, v83], []⟩ W := by
 unfold schedR10
 conv => arg 2; whnf
 refine start_ (n := 26) (S := SR v q m7 m16 m b7 b16 bm L) (ds := [25]) (Sx14.b 26 0) (by kernel_rfl) rfl rfl (keepSR hS (below_drew1 (Below.refl _ _))) (fun hHeld => ?_); refine with_tabW sched.tab10 sched.bits10 (fun HT_ HW_ => ?_)
 generalize W.drew = w0_ at hHeld ⊢
 refine Sx14.p (i := 0) (N := some 58) HT_.out (Sx14.b 26 1) ?_
 refine Sx14.p (i := 1) (N := some 59) HT_.out (Sx14.b 26 3) ?_
 refine Sx14.p (i := 2) (N := some 60) HT_.out (Sx14.b 26 7) ?_
 refine Sx14.p (i := 3) (N := some 61) HT_.out (Sx14.b 26 15) ?_
 refine Sx14.p (i := 5) (N := some 63) HT_.out (Sx14.b 26 47) ?_
 refine Sx14.p (i := 8) (N := some 66) HT_.out (Sx14.b 26 303) ?_
 refine Sx14.p (i := 9) (N := some 67) HT_.out (Sx14.b 26 815) ?_
 refine Sx14.p (i := 12) (N := some 70) HT_.out (Sx14.b 26 4911) ?_
 refine Sx14.p (i := 13) (N := some 71) HT_.out (Sx14.b 26 13103) ?_
 refine Sx14.p (i := 14) (N := some 72) HT_.out (Sx14.b 26 29487) ?_
 refine Sx14.p (i := 17) (N := some 75) HT_.out (Sx14.b 26 160559) ?_
 refine Sx14.p (i := 20) (N := some 78) HT_.out (Sx14.b 26 1209135) ?_
 refine Sx14.p (i := 21) (N := some 79) HT_.out (Sx14.b 26 3306287) ?_
 refine take_ (i := 4) (N := some 62) (v := ?_) (a' := ?_) (Sx14.b 26 3306303) rfl rfl (take_ofW HT_.out HW_.out (by kernel_rfl)) (fun _ _ _ h => h) (Or.inl ⟨by rfl, ?_⟩) hHeld ?_ ?_
 rotate_left
 ·intro w' hS_
  obtain ⟨h1_, h2_, h3_, h4_, h5_, h6_, h7_⟩ := hS_
  go_simp
  with_reducible rfl
 rotate_left
 ·simp only [Act.put, Sx14.u, Sx14.v, Sx14.w, i64_w, i32_w]
  rfl
 refine take_ (i := 15) (N := some 73) (v := ?_) (a' := ?_) (Sx14.b 26 3339071) rfl rfl (take_ofW HT_.out HW_.out (by kernel_rfl)) (fun _ _ _ h => h) (Or.inl ⟨by rfl, ?_⟩) hHeld ?_ ?_
 rotate_left
 ·intro w' hS_
  obtain ⟨h1_, h2_, h3_, h4_, h5_, h6_, h7_⟩ := hS_
  go_simp
  with_reducible rfl
 rotate_left
 ·simp only [Act.put, Sx14.u, Sx14.v, Sx14.w, i64_w, i32_w]
  rfl
 refine two_ (i := 6) (j := 18) (Ni := some 64) (Nj := some 76) (Sx14.b 26 3339135) (Sx14.b 26 3601215) rfl rfl rfl rfl (two_of HT_.out (by kernel_rfl)) (by decide) (by decide) (fun K hK => ?_) (fun K hK => ?_)
 ·skip
  go_simp
  refine hK.out _ _ (keepSR hHeld (below_alloc (Below.refl _ _) _)) (fun hHeld => ?_)
  clear hK K
  have hg6 := heap_alloc_new w0_ (Obj.cells #[.int .i64 7, .int .i64 18] 3)
  generalize hw1_ : w0_.alloc (Obj.cells #[.int .i64 7, .int .i64 18] 3) = w1_ at hg6 hHeld ⊢
  clear hw1_
  refine two_ (i := 7) (j := 18) (Ni := some 65) (Nj := some 76) (Sx14.b 26 3339263) (Sx14.b 26 3601279) rfl rfl rfl rfl (two_of HT_.out (by kernel_rfl)) (by decide) (by decide) (fun K hK => ?_) (fun K hK => ?_)
  ·skip
   refine goes_ Tryz.func145 (by kernel_rfl) rfl #[.int .u32 (u b15), .slice (some ⟨_, 0, none⟩) 2 2] (by rfl) rfl rfl (by (try simp only [List.map_toArray, List.map_cons, List.map_nil]); first | done | rfl) ?_
   refine (mixed2_calls b15 7 18 (by decide) (by decide) _ _ _ _ _ hg6 (by decide)).mono ?_
   rintro e w2_ ⟨rfl, hd⟩
   refine ⟨_, rfl, ?_⟩
   refine hK.out _ _ (keepSR hHeld hd.below) (fun hHeld => ?_)
   replace hg6 := keep_dr hg6 hd
   clear hK K hd
   refine norm_ (a' := ?_) ?_ ?_
   rotate_left
   ·show Act.put _ (some 65) _ = _
    simp only [Act.put, Sx14.u, Sx14.v, Sx14.w, i64_w, i32_w]
    rfl
   refine Sx14.p (i := 10) (N := some 68) HT_.out (Sx14.b 26 3340287) ?_
   refine Sx14.p (i := 11) (N := some 69) HT_.out (Sx14.b 26 3342335) ?_
   refine Sx14.p (i := 16) (N := some 74) HT_.out (Sx14.b 26 3407871) ?_
   refine one_ (i := 18) (N := some 76) (Sx14.b 26 3670015) rfl rfl (one_of HT_.out (by kernel_rfl)) (by decide) (fun K hK => ?_)
   go_simp
   refine hK.out _ _ (keepSR hHeld (below_alloc (Below.refl _ _) _)) (fun hHeld => ?_)
   clear hK K
   replace hg6 := keep_blk (X := Obj.cells #[.int .i64 17, .int .i64 19] 3) hg6
   have hg18 := heap_alloc_new w2_ (Obj.cells #[.int .i64 17, .int .i64 19] 3)
   generalize hw3_ : w2_.alloc (Obj.cells #[.int .i64 17, .int .i64 19] 3) = w3_ at hg6 hg18 hHeld ⊢
   clear hw3_
   refine one_ (i := 19) (N := some 77) (Sx14.b 26 4194303) rfl rfl (one_of HT_.out (by kernel_rfl)) (by decide) (fun K hK => ?_)
   refine goes_ Tryz.func145 (by kernel_rfl) rfl #[.int .u32 (u b2), .slice (some ⟨_, 0, none⟩) 2 2] (by rfl) rfl rfl (by (try simp only [List.map_toArray, List.map_cons, List.map_nil]); first | done | rfl) ?_
   refine (mixed2_calls b2 17 19 (by decide) (by decide) _ _ _ _ _ hg18 (by decide)).mono ?_
   rintro e w4_ ⟨rfl, hd⟩
   refine ⟨_, rfl, ?_⟩
   refine hK.out _ _ (keepSR hHeld hd.below) (fun hHeld => ?_)
   replace hg6 := keep_dr hg6 hd
   replace hg18 := keep_dr hg18 hd
   clear hK K hd
   refine norm_ (a' := ?_) ?_ ?_
   rotate_left
   ·show Act.put _ (some 77) _ = _
    simp only [Act.put, Sx14.u, Sx14.v, Sx14.w, i64_w, i32_w]
    rfl
   refine Sx14.p (i := 22) (N := some 80) HT_.out (Sx14.b 26 8388607) ?_
   refine Sx14.p (i := 23) (N := some 81) HT_.out (Sx14.b 26 16777215) ?_
   refine Sx14.p (i := 24) (N := some 82) HT_.out (Sx14.b 26 33554431) ?_
   refine last_ (i := 25) (N := none) (Sx14.b 26 67108863) rfl rfl (one_of HT_.out (by kernel_rfl)) (by decide) (fun K hK => ?_)
   obtain ⟨h1_, h2_, h3_, h4_, h5_, h6_, h7_⟩ := hHeld
   refine skip_ (w1 := ?_) (by rfl) rfl ?_ ?_
   rotate_left
   ·go_simp
    rfl
   refine hK.out _ _ ?_
   clear hK K
   refine done_ (done_of HT_.out (by kernel_rfl)) ?_
   exact hQ _ _ _ _ _ _ _ _ _ _ _ _ _ _ _ _ _ _ _ _ _ _ _ _ _ _ (h5_.set m _) (Arr.set_below h5_ m _ h6_ hq)
  ·skip
   go_simp
   refine hK.out _ _ (keepSR hHeld (below_alloc (Below.refl _ _) _)) (fun hHeld => ?_)
   clear hK K
   replace hg6 := keep_blk (X := Obj.cells #[.int .i64 17, .int .i64 19] 3) hg6
   have hg18 := heap_alloc_new w1_ (Obj.cells #[.int .i64 17, .int .i64 19] 3)
   generalize hw5_ : w1_.alloc (Obj.cells #[.int .i64 17, .int .i64 19] 3) = w5_ at hg6 hg18 hHeld ⊢
   clear hw5_
   refine one_ (i := 7) (N := some 65) (Sx14.b 26 3601407) rfl rfl (one_of HT_.out (by kernel_rfl)) (by decide) (fun K hK => ?_)
   refine goes_ Tryz.func145 (by kernel_rfl) rfl #[.int .u32 (u b15), .slice (some ⟨_, 0, none⟩) 2 2] (by rfl) rfl rfl (by (try simp only [List.map_toArray, List.map_cons, List.map_nil]); first | done | rfl) ?_
   refine (mixed2_calls b15 7 18 (by decide) (by decide) _ _ _ _ _ hg6 (by decide)).mono ?_
   rintro e w6_ ⟨rfl, hd⟩
   refine ⟨_, rfl, ?_⟩
   refine hK.out _ _ (keepSR hHeld hd.below) (fun hHeld => ?_)
   replace hg6 := keep_dr hg6 hd
   replace hg18 := keep_dr hg18 hd
   clear hK K hd
   refine norm_ (a' := ?_) ?_ ?_
   rotate_left
   ·show Act.put _ (some 65) _ = _
    simp only [Act.put, Sx14.u, Sx14.v, Sx14.w, i64_w, i32_w]
    rfl
   refine Sx14.p (i := 10) (N := some 68) HT_.out (Sx14.b 26 3602431) ?_
   refine Sx14.p (i := 11) (N := some 69) HT_.out (Sx14.b 26 3604479) ?_
   refine Sx14.p (i := 16) (N := some 74) HT_.out (Sx14.b 26 3670015) ?_
   refine one_ (i := 19) (N := some 77) (Sx14.b 26 4194303) rfl rfl (one_of HT_.out (by kernel_rfl)) (by decide) (fun K hK => ?_)
   refine goes_ Tryz.func145 (by kernel_rfl) rfl #[.int .u32 (u b2), .slice (some ⟨_, 0, none⟩) 2 2] (by rfl) rfl rfl (by (try simp only [List.map_toArray, List.map_cons, List.map_nil]); first | done | rfl) ?_
   refine (mixed2_calls b2 17 19 (by decide) (by decide) _ _ _ _ _ hg18 (by decide)).mono ?_
   rintro e w7_ ⟨rfl, hd⟩
   refine ⟨_, rfl, ?_⟩
   refine hK.out _ _ (keepSR hHeld hd.below) (fun hHeld => ?_)
   replace hg6 := keep_dr hg6 hd
   replace hg18 := keep_dr hg18 hd
   clear hK K hd
   refine norm_ (a' := ?_) ?_ ?_
   rotate_left
   ·show Act.put _ (some 77) _ = _
    simp only [Act.put, Sx14.u, Sx14.v, Sx14.w, i64_w, i32_w]
    rfl
   refine Sx14.p (i := 22) (N := some 80) HT_.out (Sx14.b 26 8388607) ?_
   refine Sx14.p (i := 23) (N := some 81) HT_.out (Sx14.b 26 16777215) ?_
   refine Sx14.p (i := 24) (N := some 82) HT_.out (Sx14.b 26 33554431) ?_
   refine last_ (i := 25) (N := none) (Sx14.b 26 67108863) rfl rfl (one_of HT_.out (by kernel_rfl)) (by decide) (fun K hK => ?_)
   obtain ⟨h1_, h2_, h3_, h4_, h5_, h6_, h7_⟩ := hHeld
   refine skip_ (w1 := ?_) (by rfl) rfl ?_ ?_
   rotate_left
   ·go_simp
    rfl
   refine hK.out _ _ ?_
   clear hK K
   refine done_ (done_of HT_.out (by kernel_rfl)) ?_
   exact hQ _ _ _ _ _ _ _ _ _ _ _ _ _ _ _ _ _ _ _ _ _ _ _ _ _ _ (h5_.set m _) (Arr.set_below h5_ m _ h6_ hq)
 ·skip
  go_simp
  refine hK.out _ _ (keepSR hHeld (below_alloc (Below.refl _ _) _)) (fun hHeld => ?_)
  clear hK K
  have hg18 := heap_alloc_new w0_ (Obj.cells #[.int .i64 17, .int .i64 19] 3)
  generalize hw8_ : w0_.alloc (Obj.cells #[.int .i64 17, .int .i64 19] 3) = w8_ at hg18 hHeld ⊢
  clear hw8_
  refine one_ (i := 6) (N := some 64) (Sx14.b 26 3601279) rfl rfl (one_of HT_.out (by kernel_rfl)) (by decide) (fun K hK => ?_)
  go_simp
  refine hK.out _ _ (keepSR hHeld (below_alloc (Below.refl _ _) _)) (fun hHeld => ?_)
  clear hK K
  replace hg18 := keep_blk (X := Obj.cells #[.int .i64 7, .int .i64 18] 3) hg18
  have hg6 := heap_alloc_new w8_ (Obj.cells #[.int .i64 7, .int .i64 18] 3)
  generalize hw9_ : w8_.alloc (Obj.cells #[.int .i64 7, .int .i64 18] 3) = w9_ at hg18 hg6 hHeld ⊢
  clear hw9_
  refine one_ (i := 7) (N := some 65) (Sx14.b 26 3601407) rfl rfl (one_of HT_.out (by kernel_rfl)) (by decide) (fun K hK => ?_)
  refine goes_ Tryz.func145 (by kernel_rfl) rfl #[.int .u32 (u b15), .slice (some ⟨_, 0, none⟩) 2 2] (by rfl) rfl rfl (by (try simp only [List.map_toArray, List.map_cons, List.map_nil]); first | done | rfl) ?_
  refine (mixed2_calls b15 7 18 (by decide) (by decide) _ _ _ _ _ hg6 (by decide)).mono ?_
  rintro e w10_ ⟨rfl, hd⟩
  refine ⟨_, rfl, ?_⟩
  refine hK.out _ _ (keepSR hHeld hd.below) (fun hHeld => ?_)
  replace hg18 := keep_dr hg18 hd
  replace hg6 := keep_dr hg6 hd
  clear hK K hd
  refine norm_ (a' := ?_) ?_ ?_
  rotate_left
  ·show Act.put _ (some 65) _ = _
   simp only [Act.put, Sx14.u, Sx14.v, Sx14.w, i64_w, i32_w]
   rfl
  refine Sx14.p (i := 10) (N := some 68) HT_.out (Sx14.b 26 3602431) ?_
  refine Sx14.p (i := 11) (N := some 69) HT_.out (Sx14.b 26 3604479) ?_
  refine Sx14.p (i := 16) (N := some 74) HT_.out (Sx14.b 26 3670015) ?_
  refine one_ (i := 19) (N := some 77) (Sx14.b 26 4194303) rfl rfl (one_of HT_.out (by kernel_rfl)) (by decide) (fun K hK => ?_)
  refine goes_ Tryz.func145 (by kernel_rfl) rfl #[.int .u32 (u b2), .slice (some ⟨_, 0, none⟩) 2 2] (by rfl) rfl rfl (by (try simp only [List.map_toArray, List.map_cons, List.map_nil]); first | done | rfl) ?_
  refine (mixed2_calls b2 17 19 (by decide) (by decide) _ _ _ _ _ hg18 (by decide)).mono ?_
  rintro e w11_ ⟨rfl, hd⟩
  refine ⟨_, rfl, ?_⟩
  refine hK.out _ _ (keepSR hHeld hd.below) (fun hHeld => ?_)
  replace hg18 := keep_dr hg18 hd
  replace hg6 := keep_dr hg6 hd
  clear hK K hd
  refine norm_ (a' := ?_) ?_ ?_
  rotate_left
  ·show Act.put _ (some 77) _ = _
   simp only [Act.put, Sx14.u, Sx14.v, Sx14.w, i64_w, i32_w]
   rfl
  refine Sx14.p (i := 22) (N := some 80) HT_.out (Sx14.b 26 8388607) ?_
  refine Sx14.p (i := 23) (N := some 81) HT_.out (Sx14.b 26 16777215) ?_
  refine Sx14.p (i := 24) (N := some 82) HT_.out (Sx14.b 26 33554431) ?_
  refine last_ (i := 25) (N := none) (Sx14.b 26 67108863) rfl rfl (one_of HT_.out (by kernel_rfl)) (by decide) (fun K hK => ?_)
  obtain ⟨h1_, h2_, h3_, h4_, h5_, h6_, h7_⟩ := hHeld
  refine skip_ (w1 := ?_) (by rfl) rfl ?_ ?_
  rotate_left
  ·go_simp
   rfl
  refine hK.out _ _ ?_
  clear hK K
  refine done_ (done_of HT_.out (by kernel_rfl)) ?_
  exact hQ _ _ _ _ _ _ _ _ _ _ _ _ _ _ _ _ _ _ _ _ _ _ _ _ _ _ (h5_.set m _) (Arr.set_below h5_ m _ h6_ hq)
open Go Go.RowKit Go.Proofs.YtniegajdmbepbaaGreatDoorW.PrintWords Go.Proofs.YtniegajdmbepbaaGreatDoorW.PrintLast Go.Proofs.YtniegajdmbepbaaGreatDoorW.PrintMore
attribute [local go_sem] bits_xor bits_and bits_or bits_not wrap_u wrap_add wrap_shl24 wrap_shl16 wrap_shl8 shr3 shr10 wrap_wide
theorem norm_wp {P : Program} {c : Code} {Q : Exit → Act → World → Prop} {a : Act} {w : World} (h : c.wp P (Norm fun a' w' => Q .normal a' w') a w) : c.wp P Q a w :=
 Code.wp_mono (fun e a w h => by cases e <;> first | exact h | exact (h : False).elim) h
def cellsOf (L : List B) : Array Value := (L.map fun x => Value.int .u32 (u x)).toArray
theorem Arr.setCells_self {w : World} {q : Nat} {e : TypeId} {L : List B} (h : Arr w q e L) : ∀ (vs : List Value) (o : Nat), (L.map fun x => Value.int .u32 (u x)).drop o = vs → w.setCells q o vs = w
 | [], _, _ => rfl
 | v :: vs, o, hv => by
  have ho : o < (L.map fun x => Value.int .u32 (u x)).length := by
   refine Decidable.byContradiction fun hn => ?_
   rw [List.drop_eq_nil_of_le (by omega)] at hv
   cases hv
  rw [List.drop_eq_getElem_cons ho] at hv
  injection hv with h1 h2
  show (w.setCell ⟨q, o, none⟩ v).setCells q (o + 1) vs = w
  have he : w.setCell ⟨q, o, none⟩ v = w := by
   have h' := h
   unfold Arr at h'
   rw [setCell_eq_setRow w q o _ _ _ _ h']
   have : ((L.map fun x => Value.int .u32 (u x)).toArray).setIfInBounds o v = (L.map fun x => Value.int .u32 (u x)).toArray := by
    rw [← h1]
    apply Array.toList_inj.1
    rw [Array.toList_setIfInBounds]
    exact List.set_getElem_self ho
   rw [this]
   exact setRow_self w q _ _ _ h'
  rw [he]
  exact h.setCells_self vs (o + 1) h2
theorem Arr.there {w : World} {q : Nat} {e : TypeId} {L : List B} (h : Arr w q e L) : w.there q 0 L.length := fun j hj => by
 rw [Nat.zero_add]
 refine ⟨?_, h.notFrozen j⟩
 rw [h.cellD j hj]
 rfl
theorem cellsOf_size (L : List B) : (cellsOf L).size = L.length := by simp [cellsOf]
theorem cellsOf_one (L : List B) : (cellsOf L).all (·.oneCell') = true := all_oneCell_toArray (fun v hv => by
 obtain ⟨x, _, rfl⟩ := List.mem_map.1 hv
 rfl)
theorem size88 : (Tryz.prog.info? 214).map (·.size) = some 64 := by kernel_rfl
def word (l : List (BitVec 8)) (m : Nat) : B := (wide (l.getD (4 * m) 0)) <<< 24 ||| (wide (l.getD (4 * m + 1) 0)) <<< 16 ||| (wide (l.getD (4 * m + 2) 0)) <<< 8 ||| wide (l.getD (4 * m + 3) 0)
def st1 (l : List (BitVec 8)) : Nat → List B
 | 0 => List.replicate 64 0
 | m + 1 => (st1 l m).set m (word l m)
theorem st1_length (l : List (BitVec 8)) : ∀ m, (st1 l m).length = 64
 | 0 => by simp [st1]
 | m + 1 => by simp [st1, st1_length l m]
def nxt (L : List B) (i : Nat) : B := L.getD (i - 16) 0 + s0 (L.getD (i - 15) 0) + L.getD (i - 7) 0 + s1 (L.getD (i - 2) 0)
def st2 (l : List (BitVec 8)) : Nat → List B
 | 0 => st1 l 16
 | n + 1 => (st2 l n).set (16 + n) (nxt (st2 l n) (16 + n))
theorem st2_length (l : List (BitVec 8)) : ∀ m, (st2 l m).length = 64
 | 0 => st1_length l 16
 | m + 1 => by simp [st2, st2_length l m]
set_option maxHeartbeats 2000000 in
set_option maxRecDepth 100000 in
theorem schedule_calls (g o c : Nat) (l : List (BitVec 8)) (hl : l.length = 64) (w : World) (hb : Bytes w g o l) (hgl : g < w.heap.size) (hc : 64 ≤ c) :
  Calls Tryz.prog 144 #[.slice (some ⟨g, o, none⟩) 64 c] w fun e w' => e = .returned (.agg (cellsOf (st2 l 48))) ∧ Below w.heap.size w w' := by
 go_enter Tryz.func144, Tryz.ntmps144
 go_wp2_with fail
 obtain ⟨W, hW, hA, hB⟩ : ∃ W, W = w.alloc (Obj.cells (List.replicate 64 (Value.int IntKind.u32 0)).toArray 214) ∧ Arr W w.heap.size 214 (List.replicate 64 0) ∧ Below w.heap.size w W := ⟨_, rfl, heap_alloc_new .., below_alloc (Below.refl _ _) _⟩
 replace hW := hW.symm
 change Code.wp _ _ _ _ (w.alloc (Obj.cells (List.replicate 64 (Value.int IntKind.u32 0)).toArray 214))
 rw [hW]
 clear hW
 generalize hq : w.heap.size = q at hA
 go_loopw [7] (fun i w' => ∃ m : Nat, i = .int .i64 m ∧ m ≤ 16 ∧ Arr w' q 214 (st1 l m) ∧ Below w.heap.size w w') (fun i _ => 16 - (intOf i).toNat)
 case atStart => exact ⟨0, rfl, by omega, hA, hB⟩
 case round =>
  obtain ⟨m, rfl, hm, hA, hB⟩ := hrel
  by_cases h1 : m < 16
  ·have e1 : decide ((m : Int) < 16) = true := decide_eq_true (by omega)
   have hgw : wr.heap[g]? = w.heap[g]? := hB.block g hgl
   obtain ⟨p0, hp0⟩ : ∃ p, 4 * m = p := ⟨_, rfl⟩
   obtain ⟨p1, hp1⟩ : ∃ p, p0 + 1 = p := ⟨_, rfl⟩
   obtain ⟨p2, hp2⟩ : ∃ p, p0 + 2 = p := ⟨_, rfl⟩
   obtain ⟨p3, hp3⟩ : ∃ p, p0 + 3 = p := ⟨_, rfl⟩
   have k0 : IntKind.i64.wrap (4 * (m : Int)) = (p0 : Int) := by rw [IntKind.wrap_i64]; omega
   have k1 : IntKind.i64.wrap ((p0 : Int) + 1) = (p1 : Int) := by rw [IntKind.wrap_i64]; omega
   have k2 : IntKind.i64.wrap ((p0 : Int) + 2) = (p2 : Int) := by rw [IntKind.wrap_i64]; omega
   have k3 : IntKind.i64.wrap ((p0 : Int) + 3) = (p3 : Int) := by rw [IntKind.wrap_i64]; omega
   have y0 : IntKind.i64.wrap (p0 : Int) = (p0 : Int) := by rw [IntKind.wrap_i64]; omega
   have y1 : IntKind.i64.wrap (p1 : Int) = (p1 : Int) := by rw [IntKind.wrap_i64]; omega
   have y2 : IntKind.i64.wrap (p2 : Int) = (p2 : Int) := by rw [IntKind.wrap_i64]; omega
   have y3 : IntKind.i64.wrap (p3 : Int) = (p3 : Int) := by rw [IntKind.wrap_i64]; omega
   have ym : IntKind.i64.wrap (m : Int) = (m : Int) := by rw [IntKind.wrap_i64]; omega
   have x0 : ((p0 : Int) < 64) = True := eq_true (by omega)
   have z0 : (p0 < 64) = True := eq_true (by omega)
   have x1 : ((p1 : Int) < 64) = True := eq_true (by omega)
   have z1 : (p1 < 64) = True := eq_true (by omega)
   have x2 : ((p2 : Int) < 64) = True := eq_true (by omega)
   have z2 : (p2 < 64) = True := eq_true (by omega)
   have x3 : ((p3 : Int) < 64) = True := eq_true (by omega)
   have z3 : (p3 < 64) = True := eq_true (by omega)
   have xm : ((m : Int) < 64) = True := eq_true (by omega)
   have zm : (m < 64) = True := eq_true (by omega)
   have L : ∀ p, p < 64 → wr.drew.cell? ⟨g, o + p, none⟩ = some (.int .u8 (ub (l.getD p 0))) := by
    intro p hp
    have h1 := hb p (l.getD p 0) (by rw [List.getD_eq_getElem?_getD, List.getElem?_eq_getElem (by omega)]; rfl)
    rw [← h1]
    simp only [World.cell?]
    rw [show wr.drew.heap[g]? = w.heap[g]? from hgw]
   obtain ⟨b0, hb0⟩ : ∃ b, l.getD p0 0 = b := ⟨_, rfl⟩
   obtain ⟨b1, hb1⟩ : ∃ b, l.getD p1 0 = b := ⟨_, rfl⟩
   obtain ⟨b2, hb2⟩ : ∃ b, l.getD p2 0 = b := ⟨_, rfl⟩
   obtain ⟨b3, hb3⟩ : ∃ b, l.getD p3 0 = b := ⟨_, rfl⟩
   have c0 := L p0 (by omega)
   have c1 := L p1 (by omega)
   have c2 := L p2 (by omega)
   have c3 := L p3 (by omega)
   rw [hb0] at c0
   rw [hb1] at c1
   rw [hb2] at c2
   rw [hb3] at c3
   have HW : Aside0 (word l m = wide b0 <<< 24 ||| wide b1 <<< 16 ||| wide b2 <<< 8 ||| wide b3) := ⟨by unfold word; rw [hp0, hp1, hp2, hp3, hb0, hb1, hb2, hb3]⟩
   have nf : wr.drew.frozen? ⟨q, m, none⟩ = false := Arr.notFrozen (w := wr.drew) hA m
   have cm : wr.drew.cell? ⟨q, m, none⟩ = some (.int .u32 (u ((st1 l m).getD m 0))) := Arr.cell (w := wr.drew) hA m _ (by rw [List.getD_eq_getElem?_getD, List.getElem?_eq_getElem (by rw [st1_length]; omega)]; rfl)
   clear L hb0 hb1 hb2 hb3 hgw
   go_wp2_with fail
   go_still_tail 35, (by kernel_rfl)
   change wpList _ _ _ _ _ wr.drew
   go_wp2_with fail
   go_roundw
   case rel => exact ⟨m + 1, by go_num, by omega, by show Arr _ q 214 ((st1 l m).set m (word l m)); rw [HW.out]; exact (Arr.set hA m _).block rfl, below_drew1 (Arr.set_below hA m _ hB (by omega))⟩
   case measure => simp [intOf]; omega
  ·have em : m = 16 := by omega
   subst em
   have e1 : decide (((16 : Nat) : Int) < 16) = false := by decide
   clear h1 hm
   go_wp2_with fail
   clear hgl hb
   go_loopw [4] (fun i w' => ∃ n : Nat, i = .int .i64 ((16 + n : Nat) : Int) ∧ n ≤ 48 ∧ Arr w' q 214 (st2 l n) ∧ Below w.heap.size w w') (fun i _ => 64 - (intOf i).toNat)
   case atStart => exact ⟨0, rfl, by omega, hA, hB⟩
   case round =>
    obtain ⟨n, rfl, hn, hA, hB⟩ := hrel
    obtain ⟨m, hm⟩ : ∃ m, 16 + n = m := ⟨_, rfl⟩
    rw [hm]
    by_cases h1 : m < 64
    ·have e1 : decide ((m : Int) < 64) = true := decide_eq_true (by omega)
     obtain ⟨m15, h15⟩ : ∃ p, m - 15 = p := ⟨_, rfl⟩
     obtain ⟨m16, h16⟩ : ∃ p, m - 16 = p := ⟨_, rfl⟩
     obtain ⟨m2, h2⟩ : ∃ p, m - 2 = p := ⟨_, rfl⟩
     obtain ⟨m7, h7⟩ : ∃ p, m - 7 = p := ⟨_, rfl⟩
     have k15 : IntKind.i64.wrap ((m : Int) - 15) = (m15 : Int) := by rw [IntKind.wrap_i64]; omega
     have k16 : IntKind.i64.wrap ((m : Int) - 16) = (m16 : Int) := by rw [IntKind.wrap_i64]; omega
     have k2 : IntKind.i64.wrap ((m : Int) - 2) = (m2 : Int) := by rw [IntKind.wrap_i64]; omega
     have k7 : IntKind.i64.wrap ((m : Int) - 7) = (m7 : Int) := by rw [IntKind.wrap_i64]; omega
     have y15 : IntKind.i64.wrap (m15 : Int) = (m15 : Int) := by rw [IntKind.wrap_i64]; omega
     have y16 : IntKind.i64.wrap (m16 : Int) = (m16 : Int) := by rw [IntKind.wrap_i64]; omega
     have y2 : IntKind.i64.wrap (m2 : Int) = (m2 : Int) := by rw [IntKind.wrap_i64]; omega
     have y7 : IntKind.i64.wrap (m7 : Int) = (m7 : Int) := by rw [IntKind.wrap_i64]; omega
     have ym : IntKind.i64.wrap (m : Int) = (m : Int) := by rw [IntKind.wrap_i64]; omega
     have x15 : ((m15 : Int) < 64) = True := eq_true (by omega)
     have x16 : ((m16 : Int) < 64) = True := eq_true (by omega)
     have x2 : ((m2 : Int) < 64) = True := eq_true (by omega)
     have x7 : ((m7 : Int) < 64) = True := eq_true (by omega)
     have xm : ((m : Int) < 64) = True := eq_true (by omega)
     have hL := st2_length l n
     obtain ⟨b15, hb15⟩ : ∃ b, (st2 l n).getD m15 0 = b := ⟨_, rfl⟩
     obtain ⟨b16, hb16⟩ : ∃ b, (st2 l n).getD m16 0 = b := ⟨_, rfl⟩
     obtain ⟨b2, hb2⟩ : ∃ b, (st2 l n).getD m2 0 = b := ⟨_, rfl⟩
     obtain ⟨b7, hb7⟩ : ∃ b, (st2 l n).getD m7 0 = b := ⟨_, rfl⟩
     obtain ⟨bm, hbm⟩ : ∃ b, (st2 l n).getD m 0 = b := ⟨_, rfl⟩
     have c15 := hA.cellD m15 (by omega)
     have c16 := hA.cellD m16 (by omega)
     have c2 := hA.cellD m2 (by omega)
     have c7 := hA.cellD m7 (by omega)
     have cm := hA.cellD m (by omega)
     rw [hb15] at c15
     rw [hb16] at c16
     rw [hb2] at c2
     rw [hb7] at c7
     rw [hbm] at cm
     have HW : Aside0 (nxt (st2 l n) (16 + n) = b16 + s0 b15 + b7 + s1 b2) := ⟨by unfold nxt; rw [hm, h15, h16, h2, h7, hb15, hb16, hb2, hb7]⟩
     clear hb15 hb16 hb2 hb7 hbm
     go_wp2_with fail
     go_quiet (fail)
     go_wp2_with fail
     obtain ⟨W1, hW1⟩ : ∃ W1, wr.drewN nq = W1 := ⟨_, rfl⟩
     have K : SR w q m7 m16 m b7 b16 bm (st2 l n) W1 := keep_all (W := W1) (by rw [← hW1]; exact pw_below_drewN (Below.refl _ wr) nq) c16 c7 cm (Arr.notFrozen hA m) hA hB hB.size
     rw [hW1]
     clear c15 c16 c2 c7 cm hA hB hW1
     refine norm_wp ?_
     refine sched_r10 _ w W1 _ _ _ _ _ _ _ _ _ _ _ _ _ _ _ _ _ _ _ _ _ _ _ _ _ _ _ _ _ _ _ _ _ _ _ _ _ _ _ _ _ _ _ _ _ _ _ _ _ _ _ _ _ _ _ _ _ _ _ _ _ _ _ _ _ _ _ _ _ _ _ _ _ _ _ _ _ _ _ _ q m m7 m16 b15 b16 b2 b7 bm (st2 l n) k16 k7 y16 y7 ym x16 x7 xm K (by omega) ?_
     intro z58 z59 z60 z61 z62 z63 z64 z65 z66 z67 z68 z69 z70 z71 z72 z73 z74 z75 z76 z77 z78 z79 z80 z81 z82 W2 hA hB
     clear K W1
     go_wp2_with fail
     go_roundw
     case rel => exact ⟨n + 1, by rw [← Nat.add_assoc, hm]; go_num, by omega, by show Arr _ q 214 ((st2 l n).set (16 + n) (nxt (st2 l n) (16 + n))); rw [HW.out, hm]; exact hA, hB⟩
     case measure => simp [intOf]; omega
    ·have e1 : decide ((m : Int) < 64) = false := decide_eq_false (by omega)
     have hn48 : n = 48 := by omega
     subst hn48
     go_upto_region 11 with (fail)
     have hz : (Tryz.prog.info? 214).map (·.size) = some (cellsOf (st2 l 48)).size := by rw [size88, cellsOf_size, st2_length]
     have hg := hA
     unfold Arr at hg
     refine wp_region_list ?_
     refine wpList_load_row rfl 214 (.tmp 2) rfl q rfl 214 (cellsOf (st2 l 48)) (0, 0) _ hg Tryz.underlying214 rfl hz ?_
     refine wpList_store_mid rfl 214 (.tmp 2) (.tmp 83) rfl q 0 (cellsOf (st2 l 48)) rfl rfl (by rw [cellsOf_size]; exact hA.there) hz (cellsOf_one _) ?_
     rw [hA.setCells_self (cellsOf (st2 l 48)).toList 0 (by simp [cellsOf])]
     go_wp2_with fail
     (try simp only [Exit.inBlock, Exit.then])
     refine bodyPost_ret (results_cell_row rfl _ _ q 214 _ (0, 0) _ rfl hg Tryz.underlying214 rfl hz) rfl ?_
     exact ⟨rfl, hB⟩
open Go Go.RowKit Go.Proofs.YtniegajdmbepbaaGreatDoorW.PrintWords Go.Proofs.YtniegajdmbepbaaGreatDoorW.PrintLast Go.Proofs.YtniegajdmbepbaaGreatDoorW.PrintMore
theorem bits_not' (x : B) : Go.bits .xor .u32 (if IntKind.u32.signed = true then -1 else IntKind.u32.max) (u x) = u (~~~x) := bits_not x
attribute [local go_sem] bits_xor bits_and bits_or bits_not bits_not' wrap_u wrap_add
def SA (v : World) (qv qw : Nat) (Lv Lw : List B) (W : World) : Prop := Arr W qv 193 Lv ∧ Arr W qw 214 Lw ∧ Below v.heap.size v W ∧ v.heap.size ≤ W.heap.size
theorem keepSA {v : World} {qv qw : Nat} {Lv Lw : List B} {W W' : World} (h : SA v qv qw Lv Lw W) (hb : Below W.heap.size W W') : SA v qv qw Lv Lw W' := by
 obtain ⟨h1, h2, h3, h4⟩ := h
 exact ⟨h1.block (hb.block qv h1.lt), h2.block (hb.block qw h2.lt), below_then h3 h4 hb, Nat.le_trans h4 hb.size⟩
def tt (e k v5 v6 v7 wi : B) : B := v7 + ((rr 6 e ^^^ rr 11 e) ^^^ rr 25 e) + ((e &&& v5) ^^^ ((~~~e) &&& v6)) + k + wi
def uu (a v1 v2 : B) : B := ((rr 2 a ^^^ rr 13 a) ^^^ rr 22 a) + (((a &&& v1) ^^^ (a &&& v2)) ^^^ (v1 &&& v2))
def add.T6 : Bool × List (List Nat × List Nat) := (true, [([], []), ([0], [0]), ([], []), ([], []), ([2, 3], [2, 3]), ([1, 4], [1, 4]), ([], []), ([], []), ([7], [7]), ([6, 8], [6, 8]), ([], []), ([10], [10]), ([], []), ([12], [12]), ([11, 13], [11, 13]), ([9, 14], [9, 14]), ([5, 15], [5, 15]), ([], []), ([16, 17], [16, 17]), ([], []), ([19], [19]), ([20], [20]), ([18, 21], [18, 21]), ([22, 4, 0, 1, 2, 3, 4, 5, 6, 7, 8, 9, 10, 11, 12, 13, 14, 15, 16, 17, 18, 19, 20, 21, 22], [22])])
def add.B6 : List Nat := [0, 1, 0, 0, 12, 31, 0, 0, 128, 448, 0, 1024, 0, 4096, 15360, 32704, 65535, 0, 262143, 0, 524288, 1572864, 4194303, 8388607]
theorem add.tab6 : rtab .any (opsOf Tryz.f129 6) = add.T6 := by kernel_rfl
theorem add.bits6 : waitsOk add.T6.2 add.B6 = true := by kernel_rfl
noncomputable def addR6 : Code := ((Tryz.f129.body.bind (regionOf 6)).getD .skip)
set_option maxHeartbeats 4000000 in
set_option maxRecDepth 100000 in
theorem add_r6 (R : Act → World → Prop) (v W : World) (v0 v1 v2 v3 v8 v10 v11 v12 v13 v14 v15 v16 v17 v18 v19 v20 v21 v22 v23 v24 v25 v26 v27 v28 v29 v30 v31 v32 v33 v34 v35 v36 v37 v38 v39 v40 v41 v42 v43 v44 v45 v46 v47 v48 v49 v50 v51 v52 v53 v54 v55 v56 v57 v58 v59 v60 v61 v62 v63 v64 v65 v66 v67 v68 v69 v70 v71 v72 v73 v74 v75 v76 v77 v78 v79 v80 v81 v82 v83 v84 v85 v86 v87 v88 v89 v90 v91 v92 v93 v94 v95 v96 : Value) (qv qw i : Nat) (e k b5 b6 b7 wi : B) (Lv Lw : List B) (g5 : Lv[5]? = some b5) (g6 : Lv[6]? = some b6) (g7 : Lv[7]? = some b7) (gi : Lw[i]? = some wi)
  (li : i < 64) (hlv : Lv.length = 8) (hlw : Lw.length = 64) (yi : IntKind.i64.wrap (i : Int) = (i : Int)) (xi : ((i : Int) < 64) = True)
  (hS : SA v qv qw Lv Lw W)
  (hQ : ∀ (z27 z28 z29 z30 z31 z32 z33 z34 z35 z36 z37 z38 z39 z40 z41 z42 z43 z44 z45 z46 z47 z48 z49 : Value) (W' : World), SA v qv qw Lv Lw W' → R ⟨#[v0, v1, v2, v3, Value.pointer (some ⟨qw, 0, none⟩), Value.pointer (some ⟨qv, 0, none⟩), Value.int .i64 (i : Int), Value.int .u32 (u k), v8, Value.int .u32 (u e), Value.int .u32 (u (tt e k b5 b6 b7 wi)), v11, v12, v13, v14, v15, v16, v17, v18, v19, v20, v21, v22, v23, v24, v25, v26, z27, z28, z29, z30, z31, z32, z33, z34, z35, z36, z37, z38, z39, z40, z41, z42, z43, z44, z45, z46, z47, z48, z49, v50, v51, v52, v53, v54, v55, v56, v57, v58, v59, v60, v61, v62, v63, v64, v65, v66, v67, v68, v69, v70, v71, v72, v73, v74, v75, v76, v77, v78, v79, v80, v81, v82, v83, v84, v85, v86, v87, v88, v89, v90, v91, v92, v93, v94, v95, v96], []⟩ W') :
  addR6.wp Tryz.prog (Norm R) ⟨#[v0, v1, v2, v3, Value.pointer (some ⟨qw, 0, none⟩), Value.pointer (some ⟨qv, 0, none⟩), Value.int .i64 (i : Int), Value.int .u32 (u k), v8, Value.int .u32 (u e), v10, v11, v12, v13, v14, v15, v16, v17, v18, v19, v20, v21, v22, v23, v24, v25, v26, v27, v28, v29, v30, v31, v32, v33, v34, v35, v36, v37, v38, v39, v40, v41, v42, v43, v44, v45, v46, v47, v48, v49, v50, v51, v52, v53, v54, v55, v56, v57, v58, v59, v60, v61, v62, v63, v64, v65, v66, v67, v68, v69, v70, v71, v72, v73, v74, v75, v76, v77, v78, v79, v80, v81, v82, v83, v84, v85, v86, v87, v88, v89, v90, v91, v92, v93, v94, v95, v96], []⟩ W := by
 unfold addR6
 conv => arg 2; whnf
 refine start_ (n := 24) (S := SA v qv qw Lv Lw) (ds := []) (Sx14.b 24 0) (by kernel_rfl) rfl rfl (keepSA hS (below_drew1 (Below.refl _ _))) (fun hHeld => ?_); refine with_tabW add.tab6 add.bits6 (fun HT_ HW_ => ?_)
 generalize W.drew = w0_ at hHeld ⊢
 refine Sx14.p (i := 0) (N := some 27) HT_.out (Sx14.b 24 1) ?_
 refine Sx14.p (i := 2) (N := some 29) HT_.out (Sx14.b 24 5) ?_
 refine Sx14.p (i := 6) (N := some 33) HT_.out (Sx14.b 24 69) ?_
 refine Sx14.p (i := 7) (N := some 34) HT_.out (Sx14.b 24 197) ?_
 refine Sx14.p (i := 10) (N := some 37) HT_.out (Sx14.b 24 1221) ?_
 refine Sx14.p (i := 11) (N := some 38) HT_.out (Sx14.b 24 3269) ?_
 refine Sx14.p (i := 12) (N := some 39) HT_.out (Sx14.b 24 7365) ?_
 refine Sx14.p (i := 17) (N := some 44) HT_.out (Sx14.b 24 138437) ?_
 refine Sx14.p (i := 19) (N := some 46) HT_.out (Sx14.b 24 662725) ?_
 refine Sx14.p (i := 20) (N := some 47) HT_.out (Sx14.b 24 1711301) ?_
 refine take_ (i := 1) (N := some 28) (v := ?_) (a' := ?_) (Sx14.b 24 1711303) rfl rfl (take_ofW HT_.out HW_.out (by kernel_rfl)) (fun _ _ _ h => h) (Or.inl ⟨by rfl, ?_⟩) hHeld ?_ ?_
 rotate_left
 ·intro w' hS_
  obtain ⟨hv_, hw_, _⟩ := hS_
  have c7_ := hv_.cell 7 _ g7
  have c5_ := hv_.cell 5 _ g5
  have c6_ := hv_.cell 6 _ g6
  have ci_ := hw_.cell i _ gi
  go_simp
  with_reducible rfl
 rotate_left
 ·simp only [Act.put, Sx14.u, Sx14.v, Sx14.w, i64_w, i32_w]
  rfl
 refine take_ (i := 8) (N := some 35) (v := ?_) (a' := ?_) (Sx14.b 24 1711559) rfl rfl (take_ofW HT_.out HW_.out (by kernel_rfl)) (fun _ _ _ h => h) (Or.inl ⟨by rfl, ?_⟩) hHeld ?_ ?_
 rotate_left
 ·intro w' hS_
  obtain ⟨hv_, hw_, _⟩ := hS_
  have c7_ := hv_.cell 7 _ g7
  have c5_ := hv_.cell 5 _ g5
  have c6_ := hv_.cell 6 _ g6
  have ci_ := hw_.cell i _ gi
  go_simp
  with_reducible rfl
 rotate_left
 ·simp only [Act.put, Sx14.u, Sx14.v, Sx14.w, i64_w, i32_w]
  rfl
 refine Sx14.p (i := 9) (N := some 36) HT_.out (Sx14.b 24 1712071) ?_
 refine take_ (i := 13) (N := some 40) (v := ?_) (a' := ?_) (Sx14.b 24 1720263) rfl rfl (take_ofW HT_.out HW_.out (by kernel_rfl)) (fun _ _ _ h => h) (Or.inl ⟨by rfl, ?_⟩) hHeld ?_ ?_
 rotate_left
 ·intro w' hS_
  obtain ⟨hv_, hw_, _⟩ := hS_
  have c7_ := hv_.cell 7 _ g7
  have c5_ := hv_.cell 5 _ g5
  have c6_ := hv_.cell 6 _ g6
  have ci_ := hw_.cell i _ gi
  go_simp
  with_reducible rfl
 rotate_left
 ·simp only [Act.put, Sx14.u, Sx14.v, Sx14.w, i64_w, i32_w]
  rfl
 refine Sx14.p (i := 14) (N := some 41) HT_.out (Sx14.b 24 1736647) ?_
 refine Sx14.p (i := 15) (N := some 42) HT_.out (Sx14.b 24 1769415) ?_
 refine take_ (i := 21) (N := some 48) (v := ?_) (a' := ?_) (Sx14.b 24 3866567) rfl rfl (take_ofW HT_.out HW_.out (by kernel_rfl)) (fun _ _ _ h => h) (Or.inl ⟨by rfl, ?_⟩) hHeld ?_ ?_
 rotate_left
 ·intro w' hS_
  obtain ⟨hv_, hw_, _⟩ := hS_
  have c7_ := hv_.cell 7 _ g7
  have c5_ := hv_.cell 5 _ g5
  have c6_ := hv_.cell 6 _ g6
  have ci_ := hw_.cell i _ gi
  go_simp
  with_reducible rfl
 rotate_left
 ·simp only [Act.put, Sx14.u, Sx14.v, Sx14.w, i64_w, i32_w]
  rfl
 refine one_ (i := 3) (N := some 30) (Sx14.b 24 3866575) rfl rfl (one_of HT_.out (by kernel_rfl)) (by decide) (fun K hK => ?_)
 go_simp
 refine hK.out _ _ (keepSA hHeld (below_alloc (Below.refl _ _) _)) (fun hHeld => ?_)
 clear hK K
 have hg3 := heap_alloc_new w0_ (Obj.cells #[.int .i64 6, .int .i64 11, .int .i64 25] 3)
 generalize hw1_ : w0_.alloc (Obj.cells #[.int .i64 6, .int .i64 11, .int .i64 25] 3) = w1_ at hg3 hHeld ⊢
 clear hw1_
 refine one_ (i := 4) (N := some 31) (Sx14.b 24 3866591) rfl rfl (one_of HT_.out (by kernel_rfl)) (by decide) (fun K hK => ?_)
 refine goes_ Tryz.func145 (by kernel_rfl) rfl #[.int .u32 (u e), .slice (some ⟨_, 0, none⟩) 3 3] (by rfl) rfl rfl (by (try simp only [List.map_toArray, List.map_cons, List.map_nil]); first | done | rfl) ?_
 refine (mixed3_calls e 6 11 25 (by decide) (by decide) (by decide) _ _ _ _ _ hg3 (by decide)).mono ?_
 rintro e w2_ ⟨rfl, hd⟩
 refine ⟨_, rfl, ?_⟩
 refine hK.out _ _ (keepSA hHeld hd.below) (fun hHeld => ?_)
 replace hg3 := keep_dr hg3 hd
 clear hK K hd
 refine norm_ (a' := ?_) ?_ ?_
 rotate_left
 ·show Act.put _ (some 31) _ = _
  simp only [Act.put, Sx14.u, Sx14.v, Sx14.w, i64_w, i32_w]
  rfl
 refine Sx14.p (i := 5) (N := some 32) HT_.out (Sx14.b 24 3866623) ?_
 refine Sx14.p (i := 16) (N := some 43) HT_.out (Sx14.b 24 3932159) ?_
 refine Sx14.p (i := 18) (N := some 45) HT_.out (Sx14.b 24 4194303) ?_
 refine Sx14.p (i := 22) (N := some 49) HT_.out (Sx14.b 24 8388607) ?_
 refine Sx14.p (i := 23) (N := some 10) HT_.out (Sx14.b 24 16777215) ?_
 refine done_ (done_of HT_.out (by kernel_rfl)) ?_
 exact hQ _ _ _ _ _ _ _ _ _ _ _ _ _ _ _ _ _ _ _ _ _ _ _ _ hHeld
def add.T7 : Bool × List (List Nat × List Nat) := (true, [([], []), ([], []), ([0, 1], [0, 1]), ([], []), ([], []), ([4], [4]), ([3, 5], [3, 5]), ([], []), ([], []), ([8], [8]), ([7, 9], [7, 9]), ([6, 10], [6, 10]), ([], []), ([12], [12]), ([], []), ([14], [14]), ([13, 15], [13, 15]), ([11, 16], [11, 16]), ([2, 17], [2, 17]), ([18, 2, 0, 1, 2, 3, 4, 5, 6, 7, 8, 9, 10, 11, 12, 13, 14, 15, 16, 17, 18], [18])])
def add.B7 : List Nat := [0, 0, 3, 0, 0, 16, 56, 0, 0, 256, 896, 2040, 0, 4096, 0, 16384, 61440, 131064, 262143, 524287]
theorem add.tab7 : rtab .any (opsOf Tryz.f129 7) = add.T7 := by kernel_rfl
theorem add.bits7 : waitsOk add.T7.2 add.B7 = true := by kernel_rfl
noncomputable def addR7 : Code := ((Tryz.f129.body.bind (regionOf 7)).getD .skip)
set_option maxHeartbeats 4000000 in
set_option maxRecDepth 100000 in
theorem add_r7 (R : Act → World → Prop) (v W : World) (v0 v1 v2 v3 v4 v6 v7 v9 v10 v11 v12 v13 v14 v15 v16 v17 v18 v19 v20 v21 v22 v23 v24 v25 v26 v27 v28 v29 v30 v31 v32 v33 v34 v35 v36 v37 v38 v39 v40 v41 v42 v43 v44 v45 v46 v47 v48 v49 v50 v51 v52 v53 v54 v55 v56 v57 v58 v59 v60 v61 v62 v63 v64 v65 v66 v67 v68 v69 v70 v71 v72 v73 v74 v75 v76 v77 v78 v79 v80 v81 v82 v83 v84 v85 v86 v87 v88 v89 v90 v91 v92 v93 v94 v95 v96 : Value) (qv qw i : Nat) (a b1 b2 : B) (Lv Lw : List B) (g1 : Lv[1]? = some b1) (g2 : Lv[2]? = some b2)
  (li : i < 64) (hlv : Lv.length = 8) (hlw : Lw.length = 64) (yi : IntKind.i64.wrap (i : Int) = (i : Int)) (xi : ((i : Int) < 64) = True)
  (hS : SA v qv qw Lv Lw W)
  (hQ : ∀ (z50 z51 z52 z53 z54 z55 z56 z57 z58 z59 z60 z61 z62 z63 z64 z65 z66 z67 z68 : Value) (W' : World), SA v qv qw Lv Lw W' → R ⟨#[v0, v1, v2, v3, v4, Value.pointer (some ⟨qv, 0, none⟩), v6, v7, Value.int .u32 (u a), v9, v10, Value.int .u32 (u (uu a b1 b2)), v12, v13, v14, v15, v16, v17, v18, v19, v20, v21, v22, v23, v24, v25, v26, v27, v28, v29, v30, v31, v32, v33, v34, v35, v36, v37, v38, v39, v40, v41, v42, v43, v44, v45, v46, v47, v48, v49, z50, z51, z52, z53, z54, z55, z56, z57, z58, z59, z60, z61, z62, z63, z64, z65, z66, z67, z68, v69, v70, v71, v72, v73, v74, v75, v76, v77, v78, v79, v80, v81, v82, v83, v84, v85, v86, v87, v88, v89, v90, v91, v92, v93, v94, v95, v96], []⟩ W') :
  addR7.wp Tryz.prog (Norm R) ⟨#[v0, v1, v2, v3, v4, Value.pointer (some ⟨qv, 0, none⟩), v6, v7, Value.int .u32 (u a), v9, v10, v11, v12, v13, v14, v15, v16, v17, v18, v19, v20, v21, v22, v23, v24, v25, v26, v27, v28, v29, v30, v31, v32, v33, v34, v35, v36, v37, v38, v39, v40, v41, v42, v43, v44, v45, v46, v47, v48, v49, v50, v51, v52, v53, v54, v55, v56, v57, v58, v59, v60, v61, v62, v63, v64, v65, v66, v67, v68, v69, v70, v71, v72, v73, v74, v75, v76, v77, v78, v79, v80, v81, v82, v83, v84, v85, v86, v87, v88, v89, v90, v91, v92, v93, v94, v95, v96], []⟩ W := by
 unfold addR7
 conv => arg 2; whnf
 refine start_ (n := 20) (S := SA v qv qw Lv Lw) (ds := []) (Sx14.b 20 0) (by kernel_rfl) rfl rfl (keepSA hS (below_drew1 (Below.refl _ _))) (fun hHeld => ?_); refine with_tabW add.tab7 add.bits7 (fun HT_ HW_ => ?_)
 generalize W.drew = w0_ at hHeld ⊢
 refine Sx14.p (i := 0) (N := some 50) HT_.out (Sx14.b 20 1) ?_
 refine Sx14.p (i := 3) (N := some 53) HT_.out (Sx14.b 20 9) ?_
 refine Sx14.p (i := 4) (N := some 54) HT_.out (Sx14.b 20 25) ?_
 refine Sx14.p (i := 7) (N := some 57) HT_.out (Sx14.b 20 153) ?_
 refine Sx14.p (i := 8) (N := some 58) HT_.out (Sx14.b 20 409) ?_
 refine Sx14.p (i := 12) (N := some 62) HT_.out (Sx14.b 20 4505) ?_
 refine Sx14.p (i := 14) (N := some 64) HT_.out (Sx14.b 20 20889) ?_
 refine take_ (i := 5) (N := some 55) (v := ?_) (a' := ?_) (Sx14.b 20 20921) rfl rfl (take_ofW HT_.out HW_.out (by kernel_rfl)) (fun _ _ _ h => h) (Or.inl ⟨by rfl, ?_⟩) hHeld ?_ ?_
 rotate_left
 ·intro w' hS_
  obtain ⟨hv_, hw_, _⟩ := hS_
  have c1_ := hv_.cell 1 _ g1
  have c2_ := hv_.cell 2 _ g2
  go_simp
  with_reducible rfl
 rotate_left
 ·simp only [Act.put, Sx14.u, Sx14.v, Sx14.w, i64_w, i32_w]
  rfl
 refine Sx14.p (i := 6) (N := some 56) HT_.out (Sx14.b 20 20985) ?_
 refine take_ (i := 9) (N := some 59) (v := ?_) (a' := ?_) (Sx14.b 20 21497) rfl rfl (take_ofW HT_.out HW_.out (by kernel_rfl)) (fun _ _ _ h => h) (Or.inl ⟨by rfl, ?_⟩) hHeld ?_ ?_
 rotate_left
 ·intro w' hS_
  obtain ⟨hv_, hw_, _⟩ := hS_
  have c1_ := hv_.cell 1 _ g1
  have c2_ := hv_.cell 2 _ g2
  go_simp
  with_reducible rfl
 rotate_left
 ·simp only [Act.put, Sx14.u, Sx14.v, Sx14.w, i64_w, i32_w]
  rfl
 refine Sx14.p (i := 10) (N := some 60) HT_.out (Sx14.b 20 22521) ?_
 refine Sx14.p (i := 11) (N := some 61) HT_.out (Sx14.b 20 24569) ?_
 refine take_ (i := 13) (N := some 63) (v := ?_) (a' := ?_) (Sx14.b 20 32761) rfl rfl (take_ofW HT_.out HW_.out (by kernel_rfl)) (fun _ _ _ h => h) (Or.inl ⟨by rfl, ?_⟩) hHeld ?_ ?_
 rotate_left
 ·intro w' hS_
  obtain ⟨hv_, hw_, _⟩ := hS_
  have c1_ := hv_.cell 1 _ g1
  have c2_ := hv_.cell 2 _ g2
  go_simp
  with_reducible rfl
 rotate_left
 ·simp only [Act.put, Sx14.u, Sx14.v, Sx14.w, i64_w, i32_w]
  rfl
 refine take_ (i := 15) (N := some 65) (v := ?_) (a' := ?_) (Sx14.b 20 65529) rfl rfl (take_ofW HT_.out HW_.out (by kernel_rfl)) (fun _ _ _ h => h) (Or.inl ⟨by rfl, ?_⟩) hHeld ?_ ?_
 rotate_left
 ·intro w' hS_
  obtain ⟨hv_, hw_, _⟩ := hS_
  have c1_ := hv_.cell 1 _ g1
  have c2_ := hv_.cell 2 _ g2
  go_simp
  with_reducible rfl
 rotate_left
 ·simp only [Act.put, Sx14.u, Sx14.v, Sx14.w, i64_w, i32_w]
  rfl
 refine Sx14.p (i := 16) (N := some 66) HT_.out (Sx14.b 20 131065) ?_
 refine Sx14.p (i := 17) (N := some 67) HT_.out (Sx14.b 20 262137) ?_
 refine one_ (i := 1) (N := some 51) (Sx14.b 20 262139) rfl rfl (one_of HT_.out (by kernel_rfl)) (by decide) (fun K hK => ?_)
 go_simp
 refine hK.out _ _ (keepSA hHeld (below_alloc (Below.refl _ _) _)) (fun hHeld => ?_)
 clear hK K
 have hg1 := heap_alloc_new w0_ (Obj.cells #[.int .i64 2, .int .i64 13, .int .i64 22] 3)
 generalize hw1_ : w0_.alloc (Obj.cells #[.int .i64 2, .int .i64 13, .int .i64 22] 3) = w1_ at hg1 hHeld ⊢
 clear hw1_
 refine one_ (i := 2) (N := some 52) (Sx14.b 20 262143) rfl rfl (one_of HT_.out (by kernel_rfl)) (by decide) (fun K hK => ?_)
 refine goes_ Tryz.func145 (by kernel_rfl) rfl #[.int .u32 (u a), .slice (some ⟨_, 0, none⟩) 3 3] (by rfl) rfl rfl (by (try simp only [List.map_toArray, List.map_cons, List.map_nil]); first | done | rfl) ?_
 refine (mixed3_calls a 2 13 22 (by decide) (by decide) (by decide) _ _ _ _ _ hg1 (by decide)).mono ?_
 rintro e w2_ ⟨rfl, hd⟩
 refine ⟨_, rfl, ?_⟩
 refine hK.out _ _ (keepSA hHeld hd.below) (fun hHeld => ?_)
 replace hg1 := keep_dr hg1 hd
 clear hK K hd
 refine norm_ (a' := ?_) ?_ ?_
 rotate_left
 ·show Act.put _ (some 52) _ = _
  simp only [Act.put, Sx14.u, Sx14.v, Sx14.w, i64_w, i32_w]
  rfl
 refine Sx14.p (i := 18) (N := some 68) HT_.out (Sx14.b 20 524287) ?_
 refine Sx14.p (i := 19) (N := some 11) HT_.out (Sx14.b 20 1048575) ?_
 refine done_ (done_of HT_.out (by kernel_rfl)) ?_
 exact hQ _ _ _ _ _ _ _ _ _ _ _ _ _ _ _ _ _ _ _ _ hHeld
end Go.Proofs.YtniegajdmbepbaaGreatDoor.Sha
