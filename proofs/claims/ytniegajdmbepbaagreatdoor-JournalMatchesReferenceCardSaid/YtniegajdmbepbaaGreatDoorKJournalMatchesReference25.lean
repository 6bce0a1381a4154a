/- (*Disk).Crash's region that settles. Condition: none. (*Disk).Crash. Condition: the bytes are bytes, the writes lie within the disk. The reference's disk: apply writes a string into a row of bytes. Condition: it fits. -/
import Derived.Test.YtniegajdmbepbaaGreatDoorKJournalMatchesReference14
import Derived.Test.YtniegajdmbepbaaGreatDoorKJournalMatchesReference12
import Derived.Test.YtniegajdmbepbaaGreatDoorKJournalMatchesReference24
set_option linter.unusedSimpArgs false
set_option linter.unusedVariables false
open Go.Proofs.YtniegajdmbepbaaGreatDoor
namespace Go.Proofs.YtniegajdmbepbaaGreatDoor.Jm
open Go Go.RowKit Go.Shelf Go.Proofs.YtniegajdmbepbaaGreatDoor.Rf Go.Proofs.YtniegajdmbepbaaGreatDoorW.PrintWords Go.Proofs.YtniegajdmbepbaaGreatDoorW.PrintLast Go.Proofs.YtniegajdmbepbaaGreatDoorW.PrintMore Go.Proofs.YtniegajdmbepbaaGreatDoor.Sha
def SCr (v : World) (D : Dsk) (dk : Dk) (Bd : Nat) (W : World) : Prop := Boxed W Bd 27 (.pointer (some ⟨D.d, 0, none⟩)) ∧ DiskAt W D dk ∧ Off D v W
theorem keepSCr {v : World} {D : Dsk} {dk : Dk} {Bd : Nat} {W W' : World} (h : SCr v D dk Bd W) (hb : Below W.heap.size W W') : SCr v D dk Bd W' :=
 ⟨(hb.block _ h.1.lt).trans h.1, h.2.1.keep hb, h.2.2.then hb⟩
def crashT.T13 : Bool × List (List Nat × List Nat) := (true, [([], []), ([], []), ([1], [1]), ([2], [2]), ([3], [3]), ([], []), ([5], [5]), ([6], [6]), ([7], [7]), ([0, 4, 8], [0, 4, 8])])
def crashT.B13 : List Nat := [0, 0, 2, 6, 14, 0, 32, 96, 224, 511]
theorem crashT.tab13 : rtab .any (opsOf Tryz.f30 13) = crashT.T13 := by kernel_rfl
theorem crashT.bits13 : waitsOk crashT.T13.2 crashT.B13 = true := by kernel_rfl
noncomputable def crashR13 : Code := ((Tryz.f30.body.bind (regionOf 13)).getD .skip)
set_option maxHeartbeats 8000000 in
set_option maxRecDepth 100000 in
theorem crash_r13 (R : Act → World → Prop) (v W : World) (v0 v1 v2 v4 v5 v6 v7 v8 v9 v10 v11 v12 v13 v14 v15 v16 v17 v18 v19 v20 v21 v22 v23 v24 v25 v26 v27 v28 v29 v30 v31 v32 v33 v34 v35 v36 v37 v38 v39 v40 v41 v42 v43 v44 v45 v46 v47 v48 v49 v50 v51 v52 v53 v54 v55 v56 v57 v58 v59 v60 v61 v62 v63 v64 v65 v66 v67 v68 v69 v70 v71 v72 : Value) (D : Dsk) (dk : Dk) (Bd : Nat) (hlt : ∀ b ∈ dk.dur, b < 256)
  (hbx : ∀ (W' : World) {W : World}, Off D W W' → Boxed W Bd 27 (.pointer (some ⟨D.d, 0, none⟩)) → Boxed W' Bd 27 (.pointer (some ⟨D.d, 0, none⟩)))
  (hS : SCr v D dk Bd W)
  (hQ : ∀ (z59 z60 z61 z62 z63 z64 z65 z66 z67 z68 : Value) (W' : World), DiskAt W' D { dk with vis := dk.dur, pend := [] } → Boxed W' Bd 27 (.pointer (some ⟨D.d, 0, none⟩)) → Off D v W' → R ⟨#[v0, v1, v2, Value.pointer (some ⟨Bd, 0, none⟩), v4, v5, v6, v7, v8, v9, v10, v11, v12, v13, v14, v15, v16, v17, v18, v19, v20, v21, v22, v23, v24, v25, v26, v27, v28, v29, v30, v31, v32, v33, v34, v35, v36, v37, v38, v39, v40, v41, v42, v43, v44, v45, v46, v47, v48, v49, v50, v51, v52, v53, v54, v55, v56, v57, v58, z59, z60, z61, z62, z63, z64, z65, z66, z67, z68, v69, v70, v71, v72], []⟩ W') :
  crashR13.wp Tryz.prog (Norm R) ⟨#[v0, v1, v2, Value.pointer (some ⟨Bd, 0, none⟩), v4, v5, v6, v7, v8, v9, v10, v11, v12, v13, v14, v15, v16, v17, v18, v19, v20, v21, v22, v23, v24, v25, v26, v27, v28, v29, v30, v31, v32, v33, v34, v35, v36, v37, v38, v39, v40, v41, v42, v43, v44, v45, v46, v47, v48, v49, v50, v51, v52, v53, v54, v55, v56, v57, v58, v59, v60, v61, v62, v63, v64, v65, v66, v67, v68, v69, v70, v71, v72], []⟩ W := by
 unfold crashR13
 conv => arg 2; whnf
 refine start_ (n := 10) (S := SCr v D dk Bd) (ds := [9]) (Sx14.b 10 0) (by kernel_rfl) rfl rfl (keepSCr hS (below_drew1 (Below.refl _ _))) (fun hHeld => ?_); refine with_tabW crashT.tab13 crashT.bits13 (fun HT_ HW_ => ?_)
 generalize W.drew = w0_ at hHeld ⊢
 refine take_ (i := 0) (N := some 59) (v := ?_) (a' := ?_) (Sx14.b 10 1) rfl rfl (take_ofW HT_.out HW_.out (by kernel_rfl)) (fun _ _ _ h => h) (Or.inl ⟨by rfl, ?_⟩) hHeld ?_ ?_
 rotate_left
 ·intro w' hS_
  have c_ := hS_.1.cell
  obtain ⟨pv_, hp_⟩ := hS_.2.1
  have d2_ := hp_.cell2
  have d3_ := hp_.cell3
  go_simp
  with_reducible rfl
 rotate_left
 ·simp only [Act.put, Sx14.u, Sx14.v, Sx14.w, i64_w, i32_w]
  rfl
 refine take_ (i := 1) (N := some 60) (v := ?_) (a' := ?_) (Sx14.b 10 3) rfl rfl (take_ofW HT_.out HW_.out (by kernel_rfl)) (fun _ _ _ h => h) (Or.inl ⟨by rfl, ?_⟩) hHeld ?_ ?_
 rotate_left
 ·intro w' hS_
  have c_ := hS_.1.cell
  obtain ⟨pv_, hp_⟩ := hS_.2.1
  have d2_ := hp_.cell2
  have d3_ := hp_.cell3
  go_simp
  with_reducible rfl
 rotate_left
 ·simp only [Act.put, Sx14.u, Sx14.v, Sx14.w, i64_w, i32_w]
  rfl
 refine Sx14.p (i := 2) (N := some 61) HT_.out (Sx14.b 10 7) ?_
 refine Sx14.p (i := 3) (N := some 62) HT_.out (Sx14.b 10 15) ?_
 refine take_ (i := 4) (N := some 63) (v := ?_) (a' := ?_) (Sx14.b 10 31) rfl rfl (take_ofW HT_.out HW_.out (by kernel_rfl)) (fun _ _ _ h => h) (Or.inl ⟨by rfl, ?_⟩) hHeld ?_ ?_
 rotate_left
 ·intro w' hS_
  have c_ := hS_.1.cell
  obtain ⟨pv_, hp_⟩ := hS_.2.1
  have d2_ := hp_.cell2
  have d3_ := hp_.cell3
  go_simp
  with_reducible rfl
 rotate_left
 ·simp only [Act.put, Sx14.u, Sx14.v, Sx14.w, i64_w, i32_w]
  rfl
 refine take_ (i := 5) (N := some 64) (v := ?_) (a' := ?_) (Sx14.b 10 63) rfl rfl (take_ofW HT_.out HW_.out (by kernel_rfl)) (fun _ _ _ h => h) (Or.inl ⟨by rfl, ?_⟩) hHeld ?_ ?_
 rotate_left
 ·intro w' hS_
  have c_ := hS_.1.cell
  obtain ⟨pv_, hp_⟩ := hS_.2.1
  have d2_ := hp_.cell2
  have d3_ := hp_.cell3
  go_simp
  with_reducible rfl
 rotate_left
 ·simp only [Act.put, Sx14.u, Sx14.v, Sx14.w, i64_w, i32_w]
  rfl
 refine Sx14.p (i := 6) (N := some 65) HT_.out (Sx14.b 10 127) ?_
 refine Sx14.p (i := 7) (N := some 66) HT_.out (Sx14.b 10 255) ?_
 refine take_ (i := 8) (N := some 67) (v := ?_) (a' := ?_) (Sx14.b 10 511) rfl rfl (take_ofW HT_.out HW_.out (by kernel_rfl)) (fun _ _ _ h => h) (Or.inl ⟨by rfl, ?_⟩) hHeld ?_ ?_
 rotate_left
 ·intro w' hS_
  have c_ := hS_.1.cell
  obtain ⟨pv_, hp_⟩ := hS_.2.1
  have d2_ := hp_.cell2
  have d3_ := hp_.cell3
  go_simp
  with_reducible rfl
 rotate_left
 ·simp only [Act.put, Sx14.u, Sx14.v, Sx14.w, i64_w, i32_w]
  rfl
 refine last_ (i := 9) (N := some 68) (Sx14.b 10 1023) rfl rfl (one_of HT_.out (by kernel_rfl)) (by decide) (fun K hK => ?_)
 refine goes_ Tryz.func65 (by kernel_rfl) rfl #[.pointer (some ⟨D.d, 0, none⟩), .slice (some ⟨D.g1, 0, none⟩) dk.dur.length dk.dur.length, .slice (some ⟨D.g2, 0, none⟩) dk.dur.length dk.dur.length] (by rfl) rfl rfl (by (try simp only [List.map_toArray, List.map_cons, List.map_nil]); first | done | rfl) ?_
 refine (settle2_calls hHeld.2.1 hlt).mono ?_
 rintro e w9 ⟨rfl, hd9, o9⟩
 refine ⟨_, rfl, ?_⟩
 refine hK.out _ _ ?_
 clear hK K
 refine norm_ (a' := ?_) ?_ ?_
 rotate_left
 ·show Act.put _ (some 68) _ = _
  simp only [Act.put, Sx14.u, Sx14.v, Sx14.w, i64_w, i32_w]
  rfl
 refine done_ (done_of HT_.out (by kernel_rfl)) ?_
 exact hQ _ _ _ _ _ _ _ _ _ _ _ hd9 (hbx _ o9 hHeld.1) (hHeld.2.2.trans o9)
open Go Go.RowKit Go.Shelf Go.Sort Go.Lib Go.Proofs.YtniegajdmbepbaaGreatDoorW.PrintWords Go.Proofs.YtniegajdmbepbaaGreatDoorW.PrintMore
def tornS (last : Bool) (torn : Int) (s : ByteArray) : ByteArray := if last = true ∧ 0 ≤ torn then s.extract 0 (min torn.toNat s.size) else s
def putL (b : List Nat) : List (Nat × ByteArray) → List Nat := List.foldl (fun b p => splice b p.1 (bl p.2)) b
theorem bl_cutTo (s : ByteArray) (k : Nat) (hk : k ≤ s.size) : bl (s.extract 0 k) = (bl s).take k := by
  unfold bl
  rw [ByteArray.data_extract, Array.toList_extract, List.map_take]
  simp
theorem tornS_size (last : Bool) (torn : Int) (s : ByteArray) : (tornS last torn s).size ≤ s.size := by
  unfold tornS
  split
  · rw [ByteArray.size_extract]; omega
  · exact Nat.le_refl _
theorem splice_ok {b : List Nat} {off : Nat} {s : ByteArray} (h : off + s.size ≤ b.length) : (splice b off (bl s)).length = b.length := splice_length (by rw [bl_length]; exact h)
theorem putL_ok : ∀ (P : List (Nat × ByteArray)) (b : List Nat), (∀ p ∈ P, p.1 + p.2.size ≤ b.length) → (∀ x ∈ b, x < 256) → (putL b P).length = b.length ∧ ∀ x ∈ putL b P, x < 256
  | [], b, _, hb => ⟨rfl, hb⟩
  | p :: P, b, h, hb => by
    have e := splice_ok (h p List.mem_cons_self)
    have := putL_ok P (splice b p.1 (bl p.2)) (fun q hq => by rw [e]; exact h q (List.mem_cons_of_mem _ hq)) (splice_lt hb (bl_lt p.2))
    rw [e] at this
    exact this
theorem putL_snoc (b : List Nat) (P : List (Nat × ByteArray)) (p : Nat × ByteArray) : putL b (P ++ [p]) = splice (putL b P) p.1 (bl p.2) := by
  unfold putL
  rw [List.foldl_append]
  rfl
theorem apply_snoc (torn : Int) (P : List (Nat × ByteArray)) (p : Nat × ByteArray) : ∀ b, Dk.applyL torn b (P ++ [p]) [] = splice (putL b P) p.1 (bl (tornS true torn p.2)) := by
  induction P with
  | nil =>
    intro b
    show splice b p.1 (if 0 ≤ torn then (bl p.2).take torn.toNat else bl p.2) = splice b p.1 (bl (tornS true torn p.2))
    unfold tornS
    by_cases h : 0 ≤ torn
    · rw [if_pos h, if_pos ⟨rfl, h⟩, bl_cutTo _ _ (Nat.min_le_right _ _)]
      congr 1
      rw [List.take_eq_take_iff, bl_length]
      omega
    · rw [if_neg h, if_neg (by simp [h])]
  | cons q P ih =>
    intro b
    obtain ⟨r, P', hP⟩ : ∃ r P', P ++ [p] = r :: P' := by cases P <;> exact ⟨_, _, rfl⟩
    have := ih (splice b q.1 (bl q.2))
    rw [List.cons_append, hP]
    rw [hP] at this
    exact this
theorem order_mem {n i : Nat} {keep : List Int} (h : i ∈ Dk.order n keep) : i < n := by
  unfold Dk.order at h
  exact List.mem_range.1 (List.mem_filter.1 h).1
theorem picked_get {P : List (Nat × ByteArray)} : ∀ (l : List Nat), (∀ i ∈ l, i < P.length) → (l.filterMap fun i => P[i]?).length = l.length ∧ ∀ (j i : Nat), l[j]? = some i → (l.filterMap fun i => P[i]?)[j]? = P[i]?
  | [], _ => ⟨rfl, fun j i h => by simp at h⟩
  | a :: l, h => by
    obtain ⟨h1, h2⟩ := picked_get l fun i hi => h i (List.mem_cons_of_mem _ hi)
    have ha := List.getElem?_eq_getElem (h a List.mem_cons_self)
    rw [List.filterMap_cons, ha]
    refine ⟨by simp [h1], fun j i hj => ?_⟩
    cases j with
    | zero => simp at hj; subst hj; rw [ha]; rfl
    | succ j => simp at hj; simpa using h2 j i hj
theorem pcells_get : ∀ (P : List (Nat × ByteArray)) (i : Nat) (p : Nat × ByteArray), P[i]? = some p → (pcells P)[i * 2]? = some (.int .i64 (p.1 : Int)) ∧ (pcells P)[i * 2 + 1]? = some (.string p.2)
  | [], i, p, h => by simp at h
  | q :: P, 0, p, h => by simp at h; subst h; exact ⟨rfl, rfl⟩
  | q :: P, i + 1, p, h => by
    have := pcells_get P i p (by simpa using h)
    rw [show (i + 1) * 2 = i * 2 + 2 by omega]
    exact this
theorem DAt.dured {w W : World} {D : Dsk} {dk : Dk} {pv : Value} (h : DAt w D dk pv) (hb : But D.g1 w W) (l : List Nat) (hl : l.length = dk.dur.length) (hW : By W D.g1 l) : DAt W D { dk with dur := l } pv :=
  { blk := by rw [show ({ dk with dur := l } : Dk).dur.length = dk.dur.length from hl]; exact (hb.block _ h.lt_d (cells_ne h.blk h.dur (by decide))).trans h.blk
    dur := hW
    vis := h.vis.keep (hb.block _ h.vis.lt (Ne.symm h.ne))
    pend := own_keep h.pend fun g hg => by
      obtain ⟨cs, hc⟩ := own_block h.pend hg
      exact hb.block _ (h.pend.lt g hg).2 (cells_ne hc h.dur (by decide))
    len := h.len.trans hl.symm, hd := h.hd, h1 := h.h1, h2 := h.h2, ne := h.ne, lt := h.lt, small := by rw [show ({ dk with dur := l } : Dk).dur.length = dk.dur.length from hl]; exact h.small, left := h.left, few := h.few }
set_option maxRecDepth 100000 in
set_option maxHeartbeats 4000000 in
theorem crash_calls {w : World} {D : Dsk} {dk : Dk} (h : DiskAt w D dk) (bk o n c : Nat) (A : Option Addr) (xs : List Int) (hn : xs.length = n) (hs : n ≤ 1000000) (hA : 0 < n → A = some ⟨bk, o, none⟩) (hbk : bk < w.heap.size) (hR : intR xs bk o w)
    (torn : Int) (ht : -9223372036854775808 ≤ torn ∧ torn ≤ 9223372036854775807) (hlt : ∀ b ∈ dk.dur, b < 256) (hfit : ∀ p ∈ dk.pend, p.1 + p.2.size ≤ dk.dur.length) (hfew : dk.pend.length ≤ 1000000) :
    Calls Tryz.prog 30 #[.pointer (some ⟨D.d, 0, none⟩), .slice A n c, .int .i64 torn] w fun e w' => e = .returned (.int .i64 0) ∧ DiskAt w' D (dk.crash xs torn) ∧ Off D w w' := by
  obtain ⟨pv, hd⟩ := id h
  obtain ⟨ap, cp, hpv⟩ := own_form hd.pend
  go_enter Tryz.func30, Tryz.ntmps30
  go_upto_region 3 with (fail)
  have bd := Boxed.new w 27 (.pointer (some ⟨D.d, 0, none⟩))
  have k1 := below_alloc (Below.refl w.heap.size w) (.cells #[.pointer (some ⟨D.d, 0, none⟩)] 27)
  obtain ⟨W1, hW1⟩ : ∃ W1, w.alloc (.cells #[.pointer (some ⟨D.d, 0, none⟩)] 27) = W1 := ⟨_, rfl⟩
  have s1 : W1.heap.size = w.heap.size + 1 := by rw [← hW1]; simp
  rw [hW1] at bd k1 ⊢
  clear hW1
  have k2 := below_alloc (Below.refl W1.heap.size W1) (.cells #[.slice A n c] 56)
  have bv := Boxed.new W1 56 (.slice A n c)
  obtain ⟨W2, hW2⟩ : ∃ W2, W1.alloc (.cells #[.slice A n c] 56) = W2 := ⟨_, rfl⟩
  have s2 : W2.heap.size = w.heap.size + 2 := by rw [← hW2]; simp; omega
  rw [hW2] at k2 bv
  have hR2 : intR xs bk o W2 := (hR.block (k1.block bk hbk)).block (k2.block bk (by omega))
  have hcV := vals_fn A n c W1
  rw [hW2, s1] at hcV
  rw [s1] at bv
  clear hW2
  go_upto_region 5 with (first
    | (go_at_call 63; refine (delete_calls hr5 hs5 dk.pend.length D.d w.heap.size ap cp (by omega) (by have := hd.lt_d; omega) (by omega) hc5 h45).mono ?_; rintro e w6 ⟨v6, rfl, hr6, hg6⟩)
    | (go_at_call 60; refine (compact_calls hr4 hs).mono ?_; rintro e w5 ⟨v5, rfl, hr5, hg5⟩
       have hb5 := grown_below hb4 (Nat.le_refl _) hg5 fun k e => (hr4.lt k e).1
       have hs5 : (Lib.compact (sortI xs)).length ≤ 1000000 := by
         have h1 : (Lib.compact (sortI xs)).length ≤ (sortI xs).length := by
           unfold Lib.compact Lib.compactUpTo
           rw [List.length_map]
           exact Nat.le_trans (List.length_filter_le _ _) (by simp)
         unfold sortI at h1 ⊢
         rw [List.length_mergeSort] at h1
         omega
       have hz5 : w3.heap.size ≤ w5.heap.size := hb5.size
       have kk : Below w.heap.size w w5 := (k1.trans (k2.mono (by omega))).trans (hb5.mono (by omega))
       have bd5 : Boxed w5 w.heap.size 27 (.pointer (some ⟨D.d, 0, none⟩)) := (hb5.block _ (by omega)).trans ((k2.block _ (by omega)).trans bd)
       have hc5 := bd5.cell
       have hd5 := hd.keep kk
       have h45 := hd5.cell4
       rw [hpv] at h45)
    | (go_at_call 61; refine (sorted_calls (w.heap.size + 1) bk o n c A xs hn hs hA w3 (by omega) (by omega) bv hR2).mono ?_; rintro e w4 ⟨v4, rfl, hr4, hb4⟩)
    | (go_at_call 62; refine hcV.mono ?_; rintro e w3 ⟨rfl, rfl⟩))
  have hz6 : w5.heap.size ≤ w6.heap.size := hg6.size
  have hb6 := grown_below hb5 (Nat.le_refl _) hg6 fun k e => (hr5.lt k e).1
  obtain ⟨ord, hord⟩ : ∃ ord, Dk.order dk.pend.length xs = ord := ⟨_, rfl⟩
  have hom : ∀ i ∈ ord, i < dk.pend.length := fun i hi => order_mem (hord ▸ hi)
  have hL : (Lib.compact (sortI xs)).filter (fun x => !outP dk.pend.length x) = ord.map fun i : Nat => (i : Int) := by rw [← hord]; exact order_eq _ _
  rw [hL, List.length_map] at hr6
  obtain ⟨a6, c6, rfl⟩ := own_form hr6
  rw [s2] at hr6
  have kk6 : Below w.heap.size w w6 := (k1.trans (k2.mono (by omega))).trans (hb6.mono (by omega))
  have bd6 : Boxed w6 w.heap.size 27 (.pointer (some ⟨D.d, 0, none⟩)) := (hb6.block _ (by omega)).trans ((k2.block _ (by omega)).trans bd)
  have hd6 := hd.keep kk6
  obtain ⟨k, hk⟩ : ∃ k, ord.length = k := ⟨_, rfl⟩
  have hkm : k ≤ dk.pend.length := by
    rw [← hk, ← hord]
    unfold Dk.order
    exact Nat.le_trans (List.length_filter_le _ _) (by simp)
  obtain ⟨L, hLL⟩ : ∃ L, ord.filterMap (fun i => dk.pend[i]?) = L := ⟨_, rfl⟩
  obtain ⟨hLl, hLg⟩ := picked_get (P := dk.pend) ord hom
  rw [hLL, hk] at hLl
  rw [hLL] at hLg
  rw [hk] at hr6 ⊢
  refine wp_world (fun W => Boxed W w.heap.size 27 (.pointer (some ⟨D.d, 0, none⟩)) ∧ W.ownsRow (w.heap.size + 2) 3 1 (.slice a6 k c6) k (iv (ord.map fun i : Nat => (i : Int))) ∧ DAt W D dk pv ∧ Off D w W) ⟨bd6, hr6, hd6, Off.of_below kk6⟩ ?_
  clear kk6 bd6 hd6 hr6 hb6 hz6 hg6 hc5 h45 hd5 bd5 kk hz5 hs5 hb5 hg5 hr5 hr4 hb4 hcV hR2 bv k2 s2 bd k1 s1
  rintro W6 ⟨b6, r6, d6, o6⟩
  go_upto_region 5 with (fail)
  go_wp2_with (fail)
  obtain ⟨st, hst⟩ : ∃ st : Nat → List Nat, st = fun i => if i < k then putL dk.dur (L.take i) else Dk.applyL torn dk.dur L [] := ⟨_, rfl⟩
  have hL2 : ∀ p ∈ L, p.1 + p.2.size ≤ dk.dur.length := fun p hp => by
    rw [← hLL, List.mem_filterMap] at hp
    obtain ⟨i, _, hi⟩ := hp
    exact hfit p (List.mem_of_getElem? hi)
  have st0 : st 0 = dk.dur := by
    rw [hst]
    by_cases h0 : 0 < k
    · simp [h0, putL]
    · have : L = [] := List.eq_nil_of_length_eq_zero (by omega)
      simp [h0, this, Dk.applyL]
  have st1 : ∀ i, i < k → ∃ p, L[i]? = some p ∧ (st i).length = dk.dur.length ∧ (∀ x ∈ st i, x < 256) ∧ p.1 + p.2.size ≤ dk.dur.length ∧ st (i + 1) = splice (st i) p.1 (bl (tornS (decide (i + 1 = k)) torn p.2)) := by
    intro i hi
    obtain ⟨p, hp⟩ : ∃ p, L[i]? = some p := ⟨_, List.getElem?_eq_getElem (by omega)⟩
    have hpm := hL2 p (List.mem_of_getElem? hp)
    obtain ⟨q1, q2⟩ := putL_ok (L.take i) dk.dur (fun q hq => hL2 q (List.mem_of_mem_take hq)) hlt
    have hsi : st i = putL dk.dur (L.take i) := by rw [hst]; simp [hi]
    have htk : L.take (i + 1) = L.take i ++ [p] := by rw [List.take_add_one, hp]; rfl
    refine ⟨p, hp, by rw [hsi]; exact q1, by rw [hsi]; exact q2, hpm, ?_⟩
    rw [hsi]
    by_cases hl : i + 1 = k
    · have e : st (i + 1) = Dk.applyL torn dk.dur L [] := by rw [hst]; simp [hl]
      rw [e, decide_eq_true hl]
      have hLs : L = L.take i ++ [p] := by rw [← htk, List.take_of_length_le (by omega)]
      conv => lhs; rw [hLs]
      exact apply_snoc torn (L.take i) p dk.dur
    · have e : st (i + 1) = putL dk.dur (L.take (i + 1)) := by rw [hst]; simp [show i + 1 < k by omega]
      rw [e, htk, putL_snoc, decide_eq_false hl]
      unfold tornS
      rw [if_neg (by simp)]
  have stk : st k = Dk.applyL torn dk.dur L [] := by rw [hst]; simp
  clear hst
  have hsm := hd.small
  go_loopw [22] (fun v wr => ∃ i : Nat, v = .int .i64 (i : Int) ∧ i ≤ k ∧ Boxed wr w.heap.size 27 (.pointer (some ⟨D.d, 0, none⟩)) ∧ wr.ownsRow (w.heap.size + 2) 3 1 (.slice a6 k c6) k (iv (ord.map fun i : Nat => (i : Int))) ∧ DAt wr D { dk with dur := st i } pv ∧ (st i).length = dk.dur.length ∧ (∀ x ∈ st i, x < 256) ∧ Off D w wr) (fun v _ => k - (intOf v).toNat)
  case atStart => exact ⟨0, rfl, Nat.zero_le _, b6, r6, by rw [st0]; exact d6, by rw [st0], by rw [st0]; exact hlt, o6⟩
  case round =>
    clear b6 r6 d6 o6
    obtain ⟨i, rfl, hi, b6, r6, d6, l6, t6, o6⟩ := hrel
    have hc6 := b6.cell
    by_cases h1 : i < k
    · have x1 : decide ((i : Int) < (k : Int)) = true := decide_eq_true (by omega)
      have x2 : ((i : Int) < (k : Int)) = True := eq_true (by omega)
      obtain ⟨p, hp, _, _, hpf, hs1⟩ := st1 i h1
      obtain ⟨q, hq⟩ : ∃ q, ord[i]? = some q := ⟨_, List.getElem?_eq_getElem (by omega)⟩
      have hqm := hom q (List.mem_of_getElem? hq)
      have hpq : dk.pend[q]? = some p := (hLg i q hq).symm.trans hp
      rcases id r6.2 with ⟨_, h0⟩ | ⟨g6, cap6, cur6, he6, hb6, hg6, hrr⟩
      · omega
      injection he6 with e1 e2 e3
      subst e1
      subst e3
      have hci : wr.cell? ⟨g6, i, none⟩ = some (.int .i64 (q : Int)) := by
        have := r6.cells (g := g6) rfl i (.int .i64 (q : Int)) (by unfold iv; rw [List.map_map, List.getElem?_map, hq]; rfl)
        cases i <;> simpa [Addr.add] using this
      clear hg6 hrr
      rcases id d6.pend.2 with ⟨_, h0⟩ | ⟨gp, capp, curp, hep, hbp, hgp, hrp⟩
      · exact absurd h0 (by show dk.pend.length ≠ 0; omega)
      rw [hpv] at hep
      injection hep with e1 e2 e3
      subst e1
      obtain ⟨hp0, hp1⟩ := pcells_get dk.pend q p hpq
      have d6p := d6.pend
      rw [hpv] at d6p
      have hc0 : wr.cell? ⟨gp, q * 2, none⟩ = some (.int .i64 (p.1 : Int)) := by
        have := d6p.cells (g := gp) rfl (q * 2) _ hp0
        cases q <;> simpa [Addr.add] using this
      have hc1 : wr.cell? ⟨gp, q * 2 + 1, none⟩ = some (.string p.2) := by
        have := d6p.cells (g := gp) rfl (q * 2 + 1) _ hp1
        simpa [Addr.add] using this
      clear hgp hrp
      have h4 := d6.cell4
      rw [hpv] at h4
      have y1 : ((q : Int) < (dk.pend.length : Int)) = True := eq_true (by omega)
      have y2 : (q < dk.pend.length) = True := eq_true (by omega)
      go_upto_region 9 with (fail)
      have hw1 : IntKind.i64.wrap ((k : Int) - 1) = ((k - 1 : Nat) : Int) := by rw [IntKind.wrap_i64]; omega
      have h2 := d6.cell2
      rw [show ({ dk with dur := st i } : Dk).dur.length = dk.dur.length from l6] at h2
      have hon : ∀ (s' : ByteArray) (W : World), s'.size ≤ p.2.size → Below wr.heap.size wr W → Calls Tryz.prog 48 #[.agg #[.int .i64 (p.1 : Int), .string s'], .slice (some ⟨D.g1, 0, none⟩) dk.dur.length dk.dur.length] W fun e w' => e = .returned (.tuple #[]) ∧ DAt w' D { dk with dur := splice (st i) p.1 (bl s') } pv ∧ (splice (st i) p.1 (bl s')).length = dk.dur.length ∧ (∀ x ∈ splice (st i) p.1 (bl s'), x < 256) ∧ Off D w w' ∧ Boxed w' w.heap.size 27 (.pointer (some ⟨D.d, 0, none⟩)) ∧ w'.ownsRow (w.heap.size + 2) 3 1 (.slice (some ⟨g6, 0, none⟩) k c6) k (iv (ord.map fun i : Nat => (i : Int))) := by
        intro s' W hs' hW
        have d7 := d6.keep hW
        have hgw := hd.dur.lt
        have hz := o6.size
        have := onto_calls W D.g1 p.1 s' (st i) d7.dur (by omega) (by omega)
        rw [l6] at this
        refine this.mono ?_
        rintro e w' ⟨rfl, q1, q2⟩
        have hsl : (splice (st i) p.1 (bl s')).length = dk.dur.length := (splice_ok (by omega)).trans l6
        have hbw : w.heap.size < wr.heap.size := b6.lt
        refine ⟨rfl, d7.dured q2 _ (hsl.trans l6.symm) q1, hsl, splice_lt t6 (bl_lt s'), (o6.then hW).trans (q2.off_1 hd.h1), (q2.block _ (Nat.lt_of_lt_of_le hbw hW.size) (by omega)).trans ((hW.block _ hbw).trans b6), ?_⟩
        refine own_keep r6 fun g hg => ?_
        have hl := r6.lt g hg
        exact (q2.block g (Nat.lt_of_lt_of_le hl.2 hW.size) (by omega)).trans (hW.block g hl.2)
      by_cases hl : i + 1 = k
      · have z1 : decide ((i : Int) = ((k - 1 : Nat) : Int)) = true := decide_eq_true (by omega)
        have z2 : ((i : Int) = ((k - 1 : Nat) : Int)) = True := eq_true (by omega)
        have z3 : (i = k - 1) = True := eq_true (by omega)
        by_cases ht0 : 0 ≤ torn
        · have z4 : decide (0 ≤ torn) = true := decide_eq_true ht0
          have z5 : (0 ≤ torn) = True := eq_true ht0
          go_upto_region 11 with (fail)
          have hmin : p.2.extract 0 (min torn (p.2.size : Int)).toNat = tornS true torn p.2 := by
            unfold tornS
            rw [if_pos ⟨rfl, ht0⟩]
            congr 1
            omega
          rw [hmin]
          rw [decide_eq_true hl] at hs1
          refine wp_world (fun W => Below wr.heap.size wr W ∧ W.heap[wr.heap.size]? = some (.cells #[.int .i64 (p.1 : Int), .string (tornS true torn p.2)] 92 (0, 0))) ⟨below_alloc (Below.refl _ wr) _, heap_alloc_new ..⟩ ?_
          rintro W7 ⟨k7, q7⟩
          have cq0 : W7.cell? ⟨wr.heap.size, 0, none⟩ = some (.int .i64 (p.1 : Int)) := by simp [World.cell?, q7]
          have cq1 : W7.cell? ⟨wr.heap.size, 1, none⟩ = some (.string (tornS true torn p.2)) := by simp [World.cell?, q7]
          have hc7 := (k7.cell (p := ⟨w.heap.size, 0, none⟩) b6.lt).trans hc6
          have h27 := (k7.cell (p := ⟨D.d, 2, none⟩) d6.lt_d).trans h2
          have hon7 := hon (tornS true torn p.2) W7.drew (tornS_size _ _ _) k7.drew
          go_region_with (go_at_call 48; refine hon7.mono ?_; rintro e w8 ⟨rfl, d8, l8, t8, o8, b8, r8⟩)
          all_goals
            go_wp2_with (fail)
            go_roundw
            case rel => exact ⟨i + 1, by simp, by omega, b8, r8, by rw [hs1]; exact d8, by rw [hs1]; exact l8, by rw [hs1]; exact t8, o8⟩
            case measure => simp [intOf]; omega
        · have z4 : decide (0 ≤ torn) = false := decide_eq_false ht0
          have z5 : (0 ≤ torn) = False := eq_false ht0
          have hts : tornS (decide (i + 1 = k)) torn p.2 = p.2 := by
            unfold tornS
            rw [if_neg (by intro hh; exact ht0 hh.2)]
          rw [hts] at hs1
          go_upto_region 11 with (fail)
          refine wp_world (fun W => Below wr.heap.size wr W ∧ W.heap[wr.heap.size]? = some (.cells #[.int .i64 (p.1 : Int), .string p.2] 92 (0, 0))) ⟨below_alloc (Below.refl _ wr) _, heap_alloc_new ..⟩ ?_
          rintro W7 ⟨k7, q7⟩
          have cq0 : W7.cell? ⟨wr.heap.size, 0, none⟩ = some (.int .i64 (p.1 : Int)) := by simp [World.cell?, q7]
          have cq1 : W7.cell? ⟨wr.heap.size, 1, none⟩ = some (.string p.2) := by simp [World.cell?, q7]
          have hc7 := (k7.cell (p := ⟨w.heap.size, 0, none⟩) b6.lt).trans hc6
          have h27 := (k7.cell (p := ⟨D.d, 2, none⟩) d6.lt_d).trans h2
          have hon7 := hon p.2 W7.drew (Nat.le_refl _) k7.drew
          go_region_with (go_at_call 48; refine hon7.mono ?_; rintro e w8 ⟨rfl, d8, l8, t8, o8, b8, r8⟩)
          all_goals
            go_wp2_with (fail)
            go_roundw
            case rel => exact ⟨i + 1, by simp, by omega, b8, r8, by rw [hs1]; exact d8, by rw [hs1]; exact l8, by rw [hs1]; exact t8, o8⟩
            case measure => simp [intOf]; omega
      · have z1 : decide ((i : Int) = ((k - 1 : Nat) : Int)) = false := decide_eq_false (by omega)
        have z2 : ((i : Int) = ((k - 1 : Nat) : Int)) = False := eq_false (by omega)
        have z3 : (i = k - 1) = False := eq_false (by omega)
        have hts : tornS (decide (i + 1 = k)) torn p.2 = p.2 := by
          unfold tornS
          rw [if_neg (by intro hh; exact hl (of_decide_eq_true hh.1))]
        rw [hts] at hs1
        go_upto_region 11 with (fail)
        refine wp_world (fun W => Below wr.heap.size wr W ∧ W.heap[wr.heap.size]? = some (.cells #[.int .i64 (p.1 : Int), .string p.2] 92 (0, 0))) ⟨below_alloc (Below.refl _ wr) _, heap_alloc_new ..⟩ ?_
        rintro W7 ⟨k7, q7⟩
        have cq0 : W7.cell? ⟨wr.heap.size, 0, none⟩ = some (.int .i64 (p.1 : Int)) := by simp [World.cell?, q7]
        have cq1 : W7.cell? ⟨wr.heap.size, 1, none⟩ = some (.string p.2) := by simp [World.cell?, q7]
        have hc7 := (k7.cell (p := ⟨w.heap.size, 0, none⟩) b6.lt).trans hc6
        have h27 := (k7.cell (p := ⟨D.d, 2, none⟩) d6.lt_d).trans h2
        have hon7 := hon p.2 W7.drew (Nat.le_refl _) k7.drew
        go_region_with (go_at_call 48; refine hon7.mono ?_; rintro e w8 ⟨rfl, d8, l8, t8, o8, b8, r8⟩)
        all_goals
          go_wp2_with (fail)
          go_roundw
          case rel => exact ⟨i + 1, by simp, by omega, b8, r8, by rw [hs1]; exact d8, by rw [hs1]; exact l8, by rw [hs1]; exact t8, o8⟩
          case measure => simp [intOf]; omega
    · have hie : i = k := by omega
      subst hie
      have x1 : decide ((i : Int) < (i : Int)) = false := decide_eq_false (by omega)
      have d9 : DiskAt wr D { dk with dur := Dk.applyL torn dk.dur L [] } := ⟨pv, by rw [← stk]; exact d6⟩
      rw [stk] at l6 t6
      go_upto_region 13 with (fail)
      refine Sha.norm_wp ?_
      refine crash_r13 _ w wr _ _ _ _ _ _ _ _ _ _ _ _ _ _ _ _ _ _ _ _ _ _ _ _ _ _ _ _ _ _ _ _ _ _ _ _ _ _ _ _ _ _ _ _ _ _ _ _ _ _ _ _ _ _ _ _ _ _ _ _ _ _ _ _ _ _ _ _ _ _ _ _ D { dk with dur := Dk.applyL torn dk.dur L [] } w.heap.size t6 (fun W' W o10 hb => o10.block w.heap.size _ hb (.inr ⟨by have := hd.lt_d; omega, by have := hd.dur.lt; omega, by have := hd.vis.lt; omega, fun hw => by cases hw⟩)) ⟨b6, d9, o6⟩ ?_
      intro z59 z60 z61 z62 z63 z64 z65 z66 z67 z68 w9 d10 b10 o9
      obtain ⟨pv2, d10⟩ := d10
      have b9 := b10.cell
      have f0 := d10.frozen 0
      have f1 := d10.frozen 1
      have c0 := d10.cell0
      have c1 := d10.cell1
      go_wp2_with (fail)
      go_ret
      have S1 := set_blk d10.blk (j := 0) (.bool false)
      have S2 := set_blk S1 (j := 1) (.int .i64 0)
      have B := (But.setCell D.d 0 w9 (.bool false)).trans (But.setCell D.d 1 _ (.int .i64 0))
      refine ⟨rfl, ⟨pv2, ?_⟩, o9.trans (B.off_d hd.hd)⟩
      have := d10.re B false 0 (by omega) S2
      unfold Dk.crash
      rw [hord, hLL]
      exact this
open Go Go.RowKit Go.Shelf Go.Proofs.YtniegajdmbepbaaGreatDoorW.PrintWords Go.Proofs.YtniegajdmbepbaaGreatDoorW.PrintMore
theorem own_setk {w : World} {base g n cap k : Nat} {e : TypeId} {xs : List Value} (h : w.ownsRow base e 1 (.slice (some ⟨g, 0, none⟩) n cap) n xs) (hk : k < n) (u : Value) : (w.setCell ⟨g, k, none⟩ u).ownsRow base e 1 (.slice (some ⟨g, 0, none⟩) n cap) n (xs.set k u) := by
 obtain ⟨hl, ⟨h1, _⟩ | ⟨g', cap', cur, e1, hb, hg, hnc, hcm, hcs, ht⟩⟩ := h
 ·cases h1
 ·injection e1 with e1 e2 e3
  injection e1 with e1
  injection e1 with e1
  subst e1 e3
  refine ⟨by rw [List.length_set]; exact hl, .inr ⟨g, cap, cur.setIfInBounds k u, rfl, hb, set_blk hg u, hnc, hcm, by simpa using hcs, ?_⟩⟩
  rw [Nat.mul_one] at ht ⊢
  rw [← ht]
  simp only [Array.toList_setIfInBounds]
  rw [List.take_set]
theorem own_cellk {w : World} {base g n cap k : Nat} {e : TypeId} {xs : List Value} {u : Value} (h : w.ownsRow base e 1 (.slice (some ⟨g, 0, none⟩) n cap) n xs) (hk : xs[k]? = some u) : w.cell? ⟨g, k, none⟩ = some u := by
 have := h.cells (g := g) rfl k u hk
 cases k <;> simpa [Addr.add] using this
theorem own_frozk {w : World} {base g n cap k : Nat} {e : TypeId} {xs : List Value} (h : w.ownsRow base e 1 (.slice (some ⟨g, 0, none⟩) n cap) n xs) : w.frozen? ⟨g, k, none⟩ = false := by
 obtain ⟨cs, hc⟩ := own_block h (g := g) rfl
 exact frozen_of hc k
theorem splice_snoc (l : List Nat) (off : Nat) (S : List Nat) (i v : Nat) (hi : S[i]? = some v) (hf : off + S.length ≤ l.length) : splice l off (S.take (i + 1)) = (splice l off (S.take i)).set (off + i) v := by
 have hl := (List.getElem?_eq_some_iff.1 hi).1
 have ht : (S.take i).length = i := by rw [List.length_take]; omega
 have ht1 : (S.take (i + 1)).length = i + 1 := by rw [List.length_take]; omega
 unfold splice
 rw [ht, ht1, List.take_add_one, hi]
 have hd : l.drop (off + i) = l[off + i]'(by omega) :: l.drop (off + (i + 1)) := by rw [List.drop_eq_getElem_cons (by omega)]; rfl
 have hlen : (l.take off ++ S.take i).length = off + i := by rw [List.length_append, List.length_take, ht]; omega
 rw [hd, List.set_append_right _ _ (by rw [hlen]; exact Nat.le_refl _), hlen, Nat.sub_self, List.set_cons_zero]
 simp
set_option maxRecDepth 100000 in
set_option maxHeartbeats 4000000 in
theorem apply_calls (w : World) (base g n cap off : Nat) (s : ByteArray) (l : List Nat) (h : w.ownsRow base 5 1 (.slice (some ⟨g, 0, none⟩) n cap) n (bv l)) (hl : l.length = n) (hfit : off + s.size ≤ n) (hn : n ≤ 4194304) :
  Calls Tryz.prog 53 #[.slice (some ⟨g, 0, none⟩) n cap, .int .i64 (off : Int), .string s] w fun e w' => e = .returned (.tuple #[]) ∧ w'.ownsRow base 5 1 (.slice (some ⟨g, 0, none⟩) n cap) n (bv (splice l off (bl s))) ∧ But g w w' := by
 have hbl := bl_length s
 go_enter Tryz.func53, Tryz.ntmps53
 go_wp2_with fail
 go_loopw [6] (fun v wr => ∃ i : Nat, v = .int .i64 (i : Int) ∧ i ≤ s.size ∧ wr.ownsRow base 5 1 (.slice (some ⟨g, 0, none⟩) n cap) n (bv (splice l off ((bl s).take i))) ∧ But g w wr) (fun v _ => s.size - (intOf v).toNat)
 case atStart => exact ⟨0, rfl, Nat.zero_le _, by rw [List.take_zero, splice_nil]; exact h, But.refl _ _⟩
 case round =>
  clear h
  obtain ⟨i, rfl, hi, hr, hb⟩ := hrel
  by_cases h1 : i < s.size
  ·have x1 : decide ((i : Int) < (s.size : Int)) = true := decide_eq_true (by omega)
   have x2 : ((i : Int) < (s.size : Int)) = True := eq_true (by omega)
   have x3 : (i < s.size) = True := eq_true h1
   obtain ⟨v, hv⟩ : ∃ v, (bl s)[i]? = some v := ⟨_, List.getElem?_eq_getElem (by omega)⟩
   have hsv : (s[i]'h1).toNat = v := by
    unfold bl at hv
    rw [List.getElem?_map] at hv
    obtain ⟨u, hu, rfl⟩ := Option.map_eq_some_iff.1 hv
    have := (List.getElem?_eq_some_iff.1 hu).2
    rw [← this]
    rfl
   have hsl : (splice l off ((bl s).take i)).length = n := by rw [splice_length (by rw [List.length_take]; omega)]; exact hl
   obtain ⟨y, hy⟩ : ∃ y, (bv (splice l off ((bl s).take i)))[off + i]? = some y := ⟨_, List.getElem?_eq_getElem (by rw [bv_length, hsl]; omega)⟩
   have hc := own_cellk hr hy
   have hf := own_frozk (k := off + i) hr
   have hw : IntKind.i64.wrap ((off : Int) + (i : Int)) = ((off + i : Nat) : Int) := by rw [IntKind.wrap_i64]; omega
   have z1 : (((off + i : Nat) : Int) < (n : Int)) = True := eq_true (by omega)
   have z2 : (off + i < n) = True := eq_true (by omega)
   go_wp2_with fail
   go_roundw
   case rel =>
    refine ⟨i + 1, by simp, by omega, ?_, hb.trans (But.setCell g (off + i) wr _)⟩
    have := own_setk hr (show off + i < n by omega) (.int .u8 (v : Int))
    rw [splice_snoc l off (bl s) i v hv (by omega)]
    unfold bv at this ⊢
    rw [List.map_set]
    exact this
   case measure => simp [intOf]; omega
  ·have hie : i = s.size := by omega
   subst hie
   have x1 : decide ((s.size : Int) < (s.size : Int)) = false := decide_eq_false (by omega)
   go_wp2_with fail
   go_end0
   rw [List.take_of_length_le (by omega)] at hr
   exact ⟨rfl, hr, hb⟩
end Go.Proofs.YtniegajdmbepbaaGreatDoor.Jm
