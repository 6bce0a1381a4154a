/- Sum's walk: the digest of a string of at most 2^40 bytes. -/
import Derived.Test.YtniegajdmbepbaaGreatDoorKJournalMatchesReference18
import Derived.RangeFuncCalls
set_option linter.unusedSimpArgs false
set_option linter.unusedVariables false
namespace Go.Proofs.YtniegajdmbepbaaGreatDoor.Sha
open Go Go.RowKit Go.Shelf Go.Proofs.YtniegajdmbepbaaGreatDoor.Rf Go.Proofs.YtniegajdmbepbaaGreatDoorW.PrintWords Go.Proofs.YtniegajdmbepbaaGreatDoorW.PrintLast Go.Proofs.YtniegajdmbepbaaGreatDoorW.PrintMore
attribute [local go_sem] Oper.semAt_some
def iv : List B := [1779033703, 3144134277, 1013904242, 2773480762, 1359893119, 2600822924, 528734635, 1541459225].map (BitVec.ofNat 32)
def zs (n : Nat) : Nat := (119 - n % 64) % 64
def lenB (n k : Nat) : BitVec 8 := BitVec.ofNat 8 ((8 * n) / 2 ^ (8 * (7 - k)))
def lens (n : Nat) : Nat → List (BitVec 8)
 | 0 => []
 | k + 1 => lens n k ++ [lenB n k]
def padded (s : ByteArray) : List (BitVec 8) := bits8 s ++ [128] ++ List.replicate (zs s.size) 0 ++ lens s.size 8
theorem lens_length (n : Nat) : ∀ k, (lens n k).length = k
 | 0 => rfl
 | k + 1 => by simp [lens, lens_length n k]
theorem padded_length (s : ByteArray) : ∃ K, (padded s).length = 64 * K := by
 refine ⟨(padded s).length / 64, ?_⟩
 have : (padded s).length = s.size + 1 + zs s.size + 8 := by
  unfold padded
  simp only [List.length_append, bits8_length, List.length_replicate, lens_length, List.length_singleton]
 rw [this]
 unfold zs
 omega
def blk (l : List (BitVec 8)) (j : Nat) : List (BitVec 8) := (l.drop (64 * j)).take 64
def hS (l : List (BitVec 8)) : Nat → List B
 | 0 => iv
 | j + 1 => hst (hS l j) (vst (hS l j) (st2 (blk l j) 48) 64) 8
theorem hS_length (l : List (BitVec 8)) : ∀ j, (hS l j).length = 8
 | 0 => rfl
 | j + 1 => by rw [hS, hst_length]; exact hS_length l j
def hL (l : List (BitVec 8)) (pre : List Nat) : List B := pre.foldl (fun H x => hst H (vst H (st2 (blk l x) 48) 64) 8) iv
theorem hL_range (l : List (BitVec 8)) : ∀ j, hL l (List.range j) = hS l j
 | 0 => rfl
 | j + 1 => by
  unfold hL
  rw [List.range_succ, List.foldl_append]
  have := hL_range l j
  unfold hL at this
  rw [this]
  rfl
theorem hL_snoc (l : List (BitVec 8)) (pre : List Nat) (x : Nat) : hL l (pre ++ [x]) = hst (hL l pre) (vst (hL l pre) (st2 (blk l x) 48) 64) 8 := by
 unfold hL
 rw [List.foldl_append]
 rfl
theorem foldl_len (l : List (BitVec 8)) : ∀ (pre : List Nat) (H : List B), H.length = 8 → (pre.foldl (fun H x => hst H (vst H (st2 (blk l x) 48) 64) 8) H).length = 8
 | [], H, h => h
 | x :: pre, H, h => foldl_len l pre _ (by rw [hst_length]; exact h)
theorem hL_length (l : List (BitVec 8)) (pre : List Nat) : (hL l pre).length = 8 := foldl_len l pre iv rfl
theorem blk_length (l : List (BitVec 8)) (K : Nat) (hK : l.length = 64 * K) (x : Fin K) : (blk l x.val).length = 64 := by
 have := x.isLt
 unfold blk
 rw [List.length_take, List.length_drop, hK]
 omega
theorem Bytes.blk {w : World} {g : Nat} {l : List (BitVec 8)} (h : Bytes w g 0 l) (x : Nat) : Bytes w g (64 * x) (blk l x) := by
 intro j b hj
 unfold Sha.blk at hj
 rw [List.getElem?_take] at hj
 split at hj
 ·rw [List.getElem?_drop] at hj
  have := h (64 * x + j) b hj
  rwa [Nat.zero_add] at this
 ·cases hj
theorem Bytes.of_block {w W : World} {g o : Nat} {l : List (BitVec 8)} (h : Bytes w g o l) (k : W.heap[g]? = w.heap[g]?) : Bytes W g o l := fun j b hj => by
 rw [← h j b hj]
 simp only [World.cell?]
 rw [k]
def sumF (s : ByteArray) : ByteArray := digW (hS (padded s) ((padded s).length / 64))
theorem infoU8 : (Tryz.prog.info? 5).map (fun i => (i.zero, i.size, i.bytes)) = some (some (.int .u8 0), 1, 1) := by kernel_rfl
theorem zip_one {α β : Type} (x : α) (y : β) : (#[x]).zip #[y] = #[(x, y)] := by simp
theorem foldl_one {α β : Type} (f : β → α → β) (t : β) (x : α) : Array.foldl f t #[x] = f t x := by simp
def sliceLen : Value → Nat
 | .slice _ n _ => n
 | _ => 0
set_option maxHeartbeats 2000000 in
set_option maxRecDepth 100000 in
theorem sum_calls (s : ByteArray) (hs : s.size ≤ 1099511627776) (w : World) (hr : Amb w) :
  Calls Tryz.prog 110 #[.string s] w fun e w' => e = .returned (.string (sumF s)) ∧ Below w.heap.size w w' := by
 refine (callsIn_wide (n := 4)).1 ?_
 refine callsIn_of_wp_marks Tryz.func110 rfl trivial ?_ rfl
 refine wpIn_wide.2 ?_
 simp only [Tryz.ntmps110, List.size_toArray, List.length_cons, List.length_nil, Nat.reduceAdd, Nat.reduceSub, Array.replicate_succ, Array.replicate_zero, List.push_toArray, List.append_toArray, List.nil_append, List.cons_append]
 go_upto_region 1 with (fail)
 refine wp_region_list ?_
 go_step
 go_simp
 rename_i hK
 refine hK _ _ ?_
 clear hK
 go_step
 go_simp
 rename_i hK
 refine hK _ _ ?_
 clear hK
 have A0 : Arr (w.alloc (Obj.cells (List.replicate 8 (Value.int IntKind.u32 0)).toArray 193)) w.heap.size 193 (List.replicate 8 0) := heap_alloc_new ..
 have B0 : Below w.heap.size w (w.alloc (Obj.cells (List.replicate 8 (Value.int IntKind.u32 0)).toArray 193)) := below_alloc (Below.refl _ _) _
 have hs0 : (w.alloc (Obj.cells (List.replicate 8 (Value.int IntKind.u32 0)).toArray 193)).heap.size = w.heap.size + 1 := by simp
 change wpList _ _ _ _ _ (w.alloc (Obj.cells (List.replicate 8 (Value.int IntKind.u32 0)).toArray 193))
 generalize w.alloc (Obj.cells (List.replicate 8 (Value.int IntKind.u32 0)).toArray 193) = w2 at A0 B0 hs0 ⊢
 obtain ⟨gh, hgh⟩ : ∃ gh, w.heap.size = gh := ⟨_, rfl⟩
 rw [hgh] at A0 B0 hs0 ⊢
 have hz1 : (Tryz.prog.info? 193).map (·.size) = some (cellsOf iv).size := by rw [size71]; rfl
 refine wpList_store_mid rfl 193 (.tmp 3) (.tmp 7) rfl gh 0 (cellsOf iv) rfl rfl (by rw [cellsOf_size]; exact A0.there) hz1 (cellsOf_one _) ?_
 obtain ⟨A1, N1⟩ := A0.store_all iv rfl
 have B1 := N1.below B0 (Nat.le_refl _)
 have hs1 := N1.size.trans hs0
 generalize w2.setCells gh 0 (cellsOf iv).toList = w3 at A1 B1 hs1 ⊢
 clear A0 B0 N1 hs0 hz1
 go_upto_region 2 with (fail)
 have hcv := run_bytes_of_string (P := Tryz.prog) w3 9 39 5 s Tryz.underlying9 Tryz.underlying39 Tryz.underlying5
 have M0 := OwnM_bytes w3 w3.heap.size (Nat.le_refl _) s (by unfold maxLen; omega)
 have B2 : Below w3.heap.size w3 (w3.drew.alloc (.cells (bytesRow s (grownCap w3 s.size 0 5)) 5 ((bytesRow s (grownCap w3 s.size 0 5)).size, (bytesRow s (grownCap w3 s.size 0 5)).size + 1))) := below_alloc (below_drew1 (Below.refl _ _)) _
 generalize w3.drew.alloc (.cells (bytesRow s (grownCap w3 s.size 0 5)) 5 ((bytesRow s (grownCap w3 s.size 0 5)).size, (bytesRow s (grownCap w3 s.size 0 5)).size + 1)) = w4 at hcv M0 B2
 generalize (Value.slice (some ⟨w3.heap.size, 0, none⟩) s.size (grownCap w3 s.size 0 5)) = v9 at hcv M0
 refine wp_region_list ?_
 go_step
 go_simp
 rename_i hK
 refine hK _ _ ?_
 clear hK
 go_step
 go_simp
 rename_i hK
 refine hK _ _ ?_
 clear hK
 go_step
 go_simp
 rename_i hK
 refine hK _ _ ?_
 clear hK hcv
 obtain ⟨i0, hi, hz0, hz1, hz2⟩ := info_parts infoU8
 have M1 := M0.alloc (.cells #[.int .u8 128] 5)
 have B3 : Below w3.heap.size w3 (w4.alloc (.cells #[.int .u8 128] 5)) := below_alloc B2 _
 refine wpList_append_M _ rfl (.tmp 9) (.tmp 10) 39 rfl w3.heap.size i0 Tryz.underlying39 hi hz0 hz1 hz2 v9 _ rfl M1 ⟨w4.heap.size, 0, none⟩ 1 128 rfl (cell_one_new _ _ _ 0 _ rfl) (by rw [bits8_length]; omega) B3.size ?_
 intro v11 w5 M2 hg2 hv2
 have B4 := B3.grown hg2 B3.size hv2
 clear M1 M0 B3 B2 hg2 hv2
 go_step
 go_simp
 rename_i hK
 refine hK _ _ ?_
 clear hK
 go_wp2_with fail
 obtain ⟨l0, hl0⟩ : ∃ l, bits8 s ++ [128] = l := ⟨_, rfl⟩
 rw [hl0] at M2
 have hl0l : l0.length = s.size + 1 := by rw [← hl0]; simp [bits8_length]
 go_loopw [4] (fun v w' => ∃ k : Nat, k ≤ zs s.size ∧ OwnM w' w3.heap.size v (l0 ++ List.replicate k 0) ∧ Below w3.heap.size w3 w') (fun v _ => s.size + 100 - sliceLen v)
 case atStart => exact ⟨0, by omega, by simpa using M2, B4⟩
 case round =>
  clear M2 B4
  obtain ⟨k, hk, M, Bw⟩ := hrel
  obtain ⟨g, c, ev⟩ := M.slice
  obtain ⟨n, hn⟩ : ∃ n, (l0 ++ List.replicate k 0).length = n := ⟨_, rfl⟩
  rw [hn] at ev
  subst ev
  have hnk : Aside0 (n = s.size + 1 + k) := ⟨by rw [← hn]; simp [hl0l]⟩
  replace hn := Aside0.mk hn
  by_cases h1 : k < zs s.size
  ·have c1 : (((n : Int) % 64) != 56) = true := bne_iff_ne.mpr (by have := hnk.out; unfold zs at h1 hk; omega)
   have c2 : (((n : Int) % 64) == 56) = false := beq_eq_false_iff_ne.mpr (by have := hnk.out; unfold zs at h1 hk; omega)
   go_upto_region 4 with (fail)
   refine wp_region_list ?_
   go_step
   go_simp
   rename_i hK
   refine hK _ _ ?_
   clear hK
   go_step
   go_simp
   rename_i hK
   refine hK _ _ ?_
   clear hK
   have M1 := M.alloc (.cells #[.int .u8 0] 5)
   have B1 : Below w3.heap.size w3 (wr.alloc (.cells #[.int .u8 0] 5)) := Bw.alloc Bw.size _
   refine wpList_append_M _ rfl (.tmp 16) (.tmp 17) 39 rfl w3.heap.size i0 Tryz.underlying39 hi hz0 hz1 hz2 _ _ rfl M1 ⟨wr.heap.size, 0, none⟩ 1 0 rfl (cell_one_new _ _ _ 0 _ rfl) (by rw [hn.out, hnk.out]; unfold zs at hk; omega) B1.size ?_
   intro v18 w6 M2 hg2 hv2
   have B4 := B1.grown hg2 B1.size hv2
   clear M1 M B1 Bw hg2 hv2
   go_step
   go_simp
   rename_i hK
   refine hK _ _ ?_
   clear hK
   go_wp2_with fail
   refine ⟨⟨k + 1, by omega, by rw [List.replicate_succ', ← List.append_assoc]; exact M2, B4⟩, ?_⟩
   obtain ⟨g2, cc2, ev2⟩ := M2.slice
   rw [ev2]
   have := hn.out
   have := hnk.out
   have hl2 : (l0 ++ List.replicate k 0 ++ [(0 : BitVec 8)]).length = n + 1 := by rw [List.length_append, hn.out]; rfl
   simp only [sliceLen, hl2]
   unfold zs at hk
   omega
  ·have c1 : (((n : Int) % 64) != 56) = false := bne_eq_false_iff_eq.mpr (by have := hnk.out; unfold zs at h1 hk; omega)
   have c2 : (((n : Int) % 64) == 56) = true := beq_iff_eq.mpr (by have := hnk.out; unfold zs at h1 hk; omega)
   go_upto_region 5 with (fail)
   go_wp2_with fail
   have ek : k = zs s.size := by omega
   subst ek
   obtain ⟨l1, hl1⟩ : ∃ l, l0 ++ List.replicate (zs s.size) 0 = l := ⟨_, rfl⟩
   rw [hl1] at M
   have hl1l : l1.length = s.size + 1 + zs s.size := by rw [← hl1]; simp [hl0l]
   go_loopw [4, 5] (fun v i w' => ∃ k : Nat, i = .int .i64 (7 - (k : Int)) ∧ k ≤ 8 ∧ OwnM w' w3.heap.size v (l1 ++ lens s.size k) ∧ Below w3.heap.size w3 w') (fun _ i _ => (intOf i + 1).toNat)
   case atStart => exact ⟨0, rfl, by omega, by simpa [lens] using M, Bw⟩
   case round =>
    clear M Bw
    obtain ⟨k, rfl, hk, M, Bw⟩ := hrel
    obtain ⟨g, c, ev⟩ := M.slice
    obtain ⟨n, hn⟩ : ∃ n, (l1 ++ lens s.size k).length = n := ⟨_, rfl⟩
    rw [hn] at ev
    subst ev
    have hnk : Aside0 (n = s.size + 1 + zs s.size + k) := ⟨by rw [← hn]; simp [hl1l, lens_length]⟩
    replace hn := Aside0.mk hn
    obtain ⟨q, hq⟩ : ∃ q : Int, 7 - (k : Int) = q := ⟨_, rfl⟩
    rw [hq]
    by_cases h2 : k < 8
    ·have d1 : decide (0 ≤ q) = true := decide_eq_true (by omega)
     go_upto_region 8 with (fail)
     obtain ⟨m8, hm8⟩ : ∃ m, 8 * s.size = m := ⟨_, rfl⟩
     have y1 : IntKind.i64.wrap (8 * (s.size : Int)) = (m8 : Int) := by rw [IntKind.wrap_i64]; omega
     obtain ⟨e, he⟩ : ∃ e, 8 * (7 - k) = e := ⟨_, rfl⟩
     have y2 : IntKind.i64.wrap (8 * q) = (e : Int) := by rw [IntKind.wrap_i64]; omega
     obtain ⟨d, hd⟩ : ∃ d, m8 / 2 ^ e = d := ⟨_, rfl⟩
     have y3 : (m8 : Int) / 2 ^ e = (d : Int) := by rw [← hd]; simp
     have y4 : (m8 : Int) / 2 ^ min e 64 = (d : Int) := by rw [Nat.min_eq_left (by omega)]; exact y3
     have y5 : IntKind.u8.wrap (d : Int) = ub (lenB s.size k) := by
      unfold lenB
      rw [hm8, he, hd]
      unfold ub
      simp [IntKind.wrap, IntKind.signed, IntKind.bits]
     have y6 : (d : Int) % 256 = ub (lenB s.size k) := by rw [← y5]; simp [IntKind.wrap, IntKind.signed, IntKind.bits]
     refine wp_region_list ?_
     iterate 9 (go_step; go_simp; rename_i hK; refine hK _ _ ?_; clear hK)
     have M1 := M.alloc (.cells #[.int .u8 (ub (lenB s.size k))] 5)
     have Bq := Bw.alloc Bw.size (.cells #[.int .u8 (ub (lenB s.size k))] 5)
     refine wpList_append_M _ rfl (.tmp 23) (.tmp 31) 39 rfl w3.heap.size i0 Tryz.underlying39 hi hz0 hz1 hz2 _ _ rfl M1 ⟨wr.heap.size, 0, none⟩ 1 (lenB s.size k) rfl (cell_one_new _ _ _ 0 _ rfl) (by rw [hn.out, hnk.out]; unfold zs; omega) Bq.size ?_
     intro v32 w6 M2 hg2 hv2
     have B4 := Bq.grown hg2 Bq.size hv2
     clear M1 M Bq Bw hg2 hv2
     go_step
     go_simp
     rename_i hK
     refine hK _ _ ?_
     clear hK
     have y7 : IntKind.i64.wrap (q - 1) = q - 1 := by rw [IntKind.wrap_i64]; omega
     go_wp2_with fail
     refine ⟨⟨k + 1, by congr 1; omega, by omega, by rw [lens, ← List.append_assoc]; exact M2, B4⟩, ?_⟩
     simp only [intOf]
     omega
    ·have d1 : decide (0 ≤ q) = false := decide_eq_false (by omega)
     go_upto_region 9 with (fail)
     have ek : k = 8 := by omega
     subst ek
     obtain ⟨l, hl⟩ : ∃ l, padded s = l := ⟨_, rfl⟩
     have el : l1 ++ lens s.size 8 = l := by rw [← hl, ← hl1, ← hl0]; rfl
     obtain ⟨K, hK⟩ := padded_length s
     rw [hl] at hK
     have hn' := hn.out
     have hnk' := hnk.out
     rw [el, hK] at hn'
     rw [el] at M
     subst hn'
     have hKs : 64 * K ≤ 140737488355328 := by rw [hnk']; unfold zs; omega
     clear hn hnk hnk'
     go_wp2_with (go_at_call 128; refine (callsIn_wide.1 (chunk_fn _ _ _ _)).mono ?_; rintro e w' ⟨rfl, rfl⟩)
     obtain ⟨hg1, hg2, hx3, hgc, hgm, hby⟩ := M.cells
     clear hx3
     obtain ⟨W0, hW0⟩ : ∃ W0, (wr.alloc (Obj.cells #[Value.slice (some ⟨g, 0, none⟩) (64 * K) c] 39)).alloc (Obj.cells #[Value.int IntKind.i64 64] 3) = W0 := ⟨_, rfl⟩
     have hsz : W0.heap.size = wr.heap.size + 2 := by rw [← hW0]; simp
     have b1 : Boxed W0 wr.heap.size 39 (.slice (some ⟨g, 0, none⟩) (64 * K) c) := by rw [← hW0]; exact (Boxed.new wr _ _).alloc _
     have b2 : Boxed W0 (wr.heap.size + 1) 3 (.int .i64 64) := by
      rw [← hW0]
      have := Boxed.new (wr.alloc (.cells #[Value.slice (some ⟨g, 0, none⟩) (64 * K) c] 39)) 3 (.int .i64 64)
      rwa [World.size_alloc] at this
     have bel : Below wr.heap.size wr W0 := by rw [← hW0]; exact ((Below.refl _ wr).alloc (Nat.le_refl _) _).alloc (by simp) _
     have bel3 : Below w3.heap.size w3 W0 := Bw.trans (bel.mono Bw.size)
     have belw : Below gh w W0 := B1.trans (bel3.mono (by omega))
     have AA : Arr W0 gh 193 iv := A1.block (bel3.block gh (by omega))
     have BB : Bytes W0 g 0 l := hby.of_block (bel.block g hg2)
     have RR : Amb W0 := hr.below_block (by rw [hgh]; exact belw)
     have hgW : g < W0.heap.size := by omega
     have hghW : gh < w3.heap.size := by omega
     have hgne : g ≠ gh := by omega
     have hw3 : w3.heap.size ≤ wr.heap.size := Bw.size
     rw [hW0]
     clear hW0 M Bw B1 A1 hby bel bel3 hg1
     generalize wr.heap.size = qb at hsz b1 b2 hg2 hw3 ⊢
     refine (wpIn_wide (n := 4)).1 ?_
     refine rangeFunc_Z rfl (by decide) (gf := 143) (lb := #[.pointer (some ⟨qb, 0, none⟩), .pointer (some ⟨qb + 1, 0, none⟩)]) rfl trivial (enters_of Tryz.func143 (by kernel_rfl) rfl)
      (Z := fun _ => False) (fun k hk => hk.elim)
      (encs := fun x : Fin K => #[.slice (some ⟨g, 64 * x.val, none⟩) 64 64]) (Kp := fun A B => B.heap[qb]? = A.heap[qb]? ∧ B.heap[qb + 1]? = A.heap[qb + 1]?) (S := fun ys => ys.map Fin.val = List.range K) (Sp := fun _ => True) (N := K) ?iter
      (fun h k => ⟨k.1.trans h.1, k.2.trans h.2⟩) (fun W l o hl => ⟨World.putObj_heap_other (by omega), World.putObj_heap_other (by omega)⟩) (fun _ => rfl)
      (fun pre W => Arr W gh 193 (hL l (pre.map Fin.val)) ∧ BelowBut gh W0 W)
      (fun _ _ _ => False)
      ?ab (fun _ _ _ _ _ hs _ _ => hs)
      ⟨AA, ⟨rfl, rfl, rfl, Nat.le_refl _, fun _ _ _ => rfl⟩⟩ ?round ?done ?stop
     case iter =>
      intro l' J Jx W hW hJ hJx hY hJ0
      exact chunk_in l' qb (qb + 1) g K c hKs hgc J Jx hJ hY W (b1.kept hW (by simp)) (b2.kept hW (by simp)) hJ0
     case ab =>
      rintro pre W W' row ⟨hA, hB⟩ hg hrow
      have hne : ∀ r, row = some r → W0.heap.size ≤ r := fun r e => by
       rcases hrow r e with h | ⟨h, _⟩
       ·exact h.elim
       ·exact h
      refine ⟨hA.block (hg.block gh hA.lt (fun e => by have := hne gh e.symm; omega)), ⟨hg.os.trans hB.os, hg.tape.trans hB.tape, hg.output.trans hB.output, Nat.le_trans hB.size hg.size, fun i hi hig => (hg.block i (Nat.lt_of_lt_of_le hi hB.size) (fun e => by have := hne i e.symm; omega)).trans (hB.block i hi hig)⟩⟩
     case round =>
      rintro l' pre x W ⟨hA, hB⟩ hlt
      dsimp only
      rw [zip_one, foldl_one]
      simp only [List.setIfInBounds_toArray, List.set_cons_succ, List.set_cons_zero]
      gi_wp2
      refine ⟨trivial, ?_⟩
      clear hA hB
      rintro V ⟨hA, hB⟩
      have hbV : Bytes V g (64 * x.val) (blk l x.val) := (BB.of_block (hB.block g hgW hgne)).blk x.val
      have hRV : Amb V := by
       obtain ⟨t, fr, h⟩ := RR
       have hlt0 : 3 < gh := by
        have := (Array.getElem?_eq_some_iff.1 hr.choose_spec.choose_spec).1
        omega
       exact ⟨t, fr, (hB.block _ (by omega) (by omega)).trans h⟩
      have hF : Fence.wide.fn 129 := trivial
      gi_wp2_with fail
      refine CallsIn.mono (CallsIn.inRound _ (callsIn_wide.2 (add_calls gh g (64 * x.val) 64 _ (hL_length _ _) _ (blk_length l K hK x) V hA hbV (Nat.lt_of_lt_of_le hgW hB.size) (by decide) hRV))) ?_
      rintro e w' ⟨rfl, hA', hB'⟩
      gi_wp2_with fail
      have hqV : qb < V.heap.size := Nat.lt_of_lt_of_le (by omega) hB.size
      have hqV1 : qb + 1 < V.heap.size := Nat.lt_of_lt_of_le (by omega) hB.size
      refine ⟨⟨hB'.size, fun k o hk ho _ => (hB'.block k (Array.getElem?_eq_some_iff.1 ho).1 (by omega)).trans ho⟩, ⟨hB'.block qb hqV (by omega), hB'.block (qb + 1) hqV1 (by omega)⟩, ?_, ⟨hB'.os.trans hB.os, hB'.tape.trans hB.tape, hB'.output.trans hB.output, Nat.le_trans hB.size hB'.size, fun i hi hig => (hB'.block i (Nat.lt_of_lt_of_le hi hB.size) hig).trans (hB.block i hi hig)⟩⟩
      rw [List.map_append]
      show Arr w' gh 193 (hL l (_ ++ [x.val]))
      rw [hL_snoc]
      exact hA'
     case done =>
      rintro D ys W hD hys ⟨hA, hB⟩ hK
      have hpl : ys.length = K := by have := congrArg List.length hys; simpa using this
      rw [hys, hL_range] at hA
      have hg := hA
      unfold Arr at hg
      have hz1 : (Tryz.prog.info? 193).map (·.size) = some (cellsOf (hS l K)).size := by rw [size71, cellsOf_size, hS_length]
      dsimp only [Exit.inBlock, Exit.then]
      go_upto_region 12 with (fail)
      refine wp_region_list ?_
      refine wpList_load_row rfl 193 (.tmp 3) rfl gh rfl 193 (cellsOf (hS l K)) (0, 0) _ hg Tryz.underlying193 rfl hz1 ?_
      go_step
      go_wp2_with (go_at_call 130; refine (digest_calls _ (hS_length _ _) _).mono ?_; rintro e w' ⟨rfl, hB'⟩)
      have hK' : w'.heap[D]? = some (.deferred (some [])) := (hB'.block D (Array.getElem?_eq_some_iff.1 hK).1).trans hK
      refine ⟨by simp, .inl ⟨_, _, rfl, run_takeDeferred hK', ?_⟩⟩
      refine ⟨.string (digW (hS l K)), by simp [results, Tryz.results110, go_sem], ?_, ?_⟩
      ·have hdiv : l.length / 64 = K := by omega
       unfold sumF
       rw [hl, hdiv]
      ·rw [hgh]
       have hlt : w.heap.size ≤ W0.heap.size := by omega
       have t1 : Below gh w W := ⟨hB.os.trans belw.os, hB.tape.trans belw.tape, hB.output.trans belw.output, Nat.le_trans belw.size hB.size, fun i hi => (hB.block i (by omega) (by omega)).trans (belw.block i hi)⟩
       have t2 : Below gh w w' := t1.trans (hB'.mono (by have := hA.lt; omega))
       exact t2.trans (belowK_b (w := W0) (by omega) w' D _ _ hD hK' rfl rfl)
     case stop =>
      rintro D c pre W _ _ h _
      exact h.elim
end Go.Proofs.YtniegajdmbepbaaGreatDoor.Sha
