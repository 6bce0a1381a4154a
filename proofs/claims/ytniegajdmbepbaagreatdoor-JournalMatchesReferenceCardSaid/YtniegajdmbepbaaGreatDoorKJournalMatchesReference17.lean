/- (*words).add's walk. (words).digest's walk. A row of bytes that a conversion of a string began (its mark lies behind its last cell), and append on it. No condition. -/
import Derived.Test.YtniegajdmbepbaaGreatDoorKJournalMatchesReference16
import Derived.Laws.CopyOwn
import Derived.Laws.BytesArg
import Derived.Laws.IdiomStrings
import Derived.Laws.AppendOwn
set_option linter.unusedSimpArgs false
set_option linter.unusedVariables false
namespace Go.Proofs.YtniegajdmbepbaaGreatDoor.Sha
open Go Go.RowKit Go.Proofs.YtniegajdmbepbaaGreatDoorW.PrintWords Go.Proofs.YtniegajdmbepbaaGreatDoorW.PrintLast Go.Proofs.YtniegajdmbepbaaGreatDoorW.PrintMore
attribute [local go_sem] bits_xor bits_and bits_or bits_not bits_not' wrap_u wrap_add
structure But (q : Nat) (w W : World) : Prop where
 os : W.os = w.os
 tape : W.tape = w.tape
 output : W.output = w.output
 size : W.heap.size = w.heap.size
 block : ∀ i, i ≠ q → W.heap[i]? = w.heap[i]?
theorem But.refl (q : Nat) (w : World) : But q w w := ⟨rfl, rfl, rfl, rfl, fun _ _ => rfl⟩
theorem But.trans {q : Nat} {a b c : World} (h : But q a b) (k : But q b c) : But q a c := ⟨k.os.trans h.os, k.tape.trans h.tape, k.output.trans h.output, k.size.trans h.size, fun i hi => (k.block i hi).trans (h.block i hi)⟩
theorem But.below {q B : Nat} {v w W : World} (h : But q w W) (hb : Below B v w) (hq : B ≤ q) : Below B v W :=
 ⟨h.os.trans hb.os, h.tape.trans hb.tape, h.output.trans hb.output, by rw [h.size]; exact hb.size, fun i hi => (h.block i (by omega)).trans (hb.block i hi)⟩
theorem Arr.set_but {w : World} {q : Nat} {e : TypeId} {L : List B} (h : Arr w q e L) (j : Nat) (x : Value) : But q w (w.setCell ⟨q, j, none⟩ x) := by
 unfold Arr at h
 rw [setCell_eq_setRow w q j _ _ _ _ h]
 exact ⟨rfl, rfl, rfl, by simp, fun i hi => setRow_other w q i _ hi⟩
theorem Arr.setCells_all {q : Nat} {e : TypeId} : ∀ (M : List B) (o : Nat) (w : World) (L : List B), Arr w q e L → o + M.length ≤ L.length →
  Arr (w.setCells q o (M.map fun x => Value.int .u32 (u x))) q e (L.take o ++ M ++ L.drop (o + M.length)) ∧ But q w (w.setCells q o (M.map fun x => Value.int .u32 (u x)))
 | [], o, w, L, h, _ => ⟨by
   show Arr w q e _
   simpa using h, But.refl q w⟩
 | x :: M, o, w, L, h, hl => by
  have h1 := h.set o x
  have hl' : o + 1 + M.length ≤ (L.set o x).length := by simp at hl ⊢; omega
  obtain ⟨k1, k2⟩ := Arr.setCells_all M (o + 1) _ _ h1 hl'
  refine ⟨?_, (h.set_but o _).trans k2⟩
  have e : (L.set o x).take (o + 1) ++ M ++ (L.set o x).drop (o + 1 + M.length) = L.take o ++ (x :: M) ++ L.drop (o + (x :: M).length) := by
   have ho : o < L.length := by simp at hl; omega
   rw [List.drop_set_of_lt (by omega), List.take_set, List.take_add_one, List.getElem?_eq_getElem ho]
   simp only [Option.toList_some, List.length_cons]
   rw [List.set_append_right _ _ (by simp; omega)]
   simp [show min o L.length = o by omega, Nat.add_comm, Nat.add_left_comm, Nat.add_assoc]
  rw [← e]
  exact k1
theorem Arr.store_all {w : World} {q : Nat} {e : TypeId} {L : List B} (h : Arr w q e L) (M : List B) (hl : M.length = L.length) : Arr (w.setCells q 0 (cellsOf M).toList) q e M ∧ But q w (w.setCells q 0 (cellsOf M).toList) := by
 have := Arr.setCells_all M 0 w L h (by omega)
 simp only [List.take_zero, List.nil_append, Nat.zero_add, hl, List.drop_length, List.append_nil] at this
 simpa [cellsOf] using this
def rk : List B := [1116352408, 1899447441, 3049323471, 3921009573, 961987163, 1508970993, 2453635748, 2870763221, 3624381080, 310598401, 607225278, 1426881987, 1925078388, 2162078206, 2614888103, 3248222580, 3835390401, 4022224774, 264347078, 604807628, 770255983, 1249150122, 1555081692, 1996064986, 2554220882, 2821834349, 2952996808, 3210313671, 3336571891, 3584528711, 113926993, 338241895, 666307205, 773529912, 1294757372, 1396182291, 1695183700, 1986661051, 2177026350, 2456956037, 2730485921, 2820302411, 3259730800, 3345764771, 3516065817, 3600352804, 4094571909, 275423344, 430227734, 506948616, 659060556, 883997877, 958139571, 1322822218, 1537002063, 1747873779, 1955562222, 2024104815, 2227730452, 2361852424, 2428436474, 2756734187, 3204031479, 3329325298].map (BitVec.ofNat 32)
def Amb (w : World) : Prop := ∃ t fr, w.heap[3]? = some (.cells (cellsOf rk) t fr)
theorem Amb.below_block {w W : World} (h : Amb w) (hb : Below w.heap.size w W) : Amb W := by
 obtain ⟨t, fr, h⟩ := h
 exact ⟨t, fr, (hb.block _ (Array.getElem?_eq_some_iff.1 h).1).trans h⟩
def rnd (V : List B) (k wi : B) : List B :=
 match V with
 | [a0, a1, a2, a3, a4, a5, a6, a7] => [tt a4 k a5 a6 a7 wi + uu a0 a1 a2, a0, a1, a2, a3 + tt a4 k a5 a6 a7 wi, a4, a5, a6]
 | _ => V
def vst (H L : List B) : Nat → List B
 | 0 => H
 | m + 1 => rnd (vst H L m) (rk.getD m 0) (L.getD m 0)
theorem eight (V : List B) (h : V.length = 8) : ∃ a0 a1 a2 a3 a4 a5 a6 a7, V = [a0, a1, a2, a3, a4, a5, a6, a7] := by
 match V, h with
 | [a0, a1, a2, a3, a4, a5, a6, a7], _ => exact ⟨a0, a1, a2, a3, a4, a5, a6, a7, rfl⟩
theorem rnd_length (V : List B) (k wi : B) (h : V.length = 8) : (rnd V k wi).length = 8 := by
 obtain ⟨a0, a1, a2, a3, a4, a5, a6, a7, rfl⟩ := eight V h
 rfl
theorem vst_length (H L : List B) (h : H.length = 8) : ∀ m, (vst H L m).length = 8
 | 0 => h
 | m + 1 => rnd_length _ _ _ (vst_length H L h m)
theorem info69 : (Tryz.prog.info? 109).map (fun i => (i.zero, i.size, i.bytes)) = some (some (.int .u32 0), 1, 4) := by kernel_rfl
theorem idx_rk (m : Nat) (k : B) (hk : rk[m]? = some k) (hm : m < 64) (w : World) : (Instr.index 214 (.agg (cellsOf rk)) (.int .i64 (m : Int))).run Tryz.prog w = .ok (.int .u32 (u k)) w := by
 have hck : (cellsOf rk)[m]? = some (.int .u32 (u k)) := by unfold cellsOf; simp [hk]
 obtain ⟨i0, hi, hz0, hz1, hz2⟩ := info_parts info69
 simp [Instr.index, run_underlying Tryz.underlying214, asIntOf, go_sem, hm, part, isAgg, sizeOf, typeInfo, hi, hz1, run_underlying Tryz.underlying109, hck]
theorem size69 : (Tryz.prog.info? 109).map (·.size) = some 1 := by kernel_rfl
theorem copy_src (W : World) (qv : Nat) (a0 a1 a2 a3 a4 a5 a6 a7 : B) (h : Arr W qv 193 [a0, a1, a2, a3, a4, a5, a6, a7]) : ∀ j v, ([a0, a1, a2, a3, a4, a5, a6].map fun x => Value.int .u32 (u x))[j]? = some v → W.drew.cell? ((⟨qv, 0, none⟩ : Addr).add j) = some v := by
 intro j v hv
 have ha : (⟨qv, 0, none⟩ : Addr).add j = ⟨qv, j, none⟩ := by unfold Addr.add; split <;> simp_all
 rw [ha]
 rw [List.getElem?_map] at hv
 obtain ⟨x, hx, rfl⟩ := Option.map_eq_some_iff.1 hv
 refine (h.block (W := W.drew) rfl).cell j x ?_
 have hj : j < 7 := (List.getElem?_eq_some_iff.1 hx).1
 rw [← hx, show [a0, a1, a2, a3, a4, a5, a6, a7] = [a0, a1, a2, a3, a4, a5, a6] ++ [a7] from rfl, List.getElem?_append_left hj]
theorem SA.set {v W : World} {qv qw : Nat} {Lv Lw : List B} (h : SA v qv qw Lv Lw W) (hne : qw ≠ qv) (hqv : v.heap.size ≤ qv) (j : Nat) (x : B) : SA v qv qw (Lv.set j x) Lw (W.setCell ⟨qv, j, none⟩ (.int .u32 (u x))) := by
 have N := h.1.set_but j (.int .u32 (u x))
 exact ⟨h.1.set j x, h.2.1.block (N.block qw hne), N.below h.2.2.1 hqv, by rw [N.size]; exact h.2.2.2⟩
structure BelowBut (g : Nat) (w W : World) : Prop where
 os : W.os = w.os
 tape : W.tape = w.tape
 output : W.output = w.output
 size : w.heap.size ≤ W.heap.size
 block : ∀ i, i < w.heap.size → i ≠ g → W.heap[i]? = w.heap[i]?
def SH (v : World) (gh qv : Nat) (L V : List B) (W : World) : Prop := Arr W gh 193 L ∧ Arr W qv 193 V ∧ BelowBut gh v W
theorem SH.set {v W : World} {gh qv : Nat} {L V : List B} (h : SH v gh qv L V W) (hne : gh ≠ qv) (j : Nat) (x : B) : SH v gh qv (L.set j x) V (W.setCell ⟨gh, j, none⟩ (.int .u32 (u x))) := by
 have N := h.1.set_but j (.int .u32 (u x))
 obtain ⟨h1, h2, h3⟩ := h
 exact ⟨h1.set j x, h2.block (N.block qv (Ne.symm hne)), ⟨N.os.trans h3.os, N.tape.trans h3.tape, N.output.trans h3.output, by rw [N.size]; exact h3.size, fun i hi hg => (N.block i hg).trans (h3.block i hi hg)⟩⟩
theorem SH.drew {v W : World} {gh qv : Nat} {L V : List B} (h : SH v gh qv L V W) : SH v gh qv L V W.drew := ⟨h.1, h.2.1, ⟨h.2.2.os, h.2.2.tape, h.2.2.output, h.2.2.size, h.2.2.block⟩⟩
def hst (H V : List B) : Nat → List B
 | 0 => H
 | m + 1 => (hst H V m).set m ((hst H V m).getD m 0 + V.getD m 0)
theorem hst_length (H V : List B) : ∀ m, (hst H V m).length = H.length
 | 0 => rfl
 | m + 1 => by simp [hst, hst_length H V m]
theorem size71 : (Tryz.prog.info? 193).map (·.size) = some 8 := by kernel_rfl
set_option maxHeartbeats 2000000 in
set_option maxRecDepth 100000 in
theorem add_calls (gh g o c : Nat) (H : List B) (hH : H.length = 8) (l : List (BitVec 8)) (hl : l.length = 64) (w : World) (hA : Arr w gh 193 H) (hb : Bytes w g o l) (hgl : g < w.heap.size) (hc : 64 ≤ c) (hr : Amb w) :
  Calls Tryz.prog 129 #[.pointer (some ⟨gh, 0, none⟩), .slice (some ⟨g, o, none⟩) 64 c] w fun e w' => e = .returned (.tuple #[]) ∧ Arr w' gh 193 (hst H (vst H (st2 l 48) 64) 8) ∧ BelowBut gh w w' := by
 go_enter Tryz.func129, Tryz.ntmps129
 go_wp2_with fail
 refine (schedule_calls g o c l hl w hb hgl hc).mono ?_
 rintro e w1 ⟨rfl, b1⟩
 dsimp only
 rename_i hK
 refine hK _ _ ?_
 clear hK
 go_step
 go_simp
 rename_i hK
 refine hK _ _ ?_
 clear hK
 have A0 : Arr (w1.alloc (Obj.cells (List.replicate 64 (Value.int IntKind.u32 0)).toArray 214)) w1.heap.size 214 (List.replicate 64 0) := heap_alloc_new ..
 have B0 : Below w.heap.size w (w1.alloc (Obj.cells (List.replicate 64 (Value.int IntKind.u32 0)).toArray 214)) := below_alloc b1 _
 change wpList _ _ _ _ _ (w1.alloc (Obj.cells (List.replicate 64 (Value.int IntKind.u32 0)).toArray 214))
 generalize w1.alloc (Obj.cells (List.replicate 64 (Value.int IntKind.u32 0)).toArray 214) = w2 at A0 B0 ⊢
 have hqw : w.heap.size ≤ w1.heap.size := b1.size
 generalize w1.heap.size = qw at A0 hqw ⊢
 clear b1
 have hz : (Tryz.prog.info? 214).map (·.size) = some (cellsOf (st2 l 48)).size := by rw [size88, cellsOf_size, st2_length]
 refine wpList_store_mid rfl 214 (.tmp 4) (.tmp 14) rfl qw 0 (cellsOf (st2 l 48)) rfl rfl (by rw [cellsOf_size, st2_length]; have := A0.there; simpa using this) hz (cellsOf_one _) ?_
 obtain ⟨A1, N1⟩ := A0.store_all (st2 l 48) (by rw [st2_length]; simp)
 have B1 := N1.below B0 hqw
 generalize w2.setCells qw 0 (cellsOf (st2 l 48)).toList = w3 at A1 B1 ⊢
 clear A0 B0 N1
 go_upto_region 1 with (fail)
 have A2 : Arr w3 gh 193 H := hA.block (B1.block gh hA.lt)
 have hg := A2
 unfold Arr at hg
 have hz1 : (Tryz.prog.info? 193).map (·.size) = some (cellsOf H).size := by rw [size71, cellsOf_size, hH]
 refine wp_region_list ?_
 go_step
 go_simp
 rename_i hK
 refine hK _ _ ?_
 clear hK
 go_step
 go_simp
 rename_i hK
 refine hK _ _ ?_
 clear hK
 refine wpList_load_row rfl 193 (.tmp 16) rfl gh rfl 193 (cellsOf H) (0, 0) _ hg Tryz.underlying193 rfl hz1 ?_
 go_step
 go_simp
 rename_i hK
 refine hK _ _ ?_
 clear hK
 have A3 : Arr (w3.alloc (Obj.cells (List.replicate 8 (Value.int IntKind.u32 0)).toArray 193)) w3.heap.size 193 (List.replicate 8 0) := heap_alloc_new ..
 have B3 : Below w.heap.size w (w3.alloc (Obj.cells (List.replicate 8 (Value.int IntKind.u32 0)).toArray 193)) := below_alloc B1 _
 have A4 : Arr (w3.alloc (Obj.cells (List.replicate 8 (Value.int IntKind.u32 0)).toArray 193)) qw 214 (st2 l 48) := A1.block ((below_alloc (Below.refl w3.heap.size w3) _).block qw A1.lt)
 change wpList _ _ _ _ _ (w3.alloc (Obj.cells (List.replicate 8 (Value.int IntKind.u32 0)).toArray 193))
 generalize w3.alloc (Obj.cells (List.replicate 8 (Value.int IntKind.u32 0)).toArray 193) = w4 at A3 A4 B3 ⊢
 have hne : qw ≠ w3.heap.size := Nat.ne_of_lt A1.lt
 have hqv : w.heap.size ≤ w3.heap.size := B1.size
 generalize w3.heap.size = qv at A3 hne hqv ⊢
 clear A1 B1 hg A2
 refine wpList_store_mid rfl 193 (.tmp 5) (.tmp 17) rfl qv 0 (cellsOf H) rfl rfl (by rw [cellsOf_size, hH]; have := A3.there; simpa using this) hz1 (cellsOf_one _) ?_
 obtain ⟨A5, N5⟩ := A3.store_all H (by rw [hH]; simp)
 have B5 := N5.below B3 hqv
 have A6 := A4.block (N5.block qw hne)
 generalize w4.setCells qv 0 (cellsOf H).toList = w5 at A5 B5 A6 ⊢
 clear A3 A4 B3 N5
 go_upto_region 2 with (fail)
 have hgr := hr.below_block B5
 obtain ⟨tr, fr, hgr⟩ := hgr
 refine wp_region_list ?_
 refine wpList_load_row rfl 214 (.global 3) rfl 3 rfl tr (cellsOf rk) fr _ hgr Tryz.underlying214 rfl (by rw [size88]; rfl) ?_
 go_step
 go_simp
 rename_i hK
 refine hK _ _ ?_
 clear hK
 go_wp2_with fail
 have S0 : SA w qv qw H (st2 l 48) w5 := ⟨A5, A6, B5, B5.size⟩
 clear A5 A6 B5 hgr hb hgl
 go_loopw [19] (fun i w' => ∃ m : Nat, i = .int .i64 m ∧ m ≤ 64 ∧ SA w qv qw (vst H (st2 l 48) m) (st2 l 48) w') (fun i _ => 64 - (intOf i).toNat)
 case atStart => exact ⟨0, rfl, by omega, S0⟩
 case round =>
  clear S0
  obtain ⟨m, rfl, hm, S⟩ := hrel
  by_cases h1 : m < 64
  ·have e1 : decide ((m : Int) < 64) = true := decide_eq_true (by omega)
   have ym : IntKind.i64.wrap (m : Int) = (m : Int) := by rw [IntKind.wrap_i64]; omega
   have xm : ((m : Int) < 64) = True := eq_true (by omega)
   obtain ⟨k, hk⟩ : ∃ k, rk[m]? = some k := ⟨_, List.getElem?_eq_getElem (by show m < 64; exact h1)⟩
   have hck : (cellsOf rk)[m]? = some (.int .u32 (u k)) := by unfold cellsOf; simp [hk]
   obtain ⟨wi, hwi⟩ : ∃ x, (st2 l 48)[m]? = some x := ⟨_, List.getElem?_eq_getElem (by rw [st2_length]; exact h1)⟩
   obtain ⟨V, hV⟩ : ∃ V, vst H (st2 l 48) m = V := ⟨_, rfl⟩
   have hVl : V.length = 8 := by rw [← hV]; exact vst_length H _ hH m
   rw [hV] at S
   obtain ⟨a0, a1, a2, a3, a4, a5, a6, a7, rfl⟩ := eight V hVl
   have hidx := idx_rk m k hk h1
   have c0 := S.1.cell 0 a0 rfl
   have c4 := S.1.cell 4 a4 rfl
   go_upto_region 5 with (fail)
   go_quiet (fail)
   go_upto_region 6 with (fail)
   refine norm_wp ?_
   refine add_r6 _ w (wr.drewN nq) _ _ _ _ _ _ _ _ _ _ _ _ _ _ _ _ _ _ _ _ _ _ _ _ _ _ _ _ _ _ _ _ _ _ _ _ _ _ _ _ _ _ _ _ _ _ _ _ _ _ _ _ _ _ _ _ _ _ _ _ _ _ _ _ _ _ _ _ _ _ _ _ _ _ _ _ _ _ _ _ _ _ _ _ _ _ _ _ _ _ _ _ qv qw m a4 k a5 a6 a7 wi [a0, a1, a2, a3, a4, a5, a6, a7] (st2 l 48) rfl rfl rfl hwi h1 rfl (st2_length l 48) ym xm (keepSA S (pw_below_drewN (Below.refl _ wr) nq)) ?_
   intro z27 z28 z29 z30 z31 z32 z33 z34 z35 z36 z37 z38 z39 z40 z41 z42 z43 z44 z45 z46 z47 z48 z49 W2 S2
   clear S c0 c4 hidx hck
   go_upto_region 7 with (fail)
   refine norm_wp ?_
   refine add_r7 _ w W2 _ _ _ _ _ _ _ _ _ _ _ _ _ _ _ _ _ _ _ _ _ _ _ _ _ _ _ _ _ _ _ _ _ _ _ _ _ _ _ _ _ _ _ _ _ _ _ _ _ _ _ _ _ _ _ _ _ _ _ _ _ _ _ _ _ _ _ _ _ _ _ _ _ _ _ _ _ _ _ _ _ _ _ _ _ _ _ _ _ _ _ _ _ _ _ qv qw m a0 a1 a2 [a0, a1, a2, a3, a4, a5, a6, a7] (st2 l 48) rfl rfl h1 rfl (st2_length l 48) ym xm S2 ?_
   intro y50 y51 y52 y53 y54 y55 y56 y57 y58 y59 y60 y61 y62 y63 y64 y65 y66 y67 y68 W3 S3
   clear S2
   go_upto_region 8 with (fail)
   go_still_tail 2, (by kernel_rfl)
   change wpList _ _ _ _ _ W3.drew
   have g3 : W3.drew.heap[qv]? = some (.cells ([a0, a1, a2, a3, a4, a5, a6, a7].map fun x => Value.int .u32 (u x)).toArray 193 (0, 0)) := S3.1
   have hone : ∀ v ∈ ([a0, a1, a2, a3, a4, a5, a6].map fun x => Value.int .u32 (u x)), v.oneCell' = true := by
    intro v hv
    obtain ⟨x, _, rfl⟩ := List.mem_map.1 hv
    rfl
   refine wpList_copy_own rfl (.tmp 69) (.tmp 70) 110 110 rfl 109 Tryz.underlying110 size69 qv 1 7 7 ⟨qv, 0, none⟩ 7 8 rfl rfl _ 193 g3 ([a0, a1, a2, a3, a4, a5, a6].map fun x => Value.int .u32 (u x)) rfl (copy_src W3 qv a0 a1 a2 a3 a4 a5 a6 a7 S3.1) (by simp) hone ?_
   have S4 : SA w qv qw [a0, a0, a1, a2, a3, a4, a5, a6] (st2 l 48) (W3.drew.setRow qv ([a0, a0, a1, a2, a3, a4, a5, a6].map fun x => Value.int .u32 (u x)).toArray) :=
    ⟨setRow_heap W3.drew qv _ _ _ _ g3, (S3.2.1.block (W := W3.drew) rfl).block (setRow_other W3.drew qv qw _ hne), below_setRow (below_drew1 S3.2.2.1) hqv _, by have := S3.2.2.2; simpa [World.setRow] using this⟩
   change wpList _ _ _ _ _ (W3.drew.setRow qv ([a0, a0, a1, a2, a3, a4, a5, a6].map fun x => Value.int .u32 (u x)).toArray)
   generalize W3.drew.setRow qv ([a0, a0, a1, a2, a3, a4, a5, a6].map fun x => Value.int .u32 (u x)).toArray = W4 at S4 ⊢
   clear g3 hone S3
   have c0 := S4.1.cell 0 a0 rfl
   have c4 := S4.1.cell 4 a3 rfl
   have f0 := S4.1.notFrozen 0
   have f4 := S4.1.notFrozen 4
   go_upto_region 9 with (fail)
   go_wp2_with fail
   refine ⟨⟨m + 1, by go_num, by omega, ?_⟩, by simp [intOf]; omega⟩
   have ek : rk.getD m 0 = k := by rw [List.getD_eq_getElem?_getD, hk]; rfl
   have ew : (st2 l 48).getD m 0 = wi := by rw [List.getD_eq_getElem?_getD, hwi]; rfl
   rw [show vst H (st2 l 48) (m + 1) = rnd (vst H (st2 l 48) m) (rk.getD m 0) ((st2 l 48).getD m 0) from rfl, hV, ek, ew]
   exact (S4.set hne hqv 0 _).set hne hqv 4 _
  ·have em : m = 64 := by omega
   subst em
   have e1 : decide (((64 : Nat) : Int) < 64) = false := by decide
   go_upto_region 12 with (fail)
   obtain ⟨V, hV⟩ : ∃ V, vst H (st2 l 48) 64 = V := ⟨_, rfl⟩
   have hVl : V.length = 8 := by rw [← hV]; exact vst_length H _ hH 64
   rw [hV] at S
   have S0 : SH w gh qv H V wr := ⟨hA.block (S.2.2.1.block gh hA.lt), S.1, ⟨S.2.2.1.os, S.2.2.1.tape, S.2.2.1.output, S.2.2.1.size, fun i hi _ => S.2.2.1.block i hi⟩⟩
   have hgv : gh ≠ qv := by have := hA.lt; omega
   clear S
   go_loopw [82] (fun i w' => ∃ m : Nat, i = .int .i64 m ∧ m ≤ 8 ∧ SH w gh qv (hst H V m) V w') (fun i _ => 8 - (intOf i).toNat)
   case atStart => exact ⟨0, rfl, by omega, S0⟩
   case round =>
    clear S0
    obtain ⟨m, rfl, hm, S⟩ := hrel
    by_cases h1 : m < 8
    ·have e1 : decide ((m : Int) < 8) = true := decide_eq_true (by omega)
     have ym : IntKind.i64.wrap (m : Int) = (m : Int) := by rw [IntKind.wrap_i64]; omega
     have xm : ((m : Int) < 8) = True := eq_true (by omega)
     have xm2 : (m < 8) = True := eq_true h1
     obtain ⟨a, ha⟩ : ∃ a, (hst H V m).getD m 0 = a := ⟨_, rfl⟩
     obtain ⟨b, hb⟩ : ∃ b, V.getD m 0 = b := ⟨_, rfl⟩
     have ca := (S.1.block (W := wr.drew) rfl).cellD m (by rw [hst_length, hH]; exact h1)
     have cb := (S.2.1.block (W := wr.drew) rfl).cellD m (by rw [hVl]; exact h1)
     rw [ha] at ca
     rw [hb] at cb
     have fa := (S.1.block (W := wr.drew) rfl).notFrozen m
     go_upto_region 14 with (fail)
     go_still_tail 11, (by kernel_rfl)
     change wpList _ _ _ _ _ wr.drew
     go_wp2_with fail
     refine ⟨⟨_, _, _, _, _, _, _, _, _, _, _, _, _, _, _, _, ⟨m + 1, by go_num, by omega, ?_⟩, rfl⟩, by simp [intOf]; omega⟩
     show SH w gh qv ((hst H V m).set m ((hst H V m).getD m 0 + V.getD m 0)) V _
     rw [ha, hb]
     exact (S.set hgv m _).drew
    ·have em : m = 8 := by omega
     subst em
     have e1 : decide (((8 : Nat) : Int) < 8) = false := by decide
     go_wp2_with fail
     go_end0
     exact ⟨rfl, by rw [hV]; exact S.1, S.2.2⟩
open Go Go.RowKit Go.Proofs.YtniegajdmbepbaaGreatDoorW.PrintWords Go.Proofs.YtniegajdmbepbaaGreatDoorW.PrintLast Go.Proofs.YtniegajdmbepbaaGreatDoorW.PrintMore
theorem shr24 (x : B) : u x / (16777216 : Int) = u (x >>> 24) := shr_div x 24
theorem shr16 (x : B) : u x / (65536 : Int) = u (x >>> 16) := shr_div x 16
theorem shr8 (x : B) : u x / (256 : Int) = u (x >>> 8) := shr_div x 8
theorem shr0 (x : B) : u x / (1 : Int) = u (x >>> 0) := shr_div x 0
def low (x : B) : BitVec 8 := x.setWidth 8
theorem wrap_low (x : B) : IntKind.u8.wrap (u x) = ub (low x) := by
 unfold u ub low
 rw [BitVec.toNat_setWidth]
 simp [IntKind.wrap, IntKind.signed, IntKind.bits]
attribute [local go_sem] bits_xor bits_and bits_or bits_not bits_not' wrap_u wrap_add shr24 shr16 shr8 shr0 wrap_low
def Ar8 (w : World) (g : Nat) (e : TypeId) (l : List (BitVec 8)) : Prop := w.heap[g]? = some (.cells (l.map fun x => Value.int .u8 (ub x)).toArray e (0, 0))
theorem Ar8.block {w W : World} {g : Nat} {e : TypeId} {l : List (BitVec 8)} (h : Ar8 w g e l) (k : W.heap[g]? = w.heap[g]?) : Ar8 W g e l := k.trans h
theorem Ar8.lt {w : World} {g : Nat} {e : TypeId} {l : List (BitVec 8)} (h : Ar8 w g e l) : g < w.heap.size := (Array.getElem?_eq_some_iff.1 h).1
theorem Ar8.cellD {w : World} {g : Nat} {e : TypeId} {l : List (BitVec 8)} (h : Ar8 w g e l) (j : Nat) (hj : j < l.length) : w.cell? ⟨g, j, none⟩ = some (.int .u8 (ub (l.getD j 0))) := by
 unfold Ar8 at h
 simp only [World.cell?, h]
 simp [List.getElem?_eq_getElem hj, List.getD_eq_getElem?_getD]
theorem Ar8.notFrozen {w : World} {g : Nat} {e : TypeId} {l : List (BitVec 8)} (h : Ar8 w g e l) (j : Nat) : w.frozen? ⟨g, j, none⟩ = false := by
 unfold Ar8 at h
 simp only [World.frozen?, h, Bool.and_eq_false_iff, decide_eq_false_iff_not]
 right
 omega
theorem Ar8.set {w : World} {g : Nat} {e : TypeId} {l : List (BitVec 8)} (h : Ar8 w g e l) (j : Nat) (x : BitVec 8) : Ar8 (w.setCell ⟨g, j, none⟩ (.int .u8 (ub x))) g e (l.set j x) := by
 have h' := h
 unfold Ar8 at h'
 rw [setCell_eq_setRow w g j _ _ _ _ h']
 unfold Ar8
 rw [setRow_heap w g _ _ _ (0, 0) h']
 congr 2
 apply Array.toList_inj.1
 simp [Array.toList_setIfInBounds, List.map_set]
theorem Ar8.set_below {v w : World} {g : Nat} {e : TypeId} {l : List (BitVec 8)} (h : Ar8 w g e l) (j : Nat) (x : Value) (hb : Below v.heap.size v w) (hg : v.heap.size ≤ g) : Below v.heap.size v (w.setCell ⟨g, j, none⟩ x) := by
 unfold Ar8 at h
 rw [setCell_eq_setRow w g j _ _ _ _ h]
 exact ⟨hb.os, hb.tape, hb.output, by have := hb.size; simpa using this, fun i hi => (setRow_other w g i _ (by omega)).trans (hb.block i hi)⟩
def byteAt (H : List B) (j : Nat) : BitVec 8 := low ((H.getD (j / 4) 0) >>> (24 - 8 * (j % 4)))
def dst (H : List B) : Nat → List (BitVec 8)
 | 0 => List.replicate 32 0
 | j + 1 => (dst H j).set j (byteAt H j)
theorem dst_length (H : List B) : ∀ j, (dst H j).length = 32
 | 0 => by simp [dst]
 | j + 1 => by simp [dst, dst_length H j]
def digW (H : List B) : ByteArray := strOfNums ((dst H 32).map ub)
theorem idx_words (H : List B) (hH : H.length = 8) (m : Nat) (x : B) (hx : H[m]? = some x) (w : World) : (Instr.index 193 (.agg (cellsOf H)) (.int .i64 (m : Int))).run Tryz.prog w = .ok (.int .u32 (u x)) w := by
 have hck : (cellsOf H)[m]? = some (.int .u32 (u x)) := by unfold cellsOf; simp [hx]
 have hm : m < 8 := by rw [← hH]; exact (List.getElem?_eq_some_iff.1 hx).1
 obtain ⟨i0, hi, hz0, hz1, hz2⟩ := info_parts info69
 simp [Instr.index, run_underlying Tryz.underlying193, asIntOf, go_sem, hm, part, isAgg, sizeOf, typeInfo, hi, hz1, run_underlying Tryz.underlying109, hck]
set_option maxHeartbeats 2000000 in
set_option maxRecDepth 100000 in
theorem digest_calls (H : List B) (hH : H.length = 8) (w : World) :
  Calls Tryz.prog 130 #[.agg (cellsOf H)] w fun e w' => e = .returned (.string (digW H)) ∧ Below w.heap.size w w' := by
 go_enter Tryz.func130, Tryz.ntmps130
 go_upto_region 2 with (fail)
 have A0 : Arr (w.alloc (Obj.cells (cellsOf H) 193)) w.heap.size 193 H := heap_alloc_new ..
 have B0 : Below w.heap.size w (w.alloc (Obj.cells (cellsOf H) 193)) := below_alloc (Below.refl _ _) _
 have hs0 : (w.alloc (Obj.cells (cellsOf H) 193)).heap.size = w.heap.size + 1 := by simp
 generalize w.alloc (Obj.cells (cellsOf H) 193) = w1 at A0 B0 hs0 ⊢
 change Code.wp _ _ _ _ (w1.alloc (Obj.cells (List.replicate 32 (Value.int IntKind.u8 0)).toArray 217))
 have A1 : Ar8 (w1.alloc (Obj.cells (List.replicate 32 (Value.int IntKind.u8 0)).toArray 217)) w1.heap.size 217 (List.replicate 32 0) := heap_alloc_new ..
 have B1 : Below w.heap.size w (w1.alloc (Obj.cells (List.replicate 32 (Value.int IntKind.u8 0)).toArray 217)) := below_alloc B0 _
 have A2 : Arr (w1.alloc (Obj.cells (List.replicate 32 (Value.int IntKind.u8 0)).toArray 217)) w.heap.size 193 H := A0.block ((below_alloc (Below.refl w1.heap.size w1) _).block _ A0.lt)
 generalize w1.alloc (Obj.cells (List.replicate 32 (Value.int IntKind.u8 0)).toArray 217) = w2 at A1 B1 A2 ⊢
 rw [hs0] at A1
 obtain ⟨q, hq⟩ : ∃ q, w.heap.size + 1 = q := ⟨_, rfl⟩
 rw [hq] at A1 ⊢
 have hqw : w.heap.size ≤ q := by omega
 have hg := A2
 unfold Arr at hg
 have hz1 : (Tryz.prog.info? 193).map (·.size) = some (cellsOf H).size := by rw [size71, cellsOf_size, hH]
 refine wp_region_list ?_
 refine wpList_load_row rfl 193 (.tmp 1) rfl w.heap.size rfl 193 (cellsOf H) (0, 0) _ hg Tryz.underlying193 rfl hz1 ?_
 go_step
 go_simp
 rename_i hK
 refine hK _ _ ?_
 clear hK A0 B0 hs0 A2 hg
 go_wp2_with fail
 go_loopw [8] (fun i w' => ∃ m : Nat, i = .int .i64 m ∧ m ≤ 8 ∧ Ar8 w' q 217 (dst H (4 * m)) ∧ Below w.heap.size w w') (fun i _ => 8 - (intOf i).toNat)
 case atStart => exact ⟨0, rfl, by omega, A1, B1⟩
 case round =>
  clear A1 B1
  obtain ⟨m, rfl, hm, A, Bw⟩ := hrel
  by_cases h1 : m < 8
  ·have e1 : decide ((m : Int) < 8) = true := decide_eq_true (by omega)
   obtain ⟨x, hx⟩ : ∃ x, H[m]? = some x := ⟨_, List.getElem?_eq_getElem (by omega)⟩
   have hidx := idx_words H hH m x hx
   obtain ⟨p, hp⟩ : ∃ p, 4 * m = p := ⟨_, rfl⟩
   have k4 : IntKind.i64.wrap (4 * (m : Int)) = (p : Int) := by rw [IntKind.wrap_i64]; omega
   rw [hp] at A
   go_upto_region 5 with (fail)
   go_wp2_with fail
   go_loopw [12] (fun i w' => ∃ k : Nat, i = .int .i64 k ∧ k ≤ 4 ∧ Ar8 w' q 217 (dst H (p + k)) ∧ Below w.heap.size w w') (fun i _ => 4 - (intOf i).toNat)
   case atStart => exact ⟨0, rfl, by omega, A, Bw⟩
   case round =>
    clear A Bw
    obtain ⟨k, rfl, hk, A, Bw⟩ := hrel
    obtain ⟨s, hs⟩ : ∃ s, p + k = s := ⟨_, rfl⟩
    rw [hs] at A
    have ks : IntKind.i64.wrap ((p : Int) + (k : Int)) = (s : Int) := by rw [IntKind.wrap_i64]; omega
    by_cases h2 : k < 4
    ·have e2 : decide ((k : Int) < 4) = true := decide_eq_true (by omega)
     have xs : ((s : Int) < 32) = True := eq_true (by omega)
     have ys : IntKind.i64.wrap (s : Int) = (s : Int) := by rw [IntKind.wrap_i64]; omega
     have zs : (s < 32) = True := eq_true (by omega)
     have nf : wr.frozen? ⟨q, s, none⟩ = false := A.notFrozen s
     have cm : wr.cell? ⟨q, s, none⟩ = some (.int .u8 (ub ((dst H s).getD s 0))) := A.cellD s (by rw [dst_length]; omega)
     have hw : byteAt H s = low (x >>> (24 - 8 * k)) := by
      unfold byteAt
      rw [show s / 4 = m by omega, show s % 4 = k by omega, List.getD_eq_getElem?_getD, hx]
      rfl
     have hk4 : k = 0 ∨ k = 1 ∨ k = 2 ∨ k = 3 := by omega
     have S1 : ∀ y, y = byteAt H s → Ar8 (wr.setCell ⟨q, s, none⟩ (.int .u8 (ub y))) q 217 (dst H (s + 1)) ∧ Below w.heap.size w (wr.setCell ⟨q, s, none⟩ (.int .u8 (ub y))) := by
      intro y hy
      subst hy
      exact ⟨A.set s _, A.set_below s _ Bw hqw⟩
     rcases hk4 with rfl | rfl | rfl | rfl
     ·have es : s = p := by omega
      subst es
      go_wp2_with fail
      obtain ⟨S2, S3⟩ := S1 _ hw.symm
      go_roundw
      case rel => exact ⟨1, rfl, by omega, S2, S3⟩
      case measure => simp [intOf]
     ·go_wp2_with fail
      obtain ⟨S2, S3⟩ := S1 _ hw.symm
      go_roundw
      case rel => exact ⟨2, rfl, by omega, by rw [show p + 2 = s + 1 by omega]; exact S2, S3⟩
      case measure => simp [intOf]
     ·go_wp2_with fail
      obtain ⟨S2, S3⟩ := S1 _ hw.symm
      go_roundw
      case rel => exact ⟨3, rfl, by omega, by rw [show p + 3 = s + 1 by omega]; exact S2, S3⟩
      case measure => simp [intOf]
     ·go_wp2_with fail
      obtain ⟨S2, S3⟩ := S1 _ hw.symm
      go_roundw
      case rel => exact ⟨4, rfl, by omega, by rw [show p + 4 = s + 1 by omega]; exact S2, S3⟩
      case measure => simp [intOf]
    ·have ek : k = 4 := by omega
     subst ek
     have e2 : decide (((4 : Nat) : Int) < 4) = false := by decide
     go_wp2_with fail
     refine ⟨⟨m + 1, by go_num, by omega, ?_, Bw⟩, by simp [intOf]; omega⟩
     rw [show 4 * (m + 1) = s by omega]
     exact A
  ·have em : m = 8 := by omega
   subst em
   have e1 : decide (((8 : Nat) : Int) < 8) = false := by decide
   have hcv : (convert 39 9 (.slice (some ⟨q, 0, none⟩) 32 32)).run Tryz.prog wr = .ok (.string (digW H)) wr := run_convert_bytes_arg wr 39 5 Tryz.underlying39 Tryz.underlying5 q 0 32 32 _ (by simp [dst_length]) (fun i hi => by
    rw [Nat.zero_add, A.cellD i (by rw [dst_length]; exact hi)]
    simp [List.getD_eq_getElem?_getD, List.getElem?_eq_getElem (show i < (dst H 32).length by rw [dst_length]; exact hi)]) 9 Tryz.underlying9
   go_wp2_with fail
   go_ret
   exact ⟨rfl, Bw⟩
open Go Go.RowKit
def OwnM (w : World) (base : Nat) (v : Value) (xs : List (BitVec 8)) : Prop :=
 ∃ g cap cur lo hi, v = .slice (some ⟨g, 0, none⟩) xs.length cap ∧ base ≤ g ∧ w.heap[g]? = some (.cells cur 5 (lo, hi)) ∧ (∀ j, j < cur.size → ¬(lo ≤ j ∧ j < hi)) ∧ xs.length ≤ cap ∧ cap ≤ maxLen ∧ cur.size = cap ∧
  cur.toList.take xs.length = xs.map fun x => Value.int .u8 (ub x)
theorem storeCells_M (P : Program) (g o : Nat) (t : TypeId) (lo hi : Nat) : ∀ (vs : List Value) (i : Nat) (cur : Array Value) (w : World), w.heap[g]? = some (.cells cur t (lo, hi)) → (∀ j, j < cur.size → ¬(lo ≤ j ∧ j < hi)) → o + i + vs.length ≤ cur.size → (∀ v ∈ vs, v.oneCell' = true) →
  (storeCells ⟨g, o, none⟩ vs i).run P w = .ok () (w.setRow g (cur.toList.take (o + i) ++ vs ++ cur.toList.drop (o + i + vs.length)).toArray)
 | [], i, cur, w, hg, _, _, _ => by
  simp only [storeCells, List.append_nil, List.length_nil, Nat.add_zero, List.take_append_drop, Array.toArray_toList]
  rw [setRow_self w g cur t (lo, hi) hg]
  rfl
 | v :: rest, i, cur, w, hg, hfz, hl, h1 => by
  have hi' : o + i < cur.size := by simp at hl; omega
  have hadd : (⟨g, o, none⟩ : Addr).add i = ⟨g, o + i, none⟩ := by unfold Addr.add; split <;> simp_all
  have hcell : w.cell? ⟨g, o + i, none⟩ = some cur[o + i] := by simp [World.cell?, hg, hi']
  have hfro : w.frozen? ⟨g, o + i, none⟩ = false := by
   have := hfz (o + i) hi'
   simp only [World.frozen?, hg, Bool.and_eq_false_iff, decide_eq_false_iff_not]
   omega
  have hst : (store ((⟨g, o, none⟩ : Addr).add i) v).run P w = .ok () (w.setRow g (cur.setIfInBounds (o + i) v)) := by
   rw [hadd, run_store P w _ v _ (h1 v (by simp)), hcell]
   simp [hfro, setCell_eq_setRow w g (o + i) cur t (lo, hi) v hg]
  have ih := storeCells_M P g o t lo hi rest (i + 1) (cur.setIfInBounds (o + i) v) (w.setRow g (cur.setIfInBounds (o + i) v)) (setRow_heap w g cur _ t _ hg) (by simpa using hfz) (by simp at hl ⊢; omega) (fun x hx => h1 x (by simp [hx]))
  simp only [storeCells, Sem.run_bind, hst, Result.andThen_ok, ih, setRow_setRow]
  congr 3
  have e := list_seg_step cur.toList (o + i) v rest (by simp at hl ⊢; omega)
  simpa [Array.toList_setIfInBounds, Nat.add_assoc] using e
theorem OwnM.kept {w w' : World} {base : Nat} {v : Value} {xs : List (BitVec 8)} {row : Option Nat} (h : OwnM w base v xs) (hg : w.grownBy w' row) (hne : ∀ r, row = some r → r < base) : OwnM w' base v xs := by
 obtain ⟨g, cap, cur, lo, hi, rfl, hb, hgg, rest⟩ := h
 refine ⟨g, cap, cur, lo, hi, rfl, hb, ?_, rest⟩
 rw [hg.block g (Array.getElem?_eq_some_iff.1 hgg).1 (fun e => by have := hne g e.symm; omega)]
 exact hgg
theorem OwnM.alloc {w : World} {base : Nat} {v : Value} {xs : List (BitVec 8)} (h : OwnM w base v xs) (o : Obj) : OwnM (w.alloc o) base v xs := h.kept (World.grownBy_alloc w o none) (fun r e => by cases e)
theorem OwnM.slice {w : World} {base : Nat} {v : Value} {xs : List (BitVec 8)} (h : OwnM w base v xs) : ∃ g cap, v = .slice (some ⟨g, 0, none⟩) xs.length cap := by
 obtain ⟨g, cap, cur, lo, hi, rfl, _⟩ := h
 exact ⟨g, cap, rfl⟩
theorem OwnM.cells {w : World} {base g cap : Nat} {n : Nat} {xs : List (BitVec 8)} (h : OwnM w base (.slice (some ⟨g, 0, none⟩) n cap) xs) : base ≤ g ∧ g < w.heap.size ∧ n = xs.length ∧ n ≤ cap ∧ cap ≤ maxLen ∧ Bytes w g 0 xs := by
 obtain ⟨g', cap', cur, lo, hi, e, hb, hg, hf, hn, hm, hc, ht⟩ := h
 injection e with e1 e2 e3
 injection e1 with e1
 injection e1 with e1
 subst e1 e2 e3
 refine ⟨hb, (Array.getElem?_eq_some_iff.1 hg).1, rfl, hn, hm, fun j b hj => ?_⟩
 rw [Nat.zero_add, cell_of_row w g j cur _ (lo, hi) hg]
 have hjl : j < xs.length := (List.getElem?_eq_some_iff.1 hj).1
 have h1 : (cur.toList.take xs.length)[j]? = some (.int .u8 (ub b)) := by rw [ht, List.getElem?_map, hj]; rfl
 rw [List.getElem?_take, if_pos hjl] at h1
 simpa using h1
def bits8 (s : ByteArray) : List (BitVec 8) := s.data.toList.map UInt8.toBitVec
theorem bits8_length (s : ByteArray) : (bits8 s).length = s.size := by unfold bits8; rw [List.length_map, Array.length_toList]; rfl
theorem OwnM_bytes (w : World) (base : Nat) (hb : base ≤ w.heap.size) (s : ByteArray) (hs : s.size ≤ maxLen) :
  OwnM (w.drew.alloc (.cells (bytesRow s (grownCap w s.size 0 5)) 5 ((bytesRow s (grownCap w s.size 0 5)).size, (bytesRow s (grownCap w s.size 0 5)).size + 1))) base (.slice (some ⟨w.heap.size, 0, none⟩) s.size (grownCap w s.size 0 5)) (bits8 s) := by
 have h1 := grownCap_ge w s.size 0 5
 have h2 := grownCap_le_maxLen w s.size 0 5 hs
 have h3 : s.data.size = s.size := rfl
 refine ⟨w.heap.size, _, _, _, _, by rw [bits8_length], hb, heap_alloc_new w.drew _, fun j hj => by omega, by rw [bits8_length]; exact h1, h2, ?_, ?_⟩
 ·simp [bytesRow] <;> omega
 ·rw [bits8_length, bytesRow, Array.toList_append, List.take_append_of_le_length (by simp <;> omega)]
  rw [List.take_of_length_le (by simp <;> omega)]
  simp [bits8, ub]
theorem wpList_append_M {P : Program} {ops : Array Oper} {rest : List Oper} {o : Oper} {a : Act} {Q : Exit → Act → World → Prop} (w : World) (hgd : o.guard = none) (s x : Operand) (t : TypeId)
  (ho : o.op = .call { callee := .builtin .append, args := #[s, x], argTypes := #[t, t] })
  (base : Nat) (i : TypeInfo) (ht : P.underlying t = some (.slice 5)) (hi : P.info? 5 = some i) (hz : i.zero = some (.int .u8 0))
  (hsize : i.size = 1) (hby : i.bytes = 1)
  (v : Value) (xs : List (BitVec 8)) (hs : a.eval s = v) (hown : OwnM w base v xs)
  (ad : Addr) (c : Nat) (b : BitVec 8) (hx : a.eval x = .slice (some ad) 1 c) (hb : w.cell? (ad.add 0) = some (.int .u8 (ub b)))
  (hl : xs.length + 1 ≤ 140737488355328) (hbase : base ≤ w.heap.size)
  (h : ∀ v' w', OwnM w' base v' (xs ++ [b]) → w.grownBy w' v.ownBlock → (∀ r, v.ownBlock = some r → base ≤ r) → wpList P ops Q rest (a.put o.dst v') w') : wpList P ops Q (o :: rest) a w := by
 have key : ∃ v' w', (Builtin.append_ #[t, t] o.type #[v, .slice (some ad) 1 c]).run P w = .ok v' w' ∧ OwnM w' base v' (xs ++ [b]) ∧ w.grownBy w' v.ownBlock ∧ (∀ r, v.ownBlock = some r → base ≤ r) := by
  have hnews : ∀ j u, [Value.int .u8 (ub b)][j]? = some u → w.cell? (ad.add j) = some u := by
   intro j u hu
   cases j with
   | zero => simp at hu; rw [← hu]; exact hb
   | succ j => simp at hu
  have hol := hown
  obtain ⟨g, cap, cur, lo, hi', rfl, hbg, hg, hfz, hnc, hcm, hcs, htake⟩ := hown
  by_cases hroom : xs.length + 1 ≤ cap
  ·have hf := run_firstCells_some (P := P) w i.size 1 ad 1 c [Value.int .u8 (ub b)] (by simp [hsize]) hnews
   have hst := storeCells_M P g xs.length 5 lo hi' [Value.int .u8 (ub b)] 0 cur w hg hfz (by simp; omega) (by simp [Value.oneCell'])
   simp only [Nat.add_zero] at hst
   have hr : (Builtin.append_ #[t, t] o.type #[.slice (some ⟨g, 0, none⟩) xs.length cap, .slice (some ad) 1 c]).run P w = .ok (.slice (some ⟨g, 0, none⟩) (xs.length + 1) cap) (w.setRow g (cur.toList.take xs.length ++ [Value.int .u8 (ub b)] ++ cur.toList.drop (xs.length + 1)).toArray) := by
    have hf' := hf
    rw [hsize] at hf'
    simp [Builtin.append_, run_underlying ht, sizeOf, typeInfo, hi, hsize, Builtin.lenOf, hroom, hf', Addr.add_lit]
    simp at hst
    rw [hst]
    rfl
   refine ⟨_, _, hr, ⟨g, cap, _, lo, hi', by simp, hbg, setRow_heap w g cur _ _ _ hg, ?_, by simpa using hroom, hcm, ?_, ?_⟩, ⟨rfl, rfl, rfl, by simp, fun k _ hk => setRow_other w g k _ (fun e => hk (by simp [Value.ownBlock, e]))⟩, fun r e => by simp [Value.ownBlock] at e; omega⟩
   ·intro j hj
    refine hfz j ?_
    simp at hj
    omega
   ·simp; omega
   ·rw [htake, List.take_append_of_le_length (by simp), List.take_of_length_le (by simp)]
    simp
  ·have holds : ∀ j u, (xs.map fun x => Value.int .u8 (ub x))[j]? = some u → w.cell? ((⟨g, 0, none⟩ : Addr).add j) = some u := by
    intro j u hu
    rw [List.getElem?_map] at hu
    obtain ⟨y, hy, rfl⟩ := Option.map_eq_some_iff.1 hu
    have := hol.cells.2.2.2.2.2 j y hy
    rw [Nat.zero_add] at this
    have hadd : (⟨g, 0, none⟩ : Addr).add j = ⟨g, j, none⟩ := by unfold Addr.add; split <;> simp_all
    rw [hadd]
    exact this
   have hr := run_append_grow (P := P) w t o.type 5 i (.int .u8 0) ht hi hz ⟨g, 0, none⟩ xs.length cap (xs.map fun x => Value.int .u8 (ub x)) (by simp [hsize]) holds ad 1 c [Value.int .u8 (ub b)] (by simp [hsize]) hnews (by omega) (by omega) (growslice_fits (by omega) (by rw [hby]; omega))
   have hge := grownCap_ge w (xs.length + 1) cap 5
   have hcm2 : grownCap w (xs.length + 1) cap 5 ≤ maxLen := grownCap_le_maxLen w (xs.length + 1) cap 5 (by unfold maxLen; omega)
   refine ⟨_, _, hr, ⟨w.heap.size, _, _, 0, 0, by simp, hbase, heap_alloc_new w.drew _, fun j _ => by omega, by simpa using hge, hcm2, ?_, ?_⟩, ⟨rfl, rfl, rfl, by simp, fun k hk _ => heap_alloc_old w.drew _ hk⟩, fun r e => by simp [Value.ownBlock] at e; omega⟩
   ·have hz1 : (Value.int IntKind.u8 0).cells.size = 1 := rfl
    simp only [Array.size_append, List.size_toArray, size_zeroCells, hz1, List.length_map, List.length_singleton]
    omega
   ·simp only [Array.toList_append, List.append_assoc, List.length_append, List.length_singleton]
    rw [← List.append_assoc]
    rw [List.take_append_of_le_length (by simp)]
    rw [List.take_of_length_le (by simp)]
    simp
 obtain ⟨v', w', hr, h2, h3, h4⟩ := key
 refine wpList_plain hgd fun K hK => ?_
 unfold Oper.wp execOp
 simp only [ho, resolve, invoke, builtin, Sem.run_bind, Sem.run_pure, Result.andThen_ok, List.map_toArray, List.map_cons, List.map_nil, hs, hx, hr]
 exact hK _ _ (h v' w' h2 h3 h4)
end Go.Proofs.YtniegajdmbepbaaGreatDoor.Sha
