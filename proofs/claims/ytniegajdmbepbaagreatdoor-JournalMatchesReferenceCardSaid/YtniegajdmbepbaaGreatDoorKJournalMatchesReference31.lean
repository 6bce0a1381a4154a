/- The reference's digest is the program's: what its printed list functions answer. Condition: a string of at most 1,000,000 bytes. -/
import Derived.Test.YtniegajdmbepbaaGreatDoorKJournalMatchesReference19
import Derived.Test.YtniegajdmbepbaaGreatDoorKJournalMatchesReference30
import Derived.KernelRfl
set_option linter.unusedSimpArgs false
set_option linter.unusedVariables false
namespace Go.Proofs.YtniegajdmbepbaaGreatDoor.Sha
open Go Go.RowKit Go.Proofs.YtniegajdmbepbaaGreatDoor.Dm Go.Proofs.YtniegajdmbepbaaGreatDoorW.PrintWords Go.Proofs.YtniegajdmbepbaaGreatDoorW.PrintLast Go.Proofs.YtniegajdmbepbaaGreatDoorW.PrintMore
theorem rot_ref (n : Nat) (h0 : 0 < n) (h1 : n < 32) (x : B) : clearwayref02_rotated.f (u x) (n : Int) = some (u (rr n x)) := by
 unfold clearwayref02_rotated.f
 have hw : wrap64 (32 - (n : Int)) = ((32 - n : Nat) : Int) := by unfold wrap64; omega
 rw [if_pos (by omega), hw, if_pos (by omega)]
 have e2 : shl .u32 (u x) ((32 - n : Nat) : Int) = u (x <<< (32 - n)) := by
  unfold shl
  rw [show min (((32 - n : Nat) : Int)).toNat (IntKind.bits .u32) = 32 - n by simp [IntKind.bits]]
  exact wrap_shl x _
 have e3 : shr .u32 (u x) (n : Int) = u (x >>> n) := by
  unfold shr
  rw [show min ((n : Int)).toNat (IntKind.bits .u32) = n by simp [IntKind.bits]; omega]
  exact shr_div x n
 rw [e2, e3, bits_or, BitVec.or_comm]
 rfl
theorem rd_u (L : List B) (i : Nat) : rd (L.map u) (i : Int) = u (L.getD i 0) := by
 unfold rd
 rw [Int.toNat_natCast, List.getD_eq_getElem?_getD, List.getD_eq_getElem?_getD, List.getElem?_map]
 cases L[i]? <;> rfl
theorem rd_ub (L : List (BitVec 8)) (i : Nat) : rd (L.map ub) (i : Int) = ub (L.getD i 0) := by
 unfold rd
 rw [Int.toNat_natCast, List.getD_eq_getElem?_getD, List.getD_eq_getElem?_getD, List.getElem?_map]
 cases L[i]? <;> rfl
theorem ub_mod (b : BitVec 8) : ub b % (4294967296 : Int) = u (wide b) := by rw [u_wide]; unfold ub; have := b.isLt; omega
theorem shl24m (x : B) : (u x * (16777216 : Int)) % (4294967296 : Int) = u (x <<< 24) := shl_mod x 24
theorem shl16m (x : B) : (u x * (65536 : Int)) % (4294967296 : Int) = u (x <<< 16) := shl_mod x 16
theorem shl8m (x : B) : (u x * (256 : Int)) % (4294967296 : Int) = u (x <<< 8) := shl_mod x 8
def ws (l : List (BitVec 8)) (i : Nat) : List B := (List.range i).map (word l)
theorem ws_succ (l : List (BitVec 8)) (i : Nat) : ws l (i + 1) = ws l i ++ [word l i] := by unfold ws; rw [List.range_succ, List.map_append]; rfl
theorem ws_length (l : List (BitVec 8)) (i : Nat) : (ws l i).length = i := by unfold ws; simp
theorem blk_l0 (X : List Int) (l : List (BitVec 8)) (hl : l.length = 64) : ∀ (d i k : Nat), i + d = 16 →
  clearwayref02_block.l0 (k + d + 1) X (l.map ub) ((ws l i).map u) (i : Int) = clearwayref02_block.l1 k X ((ws l 16).map u) 16 := by
 intro d
 induction d with
 | zero =>
  intro i k h
  have : i = 16 := by omega
  subst this
  rw [clearwayref02_block.l0, if_neg (by decide)]
 | succ d ih =>
  intro i k h
  have h4 : wrap64 (4 * (i : Int)) = ((4 * i : Nat) : Int) := by unfold wrap64; omega
  have h41 : wrap64 (((4 * i : Nat) : Int) + 1) = ((4 * i + 1 : Nat) : Int) := by unfold wrap64; omega
  have h42 : wrap64 (((4 * i : Nat) : Int) + 2) = ((4 * i + 2 : Nat) : Int) := by unfold wrap64; omega
  have h43 : wrap64 (((4 * i : Nat) : Int) + 3) = ((4 * i + 3 : Nat) : Int) := by unfold wrap64; omega
  have hi1 : wrap64 ((i : Int) + 1) = ((i + 1 : Nat) : Int) := by unfold wrap64; omega
  have hlen : (l.map ub).length = 64 := by rw [List.length_map, hl]
  have hwl : ((ws l i).map u).length = i := by rw [List.length_map, ws_length]
  rw [show k + (d + 1) + 1 = (k + d + 1) + 1 by omega, clearwayref02_block.l0, if_pos (by omega), h4, h41, h42, h43, hlen, hwl, if_pos (by omega), if_pos (by omega), if_pos (by omega), if_pos (by omega), if_pos (by omega), if_pos (by omega), if_pos (by omega), if_pos (by omega), if_pos (by omega), hi1]
  rw [rd_ub, rd_ub, rd_ub, rd_ub, ub_mod, ub_mod, ub_mod, ub_mod, shl24m, shl16m, shl8m, bits_or, bits_or, bits_or]
  have e : (ws l i).map u ++ [u ((wide (l.getD (4 * i) 0)) <<< 24 ||| (wide (l.getD (4 * i + 1) 0)) <<< 16 ||| (wide (l.getD (4 * i + 2) 0)) <<< 8 ||| wide (l.getD (4 * i + 3) 0))] = (ws l (i + 1)).map u := by rw [ws_succ, List.map_append]; rfl
  rw [e]
  exact ih (i + 1) k (by omega)
def sch (l : List (BitVec 8)) : Nat → List B
 | 0 => ws l 16
 | n + 1 => sch l n ++ [nxt (sch l n) (16 + n)]
theorem sch_length (l : List (BitVec 8)) : ∀ n, (sch l n).length = 16 + n
 | 0 => ws_length l 16
 | n + 1 => by rw [sch, List.length_append, sch_length l n]; rfl
theorem const_f : clearwayref02_constants.f = some (rk.map u) := by kernel_rfl
theorem rk_length : rk.length = 64 := by kernel_rfl
theorem rr_at (n : Nat) (h0 : 0 < n) (h1 : n < 32) (L : List B) (i : Nat) : clearwayref02_rotated.f (rd (L.map u) (i : Int)) (n : Int) = some (u (rr n (L.getD i 0))) := by rw [rd_u, rot_ref n h0 h1]
theorem blk_l1 (X : List Int) (hX : X.length = 8) (l : List (BitVec 8)) : ∀ (d n k : Nat), n + d = 48 →
  clearwayref02_block.l1 (k + 3 * d + 1) X ((sch l n).map u) ((16 + n : Nat) : Int) = clearwayref02_block.l2 k X ((sch l 48).map u) (rk.map u) X 0 := by
 intro d
 induction d with
 | zero =>
  intro n k h
  have : n = 48 := by omega
  subst this
  rw [clearwayref02_block.l1, if_neg (by decide), const_f, Option.bind_some, if_pos (by rw [List.length_nil, hX]; omega)]
  rfl
 | succ d ih =>
  intro n k h
  have hlen : ((sch l n).map u).length = 16 + n := by rw [List.length_map, sch_length]
  have c64 : ((16 + n : Nat) : Int) < 64 := by omega
  have z15 : 0 ≤ ((16 + n - 15 : Nat) : Int) := by omega
  have z2 : 0 ≤ ((16 + n - 2 : Nat) : Int) := by omega
  have z16 : 0 ≤ ((16 + n - 16 : Nat) : Int) := by omega
  have z7 : 0 ≤ ((16 + n - 7 : Nat) : Int) := by omega
  have y15 : ((16 + n - 15 : Nat) : Int) < ((16 + n : Nat) : Int) := by omega
  have y2 : ((16 + n - 2 : Nat) : Int) < ((16 + n : Nat) : Int) := by omega
  have y16 : ((16 + n - 16 : Nat) : Int) < ((16 + n : Nat) : Int) := by omega
  have y7 : ((16 + n - 7 : Nat) : Int) < ((16 + n : Nat) : Int) := by omega
  have big : 16 + n < 35184372088832 := by omega
  have ek : k + 3 * (d + 1) + 1 = (k + 3 * d + 1) + 1 + 1 + 1 := by omega
  have hnx := ih (n + 1) k (by omega)
  have i15 : wrap64 (((16 + n : Nat) : Int) - 15) = ((16 + n - 15 : Nat) : Int) := by unfold wrap64; omega
  have i2 : wrap64 (((16 + n : Nat) : Int) - 2) = ((16 + n - 2 : Nat) : Int) := by unfold wrap64; omega
  have i16 : wrap64 (((16 + n : Nat) : Int) - 16) = ((16 + n - 16 : Nat) : Int) := by unfold wrap64; omega
  have i7 : wrap64 (((16 + n : Nat) : Int) - 7) = ((16 + n - 7 : Nat) : Int) := by unfold wrap64; omega
  have i1 : wrap64 (((16 + n : Nat) : Int) + 1) = ((16 + (n + 1) : Nat) : Int) := by unfold wrap64; omega
  rw [ek, clearwayref02_block.l1, if_pos c64, i15, hlen, if_pos z15, if_pos y15]
  have r7 := rr_at 7 (by decide) (by decide) (sch l n) (16 + n - 15)
  have r18 := rr_at 18 (by decide) (by decide) (sch l n) (16 + n - 15)
  have r17 := rr_at 17 (by decide) (by decide) (sch l n) (16 + n - 2)
  have r19 := rr_at 19 (by decide) (by decide) (sch l n) (16 + n - 2)
  simp only [Int.cast_ofNat_Int] at r7 r18 r17 r19
  rw [r7, Option.bind_some, r18, Option.bind_some, rd_u, bits_xor, shr3, bits_xor, clearwayref02_block.j2, i2, hlen, if_pos z2, if_pos y2, r17, Option.bind_some, r19, Option.bind_some, rd_u, bits_xor, shr10, bits_xor, clearwayref02_block.j3, i16, i7, i1, hlen, if_pos z16, if_pos y16, if_pos z7, if_pos y7, if_pos big, rd_u, rd_u, add_mod, add_mod, add_mod]
  have e : (sch l n).map u ++ [u (((sch l n).getD (16 + n - 16) 0 + (rr 7 ((sch l n).getD (16 + n - 15) 0) ^^^ rr 18 ((sch l n).getD (16 + n - 15) 0) ^^^ (sch l n).getD (16 + n - 15) 0 >>> 3)) + (sch l n).getD (16 + n - 7) 0 + (rr 17 ((sch l n).getD (16 + n - 2) 0) ^^^ rr 19 ((sch l n).getD (16 + n - 2) 0) ^^^ (sch l n).getD (16 + n - 2) 0 >>> 10))] = (sch l (n + 1)).map u := by rw [sch, List.map_append]; rfl
  rw [e]
  exact hnx
theorem len8 (a0 a1 a2 a3 a4 a5 a6 a7 : B) : (([a0, a1, a2, a3, a4, a5, a6, a7].map u).length : Int) = 8 := rfl
theorem u_max : IntKind.u32.max = 4294967295 := by decide
theorem blk_l2 (X : List Int) (H L : List B) (hH : H.length = 8) (hL : L.length = 64) : ∀ (d m k : Nat), m + d = 64 →
  clearwayref02_block.l2 (k + 3 * d + 1) X (L.map u) (rk.map u) ((vst H L m).map u) (m : Int) = clearwayref02_block.l3 k X ((vst H L 64).map u) [] 0 := by
 intro d
 induction d with
 | zero =>
  intro m k h
  have : m = 64 := by omega
  subst this
  rw [clearwayref02_block.l2, if_neg (by decide)]
 | succ d ih =>
  intro m k h
  have hm1 : wrap64 ((m : Int) + 1) = ((m + 1 : Nat) : Int) := by unfold wrap64; omega
  have hnx := ih (m + 1) k (by omega)
  rw [show vst H L (m + 1) = rnd (vst H L m) (rk.getD m 0) (L.getD m 0) from rfl] at hnx
  obtain ⟨a0, a1, a2, a3, a4, a5, a6, a7, hv⟩ := eight (vst H L m) (vst_length H L hH m)
  rw [hv] at hnx ⊢
  have hr : (rk.map u).length = 64 := by rw [List.length_map, rk_length]
  have hl : (L.map u).length = 64 := by rw [List.length_map, hL]
  have g : ∀ i : Fin 8, rd ([a0, a1, a2, a3, a4, a5, a6, a7].map u) ((i.1 : Nat) : Int) = u ([a0, a1, a2, a3, a4, a5, a6, a7].getD i.1 0) := fun i => rd_u _ _
  have g0 : rd ([a0, a1, a2, a3, a4, a5, a6, a7].map u) 0 = u a0 := g 0
  have g1 : rd ([a0, a1, a2, a3, a4, a5, a6, a7].map u) 1 = u a1 := g 1
  have g2 : rd ([a0, a1, a2, a3, a4, a5, a6, a7].map u) 2 = u a2 := g 2
  have g3 : rd ([a0, a1, a2, a3, a4, a5, a6, a7].map u) 3 = u a3 := g 3
  have g4 : rd ([a0, a1, a2, a3, a4, a5, a6, a7].map u) 4 = u a4 := g 4
  have g5 : rd ([a0, a1, a2, a3, a4, a5, a6, a7].map u) 5 = u a5 := g 5
  have g6 : rd ([a0, a1, a2, a3, a4, a5, a6, a7].map u) 6 = u a6 := g 6
  have g7 : rd ([a0, a1, a2, a3, a4, a5, a6, a7].map u) 7 = u a7 := g 7
  have q6 : clearwayref02_rotated.f (u a4) 6 = some (u (rr 6 a4)) := rot_ref 6 (by decide) (by decide) a4
  have q11 : clearwayref02_rotated.f (u a4) 11 = some (u (rr 11 a4)) := rot_ref 11 (by decide) (by decide) a4
  have q25 : clearwayref02_rotated.f (u a4) 25 = some (u (rr 25 a4)) := rot_ref 25 (by decide) (by decide) a4
  have q2 : clearwayref02_rotated.f (u a0) 2 = some (u (rr 2 a0)) := rot_ref 2 (by decide) (by decide) a0
  have q13 : clearwayref02_rotated.f (u a0) 13 = some (u (rr 13 a0)) := rot_ref 13 (by decide) (by decide) a0
  have q22 : clearwayref02_rotated.f (u a0) 22 = some (u (rr 22 a0)) := rot_ref 22 (by decide) (by decide) a0
  rw [show k + 3 * (d + 1) + 1 = (k + 3 * d + 1) + 1 + 1 + 1 by omega, clearwayref02_block.l2, if_pos (by omega), len8, if_pos (by decide), if_pos (by decide), if_pos (by decide), g0, g4, g5, g6, g7, q6, Option.bind_some, q11, Option.bind_some, q25, Option.bind_some, if_pos (by decide), if_pos (by decide), if_pos (by omega), if_pos (by rw [hr]; omega), if_pos (by rw [hl]; omega), rd_u, rd_u, u_max, bits_not, bits_xor, bits_xor, bits_and, bits_and, bits_xor, add_mod, add_mod, add_mod, add_mod]
  rw [clearwayref02_block.j5, q2, Option.bind_some, q13, Option.bind_some, q22, Option.bind_some, len8, if_pos (by decide), if_pos (by decide), g1, g2, bits_xor, bits_xor, bits_and, bits_and, bits_and, bits_xor, bits_xor, add_mod]
  rw [clearwayref02_block.j6, len8, if_pos (by decide), if_pos (by decide), if_pos (by decide), if_pos (by decide), if_pos (by decide), g1, g2, g3, g5, g6, add_mod, add_mod, hm1]
  exact hnx
def outs (H V : List B) (i : Nat) : List B := (List.range i).map (fun m => H.getD m 0 + V.getD m 0)
theorem outs_succ (H V : List B) (i : Nat) : outs H V (i + 1) = outs H V i ++ [H.getD i 0 + V.getD i 0] := by unfold outs; rw [List.range_succ, List.map_append]; rfl
theorem outs_length (H V : List B) (i : Nat) : (outs H V i).length = i := by unfold outs; simp
theorem blk_l3 (H V : List B) (hH : H.length = 8) (hV : V.length = 8) : ∀ (d i k : Nat), i + d = 8 →
  clearwayref02_block.l3 (k + d + 1) (H.map u) (V.map u) ((outs H V i).map u) (i : Int) = some ((outs H V 8).map u) := by
 intro d
 induction d with
 | zero =>
  intro i k h
  have : i = 8 := by omega
  subst this
  rw [clearwayref02_block.l3, if_neg (by decide)]
 | succ d ih =>
  intro i k h
  have hi1 : wrap64 ((i : Int) + 1) = ((i + 1 : Nat) : Int) := by unfold wrap64; omega
  have h1 : (H.map u).length = 8 := by rw [List.length_map, hH]
  have h2 : (V.map u).length = 8 := by rw [List.length_map, hV]
  have h3 : ((outs H V i).map u).length = i := by rw [List.length_map, outs_length]
  rw [show k + (d + 1) + 1 = (k + d + 1) + 1 by omega, clearwayref02_block.l3, if_pos (by omega), if_pos (by omega), if_pos (by rw [h1]; omega), if_pos (by rw [h2]; omega), if_pos (by rw [h3]; omega), rd_u, rd_u, add_mod, hi1]
  have e : (outs H V i).map u ++ [u (H.getD i 0 + V.getD i 0)] = (outs H V (i + 1)).map u := by rw [outs_succ, List.map_append]; rfl
  rw [e]
  exact ih (i + 1) k (by omega)
theorem outs_hst (H V : List B) (hH : H.length = 8) (hV : V.length = 8) : outs H V 8 = hst H V 8 := by
 obtain ⟨a0, a1, a2, a3, a4, a5, a6, a7, rfl⟩ := eight H hH
 rfl
theorem set_app (A C : List B) (x y : B) : (A ++ y :: C).set A.length x = A ++ x :: C := by rw [List.set_append_right _ _ (Nat.le_refl _), Nat.sub_self, List.set_cons_zero]
theorem st1_ws (l : List (BitVec 8)) : ∀ m, m ≤ 64 → st1 l m = ws l m ++ List.replicate (64 - m) 0
 | 0, _ => by simp [st1, ws]
 | m + 1, h => by
  rw [st1, st1_ws l m (by omega), show 64 - m = (64 - (m + 1)) + 1 by omega, List.replicate_succ]
  have := set_app (ws l m) (List.replicate (64 - (m + 1)) 0) (word l m) 0
  rw [ws_length] at this
  rw [this, ws_succ]
  simp
theorem getD_app (A C : List B) (i : Nat) (h : i < A.length) : (A ++ C).getD i 0 = A.getD i 0 := by rw [List.getD_eq_getElem?_getD, List.getD_eq_getElem?_getD, List.getElem?_append_left h]
theorem st2_sch (l : List (BitVec 8)) : ∀ n, n ≤ 48 → st2 l n = sch l n ++ List.replicate (48 - n) 0
 | 0, _ => by rw [st2, sch, st1_ws l 16 (by omega)]
 | n + 1, h => by
  have hlen := sch_length l n
  rw [st2, st2_sch l n (by omega), show 48 - n = (48 - (n + 1)) + 1 by omega, List.replicate_succ]
  have hn : nxt (sch l n ++ 0 :: List.replicate (48 - (n + 1)) 0) (16 + n) = nxt (sch l n) (16 + n) := by
   unfold nxt
   rw [getD_app _ _ _ (by omega), getD_app _ _ _ (by omega), getD_app _ _ _ (by omega), getD_app _ _ _ (by omega)]
  have := set_app (sch l n) (List.replicate (48 - (n + 1)) 0) (nxt (sch l n) (16 + n)) 0
  rw [hlen] at this
  rw [hn, this, sch]
  simp
theorem block_f (H : List B) (hH : H.length = 8) (l : List (BitVec 8)) (hl : l.length = 64) (k : Nat) (hk : 400 ≤ k) :
  clearwayref02_block.f k (H.map u) (l.map ub) = some ((hst H (vst H (st2 l 48) 64) 8).map u) := by
 unfold clearwayref02_block.f
 have hX : (H.map u).length = 8 := by rw [List.length_map, hH]
 have hs : st2 l 48 = sch l 48 := by rw [st2_sch l 48 (by omega)]; simp
 have h0 := blk_l0 (H.map u) l hl 16 0 (k - 17) rfl
 rw [show k - 17 + 16 + 1 = k by omega] at h0
 have e0 : clearwayref02_block.l0 k (H.map u) (l.map ub) [] 0 = clearwayref02_block.l1 (k - 17) (H.map u) ((ws l 16).map u) 16 := h0
 have h1 := blk_l1 (H.map u) hX l 48 0 (k - 17 - 145) rfl
 rw [show k - 17 - 145 + 3 * 48 + 1 = k - 17 by omega] at h1
 have e1 : clearwayref02_block.l1 (k - 17) (H.map u) ((ws l 16).map u) 16 = clearwayref02_block.l2 (k - 17 - 145) (H.map u) ((sch l 48).map u) (rk.map u) (H.map u) 0 := h1
 have h2 := blk_l2 (H.map u) H (sch l 48) hH (sch_length l 48) 64 0 (k - 17 - 145 - 193) rfl
 rw [show k - 17 - 145 - 193 + 3 * 64 + 1 = k - 17 - 145 by omega] at h2
 have e2 : clearwayref02_block.l2 (k - 17 - 145) (H.map u) ((sch l 48).map u) (rk.map u) (H.map u) 0 = clearwayref02_block.l3 (k - 17 - 145 - 193) (H.map u) ((vst H (sch l 48) 64).map u) [] 0 := h2
 have h3 := blk_l3 H (vst H (sch l 48) 64) hH (vst_length H _ hH 64) 8 0 (k - 17 - 145 - 193 - 9) rfl
 rw [show k - 17 - 145 - 193 - 9 + 8 + 1 = k - 17 - 145 - 193 by omega] at h3
 have e3 : clearwayref02_block.l3 (k - 17 - 145 - 193) (H.map u) ((vst H (sch l 48) 64).map u) [] 0 = some ((outs H (vst H (sch l 48) 64) 8).map u) := h3
 rw [e0, e1, e2, e3, outs_hst H _ hH (vst_length H _ hH 64), hs]
end Go.Proofs.YtniegajdmbepbaaGreatDoor.Sha
