/- The reference's digest is the program's: what its printed list functions answer. Condition: a string of at most 1,000,000 bytes. The contracts of functions, written by this session's program (wip/pp.py): what the list functions answer, the code comes to. No condition. Plain law of DigestExtensionBinding: the strings of two extension proofs that come to the same root. No condition but bounds on lengths. Plain laws of the root of a list: it is the node of the roots of its two parts; extensions and proofs of a list climb to its root. No condition but bounds on lengths. The reference's digest is the program's (second part): the whole string. Condition: a string of at most 1,000,000 bytes. Plain laws of Extension: what the printed list functions answer. Conditions: at most 1,000,000 strings, of at most 2^39 bytes. Plain laws of Proof: what the printed list functions answer, and what Verify makes of it. Conditions: at most 1,000,000 strings, of at most 2^39 bytes. Extension and Proof, with a row that is only read. No condition. The fixed examples of layer 2 hold: what 'sane' computes is true. No condition. -/
import Derived.Test.YtjkdenldddjcnaaDoorKDigestTreeMatchesReference10
import Derived.Test.YtjkdenldddjcnaaDoorKDigestTreeMatchesReference16
import Derived.KernelRfl
import Derived.Test.YtjkdenldddjcnaaDoorKDigestTreeMatchesReference15
import Derived.Test.YtjkdenldddjcnaaDoorKDigestTreeMatchesReference12
import Derived.Test.YtjkdenldddjcnaaDoorKDigestTreeMatchesReference13
import Derived.Test.YtjkdenldddjcnaaDoorKDigestTreeMatchesReference14
set_option linter.unusedVariables false
set_option linter.unusedSimpArgs false
namespace Go.Proofs.YtjkdenldddjcnaaDoor.Sha
open Go Go.RowKit Go.Proofs.YtjkdenldddjcnaaDoor.Dm Go.Proofs.YtjkdenldddjcnaaDoorW.PrintWords Go.Proofs.YtjkdenldddjcnaaDoorW.PrintLast Go.Proofs.YtjkdenldddjcnaaDoorW.PrintMore

theorem rot_ref (n : Nat) (h0 : 0 < n) (h1 : n < 32) (x : B) : clearwayref02_rotated.f (u x) (n : Int) = some (u (rr n x)) := by
 unfold clearwayref02_rotated.f
 have hw : wrap64 (32 - (n : Int)) = ((32 - n : Nat) : Int) := by unfold wrap64; omega
 rw [if_pos (by omega), hw, if_pos (by omega)]
 have e2 : shl .u32 (u x) ((32 - n : Nat) : Int) = u (x <<< (32 - n)) := by
  unfold shl
  rw [show min (((32 - n : Nat) : Int)).toNat (IntKind.bits .u32) = 32 - n by simp [IntKind.bits]]
  exact wrap_shl x _
 have e3 : shr .u32 (u x) (n : Int) = u (x >>> n) := by
  unfold shr
  rw [show min ((n : Int)).toNat (IntKind.bits .u32) = n by simp [IntKind.bits]; omega]
  exact shr_div x n
 rw [e2, e3, bits_or, BitVec.or_comm]
 rfl
theorem rd_u (L : List B) (i : Nat) : rd (L.map u) (i : Int) = u (L.getD i 0) := by
 unfold rd
 rw [Int.toNat_natCast, List.getD_eq_getElem?_getD, List.getD_eq_getElem?_getD, List.getElem?_map]
 cases L[i]? <;> rfl
theorem rd_ub (L : List (BitVec 8)) (i : Nat) : rd (L.map ub) (i : Int) = ub (L.getD i 0) := by
 unfold rd
 rw [Int.toNat_natCast, List.getD_eq_getElem?_getD, List.getD_eq_getElem?_getD, List.getElem?_map]
 cases L[i]? <;> rfl
theorem ub_mod (b : BitVec 8) : ub b % (4294967296 : Int) = u (wide b) := by rw [u_wide]; unfold ub; have := b.isLt; omega
theorem shl24m (x : B) : (u x * (16777216 : Int)) % (4294967296 : Int) = u (x <<< 24) := shl_mod x 24
theorem shl16m (x : B) : (u x * (65536 : Int)) % (4294967296 : Int) = u (x <<< 16) := shl_mod x 16
theorem shl8m (x : B) : (u x * (256 : Int)) % (4294967296 : Int) = u (x <<< 8) := shl_mod x 8
def ws (l : List (BitVec 8)) (i : Nat) : List B := (List.range i).map (word l)
theorem ws_succ (l : List (BitVec 8)) (i : Nat) : ws l (i + 1) = ws l i ++ [word l i] := by unfold ws; rw [List.range_succ, List.map_append]; rfl
theorem ws_length (l : List (BitVec 8)) (i : Nat) : (ws l i).length = i := by unfold ws; simp
theorem blk_l0 (X : List Int) (l : List (BitVec 8)) (hl : l.length = 64) : ∀ (d i k : Nat), i + d = 16 →
  clearwayref02_block.l0 (k + d + 1) X (l.map ub) ((ws l i).map u) (i : Int) = clearwayref02_block.l1 k X ((ws l 16).map u) 16 := by
 intro d
 induction d with
 | zero =>
  intro i k h
  have : i = 16 := by omega
  subst this
  rw [clearwayref02_block.l0, if_neg (by decide)]
 | succ d ih =>
  intro i k h
  have h4 : wrap64 (4 * (i : Int)) = ((4 * i : Nat) : Int) := by unfold wrap64; omega
  have h41 : wrap64 (((4 * i : Nat) : Int) + 1) = ((4 * i + 1 : Nat) : Int) := by unfold wrap64; omega
  have h42 : wrap64 (((4 * i : Nat) : Int) + 2) = ((4 * i + 2 : Nat) : Int) := by unfold wrap64; omega
  have h43 : wrap64 (((4 * i : Nat) : Int) + 3) = ((4 * i + 3 : Nat) : Int) := by unfold wrap64; omega
  have hi1 : wrap64 ((i : Int) + 1) = ((i + 1 : Nat) : Int) := by unfold wrap64; omega
  have hlen : (l.map ub).length = 64 := by rw [List.length_map, hl]
  have hwl : ((ws l i).map u).length = i := by rw [List.length_map, ws_length]
  rw [show k + (d + 1) + 1 = (k + d + 1) + 1 by omega, clearwayref02_block.l0, if_pos (by omega), h4, h41, h42, h43, hlen, hwl, if_pos (by omega), if_pos (by omega), if_pos (by omega), if_pos (by omega), if_pos (by omega), if_pos (by omega), if_pos (by omega), if_pos (by omega), if_pos (by omega), hi1]
  rw [rd_ub, rd_ub, rd_ub, rd_ub, ub_mod, ub_mod, ub_mod, ub_mod, shl24m, shl16m, shl8m, bits_or, bits_or, bits_or]
  have e : (ws l i).map u ++ [u ((wide (l.getD (4 * i) 0)) <<< 24 ||| (wide (l.getD (4 * i + 1) 0)) <<< 16 ||| (wide (l.getD (4 * i + 2) 0)) <<< 8 ||| wide (l.getD (4 * i + 3) 0))] = (ws l (i + 1)).map u := by rw [ws_succ, List.map_append]; rfl
  rw [e]
  exact ih (i + 1) k (by omega)
def sch (l : List (BitVec 8)) : Nat → List B
 | 0 => ws l 16
 | n + 1 => sch l n ++ [nxt (sch l n) (16 + n)]
theorem sch_length (l : List (BitVec 8)) : ∀ n, (sch l n).length = 16 + n
 | 0 => ws_length l 16
 | n + 1 => by rw [sch, List.length_append, sch_length l n]; rfl
theorem const_f : clearwayref02_constants.f = some (rk.map u) := by kernel_rfl
theorem rk_length : rk.length = 64 := by kernel_rfl
theorem rr_at (n : Nat) (h0 : 0 < n) (h1 : n < 32) (L : List B) (i : Nat) : clearwayref02_rotated.f (rd (L.map u) (i : Int)) (n : Int) = some (u (rr n (L.getD i 0))) := by rw [rd_u, rot_ref n h0 h1]
theorem blk_l1 (X : List Int) (hX : X.length = 8) (l : List (BitVec 8)) : ∀ (d n k : Nat), n + d = 48 →
  clearwayref02_block.l1 (k + 3 * d + 1) X ((sch l n).map u) ((16 + n : Nat) : Int) = clearwayref02_block.l2 k X ((sch l 48).map u) (rk.map u) X 0 := by
 intro d
 induction d with
 | zero =>
  intro n k h
  have : n = 48 := by omega
  subst this
  rw [clearwayref02_block.l1, if_neg (by decide), const_f, Option.bind_some, if_pos (by rw [List.length_nil, hX]; omega)]
  rfl
 | succ d ih =>
  intro n k h
  have hlen : ((sch l n).map u).length = 16 + n := by rw [List.length_map, sch_length]
  have c64 : ((16 + n : Nat) : Int) < 64 := by omega
  have z15 : 0 ≤ ((16 + n - 15 : Nat) : Int) := by omega
  have z2 : 0 ≤ ((16 + n - 2 : Nat) : Int) := by omega
  have z16 : 0 ≤ ((16 + n - 16 : Nat) : Int) := by omega
  have z7 : 0 ≤ ((16 + n - 7 : Nat) : Int) := by omega
  have y15 : ((16 + n - 15 : Nat) : Int) < ((16 + n : Nat) : Int) := by omega
  have y2 : ((16 + n - 2 : Nat) : Int) < ((16 + n : Nat) : Int) := by omega
  have y16 : ((16 + n - 16 : Nat) : Int) < ((16 + n : Nat) : Int) := by omega
  have y7 : ((16 + n - 7 : Nat) : Int) < ((16 + n : Nat) : Int) := by omega
  have big : 16 + n < 35184372088832 := by omega
  have ek : k + 3 * (d + 1) + 1 = (k + 3 * d + 1) + 1 + 1 + 1 := by omega
  have hnx := ih (n + 1) k (by omega)
  have i15 : wrap64 (((16 + n : Nat) : Int) - 15) = ((16 + n - 15 : Nat) : Int) := by unfold wrap64; omega
  have i2 : wrap64 (((16 + n : Nat) : Int) - 2) = ((16 + n - 2 : Nat) : Int) := by unfold wrap64; omega
  have i16 : wrap64 (((16 + n : Nat) : Int) - 16) = ((16 + n - 16 : Nat) : Int) := by unfold wrap64; omega
  have i7 : wrap64 (((16 + n : Nat) : Int) - 7) = ((16 + n - 7 : Nat) : Int) := by unfold wrap64; omega
  have i1 : wrap64 (((16 + n : Nat) : Int) + 1) = ((16 + (n + 1) : Nat) : Int) := by unfold wrap64; omega
  rw [ek, clearwayref02_block.l1, if_pos c64, i15, hlen, if_pos z15, if_pos y15]
  have r7 := rr_at 7 (by decide) (by decide) (sch l n) (16 + n - 15)
  have r18 := rr_at 18 (by decide) (by decide) (sch l n) (16 + n - 15)
  have r17 := rr_at 17 (by decide) (by decide) (sch l n) (16 + n - 2)
  have r19 := rr_at 19 (by decide) (by decide) (sch l n) (16 + n - 2)
  simp only [Int.cast_ofNat_Int] at r7 r18 r17 r19
  rw [r7, Option.bind_some, r18, Option.bind_some, rd_u, bits_xor, shr3, bits_xor, clearwayref02_block.j2, i2, hlen, if_pos z2, if_pos y2, r17, Option.bind_some, r19, Option.bind_some, rd_u, bits_xor, shr10, bits_xor, clearwayref02_block.j3, i16, i7, i1, hlen, if_pos z16, if_pos y16, if_pos z7, if_pos y7, if_pos big, rd_u, rd_u, add_mod, add_mod, add_mod]
  have e : (sch l n).map u ++ [u (((sch l n).getD (16 + n - 16) 0 + (rr 7 ((sch l n).getD (16 + n - 15) 0) ^^^ rr 18 ((sch l n).getD (16 + n - 15) 0) ^^^ (sch l n).getD (16 + n - 15) 0 >>> 3)) + (sch l n).getD (16 + n - 7) 0 + (rr 17 ((sch l n).getD (16 + n - 2) 0) ^^^ rr 19 ((sch l n).getD (16 + n - 2) 0) ^^^ (sch l n).getD (16 + n - 2) 0 >>> 10))] = (sch l (n + 1)).map u := by rw [sch, List.map_append]; rfl
  rw [e]
  exact hnx
theorem len8 (a0 a1 a2 a3 a4 a5 a6 a7 : B) : (([a0, a1, a2, a3, a4, a5, a6, a7].map u).length : Int) = 8 := rfl
theorem u_max : IntKind.u32.max = 4294967295 := by decide
theorem blk_l2 (X : List Int) (H L : List B) (hH : H.length = 8) (hL : L.length = 64) : ∀ (d m k : Nat), m + d = 64 →
  clearwayref02_block.l2 (k + 3 * d + 1) X (L.map u) (rk.map u) ((vst H L m).map u) (m : Int) = clearwayref02_block.l3 k X ((vst H L 64).map u) [] 0 := by
 intro d
 induction d with
 | zero =>
  intro m k h
  have : m = 64 := by omega
  subst this
  rw [clearwayref02_block.l2, if_neg (by decide)]
 | succ d ih =>
  intro m k h
  have hm1 : wrap64 ((m : Int) + 1) = ((m + 1 : Nat) : Int) := by unfold wrap64; omega
  have hnx := ih (m + 1) k (by omega)
  rw [show vst H L (m + 1) = rnd (vst H L m) (rk.getD m 0) (L.getD m 0) from rfl] at hnx
  obtain ⟨a0, a1, a2, a3, a4, a5, a6, a7, hv⟩ := eight (vst H L m) (vst_length H L hH m)
  rw [hv] at hnx ⊢
  have hr : (rk.map u).length = 64 := by rw [List.length_map, rk_length]
  have hl : (L.map u).length = 64 := by rw [List.length_map, hL]
  have g : ∀ i : Fin 8, rd ([a0, a1, a2, a3, a4, a5, a6, a7].map u) ((i.1 : Nat) : Int) = u ([a0, a1, a2, a3, a4, a5, a6, a7].getD i.1 0) := fun i => rd_u _ _
  have g0 : rd ([a0, a1, a2, a3, a4, a5, a6, a7].map u) 0 = u a0 := g 0
  have g1 : rd ([a0, a1, a2, a3, a4, a5, a6, a7].map u) 1 = u a1 := g 1
  have g2 : rd ([a0, a1, a2, a3, a4, a5, a6, a7].map u) 2 = u a2 := g 2
  have g3 : rd ([a0, a1, a2, a3, a4, a5, a6, a7].map u) 3 = u a3 := g 3
  have g4 : rd ([a0, a1, a2, a3, a4, a5, a6, a7].map u) 4 = u a4 := g 4
  have g5 : rd ([a0, a1, a2, a3, a4, a5, a6, a7].map u) 5 = u a5 := g 5
  have g6 : rd ([a0, a1, a2, a3, a4, a5, a6, a7].map u) 6 = u a6 := g 6
  have g7 : rd ([a0, a1, a2, a3, a4, a5, a6, a7].map u) 7 = u a7 := g 7
  have q6 : clearwayref02_rotated.f (u a4) 6 = some (u (rr 6 a4)) := rot_ref 6 (by decide) (by decide) a4
  have q11 : clearwayref02_rotated.f (u a4) 11 = some (u (rr 11 a4)) := rot_ref 11 (by decide) (by decide) a4
  have q25 : clearwayref02_rotated.f (u a4) 25 = some (u (rr 25 a4)) := rot_ref 25 (by decide) (by decide) a4
  have q2 : clearwayref02_rotated.f (u a0) 2 = some (u (rr 2 a0)) := rot_ref 2 (by decide) (by decide) a0
  have q13 : clearwayref02_rotated.f (u a0) 13 = some (u (rr 13 a0)) := rot_ref 13 (by decide) (by decide) a0
  have q22 : clearwayref02_rotated.f (u a0) 22 = some (u (rr 22 a0)) := rot_ref 22 (by decide) (by decide) a0
  rw [show k + 3 * (d + 1) + 1 = (k + 3 * d + 1) + 1 + 1 + 1 by omega, clearwayref02_block.l2, if_pos (by omega), len8, if_pos (by decide), if_pos (by decide), if_pos (by decide), g0, g4, g5, g6, g7, q6, Option.bind_some, q11, Option.bind_some, q25, Option.bind_some, if_pos (by decide), if_pos (by decide), if_pos (by omega), if_pos (by rw [hr]; omega), if_pos (by rw [hl]; omega), rd_u, rd_u, u_max, bits_not, bits_xor, bits_xor, bits_and, bits_and, bits_xor, add_mod, add_mod, add_mod, add_mod]
  rw [clearwayref02_block.j5, q2, Option.bind_some, q13, Option.bind_some, q22, Option.bind_some, len8, if_pos (by decide), if_pos (by decide), g1, g2, bits_xor, bits_xor, bits_and, bits_and, bits_and, bits_xor, bits_xor, add_mod]
  rw [clearwayref02_block.j6, len8, if_pos (by decide), if_pos (by decide), if_pos (by decide), if_pos (by decide), if_pos (by decide), g1, g2, g3, g5, g6, add_mod, add_mod, hm1]
  exact hnx
def outs (H V : List B) (i : Nat) : List B := (List.range i).map (fun m => H.getD m 0 + V.getD m 0)
theorem outs_succ (H V : List B) (i : Nat) : outs H V (i + 1) = outs H V i ++ [H.getD i 0 + V.getD i 0] := by unfold outs; rw [List.range_succ, List.map_append]; rfl
theorem outs_length (H V : List B) (i : Nat) : (outs H V i).length = i := by unfold outs; simp
theorem blk_l3 (H V : List B) (hH : H.length = 8) (hV : V.length = 8) : ∀ (d i k : Nat), i + d = 8 →
  clearwayref02_block.l3 (k + d + 1) (H.map u) (V.map u) ((outs H V i).map u) (i : Int) = some ((outs H V 8).map u) := by
 intro d
 induction d with
 | zero =>
  intro i k h
  have : i = 8 := by omega
  subst this
  rw [clearwayref02_block.l3, if_neg (by decide)]
 | succ d ih =>
  intro i k h
  have hi1 : wrap64 ((i : Int) + 1) = ((i + 1 : Nat) : Int) := by unfold wrap64; omega
  have h1 : (H.map u).length = 8 := by rw [List.length_map, hH]
  have h2 : (V.map u).length = 8 := by rw [List.length_map, hV]
  have h3 : ((outs H V i).map u).length = i := by rw [List.length_map, outs_length]
  rw [show k + (d + 1) + 1 = (k + d + 1) + 1 by omega, clearwayref02_block.l3, if_pos (by omega), if_pos (by omega), if_pos (by rw [h1]; omega), if_pos (by rw [h2]; omega), if_pos (by rw [h3]; omega), rd_u, rd_u, add_mod, hi1]
  have e : (outs H V i).map u ++ [u (H.getD i 0 + V.getD i 0)] = (outs H V (i + 1)).map u := by rw [outs_succ, List.map_append]; rfl
  rw [e]
  exact ih (i + 1) k (by omega)
theorem outs_hst (H V : List B) (hH : H.length = 8) (hV : V.length = 8) : outs H V 8 = hst H V 8 := by
 obtain ⟨a0, a1, a2, a3, a4, a5, a6, a7, rfl⟩ := eight H hH
 rfl
theorem set_app (A C : List B) (x y : B) : (A ++ y :: C).set A.length x = A ++ x :: C := by rw [List.set_append_right _ _ (Nat.le_refl _), Nat.sub_self, List.set_cons_zero]
theorem st1_ws (l : List (BitVec 8)) : ∀ m, m ≤ 64 → st1 l m = ws l m ++ List.replicate (64 - m) 0
 | 0, _ => by simp [st1, ws]
 | m + 1, h => by
  rw [st1, st1_ws l m (by omega), show 64 - m = (64 - (m + 1)) + 1 by omega, List.replicate_succ]
  have := set_app (ws l m) (List.replicate (64 - (m + 1)) 0) (word l m) 0
  rw [ws_length] at this
  rw [this, ws_succ]
  simp
theorem getD_app (A C : List B) (i : Nat) (h : i < A.length) : (A ++ C).getD i 0 = A.getD i 0 := by rw [List.getD_eq_getElem?_getD, List.getD_eq_getElem?_getD, List.getElem?_append_left h]
theorem st2_sch (l : List (BitVec 8)) : ∀ n, n ≤ 48 → st2 l n = sch l n ++ List.replicate (48 - n) 0
 | 0, _ => by rw [st2, sch, st1_ws l 16 (by omega)]
 | n + 1, h => by
  have hlen := sch_length l n
  rw [st2, st2_sch l n (by omega), show 48 - n = (48 - (n + 1)) + 1 by omega, List.replicate_succ]
  have hn : nxt (sch l n ++ 0 :: List.replicate (48 - (n + 1)) 0) (16 + n) = nxt (sch l n) (16 + n) := by
   unfold nxt
   rw [getD_app _ _ _ (by omega), getD_app _ _ _ (by omega), getD_app _ _ _ (by omega), getD_app _ _ _ (by omega)]
  have := set_app (sch l n) (List.replicate (48 - (n + 1)) 0) (nxt (sch l n) (16 + n)) 0
  rw [hlen] at this
  rw [hn, this, sch]
  simp
/-- One block. -/
theorem block_f (H : List B) (hH : H.length = 8) (l : List (BitVec 8)) (hl : l.length = 64) (k : Nat) (hk : 400 ≤ k) :
  clearwayref02_block.f k (H.map u) (l.map ub) = some ((hst H (vst H (st2 l 48) 64) 8).map u) := by
 unfold clearwayref02_block.f
 have hX : (H.map u).length = 8 := by rw [List.length_map, hH]
 have hs : st2 l 48 = sch l 48 := by rw [st2_sch l 48 (by omega)]; simp
 have h0 := blk_l0 (H.map u) l hl 16 0 (k - 17) rfl
 rw [show k - 17 + 16 + 1 = k by omega] at h0
 have e0 : clearwayref02_block.l0 k (H.map u) (l.map ub) [] 0 = clearwayref02_block.l1 (k - 17) (H.map u) ((ws l 16).map u) 16 := h0
 have h1 := blk_l1 (H.map u) hX l 48 0 (k - 17 - 145) rfl
 rw [show k - 17 - 145 + 3 * 48 + 1 = k - 17 by omega] at h1
 have e1 : clearwayref02_block.l1 (k - 17) (H.map u) ((ws l 16).map u) 16 = clearwayref02_block.l2 (k - 17 - 145) (H.map u) ((sch l 48).map u) (rk.map u) (H.map u) 0 := h1
 have h2 := blk_l2 (H.map u) H (sch l 48) hH (sch_length l 48) 64 0 (k - 17 - 145 - 193) rfl
 rw [show k - 17 - 145 - 193 + 3 * 64 + 1 = k - 17 - 145 by omega] at h2
 have e2 : clearwayref02_block.l2 (k - 17 - 145) (H.map u) ((sch l 48).map u) (rk.map u) (H.map u) 0 = clearwayref02_block.l3 (k - 17 - 145 - 193) (H.map u) ((vst H (sch l 48) 64).map u) [] 0 := h2
 have h3 := blk_l3 H (vst H (sch l 48) 64) hH (vst_length H _ hH 64) 8 0 (k - 17 - 145 - 193 - 9) rfl
 rw [show k - 17 - 145 - 193 - 9 + 8 + 1 = k - 17 - 145 - 193 by omega] at h3
 have e3 : clearwayref02_block.l3 (k - 17 - 145 - 193) (H.map u) ((vst H (sch l 48) 64).map u) [] 0 = some ((outs H (vst H (sch l 48) 64) 8).map u) := h3
 rw [e0, e1, e2, e3, outs_hst H _ hH (vst_length H _ hH 64), hs]
end Go.Proofs.YtjkdenldddjcnaaDoor.Sha

namespace Go.Proofs.YtjkdenldddjcnaaDoor.Dm
open Go.RowKit Go.Proofs.YtjkdenldddjcnaaDoor.Sha Go.Proofs.YtjkdenldddjcnaaDoor.Df Go.Proofs.YtjkdenldddjcnaaDoorW.PrintWords Go.Proofs.YtjkdenldddjcnaaDoorW.PrintLast Go.Proofs.YtjkdenldddjcnaaDoorW.PrintMore
attribute [local go_sem] max2_int min2_int max_two min_two max_three min_three max_four min_four   -- for this text's walks alone
set_option linter.unusedVariables false
set_option linter.unusedSimpArgs false

/-! ### clearwayref02_Sum: function 33 -/
mutual
def clearwayref02_Sum.l0 : Nat → List Int → List Int → Int → Option (ByteArray)
 | 0, _, _, _ => none
 | k + 1, x3, x4, x5 => if x5 < (x4.length : Int) then (if 0 ≤ x5 then (if x5 ≤ (wrap64 (x5 + 64)) then (if (wrap64 (x5 + 64)) ≤ (x4.length : Int) then ((clearwayref02_block.f k x3 ((x4.take ((wrap64 (x5 + 64)) : Int).toNat).drop (x5 : Int).toNat)).bind fun t191 => (clearwayref02_Sum.l0 k t191 x4 (wrap64 (x5 + 64)))) else (none)) else (none)) else (none)) else (clearwayref02_Sum.l1 k x3 ([] : List Int) 0)
def clearwayref02_Sum.l1 : Nat → List Int → List Int → Int → Option (ByteArray)
 | 0, _, _, _ => none
 | k + 1, x3, x6, x7 => if x7 < 8 then (if 0 ≤ x7 then (if x7 < (x3.length : Int) then ((some (([((rd x3 x7) / 16777216) % 256, ((rd x3 x7) / 65536) % 256, ((rd x3 x7) / 256) % 256, (rd x3 x7) % 256] : List Int) : List Int)).bind fun y198 => (if x6.length + y198.length < 140737488355328 then (clearwayref02_Sum.l1 k x3 (x6 ++ y198) (wrap64 (x7 + 1))) else (none))) else (none)) else (none)) else (some (strOfNums x6))
end
def clearwayref02_Sum.f (k : Nat) (a0 : ByteArray) : Option (ByteArray) := (clearwayref02_extended.f k a0).bind fun t184 => (clearwayref02_Sum.l0 k (([1779033703, 3144134277, 1013904242, 2773480762, 1359893119, 2600822924, 528734635, 1541459225] : List Int)) t184 0)
def clearwayref02_Sum.T11 : Bool × List (List Nat × List Nat) := (true, [([], []), ([], []), ([], []), ([1, 2], [1, 2]), ([3], [3]), ([4], [4]), ([5], [5]), ([], []), ([], []), ([7, 8], [7, 8]), ([9], [9]), ([10], [10]), ([11], [11]), ([], []), ([], []), ([13, 14], [13, 14]), ([15], [15]), ([16], [16]), ([17], [17]), ([], []), ([], []), ([19, 20], [19, 20]), ([21], [21]), ([22], [22]), ([6, 12, 18, 23], [6, 12, 18, 23]), ([0, 24], [0, 24]), ([25, 25, 0, 1, 2, 3, 4, 5, 6, 7, 8, 9, 10, 11, 12, 13, 14, 15, 16, 17, 18, 19, 20, 21, 22, 23, 24, 25], [0, 25])])
def clearwayref02_Sum.B11 : List Nat := [0, 0, 0, 6, 14, 30, 62, 0, 0, 384, 896, 1920, 3968, 0, 0, 24576, 57344, 122880, 253952, 0, 0, 1572864, 3670016, 7864320, 16777214, 33554431, 67108863]
theorem clearwayref02_Sum.tab11 : rtab .any (opsOf Tryd.f33 11) = clearwayref02_Sum.T11 := by kernel_rfl
theorem clearwayref02_Sum.bits11 : waitsOk clearwayref02_Sum.T11.2 clearwayref02_Sum.B11 = true := by kernel_rfl
set_option maxHeartbeats 8000000 in
set_option maxRecDepth 100000 in
theorem clearwayref02_Sum.calls (k : Nat) (a0 : ByteArray) (r : ByteArray) (w : World) (h : clearwayref02_Sum.f k a0 = some r) :
  Calls Tryd.prog 33 #[.string a0] w fun e w' => e = .returned (.string r) ∧ Below w.heap.size w w' := by
 have HB := Aside0.mk (Below.refl w.heap.size w)
 have H : ((clearwayref02_extended.f k a0).bind fun t184 => (clearwayref02_Sum.l0 k (([1779033703, 3144134277, 1013904242, 2773480762, 1359893119, 2600822924, 528734635, 1541459225] : List Int)) t184 0)) = some r := h
 clear h
 obtain ⟨y181, hy181⟩ : ∃ y_ : List Int, y_ = (([1779033703, 3144134277, 1013904242, 2773480762, 1359893119, 2600822924, 528734635, 1541459225] : List Int)) := ⟨_, rfl⟩
 replace H : ((clearwayref02_extended.f k a0).bind fun t184 => (clearwayref02_Sum.l0 k y181 t184 0)) = some r := by first | (rw [hy181]; with_reducible exact H) | (have H2_ := (Option.bind_some _ _).symm.trans H; rw [hy181]; with_reducible exact H2_) | (have H2_ := (Option.bind_some _ _).symm.trans H; with_reducible exact H2_) | with_reducible exact H | (rw [hy181]; exact H) | exact H
 have Ny181 := Aside0.mk hy181
 clear hy181
 replace H := Option.bind_eq_some_iff.mp H
 obtain ⟨t184, A20, H⟩ := H
 replace H : (clearwayref02_Sum.l0 k y181 t184 0) = some r := H
 have A2 := Aside0.mk A20
 clear A20
 have H' := Aside0.mk H
 clear H
 go_enter Tryd.func33, Tryd.ntmps33
 go_wp2_with (first | ((with_reducible refine gate_dst (N := 8) rfl ?_); refine Kd.R_lit (Kd.int .u32) _ 69 ?hg (N := 8) ?hd (xs := ([1779033703, 3144134277, 1013904242, 2773480762, 1359893119, 2600822924, 528734635, 1541459225] : List Int)) (inner := [.int .u32 1779033703, .int .u32 3144134277, .int .u32 1013904242, .int .u32 2773480762, .int .u32 1359893119, .int .u32 2600822924, .int .u32 528734635, .int .u32 1541459225]) (ok := fun _ => True) (okp := fun _ => True) ?hr ?hp (fun _ hk => hk) trivial (Below.refl _ _) (Nat.le_refl _) (by simp) ?_; (case hd => rfl); (case hg => rfl); (case hr => first | (go_simp; done) | (go_simp; rfl)); (case hp => exact (Reps.one (show Kd.M (Kd.int .u32) _ _ _ 1779033703 [.int .u32 1779033703] from rfl) (Reps.one (show Kd.M (Kd.int .u32) _ _ _ 3144134277 [.int .u32 3144134277] from rfl) (Reps.one (show Kd.M (Kd.int .u32) _ _ _ 1013904242 [.int .u32 1013904242] from rfl) (Reps.one (show Kd.M (Kd.int .u32) _ _ _ 2773480762 [.int .u32 2773480762] from rfl) (Reps.one (show Kd.M (Kd.int .u32) _ _ _ 1359893119 [.int .u32 1359893119] from rfl) (Reps.one (show Kd.M (Kd.int .u32) _ _ _ 2600822924 [.int .u32 2600822924] from rfl) (Reps.one (show Kd.M (Kd.int .u32) _ _ _ 528734635 [.int .u32 528734635] from rfl) (Reps.one (show Kd.M (Kd.int .u32) _ _ _ 1541459225 [.int .u32 1541459225] from rfl) (Reps.none _ _)))))))))); intro v182 w3 ho4 hb hg_ hnew_; clear hg_ hnew_; (first | rw [← Ny181.out] at ho4 | (simp only [Int.reduceToNat] at ho4; rw [← Ny181.out] at ho4)); have n0_ := Aside0.mk (Kd.R_lower ho4 (below_size (by repeat (first | (with_reducible first | exact HB.out | apply below_alloc | apply pw_below_drewN | apply below_drew1) | exact HB.out)))); have n1_ := Aside0.mk (below_step (by repeat (first | (with_reducible first | exact HB.out | apply below_alloc | apply pw_below_drewN | apply below_drew1) | exact HB.out)) hb); clear HB; have HO183 := n0_; have HB := n1_; clear n0_ n1_; clear hb ho4) | ((with_reducible refine gate_callee (f := 57) rfl ?_); refine goesL_ (some 10) rfl rfl Tryd.func57 (by kernel_rfl) rfl #[.string a0] rfl (by (try simp only [List.map_toArray, List.map_cons, List.map_nil]); first | done | rfl | (simp only [List.length_drop, List.length_take]; rfl)) ?_; (with_reducible refine (clearwayref02_extended.calls k a0 t184 _ A2.out).mono ?_); rintro e w5 ⟨v185, rfl, ho0, hb⟩; refine ⟨_, rfl, ?_⟩; have n0_ := Aside0.mk (Kd.R_below (by (with_reducible repeat (first | apply Kd.R_alloc | apply Kd.R_drewN | apply Kd.R_drew)); exact HO183.out) hb); have n1_ := Aside0.mk (Kd.R_lower ho0 (below_size (by repeat (first | (with_reducible first | exact HB.out | apply below_alloc | apply pw_below_drewN | apply below_drew1) | exact HB.out)))); have n2_ := Aside0.mk (below_step (by repeat (first | (with_reducible first | exact HB.out | apply below_alloc | apply pw_below_drewN | apply below_drew1) | exact HB.out)) hb); clear HO183; clear HB; have HO183 := n0_; have HO186 := n1_; have HB := n2_; clear n0_ n1_ n2_; (try clear hb); (try clear hb2); (try clear hk); (try clear hi); (try clear ho0)))
 go_loopg [3, 5] k (fun kq v3 v5 w' => ∃ (x3_1 : List Int) (x5_1 : Int), v5 = .int .i64 x5_1 ∧ Aside0 (clearwayref02_Sum.l0 kq x3_1 t184 x5_1 = some r) ∧ Aside0 (kq ≤ k) ∧ Aside0 (Kd.R (Kd.int .u32) 69 w' w.heap.size (fun _ => True) v3 x3_1) ∧ Aside0 (Kd.R (Kd.int .u8) 5 w' w.heap.size (fun _ => True) v185 t184) ∧ Aside0 (Below w.heap.size w w'))
 case atStart => exact ⟨(y181), (0), (by first | rfl | (simp; done) | (simp [*]; done)), H', ⟨Nat.le_refl _⟩, ⟨by (with_reducible repeat (first | apply Kd.R_alloc | apply Kd.R_drewN | apply Kd.R_drew)); exact HO183.out⟩, ⟨by (with_reducible repeat (first | apply Kd.R_alloc | apply Kd.R_drewN | apply Kd.R_drew)); exact HO186.out⟩, ⟨by repeat (first | (with_reducible first | exact HB.out | apply below_alloc | apply pw_below_drewN | apply below_drew1) | exact HB.out)⟩⟩
 case round =>
  clear H'
  try clear p2
  try clear c3
  try clear c5
  obtain ⟨x3_1, x5_1, rfl, HA, HK1, HO_3, HO_4, HB⟩ := hrel
  cases gk with
  | zero => exact absurd HA.out (by simp [clearwayref02_Sum.l0])
  | succ k1 =>
   have H := HA.out
   clear HA
   simp only [clearwayref02_Sum.l0] at H
   by_cases c6 : x5_1 < (t184.length : Int)
   ·rw [if_pos c6] at H
    have c6b0 : decide (x5_1 < (t184.length : Int)) = true := decide_eq_true c6
    clear c6
    by_cases c7 : 0 ≤ x5_1
    ·rw [if_pos c7] at H
     have c7b0 := eq_true c7
     have c7b1 : decide (0 ≤ x5_1) = true := decide_eq_true c7
     clear c7
     by_cases c8 : x5_1 ≤ (wrap64 (x5_1 + 64))
     ·rw [if_pos c8] at H
      have c8b0 := eq_true c8
      have c8b1 : decide (x5_1 ≤ (wrap64 (x5_1 + 64))) = true := decide_eq_true c8
      by_cases c9 : (wrap64 (x5_1 + 64)) ≤ (t184.length : Int)
      ·rw [if_pos c9] at H
       have c9b0 := eq_true c9
       have c9b1 : decide ((wrap64 (x5_1 + 64)) ≤ (t184.length : Int)) = true := decide_eq_true c9
       obtain ⟨y187, hy187⟩ : ∃ y_ : List Int, y_ = ((t184.take ((wrap64 (x5_1 + 64)) : Int).toNat).drop (x5_1 : Int).toNat) := ⟨_, rfl⟩
       replace H : ((clearwayref02_block.f k1 x3_1 y187).bind fun t191 => (clearwayref02_Sum.l0 k1 t191 t184 (wrap64 (x5_1 + 64)))) = some r := by first | (rw [hy187]; with_reducible exact H) | (have H2_ := (Option.bind_some _ _).symm.trans H; rw [hy187]; with_reducible exact H2_) | (have H2_ := (Option.bind_some _ _).symm.trans H; with_reducible exact H2_) | with_reducible exact H | (rw [hy187]; exact H) | exact H
       have Ny187 := Aside0.mk hy187
       clear hy187
       replace H := Option.bind_eq_some_iff.mp H
       obtain ⟨t191, A100, H⟩ := H
       replace H : (clearwayref02_Sum.l0 k1 t191 t184 (wrap64 (x5_1 + 64))) = some r := H
       have A10 := Aside0.mk A100
       clear A100
       have H' := Aside0.mk H
       clear H
       obtain ⟨Ao11, co11, eo11⟩ := Kd.R_slice HO_4.out
       subst eo11
       have q12 : ((wrap64 (x5_1 + 64)) : Int) ≤ ((t184.length : Int) : Int) := of_decide_eq_true (by first | (with_reducible assumption) | assumption)
       obtain ⟨i012, hi012, _, hsz12, _⟩ := info_parts info5
       have hroom12 : t184.length ≤ co11 := (Kd.R_reads' HO_4.out).2.1
       have hC12 : Kd.C (Kd.int .u8) _ Ao11 t184.length t184 := (Kd.R_reads' HO_4.out).2.2
       have ql12 : (x5_1 : Int) ≤ ((wrap64 (x5_1 + 64)) : Int) := of_decide_eq_true (by first | (with_reducible assumption) | assumption)
       have q012 : (0 : Int) ≤ (x5_1 : Int) := of_decide_eq_true (by first | (with_reducible assumption) | assumption)
       have hcut12 := cut_mid (P := Tryd.prog) 46 5 .i64 .i64 Tryd.underlying46 hi012 1 hsz12 Ao11 t184.length co11 x5_1 (wrap64 (x5_1 + 64)) q012 ql12 q12 hroom12
       have hr12 := Kd.C_mid (lo := (x5_1 : Int).toNat) (hi := ((wrap64 (x5_1 + 64)) : Int).toNat) (c := co11) hC12 (by omega) (by omega) hroom12
       obtain ⟨A12, hA12⟩ : ∃ A1, A1 = (if co11 = (x5_1 : Int).toNat then Ao11 else (Ao11 : Option Addr).map (·.add ((x5_1 : Int).toNat * 1))) := ⟨_, rfl⟩
       obtain ⟨c12, hc12⟩ : ∃ c1, c1 = co11 - (x5_1 : Int).toNat := ⟨_, rfl⟩
       have hy12 : y187.length = ((wrap64 (x5_1 + 64)) : Int).toNat - (x5_1 : Int).toNat := (by rw [Ny187.out, List.length_drop, List.length_take] <;> omega)
       rw [show ((t184).take ((wrap64 (x5_1 + 64)) : Int).toNat).drop (x5_1 : Int).toNat = y187 from Ny187.out.symm] at hr12
       replace hr12 : Kd.C (Kd.int .u8) _ A12 y187.length y187 := (by rw [hA12]; exact hr12)
       rw [← hy12, ← hA12, ← hc12] at hcut12
       have HR190 := Aside0.mk hr12
       have HC190 := Aside0.mk (show y187.length ≤ c12 from by rw [hy12, hc12]; exact Nat.sub_le_sub_right (Nat.le_trans (by omega) hroom12) _)
       clear hr12 hC12 hroom12 hi012 hsz12 hc12
       have KY12 := Aside0.mk hy12
       have KA12 := Aside0.mk hA12
       clear hy12 hA12
       have KL12 := Aside0.mk (show ((wrap64 (x5_1 + 64)) : Int).toNat ≤ t184.length from by omega)
       have KM12 := Aside0.mk (show (x5_1 : Int).toNat ≤ ((wrap64 (x5_1 + 64)) : Int).toNat from by omega)
       replace q12 := eq_true q12
       obtain ⟨Ao13, co13, eo13⟩ := Kd.R_slice HO_3.out
       subst eo13
       go_wp2_with (first | ((with_reducible refine gate_callee (f := 58) rfl ?_); refine goesL_ (some 23) rfl rfl Tryd.func58 (by kernel_rfl) rfl #[.slice Ao13 x3_1.length co13, .slice A12 y187.length c12] rfl (by (try simp only [List.map_toArray, List.map_cons, List.map_nil]); first | done | rfl | (simp only [List.length_drop, List.length_take]; rfl)) ?_; (with_reducible refine (clearwayref02_block.calls k1 _ _ x3_1 _ _ y187 t191 _ ?side1 ?side2 ?side3 ?side4 A10.out).mono ?_); (case side1 => repeat (first | exact (Kd.R_reads' HO_3.out).2.2 | (with_reducible refine Kd.C_alloc ?_ _) | (with_reducible refine Kd.C_drewN ?_ _) | (with_reducible refine Kd.C_drew ?_))); (case side2 => exact (Kd.R_reads' HO_3.out).2.1); (case side3 => repeat (first | exact (by repeat (first | (with_reducible exact HR190.out) | (with_reducible refine Kd.C_alloc ?_ _) | (with_reducible refine Kd.C_drewN ?_ _) | (with_reducible refine Kd.C_drew ?_) | exact HR190.out)) | (with_reducible refine Kd.C_alloc ?_ _) | (with_reducible refine Kd.C_drewN ?_ _) | (with_reducible refine Kd.C_drew ?_))); (case side4 => exact HC190.out); rintro e w14 ⟨v192, rfl, ho0, hb⟩; refine ⟨_, rfl, ?_⟩; have n0_ := Aside0.mk (Kd.R_elder' (by (with_reducible repeat (first | apply Kd.R_alloc | apply Kd.R_drewN | apply Kd.R_drew)); exact HO_3.out) (Kd.R_base ho0) hb); have n1_ := Aside0.mk (Kd.R_below (by (with_reducible repeat (first | apply Kd.R_alloc | apply Kd.R_drewN | apply Kd.R_drew)); exact HO_4.out) hb); have n2_ := Aside0.mk (Kd.R_lower (Kd.R_new' ho0 (Kd.R_lt (by (with_reducible repeat (first | apply Kd.R_alloc | apply Kd.R_drewN | apply Kd.R_drew)); exact HO_3.out))) (below_size (by repeat (first | (with_reducible first | exact HB.out | apply below_alloc | apply pw_below_drewN | apply below_drew1) | exact HB.out)))); have n3_ := Aside0.mk (Kd.C_below (by repeat (first | (with_reducible exact HR190.out) | (with_reducible refine Kd.C_alloc ?_ _) | (with_reducible refine Kd.C_drewN ?_ _) | (with_reducible refine Kd.C_drew ?_) | exact HR190.out)) hb); have n4_ := Aside0.mk (below_step (by repeat (first | (with_reducible first | exact HB.out | apply below_alloc | apply pw_below_drewN | apply below_drew1) | exact HB.out)) hb); clear HO_3; clear HO_4; clear HR190; clear HB; have HO_3 := n0_; have HO_4 := n1_; have HO193 := n2_; have HR190 := n3_; have HB := n4_; clear n0_ n1_ n2_ n3_ n4_; (try clear hb); (try clear hb2); (try clear hk); (try clear hi); (try clear ho0)))
       go_roundg k1
       case measure => have := HK1.out; omega
       case rel => exact ⟨(t191), (wrap64 (x5_1 + 64)), (by first | rfl | (simp; done) | (simp [*]; done)), H', ⟨by have := HK1.out; omega⟩, ⟨by (with_reducible repeat (first | apply Kd.R_alloc | apply Kd.R_drewN | apply Kd.R_drew)); exact Kd.R_mono HO193.out (fun _ hk => trivial)⟩, ⟨by (with_reducible repeat (first | apply Kd.R_alloc | apply Kd.R_drewN | apply Kd.R_drew)); exact HO_4.out⟩, ⟨by repeat (first | (with_reducible first | exact HB.out | apply below_alloc | apply pw_below_drewN | apply below_drew1) | exact HB.out)⟩⟩
      ·rw [if_neg c9] at H
       exact absurd H (by simp)
     ·rw [if_neg c8] at H
      exact absurd H (by simp)
    ·rw [if_neg c7] at H
     exact absurd H (by simp)
   ·rw [if_neg c6] at H
    have c6b0 : decide (x5_1 < (t184.length : Int)) = false := decide_eq_false c6
    clear c6
    have H' := Aside0.mk H
    clear H
    obtain ⟨Ao15, co15, eo15⟩ := Kd.R_slice HO_4.out
    subst eo15
    go_wp2
    go_loopg [6, 7] k1 (fun kq v6 v7 w' => ∃ (x6_2 : List Int) (x7_2 : Int), v7 = .int .i64 x7_2 ∧ Aside0 (clearwayref02_Sum.l1 kq x3_1 x6_2 x7_2 = some r) ∧ Aside0 (kq ≤ k1) ∧ Aside0 (Kd.R (Kd.int .u32) 69 w' w.heap.size (fun _ => True) u3 x3_1) ∧ Aside0 (Kd.R (Kd.int .u8) 5 w' w.heap.size (fun _ => True) v6 x6_2) ∧ Aside0 (Below w.heap.size w w'))
    case atStart => exact ⟨(([] : List Int)), (0), (by first | rfl | (simp; done) | (simp [*]; done)), H', ⟨Nat.le_refl _⟩, ⟨by (with_reducible repeat (first | apply Kd.R_alloc | apply Kd.R_drewN | apply Kd.R_drew)); exact HO_3.out⟩, ⟨by first | exact Kd.R_nil _ _ _ _ _ | exact Kd.N_nil _ _ _ _ _ | exact Kd.V_nil _ _ _ _ _ | exact Kd.Q_nil _ _ _ _ _ | exact Kd.S_nil _ _ _ _ _⟩, ⟨by repeat (first | (with_reducible first | exact HB.out | apply below_alloc | apply pw_below_drewN | apply below_drew1) | exact HB.out)⟩⟩
    case round =>
     clear H'
     try clear c1
     try clear q1
     try clear p2
     try clear c3
     try clear c5
     try clear c6
     try clear c6b0
     try clear p6
     try clear c7
     try clear c7b0
     try clear c7b1
     try clear c8
     try clear c8b0
     try clear c8b1
     try clear c9
     try clear c9b0
     try clear c9b1
     try clear c12
     try clear q12
     try clear p2
     try clear q012
     try clear q12
     obtain ⟨x6_2, x7_2, rfl, HA, HK2, HO_3, HO_6, HB⟩ := hrel
     cases gk with
     | zero => exact absurd HA.out (by simp [clearwayref02_Sum.l1])
     | succ k2 =>
      have H := HA.out
      clear HA
      simp only [clearwayref02_Sum.l1] at H
      by_cases c16 : x7_2 < 8
      ·rw [if_pos c16] at H
       have c16b0 : decide (x7_2 < 8) = true := decide_eq_true c16
       clear c16
       by_cases c17 : 0 ≤ x7_2
       ·rw [if_pos c17] at H
        have c17b0 : decide (0 ≤ x7_2) = true := decide_eq_true c17
        clear c17
        by_cases c18 : x7_2 < (x3_1.length : Int)
        ·rw [if_pos c18] at H
         have c18b0 : decide (x7_2 < (x3_1.length : Int)) = true := decide_eq_true c18
         clear c18
         obtain ⟨y198, hy198⟩ : ∃ y_ : List Int, y_ = (([((rd x3_1 x7_2) / 16777216) % 256, ((rd x3_1 x7_2) / 65536) % 256, ((rd x3_1 x7_2) / 256) % 256, (rd x3_1 x7_2) % 256] : List Int)) := ⟨_, rfl⟩
         replace H : (if x6_2.length + y198.length < 140737488355328 then (clearwayref02_Sum.l1 k2 x3_1 (x6_2 ++ y198) (wrap64 (x7_2 + 1))) else (none)) = some r := by first | (rw [hy198]; with_reducible exact H) | (have H2_ := (Option.bind_some _ _).symm.trans H; rw [hy198]; with_reducible exact H2_) | (have H2_ := (Option.bind_some _ _).symm.trans H; with_reducible exact H2_) | with_reducible exact H | (rw [hy198]; exact H) | exact H
         have Ny198 := Aside0.mk hy198
         clear hy198
         by_cases c19 : x6_2.length + y198.length < 140737488355328
         ·rw [if_pos c19] at H
          have LMc19 := Aside0.mk c19
          clear c19
          obtain ⟨y201, hy201⟩ : ∃ y_ : List Int, y_ = (x6_2 ++ y198) := ⟨_, rfl⟩
          replace H : (clearwayref02_Sum.l1 k2 x3_1 y201 (wrap64 (x7_2 + 1))) = some r := by first | (rw [hy201]; with_reducible exact H) | (have H2_ := (Option.bind_some _ _).symm.trans H; rw [hy201]; with_reducible exact H2_) | (have H2_ := (Option.bind_some _ _).symm.trans H; with_reducible exact H2_) | with_reducible exact H | (rw [hy201]; exact H) | exact H
          have Ny201 := Aside0.mk hy201
          clear hy201
          have H' := Aside0.mk H
          clear H
          try go_wp2
          have n0_ := Aside0.mk (Kd.R_drew HO_3.out)
          have n1_ := Aside0.mk (Kd.R_drew HO_6.out)
          have n2_ := Aside0.mk (below_drew1 HB.out)
          clear HO_3
          clear HO_6
          clear HB
          have HO_3 := n0_
          have HO_6 := n1_
          have HB := n2_
          clear n0_ n1_ n2_
          obtain ⟨Ao21, co21, eo21⟩ := Kd.R_slice HO_3.out
          (first | subst eo21 | (injection eo21 with f1_ f2_ f3_; have f4_ := f1_.symm; have f5_ := f3_.symm; clear f1_ f2_ f3_; subst f4_; subst f5_))
          have p194 : 0 ≤ (x7_2 : Int) := of_decide_eq_true (by first | (with_reducible assumption) | assumption)
          have q194 : x7_2 < (x3_1.length : Int) := of_decide_eq_true (by first | (with_reducible assumption) | assumption)
          obtain ⟨ad194, e194, hx194_0⟩ := Kd.at_int (Kd.R_reads' HO_3.out).2.2 x7_2 p194 q194
          cases e194
          replace p194 := eq_true p194
          replace q194 := eq_true q194
          have p195 : 0 ≤ (x7_2 : Int) := of_decide_eq_true (by first | (with_reducible assumption) | assumption)
          have q195 : x7_2 < (x3_1.length : Int) := of_decide_eq_true (by first | (with_reducible assumption) | assumption)
          obtain ⟨ad195, e195, hx195_0⟩ := Kd.at_int (Kd.R_reads' HO_3.out).2.2 x7_2 p195 q195
          obtain rfl : ad194 = ad195 := (by injection e195)
          replace p195 := eq_true p195
          replace q195 := eq_true q195
          have p196 : 0 ≤ (x7_2 : Int) := of_decide_eq_true (by first | (with_reducible assumption) | assumption)
          have q196 : x7_2 < (x3_1.length : Int) := of_decide_eq_true (by first | (with_reducible assumption) | assumption)
          obtain ⟨ad196, e196, hx196_0⟩ := Kd.at_int (Kd.R_reads' HO_3.out).2.2 x7_2 p196 q196
          obtain rfl : ad194 = ad196 := (by injection e196)
          replace p196 := eq_true p196
          replace q196 := eq_true q196
          have p197 : 0 ≤ (x7_2 : Int) := of_decide_eq_true (by first | (with_reducible assumption) | assumption)
          have q197 : x7_2 < (x3_1.length : Int) := of_decide_eq_true (by first | (with_reducible assumption) | assumption)
          obtain ⟨ad197, e197, hx197_0⟩ := Kd.at_int (Kd.R_reads' HO_3.out).2.2 x7_2 p197 q197
          obtain rfl : ad194 = ad197 := (by injection e197)
          replace p197 := eq_true p197
          replace q197 := eq_true q197
          refine start_ (n := 27) (S := fun w' => w'.cell? (ad194.add (x7_2).toNat) = some (.int .u32 (rd x3_1 x7_2)) ∧ w'.cell? (ad194.add (x7_2).toNat) = some (.int .u32 (rd x3_1 x7_2)) ∧ w'.cell? (ad194.add (x7_2).toNat) = some (.int .u32 (rd x3_1 x7_2)) ∧ w'.cell? (ad194.add (x7_2).toNat) = some (.int .u32 (rd x3_1 x7_2))) (ds := [25]) #[false, false, false, false, false, false, false, false, false, false, false, false, false, false, false, false, false, false, false, false, false, false, false, false, false, false, false] (by kernel_rfl) rfl rfl ⟨hx194_0, hx195_0, hx196_0, hx197_0⟩ (fun hHeld => ?_); refine with_tabW clearwayref02_Sum.tab11 clearwayref02_Sum.bits11 (fun HT_ HW_ => ?_)
          generalize wr.drew = w20 at HO_3 HO_6 HB hx194_0 hx195_0 hx196_0 hx197_0 hHeld ⊢
          refine pure_ (i := 0) (N := some 28) (v := ?_) (a' := ?_) #[true, false, false, false, false, false, false, false, false, false, false, false, false, false, false, false, false, false, false, false, false, false, false, false, false, false, false] rfl rfl (any_of HT_.out (by kernel_rfl)) (fun _ _ _ h => h) (Or.inl ⟨by rfl, ?_⟩) ?_ ?_
          rotate_left
          ·intro w'
           go_simp
           with_reducible rfl
          rotate_left
          ·simp only [Act.put, List.setIfInBounds_toArray, List.set_cons_zero, List.set_cons_succ, i64_w, i32_w]
           rfl
          refine pure_ (i := 1) (N := some 29) (v := ?_) (a' := ?_) #[true, true, false, false, false, false, false, false, false, false, false, false, false, false, false, false, false, false, false, false, false, false, false, false, false, false, false] rfl rfl (any_of HT_.out (by kernel_rfl)) (fun _ _ _ h => h) (Or.inl ⟨by rfl, ?_⟩) ?_ ?_
          rotate_left
          ·intro w'
           go_simp
           with_reducible rfl
          rotate_left
          ·simp only [Act.put, List.setIfInBounds_toArray, List.set_cons_zero, List.set_cons_succ, i64_w, i32_w]
           rfl
          refine pure_ (i := 2) (N := some 30) (v := ?_) (a' := ?_) #[true, true, true, false, false, false, false, false, false, false, false, false, false, false, false, false, false, false, false, false, false, false, false, false, false, false, false] rfl rfl (any_of HT_.out (by kernel_rfl)) (fun _ _ _ h => h) (Or.inl ⟨by rfl, ?_⟩) ?_ ?_
          rotate_left
          ·intro w'
           go_simp
           with_reducible rfl
          rotate_left
          ·simp only [Act.put, List.setIfInBounds_toArray, List.set_cons_zero, List.set_cons_succ, i64_w, i32_w]
           rfl
          refine pure_ (i := 3) (N := some 31) (v := ?_) (a' := ?_) #[true, true, true, true, false, false, false, false, false, false, false, false, false, false, false, false, false, false, false, false, false, false, false, false, false, false, false] rfl rfl (any_of HT_.out (by kernel_rfl)) (fun _ _ _ h => h) (Or.inl ⟨by rfl, ?_⟩) ?_ ?_
          rotate_left
          ·intro w'
           go_simp
           with_reducible rfl
          rotate_left
          ·simp only [Act.put, List.setIfInBounds_toArray, List.set_cons_zero, List.set_cons_succ, i64_w, i32_w]
           rfl
          refine pure_ (i := 7) (N := some 35) (v := ?_) (a' := ?_) #[true, true, true, true, false, false, false, true, false, false, false, false, false, false, false, false, false, false, false, false, false, false, false, false, false, false, false] rfl rfl (any_of HT_.out (by kernel_rfl)) (fun _ _ _ h => h) (Or.inl ⟨by rfl, ?_⟩) ?_ ?_
          rotate_left
          ·intro w'
           go_simp
           with_reducible rfl
          rotate_left
          ·simp only [Act.put, List.setIfInBounds_toArray, List.set_cons_zero, List.set_cons_succ, i64_w, i32_w]
           rfl
          refine pure_ (i := 8) (N := some 36) (v := ?_) (a' := ?_) #[true, true, true, true, false, false, false, true, true, false, false, false, false, false, false, false, false, false, false, false, false, false, false, false, false, false, false] rfl rfl (any_of HT_.out (by kernel_rfl)) (fun _ _ _ h => h) (Or.inl ⟨by rfl, ?_⟩) ?_ ?_
          rotate_left
          ·intro w'
           go_simp
           with_reducible rfl
          rotate_left
          ·simp only [Act.put, List.setIfInBounds_toArray, List.set_cons_zero, List.set_cons_succ, i64_w, i32_w]
           rfl
          refine pure_ (i := 9) (N := some 37) (v := ?_) (a' := ?_) #[true, true, true, true, false, false, false, true, true, true, false, false, false, false, false, false, false, false, false, false, false, false, false, false, false, false, false] rfl rfl (any_of HT_.out (by kernel_rfl)) (fun _ _ _ h => h) (Or.inl ⟨by rfl, ?_⟩) ?_ ?_
          rotate_left
          ·intro w'
           go_simp
           with_reducible rfl
          rotate_left
          ·simp only [Act.put, List.setIfInBounds_toArray, List.set_cons_zero, List.set_cons_succ, i64_w, i32_w]
           rfl
          refine pure_ (i := 13) (N := some 41) (v := ?_) (a' := ?_) #[true, true, true, true, false, false, false, true, true, true, false, false, false, true, false, false, false, false, false, false, false, false, false, false, false, false, false] rfl rfl (any_of HT_.out (by kernel_rfl)) (fun _ _ _ h => h) (Or.inl ⟨by rfl, ?_⟩) ?_ ?_
          rotate_left
          ·intro w'
           go_simp
           with_reducible rfl
          rotate_left
          ·simp only [Act.put, List.setIfInBounds_toArray, List.set_cons_zero, List.set_cons_succ, i64_w, i32_w]
           rfl
          refine pure_ (i := 14) (N := some 42) (v := ?_) (a' := ?_) #[true, true, true, true, false, false, false, true, true, true, false, false, false, true, true, false, false, false, false, false, false, false, false, false, false, false, false] rfl rfl (any_of HT_.out (by kernel_rfl)) (fun _ _ _ h => h) (Or.inl ⟨by rfl, ?_⟩) ?_ ?_
          rotate_left
          ·intro w'
           go_simp
           with_reducible rfl
          rotate_left
          ·simp only [Act.put, List.setIfInBounds_toArray, List.set_cons_zero, List.set_cons_succ, i64_w, i32_w]
           rfl
          refine pure_ (i := 15) (N := some 43) (v := ?_) (a' := ?_) #[true, true, true, true, false, false, false, true, true, true, false, false, false, true, true, true, false, false, false, false, false, false, false, false, false, false, false] rfl rfl (any_of HT_.out (by kernel_rfl)) (fun _ _ _ h => h) (Or.inl ⟨by rfl, ?_⟩) ?_ ?_
          rotate_left
          ·intro w'
           go_simp
           with_reducible rfl
          rotate_left
          ·simp only [Act.put, List.setIfInBounds_toArray, List.set_cons_zero, List.set_cons_succ, i64_w, i32_w]
           rfl
          refine pure_ (i := 19) (N := some 47) (v := ?_) (a' := ?_) #[true, true, true, true, false, false, false, true, true, true, false, false, false, true, true, true, false, false, false, true, false, false, false, false, false, false, false] rfl rfl (any_of HT_.out (by kernel_rfl)) (fun _ _ _ h => h) (Or.inl ⟨by rfl, ?_⟩) ?_ ?_
          rotate_left
          ·intro w'
           go_simp
           with_reducible rfl
          rotate_left
          ·simp only [Act.put, List.setIfInBounds_toArray, List.set_cons_zero, List.set_cons_succ, i64_w, i32_w]
           rfl
          refine pure_ (i := 20) (N := some 48) (v := ?_) (a' := ?_) #[true, true, true, true, false, false, false, true, true, true, false, false, false, true, true, true, false, false, false, true, true, false, false, false, false, false, false] rfl rfl (any_of HT_.out (by kernel_rfl)) (fun _ _ _ h => h) (Or.inl ⟨by rfl, ?_⟩) ?_ ?_
          rotate_left
          ·intro w'
           go_simp
           with_reducible rfl
          rotate_left
          ·simp only [Act.put, List.setIfInBounds_toArray, List.set_cons_zero, List.set_cons_succ, i64_w, i32_w]
           rfl
          refine pure_ (i := 21) (N := some 49) (v := ?_) (a' := ?_) #[true, true, true, true, false, false, false, true, true, true, false, false, false, true, true, true, false, false, false, true, true, true, false, false, false, false, false] rfl rfl (any_of HT_.out (by kernel_rfl)) (fun _ _ _ h => h) (Or.inl ⟨by rfl, ?_⟩) ?_ ?_
          rotate_left
          ·intro w'
           go_simp
           with_reducible rfl
          rotate_left
          ·simp only [Act.put, List.setIfInBounds_toArray, List.set_cons_zero, List.set_cons_succ, i64_w, i32_w]
           rfl
          refine take_ (i := 4) (N := some 32) (v := ?_) (a' := ?_) #[true, true, true, true, true, false, false, true, true, true, false, false, false, true, true, true, false, false, false, true, true, true, false, false, false, false, false] rfl rfl (take_ofW HT_.out HW_.out (by kernel_rfl)) (fun _ _ _ h => h) (Or.inl ⟨by rfl, ?_⟩) hHeld ?_ ?_
          rotate_left
          ·rintro w' ⟨s0, s1, s2, s3⟩
           go_simp
           with_reducible rfl
          rotate_left
          ·simp only [Act.put, List.setIfInBounds_toArray, List.set_cons_zero, List.set_cons_succ, i64_w, i32_w]
           rfl
          refine pure_ (i := 5) (N := some 33) (v := ?_) (a' := ?_) #[true, true, true, true, true, true, false, true, true, true, false, false, false, true, true, true, false, false, false, true, true, true, false, false, false, false, false] rfl rfl (any_of HT_.out (by kernel_rfl)) (fun _ _ _ h => h) (Or.inl ⟨by rfl, ?_⟩) ?_ ?_
          rotate_left
          ·intro w'
           go_simp
           with_reducible rfl
          rotate_left
          ·simp only [Act.put, List.setIfInBounds_toArray, List.set_cons_zero, List.set_cons_succ, i64_w, i32_w]
           rfl
          refine pure_ (i := 6) (N := some 34) (v := ?_) (a' := ?_) #[true, true, true, true, true, true, true, true, true, true, false, false, false, true, true, true, false, false, false, true, true, true, false, false, false, false, false] rfl rfl (any_of HT_.out (by kernel_rfl)) (fun _ _ _ h => h) (Or.inl ⟨by rfl, ?_⟩) ?_ ?_
          rotate_left
          ·intro w'
           go_simp
           with_reducible rfl
          rotate_left
          ·simp only [Act.put, List.setIfInBounds_toArray, List.set_cons_zero, List.set_cons_succ, i64_w, i32_w]
           rfl
          refine take_ (i := 10) (N := some 38) (v := ?_) (a' := ?_) #[true, true, true, true, true, true, true, true, true, true, true, false, false, true, true, true, false, false, false, true, true, true, false, false, false, false, false] rfl rfl (take_ofW HT_.out HW_.out (by kernel_rfl)) (fun _ _ _ h => h) (Or.inl ⟨by rfl, ?_⟩) hHeld ?_ ?_
          rotate_left
          ·rintro w' ⟨s0, s1, s2, s3⟩
           go_simp
           with_reducible rfl
          rotate_left
          ·simp only [Act.put, List.setIfInBounds_toArray, List.set_cons_zero, List.set_cons_succ, i64_w, i32_w]
           rfl
          refine pure_ (i := 11) (N := some 39) (v := ?_) (a' := ?_) #[true, true, true, true, true, true, true, true, true, true, true, true, false, true, true, true, false, false, false, true, true, true, false, false, false, false, false] rfl rfl (any_of HT_.out (by kernel_rfl)) (fun _ _ _ h => h) (Or.inl ⟨by rfl, ?_⟩) ?_ ?_
          rotate_left
          ·intro w'
           go_simp
           with_reducible rfl
          rotate_left
          ·simp only [Act.put, List.setIfInBounds_toArray, List.set_cons_zero, List.set_cons_succ, i64_w, i32_w]
           rfl
          refine pure_ (i := 12) (N := some 40) (v := ?_) (a' := ?_) #[true, true, true, true, true, true, true, true, true, true, true, true, true, true, true, true, false, false, false, true, true, true, false, false, false, false, false] rfl rfl (any_of HT_.out (by kernel_rfl)) (fun _ _ _ h => h) (Or.inl ⟨by rfl, ?_⟩) ?_ ?_
          rotate_left
          ·intro w'
           go_simp
           with_reducible rfl
          rotate_left
          ·simp only [Act.put, List.setIfInBounds_toArray, List.set_cons_zero, List.set_cons_succ, i64_w, i32_w]
           rfl
          refine take_ (i := 16) (N := some 44) (v := ?_) (a' := ?_) #[true, true, true, true, true, true, true, true, true, true, true, true, true, true, true, true, true, false, false, true, true, true, false, false, false, false, false] rfl rfl (take_ofW HT_.out HW_.out (by kernel_rfl)) (fun _ _ _ h => h) (Or.inl ⟨by rfl, ?_⟩) hHeld ?_ ?_
          rotate_left
          ·rintro w' ⟨s0, s1, s2, s3⟩
           go_simp
           with_reducible rfl
          rotate_left
          ·simp only [Act.put, List.setIfInBounds_toArray, List.set_cons_zero, List.set_cons_succ, i64_w, i32_w]
           rfl
          refine pure_ (i := 17) (N := some 45) (v := ?_) (a' := ?_) #[true, true, true, true, true, true, true, true, true, true, true, true, true, true, true, true, true, true, false, true, true, true, false, false, false, false, false] rfl rfl (any_of HT_.out (by kernel_rfl)) (fun _ _ _ h => h) (Or.inl ⟨by rfl, ?_⟩) ?_ ?_
          rotate_left
          ·intro w'
           go_simp
           with_reducible rfl
          rotate_left
          ·simp only [Act.put, List.setIfInBounds_toArray, List.set_cons_zero, List.set_cons_succ, i64_w, i32_w]
           rfl
          refine pure_ (i := 18) (N := some 46) (v := ?_) (a' := ?_) #[true, true, true, true, true, true, true, true, true, true, true, true, true, true, true, true, true, true, true, true, true, true, false, false, false, false, false] rfl rfl (any_of HT_.out (by kernel_rfl)) (fun _ _ _ h => h) (Or.inl ⟨by rfl, ?_⟩) ?_ ?_
          rotate_left
          ·intro w'
           go_simp
           with_reducible rfl
          rotate_left
          ·simp only [Act.put, List.setIfInBounds_toArray, List.set_cons_zero, List.set_cons_succ, i64_w, i32_w]
           rfl
          refine take_ (i := 22) (N := some 50) (v := ?_) (a' := ?_) #[true, true, true, true, true, true, true, true, true, true, true, true, true, true, true, true, true, true, true, true, true, true, true, false, false, false, false] rfl rfl (take_ofW HT_.out HW_.out (by kernel_rfl)) (fun _ _ _ h => h) (Or.inl ⟨by rfl, ?_⟩) hHeld ?_ ?_
          rotate_left
          ·rintro w' ⟨s0, s1, s2, s3⟩
           go_simp
           with_reducible rfl
          rotate_left
          ·simp only [Act.put, List.setIfInBounds_toArray, List.set_cons_zero, List.set_cons_succ, i64_w, i32_w]
           rfl
          refine pure_ (i := 23) (N := some 51) (v := ?_) (a' := ?_) #[true, true, true, true, true, true, true, true, true, true, true, true, true, true, true, true, true, true, true, true, true, true, true, true, false, false, false] rfl rfl (any_of HT_.out (by kernel_rfl)) (fun _ _ _ h => h) (Or.inl ⟨by rfl, ?_⟩) ?_ ?_
          rotate_left
          ·intro w'
           go_simp
           with_reducible rfl
          rotate_left
          ·simp only [Act.put, List.setIfInBounds_toArray, List.set_cons_zero, List.set_cons_succ, i64_w, i32_w]
           rfl
          refine one_ (i := 24) (N := some 52) #[true, true, true, true, true, true, true, true, true, true, true, true, true, true, true, true, true, true, true, true, true, true, true, true, true, false, false] rfl rfl (one_of HT_.out (by kernel_rfl)) (by decide) (fun K hK => ?_)
          refine Kd.R_lit_step (Kd.int .u8) _ 5 ?hg (N := 52) ?hd (xs := ([((rd x3_1 x7_2) / 16777216) % 256, ((rd x3_1 x7_2) / 65536) % 256, ((rd x3_1 x7_2) / 256) % 256, (rd x3_1 x7_2) % 256] : List Int)) (inner := [.int .u8 (((rd x3_1 x7_2) / 16777216) % 256), .int .u8 (((rd x3_1 x7_2) / 65536) % 256), .int .u8 (((rd x3_1 x7_2) / 256) % 256), .int .u8 ((rd x3_1 x7_2) % 256)]) (ok := fun _ => True) (okp := fun _ => True) ?hr ?hp (fun _ hk => hk) trivial (Below.refl _ _) (Nat.le_refl _) (by simp) ?_; (case hd => rfl); (case hg => rfl); (case hr => first | (go_simp; done) | (go_simp; rfl)); (case hp => exact (Reps.one (show Kd.M (Kd.int .u8) _ _ _ (((rd x3_1 x7_2) / 16777216) % 256) [.int .u8 (((rd x3_1 x7_2) / 16777216) % 256)] from rfl) (Reps.one (show Kd.M (Kd.int .u8) _ _ _ (((rd x3_1 x7_2) / 65536) % 256) [.int .u8 (((rd x3_1 x7_2) / 65536) % 256)] from rfl) (Reps.one (show Kd.M (Kd.int .u8) _ _ _ (((rd x3_1 x7_2) / 256) % 256) [.int .u8 (((rd x3_1 x7_2) / 256) % 256)] from rfl) (Reps.one (show Kd.M (Kd.int .u8) _ _ _ ((rd x3_1 x7_2) % 256) [.int .u8 ((rd x3_1 x7_2) % 256)] from rfl) (Reps.none _ _))))))
          intro v199 w22 ho23 hb hg_ hnew_
          have HS0_ := (hb.cell (World.block_lt_of_cell? _ _ (hHeld.1))).trans (hHeld.1)
          have HS1_ := (hb.cell (World.block_lt_of_cell? _ _ (hHeld.2.1))).trans (hHeld.2.1)
          have HS2_ := (hb.cell (World.block_lt_of_cell? _ _ (hHeld.2.2.1))).trans (hHeld.2.2.1)
          have HS3_ := (hb.cell (World.block_lt_of_cell? _ _ (hHeld.2.2.2))).trans (hHeld.2.2.2)
          clear hg_ hnew_
          (first | rw [← Ny198.out] at ho23 | (simp only [Int.reduceToNat] at ho23; rw [← Ny198.out] at ho23))
          have n0_ := Aside0.mk (Kd.R_below (by (with_reducible repeat (first | apply Kd.R_alloc | apply Kd.R_drewN | apply Kd.R_drew)); exact HO_3.out) hb)
          have n1_ := Aside0.mk (Kd.R_elder' (by (with_reducible repeat (first | apply Kd.R_alloc | apply Kd.R_drewN | apply Kd.R_drew)); exact HO_6.out) (Kd.R_base ho23) hb)
          have n2_ := Aside0.mk (Kd.R_lower (Kd.R_new' ho23 (Kd.R_lt (by (with_reducible repeat (first | apply Kd.R_alloc | apply Kd.R_drewN | apply Kd.R_drew)); exact HO_6.out))) (below_size (by repeat (first | (with_reducible first | exact HB.out | apply below_alloc | apply pw_below_drewN | apply below_drew1) | exact HB.out))))
          have n3_ := Aside0.mk (below_step (by repeat (first | (with_reducible first | exact HB.out | apply below_alloc | apply pw_below_drewN | apply below_drew1) | exact HB.out)) hb)
          clear HO_3
          clear HO_6
          clear HB
          have HO_3 := n0_
          have HO_6 := n1_
          have HO200 := n2_
          have HB := n3_
          clear n0_ n1_ n2_ n3_
          clear hb ho23
          obtain ⟨Ao25, co25, eo25⟩ := Kd.R_slice HO200.out
          (first | subst eo25 | (injection eo25 with f1_ f2_ f3_; have f4_ := f1_.symm; have f5_ := f3_.symm; clear f1_ f2_ f3_; subst f4_; subst f5_))
          refine hK.out _ _ ⟨HS0_, HS1_, HS2_, HS3_⟩ (fun hHeld => ?_)
          clear hK K
          refine norm_ (a' := ?_) ?_ ?_
          rotate_left
          ·show Act.put _ (some 52) _ = _
           simp only [Act.put, List.setIfInBounds_toArray, List.set_cons_zero, List.set_cons_succ, i64_w, i32_w]
           rfl
          refine last_ (i := 25) (N := some 53) #[true, true, true, true, true, true, true, true, true, true, true, true, true, true, true, true, true, true, true, true, true, true, true, true, true, true, false] rfl rfl (one_of HT_.out (by kernel_rfl)) (by decide) (fun K hK => ?_)
          refine Kd.R_append_rows_step (Kd.int .u8) (w0 := w) w.heap.size (by rfl) (.tmp 28) (.tmp 52) 46 5 (.int .u8 0) 1 rfl Tryd.underlying46 info5 rfl (by decide) (by omega) u6 x6_2 y198 _ _ _ (fun k_ => some k_ ≠ (.slice Ao25 y198.length co25 : Value).ownBlock) (fun _ => False) rfl rfl ?aO ?aR (fun _ _ h => h) (fun _ h => h.elim) ?aF ?aB ?aS ?aL ?_
          (case aR => repeat (first | exact (Kd.R_reads' HO200.out).2.2 | (with_reducible refine Kd.C_alloc ?_ _) | (with_reducible refine Kd.C_drewN ?_ _) | (with_reducible refine Kd.C_drew ?_)))
          (case aB => exact (by repeat (first | (with_reducible first | exact HB.out | apply below_alloc | apply pw_below_drewN | apply below_drew1) | exact HB.out)))
          (case aF => exact (fun k_ hk => Kd.fresh' (Kd.R_lt (by (with_reducible repeat (first | apply Kd.R_alloc | apply Kd.R_drewN | apply Kd.R_drew)); exact HO200.out)) k_ hk))
          (case aO => exact (by (with_reducible repeat (first | apply Kd.R_alloc | apply Kd.R_drewN | apply Kd.R_drew)); exact Kd.R_mono HO_6.out (fun _ hk => hk.2)))
          (case aS => exact (below_size (by repeat (first | (with_reducible first | exact HB.out | apply below_alloc | apply pw_below_drewN | apply below_drew1) | exact HB.out))))
          (case aL => have := LMc19.out; omega)
          intro v202 w24 ho hb hg hat
          rw [← Ny201.out] at ho
          have n0_ := Aside0.mk (Kd.R_over' (by (with_reducible repeat (first | apply Kd.R_alloc | apply Kd.R_drewN | apply Kd.R_drew)); exact HO_3.out) (Kd.R_typed (by (with_reducible repeat (first | apply Kd.R_alloc | apply Kd.R_drewN | apply Kd.R_drew)); exact HO_6.out)) (by decide) hg)
          have n1_ := Aside0.mk (Kd.R_after (ok := (fun _ => True)) (by (with_reducible repeat (first | apply Kd.R_alloc | apply Kd.R_drewN | apply Kd.R_drew)); exact HO200.out) hg hat)
          have n2_ := Aside0.mk (hb)
          have n3_ := Aside0.mk (ho)
          clear HO_3
          clear HO200
          clear HB
          clear HO_6
          have HO_3 := n0_
          have HO200 := n1_
          have HB := n2_
          have HO203 := n3_
          clear n0_ n1_ n2_ n3_
          clear ho hb hg hat
          refine hK.out _ _ ?_
          clear hK K
          refine norm_ (a' := ?_) ?_ ?_
          rotate_left
          ·show Act.put _ (some 53) _ = _
           simp only [Act.put, List.setIfInBounds_toArray, List.set_cons_zero, List.set_cons_succ, i64_w, i32_w]
           rfl
          refine pure_ (i := 26) (N := some 6) (v := ?_) (a' := ?_) #[true, true, true, true, true, true, true, true, true, true, true, true, true, true, true, true, true, true, true, true, true, true, true, true, true, true, true] rfl rfl (any_of HT_.out (by kernel_rfl)) (fun _ _ _ h => h) (Or.inl ⟨by rfl, ?_⟩) ?_ ?_
          rotate_left
          ·intro w'
           go_simp
           with_reducible rfl
          rotate_left
          ·simp only [Act.put, List.setIfInBounds_toArray, List.set_cons_zero, List.set_cons_succ, i64_w, i32_w]
           rfl
          refine done_ (done_of HT_.out (by kernel_rfl)) ?_
          try go_wp2
          go_roundg k2
          case measure => have := HK1.out; have := HK2.out; omega
          case rel => exact ⟨(y201), (wrap64 (x7_2 + 1)), (by first | rfl | (simp; done) | (simp [*]; done)), H', ⟨by have := HK1.out; have := HK2.out; omega⟩, ⟨by (with_reducible repeat (first | apply Kd.R_alloc | apply Kd.R_drewN | apply Kd.R_drew)); exact HO_3.out⟩, ⟨by (with_reducible repeat (first | apply Kd.R_alloc | apply Kd.R_drewN | apply Kd.R_drew)); exact Kd.R_mono HO203.out (fun _ hk => trivial)⟩, ⟨by repeat (first | (with_reducible first | exact HB.out | apply below_alloc | apply pw_below_drewN | apply below_drew1) | exact HB.out)⟩⟩
         ·rw [if_neg c19] at H
          exact absurd H (by simp)
        ·rw [if_neg c18] at H
         exact absurd H (by simp)
       ·rw [if_neg c17] at H
        exact absurd H (by simp)
      ·rw [if_neg c16] at H
       have c16b0 : decide (x7_2 < 8) = false := decide_eq_false c16
       clear c16
       obtain rfl := Option.some.inj H
       have hcv26 := own_string (P := Tryd.prog) Tryd.underlying46 Tryd.underlying5 Tryd.underlying9 (Kd.own_of_R HO_6.out)
       go_wp2
       go_ret
       exact ⟨by first | rfl | (simp [errW_none, errW_some] <;> rfl) | (simp [*, errW_none, errW_some] <;> rfl), by repeat (first | (with_reducible first | exact HB.out | apply below_alloc | apply pw_below_drewN | apply below_drew1) | exact HB.out)⟩

/-! ### clearwayref02_Leaf: function 34 -/
def clearwayref02_Leaf.f (k : Nat) (a0 : ByteArray) : Option (ByteArray) := if 1 + a0.size ≤ 9223372036854775807 then ((clearwayref02_Sum.f k ((⟨#[0]⟩ : ByteArray) ++ a0)).bind fun t204 => (some t204)) else (none)
set_option maxHeartbeats 8000000 in
set_option maxRecDepth 100000 in
theorem clearwayref02_Leaf.calls (k : Nat) (a0 : ByteArray) (r : ByteArray) (w : World) (h : clearwayref02_Leaf.f k a0 = some r) :
  Calls Tryd.prog 34 #[.string a0] w fun e w' => e = .returned (.string r) ∧ Below w.heap.size w w' := by
 have HB := Aside0.mk (Below.refl w.heap.size w)
 have H : (if 1 + a0.size ≤ 9223372036854775807 then ((clearwayref02_Sum.f k ((⟨#[0]⟩ : ByteArray) ++ a0)).bind fun t204 => (some t204)) else (none)) = some r := h
 clear h
 by_cases c2 : 1 + a0.size ≤ 9223372036854775807
 ·rw [if_pos c2] at H
  have c2b0 := eq_true c2
  have c2b1 : decide (1 + a0.size ≤ 9223372036854775807) = true := decide_eq_true c2
  try have c2b2 : (9223372036854775807 < 1 + a0.size) = False := eq_false (Nat.not_lt.2 c2)
  replace H := Option.bind_eq_some_iff.mp H
  obtain ⟨t204, A30, H⟩ := H
  replace H : (some t204) = some r := H
  have A3 := Aside0.mk A30
  clear A30
  obtain rfl := Option.some.inj H
  go_enter Tryd.func34, Tryd.ntmps34
  go_wp2_with (first | ((with_reducible refine gate_callee (f := 33) rfl ?_); refine goesL_ (some 5) rfl rfl Tryd.func33 (by kernel_rfl) rfl #[.string ((⟨#[0]⟩ : ByteArray) ++ a0)] rfl (by (try simp only [List.map_toArray, List.map_cons, List.map_nil]); first | done | rfl | (simp only [List.length_drop, List.length_take]; rfl)) ?_; (with_reducible refine (clearwayref02_Sum.calls k ((⟨#[0]⟩ : ByteArray) ++ a0) t204 _ A3.out).mono ?_); rintro e w4 ⟨rfl, hb⟩; refine ⟨_, rfl, ?_⟩; have n0_ := Aside0.mk (below_step (by repeat (first | (with_reducible first | exact HB.out | apply below_alloc | apply pw_below_drewN | apply below_drew1) | exact HB.out)) hb); clear HB; have HB := n0_; clear n0_; (try clear hb); (try clear hb2); (try clear hk); (try clear hi)))
  go_ret
  exact ⟨by first | rfl | (simp [errW_none, errW_some] <;> rfl) | (simp [*, errW_none, errW_some] <;> rfl), by repeat (first | (with_reducible first | exact HB.out | apply below_alloc | apply pw_below_drewN | apply below_drew1) | exact HB.out)⟩
 ·rw [if_neg c2] at H
  exact absurd H (by simp)

/-! ### clearwayref02_Node: function 35 -/
def clearwayref02_Node.f (k : Nat) (a0 : ByteArray) (a1 : ByteArray) : Option (ByteArray) := if 1 + a0.size ≤ 9223372036854775807 then (if ((⟨#[1]⟩ : ByteArray) ++ a0).size + a1.size ≤ 9223372036854775807 then ((clearwayref02_Sum.f k (((⟨#[1]⟩ : ByteArray) ++ a0) ++ a1)).bind fun t205 => (some t205)) else (none)) else (none)
set_option maxHeartbeats 8000000 in
set_option maxRecDepth 100000 in
theorem clearwayref02_Node.calls (k : Nat) (a0 : ByteArray) (a1 : ByteArray) (r : ByteArray) (w : World) (h : clearwayref02_Node.f k a0 a1 = some r) :
  Calls Tryd.prog 35 #[.string a0, .string a1] w fun e w' => e = .returned (.string r) ∧ Below w.heap.size w w' := by
 have HB := Aside0.mk (Below.refl w.heap.size w)
 have H : (if 1 + a0.size ≤ 9223372036854775807 then (if ((⟨#[1]⟩ : ByteArray) ++ a0).size + a1.size ≤ 9223372036854775807 then ((clearwayref02_Sum.f k (((⟨#[1]⟩ : ByteArray) ++ a0) ++ a1)).bind fun t205 => (some t205)) else (none)) else (none)) = some r := h
 clear h
 by_cases c3 : 1 + a0.size ≤ 9223372036854775807
 ·rw [if_pos c3] at H
  have c3b0 := eq_true c3
  have c3b1 : decide (1 + a0.size ≤ 9223372036854775807) = true := decide_eq_true c3
  try have c3b2 : (9223372036854775807 < 1 + a0.size) = False := eq_false (Nat.not_lt.2 c3)
  by_cases c4 : ((⟨#[1]⟩ : ByteArray) ++ a0).size + a1.size ≤ 9223372036854775807
  ·rw [if_pos c4] at H
   have c4b0 := eq_true c4
   have c4b1 : decide (((⟨#[1]⟩ : ByteArray) ++ a0).size + a1.size ≤ 9223372036854775807) = true := decide_eq_true c4
   try have c4b2 : (9223372036854775807 < ((⟨#[1]⟩ : ByteArray) ++ a0).size + a1.size) = False := eq_false (Nat.not_lt.2 c4)
   obtain ⟨yc4, hyc4⟩ : ∃ u_ : ByteArray, ((⟨#[1]⟩ : ByteArray) ++ a0) ++ a1 = u_ := ⟨_, rfl⟩
   try rw [hyc4] at H
   replace H := Option.bind_eq_some_iff.mp H
   obtain ⟨t205, A50, H⟩ := H
   replace H : (some t205) = some r := H
   have A5 := Aside0.mk A50
   clear A50
   obtain rfl := Option.some.inj H
   go_enter Tryd.func35, Tryd.ntmps35
   go_wp2_with (first | ((with_reducible refine gate_callee (f := 33) rfl ?_); refine goesL_ (some 9) rfl rfl Tryd.func33 (by kernel_rfl) rfl #[.string yc4] rfl (by (try simp only [List.map_toArray, List.map_cons, List.map_nil]); first | done | rfl | (simp only [List.length_drop, List.length_take]; rfl)) ?_; (with_reducible refine (clearwayref02_Sum.calls k yc4 t205 _ A5.out).mono ?_); rintro e w6 ⟨rfl, hb⟩; refine ⟨_, rfl, ?_⟩; have n0_ := Aside0.mk (below_step (by repeat (first | (with_reducible first | exact HB.out | apply below_alloc | apply pw_below_drewN | apply below_drew1) | exact HB.out)) hb); clear HB; have HB := n0_; clear n0_; (try clear hb); (try clear hb2); (try clear hk); (try clear hi)))
   go_ret
   exact ⟨by first | rfl | (simp [errW_none, errW_some] <;> rfl) | (simp [*, errW_none, errW_some] <;> rfl), by repeat (first | (with_reducible first | exact HB.out | apply below_alloc | apply pw_below_drewN | apply below_drew1) | exact HB.out)⟩
  ·rw [if_neg c4] at H
   exact absurd H (by simp)
 ·rw [if_neg c3] at H
  exact absurd H (by simp)

/-! ### clearwayref02_Chain: function 37 -/
/-! ### clearwaylaw02_DigestSumMatchesReference: function 10 -/
end Go.Proofs.YtjkdenldddjcnaaDoor.Dm

namespace Go.Proofs.YtjkdenldddjcnaaDoor.Dh
open Go.RowKit Go.Proofs.YtjkdenldddjcnaaDoor.Sha Go.Proofs.YtjkdenldddjcnaaDoor.Df Go.Proofs.YtjkdenldddjcnaaDoorW.PrintWords Go.Proofs.YtjkdenldddjcnaaDoorW.PrintLast Go.Proofs.YtjkdenldddjcnaaDoorW.PrintMore
attribute [local go_sem] max2_int min2_int max_two min_two max_three min_three max_four min_four   -- for this text's walks alone
set_option linter.unusedVariables false
set_option linter.unusedSimpArgs false

-- NOT PRINTED: function 53 (digest_marked)

-- NOT PRINTED: function 54 (slices_Chunk_byte_byte)

-- NOT PRINTED: function 67 (digest_schedule)

-- NOT PRINTED: function 55 (digest_words_add)

-- NOT PRINTED: function 56 (digest_words_digest)

-- NOT PRINTED: function 44 (slices_Backward_string_string)

/-! ### slices_Reverse_string_string: function 41 -/
-- NOT PRINTED: function 73 (slices_IndexFunc_string_string)

-- NOT PRINTED: function 62 (slices_ContainsFunc_string_string)

-- NOT PRINTED: function 47 (digest_side)

/-! ### digest_side_join: function 48 -/
/-! ### clearwaylaw02_sides: function 28 -/
/-! ### clearwaylaw02_DigestExtensionBinding: function 8 -/
end Go.Proofs.YtjkdenldddjcnaaDoor.Dh

set_option linter.unusedVariables false
set_option linter.unusedSimpArgs false
namespace Go.Proofs.YtjkdenldddjcnaaDoor.Sha
open Go Go.RowKit Go.Proofs.YtjkdenldddjcnaaDoor.Df Go.Proofs.YtjkdenldddjcnaaDoor.Dh Go.Proofs.YtjkdenldddjcnaaDoorW.PrintWords Go.Proofs.YtjkdenldddjcnaaDoorW.PrintLast Go.Proofs.YtjkdenldddjcnaaDoorW.PrintMore

end Go.Proofs.YtjkdenldddjcnaaDoor.Sha

set_option linter.unusedVariables false
set_option linter.unusedSimpArgs false
namespace Go.Proofs.YtjkdenldddjcnaaDoor.Sha
open Go Go.RowKit Go.Proofs.YtjkdenldddjcnaaDoor.Df Go.Proofs.YtjkdenldddjcnaaDoorW.PrintWords Go.Proofs.YtjkdenldddjcnaaDoorW.PrintLast Go.Proofs.YtjkdenldddjcnaaDoorW.PrintMore

theorem merge_fuel : ∀ (k k' : Nat) (st : St), st.length ≤ k → st.length ≤ k' → mergeF k st = mergeF k' st := by
 intro k
 induction k with
 | zero =>
  intro k' st h h'
  have : st = [] := List.length_eq_zero_iff.1 (by omega)
  subst this
  cases k' <;> simp [mergeF]
 | succ k ih =>
  intro k' st h h'
  cases k' with
  | zero =>
   have : st = [] := List.length_eq_zero_iff.1 (by omega)
   subst this
   simp [mergeF]
  | succ k' =>
   match st, h, h' with
   | [], _, _ => simp [mergeF]
   | [p], _, _ => simp [mergeF]
   | (b, s) :: (a, t) :: r, h, h' =>
    simp only [mergeF]
    split
    ·exact ih _ _ (by simp at h ⊢; omega) (by simp at h' ⊢; omega)
    ·rfl
theorem merge_bottom (x : ByteArray) (s : Nat) : ∀ (k : Nat) (st : St), st ≠ [] → (st.map (·.2)).sum < s → mergeF k (st ++ [(x, s)]) = mergeF k st ++ [(x, s)] := by
 intro k
 induction k with
 | zero => intro st _ _; rfl
 | succ k ih =>
  intro st hne hs
  match st, hne, hs with
  | [(b, u)], _, hs =>
   simp only [List.cons_append, List.nil_append, mergeF]
   rw [if_neg (by simp at hs; omega)]
  | (b, u) :: (a, t) :: r, _, hs =>
   simp only [List.cons_append, mergeF]
   split
   ·have := ih ((nodeF a b, 2 * u) :: r) (by simp) (by simp at hs ⊢; omega)
    simpa using this
   ·rfl
theorem step_good {st : St} {i : Nat} (h : Good st i) (x : ByteArray) : Good (stepF st x) (i + 1) := Good.mergeF _ (h.leaf x)
theorem fold_bottom (x : ByteArray) (s : Nat) : ∀ (l : List ByteArray) (st : St) (i : Nat), Good st i → i + l.length < s → l.foldl stepF (st ++ [(x, s)]) = l.foldl stepF st ++ [(x, s)] := by
 intro l
 induction l with
 | nil => intro st i _ _; rfl
 | cons y l ih =>
  intro st i hg hs
  simp only [List.length_cons] at hs
  rw [List.foldl_cons, List.foldl_cons]
  have e : stepF (st ++ [(x, s)]) y = stepF st y ++ [(x, s)] := by
   unfold stepF
   have h1 := merge_bottom x s ((st ++ [(x, s)]).length + 1) ((leafF y, 1) :: st) (by simp) (by have := hg.sum; simp; omega)
   rw [List.cons_append] at h1
   rw [h1, merge_fuel _ (st.length + 1) ((leafF y, 1) :: st) (by simp) (by simp)]
  rw [e]
  exact ih _ (i + 1) (step_good hg y) (by omega)
theorem root_one (x : ByteArray) : rootF [x] = leafF x := by
 unfold rootF foldF
 rw [List.foldl_cons, List.foldl_nil]
 simp [stepF, mergeF, endF]
theorem merge_apart (k : Nat) (x : ByteArray) (s : Nat) (st : St) (h : ∀ p ∈ st.head?, p.2 ≠ s) : mergeF k ((x, s) :: st) = (x, s) :: st := by
 cases k with
 | zero => rfl
 | succ k =>
  match st, h with
  | [], _ => simp [mergeF]
  | (a, t) :: r, h =>
   simp only [mergeF]
   rw [if_neg (h (a, t) (by simp))]
theorem fold_full : ∀ (e : Nat) (l : List ByteArray), l.length = 2 ^ e → ∀ st : St, (∀ p ∈ st.head?, 2 ^ e ≤ p.2) → l.foldl stepF st = mergeF (st.length + 1) ((rootF l, 2 ^ e) :: st) := by
 intro e
 induction e with
 | zero =>
  intro l hl st _
  match l, hl with
  | [x], _ => rw [root_one, List.foldl_cons, List.foldl_nil]; rfl
 | succ e ih =>
  intro l hl st hst
  have hp : 0 < 2 ^ e := Nat.two_pow_pos e
  have h2 : 2 ^ (e + 1) = 2 * 2 ^ e := by rw [Nat.pow_succ]; omega
  have hla : (l.take (2 ^ e)).length = 2 ^ e := by rw [List.length_take]; omega
  have hlb : (l.drop (2 ^ e)).length = 2 ^ e := by rw [List.length_drop]; omega
  have key : ∀ st : St, (∀ p ∈ st.head?, 2 ^ (e + 1) ≤ p.2) → l.foldl stepF st = mergeF (st.length + 1) ((nodeF (rootF (l.take (2 ^ e))) (rootF (l.drop (2 ^ e))), 2 ^ (e + 1)) :: st) := by
   intro st hst
   have h1 : l.foldl stepF st = (l.drop (2 ^ e)).foldl stepF ((l.take (2 ^ e)).foldl stepF st) := by rw [← List.foldl_append, List.take_append_drop]
   rw [h1, ih _ hla st (fun p hp' => by have := hst p hp'; omega), merge_apart _ _ _ _ (fun p hp' => by have := hst p hp'; omega), ih _ hlb _ (fun p hp' => by simp at hp'; subst hp'; simp)]
   rw [List.length_cons]
   show (if 2 ^ e = 2 ^ e then mergeF (st.length + 1) ((nodeF (rootF (l.take (2 ^ e))) (rootF (l.drop (2 ^ e))), 2 * 2 ^ e) :: st) else _) = _
   rw [if_pos rfl, h2]
  have hr : rootF l = nodeF (rootF (l.take (2 ^ e))) (rootF (l.drop (2 ^ e))) := by
   have h3 := key [] (fun p hp' => by simp at hp')
   have h4 : foldF l = mergeF 1 [(nodeF (rootF (l.take (2 ^ e))) (rootF (l.drop (2 ^ e))), 2 ^ (e + 1))] := h3
   unfold rootF
   rw [h4]
   simp [mergeF, endF]
   rfl
  rw [key st hst, hr]
theorem foldF_full (e : Nat) (l : List ByteArray) (h : l.length = 2 ^ e) : foldF l = [(rootF l, 2 ^ e)] := by
 have h1 := fold_full e l h [] (fun p hp => by simp at hp)
 have h2 : foldF l = mergeF 1 [(rootF l, 2 ^ e)] := h1
 rw [h2]
 simp [mergeF]
theorem end_cons (x : ByteArray) (s : Nat) (r : St) : endF ((x, s) :: r) = r.foldl (fun out p => nodeF p.1 out) x := rfl
theorem end_bottom (x : ByteArray) (s : Nat) : ∀ (st : St), st ≠ [] → endF (st ++ [(x, s)]) = nodeF x (endF st) := by
 intro st h
 match st, h with
 | (y, t) :: r, _ =>
  rw [List.cons_append, end_cons, end_cons, List.foldl_append]
  rfl
theorem root_split (l : List ByteArray) (b : Nat) (h1 : 2 ^ b < l.length) (h2 : l.length ≤ 2 ^ (b + 1)) : rootF l = nodeF (rootF (l.take (2 ^ b))) (rootF (l.drop (2 ^ b))) := by
 rw [Nat.pow_succ] at h2
 have hla : (l.take (2 ^ b)).length = 2 ^ b := by rw [List.length_take]; omega
 have hld : (l.drop (2 ^ b)).length = l.length - 2 ^ b := by rw [List.length_drop]
 have h3 : foldF l = (l.drop (2 ^ b)).foldl stepF [(rootF (l.take (2 ^ b)), 2 ^ b)] := by
  rw [← foldF_full b _ hla]
  unfold foldF
  rw [← List.foldl_append, List.take_append_drop]
 by_cases hq : (l.drop (2 ^ b)).length = 2 ^ b
 ·rw [fold_full b _ hq _ (fun p hp => by simp at hp; subst hp; simp)] at h3
  have h4 : foldF l = [(nodeF (rootF (l.take (2 ^ b))) (rootF (l.drop (2 ^ b))), 2 * 2 ^ b)] := by
   rw [h3]
   simp [mergeF]
  show endF (foldF l) = _
  rw [h4]
  rfl
 ·have hg : Good ([] : St) 0 := ⟨fun p hp => (by cases hp), rfl⟩
  have h4 := fold_bottom (rootF (l.take (2 ^ b))) (2 ^ b) (l.drop (2 ^ b)) [] 0 hg (by omega)
  rw [List.nil_append] at h4
  rw [h4] at h3
  have hg2 := foldF_good (l.drop (2 ^ b)) [] 0 hg
  have hne : (l.drop (2 ^ b)).foldl stepF [] ≠ [] := by
   intro hn
   have := hg2.sum
   rw [hn] at this
   simp at this
   omega
  show endF (foldF l) = _
  rw [h3, end_bottom _ _ _ hne]
  rfl
theorem root_left (l : List ByteArray) (h : 2 ≤ l.length) (h3 : l.length ≤ 9223372036854775807) : rootF l = nodeF (rootF (l.take (leftN l.length))) (rootF (l.drop (leftN l.length))) := by
 obtain ⟨b, hb, _, h4, h5⟩ := left_exp l.length h h3
 rw [hb]
 exact root_split l b h4 h5
theorem end_size : ∀ (st : St) (i : Nat), Good st i → (endF st).size = 32 := by
 intro st i h
 match st, h with
 | [], _ => exact sumF_size _
 | (x, s) :: r, h =>
  rw [end_cons]
  exact fold_size (fun p : ByteArray × Nat => p.1) r x (h.h (x, s) List.mem_cons_self).1
theorem root_size (l : List ByteArray) : (rootF l).size = 32 := end_size _ _ (foldF_good l [] 0 ⟨fun p hp => (by cases hp), rfl⟩)
/-- What Extension pushes: the roots along the path, and at last the root of the part, if it is not a begin of the whole. -/
def extP : Nat → List ByteArray → Nat → Bool → List ByteArray
 | 0, _, _, _ => []
 | f + 1, l, m, wh => if m < l.length then (if leftN l.length < m then rootF (l.take (leftN l.length)) :: extP f (l.drop (leftN l.length)) (m - leftN l.length) false else rootF (l.drop (leftN l.length)) :: extP f (l.take (leftN l.length)) m wh) else if wh = true then [] else [rootF l]
end Go.Proofs.YtjkdenldddjcnaaDoor.Sha

set_option linter.unusedVariables false
set_option linter.unusedSimpArgs false
namespace Go.Proofs.YtjkdenldddjcnaaDoor.Sha
open Go Go.RowKit Go.Proofs.YtjkdenldddjcnaaDoor.Dm Go.Proofs.YtjkdenldddjcnaaDoorW.PrintWords Go.Proofs.YtjkdenldddjcnaaDoorW.PrintLast Go.Proofs.YtjkdenldddjcnaaDoorW.PrintMore

theorem bt_bits (s : ByteArray) (i : Nat) (h : i < s.size) : bt s (i : Int) = ub ((bits8 s).getD i 0) := by
 unfold bt bits8 ub
 rw [Int.toNat_natCast, dif_pos h, List.getD_eq_getElem?_getD, List.getElem?_map]
 have : s.data.toList[i]? = some (s[i]'h) := by
  rw [Array.getElem?_toList, Array.getElem?_eq_getElem (show i < s.data.size from h)]
  rfl
 rw [this]
 rfl
theorem ext_a (s : ByteArray) (hs : s.size ≤ 2000000) : ∀ (d i k : Nat), i + d = s.size →
  clearwayref02_extended.l0 (k + d + 1) s (((bits8 s).take i).map ub) (i : Int) = clearwayref02_extended.l1 k s ((bits8 s ++ [128]).map ub) := by
 intro d
 have hb := bits8_length s
 induction d with
 | zero =>
  intro i k h
  have hi : i = s.size := by omega
  have ht : (bits8 s).take i = bits8 s := List.take_of_length_le (by omega)
  rw [ht, clearwayref02_extended.l0, if_neg (by omega), if_pos (by rw [List.length_map]; omega), List.map_append]
  rfl
 | succ d ih =>
  intro i k h
  have hw : wrap64 ((i : Int) + 1) = ((i + 1 : Nat) : Int) := by unfold wrap64; omega
  have hg : (bits8 s)[i]? = some ((bits8 s).getD i 0) := by
   rw [List.getD_eq_getElem?_getD, List.getElem?_eq_getElem (by omega)]
   rfl
  have e : ((bits8 s).take i).map ub ++ [ub ((bits8 s).getD i 0)] = ((bits8 s).take (i + 1)).map ub := by
   rw [List.take_add_one, hg, List.map_append]
   rfl
  rw [show k + (d + 1) + 1 = (k + d + 1) + 1 by omega, clearwayref02_extended.l0, if_pos (by omega), if_pos (by omega), if_pos (by rw [List.length_map, List.length_take]; omega), bt_bits s i (by omega), e, hw]
  exact ih (i + 1) k (by omega)
theorem ext_b (s : ByteArray) (hs : s.size ≤ 2000000) : ∀ (d z k : Nat), z + d = zs s.size →
  clearwayref02_extended.l1 (k + d + 1) s ((bits8 s ++ [128] ++ List.replicate z 0).map ub) = clearwayref02_extended.l2 k s ((bits8 s ++ [128] ++ List.replicate (zs s.size) 0).map ub) 7 := by
 intro d
 have hb := bits8_length s
 induction d with
 | zero =>
  intro z k h
  have hz : z = zs s.size := by omega
  subst hz
  rw [clearwayref02_extended.l1, if_pos]
  rw [List.length_map, List.length_append, List.length_append, List.length_replicate, hb]
  unfold zs
  simp only [List.length_cons, List.length_nil]
  omega
 | succ d ih =>
  intro z k h
  have hlen : ((bits8 s ++ [128] ++ List.replicate z 0).map ub).length = s.size + 1 + z := by
   rw [List.length_map, List.length_append, List.length_append, List.length_replicate, hb]; rfl
  have e : (bits8 s ++ [128] ++ List.replicate z 0).map ub ++ [0] = (bits8 s ++ [128] ++ List.replicate (z + 1) 0).map ub := by
   rw [List.replicate_succ', ← List.append_assoc, List.map_append (l₁ := bits8 s ++ [128] ++ List.replicate z 0)]
   rfl
  rw [show k + (d + 1) + 1 = (k + d + 1) + 1 by omega, clearwayref02_extended.l1, if_neg (by rw [hlen]; unfold zs at h; omega), if_pos (by rw [hlen]; unfold zs at h; omega), e]
  exact ih (z + 1) k (by omega)
theorem lens_at (n j : Nat) (hn : n ≤ 2000000) (hj : j < 8) : (shr .i64 (wrap64 (8 * (n : Int))) (wrap64 (8 * (7 - (j : Int))))) % 256 = ub (lenB n j) := by
 have h1 : wrap64 (8 * (n : Int)) = ((8 * n : Nat) : Int) := by unfold wrap64; omega
 have h2 : wrap64 (8 * (7 - (j : Int))) = ((8 * (7 - j) : Nat) : Int) := by unfold wrap64; omega
 rw [h1, h2]
 unfold shr ub lenB
 rw [show min ((8 * (7 - j) : Nat) : Int).toNat (IntKind.bits .i64) = 8 * (7 - j) by simp [IntKind.bits]; omega, BitVec.toNat_ofNat]
 have : ((2 : Int) ^ (8 * (7 - j))) = ((2 ^ (8 * (7 - j)) : Nat) : Int) := by simp
 rw [this]
 omega
theorem ext_c (s : ByteArray) (hs : s.size ≤ 2000000) (P : List (BitVec 8)) (hP : P.length ≤ 3000000) : ∀ (d j k : Nat), j + d = 8 →
  clearwayref02_extended.l2 (k + d + 1) s ((P ++ lens s.size j).map ub) (7 - (j : Int)) = some ((P ++ lens s.size 8).map ub) := by
 intro d
 induction d with
 | zero =>
  intro j k h
  have : j = 8 := by omega
  subst this
  rw [clearwayref02_extended.l2, if_neg (by decide)]
 | succ d ih =>
  intro j k h
  have hl := lens_length s.size j
  have h2 : wrap64 (8 * (7 - (j : Int))) = ((8 * (7 - j) : Nat) : Int) := by unfold wrap64; omega
  have hw : wrap64 (7 - (j : Int) - 1) = 7 - ((j + 1 : Nat) : Int) := by unfold wrap64; omega
  have e : (P ++ lens s.size j).map ub ++ [ub (lenB s.size j)] = (P ++ lens s.size (j + 1)).map ub := by
   rw [lens, ← List.append_assoc, List.map_append (l₁ := P ++ lens s.size j)]
   rfl
  rw [show k + (d + 1) + 1 = (k + d + 1) + 1 by omega, clearwayref02_extended.l2, if_pos (by omega), if_pos (by rw [h2]; omega), if_pos (by rw [List.length_map, List.length_append, hl]; omega), lens_at s.size j hs (by omega), hw, e]
  exact ih (j + 1) k (by omega)
theorem extended_f (s : ByteArray) (hs : s.size ≤ 2000000) (k : Nat) (hk : s.size + 100 ≤ k) : clearwayref02_extended.f k s = some ((padded s).map ub) := by
 unfold clearwayref02_extended.f
 have hb := bits8_length s
 have hz : zs s.size ≤ 63 := by unfold zs; omega
 obtain ⟨m, rfl⟩ : ∃ m, k = m + 8 + 1 + zs s.size + 1 + s.size + 1 := ⟨k - (8 + 1 + zs s.size + 1 + s.size + 1), by omega⟩
 have h0 := ext_a s hs s.size 0 (m + 8 + 1 + zs s.size + 1) (by omega)
 have e0 : clearwayref02_extended.l0 (m + 8 + 1 + zs s.size + 1 + s.size + 1) s [] 0 = clearwayref02_extended.l1 (m + 8 + 1 + zs s.size + 1) s ((bits8 s ++ [128]).map ub) := h0
 have h1 := ext_b s hs (zs s.size) 0 (m + 8 + 1) (by omega)
 rw [List.replicate_zero, List.append_nil] at h1
 have h2 := ext_c s hs (bits8 s ++ [128] ++ List.replicate (zs s.size) 0) (by rw [List.length_append, List.length_append, List.length_replicate, hb]; simp; omega) 8 0 m rfl
 rw [show lens s.size 0 = [] from rfl, List.append_nil] at h2
 rw [e0, h1]
 exact h2
theorem b24 (x : B) : (u x / (16777216 : Int)) % (256 : Int) = ub (low (x >>> 24)) := by rw [shr24, ← wrap_low]; rfl
theorem b16 (x : B) : (u x / (65536 : Int)) % (256 : Int) = ub (low (x >>> 16)) := by rw [shr16, ← wrap_low]; rfl
theorem b8 (x : B) : (u x / (256 : Int)) % (256 : Int) = ub (low (x >>> 8)) := by rw [shr8, ← wrap_low]; rfl
theorem b0 (x : B) : (u x) % (256 : Int) = ub (low (x >>> 0)) := by rw [BitVec.ushiftRight_zero, ← wrap_low]; rfl
def bys (H : List B) (j : Nat) : List (BitVec 8) := (List.range j).map (byteAt H)
theorem bys_succ (H : List B) (j : Nat) : bys H (j + 1) = bys H j ++ [byteAt H j] := by unfold bys; rw [List.range_succ, List.map_append]; rfl
theorem bys_length (H : List B) (j : Nat) : (bys H j).length = j := by unfold bys; simp
theorem dst_bys (H : List B) : ∀ j, j ≤ 32 → dst H j = bys H j ++ List.replicate (32 - j) 0
 | 0, _ => by simp [dst, bys]
 | j + 1, h => by
  rw [dst, dst_bys H j (by omega), show 32 - j = (32 - (j + 1)) + 1 by omega, List.replicate_succ, List.set_append_right _ _ (by rw [bys_length]; omega), bys_length, Nat.sub_self, List.set_cons_zero, bys_succ]
  simp
theorem dig_l1 (H : List B) (hH : H.length = 8) : ∀ (d i k : Nat), i + d = 8 →
  clearwayref02_Sum.l1 (k + d + 1) (H.map u) ((bys H (4 * i)).map ub) (i : Int) = some (digW H) := by
 intro d
 induction d with
 | zero =>
  intro i k h
  have : i = 8 := by omega
  subst this
  rw [clearwayref02_Sum.l1, if_neg (by decide)]
  have : dst H 32 = bys H (4 * 8) := by rw [dst_bys H 32 (Nat.le_refl _)]; simp
  unfold digW
  rw [this]
 | succ d ih =>
  intro i k h
  have hw : wrap64 ((i : Int) + 1) = ((i + 1 : Nat) : Int) := by unfold wrap64; omega
  have hl : (H.map u).length = 8 := by rw [List.length_map, hH]
  have q : ∀ r, r < 4 → byteAt H (4 * i + r) = low ((H.getD i 0) >>> (24 - 8 * r)) := by
   intro r hr
   unfold byteAt
   rw [show (4 * i + r) / 4 = i by omega, show (4 * i + r) % 4 = r by omega]
  have e : (bys H (4 * i)).map ub ++ [ub (low (H.getD i 0 >>> 24)), ub (low (H.getD i 0 >>> 16)), ub (low (H.getD i 0 >>> 8)), ub (low (H.getD i 0 >>> 0))] = (bys H (4 * (i + 1))).map ub := by
   rw [show 4 * (i + 1) = 4 * i + 1 + 1 + 1 + 1 by omega, bys_succ, bys_succ, bys_succ, bys_succ]
   have q0 := q 0 (by omega)
   have q1 := q 1 (by omega)
   have q2 := q 2 (by omega)
   have q3 := q 3 (by omega)
   rw [show 4 * i + 1 + 1 = 4 * i + 2 by omega, show 4 * i + 2 + 1 = 4 * i + 3 by omega, q1, q2, q3, show byteAt H (4 * i) = _ from q0]
   simp
  rw [show k + (d + 1) + 1 = (k + d + 1) + 1 by omega, clearwayref02_Sum.l1, if_pos (by omega), if_pos (by omega), if_pos (by rw [hl]; omega), Option.bind_some, if_pos (by rw [List.length_map, bys_length]; simp; omega), rd_u, b24, b16, b8, b0, e, hw]
  exact ih (i + 1) k (by omega)
theorem iv_u : iv.map u = [1779033703, 3144134277, 1013904242, 2773480762, 1359893119, 2600822924, 528734635, 1541459225] := by kernel_rfl
theorem sum_l0 (P : List (BitVec 8)) (K : Nat) (hK : P.length = 64 * K) (hp : P.length ≤ 4000000) : ∀ (d j k : Nat), j + d = K → 500 + d ≤ k →
  clearwayref02_Sum.l0 k ((hS P j).map u) (P.map ub) ((64 * j : Nat) : Int) = some (digW (hS P K)) := by
 intro d
 induction d with
 | zero =>
  intro j k h hk
  have : j = K := by omega
  subst this
  obtain ⟨k, rfl⟩ : ∃ m, k = m + 8 + 1 + 1 := ⟨k - 10, by omega⟩
  rw [clearwayref02_Sum.l0, if_neg (by rw [List.length_map, hK]; omega)]
  exact dig_l1 (hS P j) (hS_length P j) 8 0 k rfl
 | succ d ih =>
  intro j k h hk
  obtain ⟨k, rfl⟩ : ∃ m, k = m + 1 := ⟨k - 1, by omega⟩
  have hw : wrap64 (((64 * j : Nat) : Int) + 64) = ((64 * (j + 1) : Nat) : Int) := by unfold wrap64; omega
  have hl : (P.map ub).length = 64 * K := by rw [List.length_map, hK]
  have hb : ((P.map ub).take (64 * (j + 1))).drop (64 * j) = (blk P j).map ub := by
   unfold blk
   rw [← List.map_take, ← List.map_drop, List.drop_take, show 64 * (j + 1) - 64 * j = 64 by omega]
  have hbl := blk_length P K hK ⟨j, by omega⟩
  rw [clearwayref02_Sum.l0, if_pos (by rw [hl]; omega), if_pos (by omega), hw, if_pos (by omega), if_pos (by rw [hl]; omega), Int.toNat_natCast, Int.toNat_natCast, hb, block_f (hS P j) (hS_length P j) (blk P j) hbl k (by omega), Option.bind_some]
  exact ih (j + 1) k (by omega) (by omega)
/-- The reference's Sum. -/
theorem ref_sum (s : ByteArray) (hs : s.size ≤ 1000000) (k : Nat) (hk : s.size + 1000 ≤ k) : clearwayref02_Sum.f k s = some (sumF s) := by
 unfold clearwayref02_Sum.f
 rw [extended_f s (by omega) k (by omega), Option.bind_some, ← iv_u]
 obtain ⟨K, hK⟩ := padded_length s
 have hb := bits8_length s
 have hpl : (padded s).length ≤ s.size + 72 := by
  unfold padded
  rw [List.length_append, List.length_append, List.length_append, List.length_replicate, lens_length, hb]
  unfold zs
  simp
  omega
 have := sum_l0 (padded s) K hK (by omega) K 0 k (by omega) (by omega)
 unfold sumF
 rw [show (padded s).length / 64 = K by omega]
 exact this
theorem ref_leaf (s : ByteArray) (hs : s.size ≤ 900000) (k : Nat) (hk : s.size + 2000 ≤ k) : clearwayref02_Leaf.f k s = some (leafF s) := by
 unfold clearwayref02_Leaf.f
 rw [if_pos (by omega), ref_sum _ (by rw [ByteArray.size_append]; show 1 + s.size ≤ _; omega) k (by rw [ByteArray.size_append]; show 1 + s.size + 1000 ≤ _; omega)]
 rfl
theorem ref_node (a b : ByteArray) (hs : a.size + b.size ≤ 900000) (k : Nat) (hk : a.size + b.size + 2000 ≤ k) : clearwayref02_Node.f k a b = some (nodeF a b) := by
 unfold clearwayref02_Node.f
 have h1 : ((⟨#[1]⟩ : ByteArray) ++ a).size = 1 + a.size := by rw [ByteArray.size_append]; rfl
 rw [if_pos (by omega), if_pos (by rw [h1]; omega), ref_sum _ (by rw [ByteArray.size_append, h1]; omega) k (by rw [ByteArray.size_append, h1]; omega), ByteArray.append_assoc]
 rfl
end Go.Proofs.YtjkdenldddjcnaaDoor.Sha

set_option linter.unusedVariables false
set_option linter.unusedSimpArgs false
namespace Go.Proofs.YtjkdenldddjcnaaDoor.Sha
open Go Go.RowKit Go.Proofs.YtjkdenldddjcnaaDoor.Df Go.Proofs.YtjkdenldddjcnaaDoorW.PrintWords Go.Proofs.YtjkdenldddjcnaaDoorW.PrintLast Go.Proofs.YtjkdenldddjcnaaDoorW.PrintMore

theorem small_iff (l : List ByteArray) : small l = true ↔ l.length ≤ 1000000 ∧ ∀ s ∈ l, s.size ≤ 549755813888 := by
 unfold small
 rw [Bool.and_eq_true, decide_eq_true_iff, List.all_eq_true]
 constructor
 ·rintro ⟨h1, h2⟩
  exact ⟨h1, fun s hs => of_decide_eq_true (h2 s hs)⟩
 ·rintro ⟨h1, h2⟩
  exact ⟨h1, fun s hs => decide_eq_true (h2 s hs)⟩
theorem small_take {l : List ByteArray} (h : small l = true) (k : Nat) : small (l.take k) = true := by
 rw [small_iff] at h ⊢
 exact ⟨by rw [List.length_take]; omega, fun s hs => h.2 s (List.mem_of_mem_take hs)⟩
theorem small_drop {l : List ByteArray} (h : small l = true) (k : Nat) : small (l.drop k) = true := by
 rw [small_iff] at h ⊢
 exact ⟨by rw [List.length_drop]; omega, fun s hs => h.2 s (List.mem_of_mem_drop hs)⟩
theorem root_f {l : List ByteArray} (h : small l = true) : digest_Root.f l = some (rootF l) := by unfold digest_Root.f; rw [if_pos h]
theorem small_of {l : List ByteArray} (n : Nat) (h : l.length ≤ n) (hn : n ≤ 1000000) (h2 : ∀ s ∈ l, s.size ≤ 60) : small l = true := by
 rw [small_iff]
 exact ⟨by omega, fun s hs => by have := h2 s hs; omega⟩
theorem digleft_f (n : Nat) (h : 2 ≤ n) (h2 : n ≤ 9223372036854775807) : digest_left.f (n : Int) = some (leftN n : Int) := by
 unfold digest_left.f
 rw [if_pos ⟨by omega, by omega⟩, Int.toNat_natCast]
theorem reverse_loop : ∀ (k : Nat) (A M B : List ByteArray), M.length < k → (A ++ (M ++ B)).length ≤ 1000000000 → slices_Reverse_string_string.l0 k (A ++ (M ++ B)) (A.length : Int) ((A.length : Int) + (M.length : Int) - 1) = some (A ++ (M.reverse ++ B)) := by
 intro k
 induction k with
 | zero => intro A M B h; omega
 | succ k ih =>
  intro A M B h hl
  rw [slices_Reverse_string_string.l0]
  match M, h, hl with
  | [], _, _ => rw [if_neg (by simp; omega)]; rfl
  | [x], _, _ => rw [if_neg (by simp)]; rfl
  | x :: z :: R, h, hl =>
   obtain ⟨M', y, hM⟩ : ∃ M' y, z :: R = M' ++ [y] := ⟨(z :: R).dropLast, (z :: R).getLast (List.cons_ne_nil _ _), (List.dropLast_concat_getLast (List.cons_ne_nil _ _)).symm⟩
   rw [hM] at h hl ⊢
   have e0 : A ++ (x :: (M' ++ [y]) ++ B) = A ++ (x :: (M' ++ (y :: B))) := by simp
   rw [e0] at hl ⊢
   have hlen : ((x :: (M' ++ [y])).length : Int) = (M'.length : Int) + 2 := by simp; omega
   have hll : ((A ++ (x :: (M' ++ (y :: B)))).length : Int) = (A.length : Int) + (M'.length : Int) + (B.length : Int) + 2 := by simp; omega
   have hh : A.length + M'.length + B.length + 2 ≤ 1000000000 := by omega
   rw [hlen, hll, if_pos (by omega), if_pos (by omega), if_pos (by omega), if_pos (by omega), if_pos (by omega)]
   have i1 : (A.length : Int) + ((M'.length : Int) + 2) - 1 = ((A.length + (M'.length + 1) : Nat) : Int) := by omega
   rw [i1]
   have r1 : rdOf ByteArray.empty (A ++ (x :: (M' ++ (y :: B)))) ((A.length + (M'.length + 1) : Nat) : Int) = y := rdOf_at (by
    rw [List.getElem?_append_right (by omega), Nat.add_sub_cancel_left, List.getElem?_cons_succ, List.getElem?_append_right (Nat.le_refl _), Nat.sub_self, List.getElem?_cons_zero])
   have r2 : rdOf ByteArray.empty (A ++ (x :: (M' ++ (y :: B)))) (A.length : Int) = x := rdOf_at (by
    rw [List.getElem?_append_right (Nat.le_refl _), Nat.sub_self, List.getElem?_cons_zero])
   rw [r1, r2, Int.toNat_natCast, Int.toNat_natCast]
   have h1 : (A ++ (x :: (M' ++ (y :: B)))).set A.length y = A ++ (y :: (M' ++ (y :: B))) := by
    rw [List.set_append_right _ _ (Nat.le_refl _), Nat.sub_self, List.set_cons_zero]
   have h2 : (A ++ (y :: (M' ++ (y :: B)))).set (A.length + (M'.length + 1)) x = A ++ (y :: (M' ++ (x :: B))) := by
    rw [List.set_append_right _ _ (by omega), Nat.add_sub_cancel_left, List.set_cons_succ, List.set_append_right _ _ (Nat.le_refl _), Nat.sub_self, List.set_cons_zero]
   rw [h1, h2]
   have h3 : A ++ (y :: (M' ++ (x :: B))) = (A ++ [y]) ++ (M' ++ (x :: B)) := by simp
   have w1 : wrap64 ((A.length : Int) + 1) = ((A ++ [y]).length : Int) := by unfold wrap64; simp; omega
   have w2 : wrap64 (((A.length + (M'.length + 1) : Nat) : Int) - 1) = ((A ++ [y]).length : Int) + (M'.length : Int) - 1 := by unfold wrap64; simp; omega
   rw [h3, w1, w2, ih (A ++ [y]) M' (x :: B) (by simp at h; omega) (by simp; omega)]
   simp
theorem reverse_f (l : List ByteArray) (k : Nat) (h : l.length < k) (hl : l.length ≤ 1000000000) : slices_Reverse_string_string.f k l = some l.reverse := by
 unfold slices_Reverse_string_string.f
 have := reverse_loop k [] l [] h (by simpa using hl)
 simp only [List.nil_append, List.append_nil, List.length_nil] at this
 rw [show wrap64 ((l.length : Int) - 1) = ((0 : Nat) : Int) + (l.length : Int) - 1 by unfold wrap64; omega]
 exact this
theorem ext_l0 : ∀ (f : Nat) (l : List ByteArray) (m : Nat) (wh : Bool) (acc : List ByteArray) (k : Nat), 1 ≤ m → m ≤ l.length → l.length ≤ f → small l = true → acc.length + f ≤ 2000000 → acc.length + 2 * f + 5 < k →
  digest_Extension.l0 k l (m : Int) acc wh = some ((acc ++ extP f l m wh).reverse, 0) := by
 intro f
 induction f with
 | zero => intro l m wh acc k h1 h2 h3; omega
 | succ f ih =>
  intro l m wh acc k h1 h2 h3 h4 h5 h6
  have hsl := (small_iff l).1 h4
  obtain ⟨k, rfl⟩ : ∃ j, k = j + 1 := ⟨k - 1, by omega⟩
  rw [digest_Extension.l0, extP]
  by_cases hm : m < l.length
  ·have hlt := leftN_lt l.length (by omega) (by omega)
   rw [if_pos (by omega), if_pos hm, digleft_f _ (by omega) (by omega), Option.bind_some, if_pos (by omega), if_pos (by omega), Option.bind_some, Option.bind_some, Int.toNat_natCast]
   by_cases hk : leftN l.length < m
   ·have hw : wrap64 ((m : Int) - (leftN l.length : Int)) = ((m - leftN l.length : Nat) : Int) := by unfold wrap64; omega
    rw [if_pos (show (m : Int) > (leftN l.length : Int) by omega), if_pos hk, root_f (small_take h4 _), Option.bind_some, if_pos (by omega), hw]
    rw [ih (l.drop (leftN l.length)) _ false _ k (by omega) (by rw [List.length_drop]; omega) (by rw [List.length_drop]; omega) (small_drop h4 _) (by simp; omega) (by simp; omega)]
    simp
   ·rw [if_neg (show ¬((m : Int) > (leftN l.length : Int)) by omega), if_neg hk, root_f (small_drop h4 _), Option.bind_some, if_pos (by omega)]
    rw [ih (l.take (leftN l.length)) _ wh _ k h1 (by rw [List.length_take]; omega) (by rw [List.length_take]; omega) (small_take h4 _) (by simp; omega) (by simp; omega)]
    simp
  ·rw [if_neg (by omega), if_neg hm]
   cases wh with
   | true =>
    rw [if_pos rfl, if_pos rfl, reverse_f _ _ (by omega) (by omega)]
    simp
   | false =>
    rw [if_neg (by decide), if_neg (by decide), root_f h4, Option.bind_some, if_pos (by omega), reverse_f _ _ (by simp; omega) (by simp; omega)]
    simp
/-- What Extension answers. -/
theorem ext_f (l : List ByteArray) (m k : Nat) (hm : m ≤ l.length) (hs : small l = true) (hk : 2 * l.length + 10 < k) : digest_Extension.f k l (m : Int) = some (if m = 0 then [] else (extP l.length l m true).reverse, 0) := by
 have hsl := (small_iff l).1 hs
 obtain ⟨k, rfl⟩ : ∃ j, k = j + 1 := ⟨k - 1, by omega⟩
 unfold digest_Extension.f
 rw [if_neg (by omega), digest_Extension.j0, if_neg (by simp; omega)]
 by_cases h0 : m = 0
 ·rw [if_pos (by omega), if_pos h0]
 ·rw [if_neg (by omega), if_neg h0, ext_l0 l.length l m true [] k (by omega) hm (Nat.le_refl _) hs (by simp; omega) (by simp; omega)]
  rfl
theorem ext_out (l : List ByteArray) (m : Int) (k : Nat) (h : m < 0 ∨ (l.length : Int) < m) (hk : 0 < k) : digest_Extension.f k l m = some ([], 2) := by
 obtain ⟨k, rfl⟩ : ∃ j, k = j + 1 := ⟨k - 1, by omega⟩
 unfold digest_Extension.f
 by_cases h0 : m < 0
 ·rw [if_pos h0, digest_Extension.j0, if_pos rfl]
 ·rw [if_neg h0, digest_Extension.j0, if_pos (by rw [decide_eq_true_iff]; omega)]
end Go.Proofs.YtjkdenldddjcnaaDoor.Sha

set_option linter.unusedVariables false
set_option linter.unusedSimpArgs false
namespace Go.Proofs.YtjkdenldddjcnaaDoor.Sha
open Go Go.RowKit Go.Proofs.YtjkdenldddjcnaaDoor.Df Go.Proofs.YtjkdenldddjcnaaDoorW.PrintWords Go.Proofs.YtjkdenldddjcnaaDoorW.PrintLast Go.Proofs.YtjkdenldddjcnaaDoorW.PrintMore

/-- What Proof pushes: the roots of the other parts, from the whole on. -/
def prP : Nat → List ByteArray → Nat → List ByteArray
 | 0, _, _ => []
 | f + 1, l, i => if l.length ≤ 1 then [] else if leftN l.length ≤ i then rootF (l.take (leftN l.length)) :: prP f (l.drop (leftN l.length)) (i - leftN l.length) else rootF (l.drop (leftN l.length)) :: prP f (l.take (leftN l.length)) i
theorem proof_l0 : ∀ (f : Nat) (l : List ByteArray) (i : Nat) (acc : List ByteArray) (k : Nat), i < l.length → l.length ≤ f → small l = true → acc.length + f ≤ 2000000 → acc.length + 2 * f + 5 < k →
  digest_Proof.l0 k l (i : Int) acc = some ((acc ++ prP f l i).reverse, 0) := by
 intro f
 induction f with
 | zero => intro l i acc k h1 h2; omega
 | succ f ih =>
  intro l i acc k h1 h3 h4 h5 h6
  have hsl := (small_iff l).1 h4
  obtain ⟨k, rfl⟩ : ∃ j, k = j + 1 := ⟨k - 1, by omega⟩
  rw [digest_Proof.l0, prP]
  by_cases hm : l.length = 1
  ·rw [if_pos (by omega), if_pos (by omega), List.append_nil, reverse_f _ _ (by omega) (by omega)]
   rfl
  ·have hlt := leftN_lt l.length (by omega) (by omega)
   rw [if_neg (by omega), if_neg (by omega), digleft_f _ (by omega) (by omega), Option.bind_some, if_pos (by omega), if_pos (by omega), Option.bind_some, Option.bind_some, Int.toNat_natCast]
   by_cases hk : leftN l.length ≤ i
   ·have hw : wrap64 ((i : Int) - (leftN l.length : Int)) = ((i - leftN l.length : Nat) : Int) := by unfold wrap64; omega
    rw [if_pos (show (i : Int) ≥ (leftN l.length : Int) by omega), if_pos hk, root_f (small_take h4 _), Option.bind_some, if_pos (by omega), hw]
    rw [ih (l.drop (leftN l.length)) _ _ k (by rw [List.length_drop]; omega) (by rw [List.length_drop]; omega) (small_drop h4 _) (by simp; omega) (by simp; omega)]
    simp
   ·rw [if_neg (show ¬((i : Int) ≥ (leftN l.length : Int)) by omega), if_neg hk, root_f (small_drop h4 _), Option.bind_some, if_pos (by omega)]
    rw [ih (l.take (leftN l.length)) _ _ k (by rw [List.length_take]; omega) (by rw [List.length_take]; omega) (small_take h4 _) (by simp; omega) (by simp; omega)]
    simp
/-- What Proof answers. -/
theorem proof_f (l : List ByteArray) (i k : Nat) (hi : i < l.length) (hs : small l = true) (hk : 2 * l.length + 10 < k) : digest_Proof.f k l (i : Int) = some ((prP l.length l i).reverse, 0) := by
 have hsl := (small_iff l).1 hs
 obtain ⟨k, rfl⟩ : ∃ j, k = j + 1 := ⟨k - 1, by omega⟩
 unfold digest_Proof.f
 rw [if_neg (by omega), digest_Proof.j0, if_neg (by simp; omega), proof_l0 l.length l i [] k hi (Nat.le_refl _) hs (by simp; omega) (by simp; omega)]
 rfl
theorem proof_out (l : List ByteArray) (i : Int) (k : Nat) (h : i < 0 ∨ (l.length : Int) ≤ i) (hk : 0 < k) : digest_Proof.f k l i = some ([], 2) := by
 obtain ⟨k, rfl⟩ : ∃ j, k = j + 1 := ⟨k - 1, by omega⟩
 unfold digest_Proof.f
 by_cases h0 : i < 0
 ·rw [if_pos h0, digest_Proof.j0, if_pos rfl]
 ·rw [if_neg h0, digest_Proof.j0, if_pos (by rw [decide_eq_true_iff]; omega)]
end Go.Proofs.YtjkdenldddjcnaaDoor.Sha

namespace Go.Proofs.YtjkdenldddjcnaaDoor.Dm
open Go.RowKit Go.Proofs.YtjkdenldddjcnaaDoor.Sha Go.Proofs.YtjkdenldddjcnaaDoor.Df Go.Proofs.YtjkdenldddjcnaaDoorW.PrintWords Go.Proofs.YtjkdenldddjcnaaDoorW.PrintLast Go.Proofs.YtjkdenldddjcnaaDoorW.PrintMore
attribute [local go_sem] max2_int min2_int max_two min_two max_three min_three max_four min_four   -- for this text's walks alone
set_option linter.unusedVariables false
set_option linter.unusedSimpArgs false

/-! ### clearwayref02_Left: function 42 -/
def clearwayref02_Left.l0 : Nat → Int → Int → Option (Int)
 | 0, _, _ => none
 | k + 1, x0, x3 => if x3 < (wrap64 (x0 - x3)) then (clearwayref02_Left.l0 k x0 (wrap64 (2 * x3))) else (some x3)
def clearwayref02_Left.f (k : Nat) (a0 : Int) : Option (Int) := clearwayref02_Left.l0 k a0 1
set_option maxHeartbeats 8000000 in
set_option maxRecDepth 100000 in
theorem clearwayref02_Left.calls (k : Nat) (a0 : Int) (r : Int) (w : World) (h : clearwayref02_Left.f k a0 = some r) :
  Calls Tryd.prog 42 #[.int .i64 a0] w fun e w' => e = .returned (.int .i64 r) ∧ Drawn0 w w' := by
 have H : (clearwayref02_Left.l0 k a0 1) = some r := h
 clear h
 have H' := Aside0.mk H
 clear H
 go_enter Tryd.func42, Tryd.ntmps42
 go_wp2
 go_loopg [3] k (fun kq v3 w' => ∃ (x3_1 : Int), v3 = .int .i64 x3_1 ∧ Aside0 (clearwayref02_Left.l0 kq a0 x3_1 = some r) ∧ Aside0 (kq ≤ k) ∧ Drawn0 w w')
 case atStart => exact ⟨(1), (by first | rfl | (simp; done) | (simp [*]; done)), H', ⟨Nat.le_refl _⟩, by repeat (first | exact Drawn0.refl _ | apply Drawn0.step)⟩
 case round =>
  clear H'
  obtain ⟨x3_1, rfl, HA, HK1, ⟨m1, rfl⟩⟩ := hrel
  cases gk with
  | zero => exact absurd HA.out (by simp [clearwayref02_Left.l0])
  | succ k1 =>
   have H := HA.out
   clear HA
   simp only [clearwayref02_Left.l0] at H
   by_cases c2 : x3_1 < (wrap64 (a0 - x3_1))
   ·rw [if_pos c2] at H
    have c2b0 : decide (x3_1 < (wrap64 (a0 - x3_1))) = true := decide_eq_true c2
    clear c2
    have H' := Aside0.mk H
    clear H
    go_wp2
    go_roundg k1
    case measure => have := HK1.out; omega
    case rel => exact ⟨(wrap64 (2 * x3_1)), (by first | rfl | (simp; done) | (simp [*]; done)), H', ⟨by have := HK1.out; omega⟩, by repeat (first | exact Drawn0.refl _ | apply Drawn0.step)⟩
   ·rw [if_neg c2] at H
    have c2b0 : decide (x3_1 < (wrap64 (a0 - x3_1))) = false := decide_eq_false c2
    clear c2
    obtain rfl := Option.some.inj H
    go_wp2
    go_ret
    exact ⟨by first | rfl | (simp; done) | (simp [*]; done), by repeat (first | exact Drawn0.refl _ | apply Drawn0.step)⟩

/-! ### clearwayref02_Root: function 20 -/
def clearwayref02_Root.f : Nat → List ByteArray → Option (ByteArray)
 | 0, _ => none
 | k + 1, l0 => if (l0.length : Int) = 0 then ((clearwayref02_Sum.f k (⟨#[]⟩ : ByteArray)).bind fun t216 => (some t216)) else (if (l0.length : Int) = 1 then (if 0 < (l0.length : Int) then ((clearwayref02_Leaf.f k (rdOf ByteArray.empty l0 0)).bind fun t218 => (some t218)) else (none)) else ((clearwayref02_Left.f k (l0.length : Int)).bind fun t219 => (if 0 ≤ t219 then (if t219 ≤ (l0.length : Int) then ((clearwayref02_Root.f k (l0.take (t219 : Int).toNat)).bind fun t221 => ((clearwayref02_Root.f k (l0.drop (t219 : Int).toNat)).bind fun t223 => ((clearwayref02_Node.f k t221 t223).bind fun t224 => (some t224)))) else (none)) else (none))))
def clearwayref02_Root.T6 : Bool × List (List Nat × List Nat) := (true, [([], []), ([], []), ([0, 1], [0, 1]), ([2], [2]), ([], []), ([], []), ([4, 5], [4, 5]), ([6, 3], [6]), ([3, 7, 7], [3, 7]), ([8, 8, 0, 1, 2, 3, 4, 5, 6, 7, 8], [8])])
def clearwayref02_Root.B6 : List Nat := [0, 0, 3, 7, 0, 0, 48, 127, 255, 511]
theorem clearwayref02_Root.tab6 : rtab .any (opsOf Tryd.f20 6) = clearwayref02_Root.T6 := by kernel_rfl
theorem clearwayref02_Root.bits6 : waitsOk clearwayref02_Root.T6.2 clearwayref02_Root.B6 = true := by kernel_rfl
set_option maxHeartbeats 8000000 in
set_option maxRecDepth 100000 in
theorem clearwayref02_Root.calls (k : Nat) : ∀ (A0 : Option Addr) (c0 : Nat) (l0 : List ByteArray) (r : ByteArray) (w : World) (hr0 : Kd.C Kd.string w A0 l0.length l0) (hc0 : l0.length ≤ c0) (h : clearwayref02_Root.f k l0 = some r),
  Calls Tryd.prog 20 #[.slice A0 l0.length c0] w fun e w' => e = .returned (.string r) ∧ Below w.heap.size w w' := by
 induction k using Nat.strongRecOn with
 | _ k ih =>
 intro A0 c0 l0 r w hr0 hc0 h
 cases k with
 | zero => exact absurd h (by simp [clearwayref02_Root.f])
 | succ k =>
 simp only [clearwayref02_Root.f] at h
 have HR0 := Aside0.mk hr0
 have HC0 := Aside0.mk hc0
 clear hr0 hc0
 have HB := Aside0.mk (Below.refl w.heap.size w)
 have H : (if (l0.length : Int) = 0 then ((clearwayref02_Sum.f k (⟨#[]⟩ : ByteArray)).bind fun t216 => (some t216)) else (if (l0.length : Int) = 1 then (if 0 < (l0.length : Int) then ((clearwayref02_Leaf.f k (rdOf ByteArray.empty l0 0)).bind fun t218 => (some t218)) else (none)) else ((clearwayref02_Left.f k (l0.length : Int)).bind fun t219 => (if 0 ≤ t219 then (if t219 ≤ (l0.length : Int) then ((clearwayref02_Root.f k (l0.take (t219 : Int).toNat)).bind fun t221 => ((clearwayref02_Root.f k (l0.drop (t219 : Int).toNat)).bind fun t223 => ((clearwayref02_Node.f k t221 t223).bind fun t224 => (some t224)))) else (none)) else (none))))) = some r := h
 clear h
 by_cases c2 : (l0.length : Int) = 0
 ·rw [if_pos c2] at H
  have c2b0 : ((l0.length : Int) == 0) = true := beq_iff_eq.mpr c2
  have c2b1 : ((l0.length : Int) != 0) = false := bne_eq_false_iff_eq.mpr c2
  clear c2
  replace H := Option.bind_eq_some_iff.mp H
  obtain ⟨t216, A30, H⟩ := H
  replace H : (some t216) = some r := H
  have A3 := Aside0.mk A30
  clear A30
  obtain rfl := Option.some.inj H
  go_enter Tryd.func20, Tryd.ntmps20
  go_wp2_with (first | ((with_reducible refine gate_callee (f := 33) rfl ?_); refine goesL_ (some 7) rfl rfl Tryd.func33 (by kernel_rfl) rfl #[.string (⟨#[]⟩ : ByteArray)] rfl (by (try simp only [List.map_toArray, List.map_cons, List.map_nil]); first | done | rfl | (simp only [List.length_drop, List.length_take]; rfl)) ?_; (with_reducible refine (clearwayref02_Sum.calls k (⟨#[]⟩ : ByteArray) t216 _ A3.out).mono ?_); rintro e w4 ⟨rfl, hb⟩; refine ⟨_, rfl, ?_⟩; have n0_ := Aside0.mk (below_step (by repeat (first | (with_reducible first | exact HB.out | apply below_alloc | apply pw_below_drewN | apply below_drew1) | exact HB.out)) hb); clear HB; have HB := n0_; clear n0_; (try clear hb); (try clear hb2); (try clear hk); (try clear hi)))
  go_ret
  exact ⟨by first | rfl | (simp [errW_none, errW_some] <;> rfl) | (simp [*, errW_none, errW_some] <;> rfl), by repeat (first | (with_reducible first | exact HB.out | apply below_alloc | apply pw_below_drewN | apply below_drew1) | exact HB.out)⟩
 ·rw [if_neg c2] at H
  have c2b0 : ((l0.length : Int) == 0) = false := beq_eq_false_iff_ne.mpr c2
  have c2b1 : ((l0.length : Int) != 0) = true := bne_iff_ne.mpr c2
  have c2b2 : ¬ (l0 = []) := fun h_ => c2 (by rw [h_]; rfl)
  by_cases c5 : (l0.length : Int) = 1
  ·rw [if_pos c5] at H
   have c5b0 : ((l0.length : Int) == 1) = true := beq_iff_eq.mpr c5
   have c5b1 : ((l0.length : Int) != 1) = false := bne_eq_false_iff_eq.mpr c5
   clear c5
   by_cases c6 : 0 < (l0.length : Int)
   ·rw [if_pos c6] at H
    have c6b0 : decide (0 < (l0.length : Int)) = true := decide_eq_true c6
    have c6b1 : decide (0 < l0.length) = true := decide_eq_true (by omega)
    clear c6
    replace H := Option.bind_eq_some_iff.mp H
    obtain ⟨t218, A70, H⟩ := H
    replace H : (some t218) = some r := H
    have A7 := Aside0.mk A70
    clear A70
    obtain rfl := Option.some.inj H
    have p217 : 0 ≤ (0 : Int) := (by omega)
    have q217 : 0 < (l0.length : Int) := of_decide_eq_true (by first | (with_reducible assumption) | assumption)
    obtain ⟨ad217, e217, hx217_0⟩ := Kd.at_string HR0.out 0 p217 q217
    cases e217
    have qi217 : (0 < l0.length) = True := eq_true (by omega)
    (try rw [show ((0 : Int)).toNat = 0 from rfl] at hx217_0)
    (try rw [Addr.add_zero'] at hx217_0)
    replace p217 := eq_true p217
    replace q217 := eq_true q217
    go_enter Tryd.func20, Tryd.ntmps20
    go_wp2_with (first | ((with_reducible refine gate_callee (f := 34) rfl ?_); refine goesL_ (some 14) rfl rfl Tryd.func34 (by kernel_rfl) rfl #[.string (rdOf ByteArray.empty l0 0)] rfl (by (try simp only [List.map_toArray, List.map_cons, List.map_nil]); first | done | rfl | (simp only [List.length_drop, List.length_take]; rfl)) ?_; (with_reducible refine (clearwayref02_Leaf.calls k (rdOf ByteArray.empty l0 0) t218 _ A7.out).mono ?_); rintro e w8 ⟨rfl, hb⟩; refine ⟨_, rfl, ?_⟩; have n0_ := Aside0.mk (below_step (by repeat (first | (with_reducible first | exact HB.out | apply below_alloc | apply pw_below_drewN | apply below_drew1) | exact HB.out)) hb); clear HB; have HB := n0_; clear n0_; (try clear hb); (try clear hb2); (try clear hk); (try clear hi)))
    go_ret
    exact ⟨by first | rfl | (simp [errW_none, errW_some] <;> rfl) | (simp [*, errW_none, errW_some] <;> rfl), by repeat (first | (with_reducible first | exact HB.out | apply below_alloc | apply pw_below_drewN | apply below_drew1) | exact HB.out)⟩
   ·rw [if_neg c6] at H
    exact absurd H (by simp)
  ·rw [if_neg c5] at H
   have c5b0 : ((l0.length : Int) == 1) = false := beq_eq_false_iff_ne.mpr c5
   have c5b1 : ((l0.length : Int) != 1) = true := bne_iff_ne.mpr c5
   replace H := Option.bind_eq_some_iff.mp H
   obtain ⟨t219, A90, H⟩ := H
   replace H : (if 0 ≤ t219 then (if t219 ≤ (l0.length : Int) then ((clearwayref02_Root.f k (l0.take (t219 : Int).toNat)).bind fun t221 => ((clearwayref02_Root.f k (l0.drop (t219 : Int).toNat)).bind fun t223 => ((clearwayref02_Node.f k t221 t223).bind fun t224 => (some t224)))) else (none)) else (none)) = some r := H
   have A9 := Aside0.mk A90
   clear A90
   by_cases c10 : 0 ≤ t219
   ·rw [if_pos c10] at H
    have c10b0 := eq_true c10
    have c10b1 : decide (0 ≤ t219) = true := decide_eq_true c10
    clear c10
    by_cases c11 : t219 ≤ (l0.length : Int)
    ·rw [if_pos c11] at H
     have c11b0 := eq_true c11
     have c11b1 : decide (t219 ≤ (l0.length : Int)) = true := decide_eq_true c11
     clear c11
     replace H := Option.bind_eq_some_iff.mp H
     obtain ⟨t221, A120, H⟩ := H
     replace H : ((clearwayref02_Root.f k (l0.drop (t219 : Int).toNat)).bind fun t223 => ((clearwayref02_Node.f k t221 t223).bind fun t224 => (some t224))) = some r := H
     have A12 := Aside0.mk A120
     clear A120
     have c13b0 := eq_true (of_decide_eq_true (by first | (with_reducible assumption) | assumption) : 0 ≤ t219)
     have c14b0 := eq_true (of_decide_eq_true (by first | (with_reducible assumption) | assumption) : t219 ≤ (l0.length : Int))
     replace H := Option.bind_eq_some_iff.mp H
     obtain ⟨t223, A150, H⟩ := H
     replace H : ((clearwayref02_Node.f k t221 t223).bind fun t224 => (some t224)) = some r := H
     have A15 := Aside0.mk A150
     clear A150
     replace H := Option.bind_eq_some_iff.mp H
     obtain ⟨t224, A160, H⟩ := H
     replace H : (some t224) = some r := H
     have A16 := Aside0.mk A160
     clear A160
     obtain rfl := Option.some.inj H
     go_enter Tryd.func20, Tryd.ntmps20
     try go_wp2_with (first | ((with_reducible refine gate_callee (f := 42) rfl ?_); refine goesL_ (some 17) rfl rfl Tryd.func42 (by kernel_rfl) rfl #[.int .i64 (l0.length : Int)] rfl (by (try simp only [List.map_toArray, List.map_cons, List.map_nil]); first | done | rfl | (simp only [List.length_drop, List.length_take]; rfl)) ?_; (with_reducible refine (clearwayref02_Left.calls k (l0.length : Int) t219 _ A9.out).mono ?_); rintro e w' ⟨rfl, ⟨nd, rfl⟩⟩; refine ⟨_, rfl, ?_⟩))
     refine (fun (h_ : ∀ W_ : World, Aside0 (Below w.heap.size w W_) → Code.wp _ _ _ _ W_) => h_ _ ⟨by repeat (first | (with_reducible first | exact HB.out | apply below_alloc | apply pw_below_drewN | apply below_drew1) | exact HB.out)⟩) ?_
     intro w17 n0_
     clear HB
     have HB := n0_
     clear n0_
     have n0_ := Aside0.mk (below_drew1 HB.out)
     clear HB
     have HB := n0_
     clear n0_
     obtain ⟨i019, hi019, _, hsz19, _⟩ := info_parts info9
     obtain ⟨hcut19, hA19, hC19⟩ := print_take_of (P := Tryd.prog) Value.string (⟨#[]⟩ : ByteArray) 22 9 .i64 Tryd.underlying22 hi019 hsz19 A0 c0 l0 t219 (of_decide_eq_true (by first | (with_reducible assumption) | assumption)) (of_decide_eq_true (by first | (with_reducible assumption) | assumption)) HC0.out
     have HR220 := Aside0.mk (Kd.C_of_reads (h1 := fun _ => rfl) (hA19 _ (Kd.reads_of_C HR0.out)))
     have HC220 := Aside0.mk hC19
     clear hA19 hC19 hi019 hsz19
     obtain ⟨i020, hi020, _, hsz20, _⟩ := info_parts info9
     obtain ⟨A20, hcut20, hA20, hC20⟩ := print_drop_of (P := Tryd.prog) Value.string (⟨#[]⟩ : ByteArray) 22 9 .i64 Tryd.underlying22 hi020 hsz20 A0 c0 l0 t219 (of_decide_eq_true (by first | (with_reducible assumption) | assumption)) (of_decide_eq_true (by first | (with_reducible assumption) | assumption)) HC0.out
     have HR222 := Aside0.mk (Kd.C_of_reads (h1 := fun _ => rfl) (hA20 _ (Kd.reads_of_C HR0.out)))
     have HC222 := Aside0.mk hC20
     clear hA20 hC20 hi020 hsz20
     refine start_ (n := 10) (S := fun w' => True) (ds := []) #[false, false, false, false, false, false, false, false, false, false] (by kernel_rfl) rfl rfl trivial (fun hHeld => ?_); refine with_tabW clearwayref02_Root.tab6 clearwayref02_Root.bits6 (fun HT_ HW_ => ?_)
     generalize w17.drew = w18 at HB HR220 HR222 hHeld ⊢
     refine pure_ (i := 0) (N := some 18) (v := ?_) (a' := ?_) #[true, false, false, false, false, false, false, false, false, false] rfl rfl (any_of HT_.out (by kernel_rfl)) (fun _ _ _ h => h) (Or.inl ⟨by rfl, ?_⟩) ?_ ?_
     rotate_left
     ·intro w'
      go_simp
      with_reducible rfl
     rotate_left
     ·simp only [Act.put, List.setIfInBounds_toArray, List.set_cons_zero, List.set_cons_succ, i64_w, i32_w]
      rfl
     refine pure_ (i := 1) (N := some 19) (v := ?_) (a' := ?_) #[true, true, false, false, false, false, false, false, false, false] rfl rfl (any_of HT_.out (by kernel_rfl)) (fun _ _ _ h => h) (Or.inl ⟨by rfl, ?_⟩) ?_ ?_
     rotate_left
     ·intro w'
      go_simp
      with_reducible rfl
     rotate_left
     ·simp only [Act.put, List.setIfInBounds_toArray, List.set_cons_zero, List.set_cons_succ, i64_w, i32_w]
      rfl
     refine pure_ (i := 2) (N := some 20) (v := ?_) (a' := ?_) #[true, true, true, false, false, false, false, false, false, false] rfl rfl (any_of HT_.out (by kernel_rfl)) (fun _ _ _ h => h) (Or.inl ⟨by rfl, ?_⟩) ?_ ?_
     rotate_left
     ·intro w'
      go_simp
      with_reducible rfl
     rotate_left
     ·simp only [Act.put, List.setIfInBounds_toArray, List.set_cons_zero, List.set_cons_succ, i64_w, i32_w]
      rfl
     refine pure_ (i := 4) (N := some 22) (v := ?_) (a' := ?_) #[true, true, true, false, true, false, false, false, false, false] rfl rfl (any_of HT_.out (by kernel_rfl)) (fun _ _ _ h => h) (Or.inl ⟨by rfl, ?_⟩) ?_ ?_
     rotate_left
     ·intro w'
      go_simp
      with_reducible rfl
     rotate_left
     ·simp only [Act.put, List.setIfInBounds_toArray, List.set_cons_zero, List.set_cons_succ, i64_w, i32_w]
      rfl
     refine pure_ (i := 5) (N := some 23) (v := ?_) (a' := ?_) #[true, true, true, false, true, true, false, false, false, false] rfl rfl (any_of HT_.out (by kernel_rfl)) (fun _ _ _ h => h) (Or.inl ⟨by rfl, ?_⟩) ?_ ?_
     rotate_left
     ·intro w'
      go_simp
      with_reducible rfl
     rotate_left
     ·simp only [Act.put, List.setIfInBounds_toArray, List.set_cons_zero, List.set_cons_succ, i64_w, i32_w]
      rfl
     refine pure_ (i := 6) (N := some 24) (v := ?_) (a' := ?_) #[true, true, true, false, true, true, true, false, false, false] rfl rfl (any_of HT_.out (by kernel_rfl)) (fun _ _ _ h => h) (Or.inl ⟨by rfl, ?_⟩) ?_ ?_
     rotate_left
     ·intro w'
      go_simp
      with_reducible rfl
     rotate_left
     ·simp only [Act.put, List.setIfInBounds_toArray, List.set_cons_zero, List.set_cons_succ, i64_w, i32_w]
      rfl
     refine one_ (i := 3) (N := some 21) #[true, true, true, true, true, true, true, false, false, false] rfl rfl (one_of HT_.out (by kernel_rfl)) (by decide) (fun K hK => ?_)
     refine goes_ Tryd.func20 (by kernel_rfl) rfl #[.slice A0 (l0.take (t219 : Int).toNat).length c0] (by rfl) rfl rfl (by (try simp only [List.map_toArray, List.map_cons, List.map_nil]); first | done | (rw [show (l0.take (t219 : Int).toNat).length = t219.toNat from (by rw [List.length_take]; have h_ : (t219 : Int) ≤ (l0.length : Int) := of_decide_eq_true (by first | (with_reducible assumption) | assumption); omega)] <;> rfl) | rfl | (simp only [List.length_drop, List.length_take]; rfl)) ?_
     with_reducible refine (ih k (by omega) _ _ (l0.take (t219 : Int).toNat) t221 _ ?side1 ?side2 A12.out).mono ?_
     (case side1 => repeat (first | exact (Kd.C_below HR220.out HB.out) | (with_reducible refine Kd.C_alloc ?_ _) | (with_reducible refine Kd.C_drewN ?_ _) | (with_reducible refine Kd.C_drew ?_)))
     (case side2 => exact HC220.out)
     rintro e w21 ⟨rfl, hb⟩
     refine ⟨_, rfl, ?_⟩
     have n0_ := Aside0.mk (below_step (by repeat (first | (with_reducible first | exact HB.out | apply below_alloc | apply pw_below_drewN | apply below_drew1) | exact HB.out)) hb)
     clear HB
     have HB := n0_
     clear n0_
     (try clear hb)
     (try clear hb2)
     (try clear hk)
     (try clear hi)
     refine hK.out _ _ trivial (fun hHeld => ?_)
     clear hK K
     refine norm_ (a' := ?_) ?_ ?_
     rotate_left
     ·show Act.put _ (some 21) _ = _
      simp only [Act.put, List.setIfInBounds_toArray, List.set_cons_zero, List.set_cons_succ, i64_w, i32_w]
      rfl
     refine one_ (i := 7) (N := some 25) #[true, true, true, true, true, true, true, true, false, false] rfl rfl (one_of HT_.out (by kernel_rfl)) (by decide) (fun K hK => ?_)
     refine goes_ Tryd.func20 (by kernel_rfl) rfl #[.slice A20 (l0.drop (t219 : Int).toNat).length (c0 - t219.toNat)] (by rfl) rfl rfl (by (try simp only [List.map_toArray, List.map_cons, List.map_nil]); first | done | (rw [show (l0.drop (t219 : Int).toNat).length = (l0.length - t219.toNat) from List.length_drop] <;> rfl) | rfl | (simp only [List.length_drop, List.length_take]; rfl)) ?_
     with_reducible refine (ih k (by omega) _ _ (l0.drop (t219 : Int).toNat) t223 _ ?side1 ?side2 A15.out).mono ?_
     (case side1 => repeat (first | exact (Kd.C_below HR222.out HB.out) | (with_reducible refine Kd.C_alloc ?_ _) | (with_reducible refine Kd.C_drewN ?_ _) | (with_reducible refine Kd.C_drew ?_)))
     (case side2 => exact HC222.out)
     rintro e w22 ⟨rfl, hb⟩
     refine ⟨_, rfl, ?_⟩
     have n0_ := Aside0.mk (below_step (by repeat (first | (with_reducible first | exact HB.out | apply below_alloc | apply pw_below_drewN | apply below_drew1) | exact HB.out)) hb)
     clear HB
     have HB := n0_
     clear n0_
     (try clear hb)
     (try clear hb2)
     (try clear hk)
     (try clear hi)
     refine hK.out _ _ trivial (fun hHeld => ?_)
     clear hK K
     refine norm_ (a' := ?_) ?_ ?_
     rotate_left
     ·show Act.put _ (some 25) _ = _
      simp only [Act.put, List.setIfInBounds_toArray, List.set_cons_zero, List.set_cons_succ, i64_w, i32_w]
      rfl
     refine one_ (i := 8) (N := some 26) #[true, true, true, true, true, true, true, true, true, false] rfl rfl (one_of HT_.out (by kernel_rfl)) (by decide) (fun K hK => ?_)
     refine goes_ Tryd.func35 (by kernel_rfl) rfl #[.string t221, .string t223] (by rfl) rfl rfl (by (try simp only [List.map_toArray, List.map_cons, List.map_nil]); first | done | rfl | (simp only [List.length_drop, List.length_take]; rfl)) ?_
     with_reducible refine (clearwayref02_Node.calls k t221 t223 t224 _ A16.out).mono ?_
     rintro e w23 ⟨rfl, hb⟩
     refine ⟨_, rfl, ?_⟩
     have n0_ := Aside0.mk (below_step (by repeat (first | (with_reducible first | exact HB.out | apply below_alloc | apply pw_below_drewN | apply below_drew1) | exact HB.out)) hb)
     clear HB
     have HB := n0_
     clear n0_
     (try clear hb)
     (try clear hb2)
     (try clear hk)
     (try clear hi)
     refine hK.out _ _ trivial (fun hHeld => ?_)
     clear hK K
     refine norm_ (a' := ?_) ?_ ?_
     rotate_left
     ·show Act.put _ (some 26) _ = _
      simp only [Act.put, List.setIfInBounds_toArray, List.set_cons_zero, List.set_cons_succ, i64_w, i32_w]
      rfl
     refine pure_ (i := 9) (N := some 2) (v := ?_) (a' := ?_) #[true, true, true, true, true, true, true, true, true, true] rfl rfl (any_of HT_.out (by kernel_rfl)) (fun _ _ _ h => h) (Or.inl ⟨by rfl, ?_⟩) ?_ ?_
     rotate_left
     ·intro w'
      go_simp
      with_reducible rfl
     rotate_left
     ·simp only [Act.put, List.setIfInBounds_toArray, List.set_cons_zero, List.set_cons_succ, i64_w, i32_w]
      rfl
     refine done_ (done_of HT_.out (by kernel_rfl)) ?_
     try go_wp2
     go_ret
     exact ⟨by first | rfl | (simp [errW_none, errW_some] <;> rfl) | (simp [*, errW_none, errW_some] <;> rfl), by repeat (first | (with_reducible first | exact HB.out | apply below_alloc | apply pw_below_drewN | apply below_drew1) | exact HB.out)⟩
    ·rw [if_neg c11] at H
     exact absurd H (by simp)
   ·rw [if_neg c10] at H
    exact absurd H (by simp)

/-! ### clearwayref02_Proof: function 15 -/
mutual
def clearwayref02_Proof.j0 : Nat → List ByteArray → Int → Bool → Option (List ByteArray × Int)
 | 0, _, _, _ => none
 | k + 1, x0, x1, x18 => if x18 = true then (some (([] : List ByteArray), 2)) else (if (x0.length : Int) = 1 then (some (([] : List ByteArray), 0)) else ((clearwayref02_Left.f k (x0.length : Int)).bind fun t225 => (if x1 < t225 then (if 0 ≤ t225 then (if t225 ≤ (x0.length : Int) then ((clearwayref02_Proof.f k (x0.take (t225 : Int).toNat) x1).bind fun bt227 => ((clearwayref02_Root.f k (x0.drop (t225 : Int).toNat)).bind fun t232 => (if bt227.1.length < 8796093022208 then (some ((bt227.1 ++ [t232]), 0)) else (none)))) else (none)) else (none)) else (if 0 ≤ t225 then (if t225 ≤ (x0.length : Int) then ((clearwayref02_Proof.f k (x0.drop (t225 : Int).toNat) (wrap64 (x1 - t225))).bind fun bt237 => ((clearwayref02_Root.f k (x0.take (t225 : Int).toNat)).bind fun t242 => (if bt237.1.length < 8796093022208 then (some ((bt237.1 ++ [t242]), 0)) else (none)))) else (none)) else (none)))))
def clearwayref02_Proof.f : Nat → List ByteArray → Int → Option (List ByteArray × Int)
 | 0, _, _ => none
 | k + 1, l0, a1 => if a1 < 0 then (clearwayref02_Proof.j0 k l0 a1 true) else (clearwayref02_Proof.j0 k l0 a1 (decide (a1 ≥ (l0.length : Int))))
end
set_option maxHeartbeats 8000000 in
set_option maxRecDepth 100000 in
theorem clearwayref02_Proof.calls (k : Nat) : ∀ (A0 : Option Addr) (c0 : Nat) (l0 : List ByteArray) (a1 : Int) (r1 : List ByteArray) (r2 : Int) (w : World) (hr0 : Kd.C Kd.string w A0 l0.length l0) (hc0 : l0.length ≤ c0) (h : clearwayref02_Proof.f k l0 a1 = some (r1, r2)),
  Calls Tryd.prog 15 #[.slice A0 l0.length c0, .int .i64 a1] w fun e w' => ∃ v0_ : Value, e = .returned (.tuple #[v0_, .int .i64 r2]) ∧ Kd.R Kd.string 9 w' w.heap.size (fun _ => True) v0_ r1 ∧ Below w.heap.size w w' := by
 induction k using Nat.strongRecOn with
 | _ k ih =>
 intro A0 c0 l0 a1 r1 r2 w hr0 hc0 h
 cases k with
 | zero => exact absurd h (by simp [clearwayref02_Proof.f])
 | succ k =>
 simp only [clearwayref02_Proof.f] at h
 have HR0 := Aside0.mk hr0
 have HC0 := Aside0.mk hc0
 clear hr0 hc0
 have HB := Aside0.mk (Below.refl w.heap.size w)
 have H : (if a1 < 0 then (clearwayref02_Proof.j0 k l0 a1 true) else (clearwayref02_Proof.j0 k l0 a1 (decide (a1 ≥ (l0.length : Int))))) = some (r1, r2) := h
 clear h
 have HC3 := Aside0.mk H
 clear H
 go_enter Tryd.func15, Tryd.ntmps15
 go_upto_region 1 with (fail)
 go_cut [18] (fun v18 wc => ∃ (kq : Nat) (x18_2 : Bool), v18 = .bool x18_2 ∧ Aside0 (clearwayref02_Proof.j0 kq l0 a1 x18_2 = some (r1, r2)) ∧ Aside0 (kq ≤ k) ∧ Aside0 (Below w.heap.size w wc))
 case first =>
  have H := HC3.out
  clear HC3
  by_cases c4 : a1 < 0
  ·rw [if_pos c4] at H
   have c4b0 : decide (a1 < 0) = true := decide_eq_true c4
   clear c4
   (first | rw [c4b0] | (simp only [i64_w, i32_w]; rw [c4b0]) | skip)
   have H' := Aside0.mk H
   clear H
   go_wp2
   go_meet
   case rel => exact ⟨_, (true), (by first | rfl | (simp; done) | (simp [*]; done)), H', ⟨by first | omega | exact Nat.le_refl _⟩, ⟨by repeat (first | (with_reducible first | exact HB.out | apply below_alloc | apply pw_below_drewN | apply below_drew1) | exact HB.out)⟩⟩
  ·rw [if_neg c4] at H
   have c4b0 : decide (a1 < 0) = false := decide_eq_false c4
   clear c4
   (first | rw [c4b0] | (simp only [i64_w, i32_w]; rw [c4b0]) | skip)
   have H' := Aside0.mk H
   clear H
   go_wp2
   go_meet
   case rel => exact ⟨_, (decide (a1 ≥ (l0.length : Int))), (by first | rfl | (simp; done) | (simp [*]; done)), H', ⟨by first | omega | exact Nat.le_refl _⟩, ⟨by repeat (first | (with_reducible first | exact HB.out | apply below_alloc | apply pw_below_drewN | apply below_drew1) | exact HB.out)⟩⟩
 case rest =>
  clear HC3
  try clear c1
  try clear p2
  try clear c4
  try clear c4b0
  obtain ⟨kq, x18_2, rfl, HA, HJ2, HB⟩ := hcut
  cases kq with
  | zero => exact absurd HA.out (by simp [clearwayref02_Proof.j0])
  | succ kj2 =>
   have H := HA.out
   clear HA
   simp only [clearwayref02_Proof.j0] at H
   by_cases c5 : x18_2 = true
   ·subst c5
    have H1 : (some (([] : List ByteArray), 2)) = some (r1, r2) := by rw [if_pos rfl] at H; exact H
    clear H
    have H := H1
    clear H1
    simp only [Option.some.injEq, Prod.mk.injEq] at H
    obtain ⟨rfl, rfl⟩ := H
    go_wp2
    go_ret2
    exact ⟨_, by first | rfl | (simp [errW_none, errW_some] <;> rfl) | (simp [*, errW_none, errW_some] <;> rfl), by first | exact Kd.R_nil _ _ _ _ _ | exact Kd.N_nil _ _ _ _ _ | exact Kd.V_nil _ _ _ _ _ | exact Kd.Q_nil _ _ _ _ _ | exact Kd.S_nil _ _ _ _ _, by repeat (first | (with_reducible first | exact HB.out | apply below_alloc | apply pw_below_drewN | apply below_drew1) | exact HB.out)⟩
   ·replace c5 := Bool.eq_false_iff.mpr c5
    subst c5
    have H1 : (if (l0.length : Int) = 1 then (some (([] : List ByteArray), 0)) else ((clearwayref02_Left.f kj2 (l0.length : Int)).bind fun t225 => (if a1 < t225 then (if 0 ≤ t225 then (if t225 ≤ (l0.length : Int) then ((clearwayref02_Proof.f kj2 (l0.take (t225 : Int).toNat) a1).bind fun bt227 => ((clearwayref02_Root.f kj2 (l0.drop (t225 : Int).toNat)).bind fun t232 => (if bt227.1.length < 8796093022208 then (some ((bt227.1 ++ [t232]), 0)) else (none)))) else (none)) else (none)) else (if 0 ≤ t225 then (if t225 ≤ (l0.length : Int) then ((clearwayref02_Proof.f kj2 (l0.drop (t225 : Int).toNat) (wrap64 (a1 - t225))).bind fun bt237 => ((clearwayref02_Root.f kj2 (l0.take (t225 : Int).toNat)).bind fun t242 => (if bt237.1.length < 8796093022208 then (some ((bt237.1 ++ [t242]), 0)) else (none)))) else (none)) else (none))))) = some (r1, r2) := by rw [if_neg (show ¬ (false = true) by decide)] at H; exact H
    clear H
    have H := H1
    clear H1
    by_cases c6 : (l0.length : Int) = 1
    ·rw [if_pos c6] at H
     have c6b0 : ((l0.length : Int) == 1) = true := beq_iff_eq.mpr c6
     have c6b1 : ((l0.length : Int) != 1) = false := bne_eq_false_iff_eq.mpr c6
     clear c6
     simp only [Option.some.injEq, Prod.mk.injEq] at H
     obtain ⟨rfl, rfl⟩ := H
     go_wp2
     go_ret2
     exact ⟨_, by first | rfl | (simp [errW_none, errW_some] <;> rfl) | (simp [*, errW_none, errW_some] <;> rfl), by first | exact Kd.R_nil _ _ _ _ _ | exact Kd.N_nil _ _ _ _ _ | exact Kd.V_nil _ _ _ _ _ | exact Kd.Q_nil _ _ _ _ _ | exact Kd.S_nil _ _ _ _ _, by repeat (first | (with_reducible first | exact HB.out | apply below_alloc | apply pw_below_drewN | apply below_drew1) | exact HB.out)⟩
    ·rw [if_neg c6] at H
     have c6b0 : ((l0.length : Int) == 1) = false := beq_eq_false_iff_ne.mpr c6
     have c6b1 : ((l0.length : Int) != 1) = true := bne_iff_ne.mpr c6
     replace H := Option.bind_eq_some_iff.mp H
     obtain ⟨t225, A70, H⟩ := H
     replace H : (if a1 < t225 then (if 0 ≤ t225 then (if t225 ≤ (l0.length : Int) then ((clearwayref02_Proof.f kj2 (l0.take (t225 : Int).toNat) a1).bind fun bt227 => ((clearwayref02_Root.f kj2 (l0.drop (t225 : Int).toNat)).bind fun t232 => (if bt227.1.length < 8796093022208 then (some ((bt227.1 ++ [t232]), 0)) else (none)))) else (none)) else (none)) else (if 0 ≤ t225 then (if t225 ≤ (l0.length : Int) then ((clearwayref02_Proof.f kj2 (l0.drop (t225 : Int).toNat) (wrap64 (a1 - t225))).bind fun bt237 => ((clearwayref02_Root.f kj2 (l0.take (t225 : Int).toNat)).bind fun t242 => (if bt237.1.length < 8796093022208 then (some ((bt237.1 ++ [t242]), 0)) else (none)))) else (none)) else (none))) = some (r1, r2) := H
     have A7 := Aside0.mk A70
     clear A70
     by_cases c8 : a1 < t225
     ·rw [if_pos c8] at H
      have c8b0 : decide (a1 < t225) = true := decide_eq_true c8
      clear c8
      by_cases c9 : 0 ≤ t225
      ·rw [if_pos c9] at H
       have c9b0 := eq_true c9
       have c9b1 : decide (0 ≤ t225) = true := decide_eq_true c9
       clear c9
       by_cases c10 : t225 ≤ (l0.length : Int)
       ·rw [if_pos c10] at H
        have c10b0 := eq_true c10
        have c10b1 : decide (t225 ≤ (l0.length : Int)) = true := decide_eq_true c10
        clear c10
        replace H := Option.bind_eq_some_iff.mp H
        obtain ⟨⟨t227, t228⟩, A110, H⟩ := H
        replace H : ((clearwayref02_Root.f kj2 (l0.drop (t225 : Int).toNat)).bind fun t232 => (if t227.length < 8796093022208 then (some ((t227 ++ [t232]), 0)) else (none))) = some (r1, r2) := H
        have A11 := Aside0.mk A110
        clear A110
        have c12b0 := eq_true (of_decide_eq_true (by first | (with_reducible assumption) | assumption) : 0 ≤ t225)
        have c13b0 := eq_true (of_decide_eq_true (by first | (with_reducible assumption) | assumption) : t225 ≤ (l0.length : Int))
        replace H := Option.bind_eq_some_iff.mp H
        obtain ⟨t232, A140, H⟩ := H
        replace H : (if t227.length < 8796093022208 then (some ((t227 ++ [t232]), 0)) else (none)) = some (r1, r2) := H
        have A14 := Aside0.mk A140
        clear A140
        by_cases c15 : t227.length < 8796093022208
        ·rw [if_pos c15] at H
         have LMc15 := Aside0.mk c15
         clear c15
         obtain ⟨y233, hy233⟩ : ∃ y_ : List ByteArray, y_ = (t227 ++ [t232]) := ⟨_, rfl⟩
         replace H : (some (y233, 0)) = some (r1, r2) := by first | (rw [hy233]; with_reducible exact H) | (have H2_ := (Option.bind_some _ _).symm.trans H; rw [hy233]; with_reducible exact H2_) | (have H2_ := (Option.bind_some _ _).symm.trans H; with_reducible exact H2_) | with_reducible exact H | (rw [hy233]; exact H) | exact H
         have Ny233 := Aside0.mk hy233
         clear hy233
         simp only [Option.some.injEq, Prod.mk.injEq] at H
         obtain ⟨rfl, rfl⟩ := H
         go_wp2_with (first | ((with_reducible refine gate_callee (f := 42) rfl ?_); refine goesL_ (some 24) rfl rfl Tryd.func42 (by kernel_rfl) rfl #[.int .i64 (l0.length : Int)] rfl (by (try simp only [List.map_toArray, List.map_cons, List.map_nil]); first | done | rfl | (simp only [List.length_drop, List.length_take]; rfl)) ?_; (with_reducible refine (clearwayref02_Left.calls kj2 (l0.length : Int) t225 _ A7.out).mono ?_); rintro e w' ⟨rfl, ⟨nd, rfl⟩⟩; refine ⟨_, rfl, ?_⟩; obtain ⟨i016, hi016, _, hsz16, _⟩ := info_parts info9; obtain ⟨hcut16, hA16, hC16⟩ := print_take_of (P := Tryd.prog) Value.string (⟨#[]⟩ : ByteArray) 22 9 .i64 Tryd.underlying22 hi016 hsz16 A0 c0 l0 t225 (of_decide_eq_true (by first | (with_reducible assumption) | assumption)) (of_decide_eq_true (by first | (with_reducible assumption) | assumption)) HC0.out; have HR226 := Aside0.mk (Kd.C_of_reads (h1 := fun _ => rfl) (hA16 _ (Kd.reads_of_C HR0.out))); have HC226 := Aside0.mk hC16; clear hA16 hC16 hi016 hsz16) | ((with_reducible refine gate_callee (f := 15) rfl ?_); refine goesL_ (some 33) rfl rfl Tryd.func15 (by kernel_rfl) rfl #[.slice A0 (l0.take (t225 : Int).toNat).length c0, .int .i64 a1] rfl (by (try simp only [List.map_toArray, List.map_cons, List.map_nil]); first | done | (rw [show (l0.take (t225 : Int).toNat).length = t225.toNat from (by rw [List.length_take]; have h_ : (t225 : Int) ≤ (l0.length : Int) := of_decide_eq_true (by first | (with_reducible assumption) | assumption); omega)] <;> rfl) | rfl | (simp only [List.length_drop, List.length_take]; rfl)) ?_; (with_reducible refine (ih kj2 (by have := HJ2.out; omega) _ _ (l0.take (t225 : Int).toNat) a1 t227 t228 _ ?side1 ?side2 A11.out).mono ?_); (case side1 => repeat (first | exact (Kd.C_below HR226.out (by repeat (first | (with_reducible first | exact HB.out | apply below_alloc | apply pw_below_drewN | apply below_drew1) | exact HB.out))) | (with_reducible refine Kd.C_alloc ?_ _) | (with_reducible refine Kd.C_drewN ?_ _) | (with_reducible refine Kd.C_drew ?_))); (case side2 => exact HC226.out); rintro e w17 ⟨v229, rfl, ho0, hb⟩; refine ⟨_, rfl, ?_⟩; have n0_ := Aside0.mk (Kd.R_lower ho0 (below_size (by repeat (first | (with_reducible first | exact HB.out | apply below_alloc | apply pw_below_drewN | apply below_drew1) | exact HB.out)))); have n1_ := Aside0.mk (below_step (by repeat (first | (with_reducible first | exact HB.out | apply below_alloc | apply pw_below_drewN | apply below_drew1) | exact HB.out)) hb); clear HB; have HO230 := n0_; have HB := n1_; clear n0_ n1_; (try clear hb); (try clear hb2); (try clear hk); (try clear hi); (try clear ho0); obtain ⟨i018, hi018, _, hsz18, _⟩ := info_parts info9; obtain ⟨A18, hcut18, hA18, hC18⟩ := print_drop_of (P := Tryd.prog) Value.string (⟨#[]⟩ : ByteArray) 22 9 .i64 Tryd.underlying22 hi018 hsz18 A0 c0 l0 t225 (of_decide_eq_true (by first | (with_reducible assumption) | assumption)) (of_decide_eq_true (by first | (with_reducible assumption) | assumption)) HC0.out; have HR231 := Aside0.mk (Kd.C_of_reads (h1 := fun _ => rfl) (hA18 _ (Kd.reads_of_C HR0.out))); have HC231 := Aside0.mk hC18; clear hA18 hC18 hi018 hsz18) | ((with_reducible refine gate_callee (f := 20) rfl ?_); refine goesL_ (some 40) rfl rfl Tryd.func20 (by kernel_rfl) rfl #[.slice A18 (l0.drop (t225 : Int).toNat).length (c0 - t225.toNat)] rfl (by (try simp only [List.map_toArray, List.map_cons, List.map_nil]); first | done | (rw [show (l0.drop (t225 : Int).toNat).length = (l0.length - t225.toNat) from List.length_drop] <;> rfl) | rfl | (simp only [List.length_drop, List.length_take]; rfl)) ?_; (with_reducible refine (clearwayref02_Root.calls kj2 _ _ (l0.drop (t225 : Int).toNat) t232 _ ?side1 ?side2 A14.out).mono ?_); (case side1 => repeat (first | exact (Kd.C_below HR231.out HB.out) | (with_reducible refine Kd.C_alloc ?_ _) | (with_reducible refine Kd.C_drewN ?_ _) | (with_reducible refine Kd.C_drew ?_))); (case side2 => exact HC231.out); rintro e w19 ⟨rfl, hb⟩; refine ⟨_, rfl, ?_⟩; have n0_ := Aside0.mk (Kd.R_below (by (with_reducible repeat (first | apply Kd.R_alloc | apply Kd.R_drewN | apply Kd.R_drew)); exact HO230.out) hb); have n1_ := Aside0.mk (below_step (by repeat (first | (with_reducible first | exact HB.out | apply below_alloc | apply pw_below_drewN | apply below_drew1) | exact HB.out)) hb); clear HO230; clear HB; have HO230 := n0_; have HB := n1_; clear n0_ n1_; (try clear hb); (try clear hb2); (try clear hk); (try clear hi)) | ((with_reducible refine gate_builtin (b := .append) (xs := #[.tmp 36, .tmp 41]) rfl ?_); (try (refine gate_guard (by rfl) ?_; dsimp only)); at_builtin; refine Kd.R_append Kd.string (w0 := w) w.heap.size rfl (.tmp 36) (.tmp 41) 22 9 (.string ⟨#[]⟩) 16 rfl Tryd.underlying22 info9 rfl (by decide) (by omega) v229 t227 t232 [.string t232] (fun _ => True) (fun _ => False) rfl rfl ?aP (fun _ hk => hk.elim) ?aF ?aO ?aB ?aS ?aL ?_; (case aP => exact rfl); (case aB => exact (by repeat (first | (with_reducible first | exact HB.out | apply below_alloc | apply pw_below_drewN | apply below_drew1) | exact HB.out))); (case aF => exact (fun _ _ => trivial)); (case aO => exact (by (with_reducible repeat (first | apply Kd.R_alloc | apply Kd.R_drewN | apply Kd.R_drew)); exact HO230.out)); (case aS => exact (below_size (by repeat (first | (with_reducible first | exact HB.out | apply below_alloc | apply pw_below_drewN | apply below_drew1) | exact HB.out)))); (case aL => have := LMc15.out; omega); intro v234 w20 ho hb hg hat; rw [← Ny233.out] at ho; have n0_ := Aside0.mk (hb); have n1_ := Aside0.mk (ho); clear HB; clear HO230; have HB := n0_; have HO235 := n1_; clear n0_ n1_; clear ho hb hg hat))
         go_ret2
         exact ⟨_, by first | rfl | (simp [errW_none, errW_some] <;> rfl) | (simp [*, errW_none, errW_some] <;> rfl), by (with_reducible repeat (first | apply Kd.R_alloc | apply Kd.R_drewN | apply Kd.R_drew)); exact HO235.out, by repeat (first | (with_reducible first | exact HB.out | apply below_alloc | apply pw_below_drewN | apply below_drew1) | exact HB.out)⟩
        ·rw [if_neg c15] at H
         exact absurd H (by simp)
       ·rw [if_neg c10] at H
        exact absurd H (by simp)
      ·rw [if_neg c9] at H
       exact absurd H (by simp)
     ·rw [if_neg c8] at H
      have c8b0 : decide (a1 < t225) = false := decide_eq_false c8
      clear c8
      by_cases c21 : 0 ≤ t225
      ·rw [if_pos c21] at H
       have c21b0 := eq_true c21
       have c21b1 : decide (0 ≤ t225) = true := decide_eq_true c21
       clear c21
       by_cases c22 : t225 ≤ (l0.length : Int)
       ·rw [if_pos c22] at H
        have c22b0 := eq_true c22
        have c22b1 : decide (t225 ≤ (l0.length : Int)) = true := decide_eq_true c22
        clear c22
        replace H := Option.bind_eq_some_iff.mp H
        obtain ⟨⟨t237, t238⟩, A230, H⟩ := H
        replace H : ((clearwayref02_Root.f kj2 (l0.take (t225 : Int).toNat)).bind fun t242 => (if t237.length < 8796093022208 then (some ((t237 ++ [t242]), 0)) else (none))) = some (r1, r2) := H
        have A23 := Aside0.mk A230
        clear A230
        have c24b0 := eq_true (of_decide_eq_true (by first | (with_reducible assumption) | assumption) : 0 ≤ t225)
        have c25b0 := eq_true (of_decide_eq_true (by first | (with_reducible assumption) | assumption) : t225 ≤ (l0.length : Int))
        replace H := Option.bind_eq_some_iff.mp H
        obtain ⟨t242, A260, H⟩ := H
        replace H : (if t237.length < 8796093022208 then (some ((t237 ++ [t242]), 0)) else (none)) = some (r1, r2) := H
        have A26 := Aside0.mk A260
        clear A260
        by_cases c27 : t237.length < 8796093022208
        ·rw [if_pos c27] at H
         have LMc27 := Aside0.mk c27
         clear c27
         obtain ⟨y243, hy243⟩ : ∃ y_ : List ByteArray, y_ = (t237 ++ [t242]) := ⟨_, rfl⟩
         replace H : (some (y243, 0)) = some (r1, r2) := by first | (rw [hy243]; with_reducible exact H) | (have H2_ := (Option.bind_some _ _).symm.trans H; rw [hy243]; with_reducible exact H2_) | (have H2_ := (Option.bind_some _ _).symm.trans H; with_reducible exact H2_) | with_reducible exact H | (rw [hy243]; exact H) | exact H
         have Ny243 := Aside0.mk hy243
         clear hy243
         simp only [Option.some.injEq, Prod.mk.injEq] at H
         obtain ⟨rfl, rfl⟩ := H
         go_wp2_with (first | ((with_reducible refine gate_callee (f := 42) rfl ?_); refine goesL_ (some 24) rfl rfl Tryd.func42 (by kernel_rfl) rfl #[.int .i64 (l0.length : Int)] rfl (by (try simp only [List.map_toArray, List.map_cons, List.map_nil]); first | done | rfl | (simp only [List.length_drop, List.length_take]; rfl)) ?_; (with_reducible refine (clearwayref02_Left.calls kj2 (l0.length : Int) t225 _ A7.out).mono ?_); rintro e w' ⟨rfl, ⟨nd, rfl⟩⟩; refine ⟨_, rfl, ?_⟩; obtain ⟨i028, hi028, _, hsz28, _⟩ := info_parts info9; obtain ⟨A28, hcut28, hA28, hC28⟩ := print_drop_of (P := Tryd.prog) Value.string (⟨#[]⟩ : ByteArray) 22 9 .i64 Tryd.underlying22 hi028 hsz28 A0 c0 l0 t225 (of_decide_eq_true (by first | (with_reducible assumption) | assumption)) (of_decide_eq_true (by first | (with_reducible assumption) | assumption)) HC0.out; have HR236 := Aside0.mk (Kd.C_of_reads (h1 := fun _ => rfl) (hA28 _ (Kd.reads_of_C HR0.out))); have HC236 := Aside0.mk hC28; clear hA28 hC28 hi028 hsz28) | ((with_reducible refine gate_callee (f := 15) rfl ?_); refine goesL_ (some 50) rfl rfl Tryd.func15 (by kernel_rfl) rfl #[.slice A28 (l0.drop (t225 : Int).toNat).length (c0 - t225.toNat), .int .i64 (wrap64 (a1 - t225))] rfl (by (try simp only [List.map_toArray, List.map_cons, List.map_nil]); first | done | (rw [show (l0.drop (t225 : Int).toNat).length = (l0.length - t225.toNat) from List.length_drop] <;> rfl) | rfl | (simp only [List.length_drop, List.length_take]; rfl)) ?_; (with_reducible refine (ih kj2 (by have := HJ2.out; omega) _ _ (l0.drop (t225 : Int).toNat) (wrap64 (a1 - t225)) t237 t238 _ ?side1 ?side2 A23.out).mono ?_); (case side1 => repeat (first | exact (Kd.C_below HR236.out (by repeat (first | (with_reducible first | exact HB.out | apply below_alloc | apply pw_below_drewN | apply below_drew1) | exact HB.out))) | (with_reducible refine Kd.C_alloc ?_ _) | (with_reducible refine Kd.C_drewN ?_ _) | (with_reducible refine Kd.C_drew ?_))); (case side2 => exact HC236.out); rintro e w29 ⟨v239, rfl, ho0, hb⟩; refine ⟨_, rfl, ?_⟩; have n0_ := Aside0.mk (Kd.R_lower ho0 (below_size (by repeat (first | (with_reducible first | exact HB.out | apply below_alloc | apply pw_below_drewN | apply below_drew1) | exact HB.out)))); have n1_ := Aside0.mk (below_step (by repeat (first | (with_reducible first | exact HB.out | apply below_alloc | apply pw_below_drewN | apply below_drew1) | exact HB.out)) hb); clear HB; have HO240 := n0_; have HB := n1_; clear n0_ n1_; (try clear hb); (try clear hb2); (try clear hk); (try clear hi); (try clear ho0); obtain ⟨i030, hi030, _, hsz30, _⟩ := info_parts info9; obtain ⟨hcut30, hA30, hC30⟩ := print_take_of (P := Tryd.prog) Value.string (⟨#[]⟩ : ByteArray) 22 9 .i64 Tryd.underlying22 hi030 hsz30 A0 c0 l0 t225 (of_decide_eq_true (by first | (with_reducible assumption) | assumption)) (of_decide_eq_true (by first | (with_reducible assumption) | assumption)) HC0.out; have HR241 := Aside0.mk (Kd.C_of_reads (h1 := fun _ => rfl) (hA30 _ (Kd.reads_of_C HR0.out))); have HC241 := Aside0.mk hC30; clear hA30 hC30 hi030 hsz30) | ((with_reducible refine gate_callee (f := 20) rfl ?_); refine goesL_ (some 57) rfl rfl Tryd.func20 (by kernel_rfl) rfl #[.slice A0 (l0.take (t225 : Int).toNat).length c0] rfl (by (try simp only [List.map_toArray, List.map_cons, List.map_nil]); first | done | (rw [show (l0.take (t225 : Int).toNat).length = t225.toNat from (by rw [List.length_take]; have h_ : (t225 : Int) ≤ (l0.length : Int) := of_decide_eq_true (by first | (with_reducible assumption) | assumption); omega)] <;> rfl) | rfl | (simp only [List.length_drop, List.length_take]; rfl)) ?_; (with_reducible refine (clearwayref02_Root.calls kj2 _ _ (l0.take (t225 : Int).toNat) t242 _ ?side1 ?side2 A26.out).mono ?_); (case side1 => repeat (first | exact (Kd.C_below HR241.out HB.out) | (with_reducible refine Kd.C_alloc ?_ _) | (with_reducible refine Kd.C_drewN ?_ _) | (with_reducible refine Kd.C_drew ?_))); (case side2 => exact HC241.out); rintro e w31 ⟨rfl, hb⟩; refine ⟨_, rfl, ?_⟩; have n0_ := Aside0.mk (Kd.R_below (by (with_reducible repeat (first | apply Kd.R_alloc | apply Kd.R_drewN | apply Kd.R_drew)); exact HO240.out) hb); have n1_ := Aside0.mk (below_step (by repeat (first | (with_reducible first | exact HB.out | apply below_alloc | apply pw_below_drewN | apply below_drew1) | exact HB.out)) hb); clear HO240; clear HB; have HO240 := n0_; have HB := n1_; clear n0_ n1_; (try clear hb); (try clear hb2); (try clear hk); (try clear hi)) | ((with_reducible refine gate_builtin (b := .append) (xs := #[.tmp 53, .tmp 58]) rfl ?_); (try (refine gate_guard (by rfl) ?_; dsimp only)); at_builtin; refine Kd.R_append Kd.string (w0 := w) w.heap.size rfl (.tmp 53) (.tmp 58) 22 9 (.string ⟨#[]⟩) 16 rfl Tryd.underlying22 info9 rfl (by decide) (by omega) v239 t237 t242 [.string t242] (fun _ => True) (fun _ => False) rfl rfl ?aP (fun _ hk => hk.elim) ?aF ?aO ?aB ?aS ?aL ?_; (case aP => exact rfl); (case aB => exact (by repeat (first | (with_reducible first | exact HB.out | apply below_alloc | apply pw_below_drewN | apply below_drew1) | exact HB.out))); (case aF => exact (fun _ _ => trivial)); (case aO => exact (by (with_reducible repeat (first | apply Kd.R_alloc | apply Kd.R_drewN | apply Kd.R_drew)); exact HO240.out)); (case aS => exact (below_size (by repeat (first | (with_reducible first | exact HB.out | apply below_alloc | apply pw_below_drewN | apply below_drew1) | exact HB.out)))); (case aL => have := LMc27.out; omega); intro v244 w32 ho hb hg hat; rw [← Ny243.out] at ho; have n0_ := Aside0.mk (hb); have n1_ := Aside0.mk (ho); clear HB; clear HO240; have HB := n0_; have HO245 := n1_; clear n0_ n1_; clear ho hb hg hat))
         go_ret2
         exact ⟨_, by first | rfl | (simp [errW_none, errW_some] <;> rfl) | (simp [*, errW_none, errW_some] <;> rfl), by (with_reducible repeat (first | apply Kd.R_alloc | apply Kd.R_drewN | apply Kd.R_drew)); exact HO245.out, by repeat (first | (with_reducible first | exact HB.out | apply below_alloc | apply pw_below_drewN | apply below_drew1) | exact HB.out)⟩
        ·rw [if_neg c27] at H
         exact absurd H (by simp)
       ·rw [if_neg c22] at H
        exact absurd H (by simp)
      ·rw [if_neg c21] at H
       exact absurd H (by simp)

end Go.Proofs.YtjkdenldddjcnaaDoor.Dm

set_option linter.unusedVariables false
namespace Go.Proofs.YtjkdenldddjcnaaDoor.Sha
open Go Go.RowKit Go.Proofs.YtjkdenldddjcnaaDoor.Df Go.Proofs.YtjkdenldddjcnaaDoorW.PrintWords Go.Proofs.YtjkdenldddjcnaaDoorW.PrintLast Go.Proofs.YtjkdenldddjcnaaDoorW.PrintMore

def extC.f (k : Nat) (l0 : List ByteArray) (a1 : Int) : Option (List ByteArray × Int) := digest_Extension.f k l0 a1
theorem extC.mono : ∀ a0 a1 k, LeO (extC.f k a0 a1) (extC.f (k + 1) a0 a1) := digest_Extension.mono
theorem extC.calls (k : Nat) (A0 : Option Addr) (c0 : Nat) (l0 : List ByteArray) (a1 : Int) (r1 : List ByteArray) (r2 : Int) (w : World) (hr0 : Kd.C Kd.string w A0 l0.length l0) (hc0 : l0.length ≤ c0) (hG_ : Amb w) (h : extC.f k l0 a1 = some (r1, r2)) :
    Calls Tryd.prog 16 #[.slice A0 l0.length c0, .int .i64 a1] w fun e w' => ∃ v0_ : Value, e = .returned (.tuple #[v0_, .int .i64 r2]) ∧ Kd.R Kd.string 9 w' w.heap.size (fun _ => True) v0_ r1 ∧ Below w.heap.size w w' := by
  refine (digest_Extension.calls k (fun k_ => k_ < w.heap.size) A0 c0 l0 a1 r1 r2 w (Kd.V_mk hc0 (Kd.C_F Kd.heap_string hr0)) hG_ h).mono ?_
  rintro e w' ⟨v0_, rfl, hR, hB⟩
  exact ⟨v0_, rfl, Kd.R_mono hR (fun _ _ => trivial), hB⟩
def proofC.f (k : Nat) (l0 : List ByteArray) (a1 : Int) : Option (List ByteArray × Int) := digest_Proof.f k l0 a1
theorem proofC.mono : ∀ a0 a1 k, LeO (proofC.f k a0 a1) (proofC.f (k + 1) a0 a1) := digest_Proof.mono
theorem proofC.calls (k : Nat) (A0 : Option Addr) (c0 : Nat) (l0 : List ByteArray) (a1 : Int) (r1 : List ByteArray) (r2 : Int) (w : World) (hr0 : Kd.C Kd.string w A0 l0.length l0) (hc0 : l0.length ≤ c0) (hG_ : Amb w) (h : proofC.f k l0 a1 = some (r1, r2)) :
    Calls Tryd.prog 14 #[.slice A0 l0.length c0, .int .i64 a1] w fun e w' => ∃ v0_ : Value, e = .returned (.tuple #[v0_, .int .i64 r2]) ∧ Kd.R Kd.string 9 w' w.heap.size (fun _ => True) v0_ r1 ∧ Below w.heap.size w w' := by
  refine (digest_Proof.calls k (fun k_ => k_ < w.heap.size) A0 c0 l0 a1 r1 r2 w (Kd.V_mk hc0 (Kd.C_F Kd.heap_string hr0)) hG_ h).mono ?_
  rintro e w' ⟨v0_, rfl, hR, hB⟩
  exact ⟨v0_, rfl, Kd.R_mono hR (fun _ _ => trivial), hB⟩
theorem extC_f : extC.f = digest_Extension.f := rfl
theorem proofC_f : proofC.f = digest_Proof.f := rfl
end Go.Proofs.YtjkdenldddjcnaaDoor.Sha

set_option linter.unusedVariables false
set_option linter.unusedSimpArgs false
namespace Go.Proofs.YtjkdenldddjcnaaDoor.Sha
open Go Go.RowKit Go.Proofs.YtjkdenldddjcnaaDoor.Df Go.Proofs.YtjkdenldddjcnaaDoorW.PrintWords Go.Proofs.YtjkdenldddjcnaaDoorW.PrintLast Go.Proofs.YtjkdenldddjcnaaDoorW.PrintMore
set_option maxRecDepth 100000
set_option maxRecDepth 100000 in
theorem dsn1 : digest_Proof.f 200 [(⟨#[97]⟩ : ByteArray), (⟨#[98]⟩ : ByteArray), (⟨#[99]⟩ : ByteArray)] 2 = some ([(⟨#[177, 55, 152, 95, 244, 132, 251, 96, 13, 185, 49, 7, 199, 123, 3, 101, 200, 13, 120, 245, 180, 41, 222, 208, 253, 151, 54, 29, 7, 121, 153, 235]⟩ : ByteArray)], 0) := by kernel_rfl
set_option maxRecDepth 100000 in
theorem dsn2 : digest_Extension.f 200 [(⟨#[97]⟩ : ByteArray), (⟨#[98]⟩ : ByteArray), (⟨#[99]⟩ : ByteArray)] 1 = some ([(⟨#[87, 235, 53, 97, 93, 71, 243, 78, 199, 20, 202, 205, 245, 253, 116, 96, 138, 94, 142, 16, 39, 36, 232, 11, 36, 178, 135, 192, 194, 123, 106, 49]⟩ : ByteArray), (⟨#[89, 127, 203, 49, 40, 45, 52, 101, 76, 32, 13, 52, 24, 252, 165, 112, 92, 100, 142, 191, 50, 110, 199, 61, 141, 222, 241, 24, 65, 248, 118, 216]⟩ : ByteArray)], 0) := by kernel_rfl
set_option maxRecDepth 100000 in
theorem dsn3 : digest_Proof.f 200 [(⟨#[97]⟩ : ByteArray), (⟨#[98]⟩ : ByteArray), (⟨#[99]⟩ : ByteArray)] 3 = some ([], 2) := by kernel_rfl
set_option maxRecDepth 100000 in
theorem dsn4 : digest_Root.f [(⟨#[97]⟩ : ByteArray), (⟨#[98]⟩ : ByteArray), (⟨#[99]⟩ : ByteArray)] = some (⟨#[54, 100, 46, 115, 194, 84, 10, 177, 33, 227, 166, 191, 149, 69, 176, 162, 73, 130, 205, 131, 14, 177, 61, 60, 209, 157, 227, 206, 108, 2, 30, 193]⟩ : ByteArray) := by kernel_rfl
set_option maxRecDepth 100000 in
theorem dsn5 : digest_Sum.f (⟨#[]⟩ : ByteArray) = some (⟨#[227, 176, 196, 66, 152, 252, 28, 20, 154, 251, 244, 200, 153, 111, 185, 36, 39, 174, 65, 228, 100, 155, 147, 76, 164, 149, 153, 27, 120, 82, 184, 85]⟩ : ByteArray) := by kernel_rfl
set_option maxRecDepth 100000 in
theorem dsn6 : digest_Sum.f (⟨#[97, 98, 99]⟩ : ByteArray) = some (⟨#[186, 120, 22, 191, 143, 1, 207, 234, 65, 65, 64, 222, 93, 174, 34, 35, 176, 3, 97, 163, 150, 23, 122, 156, 180, 16, 255, 97, 242, 0, 21, 173]⟩ : ByteArray) := by kernel_rfl
set_option maxRecDepth 100000 in
theorem dsn7 : clearwaylaw02_hex.f (⟨#[227, 176, 196, 66, 152, 252, 28, 20, 154, 251, 244, 200, 153, 111, 185, 36, 39, 174, 65, 228, 100, 155, 147, 76, 164, 149, 153, 27, 120, 82, 184, 85]⟩ : ByteArray) = some (⟨#[101, 51, 98, 48, 99, 52, 52, 50, 57, 56, 102, 99, 49, 99, 49, 52, 57, 97, 102, 98, 102, 52, 99, 56, 57, 57, 54, 102, 98, 57, 50, 52, 50, 55, 97, 101, 52, 49, 101, 52, 54, 52, 57, 98, 57, 51, 52, 99, 97, 52, 57, 53, 57, 57, 49, 98, 55, 56, 53, 50, 98, 56, 53, 53]⟩ : ByteArray) := by kernel_rfl
set_option maxRecDepth 100000 in
theorem dsn8 : clearwaylaw02_hex.f (⟨#[186, 120, 22, 191, 143, 1, 207, 234, 65, 65, 64, 222, 93, 174, 34, 35, 176, 3, 97, 163, 150, 23, 122, 156, 180, 16, 255, 97, 242, 0, 21, 173]⟩ : ByteArray) = some (⟨#[98, 97, 55, 56, 49, 54, 98, 102, 56, 102, 48, 49, 99, 102, 101, 97, 52, 49, 52, 49, 52, 48, 100, 101, 53, 100, 97, 101, 50, 50, 50, 51, 98, 48, 48, 51, 54, 49, 97, 51, 57, 54, 49, 55, 55, 97, 57, 99, 98, 52, 49, 48, 102, 102, 54, 49, 102, 50, 48, 48, 49, 53, 97, 100]⟩ : ByteArray) := by kernel_rfl
set_option maxRecDepth 100000 in
theorem dsn9 : digest_Verify.f (⟨#[54, 100, 46, 115, 194, 84, 10, 177, 33, 227, 166, 191, 149, 69, 176, 162, 73, 130, 205, 131, 14, 177, 61, 60, 209, 157, 227, 206, 108, 2, 30, 193]⟩ : ByteArray) 3 2 (⟨#[99]⟩ : ByteArray) [(⟨#[177, 55, 152, 95, 244, 132, 251, 96, 13, 185, 49, 7, 199, 123, 3, 101, 200, 13, 120, 245, 180, 41, 222, 208, 253, 151, 54, 29, 7, 121, 153, 235]⟩ : ByteArray)] = some true := by kernel_rfl
set_option maxRecDepth 100000 in
theorem dsn10 : digest_Verify.f (⟨#[54, 100, 46, 115, 194, 84, 10, 177, 33, 227, 166, 191, 149, 69, 176, 162, 73, 130, 205, 131, 14, 177, 61, 60, 209, 157, 227, 206, 108, 2, 30, 193]⟩ : ByteArray) 3 2 (⟨#[100]⟩ : ByteArray) [(⟨#[177, 55, 152, 95, 244, 132, 251, 96, 13, 185, 49, 7, 199, 123, 3, 101, 200, 13, 120, 245, 180, 41, 222, 208, 253, 151, 54, 29, 7, 121, 153, 235]⟩ : ByteArray)] = some false := by kernel_rfl
set_option maxRecDepth 100000 in
theorem dsn11 : digest_Root.f [(⟨#[97]⟩ : ByteArray)] = some (⟨#[2, 42, 105, 121, 230, 218, 183, 170, 90, 228, 195, 229, 228, 95, 126, 151, 113, 18, 167, 230, 53, 147, 130, 13, 190, 193, 236, 115, 138, 36, 249, 60]⟩ : ByteArray) := by kernel_rfl
set_option maxRecDepth 100000 in
theorem dsn12 : digest_Root.f [(⟨#[97]⟩ : ByteArray), (⟨#[98]⟩ : ByteArray)] = some (⟨#[177, 55, 152, 95, 244, 132, 251, 96, 13, 185, 49, 7, 199, 123, 3, 101, 200, 13, 120, 245, 180, 41, 222, 208, 253, 151, 54, 29, 7, 121, 153, 235]⟩ : ByteArray) := by kernel_rfl
set_option maxRecDepth 100000 in
theorem dsn13 : digest_VerifyExtension.f (⟨#[2, 42, 105, 121, 230, 218, 183, 170, 90, 228, 195, 229, 228, 95, 126, 151, 113, 18, 167, 230, 53, 147, 130, 13, 190, 193, 236, 115, 138, 36, 249, 60]⟩ : ByteArray) 1 (⟨#[54, 100, 46, 115, 194, 84, 10, 177, 33, 227, 166, 191, 149, 69, 176, 162, 73, 130, 205, 131, 14, 177, 61, 60, 209, 157, 227, 206, 108, 2, 30, 193]⟩ : ByteArray) 3 [(⟨#[87, 235, 53, 97, 93, 71, 243, 78, 199, 20, 202, 205, 245, 253, 116, 96, 138, 94, 142, 16, 39, 36, 232, 11, 36, 178, 135, 192, 194, 123, 106, 49]⟩ : ByteArray), (⟨#[89, 127, 203, 49, 40, 45, 52, 101, 76, 32, 13, 52, 24, 252, 165, 112, 92, 100, 142, 191, 50, 110, 199, 61, 141, 222, 241, 24, 65, 248, 118, 216]⟩ : ByteArray)] = some true := by kernel_rfl
set_option maxRecDepth 100000 in
theorem dsn14 : digest_VerifyExtension.f (⟨#[177, 55, 152, 95, 244, 132, 251, 96, 13, 185, 49, 7, 199, 123, 3, 101, 200, 13, 120, 245, 180, 41, 222, 208, 253, 151, 54, 29, 7, 121, 153, 235]⟩ : ByteArray) 1 (⟨#[54, 100, 46, 115, 194, 84, 10, 177, 33, 227, 166, 191, 149, 69, 176, 162, 73, 130, 205, 131, 14, 177, 61, 60, 209, 157, 227, 206, 108, 2, 30, 193]⟩ : ByteArray) 3 [(⟨#[87, 235, 53, 97, 93, 71, 243, 78, 199, 20, 202, 205, 245, 253, 116, 96, 138, 94, 142, 16, 39, 36, 232, 11, 36, 178, 135, 192, 194, 123, 106, 49]⟩ : ByteArray), (⟨#[89, 127, 203, 49, 40, 45, 52, 101, 76, 32, 13, 52, 24, 252, 165, 112, 92, 100, 142, 191, 50, 110, 199, 61, 141, 222, 241, 24, 65, 248, 118, 216]⟩ : ByteArray)] = some false := by kernel_rfl
theorem sane_f : clearwaylaw02_sane.f 200 = some true := by
 unfold clearwaylaw02_sane.f
 rw [Option.bind_some, dsn1, Option.bind_some, dsn2, Option.bind_some, dsn3, Option.bind_some, dsn4, Option.bind_some, dsn5, Option.bind_some, dsn7, Option.bind_some, if_pos (by rw [toList_data]), dsn6, Option.bind_some, dsn8, Option.bind_some]
 rw [show (ByteArray.toList (⟨#[98, 97, 55, 56, 49, 54, 98, 102, 56, 102, 48, 49, 99, 102, 101, 97, 52, 49, 52, 49, 52, 48, 100, 101, 53, 100, 97, 101, 50, 50, 50, 51, 98, 48, 48, 51, 54, 49, 97, 51, 57, 54, 49, 55, 55, 97, 57, 99, 98, 52, 49, 48, 102, 102, 54, 49, 102, 50, 48, 48, 49, 53, 97, 100]⟩ : ByteArray) == [98, 97, 55, 56, 49, 54, 98, 102, 56, 102, 48, 49, 99, 102, 101, 97, 52, 49, 52, 49, 52, 48, 100, 101, 53, 100, 97, 101, 50, 50, 50, 51, 98, 48, 48, 51, 54, 49, 97, 51, 57, 54, 49, 55, 55, 97, 57, 99, 98, 52, 49, 48, 102, 102, 54, 49, 102, 50, 48, 48, 49, 53, 97, 100]) = true by rw [toList_data]; decide]
 rw [clearwaylaw02_sane.j0, if_pos (by decide), if_pos (by decide), if_pos (by decide), if_pos (by decide), clearwaylaw02_sane.j1, if_pos rfl, if_pos (by decide), dsn9, Option.bind_some, if_pos rfl, dsn10, Option.bind_some, if_neg (by decide), if_pos (by decide)]
 rw [show List.take 1 [(⟨#[97]⟩ : ByteArray), (⟨#[98]⟩ : ByteArray), (⟨#[99]⟩ : ByteArray)] = [(⟨#[97]⟩ : ByteArray)] from rfl, dsn11, Option.bind_some, dsn13, Option.bind_some, if_pos rfl, if_pos (by decide), show List.take 2 [(⟨#[97]⟩ : ByteArray), (⟨#[98]⟩ : ByteArray), (⟨#[99]⟩ : ByteArray)] = [(⟨#[97]⟩ : ByteArray), (⟨#[98]⟩ : ByteArray)] from rfl, dsn12, Option.bind_some, dsn14, Option.bind_some]
 rfl
end Go.Proofs.YtjkdenldddjcnaaDoor.Sha

