/- The reference's digest is the program's (second part): the whole string. Condition: a string of at most 1,000,000 bytes. -/
import Derived.Test.YtniegajdmbepbaaGreatDoorKJournalMatchesReference31
import Derived.Test.YtniegajdmbepbaaGreatDoorKJournalMatchesReference21
set_option linter.unusedSimpArgs false
set_option linter.unusedVariables false
namespace Go.Proofs.YtniegajdmbepbaaGreatDoor.Sha
open Go Go.RowKit Go.Proofs.YtniegajdmbepbaaGreatDoor.Dm Go.Proofs.YtniegajdmbepbaaGreatDoorW.PrintWords Go.Proofs.YtniegajdmbepbaaGreatDoorW.PrintLast Go.Proofs.YtniegajdmbepbaaGreatDoorW.PrintMore
theorem bt_bits (s : ByteArray) (i : Nat) (h : i < s.size) : bt s (i : Int) = ub ((bits8 s).getD i 0) := by
 unfold bt bits8 ub
 rw [Int.toNat_natCast, dif_pos h, List.getD_eq_getElem?_getD, List.getElem?_map]
 have : s.data.toList[i]? = some (s[i]'h) := by
  rw [Array.getElem?_toList, Array.getElem?_eq_getElem (show i < s.data.size from h)]
  rfl
 rw [this]
 rfl
theorem ext_a (s : ByteArray) (hs : s.size ≤ 2000000) : ∀ (d i k : Nat), i + d = s.size →
  clearwayref02_extended.l0 (k + d + 1) s (((bits8 s).take i).map ub) (i : Int) = clearwayref02_extended.l1 k s ((bits8 s ++ [128]).map ub) := by
 intro d
 have hb := bits8_length s
 induction d with
 | zero =>
  intro i k h
  have hi : i = s.size := by omega
  have ht : (bits8 s).take i = bits8 s := List.take_of_length_le (by omega)
  rw [ht, clearwayref02_extended.l0, if_neg (by omega), if_pos (by rw [List.length_map]; omega), List.map_append]
  rfl
 | succ d ih =>
  intro i k h
  have hw : wrap64 ((i : Int) + 1) = ((i + 1 : Nat) : Int) := by unfold wrap64; omega
  have hg : (bits8 s)[i]? = some ((bits8 s).getD i 0) := by
   rw [List.getD_eq_getElem?_getD, List.getElem?_eq_getElem (by omega)]
   rfl
  have e : ((bits8 s).take i).map ub ++ [ub ((bits8 s).getD i 0)] = ((bits8 s).take (i + 1)).map ub := by
   rw [List.take_add_one, hg, List.map_append]
   rfl
  rw [show k + (d + 1) + 1 = (k + d + 1) + 1 by omega, clearwayref02_extended.l0, if_pos (by omega), if_pos (by omega), if_pos (by rw [List.length_map, List.length_take]; omega), bt_bits s i (by omega), e, hw]
  exact ih (i + 1) k (by omega)
theorem ext_b (s : ByteArray) (hs : s.size ≤ 2000000) : ∀ (d z k : Nat), z + d = zs s.size →
  clearwayref02_extended.l1 (k + d + 1) s ((bits8 s ++ [128] ++ List.replicate z 0).map ub) = clearwayref02_extended.l2 k s ((bits8 s ++ [128] ++ List.replicate (zs s.size) 0).map ub) 7 := by
 intro d
 have hb := bits8_length s
 induction d with
 | zero =>
  intro z k h
  have hz : z = zs s.size := by omega
  subst hz
  rw [clearwayref02_extended.l1, if_pos]
  rw [List.length_map, List.length_append, List.length_append, List.length_replicate, hb]
  unfold zs
  simp only [List.length_cons, List.length_nil]
  omega
 | succ d ih =>
  intro z k h
  have hlen : ((bits8 s ++ [128] ++ List.replicate z 0).map ub).length = s.size + 1 + z := by
   rw [List.length_map, List.length_append, List.length_append, List.length_replicate, hb]; rfl
  have e : (bits8 s ++ [128] ++ List.replicate z 0).map ub ++ [0] = (bits8 s ++ [128] ++ List.replicate (z + 1) 0).map ub := by
   rw [List.replicate_succ', ← List.append_assoc, List.map_append (l₁ := bits8 s ++ [128] ++ List.replicate z 0)]
   rfl
  rw [show k + (d + 1) + 1 = (k + d + 1) + 1 by omega, clearwayref02_extended.l1, if_neg (by rw [hlen]; unfold zs at h; omega), if_pos (by rw [hlen]; unfold zs at h; omega), e]
  exact ih (z + 1) k (by omega)
theorem lens_at (n j : Nat) (hn : n ≤ 2000000) (hj : j < 8) : (shr .i64 (wrap64 (8 * (n : Int))) (wrap64 (8 * (7 - (j : Int))))) % 256 = ub (lenB n j) := by
 have h1 : wrap64 (8 * (n : Int)) = ((8 * n : Nat) : Int) := by unfold wrap64; omega
 have h2 : wrap64 (8 * (7 - (j : Int))) = ((8 * (7 - j) : Nat) : Int) := by unfold wrap64; omega
 rw [h1, h2]
 unfold shr ub lenB
 rw [show min ((8 * (7 - j) : Nat) : Int).toNat (IntKind.bits .i64) = 8 * (7 - j) by simp [IntKind.bits]; omega, BitVec.toNat_ofNat]
 have : ((2 : Int) ^ (8 * (7 - j))) = ((2 ^ (8 * (7 - j)) : Nat) : Int) := by simp
 rw [this]
 omega
theorem ext_c (s : ByteArray) (hs : s.size ≤ 2000000) (P : List (BitVec 8)) (hP : P.length ≤ 3000000) : ∀ (d j k : Nat), j + d = 8 →
  clearwayref02_extended.l2 (k + d + 1) s ((P ++ lens s.size j).map ub) (7 - (j : Int)) = some ((P ++ lens s.size 8).map ub) := by
 intro d
 induction d with
 | zero =>
  intro j k h
  have : j = 8 := by omega
  subst this
  rw [clearwayref02_extended.l2, if_neg (by decide)]
 | succ d ih =>
  intro j k h
  have hl := lens_length s.size j
  have h2 : wrap64 (8 * (7 - (j : Int))) = ((8 * (7 - j) : Nat) : Int) := by unfold wrap64; omega
  have hw : wrap64 (7 - (j : Int) - 1) = 7 - ((j + 1 : Nat) : Int) := by unfold wrap64; omega
  have e : (P ++ lens s.size j).map ub ++ [ub (lenB s.size j)] = (P ++ lens s.size (j + 1)).map ub := by
   rw [lens, ← List.append_assoc, List.map_append (l₁ := P ++ lens s.size j)]
   rfl
  rw [show k + (d + 1) + 1 = (k + d + 1) + 1 by omega, clearwayref02_extended.l2, if_pos (by omega), if_pos (by rw [h2]; omega), if_pos (by rw [List.length_map, List.length_append, hl]; omega), lens_at s.size j hs (by omega), hw, e]
  exact ih (j + 1) k (by omega)
theorem extended_f (s : ByteArray) (hs : s.size ≤ 2000000) (k : Nat) (hk : s.size + 100 ≤ k) : clearwayref02_extended.f k s = some ((padded s).map ub) := by
 unfold clearwayref02_extended.f
 have hb := bits8_length s
 have hz : zs s.size ≤ 63 := by unfold zs; omega
 obtain ⟨m, rfl⟩ : ∃ m, k = m + 8 + 1 + zs s.size + 1 + s.size + 1 := ⟨k - (8 + 1 + zs s.size + 1 + s.size + 1), by omega⟩
 have h0 := ext_a s hs s.size 0 (m + 8 + 1 + zs s.size + 1) (by omega)
 have e0 : clearwayref02_extended.l0 (m + 8 + 1 + zs s.size + 1 + s.size + 1) s [] 0 = clearwayref02_extended.l1 (m + 8 + 1 + zs s.size + 1) s ((bits8 s ++ [128]).map ub) := h0
 have h1 := ext_b s hs (zs s.size) 0 (m + 8 + 1) (by omega)
 rw [List.replicate_zero, List.append_nil] at h1
 have h2 := ext_c s hs (bits8 s ++ [128] ++ List.replicate (zs s.size) 0) (by rw [List.length_append, List.length_append, List.length_replicate, hb]; simp; omega) 8 0 m rfl
 rw [show lens s.size 0 = [] from rfl, List.append_nil] at h2
 rw [e0, h1]
 exact h2
theorem b24 (x : B) : (u x / (16777216 : Int)) % (256 : Int) = ub (low (x >>> 24)) := by rw [shr24, ← wrap_low]; rfl
theorem b16 (x : B) : (u x / (65536 : Int)) % (256 : Int) = ub (low (x >>> 16)) := by rw [shr16, ← wrap_low]; rfl
theorem b8 (x : B) : (u x / (256 : Int)) % (256 : Int) = ub (low (x >>> 8)) := by rw [shr8, ← wrap_low]; rfl
theorem b0 (x : B) : (u x) % (256 : Int) = ub (low (x >>> 0)) := by rw [BitVec.ushiftRight_zero, ← wrap_low]; rfl
def bys (H : List B) (j : Nat) : List (BitVec 8) := (List.range j).map (byteAt H)
theorem bys_succ (H : List B) (j : Nat) : bys H (j + 1) = bys H j ++ [byteAt H j] := by unfold bys; rw [List.range_succ, List.map_append]; rfl
theorem bys_length (H : List B) (j : Nat) : (bys H j).length = j := by unfold bys; simp
theorem dst_bys (H : List B) : ∀ j, j ≤ 32 → dst H j = bys H j ++ List.replicate (32 - j) 0
 | 0, _ => by simp [dst, bys]
 | j + 1, h => by
  rw [dst, dst_bys H j (by omega), show 32 - j = (32 - (j + 1)) + 1 by omega, List.replicate_succ, List.set_append_right _ _ (by rw [bys_length]; omega), bys_length, Nat.sub_self, List.set_cons_zero, bys_succ]
  simp
theorem dig_l1 (H : List B) (hH : H.length = 8) : ∀ (d i k : Nat), i + d = 8 →
  clearwayref02_Sum.l1 (k + d + 1) (H.map u) ((bys H (4 * i)).map ub) (i : Int) = some (digW H) := by
 intro d
 induction d with
 | zero =>
  intro i k h
  have : i = 8 := by omega
  subst this
  rw [clearwayref02_Sum.l1, if_neg (by decide)]
  have : dst H 32 = bys H (4 * 8) := by rw [dst_bys H 32 (Nat.le_refl _)]; simp
  unfold digW
  rw [this]
 | succ d ih =>
  intro i k h
  have hw : wrap64 ((i : Int) + 1) = ((i + 1 : Nat) : Int) := by unfold wrap64; omega
  have hl : (H.map u).length = 8 := by rw [List.length_map, hH]
  have q : ∀ r, r < 4 → byteAt H (4 * i + r) = low ((H.getD i 0) >>> (24 - 8 * r)) := by
   intro r hr
   unfold byteAt
   rw [show (4 * i + r) / 4 = i by omega, show (4 * i + r) % 4 = r by omega]
  have e : (bys H (4 * i)).map ub ++ [ub (low (H.getD i 0 >>> 24)), ub (low (H.getD i 0 >>> 16)), ub (low (H.getD i 0 >>> 8)), ub (low (H.getD i 0 >>> 0))] = (bys H (4 * (i + 1))).map ub := by
   rw [show 4 * (i + 1) = 4 * i + 1 + 1 + 1 + 1 by omega, bys_succ, bys_succ, bys_succ, bys_succ]
   have q0 := q 0 (by omega)
   have q1 := q 1 (by omega)
   have q2 := q 2 (by omega)
   have q3 := q 3 (by omega)
   rw [show 4 * i + 1 + 1 = 4 * i + 2 by omega, show 4 * i + 2 + 1 = 4 * i + 3 by omega, q1, q2, q3, show byteAt H (4 * i) = _ from q0]
   simp
  rw [show k + (d + 1) + 1 = (k + d + 1) + 1 by omega, clearwayref02_Sum.l1, if_pos (by omega), if_pos (by omega), if_pos (by rw [hl]; omega), Option.bind_some, if_pos (by rw [List.length_map, bys_length]; simp; omega), rd_u, b24, b16, b8, b0, e, hw]
  exact ih (i + 1) k (by omega)
theorem iv_u : iv.map u = [1779033703, 3144134277, 1013904242, 2773480762, 1359893119, 2600822924, 528734635, 1541459225] := by kernel_rfl
theorem sum_l0 (P : List (BitVec 8)) (K : Nat) (hK : P.length = 64 * K) (hp : P.length ≤ 4000000) : ∀ (d j k : Nat), j + d = K → 500 + d ≤ k →
  clearwayref02_Sum.l0 k ((hS P j).map u) (P.map ub) ((64 * j : Nat) : Int) = some (digW (hS P K)) := by
 intro d
 induction d with
 | zero =>
  intro j k h hk
  have : j = K := by omega
  subst this
  obtain ⟨k, rfl⟩ : ∃ m, k = m + 8 + 1 + 1 := ⟨k - 10, by omega⟩
  rw [clearwayref02_Sum.l0, if_neg (by rw [List.length_map, hK]; omega)]
  exact dig_l1 (hS P j) (hS_length P j) 8 0 k rfl
 | succ d ih =>
  intro j k h hk
  obtain ⟨k, rfl⟩ : ∃ m, k = m + 1 := ⟨k - 1, by omega⟩
  have hw : wrap64 (((64 * j : Nat) : Int) + 64) = ((64 * (j + 1) : Nat) : Int) := by unfold wrap64; omega
  have hl : (P.map ub).length = 64 * K := by rw [List.length_map, hK]
  have hb : ((P.map ub).take (64 * (j + 1))).drop (64 * j) = (blk P j).map ub := by
   unfold blk
   rw [← List.map_take, ← List.map_drop, List.drop_take, show 64 * (j + 1) - 64 * j = 64 by omega]
  have hbl := blk_length P K hK ⟨j, by omega⟩
  rw [clearwayref02_Sum.l0, if_pos (by rw [hl]; omega), if_pos (by omega), hw, if_pos (by omega), if_pos (by rw [hl]; omega), Int.toNat_natCast, Int.toNat_natCast, hb, block_f (hS P j) (hS_length P j) (blk P j) hbl k (by omega), Option.bind_some]
  exact ih (j + 1) k (by omega) (by omega)
theorem ref_sum (s : ByteArray) (hs : s.size ≤ 1000000) (k : Nat) (hk : s.size + 1000 ≤ k) : clearwayref02_Sum.f k s = some (sumF s) := by
 unfold clearwayref02_Sum.f
 rw [extended_f s (by omega) k (by omega), Option.bind_some, ← iv_u]
 obtain ⟨K, hK⟩ := padded_length s
 have hb := bits8_length s
 have hpl : (padded s).length ≤ s.size + 72 := by
  unfold padded
  rw [List.length_append, List.length_append, List.length_append, List.length_replicate, lens_length, hb]
  unfold zs
  simp
  omega
 have := sum_l0 (padded s) K hK (by omega) K 0 k (by omega) (by omega)
 unfold sumF
 rw [show (padded s).length / 64 = K by omega]
 exact this
theorem ref_chain (a b : ByteArray) (hs : a.size + b.size ≤ 900000) (k : Nat) (hk : a.size + b.size + 2000 ≤ k) : clearwayref02_Chain.f k a b = some (chainF a b) := by
 unfold clearwayref02_Chain.f
 have h1 : ((⟨#[2]⟩ : ByteArray) ++ a).size = 1 + a.size := by rw [ByteArray.size_append]; rfl
 rw [if_pos (by omega), if_pos (by rw [h1]; omega), ref_sum _ (by rw [ByteArray.size_append, h1]; omega) k (by rw [ByteArray.size_append, h1]; omega), ByteArray.append_assoc]
 rfl
end Go.Proofs.YtniegajdmbepbaaGreatDoor.Sha
