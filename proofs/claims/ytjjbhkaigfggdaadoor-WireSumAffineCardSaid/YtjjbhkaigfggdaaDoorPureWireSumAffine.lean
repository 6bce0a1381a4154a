/- WireSumAffine's plain statement: the checksum of the exclusive or of three strings of one length is the exclusive or of their checksums. No condition. -/
import Derived.Test.YtjjbhkaigfggdaaDoorWCrc
import Derived.Test.YtjjbhkaigfggdaaDoorWSane
import Derived.Test.YtjjbhkaigfggdaaDoorPt2
set_option linter.unusedVariables false
set_option linter.unusedSimpArgs false
namespace Go.Proofs.YtjjbhkaigfggdaaDoor.WPure
open Go Go.RowKit Go.Proofs.YtjjbhkaigfggdaaDoor.Wire Go.Proofs.YtjjbhkaigfggdaaDoor.Pt Go.Proofs.YtjjbhkaigfggdaaDoor.Crc Go.Proofs.YtjjbhkaigfggdaaDoorW.PrintWords Go.Proofs.YtjjbhkaigfggdaaDoorW.PrintLast Go.Proofs.YtjjbhkaigfggdaaDoorW.PrintMore

theorem i64_xor_nat (a b : Nat) (ha : a < 9223372036854775808) (hb : b < 9223372036854775808) : Go.bits .xor .i64 (a : Int) (b : Int) = ((a ^^^ b : Nat) : Int) := by
  have hx : a ^^^ b < 9223372036854775808 := Nat.xor_lt_two_pow (n := 63) ha hb
  show IntKind.i64.wrap (((BitVec.ofInt 64 a ^^^ BitVec.ofInt 64 b).toNat : Nat) : Int) = _
  rw [BitVec.ofInt_natCast, BitVec.ofInt_natCast, BitVec.toNat_xor, BitVec.toNat_ofNat, BitVec.toNat_ofNat, Nat.mod_eq_of_lt (by omega), Nat.mod_eq_of_lt (by omega), IntKind.wrap_i64]
  omega
/-- Byte j of the exclusive or. -/
def xN (a b c : ByteArray) (n : Nat) : List Nat := List.zipWith (· ^^^ ·) (List.zipWith (· ^^^ ·) ((nl a).take n) ((nl b).take n)) ((nl c).take n)
/-- The list behind i rounds. -/
def xI (a b c : ByteArray) (n i : Nat) : List Int := ((xN a b c n).take i).map (fun m : Nat => (m : Int)) ++ List.replicate (n - i) 0
theorem xN_length (a b c : ByteArray) (n : Nat) (ha : n ≤ a.size) (hb : n ≤ b.size) (hc : n ≤ c.size) : (xN a b c n).length = n := by
  unfold xN
  simp only [List.length_zipWith, List.length_take, nl_length]
  omega
theorem xN_lt (a b c : ByteArray) (n : Nat) : ∀ x ∈ xN a b c n, x < 256 := by
  intro x hx
  unfold xN at hx
  rw [List.mem_iff_getElem] at hx
  obtain ⟨i, hi, rfl⟩ := hx
  simp only [List.getElem_zipWith, List.getElem_take]
  have h1 := nl_lt a _ (List.getElem_mem (l := nl a) (n := i) (by simp only [List.length_zipWith, List.length_take] at hi; omega))
  have h2 := nl_lt b _ (List.getElem_mem (l := nl b) (n := i) (by simp only [List.length_zipWith, List.length_take] at hi; omega))
  have h3 := nl_lt c _ (List.getElem_mem (l := nl c) (n := i) (by simp only [List.length_zipWith, List.length_take] at hi; omega))
  exact Nat.xor_lt_two_pow (n := 8) (Nat.xor_lt_two_pow (n := 8) h1 h2) h3
theorem xI_length (a b c : ByteArray) (n i : Nat) (hi : i ≤ n) (h : (xN a b c n).length = n) : (xI a b c n i).length = n := by
  unfold xI; simp only [List.length_append, List.length_map, List.length_take, List.length_replicate]; omega
theorem xI_set (a b c : ByteArray) (n i : Nat) (hi : i < n) (h : (xN a b c n).length = n) (x : Nat) (hx : (xN a b c n)[i]? = some x) : (xI a b c n i).set i (x : Int) = xI a b c n (i + 1) := by
  unfold xI
  have hl : ((((xN a b c n).take i)).map (fun m : Nat => (m : Int))).length = i := by simp only [List.length_map, List.length_take]; omega
  rw [List.set_append_right i (x : Int) (by omega), hl, Nat.sub_self, List.take_add_one, hx, show n - i = (n - (i + 1)) + 1 by omega, List.replicate_succ, List.set_cons_zero]
  simp
theorem bt_xor (a b c : ByteArray) (n i : Nat) (hi : i < n) (ha : n ≤ a.size) (hb : n ≤ b.size) (hc : n ≤ c.size) :
    ∃ x : Nat, Go.bits .xor .u8 (Go.bits .xor .u8 (bt a (i : Int)) (bt b (i : Int))) (bt c (i : Int)) = (x : Int) ∧ (xN a b c n)[i]? = some x := by
  obtain ⟨x, hx, hx2, hx3⟩ := bt_nl a i (by omega)
  obtain ⟨y, hy, hy2, hy3⟩ := bt_nl b i (by omega)
  obtain ⟨z, hz, hz2, hz3⟩ := bt_nl c i (by omega)
  refine ⟨(x ^^^ y) ^^^ z, ?_, ?_⟩
  · rw [hx, hy, hz, (Bits.u8 x y hx2 hy2).2.2, (Bits.u8 (x ^^^ y) z (Nat.xor_lt_two_pow (n := 8) hx2 hy2) hz2).2.2]
  · unfold xN
    rw [List.getElem?_zipWith, List.getElem?_zipWith, List.getElem?_take_of_lt hi, List.getElem?_take_of_lt hi, List.getElem?_take_of_lt hi, hx3, hy3, hz3]
theorem leX_xN (a b c : ByteArray) (n : Nat) (ha : n ≤ a.size) (hb : n ≤ b.size) (hc : n ≤ c.size) : leX (xN a b c n) = (leX ((nl a).take n) ^^^ leX ((nl b).take n)) ^^^ leX ((nl c).take n) := by
  unfold xN
  rw [leX_zip _ _ (by simp only [List.length_zipWith, List.length_take, nl_length]; omega), leX_zip _ _ (by simp only [List.length_take, nl_length]; omega)]
theorem affine_loop (a b c : ByteArray) (n : Nat) (ha : n ≤ a.size) (hb : n ≤ b.size) (hc : n ≤ c.size) (hn : n ≤ 200) (d : Nat) : ∀ i k, i + d = n → d < k →
    clearwaylaw01_WireSumAffine.l0 k a b c true (n : Int) (xI a b c n i) (i : Int) = clearwaylaw01_WireSumAffine.l0 (k - d) a b c true (n : Int) (xI a b c n n) (n : Int) := by
  have hL := xN_length a b c n ha hb hc
  induction d with
  | zero => intro i k hi hk; obtain rfl : i = n := by omega
            rfl
  | succ d ih =>
    intro i k hi hk
    obtain ⟨k, rfl⟩ : ∃ m, k = m + 1 := ⟨k - 1, by omega⟩
    have hlt : i < n := by omega
    obtain ⟨x, hx, hx2⟩ := bt_xor a b c n i hlt ha hb hc
    have hl := xI_length a b c n i (by omega) hL
    have h1 := xI_set a b c n i hlt hL x hx2
    have q : i ≤ 9223372036854775806 := by omega
    conv => lhs; simp only [clearwaylaw01_WireSumAffine.l0]
    rw [if_pos (by omega), if_pos (by omega), if_pos (by omega), if_pos (by omega), if_pos (by omega), if_pos (by omega), hx, show ((i : Int)).toNat = i from rfl, h1, w64_one i q, ih (i + 1) k (by omega) (by omega), show k + 1 - (d + 1) = k - d by omega]
theorem not32 (r : Nat) (h : r < 4294967296) : (4294967295 : Int) - (r : Int) = ((4294967295 ^^^ r : Nat) : Int) := by
  rw [← Bits.u32_not (r : Int) (by omega) (by omega)]
  exact (Bits.u32 4294967295 r (by decide) h).2.2
theorem sum_cut (s : ByteArray) (n : Nat) (h : n ≤ s.size) (hn : n ≤ 200) : wire_Sum.f (s.extract 0 n) = some ((4294967295 ^^^ (An (8 * n) (4294967295 ^^^ leX ((nl s).take n))) : Nat) : Int) := by
  have hz : (s.extract 0 n).size = n := by rw [ByteArray.size_extract]; omega
  rw [sum_some _ (by omega), not32 _ (R_lt _), R_eq, hz, nl_extract, List.drop_zero]
theorem rearr (F G x y z : Nat) : F ^^^ (G ^^^ (x ^^^ y ^^^ z)) = (F ^^^ (G ^^^ x)) ^^^ (F ^^^ (G ^^^ y)) ^^^ (F ^^^ (G ^^^ z)) := by
  apply Nat.eq_of_testBit_eq
  intro i
  simp only [Nat.testBit_xor]
  cases F.testBit i <;> cases G.testBit i <;> cases x.testBit i <;> cases y.testBit i <;> cases z.testBit i <;> rfl
theorem ecut (s : ByteArray) (n : Nat) (h : n ≤ s.size) : R (s.extract 0 n) = An (8 * n) (4294967295 ^^^ leX ((nl s).take n)) := by
  have hz : (s.extract 0 n).size = n := by rw [ByteArray.size_extract]; omega
  rw [R_eq, hz, nl_extract, List.drop_zero]
theorem affine : clearwaylaw01_WireSumAffine.Pure := by
  intro a b c w0 w1 w2
  refine ⟨202, ?_⟩
  obtain ⟨n, hn, ha, hb, hc, hn2⟩ : ∃ n : Nat, mn (mn (mn (a.size : Int) (b.size : Int)) (c.size : Int)) 200 = (n : Int) ∧ n ≤ a.size ∧ n ≤ b.size ∧ n ≤ c.size ∧ n ≤ 200 := by
    refine ⟨min (min (min a.size b.size) c.size) 200, ?_, by omega, by omega, by omega, by omega⟩
    unfold mn
    repeat' split
    all_goals omega
  have hL := xN_length a b c n ha hb hc
  unfold clearwaylaw01_WireSumAffine.f
  rw [show clearwaylaw01_sane.f = some true from rfl]
  simp only [Option.bind_some]
  rw [hn, if_pos (by omega), if_pos (by omega), show List.replicate ((n : Int)).toNat (0 : Int) = xI a b c n 0 by simp [xI]]
  have h := affine_loop a b c n ha hb hc hn2 n 0 202 (by omega) (by omega)
  rw [show ((0 : Nat) : Int) = 0 from rfl] at h
  rw [h]
  obtain ⟨k, hk⟩ : ∃ k, 202 - n = k + 1 := ⟨201 - n, by omega⟩
  rw [hk]
  have e0 : xI a b c n n = (xN a b c n).map (fun m : Nat => (m : Int)) := by
    unfold xI; rw [Nat.sub_self, List.take_of_length_le (by omega)]; simp
  have e1 : nl (strOfNums (xI a b c n n)) = xN a b c n := by rw [e0]; exact nl_strOf _ (xN_lt a b c n)
  have e2 : (strOfNums (xI a b c n n)).size = n := by rw [← nl_length, e1, hL]
  have e3 : wire_Sum.f (strOfNums (xI a b c n n)) = some ((4294967295 ^^^ (An (8 * n) (4294967295 ^^^ leX (xN a b c n))) : Nat) : Int) := by
    rw [sum_some _ (by omega), not32 _ (R_lt _), R_eq, e2, e1]
  simp only [clearwaylaw01_WireSumAffine.l0]
  rw [if_neg (by omega), if_pos trivial, e3]
  simp only [Option.bind_some]
  rw [if_pos (by omega), if_pos (by omega), show ((n : Int)).toNat = n from rfl, sum_cut a n ha hn2, sum_cut b n hb hn2, sum_cut c n hc hn2]
  simp only [Option.bind_some]
  rw [if_pos (by omega), if_pos (by omega)]
  have ra : An (8 * n) (4294967295 ^^^ leX ((nl a).take n)) < 4294967296 := by rw [← ecut a n ha]; exact R_lt _
  have rb : An (8 * n) (4294967295 ^^^ leX ((nl b).take n)) < 4294967296 := by rw [← ecut b n hb]; exact R_lt _
  have rc : An (8 * n) (4294967295 ^^^ leX ((nl c).take n)) < 4294967296 := by rw [← ecut c n hc]; exact R_lt _
  have q : ∀ r : Nat, r < 4294967296 → 4294967295 ^^^ r < 4294967296 := fun r h => Bits.xor_lt32 (by decide) h
  have q2 : ∀ r : Nat, r < 4294967296 → r < 9223372036854775808 := fun r h => by omega
  rw [i64_xor_nat _ _ (q2 _ (q _ ra)) (q2 _ (q _ rb)), i64_xor_nat _ _ (q2 _ (Bits.xor_lt32 (q _ ra) (q _ rb))) (q2 _ (q _ rc)), leX_xN a b c n ha hb hc]
  congr 1
  rw [beq_iff_eq, Int.ofNat_inj]
  simp only [An_xor]
  exact rearr _ _ _ _ _
end Go.Proofs.YtjjbhkaigfggdaaDoor.WPure
