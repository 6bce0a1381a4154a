/- The reference's Int, String and PutString answer what the program's functions answer. No condition but sizes. -/
import Derived.Test.YtjjbhkaigfggdaaDoorWRef
set_option linter.unusedVariables false
set_option linter.unusedSimpArgs false
namespace Go.Proofs.YtjjbhkaigfggdaaDoor.WPure
open Go Go.RowKit Go.PlainAid Go.Proofs.YtjjbhkaigfggdaaDoor.Wire Go.Proofs.YtjjbhkaigfggdaaDoor.Pr Go.Proofs.YtjjbhkaigfggdaaDoor.Code Go.Proofs.YtjjbhkaigfggdaaDoorW.PrintWords Go.Proofs.YtjjbhkaigfggdaaDoorW.PrintLast Go.Proofs.YtjjbhkaigfggdaaDoorW.PrintMore

theorem join2 (i z b : Nat) (hi : i < 9) (hz : z < 128 ^ i) (hb : b < 256) : IntKind.u64.wrap ((z : Int) + shl .u64 (Int.tmod (IntKind.u64.wrap (b : Int)) 128) (7 * (i : Int))) = ((z + b % 128 * 128 ^ i : Nat) : Int) := by
  have e1 : Int.tmod (IntKind.u64.wrap (b : Int)) 128 = ((b % 128 : Nat) : Int) := by
    rw [u64_nonneg (by omega) (by omega), Int.tmod_eq_emod_of_nonneg (by omega)]; omega
  have hp : (128 : Nat) ^ i = 2 ^ (7 * i) := by rw [show (128 : Nat) = 2 ^ 7 from rfl, ← Nat.pow_mul]
  have hp8 : (128 : Nat) ^ i ≤ 128 ^ 8 := Nat.pow_le_pow_right (by decide) (by omega)
  simp only [Nat.reducePow] at hp8
  have hlt : b % 128 * 128 ^ i < 9223372036854775808 := by
    have := Nat.mul_le_mul (show b % 128 ≤ 127 by omega) hp8
    omega
  have e2 : shl .u64 (Int.tmod (IntKind.u64.wrap (b : Int)) 128) (7 * (i : Int)) = ((b % 128 * 128 ^ i : Nat) : Int) := by
    rw [e1]
    unfold shl
    rw [show min (7 * (i : Int)).toNat (IntKind.bits .u64) = 7 * i by simp [IntKind.bits]; omega, IntKind.wrap_u64]
    have : ((b % 128 : Nat) : Int) * 2 ^ (7 * i) = ((b % 128 * 128 ^ i : Nat) : Int) := by rw [hp]; push_cast; rfl
    rw [this]
    omega
  rw [e2, IntKind.wrap_u64]
  have : z < 128 ^ i := hz
  omega
theorem nodd (Z : Nat) (hZ : Z < 9223372036854775808) (h : Z % 2 = 1) : wrap64 ((wrap64 (-(wrap64 (IntKind.u64.wrap (Int.tdiv (Z : Int) 2))))) - 1) = unz Z := by
  rw [Int.tdiv_eq_ediv_of_nonneg (by omega), u64_nonneg (n := (Z : Int) / 2) (by omega) (by omega), w64 (n := (Z : Int) / 2) (by omega) (by omega), w64 (n := -((Z : Int) / 2)) (by omega) (by omega), w64 (by omega) (by omega)]
  unfold unz
  rw [if_neg (by omega)]; omega
theorem neven (Z : Nat) (hZ : Z < 9223372036854775808) (h : Z % 2 = 0) : wrap64 (IntKind.u64.wrap (Int.tdiv (Z : Int) 2)) = unz Z := by
  rw [Int.tdiv_eq_ediv_of_nonneg (by omega), u64_nonneg (n := (Z : Int) / 2) (by omega) (by omega), w64 (n := (Z : Int) / 2) (by omega) (by omega)]
  unfold unz
  rw [if_pos h]; omega
/-- What lies behind the last byte: the integer's own encoding is asked for. -/
theorem tail_eq (s : ByteArray) (a i k : Nat) (n : Int) (hs : s.size ≤ 4611686018427387904) (hlt : a + i < s.size) (hk : 11 ≤ k) :
    ((clearwayref01_PutInt.f k n).bind fun bt121 => (if bt121.2 = 0 then (if 0 ≤ (a : Int) then (if (a : Int) ≤ ((a + i + 1 : Nat) : Int) then (if ((a + i + 1 : Nat) : Int) ≤ (s.size : Int) then (if bt121.1.toList = (s.extract ((a : Int)).toNat (((a + i + 1 : Nat) : Int)).toNat).toList then (some (n, ((a + i + 1 : Nat) : Int), 0)) else (some (0, 0, 10))) else (none)) else (none)) else (none)) else (some ((0 : Int), (0 : Int), (10 : Int))))) = some (resR s a (some (n, i + 1))) := by
  have t1 : (0 : Int) ≤ (a : Int) := by omega
  have t2 : (a : Int) ≤ ((a + i + 1 : Nat) : Int) := by omega
  have t3 : ((a + i + 1 : Nat) : Int) ≤ (s.size : Int) := by omega
  by_cases h : -maxInt ≤ n ∧ n ≤ maxInt
  · obtain ⟨t, ht, et⟩ := refPut_in h.1 h.2 k hk
    rw [ht]
    simp only [Option.bind_some]
    rw [if_pos trivial, if_pos t1, if_pos t2, if_pos t3]
    show (if t.toList = (s.extract a (a + i + 1)).toList then _ else _) = some (if (-maxInt ≤ n ∧ n ≤ maxInt) ∧ enc n = nl (s.extract a (a + (i + 1))) then (n, ((a + (i + 1) : Nat) : Int), 0) else (0, 0, 10))
    by_cases he : t = s.extract a (a + i + 1)
    · rw [if_pos (congrArg ByteArray.toList he), if_pos ⟨h, by rw [← et, he]; rfl⟩]
      rfl
    · rw [if_neg (fun hh => he (nl_toList.1 hh)), if_neg (fun hh => he (nl_inj (et.trans hh.2)))]
  · rw [refPut_out (by omega) k hk]
    simp only [Option.bind_some]
    rw [if_neg (by decide)]
    show _ = some (if (-maxInt ≤ n ∧ n ≤ maxInt) ∧ enc n = nl (s.extract a (a + (i + 1))) then (n, ((a + (i + 1) : Nat) : Int), 0) else (0, 0, 10))
    rw [if_neg (fun hh => h hh.1)]
theorem refInt_loop (s : ByteArray) (a : Nat) (hs : s.size ≤ 4611686018427387904) (ha : a ≤ s.size) (f : Nat) : ∀ (i z k : Nat), f + i = 9 → z < 128 ^ i → 2 * f + 20 < k → a + i ≤ s.size + 9 →
    clearwayref01_Int.l0 k s (a : Int) (z : Int) (i : Int) = some (resR s a (refF f i z ((nl s).drop (a + i)))) := by
  induction f with
  | zero =>
    intro i z k hf hz hk _
    obtain ⟨k, rfl⟩ : ∃ m, k = m + 2 := ⟨k - 2, by omega⟩
    rw [refF_zero]
    simp only [clearwayref01_Int.l0]
    rw [if_neg (by omega)]
    simp only [clearwayref01_Int.j2]
    rw [if_neg (by decide)]
    rfl
  | succ f ih =>
    intro i z k hf hz hk hle
    obtain ⟨k, rfl⟩ : ∃ m, k = m + 2 := ⟨k - 2, by omega⟩
    have h19 : (i : Int) < 9 := by omega
    simp only [clearwayref01_Int.l0]
    rw [if_pos h19, w64_add a i (by omega)]
    by_cases hlt : a + i < s.size
    · obtain ⟨b, hb, hb2, hb3⟩ := bt_nl s (a + i) hlt
      have hd : (nl s).drop (a + i) = b :: (nl s).drop (a + (i + 1)) := by
        rw [List.drop_eq_getElem_cons (by rw [nl_length]; exact hlt)]
        congr 1
        have := List.getElem?_eq_getElem (l := nl s) (i := a + i) (by rw [nl_length]; exact hlt)
        rw [hb3] at this
        exact (Option.some.inj this).symm
      have hp8 : (128 : Nat) ^ i ≤ 128 ^ 8 := Nat.pow_le_pow_right (by decide) (by omega)
      have hps : (128 : Nat) ^ (i + 1) ≤ 128 ^ 9 := Nat.pow_le_pow_right (by decide) (by omega)
      have hZ : z + b % 128 * 128 ^ i < 128 ^ (i + 1) := by
        rw [Nat.pow_succ]
        have := Nat.mul_le_mul (show b % 128 ≤ 127 by omega) (Nat.le_refl (128 ^ i))
        omega
      simp only [Nat.reducePow] at hps
      have hZ2 : z + b % 128 * 128 ^ i < 9223372036854775808 := by omega
      have t0 : ((a + i : Nat) : Int) < (s.size : Int) := by omega
      have t2 : 0 ≤ ((a + i : Nat) : Int) := by omega
      have t4 : 0 ≤ 7 * (i : Int) := by omega
      have t5 : i < 9 := by omega
      have t7 : i ≤ 100 := by omega
      have t8 : i ≤ 9223372036854775806 := by omega
      have t9 : a + i ≤ 9223372036854775806 := by omega
      have t10 : 11 ≤ k := by omega
      have t11 : f + (i + 1) = 9 := by omega
      have t12 : 2 * f + 20 < k := by omega
      have t13 : a + (i + 1) ≤ s.size + 9 := by omega
      have t14 : ¬ 128 ≤ b → b % 128 = b := by omega
      have t15 : Int.tmod ((z + b % 128 * 128 ^ i : Nat) : Int) 2 = (((z + b % 128 * 128 ^ i) % 2 : Nat) : Int) := by rw [Int.tmod_eq_emod_of_nonneg (by omega)]; omega
      rw [decide_eq_true t0]
      simp only [clearwayref01_Int.j2]
      rw [if_pos trivial, w64_add a i (by omega), if_pos t2, if_pos t0, w64_seven i t7, if_pos t4, hb, join2 i z b t5 hz hb2, hd, w64_one i t8, w64_one (a + i) t9, u64_nonneg (n := (b : Int)) (by omega) (by omega)]
      by_cases h128 : 128 ≤ b
      · rw [if_pos (show (b : Int) ≥ 128 by omega)]
        simp only [refF]
        rw [if_pos h128]
        exact ih (i + 1) _ k t11 hZ t12 t13
      · rw [if_neg (show ¬ (b : Int) ≥ 128 by omega), t15]
        simp only [refF]
        rw [if_neg h128]
        have hm := t14 h128
        by_cases ho : (z + b % 128 * 128 ^ i) % 2 = 1
        · rw [if_pos (by omega), nodd _ hZ2 ho, tail_eq s a i k _ hs hlt t10, hm]
        · rw [if_neg (by omega), neven _ hZ2 (by omega), tail_eq s a i k _ hs hlt t10, hm]
    · rw [decide_eq_false (by omega), List.drop_eq_nil_of_le (by rw [nl_length]; omega), refF_nil]
      simp only [clearwayref01_Int.j2]
      rw [if_neg (by decide)]
      rfl
theorem int_same (s : ByteArray) (at_ : Int) (k : Nat) (hs : s.size ≤ 4611686018427387904) (hk : 45 ≤ k) : clearwayref01_Int.f k s at_ = wire_Int.f k s at_ := by
  by_cases h : at_ < 0 ∨ (s.size : Int) < at_
  · rw [int_arg s at_ k h (by omega)]
    obtain ⟨k, rfl⟩ : ∃ m, k = m + 1 := ⟨k - 1, by omega⟩
    unfold clearwayref01_Int.f
    by_cases h0 : at_ < 0
    · rw [if_pos h0]; simp only [clearwayref01_Int.j0]; simp only [if_true]
    · rw [if_neg h0]; simp only [clearwayref01_Int.j0]; rw [decide_eq_true (by omega)]; simp only [if_true]
  · obtain ⟨a, rfl⟩ := Int.eq_ofNat_of_zero_le (show 0 ≤ at_ by omega)
    rw [int_eq s a k hs (by omega) (by omega), ← res_same s a (by omega)]
    obtain ⟨k, rfl⟩ : ∃ m, k = m + 1 := ⟨k - 1, by omega⟩
    unfold clearwayref01_Int.f
    rw [if_neg (by omega)]
    simp only [clearwayref01_Int.j0]
    rw [decide_eq_false (by omega), if_neg (by decide)]
    exact refInt_loop s a hs (by omega) 9 0 0 k rfl (by decide) (by omega) (by omega)
theorem string_same (s : ByteArray) (at_ : Int) (k : Nat) (hs : s.size ≤ 4611686018427387904) (hk : 45 ≤ k) : clearwayref01_String.f k s at_ = wire_String.f k s at_ := by
  unfold clearwayref01_String.f wire_String.f
  rw [int_same s at_ k hs hk]
theorem putString_same (s : ByteArray) (k : Nat) (hk : 11 ≤ k) : clearwayref01_PutString.f k s = wire_PutString.f s := by
  unfold clearwayref01_PutString.f wire_PutString.f
  rw [put_same _ k hk]
end Go.Proofs.YtjjbhkaigfggdaaDoor.WPure
