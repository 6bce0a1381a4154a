/- The reference implementation of layer 1 answers what the program's functions answer. No condition but sizes. -/
import Derived.Test.YtjjbhkaigfggdaaDoorWNum
import Derived.Test.YtjjbhkaigfggdaaDoorPr2
set_option linter.unusedVariables false
set_option linter.unusedSimpArgs false
namespace Go.Proofs.YtjjbhkaigfggdaaDoor.WPure
open Go Go.RowKit Go.PlainAid Go.Proofs.YtjjbhkaigfggdaaDoor.Wire Go.Proofs.YtjjbhkaigfggdaaDoor.Pr Go.Proofs.YtjjbhkaigfggdaaDoor.Code Go.Proofs.YtjjbhkaigfggdaaDoorW.PrintWords Go.Proofs.YtjjbhkaigfggdaaDoorW.PrintLast Go.Proofs.YtjjbhkaigfggdaaDoorW.PrintMore

theorem zigzag_eq {n : Int} (h0 : -maxInt ≤ n) (h1 : n ≤ maxInt) : clearwayref01_zigzag.f n = some ((zzn n : Nat) : Int) := by
  unfold maxInt at h0 h1
  unfold clearwayref01_zigzag.f zzn
  by_cases h : n < 0
  · rw [if_pos h, if_pos h, w64 (n := -n) (by omega) (by omega), u64_nonneg (n := -n) (by omega) (by omega), u64_nonneg (n := -n * 2) (by omega) (by omega), u64_nonneg (n := -n * 2 - 1) (by omega) (by omega)]
    congr 1; omega
  · rw [if_neg h, if_neg h, u64_nonneg (n := n) (by omega) (by omega), u64_nonneg (n := n * 2) (by omega) (by omega)]
    congr 1; omega
theorem refPut_loop (j : Nat) : ∀ (z k : Nat) (xs : List Int), z < 128 ^ (j + 1) → z < 18446744073709551616 → j < k → xs.length + j < 100 →
    clearwayref01_PutInt.l0 k (z : Int) xs = some (strOfNums (xs ++ (encN z).map (fun n : Nat => (n : Int))), 0) := by
  induction j with
  | zero =>
    intro z k xs hz h64 hk hx
    obtain ⟨k, rfl⟩ : ∃ m, k = m + 1 := ⟨k - 1, by omega⟩
    have h1 : z < 128 := by simpa using hz
    simp only [clearwayref01_PutInt.l0]
    rw [if_neg (by omega), if_pos (by omega), encN_lo h1, show (z : Int) % 256 = (z : Int) by omega]
    rfl
  | succ j ih =>
    intro z k xs hz h64 hk hx
    obtain ⟨k, rfl⟩ : ∃ m, k = m + 1 := ⟨k - 1, by omega⟩
    simp only [clearwayref01_PutInt.l0]
    by_cases h1 : z < 128
    · rw [if_neg (by omega), if_pos (by omega), encN_lo h1, show (z : Int) % 256 = (z : Int) by omega]
      rfl
    · have e1 : Int.tdiv (z : Int) 128 = ((z / 128 : Nat) : Int) := by rw [Int.tdiv_eq_ediv_of_nonneg (by omega)]; omega
      have e2 : Int.tmod (z : Int) 128 = ((z % 128 : Nat) : Int) := by rw [Int.tmod_eq_emod_of_nonneg (by omega)]; omega
      rw [if_pos (by omega), if_pos (by omega), e1, e2, u64_nonneg (n := ((z / 128 : Nat) : Int)) (by omega) (by omega), u64_nonneg (n := ((z % 128 : Nat) : Int) + 128) (by omega) (by omega)]
      rw [show (((z % 128 : Nat) : Int) + 128) % 256 = ((z % 128 + 128 : Nat) : Int) by omega, ih (z / 128) k _ (by rw [Nat.pow_succ] at hz; omega) (by omega) (by omega) (by simp; omega), encN_hi h1]
      simp
theorem refPut_in {n : Int} (h0 : -maxInt ≤ n) (h1 : n ≤ maxInt) (k : Nat) (hk : 11 ≤ k) : ∃ s, clearwayref01_PutInt.f k n = some (s, 0) ∧ nl s = enc n := by
  obtain ⟨k, rfl⟩ : ∃ m, k = m + 1 := ⟨k - 1, by omega⟩
  have hz := zzn_lt h0 h1
  have h64 : zzn n < 18446744073709551616 := by simp only [Nat.reducePow] at hz; omega
  refine ⟨strOfNums ((encN (zzn n)).map (fun n : Nat => (n : Int))), ?_, by rw [nl_strOf _ (encN_lt _)]; rfl⟩
  unfold clearwayref01_PutInt.f
  have g0 : ¬ n < -4611686018427387903 := by unfold maxInt at h0; omega
  have g1 : decide (n > 4611686018427387903) = false := decide_eq_false (by unfold maxInt at h1; omega)
  rw [if_neg g0, g1]
  simp only [clearwayref01_PutInt.j0]
  rw [if_neg (by decide), zigzag_eq h0 h1]
  simp only [Option.bind_some]
  have := refPut_loop 8 (zzn n) k [] (by simpa using hz) h64 (by omega) (by simp)
  rw [this]
  rfl
theorem refPut_out {n : Int} (h : n < -maxInt ∨ maxInt < n) (k : Nat) (hk : 11 ≤ k) : clearwayref01_PutInt.f k n = some (⟨#[]⟩, 10) := by
  obtain ⟨k, rfl⟩ : ∃ m, k = m + 1 := ⟨k - 1, by omega⟩
  unfold maxInt at h
  unfold clearwayref01_PutInt.f
  by_cases h1 : n < -4611686018427387903
  · rw [if_pos h1]; simp only [clearwayref01_PutInt.j0]; simp only [if_true]
  · rw [if_neg h1, decide_eq_true (show n > 4611686018427387903 by omega)]; simp only [clearwayref01_PutInt.j0]; simp only [if_true]
theorem put_same (n : Int) (k : Nat) (hk : 11 ≤ k) : clearwayref01_PutInt.f k n = wire_PutInt.f n := by
  by_cases h : -maxInt ≤ n ∧ n ≤ maxInt
  · obtain ⟨s, hs, es⟩ := refPut_in h.1 h.2 k hk
    obtain ⟨t, ht, et⟩ := putInt_in h.1 h.2
    rw [hs, ht, nl_inj (es.trans et.symm)]
  · rw [refPut_out (by omega) k hk, putInt_out (by omega)]

/-- The reference's reading: the first byte below 128 ends it. -/
def refF : Nat → Nat → Nat → List Nat → Option (Int × Nat)
  | _, _, _, [] => none
  | 0, _, _, _ :: _ => none
  | f + 1, i, z, b :: l => if 128 ≤ b then refF f (i + 1) (z + b % 128 * 128 ^ i) l else some (unz (z + b * 128 ^ i), i + 1)
theorem ref_of_dec (f : Nat) : ∀ (i z : Nat) (l : List Nat) (p : Int × Nat), decF f i z l = some p → refF f i z l = some p := by
  induction f with
  | zero => intro i z l p h; rw [decF_zero] at h; cases h
  | succ f ih =>
    intro i z l p h
    cases l with
    | nil => cases h
    | cons b l =>
      simp only [decF] at h
      simp only [refF]
      by_cases h1 : 128 ≤ b
      · rw [if_pos h1] at h ⊢; exact ih _ _ _ _ h
      · rw [if_neg h1] at h ⊢
        split at h
        · cases h
        · split at h
          · cases h
          · exact h
theorem refF_nil (f i z : Nat) : refF f i z [] = none := by cases f <;> rfl
theorem refF_zero (i z : Nat) (l : List Nat) : refF 0 i z l = none := by cases l <;> rfl
theorem refF_bd (f : Nat) : ∀ (i z : Nat) (l : List Nat) (n : Int) (c : Nat), (∀ b ∈ l, b < 256) → z < 128 ^ i → refF f i z l = some (n, c) → i < c ∧ c ≤ i + l.length ∧ ∃ Z, n = unz Z ∧ Z < 128 ^ (i + f) := by
  induction f with
  | zero => intro i z l n c _ _ h; rw [refF_zero] at h; cases h
  | succ f ih =>
    intro i z l n c hb hz h
    cases l with
    | nil => cases h
    | cons b l =>
      have hb0 : b < 256 := hb b (by simp)
      simp only [refF] at h
      by_cases h1 : 128 ≤ b
      · rw [if_pos h1] at h
        obtain ⟨q1, q2, Z, q3, q4⟩ := ih _ _ _ _ _ (fun x hx => hb x (by simp [hx])) (by
          rw [Nat.pow_succ]
          have := Nat.mul_le_mul (show b % 128 ≤ 127 by omega) (Nat.le_refl (128 ^ i))
          omega) h
        exact ⟨by omega, by simp; omega, Z, q3, by rw [show i + (f + 1) = i + 1 + f by omega]; exact q4⟩
      · rw [if_neg h1] at h
        simp only [Option.some.injEq, Prod.mk.injEq] at h
        obtain ⟨rfl, rfl⟩ := h
        refine ⟨by omega, by simp, _, rfl, ?_⟩
        have h2 : z + b * 128 ^ i < 128 ^ (i + 1) := by
          rw [Nat.pow_succ]
          have := Nat.mul_le_mul (show b ≤ 127 by omega) (Nat.le_refl (128 ^ i))
          omega
        exact Nat.lt_of_lt_of_le h2 (Nat.pow_le_pow_right (by decide) (by omega))

/-- What the reference answers, out of its reading. -/
def resR (s : ByteArray) (a : Nat) : Option (Int × Nat) → Int × Int × Int
  | none => (0, 0, 10)
  | some (n, c) => if (-maxInt ≤ n ∧ n ≤ maxInt) ∧ enc n = nl (s.extract a (a + c)) then (n, ((a + c : Nat) : Int), 0) else (0, 0, 10)
theorem res_same (s : ByteArray) (a : Nat) (ha : a ≤ s.size) : resR s a (refF 9 0 0 ((nl s).drop a)) = resI a (dec ((nl s).drop a)) := by
  have hb : ∀ b ∈ (nl s).drop a, b < 256 := fun b hb => nl_lt s b (List.mem_of_mem_drop hb)
  have ex : ∀ c, nl (s.extract a (a + c)) = ((nl s).drop a).take c := by
    intro c; rw [nl_extract, List.drop_take]; congr 1; omega
  cases hd : dec ((nl s).drop a) with
  | some p =>
    obtain ⟨n, c⟩ := p
    have hr : refF 9 0 0 ((nl s).drop a) = some (n, c) := ref_of_dec 9 0 0 _ _ hd
    obtain ⟨q1, q2, q3, q4, q5⟩ := dec_some hb hd
    rw [hr]
    show (if _ then _ else _) = _
    rw [if_pos ⟨⟨q4, q5⟩, by rw [ex, q3]⟩]
    rfl
  | none =>
    cases hr : refF 9 0 0 ((nl s).drop a) with
    | none => rfl
    | some p =>
      obtain ⟨n, c⟩ := p
      show (if _ then _ else _) = _
      rw [if_neg]
      · rfl
      · rintro ⟨⟨h0, h1⟩, h2⟩
        rw [ex] at h2
        have h3 : (nl s).drop a = enc n ++ ((nl s).drop a).drop c := by rw [h2]; exact (List.take_append_drop c _).symm
        rw [h3, dec_enc h0 h1] at hd
        cases hd
end Go.Proofs.YtjjbhkaigfggdaaDoor.WPure
