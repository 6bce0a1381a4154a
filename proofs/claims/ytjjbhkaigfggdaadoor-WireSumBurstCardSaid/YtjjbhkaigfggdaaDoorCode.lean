/- The plain mathematics of the encoding of integers: lists of naturals below 256, encoded by groups of seven bits, and read back. No condition. -/
set_option linter.unusedVariables false
set_option linter.unusedSimpArgs false
namespace Go.Proofs.YtjjbhkaigfggdaaDoor.Code

def maxInt : Int := 4611686018427387903
def encN (z : Nat) : List Nat := if h : z < 128 then [z] else (z % 128 + 128) :: encN (z / 128)
termination_by z
decreasing_by omega

theorem encN_lo {z : Nat} (h : z < 128) : encN z = [z] := by rw [encN]; simp [h]
theorem encN_hi {z : Nat} (h : ¬ z < 128) : encN z = (z % 128 + 128) :: encN (z / 128) := by rw [encN]; simp [h]

theorem encN_lt (z : Nat) : ∀ b ∈ encN z, b < 256 := by
  induction z using Nat.strongRecOn with
  | _ z ih =>
    by_cases h : z < 128
    · rw [encN_lo h]; intro b hb; simp at hb; omega
    · rw [encN_hi h]
      intro b hb
      rcases List.mem_cons.1 hb with rfl | hb
      · omega
      · exact ih (z / 128) (by omega) b hb
theorem encN_pos (z : Nat) : 0 < (encN z).length := by
  by_cases h : z < 128
  · rw [encN_lo h]; simp
  · rw [encN_hi h]; simp
theorem encN_len (f : Nat) : ∀ z, z < 128 ^ (f + 1) → (encN z).length ≤ f + 1 := by
  induction f with
  | zero => intro z h; rw [encN_lo (by simpa using h)]; simp
  | succ f ih =>
    intro z h
    by_cases h1 : z < 128
    · rw [encN_lo h1]; simp
    · rw [encN_hi h1]
      have := ih (z / 128) (by rw [Nat.pow_succ] at h; omega)
      simp; omega

/-- The integer of a zigzag number, and back. -/
def unz (z : Nat) : Int := if z % 2 = 0 then (z / 2 : Nat) else -((z / 2 : Nat) : Int) - 1
def zzn (n : Int) : Nat := if n < 0 then (-2 * n - 1).toNat else (2 * n).toNat
theorem unz_zzn (n : Int) : unz (zzn n) = n := by
  unfold unz zzn
  split
  · rw [if_neg (by omega)]; omega
  · rw [if_pos (by omega)]; omega
theorem zzn_unz (z : Nat) : zzn (unz z) = z := by
  unfold unz zzn
  by_cases h : z % 2 = 0
  · rw [if_pos h, if_neg (by omega)]; omega
  · rw [if_neg h, if_pos (by omega)]; omega
theorem zzn_lt {n : Int} (h0 : -maxInt ≤ n) (h1 : n ≤ maxInt) : zzn n < 128 ^ 9 := by
  unfold maxInt at *; unfold zzn; simp only [Nat.reducePow]; split <;> omega
theorem unz_le {z : Nat} (h : z < 128 ^ 9) : unz z ≤ maxInt := by
  unfold maxInt unz; simp only [Nat.reducePow] at h; split <;> omega
theorem unz_ge {z : Nat} (h : z < 128 ^ 9) : -maxInt - 1 ≤ unz z := by
  unfold maxInt unz; simp only [Nat.reducePow] at h; split <;> omega

/-- Reading: f bytes may still come, i have come, z is their number. The integer, and how many bytes in all. -/
def decF : Nat → Nat → Nat → List Nat → Option (Int × Nat)
  | _, _, _, [] => none
  | 0, _, _, _ :: _ => none
  | f + 1, i, z, b :: l => if 128 ≤ b then decF f (i + 1) (z + b % 128 * 128 ^ i) l
      else if b = 0 ∧ 0 < i then none else if unz (z + b * 128 ^ i) < -maxInt then none else some (unz (z + b * 128 ^ i), i + 1)
theorem decF_nil (f i z : Nat) : decF f i z [] = none := by cases f <;> rfl
theorem decF_zero (i z : Nat) (l : List Nat) : decF 0 i z l = none := by cases l <;> rfl

theorem decF_enc (f : Nat) : ∀ (i z y : Nat) (r : List Nat), y < 128 ^ (f + 1) → (0 < i → 0 < y) →
    decF (f + 1) i z (encN y ++ r) = if unz (z + y * 128 ^ i) < -maxInt then none else some (unz (z + y * 128 ^ i), i + (encN y).length) := by
  induction f with
  | zero =>
    intro i z y r h hp
    have h1 : y < 128 := by simpa using h
    rw [encN_lo h1]
    simp only [List.singleton_append, decF]
    rw [if_neg (by omega), if_neg (by intro hh; have := hp hh.2; omega)]
    simp
  | succ f ih =>
    intro i z y r h hp
    by_cases h1 : y < 128
    · rw [encN_lo h1]
      simp only [List.singleton_append, decF]
      rw [if_neg (by omega), if_neg (by intro hh; have := hp hh.2; omega)]
      simp
    · rw [encN_hi h1]
      simp only [List.cons_append, decF]
      rw [if_pos (by omega)]
      have e : z + (y % 128 + 128) % 128 * 128 ^ i + y / 128 * 128 ^ (i + 1) = z + y * 128 ^ i := by
        have h2 : (y % 128 + 128) % 128 = y % 128 := by omega
        have h3 : y = 128 * (y / 128) + y % 128 := (Nat.div_add_mod y 128).symm
        rw [h2, Nat.pow_succ]
        have h4 : y * 128 ^ i = (128 * (y / 128) + y % 128) * 128 ^ i := by rw [← h3]
        rw [h4, Nat.add_mul]
        have h5 : y / 128 * (128 ^ i * 128) = 128 * (y / 128) * 128 ^ i := by
          rw [Nat.mul_comm (128 ^ i) 128, ← Nat.mul_assoc, Nat.mul_comm (y / 128) 128]
        omega
      rw [ih (i + 1) _ (y / 128) r (by rw [Nat.pow_succ] at h; omega) (by omega), e]
      simp only [List.length_cons]
      congr 3
      omega

theorem decF_some (f : Nat) : ∀ (i z : Nat) (l : List Nat) (n : Int) (c : Nat), (∀ b ∈ l, b < 256) → decF f i z l = some (n, c) →
    ∃ y, i < c ∧ c - i ≤ l.length ∧ l.take (c - i) = encN y ∧ y < 128 ^ f ∧ n = unz (z + y * 128 ^ i) ∧ (0 < i → 0 < y) ∧ -maxInt ≤ n := by
  induction f with
  | zero => intro i z l n c hb h; rw [decF_zero] at h; cases h
  | succ f ih =>
    intro i z l n c hb h
    cases l with
    | nil => cases h
    | cons b l =>
      have hb0 : b < 256 := hb b (by simp)
      simp only [decF] at h
      by_cases h1 : 128 ≤ b
      · rw [if_pos h1] at h
        obtain ⟨y, q1, q2, q3, q4, q5, q6, q7⟩ := ih (i + 1) _ l n c (fun x hx => hb x (by simp [hx])) h
        have hy : 0 < y := q6 (by omega)
        refine ⟨y * 128 + b % 128, by omega, by simp; omega, ?_, ?_, ?_, fun _ => by omega, q7⟩
        · rw [show c - i = (c - (i + 1)) + 1 by omega, List.take_succ_cons, q3, encN_hi (z := y * 128 + b % 128) (by omega)]
          rw [show (y * 128 + b % 128) % 128 + 128 = b by omega, show (y * 128 + b % 128) / 128 = y by omega]
        · rw [Nat.pow_succ]; omega
        · rw [q5]
          congr 1
          rw [Nat.pow_succ, Nat.add_mul, Nat.mul_assoc, Nat.mul_comm 128 (128 ^ i)]
          omega
      · rw [if_neg h1] at h
        by_cases h2 : b = 0 ∧ 0 < i
        · rw [if_pos h2] at h; cases h
        · rw [if_neg h2] at h
          by_cases h3 : unz (z + b * 128 ^ i) < -maxInt
          · rw [if_pos h3] at h; cases h
          · rw [if_neg h3] at h
            simp only [Option.some.injEq, Prod.mk.injEq] at h
            obtain ⟨rfl, rfl⟩ := h
            refine ⟨b, by omega, by simp, ?_, ?_, rfl, fun hi => ?_, by omega⟩
            · rw [show i + 1 - i = 1 by omega, encN_lo (by omega)]; simp
            · rw [Nat.pow_succ]; have := Nat.pow_pos (n := f) (show 0 < 128 by decide); omega
            · omega

/-- The decoder, whole. -/
def dec (l : List Nat) : Option (Int × Nat) := decF 9 0 0 l
/-- The encoding of an integer. -/
def enc (n : Int) : List Nat := encN (zzn n)
theorem dec_enc {n : Int} (h0 : -maxInt ≤ n) (h1 : n ≤ maxInt) (r : List Nat) : dec (enc n ++ r) = some (n, (enc n).length) := by
  unfold dec enc
  rw [decF_enc 8 0 0 (zzn n) r (zzn_lt h0 h1) (by omega)]
  simp only [Nat.pow_zero, Nat.mul_one, Nat.zero_add]
  rw [unz_zzn, if_neg (by omega)]
theorem dec_some {l : List Nat} {n : Int} {c : Nat} (hb : ∀ b ∈ l, b < 256) (h : dec l = some (n, c)) :
    0 < c ∧ c ≤ l.length ∧ l.take c = enc n ∧ -maxInt ≤ n ∧ n ≤ maxInt := by
  obtain ⟨y, q1, q2, q3, q4, q5, _, q7⟩ := decF_some 9 0 0 l n c hb h
  simp only [Nat.pow_zero, Nat.mul_one, Nat.zero_add, Nat.sub_zero] at q1 q2 q3 q5
  refine ⟨q1, q2, ?_, q7, ?_⟩
  · rw [q3, q5]; unfold enc; rw [zzn_unz]
  · rw [q5]; exact unz_le q4
theorem enc_pos (n : Int) : 0 < (enc n).length := encN_pos _
theorem enc_len {n : Int} (h0 : -maxInt ≤ n) (h1 : n ≤ maxInt) : (enc n).length ≤ 9 := encN_len 8 _ (zzn_lt h0 h1)
theorem enc_lt (n : Int) : ∀ b ∈ enc n, b < 256 := encN_lt _
/-- No encoding is the begin of another one's. -/
theorem enc_prefix {n m : Int} (h0 : -maxInt ≤ n) (h1 : n ≤ maxInt) (g0 : -maxInt ≤ m) (g1 : m ≤ maxInt) (r : List Nat) (h : enc n ++ r = enc m) : n = m := by
  have a := dec_enc h0 h1 r
  have b := dec_enc g0 g1 []
  rw [h] at a
  rw [List.append_nil] at b
  rw [a] at b
  simpa using b |> fun x => (congrArg (fun o => o.map Prod.fst) x)
/-- What is shorter than an encoding is no encoding. -/
theorem dec_cut {n : Int} (h0 : -maxInt ≤ n) (h1 : n ≤ maxInt) (k : Nat) (hk : k < (enc n).length) : dec ((enc n).take k) = none := by
  cases h : dec ((enc n).take k) with
  | none => rfl
  | some p =>
    obtain ⟨m, c⟩ := p
    have hb : ∀ b ∈ (enc n).take k, b < 256 := fun b hb => enc_lt n b (List.mem_of_mem_take hb)
    obtain ⟨q1, q2, q3, q4, q5⟩ := dec_some hb h
    rw [List.length_take] at q2
    have e : enc m ++ (enc n).drop c = enc n := by
      rw [← q3, List.take_take, Nat.min_eq_left (by omega)]
      exact List.take_append_drop c _
    have := enc_prefix q4 q5 h0 h1 _ e
    subst this
    have l1 := congrArg List.length q3
    rw [List.length_take, List.length_take] at l1
    omega
end Go.Proofs.YtjjbhkaigfggdaaDoor.Code
