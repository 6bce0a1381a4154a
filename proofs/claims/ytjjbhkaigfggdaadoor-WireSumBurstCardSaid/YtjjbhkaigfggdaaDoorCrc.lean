/- The plain mathematics of the checksum: the register's step is linear over exclusive or, and one-to-one; so a string's checksum is a power of it, at the string's number. No condition. -/
set_option linter.unusedVariables false
set_option linter.unusedSimpArgs false
namespace Go.Proofs.YtjjbhkaigfggdaaDoor.Crc

def poly : Nat := 2197175160
def A (x : Nat) : Nat := (x / 2) ^^^ (if x % 2 = 1 then poly else 0)
theorem mod2_xor (x y : Nat) : (x ^^^ y) % 2 = (x % 2 + y % 2) % 2 := by
  have := Nat.xor_mod_two_pow (a := x) (b := y) (n := 1)
  simp only [Nat.pow_one] at this
  rw [this]
  rcases Nat.mod_two_eq_zero_or_one x with h | h <;> rcases Nat.mod_two_eq_zero_or_one y with h' | h' <;> rw [h, h'] <;> decide
theorem div_xor (n x y : Nat) : (x ^^^ y) / 2 ^ n = x / 2 ^ n ^^^ y / 2 ^ n := by
  rw [← Nat.shiftRight_eq_div_pow, ← Nat.shiftRight_eq_div_pow, ← Nat.shiftRight_eq_div_pow, Nat.shiftRight_xor_distrib]
theorem swap (a b c d : Nat) : (a ^^^ b) ^^^ (c ^^^ d) = (a ^^^ c) ^^^ (b ^^^ d) := by
  rw [Nat.xor_assoc, Nat.xor_assoc, ← Nat.xor_assoc b, ← Nat.xor_assoc c, Nat.xor_comm b c]
theorem A_xor (x y : Nat) : A (x ^^^ y) = A x ^^^ A y := by
  unfold A
  rw [show (x ^^^ y) / 2 = x / 2 ^^^ y / 2 from div_xor 1 x y, mod2_xor, swap (x / 2) _ (y / 2) _]
  congr 1
  rcases Nat.mod_two_eq_zero_or_one x with h | h <;> rcases Nat.mod_two_eq_zero_or_one y with h' | h' <;> rw [h, h'] <;> simp
theorem A_two (x : Nat) : A (x * 2) = x := by
  unfold A
  rw [if_neg (by omega), Nat.xor_zero]; omega
theorem A_lt {x : Nat} (h : x < 4294967296) : A x < 4294967296 := by
  unfold A
  have h1 : x / 2 < 2 ^ 32 := by omega
  have h2 : (if x % 2 = 1 then poly else 0) < 2 ^ 32 := by split <;> decide
  exact Nat.xor_lt_two_pow h1 h2
theorem xor_eq_zero {a b : Nat} (h : a ^^^ b = 0) : a = b := by
  have : (a ^^^ b) ^^^ b = 0 ^^^ b := by rw [h]
  rw [Nat.xor_assoc, Nat.xor_self, Nat.xor_zero, Nat.zero_xor] at this
  exact this
theorem A_zero {x : Nat} (h : x < 4294967296) (h0 : A x = 0) : x = 0 := by
  unfold A at h0
  have e := xor_eq_zero h0
  split at e
  · unfold poly at e; omega
  · omega

def An : Nat → Nat → Nat
  | 0, x => x
  | n + 1, x => An n (A x)
theorem An_xor (n : Nat) : ∀ x y, An n (x ^^^ y) = An n x ^^^ An n y := by
  induction n with
  | zero => intro x y; rfl
  | succ n ih => intro x y; simp only [An]; rw [A_xor, ih]
theorem An_pow (n : Nat) : ∀ x, An n (x * 2 ^ n) = x := by
  induction n with
  | zero => intro x; simp [An]
  | succ n ih => intro x; simp only [An]; rw [Nat.pow_succ, ← Nat.mul_assoc, A_two, ih]
theorem An_lt (n : Nat) : ∀ x, x < 4294967296 → An n x < 4294967296 := by
  induction n with
  | zero => intro x h; exact h
  | succ n ih => intro x h; exact ih _ (A_lt h)
theorem An_zero (n : Nat) : ∀ x, x < 4294967296 → An n x = 0 → x = 0 := by
  induction n with
  | zero => intro x _ h; exact h
  | succ n ih => intro x h h0; exact A_zero h (ih _ (A_lt h) h0)
theorem An_add (n m : Nat) : ∀ x, An (n + m) x = An m (An n x) := by
  induction n with
  | zero => intro x; simp [An]
  | succ n ih => intro x; rw [show n + 1 + m = (n + m) + 1 by omega]; simp only [An]; exact ih _
theorem A_0 : A 0 = 0 := by decide
theorem An_0 (n : Nat) : An n 0 = 0 := by
  induction n with
  | zero => rfl
  | succ n ih => simp only [An]; rw [A_0, ih]

/-- A string's number, the first byte the lowest. -/
def leX : List Nat → Nat
  | [] => 0
  | b :: l => b ^^^ (leX l * 256)
/-- The register behind a string. -/
def reg (r : Nat) (l : List Nat) : Nat := l.foldl (fun r b => An 8 (r ^^^ b)) r
theorem reg_eq (l : List Nat) : ∀ r, reg r l = An (8 * l.length) (r ^^^ leX l) := by
  induction l with
  | nil => intro r; simp [reg, leX, An]
  | cons b l ih =>
    intro r
    have h : reg r (b :: l) = reg (An 8 (r ^^^ b)) l := rfl
    rw [h, ih, show 8 * (b :: l).length = 8 + 8 * l.length by simp; omega, An_add]
    congr 1
    simp only [leX]
    rw [← Nat.xor_assoc, An_xor 8 (r ^^^ b), show leX l * 256 = leX l * 2 ^ 8 by rfl, An_pow]
theorem mul_xor (n : Nat) (x y : Nat) : (x ^^^ y) * 2 ^ n = x * 2 ^ n ^^^ y * 2 ^ n := by
  rw [← Nat.shiftLeft_eq, ← Nat.shiftLeft_eq, ← Nat.shiftLeft_eq, Nat.shiftLeft_xor_distrib]
/-- Bits of one byte are turned. -/
theorem leX_set (e : Nat) (l : List Nat) : ∀ (j : Nat) (b : Nat), l[j]? = some b → leX (l.set j (b ^^^ e)) = leX l ^^^ (e * 256 ^ j) := by
  induction l with
  | nil => intro j b h; simp at h
  | cons c l ih =>
    intro j b h
    cases j with
    | zero =>
      simp only [List.getElem?_cons_zero, Option.some.injEq] at h
      subst h
      simp only [List.set_cons_zero, leX, Nat.pow_zero, Nat.mul_one]
      rw [Nat.xor_assoc, Nat.xor_assoc, Nat.xor_comm e]
    | succ j =>
      rw [List.getElem?_cons_succ] at h
      simp only [List.set_cons_succ, leX]
      rw [ih j b h, show (leX l ^^^ e * 256 ^ j) * 256 = leX l * 256 ^^^ e * 256 ^ j * 256 from mul_xor 8 _ _, Nat.xor_assoc, Nat.pow_succ, ← Nat.mul_assoc]
/-- The exclusive or of lists of one length. -/
theorem leX_zip : ∀ (a b : List Nat), a.length = b.length → leX (List.zipWith (· ^^^ ·) a b) = leX a ^^^ leX b
  | [], [], _ => rfl
  | x :: a, y :: b, h => by
    simp only [List.zipWith_cons_cons, leX]
    rw [leX_zip a b (by simpa using h), show (leX a ^^^ leX b) * 256 = leX a * 256 ^^^ leX b * 256 from mul_xor 8 _ _]
    rw [Nat.xor_assoc, Nat.xor_assoc, ← Nat.xor_assoc y, ← Nat.xor_assoc (leX a * 256), Nat.xor_comm y]
/-- A change of at most 32 consecutive bits: the register is another one. -/
theorem burst (m k W X : Nat) (hW : W < 4294967296) (hk : k ≤ m) : An m (X ^^^ W * 2 ^ k) = An m X ↔ W = 0 := by
  constructor
  · intro h
    rw [An_xor] at h
    have h1 : An m X ^^^ (An m X ^^^ An m (W * 2 ^ k)) = An m X ^^^ An m X := by rw [h]
    rw [← Nat.xor_assoc, Nat.xor_self, Nat.zero_xor] at h1
    rw [show m = k + (m - k) by omega, An_add, An_pow] at h1
    exact An_zero _ _ hW h1
  · rintro rfl; simp
end Go.Proofs.YtjjbhkaigfggdaaDoor.Crc
