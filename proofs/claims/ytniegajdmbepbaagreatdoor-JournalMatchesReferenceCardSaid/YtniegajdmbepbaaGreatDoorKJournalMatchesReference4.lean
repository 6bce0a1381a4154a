/- The plain mathematics of the encoding of integers: lists of naturals below 256, encoded by groups of seven bits, and read back. No condition. The plain mathematics of a journal's content: how records are stored, and how a content is read back. Condition: a chain's digests have 32 bytes. The plain machine of a disk with a write cache and of a journal on it; what survives a power failure. Condition: a chain's digests have 32 bytes. -/
set_option linter.unusedSimpArgs false
set_option linter.unusedVariables false
namespace Go.Proofs.YtniegajdmbepbaaGreatDoor.Code
def maxInt : Int := 4611686018427387903
def encN (z : Nat) : List Nat := if h : z < 128 then [z] else (z % 128 + 128) :: encN (z / 128)
termination_by z
decreasing_by omega
theorem encN_lo {z : Nat} (h : z < 128) : encN z = [z] := by rw [encN]; simp [h]
theorem encN_hi {z : Nat} (h : ¬ z < 128) : encN z = (z % 128 + 128) :: encN (z / 128) := by rw [encN]; simp [h]
theorem encN_lt (z : Nat) : ∀ b ∈ encN z, b < 256 := by
 induction z using Nat.strongRecOn with
 | _ z ih =>
  by_cases h : z < 128
  ·rw [encN_lo h]; intro b hb; simp at hb; omega
  ·rw [encN_hi h]
   intro b hb
   rcases List.mem_cons.1 hb with rfl | hb
   ·omega
   ·exact ih (z / 128) (by omega) b hb
theorem encN_len (f : Nat) : ∀ z, z < 128 ^ (f + 1) → (encN z).length ≤ f + 1 := by
 induction f with
 | zero => intro z h; rw [encN_lo (by simpa using h)]; simp
 | succ f ih =>
  intro z h
  by_cases h1 : z < 128
  ·rw [encN_lo h1]; simp
  ·rw [encN_hi h1]
   have := ih (z / 128) (by rw [Nat.pow_succ] at h; omega)
   simp; omega
def unz (z : Nat) : Int := if z % 2 = 0 then (z / 2 : Nat) else -((z / 2 : Nat) : Int) - 1
def zzn (n : Int) : Nat := if n < 0 then (-2 * n - 1).toNat else (2 * n).toNat
theorem unz_zzn (n : Int) : unz (zzn n) = n := by
 unfold unz zzn
 split
 ·rw [if_neg (by omega)]; omega
 ·rw [if_pos (by omega)]; omega
theorem zzn_unz (z : Nat) : zzn (unz z) = z := by
 unfold unz zzn
 by_cases h : z % 2 = 0
 ·rw [if_pos h, if_neg (by omega)]; omega
 ·rw [if_neg h, if_pos (by omega)]; omega
theorem zzn_lt {n : Int} (h0 : -maxInt ≤ n) (h1 : n ≤ maxInt) : zzn n < 128 ^ 9 := by
 unfold maxInt at *; unfold zzn; simp only [Nat.reducePow]; split <;> omega
theorem unz_le {z : Nat} (h : z < 128 ^ 9) : unz z ≤ maxInt := by
 unfold maxInt unz; simp only [Nat.reducePow] at h; split <;> omega
def decF : Nat → Nat → Nat → List Nat → Option (Int × Nat)
 | _, _, _, [] => none
 | 0, _, _, _ :: _ => none
 | f + 1, i, z, b :: l => if 128 ≤ b then decF f (i + 1) (z + b % 128 * 128 ^ i) l
   else if b = 0 ∧ 0 < i then none else if unz (z + b * 128 ^ i) < -maxInt then none else some (unz (z + b * 128 ^ i), i + 1)
theorem decF_nil (f i z : Nat) : decF f i z [] = none := by cases f <;> rfl
theorem decF_zero (i z : Nat) (l : List Nat) : decF 0 i z l = none := by cases l <;> rfl
theorem decF_enc (f : Nat) : ∀ (i z y : Nat) (r : List Nat), y < 128 ^ (f + 1) → (0 < i → 0 < y) →
  decF (f + 1) i z (encN y ++ r) = if unz (z + y * 128 ^ i) < -maxInt then none else some (unz (z + y * 128 ^ i), i + (encN y).length) := by
 induction f with
 | zero =>
  intro i z y r h hp
  have h1 : y < 128 := by simpa using h
  rw [encN_lo h1]
  simp only [List.singleton_append, decF]
  rw [if_neg (by omega), if_neg (by intro hh; have := hp hh.2; omega)]
  simp
 | succ f ih =>
  intro i z y r h hp
  by_cases h1 : y < 128
  ·rw [encN_lo h1]
   simp only [List.singleton_append, decF]
   rw [if_neg (by omega), if_neg (by intro hh; have := hp hh.2; omega)]
   simp
  ·rw [encN_hi h1]
   simp only [List.cons_append, decF]
   rw [if_pos (by omega)]
   have e : z + (y % 128 + 128) % 128 * 128 ^ i + y / 128 * 128 ^ (i + 1) = z + y * 128 ^ i := by
    have h2 : (y % 128 + 128) % 128 = y % 128 := by omega
    have h3 : y = 128 * (y / 128) + y % 128 := (Nat.div_add_mod y 128).symm
    rw [h2, Nat.pow_succ]
    have h4 : y * 128 ^ i = (128 * (y / 128) + y % 128) * 128 ^ i := by rw [← h3]
    rw [h4, Nat.add_mul]
    have h5 : y / 128 * (128 ^ i * 128) = 128 * (y / 128) * 128 ^ i := by
     rw [Nat.mul_comm (128 ^ i) 128, ← Nat.mul_assoc, Nat.mul_comm (y / 128) 128]
    omega
   rw [ih (i + 1) _ (y / 128) r (by rw [Nat.pow_succ] at h; omega) (by omega), e]
   simp only [List.length_cons]
   congr 3
   omega
theorem decF_some (f : Nat) : ∀ (i z : Nat) (l : List Nat) (n : Int) (c : Nat), (∀ b ∈ l, b < 256) → decF f i z l = some (n, c) →
  ∃ y, i < c ∧ c - i ≤ l.length ∧ l.take (c - i) = encN y ∧ y < 128 ^ f ∧ n = unz (z + y * 128 ^ i) ∧ (0 < i → 0 < y) ∧ -maxInt ≤ n := by
 induction f with
 | zero => intro i z l n c hb h; rw [decF_zero] at h; cases h
 | succ f ih =>
  intro i z l n c hb h
  cases l with
  | nil => cases h
  | cons b l =>
   have hb0 : b < 256 := hb b (by simp)
   simp only [decF] at h
   by_cases h1 : 128 ≤ b
   ·rw [if_pos h1] at h
    obtain ⟨y, q1, q2, q3, q4, q5, q6, q7⟩ := ih (i + 1) _ l n c (fun x hx => hb x (by simp [hx])) h
    have hy : 0 < y := q6 (by omega)
    refine ⟨y * 128 + b % 128, by omega, by simp; omega, ?_, ?_, ?_, fun _ => by omega, q7⟩
    ·rw [show c - i = (c - (i + 1)) + 1 by omega, List.take_succ_cons, q3, encN_hi (z := y * 128 + b % 128) (by omega)]
     rw [show (y * 128 + b % 128) % 128 + 128 = b by omega, show (y * 128 + b % 128) / 128 = y by omega]
    ·rw [Nat.pow_succ]; omega
    ·rw [q5]
     congr 1
     rw [Nat.pow_succ, Nat.add_mul, Nat.mul_assoc, Nat.mul_comm 128 (128 ^ i)]
     omega
   ·rw [if_neg h1] at h
    by_cases h2 : b = 0 ∧ 0 < i
    ·rw [if_pos h2] at h; cases h
    ·rw [if_neg h2] at h
     by_cases h3 : unz (z + b * 128 ^ i) < -maxInt
     ·rw [if_pos h3] at h; cases h
     ·rw [if_neg h3] at h
      simp only [Option.some.injEq, Prod.mk.injEq] at h
      obtain ⟨rfl, rfl⟩ := h
      refine ⟨b, by omega, by simp, ?_, ?_, rfl, fun hi => ?_, by omega⟩
      ·rw [show i + 1 - i = 1 by omega, encN_lo (by omega)]; simp
      ·rw [Nat.pow_succ]; have := Nat.pow_pos (n := f) (show 0 < 128 by decide); omega
      ·omega
def dec (l : List Nat) : Option (Int × Nat) := decF 9 0 0 l
def enc (n : Int) : List Nat := encN (zzn n)
theorem dec_enc {n : Int} (h0 : -maxInt ≤ n) (h1 : n ≤ maxInt) (r : List Nat) : dec (enc n ++ r) = some (n, (enc n).length) := by
 unfold dec enc
 rw [decF_enc 8 0 0 (zzn n) r (zzn_lt h0 h1) (by omega)]
 simp only [Nat.pow_zero, Nat.mul_one, Nat.zero_add]
 rw [unz_zzn, if_neg (by omega)]
theorem dec_some {l : List Nat} {n : Int} {c : Nat} (hb : ∀ b ∈ l, b < 256) (h : dec l = some (n, c)) :
  0 < c ∧ c ≤ l.length ∧ l.take c = enc n ∧ -maxInt ≤ n ∧ n ≤ maxInt := by
 obtain ⟨y, q1, q2, q3, q4, q5, _, q7⟩ := decF_some 9 0 0 l n c hb h
 simp only [Nat.pow_zero, Nat.mul_one, Nat.zero_add, Nat.sub_zero] at q1 q2 q3 q5
 refine ⟨q1, q2, ?_, q7, ?_⟩
 ·rw [q3, q5]; unfold enc; rw [zzn_unz]
 ·rw [q5]; exact unz_le q4
theorem enc_len {n : Int} (h0 : -maxInt ≤ n) (h1 : n ≤ maxInt) : (enc n).length ≤ 9 := encN_len 8 _ (zzn_lt h0 h1)
theorem enc_lt (n : Int) : ∀ b ∈ enc n, b < 256 := encN_lt _
end Go.Proofs.YtniegajdmbepbaaGreatDoor.Code
namespace Go.Proofs.YtniegajdmbepbaaGreatDoor.Jm
open Go.Proofs.YtniegajdmbepbaaGreatDoor.Code
def bl (s : ByteArray) : List Nat := s.data.toList.map UInt8.toNat
def ofB (l : List Nat) : ByteArray := ⟨(l.map UInt8.ofNat).toArray⟩
theorem bl_length (s : ByteArray) : (bl s).length = s.size := by simp [bl]
theorem bl_lt (s : ByteArray) : ∀ b ∈ bl s, b < 256 := by
 intro b hb; simp only [bl, List.mem_map] at hb; obtain ⟨x, _, rfl⟩ := hb; exact x.toNat_lt
theorem bl_inj {s t : ByteArray} (h : bl s = bl t) : s = t := by
 have : s.data.toList = t.data.toList := by
  have hi : Function.Injective UInt8.toNat := fun a b h => UInt8.toNat_inj.1 h
  exact (List.map_inj_right (fun x y h => hi h)).1 h
 cases s; cases t; simp only [ByteArray.mk.injEq]; exact Array.toList_inj.1 this
theorem bl_ofB {l : List Nat} (h : ∀ b ∈ l, b < 256) : bl (ofB l) = l := by
 unfold bl ofB
 simp only [List.map_map]
 conv => rhs; rw [← List.map_id l]
 refine List.map_congr_left fun b hb => ?_
 have := h b hb
 simp only [Function.comp, id]
 rw [UInt8.toNat_ofNat_of_lt' (by simpa using this)]
theorem ofB_bl (s : ByteArray) : ofB (bl s) = s := bl_inj (bl_ofB (bl_lt s))
theorem bl_append (s t : ByteArray) : bl (s ++ t) = bl s ++ bl t := by simp [bl]
def decS (l : List Nat) : Option (ByteArray × Nat) :=
 match dec l with
 | none => none
 | some (n, c) => if 0 ≤ n ∧ n ≤ 65536 ∧ n ≤ (l.length : Int) - (c : Int) then some (ofB ((l.drop c).take n.toNat), c + n.toNat) else none
def encS (r : ByteArray) : List Nat := enc (r.size : Int) ++ bl r
theorem decS_enc (r : ByteArray) (h : r.size ≤ 65536) (t : List Nat) : decS (encS r ++ t) = some (r, (encS r).length) := by
 unfold decS encS
 rw [List.append_assoc, dec_enc (by unfold maxInt; omega) (by unfold maxInt; omega)]
 have hl := bl_length r
 simp only [List.length_append, hl]
 rw [if_pos (by omega), List.drop_left, Int.toNat_natCast, List.take_append_of_le_length (by omega), List.take_of_length_le (by omega), ofB_bl]
theorem decS_some {l : List Nat} {r : ByteArray} {c : Nat} (hb : ∀ b ∈ l, b < 256) (h : decS l = some (r, c)) : r.size ≤ 65536 ∧ c ≤ l.length ∧ l.take c = encS r ∧ 0 < c := by
 unfold decS at h
 cases hd : dec l with
 | none => rw [hd] at h; cases h
 | some p =>
  obtain ⟨n, k⟩ := p
  rw [hd] at h
  dsimp only at h
  split at h
  ·rename_i hn
   obtain ⟨q1, q2, q3, q4, q5⟩ := dec_some hb hd
   have h1 := Option.some.inj h
   have hr : ofB ((l.drop k).take n.toNat) = r := (Prod.mk.inj h1).1
   have hc : k + n.toNat = c := (Prod.mk.inj h1).2
   have hlt : ∀ b ∈ (l.drop k).take n.toNat, b < 256 := fun b hb' => hb b (List.mem_of_mem_drop (List.mem_of_mem_take hb'))
   have hbl : bl r = (l.drop k).take n.toNat := by rw [← hr]; exact bl_ofB hlt
   have hsz : r.size = n.toNat := by rw [← bl_length, hbl, List.length_take, List.length_drop]; omega
   refine ⟨by omega, by omega, ?_, by omega⟩
   unfold encS
   rw [← hc, List.take_add, q3, hbl, hsz]
   congr 2
   omega
  ·cases h
section
variable (chain : ByteArray → ByteArray → ByteArray)
def recB (h r : ByteArray) : List Nat := 1 :: (encS r ++ bl (chain h r))
def stored : ByteArray → List ByteArray → List Nat
 | _, [] => []
 | h, r :: rs => recB chain h r ++ stored (chain h r) rs
def headOf (h : ByteArray) (rs : List ByteArray) : ByteArray := rs.foldl chain h
theorem stored_append : ∀ (rs qs : List ByteArray) (h : ByteArray), stored chain h (rs ++ qs) = stored chain h rs ++ stored chain (headOf chain h rs) qs
 | [], qs, h => rfl
 | r :: rs, qs, h => by
  show recB chain h r ++ stored chain (chain h r) (rs ++ qs) = _
  rw [stored_append rs qs (chain h r)]
  exact (List.append_assoc _ _ _).symm
theorem headOf_append (rs qs : List ByteArray) (h : ByteArray) : headOf chain h (rs ++ qs) = headOf chain (headOf chain h rs) qs := by unfold headOf; rw [List.foldl_append]
def parse : Nat → ByteArray → List Nat → Option (List ByteArray × Nat)
 | 0, _, _ => some ([], 0)
 | f + 1, h, l =>
  match l with
  | [] => some ([], 0)
  | b :: r =>
   if b = 0 then some ([], 0)
   else if b ≠ 1 then none
   else match decS r with
    | none => none
    | some (x, c) =>
     if r.length < c + 32 then none
     else if recB chain h x = (b :: r).take (c + 33) then (parse f (chain h x) ((b :: r).drop (c + 33))).map fun p => (x :: p.1, c + 33 + p.2)
     else none
theorem recB_length (hc : ∀ h r, (chain h r).size = 32) (h r : ByteArray) : (recB chain h r).length = (encS r).length + 33 := by
 unfold recB
 rw [List.length_cons, List.length_append, bl_length, hc]
theorem parse_stored (hc : ∀ h r, (chain h r).size = 32) : ∀ (rs : List ByteArray) (h : ByteArray) (t : List Nat) (f : Nat), (∀ r ∈ rs, r.size ≤ 65536) → (t = [] ∨ t.head? = some 0) → rs.length < f → parse chain f h (stored chain h rs ++ t) = some (rs, (stored chain h rs).length)
 | [], h, t, f, _, ht, hf => by
  obtain ⟨f, rfl⟩ : ∃ g, f = g + 1 := ⟨f - 1, by omega⟩
  show parse chain (f + 1) h ([] ++ t) = _
  rw [List.nil_append]
  cases t with
  | nil => rfl
  | cons b t =>
   rcases ht with ht | ht
   ·cases ht
   ·have : b = 0 := by simpa using ht
    subst this
    rfl
 | r :: rs, h, t, f, hr, ht, hf => by
  obtain ⟨f, rfl⟩ : ∃ g, f = g + 1 := ⟨f - 1, by omega⟩
  have h1 := recB_length chain hc h r
  have e : stored chain h (r :: rs) ++ t = 1 :: (encS r ++ (bl (chain h r) ++ (stored chain (chain h r) rs ++ t))) := by
   show (recB chain h r ++ stored chain (chain h r) rs) ++ t = _
   unfold recB
   simp
  have e2 : stored chain h (r :: rs) ++ t = recB chain h r ++ (stored chain (chain h r) rs ++ t) := by
   show (recB chain h r ++ stored chain (chain h r) rs) ++ t = _
   rw [List.append_assoc]
  rw [e]
  unfold parse
  dsimp only
  rw [if_neg (by decide), if_neg (by decide), decS_enc r (hr r List.mem_cons_self)]
  dsimp only
  rw [if_neg (by simp only [List.length_append, bl_length, hc]; omega), ← e, e2, List.take_left' h1, if_pos rfl, List.drop_left' h1]
  rw [parse_stored hc rs (chain h r) t f (fun x hx => hr x (List.mem_cons_of_mem _ hx)) ht (by simp at hf; omega)]
  show some (r :: rs, (encS r).length + 33 + (stored chain (chain h r) rs).length) = _
  rw [← h1, ← List.length_append]
  rfl
theorem parse_some : ∀ (f : Nat) (h : ByteArray) (l : List Nat) (rs : List ByteArray) (n : Nat), (∀ b ∈ l, b < 256) → l.length < f → parse chain f h l = some (rs, n) →
  n ≤ l.length ∧ l.take n = stored chain h rs ∧ (∀ r ∈ rs, r.size ≤ 65536) ∧ (l.drop n = [] ∨ (l.drop n).head? = some 0) := by
 intro f
 induction f with
 | zero => intro h l rs n hb hf; omega
 | succ f ih =>
  intro h l rs n hb hf hp
  cases l with
  | nil =>
   have := Option.some.inj (show some (([] : List ByteArray), 0) = some (rs, n) from hp)
   obtain ⟨rfl, rfl⟩ := Prod.mk.inj this
   exact ⟨Nat.le_refl _, rfl, (fun r hr => by cases hr), .inl rfl⟩
  | cons b r =>
   unfold parse at hp
   dsimp only at hp
   by_cases b0 : b = 0
   ·rw [if_pos b0] at hp
    obtain ⟨rfl, rfl⟩ := Prod.mk.inj (Option.some.inj hp)
    exact ⟨Nat.zero_le _, rfl, (fun r hr => by cases hr), .inr (by rw [b0]; rfl)⟩
   ·rw [if_neg b0] at hp
    by_cases b1 : b = 1
    ·rw [if_neg (by simp [b1])] at hp
     cases hd : decS r with
     | none => rw [hd] at hp; cases hp
     | some p =>
      obtain ⟨x, c⟩ := p
      rw [hd] at hp
      dsimp only at hp
      obtain ⟨q1, q2, q3, q4⟩ := decS_some (fun y hy => hb y (List.mem_cons_of_mem _ hy)) hd
      by_cases hl : r.length < c + 32
      ·rw [if_pos hl] at hp; cases hp
      ·rw [if_neg hl] at hp
       by_cases hr : recB chain h x = (b :: r).take (c + 33)
       ·rw [if_pos hr] at hp
        cases hq : parse chain f (chain h x) ((b :: r).drop (c + 33)) with
        | none => rw [hq] at hp; cases hp
        | some p =>
         obtain ⟨qs, m⟩ := p
         rw [hq] at hp
         obtain ⟨e1, e2⟩ := Prod.mk.inj (Option.some.inj hp)
         dsimp only at e1 e2
         have hlen : (b :: r).length = r.length + 1 := rfl
         obtain ⟨g1, g2, g3, g4⟩ := ih (chain h x) _ qs m (fun y hy => hb y (List.mem_of_mem_drop hy)) (by rw [List.length_drop, hlen]; rw [hlen] at hf; omega) hq
         rw [List.length_drop] at g1
         rw [← e1, ← e2]
         refine ⟨by omega, ?_, ?_, ?_⟩
         ·rw [List.take_add, ← hr, g2]; rfl
         ·intro y hy
          rcases List.mem_cons.1 hy with rfl | hy
          ·exact q1
          ·exact g3 y hy
         ·rw [← List.drop_drop]; exact g4
       ·rw [if_neg hr] at hp; cases hp
    ·rw [if_pos b1] at hp; cases hp
end
open Go.Proofs.YtniegajdmbepbaaGreatDoor.Code
def splice (b : List Nat) (off : Nat) (s : List Nat) : List Nat := b.take off ++ s ++ b.drop (off + s.length)
theorem splice_length {b : List Nat} {off : Nat} {s : List Nat} (h : off + s.length ≤ b.length) : (splice b off s).length = b.length := by
  unfold splice
  rw [List.length_append, List.length_append, List.length_take, List.length_drop]
  omega
theorem splice_at {a s z t : List Nat} (h : s.length = z.length) : splice (a ++ z ++ t) a.length s = a ++ s ++ t := by
  have e1 : (a ++ z ++ t).take a.length = a := by rw [List.append_assoc]; exact List.take_left' rfl
  have e2 : (a ++ z ++ t).drop (a.length + s.length) = t := List.drop_left' (by rw [List.length_append, h])
  unfold splice
  rw [e1, e2]
theorem splice_nil (b : List Nat) (off : Nat) : splice b off [] = b := by
  unfold splice
  simp
structure Dk where
  off : Bool
  left : Nat
  dur : List Nat
  vis : List Nat
  pend : List (Nat × ByteArray)
namespace Dk
def used (d : Dk) : Dk := if d.left = 0 then d else { d with left := d.left - 1, off := decide (d.left = 1) }
def inside (d : Dk) (off n : Int) : Bool := decide (0 ≤ off) && decide (0 ≤ n) && decide (off ≤ d.dur.length) && decide (n ≤ (d.dur.length : Int) - off)
def write (d : Dk) (off : Int) (s : ByteArray) : Dk × Int :=
  if d.off = true then (d, 281) else if d.inside off s.size = true then (used { d with pend := d.pend ++ [(off.toNat, s)], vis := splice d.vis off.toNat (bl s) }, 0) else (d, 280)
def sync (d : Dk) : Dk × Int := if d.off = true then (d, 281) else ({ d with dur := d.vis, pend := [] }, 0)
def cut (d : Dk) (n : Int) : Dk × Int := if d.off = true then (d, 281) else if n < 0 then (d, 2) else ({ d with off := decide (n = 0), left := n.toNat }, 0)
def order (n : Nat) (keep : List Int) : List Nat := (List.range n).filter (fun i => keep.contains (i : Int))
def applyL (torn : Int) : List Nat → List (Nat × ByteArray) → List Nat → List Nat
  | b, [], _ => b
  | b, [(off, s)], _ => splice b off (if 0 ≤ torn then (bl s).take torn.toNat else bl s)
  | b, (off, s) :: r, x => applyL torn (splice b off (bl s)) r x
def crash (d : Dk) (keep : List Int) (torn : Int) : Dk :=
  let b := applyL torn d.dur ((order d.pend.length keep).filterMap (fun i => d.pend[i]?)) []
  { off := false, left := 0, dur := b, vis := b, pend := [] }
end Dk
structure Jr where
  records : List ByteArray
  head : ByteArray
  size : Nat
  broken : Bool
section
variable (chain : ByteArray → ByteArray → ByteArray) (z : ByteArray)
def zeros (n : Nat) : List Nat := List.replicate n 0
def openM (d : Dk) : Dk × Option Jr × Int :=
  if d.off = true then (d, none, 281)
  else match parse chain (d.vis.length + 1) z d.vis with
    | none => (d, none, 292)
    | some (rs, n) =>
      if (d.vis.drop n).all (· == 0) = true then (d, some ⟨rs, headOf chain z rs, n, false⟩, 0)
      else
        let (d1, e1) := d.write n (ofB (zeros (d.vis.length - n)))
        if e1 ≠ 0 then (d1, none, e1) else
        let (d2, e2) := d1.sync
        if e2 ≠ 0 then (d2, none, e2) else (d2, some ⟨rs, headOf chain z rs, n, false⟩, 0)
def appendM (d : Dk) (j : Jr) (l : List ByteArray) : Dk × Jr × Int :=
  if j.broken = true ∨ l.any (fun s => decide (65536 < s.size)) = true then (d, j, 290)
  else
    let s := stored chain j.head l
    if d.dur.length < j.size + s.length then (d, j, 291)
    else if s = [] then (d, j, 0)
    else
      let (d1, e1) := d.write (j.size + 1) (ofB s.tail)
      if e1 ≠ 0 then (d1, { j with broken := true }, e1) else
      let (d2, e2) := d1.sync
      if e2 ≠ 0 then (d2, { j with broken := true }, e2) else
      let (d3, e3) := d2.write j.size (ofB (s.take 1))
      if e3 ≠ 0 then (d3, { j with broken := true }, e3) else
      let (d4, e4) := d3.sync
      if e4 ≠ 0 then (d4, { j with broken := true }, e4) else
      (d4, ⟨j.records ++ l, headOf chain j.head l, j.size + s.length, false⟩, 0)
structure Fine (d : Dk) (j : Jr) (m : Nat) : Prop where
  on : d.off = false
  ok : j.broken = false
  pend : d.pend = []
  dur : d.dur = stored chain z j.records ++ zeros m
  vis : d.vis = stored chain z j.records ++ zeros m
  size : j.size = (stored chain z j.records).length
  head : j.head = headOf chain z j.records
  small : ∀ r ∈ j.records, r.size ≤ 65536
theorem sync_on (L : Nat) (A B : List Nat) (P : List (Nat × ByteArray)) : Dk.sync ⟨false, L, A, B, P⟩ = (⟨false, L, B, B, []⟩, 0) := rfl
theorem sync_off (L : Nat) (A B : List Nat) (P : List (Nat × ByteArray)) : Dk.sync ⟨true, L, A, B, P⟩ = (⟨true, L, A, B, P⟩, 281) := rfl
theorem enc_all (n : Int) : ∀ b ∈ enc n, b < 256 := enc_lt n
theorem stored_lt : ∀ (rs : List ByteArray) (h : ByteArray), ∀ b ∈ stored chain h rs, b < 256
  | [], h, b, hb => by cases hb
  | r :: rs, h, b, hb => by
    rcases List.mem_append.1 (show b ∈ recB chain h r ++ stored chain (chain h r) rs from hb) with hb | hb
    · rcases List.mem_cons.1 hb with rfl | hb
      · decide
      · rcases List.mem_append.1 hb with hb | hb
        · rcases List.mem_append.1 hb with hb | hb
          · exact enc_lt _ b hb
          · exact bl_lt _ b hb
        · exact bl_lt _ b hb
    · exact stored_lt rs (chain h r) b hb
theorem stored_head (r : ByteArray) (rs : List ByteArray) (h : ByteArray) : ∃ t, stored chain h (r :: rs) = 1 :: t := ⟨_, rfl⟩
theorem zeros_split {m k : Nat} (h : k ≤ m) : zeros m = zeros k ++ zeros (m - k) := by
  unfold zeros
  rw [List.replicate_append_replicate]
  congr 1
  omega
theorem zeros_length (n : Nat) : (zeros n).length = n := by simp [zeros]
theorem zeros_lt (n : Nat) : ∀ b ∈ zeros n, b < 256 := fun b hb => by rw [List.eq_of_mem_replicate hb]; decide
theorem zeros_head (n : Nat) : zeros n = [] ∨ (zeros n).head? = some 0 := by cases n <;> simp [zeros, List.replicate_succ]
theorem all_zero {l : List Nat} (h : l.all (· == 0) = true) : l = zeros l.length := by
  unfold zeros
  rw [List.all_eq_true] at h
  exact List.eq_replicate_iff.2 ⟨rfl, fun b hb => by simpa using h b hb⟩
theorem zeros_all (n : Nat) : (zeros n).all (· == 0) = true := by
  rw [List.all_eq_true]
  intro b hb
  rw [List.eq_of_mem_replicate hb]
  rfl
theorem open_any (hc : ∀ h r, (chain h r).size = 32) (rs : List ByteArray) (t : List Nat) (left : Nat) (hr : ∀ r ∈ rs, r.size ≤ 65536) (ht : t = [] ∨ t.head? = some 0) (hz : left = 0 ∨ t.all (· == 0) = true) :
    openM chain z ⟨false, left, stored chain z rs ++ t, stored chain z rs ++ t, []⟩ = (⟨false, left, stored chain z rs ++ zeros t.length, stored chain z rs ++ zeros t.length, []⟩, some ⟨rs, headOf chain z rs, (stored chain z rs).length, false⟩, 0) := by
  unfold openM
  dsimp only
  rw [if_neg (by decide)]
  have hp : parse chain ((stored chain z rs ++ t).length + 1) z (stored chain z rs ++ t) = some (rs, (stored chain z rs).length) := by
    apply parse_stored chain hc rs z t _ hr ht
    have : ∀ (rs : List ByteArray) (h : ByteArray), rs.length ≤ (stored chain h rs).length := by
      intro rs
      induction rs with
      | nil => intro h; exact Nat.le_refl _
      | cons r rs ih =>
        intro h
        have := ih (chain h r)
        show rs.length + 1 ≤ (recB chain h r ++ stored chain (chain h r) rs).length
        rw [List.length_append, recB_length chain hc]
        omega
    have := this rs z
    rw [List.length_append]
    omega
  rw [hp]
  dsimp only
  rw [List.drop_left' rfl]
  by_cases ha : t.all (· == 0) = true
  · rw [if_pos ha, ← all_zero ha]
  · rw [if_neg ha]
    have hl : left = 0 := by
      rcases hz with hz | hz
      · exact hz
      · exact absurd hz ha
    subst hl
    have hlen : (stored chain z rs ++ t).length - (stored chain z rs).length = t.length := by rw [List.length_append]; omega
    have hsz : (ofB (zeros t.length)).size = t.length := by rw [← bl_length, bl_ofB (zeros_lt _), zeros_length]
    have hw : Dk.write ⟨false, 0, stored chain z rs ++ t, stored chain z rs ++ t, []⟩ ((stored chain z rs).length : Int) (ofB (zeros t.length)) = (⟨false, 0, stored chain z rs ++ t, stored chain z rs ++ zeros t.length, [((stored chain z rs).length, ofB (zeros t.length))]⟩, 0) := by
      unfold Dk.write
      dsimp only
      rw [if_neg (by decide), hsz, if_pos]
      · rw [Int.toNat_natCast, bl_ofB (zeros_lt _)]
        have := splice_at (a := stored chain z rs) (s := zeros t.length) (z := t) (t := []) (zeros_length _)
        rw [List.append_nil, List.append_nil] at this
        unfold Dk.used
        dsimp only
        rw [if_pos rfl, this]
        rfl
      · unfold Dk.inside
        dsimp only
        simp only [List.length_append, Bool.and_eq_true, decide_eq_true_eq]
        omega
    rw [hlen, hw]
    dsimp only
    rw [if_neg (by decide)]
    rw [sync_on]
    dsimp only
    rw [if_neg (by decide)]
theorem Fine.eq {d : Dk} {j : Jr} {m : Nat} (h : Fine chain z d j m) : d = ⟨false, d.left, stored chain z j.records ++ zeros m, stored chain z j.records ++ zeros m, []⟩ := by
  obtain ⟨off, left, dur, vis, pend⟩ := d
  obtain ⟨h1, h2, h3, h4, h5, h6, h7, h8⟩ := h
  simp only at h1 h3 h4 h5
  rw [h1, h3, h4, h5]
def Torn (d : Dk) (j : Jr) (l : List ByteArray) : Prop :=
  ∃ m, (stored chain (headOf chain z j.records) l).length ≤ m ∧ l ≠ [] ∧ (∀ r ∈ j.records ++ l, r.size ≤ 65536) ∧ j.broken = true ∧ d.off = true ∧
    ((d.dur = stored chain z j.records ++ zeros m ∧ d.pend = [((stored chain z j.records).length + 1, ofB (stored chain (headOf chain z j.records) l).tail)]) ∨
     (d.dur = stored chain z j.records ++ 0 :: (stored chain (headOf chain z j.records) l).tail ++ zeros (m - (stored chain (headOf chain z j.records) l).length) ∧ d.pend = [((stored chain z j.records).length, ofB ((stored chain (headOf chain z j.records) l).take 1))]))
theorem write_in (L : Nat) (A B : List Nat) (P : List (Nat × ByteArray)) (off : Nat) (s : ByteArray) (h : off + s.size ≤ A.length) :
    Dk.write ⟨false, L, A, B, P⟩ (off : Int) s = (Dk.used ⟨false, L, A, splice B off (bl s), P ++ [(off, s)]⟩, 0) := by
  unfold Dk.write
  rw [if_neg (by intro hh; cases hh), if_pos]
  · rw [Int.toNat_natCast]
  · unfold Dk.inside
    simp only [Bool.and_eq_true, decide_eq_true_eq]
    omega
theorem size_ofB {l : List Nat} (h : ∀ b ∈ l, b < 256) : (ofB l).size = l.length := by rw [← bl_length, bl_ofB h]
theorem append_any (d : Dk) (j : Jr) (m : Nat) (l : List ByteArray) (h : Fine chain z d j m) :
    ∃ d' j' e, appendM chain d j l = (d', j', e) ∧
      ((e = 290 ∧ d' = d ∧ j' = j ∧ ∃ s ∈ l, 65536 < s.size) ∨
       ((∀ s ∈ l, s.size ≤ 65536) ∧ e = 291 ∧ d' = d ∧ j' = j ∧ m < (stored chain j.head l).length) ∨
       ((∀ s ∈ l, s.size ≤ 65536) ∧ (stored chain j.head l).length ≤ m ∧ e = 0 ∧ Fine chain z d' j' (m - (stored chain j.head l).length) ∧ j'.records = j.records ++ l ∧ (d.left = 0 → d'.left = 0)) ∨
       (e = 281 ∧ Torn chain z d' j' l ∧ j'.records = j.records ∧ d.left ≠ 0)) := by
  have hd := h.eq
  obtain ⟨L, hL⟩ : ∃ L, d.left = L := ⟨_, rfl⟩
  rw [hL] at hd
  obtain ⟨R, hd0, n, br⟩ := j
  obtain ⟨h1, h2, h3, h4, h5, h6, h7, h8⟩ := h
  simp only at h2 h4 h5 h6 h7 h8 hd
  rw [h6, h7, h2]
  clear h1 h3 h4 h5
  unfold appendM
  dsimp only
  by_cases hb : l.any (fun s => decide (65536 < s.size)) = true
  · rw [if_pos (.inr hb)]
    obtain ⟨s, hs, hs2⟩ := List.any_eq_true.1 hb
    exact ⟨d, _, 290, rfl, .inl ⟨rfl, rfl, rfl, s, hs, by simpa using hs2⟩⟩
  · have hsm : ∀ s ∈ l, s.size ≤ 65536 := by
      intro s hs
      rcases Nat.lt_or_ge 65536 s.size with hh | hh
      · exact absurd (List.any_eq_true.2 ⟨s, hs, by simpa using hh⟩) hb
      · exact hh
    rw [if_neg (by rintro (hh | hh); cases hh; exact hb hh)]
    obtain ⟨S, hS⟩ : ∃ S, stored chain z R = S := ⟨_, rfl⟩
    obtain ⟨s, hs⟩ : ∃ s, stored chain (headOf chain z R) l = s := ⟨_, rfl⟩
    have hSR : stored chain z (R ++ l) = S ++ s := by rw [stored_append, hS, hs]
    have hslt : ∀ b ∈ s, b < 256 := by rw [← hs]; exact stored_lt chain l _
    rw [hS, hs, hd, hS]
    dsimp only
    have hdl : (S ++ zeros m).length = S.length + m := by rw [List.length_append, zeros_length]
    rw [hdl]
    by_cases hf : m < s.length
    · rw [if_pos (by omega)]
      exact ⟨_, _, 291, rfl, .inr (.inl ⟨hsm, rfl, rfl, rfl, hf⟩)⟩
    · rw [if_neg (by omega)]
      have fin : ∀ (L' : Nat) (A : List Nat), A = S ++ s ++ zeros (m - s.length) → Fine chain z ⟨false, L', A, A, []⟩ ⟨R ++ l, headOf chain (headOf chain z R) l, S.length + s.length, false⟩ (m - s.length) := by
        rintro L' A rfl
        exact ⟨rfl, rfl, rfl, by rw [hSR], by rw [hSR], by rw [hSR, List.length_append], by rw [headOf_append], fun r hr => (List.mem_append.1 hr).elim (h8 r) (hsm r)⟩
      cases l with
      | nil =>
        have h0 : s = [] := hs.symm
        rw [if_pos h0]
        refine ⟨_, _, 0, rfl, .inr (.inr (.inl ⟨hsm, by omega, rfl, ?_, by simp, fun hh => hh⟩))⟩
        subst h0
        exact ⟨rfl, rfl, rfl, by rw [hS]; rfl, by rw [hS]; rfl, by rw [hS], rfl, h8⟩
      | cons r rs =>
        obtain ⟨t, ht⟩ := stored_head chain r rs (headOf chain z R)
        have hst : s = 1 :: t := hs.symm.trans ht
        rw [if_neg (by rw [hst]; simp)]
        have htl : s.tail = t := by rw [hst]; rfl
        have htk : s.take 1 = [1] := by rw [hst]; rfl
        have hsl : s.length = t.length + 1 := by rw [hst]; rfl
        have htlt : ∀ b ∈ t, b < 256 := fun b hb => hslt b (by rw [hst]; exact List.mem_cons_of_mem _ hb)
        have hts : (ofB t).size = t.length := size_ofB htlt
        have h1s : (ofB [1]).size = 1 := rfl
        have h1b : bl (ofB [1]) = [1] := bl_ofB (by decide)
        have e1 : splice (S ++ zeros m) (S.length + 1) t = S ++ 0 :: t ++ zeros (m - s.length) := by
          have hz : zeros m = [0] ++ zeros t.length ++ zeros (m - s.length) := by
            rw [zeros_split (show 1 ≤ m by omega), zeros_split (show t.length ≤ m - 1 by omega), show m - 1 - t.length = m - s.length by omega]
            simp [zeros]
          have := splice_at (a := S ++ [0]) (s := t) (z := zeros t.length) (t := zeros (m - s.length)) (zeros_length _).symm
          rw [List.length_append] at this
          rw [hz, show S ++ ([0] ++ zeros t.length ++ zeros (m - s.length)) = S ++ [0] ++ zeros t.length ++ zeros (m - s.length) by simp]
          rw [show S.length + 1 = S.length + [0].length from rfl, this]
          simp
        have e2 : splice (S ++ 0 :: t ++ zeros (m - s.length)) S.length [1] = S ++ s ++ zeros (m - s.length) := by
          have := splice_at (a := S) (s := [1]) (z := [0]) (t := t ++ zeros (m - s.length)) rfl
          rw [show S ++ 0 :: t ++ zeros (m - s.length) = S ++ [0] ++ (t ++ zeros (m - s.length)) by simp, this, hst]
          simp
        have hal : (S ++ 0 :: t ++ zeros (m - s.length)).length = S.length + m := by
          rw [List.length_append, List.length_append, zeros_length, List.length_cons]; omega
        have hsm2 : ∀ x ∈ R ++ r :: rs, x.size ≤ 65536 := fun x hx => (List.mem_append.1 hx).elim (h8 x) (hsm x)
        rw [htl, htk, show ((S.length : Int) + 1) = ((S.length + 1 : Nat) : Int) from rfl, write_in L _ _ _ _ _ (by rw [hdl, hts]; omega), bl_ofB htlt, e1, List.nil_append]
        have w2 : ∀ L', Dk.write ⟨false, L', S ++ 0 :: t ++ zeros (m - s.length), S ++ 0 :: t ++ zeros (m - s.length), []⟩ (S.length : Int) (ofB [1]) = (Dk.used ⟨false, L', S ++ 0 :: t ++ zeros (m - s.length), S ++ s ++ zeros (m - s.length), [(S.length, ofB [1])]⟩, 0) := by
          intro L'
          rw [write_in L' _ _ _ _ _ (by rw [hal, h1s]; omega), h1b, e2]
          rfl
        have tA : ∀ v L', Torn chain z ⟨true, L', S ++ zeros m, v, [(S.length + 1, ofB t)]⟩ ⟨R, headOf chain z R, S.length, true⟩ (r :: rs) := fun v L' =>
          ⟨m, by simp only [hs]; omega, by simp, hsm2, rfl, rfl, .inl ⟨by simp only [hS], by simp only [hS, hs, htl]⟩⟩
        have tB : ∀ v L', Torn chain z ⟨true, L', S ++ 0 :: t ++ zeros (m - s.length), v, [(S.length, ofB [1])]⟩ ⟨R, headOf chain z R, S.length, true⟩ (r :: rs) := fun v L' =>
          ⟨m, by simp only [hs]; omega, by simp, hsm2, rfl, rfl, .inr ⟨by simp only [hS, hs, htl], by simp only [hS, hs, htk]⟩⟩
        dsimp only
        rw [if_neg (by decide)]
        unfold Dk.used
        dsimp only
        by_cases hL0 : L = 0
        · subst hL0
          rw [if_pos rfl, sync_on]
          dsimp only
          rw [if_neg (by decide), w2]
          dsimp only
          rw [if_neg (by decide)]
          unfold Dk.used
          dsimp only
          rw [if_pos rfl, sync_on]
          dsimp only
          rw [if_neg (by decide)]
          exact ⟨_, _, 0, rfl, .inr (.inr (.inl ⟨hsm, by omega, rfl, fin _ _ rfl, rfl, fun _ => rfl⟩))⟩
        · rw [if_neg hL0]
          by_cases hL1 : L = 1
          · subst hL1
            rw [show decide ((1 : Nat) = 1) = true from rfl, sync_off]
            dsimp only
            rw [if_pos (by decide)]
            exact ⟨_, _, 281, rfl, .inr (.inr (.inr ⟨rfl, tA _ _, rfl, by omega⟩))⟩
          · rw [decide_eq_false hL1, sync_on]
            dsimp only
            rw [if_neg (by decide), w2]
            dsimp only
            rw [if_neg (by decide)]
            unfold Dk.used
            dsimp only
            rw [if_neg (show ¬ (L - 1 = 0) by omega)]
            by_cases hL2 : L - 1 = 1
            · rw [decide_eq_true hL2, sync_off]
              dsimp only
              rw [if_pos (by decide)]
              exact ⟨_, _, 281, rfl, .inr (.inr (.inr ⟨rfl, tB _ _, rfl, by omega⟩))⟩
            · rw [decide_eq_false hL2, sync_on]
              dsimp only
              rw [if_neg (by decide)]
              exact ⟨_, _, 0, rfl, .inr (.inr (.inl ⟨hsm, by omega, rfl, fin _ _ rfl, rfl, fun hh => absurd hh hL0⟩))⟩
end
end Go.Proofs.YtniegajdmbepbaaGreatDoor.Jm
