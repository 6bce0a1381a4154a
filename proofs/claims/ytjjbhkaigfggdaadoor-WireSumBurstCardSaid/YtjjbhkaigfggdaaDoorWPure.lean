/- What wire's functions answer, in plain words: PutInt the encoding, Int what is decoded, String and PutString likewise. No condition but sizes. -/
import Derived.Test.YtjjbhkaigfggdaaDoorPr1
import Derived.Test.YtjjbhkaigfggdaaDoorCode
import Derived.Test.YtjjbhkaigfggdaaDoorBits
set_option linter.unusedVariables false
set_option linter.unusedSimpArgs false
namespace Go.Proofs.YtjjbhkaigfggdaaDoor.WPure
open Go Go.RowKit Go.Proofs.YtjjbhkaigfggdaaDoor.Wire Go.Proofs.YtjjbhkaigfggdaaDoor.Pr Go.Proofs.YtjjbhkaigfggdaaDoor.Code Go.Proofs.YtjjbhkaigfggdaaDoorW.PrintWords Go.Proofs.YtjjbhkaigfggdaaDoorW.PrintLast Go.Proofs.YtjjbhkaigfggdaaDoorW.PrintMore

/-- A string's bytes as naturals. -/
def nl (s : ByteArray) : List Nat := s.data.toList.map UInt8.toNat
theorem nl_length (s : ByteArray) : (nl s).length = s.size := by simp [nl]
theorem nl_lt (s : ByteArray) : ∀ b ∈ nl s, b < 256 := by
  intro b hb; simp only [nl, List.mem_map] at hb; obtain ⟨x, _, rfl⟩ := hb; exact x.toNat_lt
theorem nl_inj {s t : ByteArray} (h : nl s = nl t) : s = t := by
  have : s.data.toList = t.data.toList := by
    have hi : Function.Injective UInt8.toNat := fun a b h => UInt8.toNat_inj.1 h
    exact (List.map_inj_right (fun x y h => hi h)).1 h
  cases s; cases t; simp only [ByteArray.mk.injEq]; exact Array.toList_inj.1 this
theorem nl_toList {s t : ByteArray} : s.toList = t.toList ↔ s = t := by
  constructor
  · intro h
    have : s.data.toList = t.data.toList := by simpa [ByteArray.toList_eq] using h
    exact nl_inj (by unfold nl; rw [this])
  · rintro rfl; rfl
theorem nl_append (s t : ByteArray) : nl (s ++ t) = nl s ++ nl t := by simp [nl]
theorem nl_extract (s : ByteArray) (i j : Nat) : nl (s.extract i j) = ((nl s).take j).drop i := by
  simp only [nl, ByteArray.data_extract, Array.toList_extract, List.extract_eq_take_drop, List.map_take, List.map_drop]
  rw [List.drop_take]
theorem bt_nl (s : ByteArray) (i : Nat) (h : i < s.size) : ∃ b, bt s (i : Int) = (b : Nat) ∧ b < 256 ∧ (nl s)[i]? = some b := by
  refine ⟨(s[i]'h).toNat, ?_, (s[i]'h).toNat_lt, ?_⟩
  · unfold bt; simp [h]
  · simp only [nl, List.getElem?_map]
    rw [List.getElem?_eq_getElem (by simpa using h)]
    rfl

/-! ### PutInt -/
theorem and127 (z : Nat) (hz : z < 18446744073709551616) : Go.bits .and .u64 (z : Int) 127 % 256 = ((z % 128 : Nat) : Int) := by
  rw [show (127 : Int) = ((127 : Nat) : Int) from rfl, (Bits.u64 z 127 hz (by decide)).1, show (127 : Nat) = 2 ^ 7 - 1 from rfl, Nat.and_two_pow_sub_one_eq_mod]
  omega
theorem or128 (a : Nat) (ha : a < 128) : Go.bits .or .u8 (a : Int) 128 = ((a + 128 : Nat) : Int) := by
  rw [show (128 : Int) = ((128 : Nat) : Int) from rfl, (Bits.u8 a 128 (by omega) (by decide)).2.1, Nat.or_comm]
  have := Nat.two_pow_add_eq_or_of_lt (i := 7) (b := a) (by omega) 1
  simp only [Nat.reducePow, Nat.mul_one] at this
  rw [← this]; congr 1; omega
theorem byte_lo (z : Nat) (h : z < 128) : Wire.byteOf (Wire.grp (z : Int)) = (z : Int) := by
  unfold Wire.byteOf Wire.grp
  rw [decide_eq_true (show (z : Int) < 128 by omega), if_pos rfl]
  show Go.bits .and .u64 (z : Int) 127 % 256 = _
  rw [and127 z (by omega), Nat.mod_eq_of_lt h]
theorem byte_hi (z : Nat) (h : ¬ z < 128) (hz : z < 18446744073709551616) : Wire.byteOf (Wire.grp (z : Int)) = ((z % 128 + 128 : Nat) : Int) := by
  unfold Wire.byteOf Wire.grp
  rw [decide_eq_false (show ¬ (z : Int) < 128 by omega), if_neg (by simp)]
  show Go.bits .or .u8 (Go.bits .and .u64 (z : Int) 127 % 256) 128 = _
  rw [and127 z hz, or128 _ (by omega)]
theorem bytes_eq (j : Nat) : ∀ z : Nat, z < 128 ^ (j + 1) → z < 18446744073709551616 → List.map Wire.byteOf (Wire.groups (j + 1) (z : Int)) = (encN z).map (fun n : Nat => (n : Int)) := by
  induction j with
  | zero =>
    intro z hz h64
    have h1 : z < 128 := by simpa using hz
    rw [encN_lo h1, Wire.groups, if_pos (show (z : Int) < 128 by omega), List.map_cons, byte_lo z h1]
    rfl
  | succ j ih =>
    intro z hz h64
    by_cases h1 : z < 128
    · rw [encN_lo h1, Wire.groups, if_pos (show (z : Int) < 128 by omega), List.map_cons, byte_lo z h1]
      rfl
    · rw [encN_hi h1, Wire.groups, if_neg (show ¬ (z : Int) < 128 by omega), List.map_cons, List.map_cons, byte_hi z h1 h64]
      have := ih (z / 128) (by rw [Nat.pow_succ] at hz; omega) (by omega)
      rw [show ((z : Int) / 128) = ((z / 128 : Nat) : Int) by omega, this]
theorem nl_strOf (l : List Nat) (h : ∀ b ∈ l, b < 256) : nl (strOfNums (l.map fun n : Nat => (n : Int))) = l := by
  unfold nl
  rw [strOfNums_data]
  rw [List.map_map, List.map_map]
  conv => rhs; rw [← List.map_id l]
  refine List.map_congr_left fun b hb => ?_
  have := h b hb
  simp only [Function.comp, Int.toNat_natCast, id]
  rw [UInt8.toNat_ofNat_of_lt' (by simpa using this)]
theorem zz_zzn (n : Int) : Wire.zz n = (zzn n : Nat) := by unfold Wire.zz zzn; split <;> omega
theorem leb_nl {n : Int} (h0 : -maxInt ≤ n) (h1 : n ≤ maxInt) : nl (Wire.leb (Wire.zz n)) = enc n := by
  have hz := zzn_lt h0 h1
  unfold Wire.leb
  rw [zz_zzn, bytes_eq 8 (zzn n) (by simpa using hz) (by simp only [Nat.reducePow] at hz; omega), nl_strOf _ (encN_lt _)]
  rfl
theorem putInt_in {n : Int} (h0 : -maxInt ≤ n) (h1 : n ≤ maxInt) : ∃ s, wire_PutInt.f n = some (s, 0) ∧ nl s = enc n := by
  refine ⟨_, ?_, leb_nl h0 h1⟩
  unfold wire_PutInt.f
  unfold maxInt at h0 h1
  rw [if_neg (by omega), if_neg (by omega)]
theorem putInt_out {n : Int} (h : n < -maxInt ∨ maxInt < n) : wire_PutInt.f n = some (⟨#[]⟩, 10) := by
  unfold wire_PutInt.f
  unfold maxInt at h
  by_cases h1 : n < -4611686018427387903
  · rw [if_pos h1]
  · rw [if_neg h1, if_pos (by omega)]

/-! ### Int -/
theorem w64 {n : Int} (h0 : -9223372036854775808 ≤ n) (h1 : n ≤ 9223372036854775807) : wrap64 n = n := by unfold wrap64; omega
/-- The groups' bits come together as a sum. -/
theorem join (i z b : Nat) (hi : i < 9) (hz : z < 128 ^ i) : Go.bits .or .u64 (z : Int) (shl .u64 (IntKind.u64.wrap (Go.bits .and .u8 (b : Int) 127)) (7 * (i : Int))) = ((z + b % 128 * 128 ^ i : Nat) : Int) ∨ 256 ≤ b := by
  by_cases hb : 256 ≤ b
  · exact .inr hb
  refine .inl ?_
  have e1 : Go.bits .and .u8 (b : Int) 127 = ((b % 128 : Nat) : Int) := by
    rw [show (127 : Int) = ((127 : Nat) : Int) from rfl, (Bits.u8 b 127 (by omega) (by decide)).1, show (127 : Nat) = 2 ^ 7 - 1 from rfl, Nat.and_two_pow_sub_one_eq_mod]
  have hp : (128 : Nat) ^ i = 2 ^ (7 * i) := by rw [show (128 : Nat) = 2 ^ 7 from rfl, ← Nat.pow_mul]
  have hp8 : (128 : Nat) ^ i ≤ 128 ^ 8 := Nat.pow_le_pow_right (by decide) (by omega)
  simp only [Nat.reducePow] at hp8
  have hlt : b % 128 * 128 ^ i < 9223372036854775808 := by
    have := Nat.mul_le_mul (show b % 128 ≤ 127 by omega) hp8
    omega
  have e2 : shl .u64 (IntKind.u64.wrap (Go.bits .and .u8 (b : Int) 127)) (7 * (i : Int)) = ((b % 128 * 128 ^ i : Nat) : Int) := by
    rw [e1, IntKind.wrap_u64]
    unfold shl
    rw [show min (7 * (i : Int)).toNat (IntKind.bits .u64) = 7 * i by simp [IntKind.bits]; omega, IntKind.wrap_u64]
    rw [show ((b % 128 : Nat) : Int) % 18446744073709551616 = ((b % 128 : Nat) : Int) by omega]
    have : ((b % 128 : Nat) : Int) * 2 ^ (7 * i) = ((b % 128 * 128 ^ i : Nat) : Int) := by rw [hp]; push_cast; rfl
    rw [this]
    omega
  rw [e2]
  have e3 := (Bits.u64 z (b % 128 * 128 ^ i) (by have : z < 128 ^ i := hz; omega) (by omega)).2.1
  rw [e3, Nat.or_comm]
  have := Nat.two_pow_add_eq_or_of_lt (i := 7 * i) (b := z) (by rw [← hp]; exact hz) (b % 128)
  rw [hp, Nat.mul_comm (b % 128), ← this, Nat.add_comm]
theorem unzig (Z : Nat) (hZ : Z < 9223372036854775808) : Go.bits .xor .i64 (wrap64 ((Z : Int) / 2)) (wrap64 (-(wrap64 (Go.bits .and .u64 (Z : Int) 1)))) = unz Z := by
  have e1 : Go.bits .and .u64 (Z : Int) 1 = ((Z % 2 : Nat) : Int) := by
    rw [show (1 : Int) = ((1 : Nat) : Int) from rfl, (Bits.u64 Z 1 (by omega) (by decide)).1, Nat.and_one_is_mod]
  rw [e1, w64 (n := ((Z % 2 : Nat) : Int)) (by omega) (by omega), w64 (n := (Z : Int) / 2) (by omega) (by omega), w64 (n := -((Z % 2 : Nat) : Int)) (by omega) (by omega)]
  unfold unz
  by_cases h : Z % 2 = 0
  · rw [if_pos h, h]
    show Go.bits .xor .i64 ((Z : Int) / 2) 0 = _
    rw [Bits.i64_xor0 _ (by omega) (by omega)]
    omega
  · rw [if_neg h, show Z % 2 = 1 by omega]
    show Go.bits .xor .i64 ((Z : Int) / 2) (-1) = _
    rw [Bits.i64_not _ (by omega) (by omega)]
    omega
theorem w64_add (a i : Nat) (h : a + i ≤ 9223372036854775807) : wrap64 ((a : Int) + (i : Int)) = ((a + i : Nat) : Int) := by rw [w64 (by omega) (by omega)]; omega
theorem w64_one (a : Nat) (h : a ≤ 9223372036854775806) : wrap64 ((a : Int) + 1) = ((a + 1 : Nat) : Int) := by rw [w64 (by omega) (by omega)]; omega
theorem w64_seven (i : Nat) (h : i ≤ 100) : wrap64 (7 * (i : Int)) = 7 * (i : Int) := w64 (by omega) (by omega)
def resI (a : Nat) : Option (Int × Nat) → Int × Int × Int
  | none => (0, 0, 10)
  | some (n, c) => (n, ((a + c : Nat) : Int), 0)
theorem int_loop (s : ByteArray) (a : Nat) (hs : s.size ≤ 4611686018427387904) (ha : a ≤ s.size) (f : Nat) : ∀ (i z k : Nat), f + i = 9 → z < 128 ^ i → f < k → a + i ≤ s.size + 9 →
    wire_Int.l0 k s (a : Int) (z : Int) (i : Int) = some (resI a (decF f i z ((nl s).drop (a + i)))) := by
  induction f with
  | zero =>
    intro i z k hf hz hk _
    obtain ⟨k, rfl⟩ : ∃ m, k = m + 1 := ⟨k - 1, by omega⟩
    rw [decF_zero]
    simp only [wire_Int.l0]
    rw [if_neg (by omega)]
    rfl
  | succ f ih =>
    intro i z k hf hz hk hle
    obtain ⟨k, rfl⟩ : ∃ m, k = m + 1 := ⟨k - 1, by omega⟩
    have h19 : (i : Int) < 9 := by omega
    simp only [wire_Int.l0]
    rw [if_pos h19, w64_add a i (by omega)]
    by_cases hlt : a + i < s.size
    · obtain ⟨b, hb, hb2, hb3⟩ := bt_nl s (a + i) hlt
      have hd : (nl s).drop (a + i) = b :: (nl s).drop (a + (i + 1)) := by
        rw [List.drop_eq_getElem_cons (by rw [nl_length]; exact hlt)]
        congr 1
        have := List.getElem?_eq_getElem (l := nl s) (i := a + i) (by rw [nl_length]; exact hlt)
        rw [hb3] at this
        exact (Option.some.inj this).symm
      have hp8 : (128 : Nat) ^ i ≤ 128 ^ 8 := Nat.pow_le_pow_right (by decide) (by omega)
      have hps : (128 : Nat) ^ (i + 1) ≤ 128 ^ 9 := Nat.pow_le_pow_right (by decide) (by omega)
      have hZ : z + b % 128 * 128 ^ i < 128 ^ (i + 1) := by
        rw [Nat.pow_succ]
        have := Nat.mul_le_mul (show b % 128 ≤ 127 by omega) (Nat.le_refl (128 ^ i))
        omega
      simp only [Nat.reducePow] at hps
      have hZ2 : z + b % 128 * 128 ^ i < 9223372036854775808 := by omega
      have t1 : ¬ ((a + i : Nat) : Int) ≥ (s.size : Int) := by omega
      have t2 : 0 ≤ ((a + i : Nat) : Int) := by omega
      have t3 : ((a + i : Nat) : Int) < (s.size : Int) := by omega
      have t4 : 0 ≤ 7 * (i : Int) := by omega
      have t5 : i < 9 := by omega
      have t6 : ¬ 256 ≤ b := by omega
      have t7 : i ≤ 100 := by omega
      have t8 : i ≤ 9223372036854775806 := by omega
      have t9 : a + i ≤ 9223372036854775806 := by omega
      rw [if_neg t1, if_pos t2, if_pos t3, w64_seven i t7, if_pos t4, hb, (join i z b t5 hz).resolve_right t6, hd, unzig (z + b % 128 * 128 ^ i) hZ2, w64_one i t8, w64_one (a + i) t9]
      by_cases h128 : 128 ≤ b
      · rw [if_pos (by omega)]
        simp only [decF]
        rw [if_pos h128]
        exact ih (i + 1) _ k (by omega) hZ (by omega) (by omega)
      · rw [if_neg (by omega)]
        simp only [decF]
        have hm : b % 128 = b := by omega
        rw [if_neg h128]
        rw [hm]
        by_cases hb0 : b = 0
        · subst hb0
          by_cases hi : 0 < i
          · rw [if_pos (show ((0 : Nat) : Int) = 0 from rfl), if_pos (show (i : Int) > 0 by omega), if_pos ⟨rfl, hi⟩]; rfl
          · rw [if_pos (show ((0 : Nat) : Int) = 0 from rfl), if_neg (show ¬ (i : Int) > 0 by omega), if_neg (show ¬ ((0 : Nat) = 0 ∧ 0 < i) by omega)]
            by_cases hn : unz (z + 0 * 128 ^ i) < -maxInt
            · rw [if_pos hn]; unfold maxInt at hn; rw [if_pos hn]; rfl
            · rw [if_neg hn]; unfold maxInt at hn; rw [if_neg hn]; rfl
        · rw [if_neg (show ¬ (b : Int) = 0 by omega), if_neg (show ¬ (b = 0 ∧ 0 < i) by omega)]
          by_cases hn : unz (z + b * 128 ^ i) < -maxInt
          · rw [if_pos hn]; unfold maxInt at hn; rw [if_pos hn]; rfl
          · rw [if_neg hn]; unfold maxInt at hn; rw [if_neg hn]; rfl
    · rw [if_pos (by omega), List.drop_eq_nil_of_le (by rw [nl_length]; omega), decF_nil]
      rfl
theorem int_eq (s : ByteArray) (a k : Nat) (hs : s.size ≤ 4611686018427387904) (ha : a ≤ s.size) (hk : 11 ≤ k) :
    wire_Int.f k s (a : Int) = some (resI a (dec ((nl s).drop a))) := by
  obtain ⟨k, rfl⟩ : ∃ m, k = m + 1 := ⟨k - 1, by omega⟩
  unfold wire_Int.f
  rw [if_neg (by omega)]
  simp only [wire_Int.j0]
  rw [decide_eq_false (by omega), if_neg (by decide)]
  exact int_loop s a hs ha 9 0 0 k rfl (by decide) (by omega) (by omega)
theorem int_arg (s : ByteArray) (at_ : Int) (k : Nat) (h : at_ < 0 ∨ (s.size : Int) < at_) (hk : 11 ≤ k) : wire_Int.f k s at_ = some (0, 0, 2) := by
  obtain ⟨k, rfl⟩ : ∃ m, k = m + 1 := ⟨k - 1, by omega⟩
  unfold wire_Int.f
  by_cases h0 : at_ < 0
  · rw [if_pos h0]; simp only [wire_Int.j0]; rw [if_pos trivial]
  · rw [if_neg h0]; simp only [wire_Int.j0]; rw [decide_eq_true (by omega)]; simp only [if_true]

/-! ### Strings -/
theorem putString_in {s : ByteArray} (h : s.size ≤ 65536) : ∃ r, wire_PutString.f s = some (r, 0) ∧ nl r = enc s.size ++ nl s := by
  obtain ⟨r, hr, hn⟩ := putInt_in (n := (s.size : Int)) (by unfold maxInt; omega) (by unfold maxInt; omega)
  have hl : r.size ≤ 9 := by rw [← nl_length, hn]; exact enc_len (by unfold maxInt; omega) (by unfold maxInt; omega)
  refine ⟨r ++ s, ?_, by rw [nl_append, hn]⟩
  unfold wire_PutString.f
  rw [if_neg (by omega), hr]
  simp only [Option.bind_some]
  rw [if_pos (by omega)]
theorem putString_out {s : ByteArray} (h : 65536 < s.size) : wire_PutString.f s = some (⟨#[]⟩, 10) := by
  unfold wire_PutString.f
  rw [if_pos (by omega)]
/-- What String answers, out of what the decoder of integers says. -/
def resS (s : ByteArray) (a : Nat) : Option (Int × Nat) → ByteArray × Int × Int
  | none => (⟨#[]⟩, 0, 10)
  | some (n, c) => if 0 ≤ n ∧ n ≤ 65536 ∧ n ≤ (s.size : Int) - (a + c : Nat) then (s.extract (a + c) (a + c + n.toNat), ((a + c + n.toNat : Nat) : Int), 0) else (⟨#[]⟩, 0, 10)
theorem string_eq (s : ByteArray) (a k : Nat) (hs : s.size ≤ 4611686018427387904) (ha : a ≤ s.size) (hk : 11 ≤ k) :
    wire_String.f k s (a : Int) = some (resS s a (dec ((nl s).drop a))) := by
  unfold wire_String.f
  rw [int_eq s a k hs ha hk]
  simp only [Option.bind_some]
  cases hd : dec ((nl s).drop a) with
  | none => rw [show resI a none = (0, 0, 10) from rfl]; dsimp only; rw [if_neg (by decide)]; rfl
  | some p =>
    obtain ⟨n, c⟩ := p
    obtain ⟨q1, q2, _, q4, q5⟩ := dec_some (fun b hb => nl_lt s b (List.mem_of_mem_drop hb)) hd
    rw [List.length_drop, nl_length] at q2
    rw [show resI a (some (n, c)) = (n, ((a + c : Nat) : Int), 0) from rfl]
    dsimp only
    rw [if_pos rfl]
    unfold resS
    dsimp only
    have e1 : wrap64 ((s.size : Int) - ((a + c : Nat) : Int)) = (s.size : Int) - ((a + c : Nat) : Int) := w64 (by omega) (by omega)
    unfold maxInt at q4 q5
    rw [e1]
    by_cases h0 : n < 0
    · rw [if_pos h0, if_neg (by omega)]
    · rw [if_neg h0]
      by_cases h1 : n > 65536
      · rw [if_pos h1, if_neg (by omega)]
      · rw [if_neg h1]
        by_cases h2 : n > (s.size : Int) - ((a + c : Nat) : Int)
        · rw [if_pos h2, if_neg (by omega)]
        · clear e1
          have e2 : wrap64 (((a + c : Nat) : Int) + n) = ((a + c + n.toNat : Nat) : Int) := by rw [w64 (by omega) (by omega)]; omega
          have t1 : (0 : Int) ≤ ((a + c : Nat) : Int) := by omega
          have t2 : ((a + c : Nat) : Int) ≤ ((a + c + n.toNat : Nat) : Int) := by omega
          have t3 : ((a + c + n.toNat : Nat) : Int) ≤ (s.size : Int) := by omega
          have t4 : 0 ≤ n ∧ n ≤ 65536 ∧ n ≤ (s.size : Int) - ((a + c : Nat) : Int) := by omega
          rw [if_neg h2, e2, if_pos t1, if_pos t2, if_pos t3, if_pos t4]
          rfl
theorem string_arg (s : ByteArray) (at_ : Int) (k : Nat) (h : at_ < 0 ∨ (s.size : Int) < at_) (hk : 11 ≤ k) : wire_String.f k s at_ = some (⟨#[]⟩, 0, 2) := by
  unfold wire_String.f
  rw [int_arg s at_ k h hk]
  simp only [Option.bind_some]
  rw [if_neg (by decide)]
end Go.Proofs.YtjjbhkaigfggdaaDoor.WPure
