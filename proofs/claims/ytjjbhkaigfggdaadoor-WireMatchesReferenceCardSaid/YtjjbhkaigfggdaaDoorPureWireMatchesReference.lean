/- WireMatchesReference's plain statement: the program's functions agree with the reference implementation. No condition. -/
import Derived.Test.YtjjbhkaigfggdaaDoorWRef2
import Derived.Test.YtjjbhkaigfggdaaDoorWCrc
import Derived.Test.YtjjbhkaigfggdaaDoorWSane
import Derived.Test.YtjjbhkaigfggdaaDoorPs2
set_option linter.unusedVariables false
set_option linter.unusedSimpArgs false
namespace Go.Proofs.YtjjbhkaigfggdaaDoor.WPure
open Go Go.RowKit Go.PlainAid Go.Proofs.YtjjbhkaigfggdaaDoor.Wire Go.Proofs.YtjjbhkaigfggdaaDoor.Pr Go.Proofs.YtjjbhkaigfggdaaDoor.Ps Go.Proofs.YtjjbhkaigfggdaaDoor.Code Go.Proofs.YtjjbhkaigfggdaaDoor.Crc Go.Proofs.YtjjbhkaigfggdaaDoorW.PrintWords Go.Proofs.YtjjbhkaigfggdaaDoorW.PrintLast Go.Proofs.YtjjbhkaigfggdaaDoorW.PrintMore

theorem refSum_bits (s : ByteArray) (i : Nat) (hi : i ≤ 1000) (d : Nat) : ∀ (j x k : Nat), j + d = 8 → d < k → x < 4294967296 →
    clearwayref01_Sum.l1 k s (x : Int) (i : Int) (j : Int) = clearwayref01_Sum.l0 (k - d - 1) s ((An d x : Nat) : Int) ((i + 1 : Nat) : Int) := by
  induction d with
  | zero =>
    intro j x k hj hk hx
    obtain ⟨k, rfl⟩ : ∃ m, k = m + 1 := ⟨k - 1, by omega⟩
    simp only [clearwayref01_Sum.l1]
    rw [if_neg (by omega), w64_one i (by omega)]
    rfl
  | succ d ih =>
    intro j x k hj hk hx
    obtain ⟨k, rfl⟩ : ∃ m, k = m + 1 := ⟨k - 1, by omega⟩
    have h8 : (j : Int) < 8 := by omega
    have e1 : Int.tmod (x : Int) 2 = ((x % 2 : Nat) : Int) := by rw [Int.tmod_eq_emod_of_nonneg (by omega)]; omega
    have e2 : Int.tdiv (x : Int) 2 % 4294967296 = ((x / 2 : Nat) : Int) := by rw [Int.tdiv_eq_ediv_of_nonneg (by omega)]; omega
    simp only [clearwayref01_Sum.l1]
    rw [if_pos h8, e1, e2, w64_one j (by omega)]
    have hA : A x < 4294967296 := A_lt hx
    have hk' : k + 1 - (d + 1) - 1 = k - d - 1 := by omega
    by_cases ho : x % 2 = 1
    · rw [if_pos (by omega), show (2197175160 : Int) = ((2197175160 : Nat) : Int) from rfl, (Bits.u32 (x / 2) 2197175160 (by omega) (by decide)).2.2]
      have : x / 2 ^^^ 2197175160 = A x := by unfold A; rw [if_pos ho]; rfl
      rw [this, ih (j + 1) (A x) k (by omega) (by omega) hA, hk']
      rfl
    · rw [if_neg (by omega)]
      have : x / 2 = A x := by unfold A; rw [if_neg ho, Nat.xor_zero]
      rw [this, ih (j + 1) (A x) k (by omega) (by omega) hA, hk']
      rfl
theorem refSum_loop (s : ByteArray) (hs : s.size ≤ 300) (d : Nat) : ∀ (i x k : Nat), i + d = s.size → 11 * d < k → x < 4294967296 →
    clearwayref01_Sum.l0 k s (x : Int) (i : Int) = some (4294967295 - ((reg x ((nl s).drop i) : Nat) : Int)) := by
  induction d with
  | zero =>
    intro i x k hi hk hx
    obtain ⟨k, rfl⟩ : ∃ m, k = m + 1 := ⟨k - 1, by omega⟩
    simp only [clearwayref01_Sum.l0]
    rw [if_neg (by omega), List.drop_eq_nil_of_le (by rw [nl_length]; omega)]
    show some (wrap64 (Go.bits .xor .u32 4294967295 (x : Int))) = _
    rw [Bits.u32_not (x : Int) (by omega) (by omega), w64 (by omega) (by omega)]
    rfl
  | succ d ih =>
    intro i x k hi hk hx
    obtain ⟨k, rfl⟩ : ∃ m, k = m + 1 := ⟨k - 1, by omega⟩
    have hlt : i < s.size := by omega
    obtain ⟨b, hb, hb2, hb3⟩ := bt_nl s i hlt
    have hd : (nl s).drop i = b :: (nl s).drop (i + 1) := by
      rw [List.drop_eq_getElem_cons (by rw [nl_length]; exact hlt)]
      congr 1
      have := List.getElem?_eq_getElem (l := nl s) (i := i) (by rw [nl_length]; exact hlt)
      rw [hb3] at this
      exact (Option.some.inj this).symm
    simp only [clearwayref01_Sum.l0]
    rw [if_pos (by omega), if_pos (by omega), hb, show ((b : Int) % 4294967296) = (b : Int) by omega, (Bits.u32 x b hx (by omega)).2.2]
    have h := refSum_bits s i (by omega) 8 0 (x ^^^ b) k (by omega) (by omega) (Bits.xor_lt32 hx (by omega))
    show clearwayref01_Sum.l1 k s ((x ^^^ b : Nat) : Int) (i : Int) ((0 : Nat) : Int) = _
    rw [h, ih (i + 1) _ (k - 8 - 1) (by omega) (by omega) (An_lt 8 _ (Bits.xor_lt32 hx (by omega))), hd]
    rfl
theorem refSum_eq (s : ByteArray) (hs : s.size ≤ 300) (k : Nat) (hk : 4000 ≤ k) : clearwayref01_Sum.f k s = wire_Sum.f s := by
  rw [sum_some s (by omega)]
  have := refSum_loop s hs s.size 0 4294967295 k (by omega) (by omega) (by decide)
  unfold clearwayref01_Sum.f
  exact this

theorem round1 (k : Nat) (x2 : Int) (s : ByteArray) (ys : List Int) (i : Nat) (hi : i < ys.length) (hy : ys.length ≤ 10) (hk : 20 ≤ k) :
    clearwaylaw01_WireMatchesReference.l0 (k + 1) x2 true s ys (ys.length : Int) (i : Int) = clearwaylaw01_WireMatchesReference.l0 k x2 true s ys (ys.length : Int) ((i + 1 : Nat) : Int) := by
  have f1 : (i : Int) < (ys.length : Int) := by omega
  have f2 : (0 : Int) ≤ (i : Int) := by omega
  have f3 : i ≤ 9223372036854775806 := by omega
  have f4 : 11 ≤ k := by omega
  conv => lhs; simp only [clearwaylaw01_WireMatchesReference.l0]
  rw [if_pos f1, if_pos f2, if_pos f1, put_same _ k f4, w64_one i f3]
  by_cases h : -maxInt ≤ rd ys i ∧ rd ys i ≤ maxInt
  · obtain ⟨t, ht, _⟩ := putInt_in h.1 h.2
    rw [ht]
    simp only [Option.bind_some, if_true]
  · rw [putInt_out (by omega)]
    simp only [Option.bind_some, if_true]
theorem round2 (k : Nat) (s : ByteArray) (ys : List Int) (i : Nat) (hs : s.size ≤ 300) (hi : i < ys.length) (hy : ys.length ≤ 10) (hk : 60 ≤ k) :
    clearwaylaw01_WireMatchesReference.l1 (k + 1) true s ys (ys.length : Int) (i : Int) = clearwaylaw01_WireMatchesReference.l1 k true s ys (ys.length : Int) ((i + 1 : Nat) : Int) := by
  have f1 : (i : Int) < (ys.length : Int) := by omega
  have f2 : (0 : Int) ≤ (i : Int) := by omega
  have f3 : i ≤ 9223372036854775806 := by omega
  have f4 : 45 ≤ k := by omega
  have f5 : s.size ≤ 4611686018427387904 := by omega
  have f6 : 11 ≤ k := by omega
  have ex : ∃ r q, wire_Int.f k s (rd ys i) = some r ∧ wire_String.f k s (rd ys i) = some q := by
    by_cases h : rd ys i < 0 ∨ (s.size : Int) < rd ys i
    · exact ⟨_, _, int_arg s _ k h f6, string_arg s _ k h f6⟩
    · obtain ⟨a, ha⟩ := Int.eq_ofNat_of_zero_le (show 0 ≤ rd ys i by omega)
      rw [ha] at h ⊢
      exact ⟨_, _, int_eq s a k f5 (by omega) f6, string_eq s a k f5 (by omega) f6⟩
  obtain ⟨r, q, hr, hq⟩ := ex
  conv => lhs; simp only [clearwaylaw01_WireMatchesReference.l1]
  rw [if_pos f1, if_pos f2, if_pos f1, int_same s _ k f5 f4, string_same s _ k f5 f4, hr, hq, w64_one i f3]
  simp only [Option.bind_some, if_true]
theorem matchesReference : clearwaylaw01_WireMatchesReference.Pure := by
  intro a0 a1 a2 w0 w1 w2
  refine ⟨5000, ?_⟩
  obtain ⟨c0, c1, c2⟩ := cut_size a1 300 (by decide)
  obtain ⟨m, hm⟩ := Int.eq_ofNat_of_zero_le c0
  obtain ⟨s, hsd⟩ : ∃ s, a1.extract 0 m = s := ⟨_, rfl⟩
  have hs : s.size ≤ 300 := by rw [← hsd, ByteArray.size_extract]; omega
  obtain ⟨n, hn, n0, n1⟩ := number_in w0
  obtain ⟨b0, b1⟩ := wf_bd w2
  obtain ⟨p, hp, p0, p1⟩ := pick_in (b := (s.size : Int) + 2) b0 b1 (by omega)
  unfold clearwaylaw01_WireMatchesReference.f
  rw [show clearwaylaw01_sane.f = some true from rfl]
  simp only [Option.bind_some]
  rw [if_pos c0, if_pos c1, hm, hn]
  simp only [Option.bind_some]
  show clearwaylaw01_WireMatchesReference.l0 5000 a2 true (a1.extract 0 m) [a0, n] (([a0, n] : List Int).length : Int) ((0 : Nat) : Int) = _
  rw [hsd, round1 4999 a2 s [a0, n] 0 (by simp) (by simp) (by decide), round1 4998 a2 s [a0, n] 1 (by simp) (by simp) (by decide)]
  rw [show (4998 : Nat) = 4997 + 1 from rfl, clearwaylaw01_WireMatchesReference.l0]
  rw [if_neg (by simp), w64 (n := (s.size : Int) + 2) (by omega) (by omega), hp]
  simp only [Option.bind_some]
  show clearwaylaw01_WireMatchesReference.l1 4997 true s [a2, p] (([a2, p] : List Int).length : Int) ((0 : Nat) : Int) = _
  rw [round2 4996 s [a2, p] 0 hs (by simp) (by simp) (by decide), round2 4995 s [a2, p] 1 hs (by simp) (by simp) (by decide)]
  rw [show (4995 : Nat) = 4994 + 1 from rfl, clearwaylaw01_WireMatchesReference.l1]
  obtain ⟨r, hr, _⟩ := putString_in (s := s) (by omega)
  rw [if_neg (by simp), putString_same s _ (by decide), hr, refSum_eq s hs _ (by decide), sum_some s (by omega)]
  simp
end Go.Proofs.YtjjbhkaigfggdaaDoor.WPure
