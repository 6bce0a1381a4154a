/- WireSequence's plain statement: a concatenation of encodings is decoded into the same values, and ends exactly at its end; and the walk of the law, out of it.
   No condition beyond the arguments' own (integers of their kind). -/
import Derived.Test.YtjjbhkaigfggdaaDoorWNum
import Derived.Test.YtjjbhkaigfggdaaDoorWSane
import Derived.Test.YtjjbhkaigfggdaaDoorOpen
import Derived.Test.YtjjbhkaigfggdaaDoorPr4
set_option linter.unusedVariables false
set_option linter.unusedSimpArgs false
namespace Go.Proofs.YtjjbhkaigfggdaaDoor.WPure
open Go Go.RowKit Go.Proofs.YtjjbhkaigfggdaaDoor.Wire Go.Proofs.YtjjbhkaigfggdaaDoor.Pr Go.Proofs.YtjjbhkaigfggdaaDoor.Code Go.Proofs.YtjjbhkaigfggdaaDoorW.PrintWords Go.Proofs.YtjjbhkaigfggdaaDoorW.PrintLast Go.Proofs.YtjjbhkaigfggdaaDoorW.PrintMore

section
variable (l0 : List Int) (l1 : List ByteArray)
def V (i : Nat) : Int := (clearwaylaw01_NumberFrom.f (rd l0 i)).getD 0
def cutAt (s : ByteArray) : ByteArray := s.extract 0 ((mn (s.size : Int) 100) : Int).toNat
def Tx (i : Nat) : ByteArray := cutAt (rdOf ByteArray.empty l1 i)
def E (i : Nat) : List Nat := enc (V l0 i) ++ (enc ((Tx l1 i).size : Int) ++ nl (Tx l1 i))
def SS (i : Nat) : List Nat := (List.range i).flatMap (E l0 l1)
end
theorem SS_succ (l0 : List Int) (l1 : List ByteArray) (i : Nat) : SS l0 l1 (i + 1) = SS l0 l1 i ++ E l0 l1 i := by
  unfold SS; rw [List.range_succ, List.flatMap_append]; simp
theorem SS_split (l0 : List Int) (l1 : List ByteArray) (i d : Nat) : ∃ R, SS l0 l1 (i + d) = SS l0 l1 i ++ R := by
  induction d with
  | zero => exact ⟨[], by simp⟩
  | succ d ih =>
    obtain ⟨R, hR⟩ := ih
    exact ⟨R ++ E l0 l1 (i + d), by rw [← Nat.add_assoc, SS_succ, hR, List.append_assoc]⟩
theorem cut_le (s : ByteArray) : (cutAt s).size ≤ 100 := by
  obtain ⟨c0, c1, c2⟩ := cut_size s 100 (by decide)
  unfold cutAt; rw [ByteArray.size_extract]; omega
theorem V_in {l0 : List Int} (h : ∀ x ∈ l0, (Lit.int .i64 x).wf = true) (i : Nat) (hi : i < l0.length) : clearwaylaw01_NumberFrom.f (rd l0 i) = some (V l0 i) ∧ -maxInt ≤ V l0 i ∧ V l0 i ≤ maxInt := by
  have hm : rd l0 (i : Int) ∈ l0 := by
    unfold rd; simp only [Int.toNat_natCast, List.getD_eq_getElem?_getD, List.getElem?_eq_getElem hi, Option.getD_some]; exact List.getElem_mem hi
  obtain ⟨n, hn, h0, h1⟩ := number_in (h _ hm)
  unfold V
  rw [hn]
  exact ⟨rfl, h0, h1⟩
theorem E_len {l0 : List Int} (h : ∀ x ∈ l0, (Lit.int .i64 x).wf = true) (l1 : List ByteArray) (i : Nat) (hi : i < l0.length) : (E l0 l1 i).length ≤ 118 := by
  obtain ⟨_, h0, h1⟩ := V_in h i hi
  have hc := cut_le (rdOf ByteArray.empty l1 i)
  have a := enc_len h0 h1
  have b := enc_len (n := ((Tx l1 i).size : Int)) (by unfold maxInt; omega) (by unfold maxInt Tx; omega)
  unfold E
  rw [List.length_append, List.length_append, nl_length]
  unfold Tx at *
  omega
theorem SS_len {l0 : List Int} (h : ∀ x ∈ l0, (Lit.int .i64 x).wf = true) (l1 : List ByteArray) (i : Nat) : i ≤ l0.length → (SS l0 l1 i).length ≤ 118 * i := by
  induction i with
  | zero => intro _; simp [SS]
  | succ i ih =>
    intro hi
    have := ih (by omega)
    have := E_len h l1 i (by omega)
    rw [SS_succ, List.length_append]
    omega

/-- The first loop: it writes all pieces. -/
theorem write_all {l0 : List Int} (h : ∀ x ∈ l0, (Lit.int .i64 x).wf = true) (l1 : List ByteArray) (n : Nat) (hn0 : n ≤ l0.length) (hn1 : n ≤ l1.length) (hn : n ≤ 20) (d : Nat) :
    ∀ (i k : Nat) (s : ByteArray), i + d = n → d < k → nl s = SS l0 l1 i → ∃ S, nl S = SS l0 l1 n ∧ clearwaylaw01_WireSequence.l0 k l0 l1 true (n : Int) s (i : Int) = clearwaylaw01_WireSequence.l1 (k - d - 1) l0 l1 true (n : Int) S 0 0 := by
  induction d with
  | zero =>
    intro i k s hi hk hs
    obtain ⟨k, rfl⟩ : ∃ m, k = m + 1 := ⟨k - 1, by omega⟩
    refine ⟨s, by rw [hs]; congr 1, ?_⟩
    simp only [clearwaylaw01_WireSequence.l0]
    rw [if_neg (show ¬ (i : Int) < (n : Int) by omega)]
    rfl
  | succ d ih =>
    intro i k s hi hk hs
    obtain ⟨k, rfl⟩ : ∃ m, k = m + 1 := ⟨k - 1, by omega⟩
    obtain ⟨hv, v0, v1⟩ := V_in h i (by omega)
    obtain ⟨a, ha, ea⟩ := putInt_in v0 v1
    have hc := cut_le (rdOf ByteArray.empty l1 i)
    obtain ⟨c0, c1, c2⟩ := cut_size (rdOf ByteArray.empty l1 i) 100 (by decide)
    obtain ⟨b, hb, eb⟩ := putString_in (s := Tx l1 i) (by unfold Tx; omega)
    have hsl : s.size ≤ 118 * i := by rw [← nl_length, hs]; exact SS_len h l1 i (by omega)
    have hal : a.size ≤ 9 := by rw [← nl_length, ea]; exact enc_len v0 v1
    have hbl : b.size ≤ 109 := by
      rw [← nl_length, eb, List.length_append, nl_length]
      have := enc_len (n := ((Tx l1 i).size : Int)) (by unfold maxInt; omega) (by unfold maxInt Tx; omega)
      unfold Tx at *
      omega
    have hi9 : i ≤ 9223372036854775806 := by omega
    obtain ⟨S, hS, hl⟩ := ih (i + 1) k (s ++ a ++ b) (by omega) (by omega) (by rw [nl_append, nl_append, hs, ea, eb, SS_succ]; unfold E; rw [List.append_assoc])
    refine ⟨S, hS, ?_⟩
    rw [show k + 1 - (d + 1) - 1 = k - d - 1 by omega, ← hl]
    simp only [clearwaylaw01_WireSequence.l0]
    rw [if_pos (show (i : Int) < (n : Int) by omega), if_pos (show (0 : Int) ≤ (i : Int) by omega), if_pos (show (i : Int) < (l0.length : Int) by omega), hv]
    simp only [Option.bind_some]
    rw [ha]
    simp only [Option.bind_some]
    rw [if_pos (show (i : Int) < (l1.length : Int) by omega), if_pos c0, if_pos c1]
    show ((wire_PutString.f (Tx l1 i)).bind _) = _
    rw [hb]
    simp only [Option.bind_some]
    rw [if_pos trivial, if_pos trivial, if_pos (show s.size + a.size ≤ 9223372036854775807 by omega), if_pos (show (s ++ a).size + b.size ≤ 9223372036854775807 by rw [ByteArray.size_append]; omega), w64_one i hi9]

/-- The second loop: it reads all pieces. -/
theorem read_all {l0 : List Int} (h : ∀ x ∈ l0, (Lit.int .i64 x).wf = true) (l1 : List ByteArray) (n : Nat) (hn0 : n ≤ l0.length) (hn1 : n ≤ l1.length) (hn : n ≤ 20) (S : ByteArray) (hS : nl S = SS l0 l1 n) (d : Nat) :
    ∀ (i k at_ : Nat), i + d = n → d + 20 < k → at_ = (SS l0 l1 i).length → clearwaylaw01_WireSequence.l1 k l0 l1 true (n : Int) S (at_ : Int) (i : Int) = some true := by
  have hSl : S.size ≤ 118 * n := by rw [← nl_length, hS]; exact SS_len h l1 n hn0
  have hSn : S.size = (SS l0 l1 n).length := by rw [← nl_length, hS]
  induction d with
  | zero =>
    intro i k at_ hi hk ha
    obtain ⟨k, rfl⟩ : ∃ m, k = m + 1 := ⟨k - 1, by omega⟩
    obtain rfl : i = n := by omega
    simp only [clearwaylaw01_WireSequence.l1]
    rw [if_neg (show ¬ (i : Int) < (i : Int) by omega), int_eq S at_ k (by omega) (by omega) (by omega), List.drop_eq_nil_of_le (by rw [nl_length]; omega)]
    simp only [Option.bind_some]
    rw [show dec [] = none from rfl, show resI at_ none = (0, 0, 10) from rfl, if_pos trivial, if_pos (by omega)]
    rfl
  | succ d ih =>
    intro i k at_ hi hk ha
    obtain ⟨k, rfl⟩ : ∃ m, k = m + 1 := ⟨k - 1, by omega⟩
    obtain ⟨hv, v0, v1⟩ := V_in h i (by omega)
    have hc := cut_le (rdOf ByteArray.empty l1 i)
    obtain ⟨c0, c1, c2⟩ := cut_size (rdOf ByteArray.empty l1 i) 100 (by decide)
    obtain ⟨R, hR⟩ := SS_split l0 l1 (i + 1) d
    rw [show i + 1 + d = n by omega, SS_succ] at hR
    have hi9 : i ≤ 9223372036854775806 := by omega
    have hlen : S.size = at_ + (E l0 l1 i).length + R.length := by rw [hSn, hR, List.length_append, List.length_append, ha]
    have hE : (E l0 l1 i).length = (enc (V l0 i)).length + ((enc ((Tx l1 i).size : Int)).length + (Tx l1 i).size) := by unfold E; rw [List.length_append, List.length_append, nl_length]
    have d1 : (nl S).drop at_ = enc (V l0 i) ++ (enc ((Tx l1 i).size : Int) ++ nl (Tx l1 i) ++ R) := by
      rw [hS, hR, ha, List.append_assoc, List.drop_left]
      unfold E
      simp only [List.append_assoc]
    have d2 : (nl S).drop (at_ + (enc (V l0 i)).length) = enc ((Tx l1 i).size : Int) ++ (nl (Tx l1 i) ++ R) := by
      rw [← List.drop_drop, d1, List.drop_left, List.append_assoc]
    have t0 : -maxInt ≤ ((Tx l1 i).size : Int) := by unfold maxInt; omega
    have t1 : ((Tx l1 i).size : Int) ≤ maxInt := by unfold maxInt Tx; omega
    have hx : (Tx l1 i).size ≤ 100 := hc
    have hcond : 0 ≤ ((Tx l1 i).size : Int) ∧ ((Tx l1 i).size : Int) ≤ 65536 ∧ ((Tx l1 i).size : Int) ≤ (S.size : Int) - (at_ + (enc (V l0 i)).length + (enc ((Tx l1 i).size : Int)).length : Nat) := by
      refine ⟨by omega, by omega, by omega⟩
    have hq : at_ + (enc (V l0 i)).length + (enc ((Tx l1 i).size : Int)).length + (Tx l1 i).size = at_ + (E l0 l1 i).length := by omega
    have er : resS S (at_ + (enc (V l0 i)).length) (some (((Tx l1 i).size : Int), (enc ((Tx l1 i).size : Int)).length)) =
        (S.extract (at_ + (enc (V l0 i)).length + (enc ((Tx l1 i).size : Int)).length) (at_ + (enc (V l0 i)).length + (enc ((Tx l1 i).size : Int)).length + (Tx l1 i).size), ((at_ + (E l0 l1 i).length : Nat) : Int), 0) := by
      unfold resS
      dsimp only
      rw [if_pos hcond, Int.toNat_natCast, ← hq]
    have ex : S.extract (at_ + (enc (V l0 i)).length + (enc ((Tx l1 i).size : Int)).length) (at_ + (enc (V l0 i)).length + (enc ((Tx l1 i).size : Int)).length + (Tx l1 i).size) = Tx l1 i := by
      apply nl_inj
      rw [nl_extract, List.drop_take, ← List.drop_drop, d2, List.drop_left]
      rw [show at_ + (enc (V l0 i)).length + (enc ((Tx l1 i).size : Int)).length + (Tx l1 i).size - (at_ + (enc (V l0 i)).length + (enc ((Tx l1 i).size : Int)).length) = (nl (Tx l1 i)).length by rw [nl_length]; omega, List.take_left]
    have hnext := ih (i + 1) k (at_ + (E l0 l1 i).length) (by omega) (by omega) (by rw [SS_succ, List.length_append, ha])
    have f1 : (i : Int) < (n : Int) := by omega
    have f2 : (0 : Int) ≤ (i : Int) := by omega
    have f3 : (i : Int) < (l0.length : Int) := by omega
    have f4 : (i : Int) < (l1.length : Int) := by omega
    have f5 : S.size ≤ 4611686018427387904 := by omega
    have f6 : at_ ≤ S.size := by omega
    have f7 : at_ + (enc (V l0 i)).length ≤ S.size := by omega
    have f8 : 11 ≤ k := by omega
    have ei := int_eq S at_ k f5 f6 f8
    rw [d1, dec_enc v0 v1] at ei
    have es := string_eq S (at_ + (enc (V l0 i)).length) k f5 f7 f8
    rw [d2, dec_enc t0 t1, er, ex] at es
    simp only [clearwaylaw01_WireSequence.l1]
    rw [if_pos f1, ei]
    simp only [Option.bind_some]
    rw [show resI at_ (some (V l0 i, (enc (V l0 i)).length)) = (V l0 i, ((at_ + (enc (V l0 i)).length : Nat) : Int), 0) from rfl]
    dsimp only
    rw [es]
    simp only [Option.bind_some]
    rw [if_pos trivial, if_pos trivial, if_pos f2, if_pos f3, hv]
    simp only [Option.bind_some]
    rw [if_pos trivial, if_pos f4, if_pos c0, if_pos c1, if_pos, w64_one i hi9]
    · exact hnext
    · rfl

theorem sequence (l0 : List Int) (l1 : List ByteArray) (h : ∀ x ∈ l0, (Lit.int .i64 x).wf = true) : ∃ k, clearwaylaw01_WireSequence.f k l0 l1 = some true := by
  refine ⟨100, ?_⟩
  obtain ⟨n, hn⟩ : ∃ n : Nat, mn (mn (l0.length : Int) (l1.length : Int)) 20 = n ∧ n ≤ l0.length ∧ n ≤ l1.length ∧ n ≤ 20 := by
    refine ⟨min (min l0.length l1.length) 20, ?_, by omega, by omega, by omega⟩
    unfold mn; repeat' split
    all_goals omega
  obtain ⟨hn, g0, g1, g2⟩ := hn
  obtain ⟨S, hS, hl⟩ := write_all h l1 n g0 g1 g2 n 0 100 ⟨#[]⟩ (by omega) (by omega) rfl
  unfold clearwaylaw01_WireSequence.f
  rw [show clearwaylaw01_sane.f = some true from rfl]
  simp only [Option.bind_some]
  rw [hn]
  show clearwaylaw01_WireSequence.l0 100 l0 l1 true (n : Int) ⟨#[]⟩ ((0 : Nat) : Int) = _
  rw [hl]
  exact read_all h l1 n g0 g1 g2 S hS n 0 (100 - n - 1) 0 (by omega) (by omega) rfl

theorem sequence_walk (A0 : Option Addr) (len0 cap0 : Nat) (z0 : List Int) (A1 : Option Addr) (len1 cap1 : Nat) (z1 : List ByteArray) (w : World)
    (w0 : z0.length = len0 ∧ len0 ≤ cap0 ∧ cap0 ≤ maxLen ∧ Kd.C (Kd.int .i64) w A0 len0 z0 ∧ ∀ x ∈ z0, (Lit.int .i64 x).wf = true)
    (w1 : z1.length = len1 ∧ len1 ≤ cap1 ∧ cap1 ≤ maxLen ∧ Kd.C Kd.string w A1 len1 z1 ∧ ∀ x ∈ z1, x.size ≤ maxLen) (hG_ : Amb w) :
    Calls Tryd.prog 6 #[.slice A0 len0 cap0, .slice A1 len1 cap1] w fun e w' => e = .returned (.bool true) ∧ Below w.heap.size w w' := by
  obtain ⟨rfl, c0, _, r0, f0⟩ := w0
  obtain ⟨rfl, c1, _, r1, f1⟩ := w1
  obtain ⟨k, hk⟩ := sequence z0 z1 f0
  exact clearwaylaw01_WireSequence.calls k A0 cap0 z0 A1 cap1 z1 true w r0 c0 r1 c1 hG_ hk
end Go.Proofs.YtjjbhkaigfggdaaDoor.WPure
