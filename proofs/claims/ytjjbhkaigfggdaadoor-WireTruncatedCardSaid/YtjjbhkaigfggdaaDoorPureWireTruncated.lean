/- WireTruncated's plain statement: no proper begin of an encoding is accepted, and encodings of different integers are no begins of each other. No condition. -/
import Derived.Test.YtjjbhkaigfggdaaDoorWNum
import Derived.Test.YtjjbhkaigfggdaaDoorWSane
import Derived.Test.YtjjbhkaigfggdaaDoorPr5
set_option linter.unusedVariables false
set_option linter.unusedSimpArgs false
namespace Go.Proofs.YtjjbhkaigfggdaaDoor.WPure
open Go Go.RowKit Go.Proofs.YtjjbhkaigfggdaaDoor.Wire Go.Proofs.YtjjbhkaigfggdaaDoor.Pr Go.Proofs.YtjjbhkaigfggdaaDoor.Code Go.Proofs.YtjjbhkaigfggdaaDoorW.PrintWords Go.Proofs.YtjjbhkaigfggdaaDoorW.PrintLast Go.Proofs.YtjjbhkaigfggdaaDoorW.PrintMore

theorem take_nl {s : ByteArray} (k : Nat) : nl (s.extract 0 k) = (nl s).take k := by rw [nl_extract]; simp
/-- A cut string of an encoding's begin is none. -/
theorem dec_cutS {t : List Nat} (m : Nat) (hm : t.length = m) (hm2 : m ≤ 65536) (k : Nat) (hk : k < (enc m ++ t).length) (s : ByteArray) (hs : nl s = (enc m ++ t).take k) :
    resS s 0 (dec ((nl s).drop 0)) = (⟨#[]⟩, 0, 10) := by
  have b0 : -maxInt ≤ (m : Int) := by unfold maxInt; omega
  have b1 : (m : Int) ≤ maxInt := by unfold maxInt; omega
  rw [List.drop_zero, hs]
  by_cases h : k < (enc m).length
  · rw [List.take_append_of_le_length (by omega), dec_cut b0 b1 k h]
    rfl
  · rw [List.take_append, List.take_of_length_le (by omega), dec_enc b0 b1]
    unfold resS
    dsimp only
    have hl : s.size = (enc m).length + (k - (enc m).length) := by
      rw [← nl_length, hs]
      rw [List.length_take]
      rw [List.length_append] at hk ⊢
      omega
    rw [List.length_append] at hk
    rw [if_neg]
    rintro ⟨h0, h1, h2⟩
    rw [hl] at h2
    omega

theorem truncated : clearwaylaw01_WireTruncated.Pure := by
  intro a0 a1 a2 a3 w0 w1 w2 w3
  refine ⟨20, ?_⟩
  obtain ⟨n0, hn0, p0, q0⟩ := number_in w0
  obtain ⟨n1, hn1, p1, q1⟩ := number_in w1
  obtain ⟨s0, hs0, e0⟩ := putInt_in p0 q0
  obtain ⟨s1, hs1, e1⟩ := putInt_in p1 q1
  obtain ⟨c0, c1, c2⟩ := cut_size a2 200 (by decide)
  obtain ⟨m, hm⟩ := Int.eq_ofNat_of_zero_le c0
  have hc2 : (a2.extract 0 m).size = m := by rw [ByteArray.size_extract]; omega
  obtain ⟨r, hr, er⟩ := putString_in (s := a2.extract 0 m) (by omega)
  have l0 : s0.size = (enc n0).length := by rw [← nl_length, e0]
  have l1 : s1.size = (enc n1).length := by rw [← nl_length, e1]
  have lr : r.size = (enc m).length + m := by rw [← nl_length, er, List.length_append, nl_length, hc2]
  have g0 := enc_pos n0
  have g1 := enc_pos m
  have h9 := enc_len p0 q0
  have h9m := enc_len (n := (m : Int)) (by unfold maxInt; omega) (by unfold maxInt; omega)
  obtain ⟨b0, b1⟩ := wf_bd w3
  obtain ⟨x, hx, x0, x1⟩ := pick_in (b := (s0.size : Int)) b0 b1 (by omega)
  obtain ⟨y, hy, y0, y1⟩ := pick_in (b := (r.size : Int)) b0 b1 (by omega)
  obtain ⟨x, rfl⟩ := Int.eq_ofNat_of_zero_le x0
  obtain ⟨y, rfl⟩ := Int.eq_ofNat_of_zero_le y0
  have ex : wire_Int.f 19 (s0.extract 0 x) 0 = some (0, 0, 10) := by
    have h := int_eq (s0.extract 0 x) 0 19 (by rw [ByteArray.size_extract]; omega) (Nat.zero_le _) (by decide)
    rw [List.drop_zero, take_nl, e0, dec_cut p0 q0 x (by omega)] at h
    exact h
  have ey : wire_String.f 19 (r.extract 0 y) 0 = some (⟨#[]⟩, 0, 10) := by
    have ey := string_eq (r.extract 0 y) 0 19 (by rw [ByteArray.size_extract]; omega) (Nat.zero_le _) (by decide)
    rw [dec_cutS (t := nl (a2.extract 0 m)) m (by rw [nl_length, hc2]) (by omega) y (by rw [List.length_append, nl_length, hc2]; omega) (r.extract 0 y) (by rw [take_nl, er, hc2])] at ey
    exact ey
  unfold clearwaylaw01_WireTruncated.f
  rw [show clearwaylaw01_sane.f = some true from rfl, hn0, hn1]
  simp only [Option.bind_some]
  rw [hs0, hs1]
  simp only [Option.bind_some]
  rw [if_pos c0, if_pos c1, hm]
  have t0 : ¬ (s0.size : Int) = 0 := by omega
  have t1 : ((r.size : Int) == 0) = false := beq_eq_false_iff_ne.mpr (by omega)
  show ((wire_PutString.f (a2.extract 0 m)).bind _) = _
  rw [hr]
  simp only [Option.bind_some]
  rw [if_pos trivial, if_pos trivial, if_pos trivial, if_neg t0, t1]
  simp only [clearwaylaw01_WireTruncated.j0]
  rw [if_neg (by decide), hx]
  simp only [Option.bind_some]
  rw [if_pos x0, if_pos (show (x : Int) ≤ (s0.size : Int) by omega), show ((x : Int)).toNat = x from rfl]
  rw [ex, hy]
  simp only [Option.bind_some]
  rw [if_pos y0, if_pos (show (y : Int) ≤ (r.size : Int) by omega), show ((y : Int)).toNat = y from rfl, ey]
  simp only [Option.bind_some]
  rw [hn0, hn1]
  simp only [Option.bind_some]
  by_cases hle : (s0.size : Int) ≤ (s1.size : Int)
  · rw [if_pos hle, if_pos (show (0 : Int) ≤ (s0.size : Int) by omega)]
    simp only [if_true]
    congr 1
    rw [beq_iff_eq, Bool.eq_iff_iff, beq_iff_eq, beq_iff_eq]
    have e3 : nl (s1.extract 0 s0.size) = (enc n1).take (enc n0).length := by rw [take_nl, e1, l0]
    constructor
    · intro h
      have h2 := nl_toList.1 h
      have h3 : (enc n1).take (enc n0).length = enc n0 := by rw [← e3, ← e0]; exact congrArg nl h2
      have h4 : enc n0 ++ (enc n1).drop (enc n0).length = enc n1 := by
        have := List.take_append_drop (enc n0).length (enc n1)
        rw [h3] at this
        exact this
      exact enc_prefix p0 q0 p1 q1 _ h4
    · intro h
      subst h
      refine nl_toList.2 (nl_inj ?_)
      show nl (s1.extract 0 s0.size) = nl s0
      rw [e3, e0, List.take_length]
  · rw [if_neg hle]
    simp only [if_true]
    congr 1
    have : n0 ≠ n1 := by rintro rfl; omega
    simp [this]
end Go.Proofs.YtjjbhkaigfggdaaDoor.WPure
