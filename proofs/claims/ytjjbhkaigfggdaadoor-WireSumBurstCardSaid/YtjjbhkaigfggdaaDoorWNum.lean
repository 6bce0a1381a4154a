/- The numbers that a law of layer 1 draws: pick and NumberFrom stay within their bounds. No condition. -/
import Derived.Test.YtjjbhkaigfggdaaDoorWPure
set_option linter.unusedVariables false
set_option linter.unusedSimpArgs false
namespace Go.Proofs.YtjjbhkaigfggdaaDoor.WPure
open Go Go.RowKit Go.Proofs.YtjjbhkaigfggdaaDoor.Wire Go.Proofs.YtjjbhkaigfggdaaDoor.Pr Go.Proofs.YtjjbhkaigfggdaaDoor.Code Go.Proofs.YtjjbhkaigfggdaaDoorW.PrintWords Go.Proofs.YtjjbhkaigfggdaaDoorW.PrintLast Go.Proofs.YtjjbhkaigfggdaaDoorW.PrintMore
theorem wf_bd {n : Int} (h : (Lit.int .i64 n).wf = true) : -9223372036854775808 ≤ n ∧ n ≤ 9223372036854775807 := by
  simp [Lit.wf] at h
  exact ⟨h.1, h.2⟩
theorem tmod_nonneg (a b : Int) (h0 : 0 ≤ a) (h1 : 0 < b) : 0 ≤ Int.tmod a b ∧ Int.tmod a b < b := by
  rw [Int.tmod_eq_emod_of_nonneg h0]
  exact ⟨Int.emod_nonneg _ (by omega), Int.emod_lt_of_pos _ h1⟩
theorem pick_in {a b : Int} (ha : -9223372036854775808 ≤ a) (ha1 : a ≤ 9223372036854775807) (hb : 0 < b) : ∃ p, clearwaylaw01_pick.f a b = some p ∧ 0 ≤ p ∧ p < b := by
  unfold clearwaylaw01_pick.f
  by_cases h : a < 0
  · rw [if_pos h, if_neg (by omega)]
    have e1 : wrap64 (a + 1) = a + 1 := w64 (by omega) (by omega)
    rw [e1, w64 (n := -(a + 1)) (by omega) (by omega)]
    exact ⟨_, rfl, tmod_nonneg _ _ (by omega) hb⟩
  · rw [if_neg h, if_neg (by omega)]
    exact ⟨_, rfl, tmod_nonneg _ _ (by omega) hb⟩
def sizes : List Int := [64, 128, 8192, 16384, 1073741824, 36028797018963968, 576460752303423488, 2]
theorem sizes_rd (i : Int) (h0 : 0 ≤ i) (h1 : i < 8) : 0 < rd sizes i ∧ rd sizes i ≤ 576460752303423488 := by
  obtain ⟨j, rfl⟩ := Int.eq_ofNat_of_zero_le h0
  have hj : j < 8 := by omega
  have : ∀ j : Fin 8, 0 < rd sizes (j.1 : Int) ∧ rd sizes (j.1 : Int) ≤ 576460752303423488 := by decide
  exact this ⟨j, hj⟩
theorem number_in {a : Int} (h : (Lit.int .i64 a).wf = true) : ∃ n, clearwaylaw01_NumberFrom.f a = some n ∧ -maxInt ≤ n ∧ n ≤ maxInt := by
  obtain ⟨h0, h1⟩ := wf_bd h
  unfold clearwaylaw01_NumberFrom.f
  obtain ⟨p, hp, p0, p1⟩ := pick_in h0 h1 (show (0 : Int) < 4611686018427387904 by decide)
  obtain ⟨q, hq, q0, q1⟩ := pick_in h0 h1 (show (0 : Int) < 8 by decide)
  obtain ⟨r, hr, r0, r1⟩ := pick_in h0 h1 (show (0 : Int) < 16 by decide)
  rw [hp, hq, hr]
  simp only [Option.bind_some]
  rw [if_pos q0, if_pos (by simpa using q1)]
  obtain ⟨s0, s1⟩ := sizes_rd q q0 q1
  have e8 : wrap64 (Int.tdiv p 8) = p / 8 := by rw [Int.tdiv_eq_ediv_of_nonneg p0, w64 (by omega) (by omega)]
  obtain ⟨t, ht, t0, t1⟩ := pick_in (a := p / 8) (by omega) (by omega) s0
  rw [e8]
  show ∃ n, ((clearwaylaw01_pick.f (p / 8) (rd sizes q)).bind _) = some n ∧ _
  rw [ht]
  simp only [Option.bind_some]
  unfold maxInt
  by_cases h8 : r ≥ 8
  · rw [if_pos h8, w64 (n := -t) (by omega) (by omega)]
    exact ⟨_, rfl, by omega, by omega⟩
  · rw [if_neg h8]
    exact ⟨_, rfl, by omega, by omega⟩
theorem cut_size (s : ByteArray) (n : Int) (hn : 0 ≤ n) : 0 ≤ mn (s.size : Int) n ∧ mn (s.size : Int) n ≤ s.size ∧ mn (s.size : Int) n ≤ n := by unfold mn; split <;> omega
end Go.Proofs.YtjjbhkaigfggdaaDoor.WPure
