/- WireUnique's plain statement: what Int and String accept at an offset is, up to the returned end, what PutInt and PutString return. No condition. -/
import Derived.Test.YtjjbhkaigfggdaaDoorWNum
import Derived.Test.YtjjbhkaigfggdaaDoorWSane
import Derived.Test.YtjjbhkaigfggdaaDoorPr3
set_option linter.unusedVariables false
set_option linter.unusedSimpArgs false
namespace Go.Proofs.YtjjbhkaigfggdaaDoor.WPure
open Go Go.RowKit Go.Proofs.YtjjbhkaigfggdaaDoor.Wire Go.Proofs.YtjjbhkaigfggdaaDoor.Pr Go.Proofs.YtjjbhkaigfggdaaDoor.Code Go.Proofs.YtjjbhkaigfggdaaDoorW.PrintWords Go.Proofs.YtjjbhkaigfggdaaDoorW.PrintLast Go.Proofs.YtjjbhkaigfggdaaDoorW.PrintMore

theorem int_unique (t : ByteArray) (a : Nat) (ht : t.size ≤ 1000) (ha : a ≤ t.size) (n : Int) (c : Nat) (h : dec ((nl t).drop a) = some (n, c)) :
    a + c ≤ t.size ∧ nl (t.extract a (a + c)) = enc n ∧ -maxInt ≤ n ∧ n ≤ maxInt := by
  obtain ⟨q1, q2, q3, q4, q5⟩ := dec_some (fun b hb => nl_lt t b (List.mem_of_mem_drop hb)) h
  rw [List.length_drop, nl_length] at q2
  refine ⟨by omega, ?_, q4, q5⟩
  rw [nl_extract, ← q3, List.drop_take]
  congr 1; omega
theorem str_unique (t : ByteArray) (a : Nat) (ht : t.size ≤ 1000) (ha : a ≤ t.size) (n : Int) (c : Nat) (h : dec ((nl t).drop a) = some (n, c)) (h0 : 0 ≤ n) (h1 : n ≤ 65536) (h2 : n ≤ (t.size : Int) - (a + c : Nat)) :
    ∃ w, wire_PutString.f (t.extract (a + c) (a + c + n.toNat)) = some (w, 0) ∧ t.extract a (a + c + n.toNat) = w := by
  obtain ⟨p1, p2, _, _⟩ := int_unique t a ht ha n c h
  have hs : (t.extract (a + c) (a + c + n.toNat)).size = n.toNat := by rw [ByteArray.size_extract]; omega
  obtain ⟨w, hw, ew⟩ := putString_in (s := t.extract (a + c) (a + c + n.toNat)) (by omega)
  refine ⟨w, hw, nl_inj ?_⟩
  rw [ew, hs, show ((n.toNat : Nat) : Int) = n by omega, ← p2, nl_extract, nl_extract, nl_extract]
  have hl := nl_length t
  apply List.ext_getElem?
  intro j
  rw [List.getElem?_drop, List.getElem?_take]
  by_cases hj : j < c
  · rw [List.getElem?_append_left (by simp; omega), List.getElem?_drop, List.getElem?_take, if_pos (by omega), if_pos (by omega)]
  · rw [List.getElem?_append_right (by simp; omega), List.getElem?_drop, List.getElem?_take]
    simp only [List.length_drop, List.length_take, hl]
    have e : a + c + (j - (min (a + c) t.size - a)) = a + j := by omega
    rw [e]

theorem empty_list : (⟨#[]⟩ : ByteArray).toList = [] := by simp [ByteArray.toList_eq]
/-- One round: the test of one offset lets it by. -/
theorem round_ok (k : Nat) (t : ByteArray) (x36 : List Int) (x37 i : Int) (a : Nat) (ht : t.size ≤ 1000) (ha : a ≤ t.size) (hk : 30 ≤ k) (hi0 : 0 ≤ i) (hi1 : i < x37) (hi2 : x37 = (x36.length : Int)) (hx : x36.length ≤ 2) (hr : rd x36 i = (a : Int)) :
    clearwaylaw01_WireUnique.l0 k true t x36 x37 i = clearwaylaw01_WireUnique.l0 (k - 2) true t x36 x37 (i + 1) := by
  obtain ⟨k, rfl⟩ : ∃ m, k = m + 2 := ⟨k - 2, by omega⟩
  have e1 : wrap64 (i + 1) = i + 1 := w64 (by omega) (by omega)
  have hj : clearwaylaw01_WireUnique.j1 (k + 1) true t (a : Int) x36 x37 i false = clearwaylaw01_WireUnique.l0 k true t x36 x37 (i + 1) := by
    simp only [clearwaylaw01_WireUnique.j1]
    rw [if_neg (by decide), string_eq t a k (by omega) ha (by omega)]
    simp only [Option.bind_some]
    cases hd : dec ((nl t).drop a) with
    | none =>
      obtain ⟨w, hw, _⟩ := putString_in (s := ⟨#[]⟩) (by decide)
      rw [show resS t a none = (⟨#[]⟩, 0, 10) from rfl]
      dsimp only
      rw [hw, e1]
      simp only [Option.bind_some]
      rw [if_neg (by decide), if_pos trivial, if_pos empty_list, if_pos trivial]
    | some p =>
      obtain ⟨n, c⟩ := p
      by_cases hc : 0 ≤ n ∧ n ≤ 65536 ∧ n ≤ (t.size : Int) - (a + c : Nat)
      · obtain ⟨w, hw, ew⟩ := str_unique t a ht ha n c hd hc.1 hc.2.1 hc.2.2
        obtain ⟨p1, _, _, _⟩ := int_unique t a ht ha n c hd
        rw [show resS t a (some (n, c)) = (t.extract (a + c) (a + c + n.toNat), ((a + c + n.toNat : Nat) : Int), 0) by unfold resS; dsimp only; rw [if_pos hc]]
        dsimp only
        rw [hw]
        simp only [Option.bind_some]
        rw [if_pos trivial, if_pos trivial, if_neg (show ¬ ((a + c + n.toNat : Nat) : Int) < (a : Int) by omega), if_neg (show ¬ ((a + c + n.toNat : Nat) : Int) > (t.size : Int) by omega),
          if_pos (show (0 : Int) ≤ (a : Int) by omega), if_pos (show (a : Int) ≤ ((a + c + n.toNat : Nat) : Int) by omega), if_pos (show ((a + c + n.toNat : Nat) : Int) ≤ (t.size : Int) by omega), e1]
        rw [if_pos]
        exact congrArg ByteArray.toList ew
      · obtain ⟨w, hw, _⟩ := putString_in (s := ⟨#[]⟩) (by decide)
        rw [show resS t a (some (n, c)) = (⟨#[]⟩, 0, 10) by unfold resS; dsimp only; rw [if_neg hc]]
        dsimp only
        rw [hw, e1]
        simp only [Option.bind_some]
        rw [if_neg (by decide), if_pos trivial, if_pos empty_list, if_pos trivial]
  simp only [clearwaylaw01_WireUnique.l0]
  rw [if_pos hi1, if_pos hi0, if_pos (by omega), hr, int_eq t a (k + 1) (by omega) ha (by omega)]
  simp only [Option.bind_some]
  cases hd : dec ((nl t).drop a) with
  | none =>
    obtain ⟨w, hw, _⟩ := putInt_in (n := 0) (by decide) (by decide)
    rw [show resI a none = (0, 0, 10) from rfl]
    dsimp only
    rw [hw]
    simp only [Option.bind_some]
    rw [if_neg (by decide), if_pos trivial, if_pos trivial]
    exact hj
  | some p =>
    obtain ⟨n, c⟩ := p
    obtain ⟨p1, p2, p3, p4⟩ := int_unique t a ht ha n c hd
    obtain ⟨w, hw, ew⟩ := putInt_in p3 p4
    rw [show resI a (some (n, c)) = (n, ((a + c : Nat) : Int), 0) from rfl]
    dsimp only
    rw [hw]
    simp only [Option.bind_some]
    rw [if_pos trivial, if_pos trivial, if_neg (show ¬ ((a + c : Nat) : Int) < (a : Int) by omega), if_neg (show ¬ ((a + c : Nat) : Int) > (t.size : Int) by omega),
      if_pos (show (0 : Int) ≤ (a : Int) by omega), if_pos (show (a : Int) ≤ ((a + c : Nat) : Int) by omega), if_pos (show ((a + c : Nat) : Int) ≤ (t.size : Int) by omega), if_pos (show (t.extract ((a : Int)).toNat (((a + c : Nat) : Int)).toNat).toList = w.toList from congrArg ByteArray.toList (nl_inj (p2.trans ew.symm))), hj]
    rfl

theorem unique : clearwaylaw01_WireUnique.Pure := by
  intro a0 a1 a2 w0 w1 w2
  refine ⟨60, ?_⟩
  obtain ⟨c0, c1, c2⟩ := cut_size a0 300 (by decide)
  obtain ⟨m, hm⟩ := Int.eq_ofNat_of_zero_le c0
  have hc2 : (a0.extract 0 m).size = m := by rw [ByteArray.size_extract]; omega
  have hs1 : (strOfNums [a2]).size = 1 := by rw [strOfNums_size]; rfl
  obtain ⟨t, ht⟩ : ∃ t, strOfNums [a2] ++ a0.extract 0 m = t := ⟨_, rfl⟩
  have hts : t.size = 1 + m := by rw [← ht, ByteArray.size_append, hs1, hc2]
  obtain ⟨b0, b1⟩ := wf_bd w1
  obtain ⟨p, hp, p0, p1⟩ := pick_in (b := (t.size : Int) + 1) b0 b1 (by omega)
  obtain ⟨p, rfl⟩ := Int.eq_ofNat_of_zero_le p0
  unfold clearwaylaw01_WireUnique.f
  rw [show clearwaylaw01_sane.f = some true from rfl]
  simp only [Option.bind_some]
  rw [if_pos c0, if_pos c1, hm]
  show (if (strOfNums [a2]).size + (a0.extract 0 m).size ≤ 9223372036854775807 then _ else _) = _
  rw [if_pos (by omega)]
  show ((clearwaylaw01_pick.f a1 (wrap64 (((strOfNums [a2] ++ a0.extract 0 m).size : Int) + 1))).bind fun t166 => clearwaylaw01_WireUnique.l0 60 true (strOfNums [a2] ++ a0.extract 0 m) [0, t166] (([0, t166] : List Int).length : Int) 0) = _
  rw [ht, w64 (n := (t.size : Int) + 1) (by omega) (by omega), hp]
  simp only [Option.bind_some]
  have r0 := round_ok 60 t [0, (p : Int)] 2 0 0 (by omega) (by omega) (by decide) (by decide) (by decide) rfl (by simp) rfl
  have r1 := round_ok 58 t [0, (p : Int)] 2 1 p (by omega) (by omega) (by decide) (by decide) (by decide) rfl (by simp) rfl
  show clearwaylaw01_WireUnique.l0 60 true t [0, (p : Int)] 2 0 = _
  rw [r0]
  show clearwaylaw01_WireUnique.l0 58 true t [0, (p : Int)] 2 1 = _
  rw [r1]
  show clearwaylaw01_WireUnique.l0 56 true t [0, (p : Int)] 2 2 = _
  simp only [clearwaylaw01_WireUnique.l0]
  rw [if_neg (by decide)]
end Go.Proofs.YtjjbhkaigfggdaaDoor.WPure
