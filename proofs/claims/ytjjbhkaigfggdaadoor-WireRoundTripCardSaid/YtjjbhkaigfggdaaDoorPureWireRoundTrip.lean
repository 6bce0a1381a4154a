/- WireRoundTrip: Int and String return what PutInt and PutString were given and the end of the encoding, wherever it is embedded: the walk of the law.
   No condition beyond the arguments' own. -/
import Derived.Test.YtjjbhkaigfggdaaDoorWNum
import Derived.Test.YtjjbhkaigfggdaaDoorWSane
import Derived.Test.YtjjbhkaigfggdaaDoorOpen
import Derived.Outline
set_option linter.unusedVariables false
set_option linter.unusedSimpArgs false
namespace Go.Proofs.YtjjbhkaigfggdaaDoor.WPure
open Go Go.RowKit Go.Proofs.YtjjbhkaigfggdaaDoor.Wire Go.Proofs.YtjjbhkaigfggdaaDoor.Pr Go.Proofs.YtjjbhkaigfggdaaDoor.Code Go.Proofs.YtjjbhkaigfggdaaDoorW.PrintWords Go.Proofs.YtjjbhkaigfggdaaDoorW.PrintLast Go.Proofs.YtjjbhkaigfggdaaDoorW.PrintMore
attribute [local go_sem] max2_int min2_int max_two min_two max_three min_three max_four min_four

/-- A string's begin, cut at m. -/
structure Cut (s t : ByteArray) (m : Int) : Prop where
  lo : 0 ≤ m
  hi : m ≤ s.size
  le : m ≤ 200
  mn : Aside0 ((if 200 < (s.size : Int) then 200 else (s.size : Int)) = m)
  eq : Aside0 (s.extract 0 m.toNat = t)
  sz : t.size ≤ 200
theorem cut_of (s : ByteArray) : ∃ t m, Cut s t m := by
  refine ⟨s.extract 0 (if 200 < (s.size : Int) then 200 else (s.size : Int)).toNat, _, ?_, ?_, ?_, ⟨rfl⟩, ⟨rfl⟩, ?_⟩
  · split <;> omega
  · split <;> omega
  · split <;> omega
  · rw [ByteArray.size_extract]; split <;> omega
theorem cell_new (w : World) (cs : Array Value) (t i : Nat) : (w.alloc (.cells cs t)).cell? ⟨w.heap.size, i, none⟩ = cs[i]? := by simp only [World.cell?, World.alloc_heap_new, Option.isSome_none, Bool.false_eq_true, if_false]
theorem int_embed (p a q X : ByteArray) (n : Int) (h0 : -maxInt ≤ n) (h1 : n ≤ maxInt) (ha : nl a = enc n) (hX : p ++ a ++ q = X) (hs : X.size ≤ 4611686018427387904) :
    wire_Int.f 20 X (p.size : Int) = some (n, (p.size : Int) + (a.size : Int), 0) := by
  have hp : p.size ≤ X.size := by rw [← hX, ByteArray.size_append, ByteArray.size_append]; omega
  rw [int_eq X p.size 20 hs hp (by decide)]
  have e : (nl X).drop p.size = enc n ++ nl q := by rw [← hX, nl_append, nl_append, ha, List.append_assoc, ← nl_length p, List.drop_left]
  have hl : (enc n).length = a.size := by rw [← ha, nl_length]
  rw [e, dec_enc h0 h1, hl]
  show some (n, ((p.size + a.size : Nat) : Int), 0) = _
  simp
theorem string_embed (p b q X t : ByteArray) (ht : t.size ≤ 65536) (hb : nl b = enc (t.size : Int) ++ nl t) (hX : p ++ b ++ q = X) (hs : X.size ≤ 4611686018427387904) :
    wire_String.f 20 X (p.size : Int) = some (t, (p.size : Int) + (b.size : Int), 0) := by
  have hXs : X.size = p.size + b.size + q.size := by rw [← hX, ByteArray.size_append, ByteArray.size_append]
  rw [string_eq X p.size 20 hs (by omega) (by decide)]
  have e : (nl X).drop p.size = enc (t.size : Int) ++ (nl t ++ nl q) := by rw [← hX, nl_append, nl_append, hb, List.append_assoc, ← nl_length p, List.drop_left, List.append_assoc]
  have hl : b.size = (enc (t.size : Int)).length + t.size := by rw [← nl_length, hb, List.length_append, nl_length]
  rw [e, dec_enc (by unfold maxInt; omega) (by unfold maxInt; omega)]
  unfold resS
  dsimp only
  rw [if_pos (by omega), Int.toNat_natCast]
  congr 2
  · apply nl_inj
    rw [nl_extract, List.drop_take, ← List.drop_drop, e, List.drop_left]
    rw [show p.size + (enc (t.size : Int)).length + t.size - (p.size + (enc (t.size : Int)).length) = (nl t).length by rw [nl_length]; omega, List.take_left]
  · congr 1
    omega

set_option maxHeartbeats 2000000 in
set_option maxRecDepth 100000 in
theorem roundTrip_walk (c : Int) (text p0 q0 : ByteArray) (w : World) (wc : (Lit.int .i64 c).wf = true) (hG_ : Amb w) :
    Calls Tryd.prog 4 #[.int .i64 c, .string text, .agg #[.string p0, .string q0]] w fun e w' => e = .returned (.bool true) ∧ Below w.heap.size w w' := by
  obtain ⟨n, hn, n0, n1⟩ := number_in wc
  obtain ⟨P, mp, ⟨p1, p2, p3, p4, p5, p6⟩⟩ := cut_of p0
  obtain ⟨Q, mq, ⟨q1, q2, q3, q4, q5, q6⟩⟩ := cut_of q0
  obtain ⟨T, mt, ⟨t1, t2, t3, t4, t5, t6⟩⟩ := cut_of text
  obtain ⟨a, ha, ea⟩ := putInt_in n0 n1
  obtain ⟨b, hb, eb⟩ := putString_in (s := T) (by omega)
  have la : a.size ≤ 9 := by rw [← nl_length, ea]; exact enc_len n0 n1
  have lb : b.size ≤ 209 := by
    rw [← nl_length, eb, List.length_append, nl_length]
    have := enc_len (n := (T.size : Int)) (by unfold maxInt; omega) (by unfold maxInt; omega)
    omega
  obtain ⟨X, hX⟩ : ∃ X, P ++ a ++ Q = X := ⟨_, rfl⟩
  obtain ⟨Y, hY⟩ : ∃ Y, P ++ b ++ Q = Y := ⟨_, rfl⟩
  have hXs : X.size ≤ 1000 := by rw [← hX, ByteArray.size_append, ByteArray.size_append]; omega
  have hYs : Y.size ≤ 1000 := by rw [← hY, ByteArray.size_append, ByteArray.size_append]; omega
  have ei := Aside0.mk (int_embed P a Q X n n0 n1 ea hX (by omega))
  have es := Aside0.mk (string_embed P b Q Y T (by omega) eb hY (by omega))
  have HN := Aside0.mk hn
  have HA := Aside0.mk ha
  have HB := Aside0.mk hb
  clear hn ha hb ea eb
  have bp := p4.out
  have bq := q4.out
  have bt := t4.out
  have cp := p5.out
  have cq := q5.out
  have ct := t5.out
  clear p4 q4 t4 p5 q5 t5 n0 n1
  go_enter Tryd.func4, Tryd.ntmps4
  go_wp2_with fail
  refine (clearwaylaw01_sane.calls true _ (hG_.below ((Below.refl _ _).alloc (Nat.le_refl _) _)) rfl).mono ?_
  rintro e w1 ⟨rfl, b1⟩
  have hb1 := below_then ((Below.refl _ _).alloc (Nat.le_refl _) _) b1
  have k0 : w1.cell? ⟨w.heap.size, 0, none⟩ = some (.string p0) := by rw [b1.cell (by simp), cell_new]; rfl
  have k1 : w1.cell? ⟨w.heap.size, 1, none⟩ = some (.string q0) := by rw [b1.cell (by simp), cell_new]; rfl
  go_wp2_with fail
  refine (clearwaylaw01_NumberFrom.calls c n _ HN.out).mono ?_
  rintro e w2 ⟨rfl, b2⟩
  have hb2 := below_then hb1 b2
  have j0 : w2.cell? ⟨w.heap.size, 0, none⟩ = some (.string p0) := by rw [b2.cell (World.block_lt_of_cell? _ _ k0)]; exact k0
  have j1 : w2.cell? ⟨w.heap.size, 1, none⟩ = some (.string q0) := by rw [b2.cell (World.block_lt_of_cell? _ _ k1)]; exact k1
  clear k0 k1
  go_wp2_with fail
  refine (wire_PutInt.calls n a 0 _ HA.out).mono ?_
  rintro e w3 ⟨rfl, b3⟩
  have hb3 := below_then hb2 b3
  go_wp2_with fail
  refine (wire_PutString.calls T b 0 _ HB.out).mono ?_
  rintro e w4 ⟨rfl, b4⟩
  have hb4 := below_then hb3 b4
  have s1 : P.size + a.size ≤ 9223372036854775807 := by omega
  have s2 : P.size + a.size + Q.size ≤ 9223372036854775807 := by omega
  have s3 : P.size + b.size ≤ 9223372036854775807 := by omega
  have s4 : P.size + b.size + Q.size ≤ 9223372036854775807 := by omega
  go_wp2_with fail
  refine (wire_Int.calls 20 X _ _ _ _ _ ei.out).mono ?_
  rintro e w5 ⟨rfl, ⟨m5, rfl⟩⟩
  go_wp2_with fail
  refine (wire_String.calls 20 Y _ _ _ _ _ es.out).mono ?_
  rintro e w6 ⟨rfl, ⟨m6, rfl⟩⟩
  go_wp2_with fail
  go_ret
  exact ⟨rfl, by repeat (first | exact hb4 | apply pw_below_drewN)⟩
theorem roundTrip_row (c : Int) (text p0 q0 : ByteArray) (w : World) (wc : (Lit.int .i64 c).wf = true) (_ : text.size ≤ 140737488351232) (_ : p0.size ≤ maxLen) (_ : q0.size ≤ maxLen) (hG_ : Amb w) :
    Calls Tryd.prog 4 #[.int .i64 c, .string text, .agg #[.string p0, .string q0]] w fun e w' => e = .returned (.bool true) ∧ Below w.heap.size w w' := roundTrip_walk c text p0 q0 w wc hG_
end Go.Proofs.YtjjbhkaigfggdaaDoor.WPure
