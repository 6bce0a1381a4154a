/- digest.mixed at words: rotations of one word, together. No condition. -/
import Derived.Test.YtniegajdmbepbaaGreatDoorKJournalMatchesReference13
import Derived.Test.YtniegajdmbepbaaGreatDoorKJournalMatchesReference14
set_option linter.unusedSimpArgs false
set_option linter.unusedVariables false
namespace Go.Proofs.YtniegajdmbepbaaGreatDoor.Sha
open Go Go.RowKit Go.Proofs.YtniegajdmbepbaaGreatDoor.Da Go.Proofs.YtniegajdmbepbaaGreatDoorW.PrintWords Go.Proofs.YtniegajdmbepbaaGreatDoorW.PrintLast Go.Proofs.YtniegajdmbepbaaGreatDoorW.PrintMore
def rr (n : Nat) (x : B) : B := x <<< (32 - n) ||| x >>> n
theorem rot_eq (n : Nat) (h0 : 0 < n) (h1 : n < 32) (x : B) : bits_RotateLeft32.f (u x) (-(n : Int)) = some (u (rr n x)) := by
 have e1 : Go.bits .and .u64 (IntKind.u64.wrap (-(n : Int))) 31 = ((32 - n : Nat) : Int) ∧ IntKind.u64.wrap (32 - ((32 - n : Nat) : Int)) = (n : Int) := by
  have : ∀ n : Fin 32, 0 < n.1 → Go.bits .and .u64 (IntKind.u64.wrap (-(n.1 : Int))) 31 = ((32 - n.1 : Nat) : Int) ∧ IntKind.u64.wrap (32 - ((32 - n.1 : Nat) : Int)) = (n.1 : Int) := by decide
  exact this ⟨n, h1⟩ h0
 unfold bits_RotateLeft32.f
 rw [e1.1, e1.2, if_pos (by omega), if_pos (by omega)]
 have e2 : shl .u32 (u x) ((32 - n : Nat) : Int) = u (x <<< (32 - n)) := by
  unfold shl
  rw [show min (((32 - n : Nat) : Int)).toNat (IntKind.bits .u32) = 32 - n by simp [IntKind.bits]]
  exact wrap_shl x _
 have e3 : shr .u32 (u x) (n : Int) = u (x >>> n) := by
  unfold shr
  rw [show min ((n : Int)).toNat (IntKind.bits .u32) = n by simp [IntKind.bits]; omega]
  exact shr_div x n
 rw [e2, e3, bits_or]
 rfl
theorem w64_neg (n : Nat) (h : n < 32) : wrap64 (-(n : Int)) = -(n : Int) := by unfold wrap64; omega
theorem u_zero : (0 : Int) = u 0 := rfl
theorem mixed2 (x : B) (a b : Nat) (ha : 0 < a ∧ a < 32) (hb : 0 < b ∧ b < 32) : digest_mixed.f 9 (u x) [(a : Int), (b : Int)] = some (u (rr a x ^^^ rr b x)) := by
 unfold digest_mixed.f
 simp only [digest_mixed.l0, List.length_cons, List.length_nil, rd]
 rw [show wrap64 ((0 : Int) + 1) = 1 by unfold wrap64; decide, show wrap64 ((1 : Int) + 1) = 2 by unfold wrap64; decide]
 simp only [show ((0 : Int) < (((0 : Nat) + 1 + 1 : Nat) : Int)) = True from eq_true (by decide), show ((1 : Int) < (((0 : Nat) + 1 + 1 : Nat) : Int)) = True from eq_true (by decide), show ((2 : Int) < (((0 : Nat) + 1 + 1 : Nat) : Int)) = False from eq_false (by decide), if_true, if_false, show ((0 : Int) ≤ 0) = True from eq_true (by decide), show ((0 : Int) ≤ 1) = True from eq_true (by decide)]
 show (bits_RotateLeft32.f (u x) (wrap64 (-(a : Int)))).bind _ = _
 rw [w64_neg a ha.2, rot_eq a ha.1 ha.2]
 show (bits_RotateLeft32.f (u x) (wrap64 (-(b : Int)))).bind _ = _
 rw [w64_neg b hb.2, rot_eq b hb.1 hb.2]
 show some (Go.bits .xor .u32 (Go.bits .xor .u32 0 (u (rr a x))) (u (rr b x))) = _
 rw [u_zero, bits_xor, bits_xor]
 simp
theorem mixed3 (x : B) (a b c : Nat) (ha : 0 < a ∧ a < 32) (hb : 0 < b ∧ b < 32) (hc : 0 < c ∧ c < 32) : digest_mixed.f 9 (u x) [(a : Int), (b : Int), (c : Int)] = some (u (rr a x ^^^ rr b x ^^^ rr c x)) := by
 unfold digest_mixed.f
 simp only [digest_mixed.l0, List.length_cons, List.length_nil, rd]
 rw [show wrap64 ((0 : Int) + 1) = 1 by unfold wrap64; decide, show wrap64 ((1 : Int) + 1) = 2 by unfold wrap64; decide, show wrap64 ((2 : Int) + 1) = 3 by unfold wrap64; decide]
 simp only [show ((0 : Int) < (((0 : Nat) + 1 + 1 + 1 : Nat) : Int)) = True from eq_true (by decide), show ((1 : Int) < (((0 : Nat) + 1 + 1 + 1 : Nat) : Int)) = True from eq_true (by decide), show ((2 : Int) < (((0 : Nat) + 1 + 1 + 1 : Nat) : Int)) = True from eq_true (by decide), show ((3 : Int) < (((0 : Nat) + 1 + 1 + 1 : Nat) : Int)) = False from eq_false (by decide), if_true, if_false, show ((0 : Int) ≤ 0) = True from eq_true (by decide), show ((0 : Int) ≤ 1) = True from eq_true (by decide), show ((0 : Int) ≤ 2) = True from eq_true (by decide)]
 show (bits_RotateLeft32.f (u x) (wrap64 (-(a : Int)))).bind _ = _
 rw [w64_neg a ha.2, rot_eq a ha.1 ha.2]
 show (bits_RotateLeft32.f (u x) (wrap64 (-(b : Int)))).bind _ = _
 rw [w64_neg b hb.2, rot_eq b hb.1 hb.2]
 show (bits_RotateLeft32.f (u x) (wrap64 (-(c : Int)))).bind _ = _
 rw [w64_neg c hc.2, rot_eq c hc.1 hc.2]
 show some (Go.bits .xor .u32 (Go.bits .xor .u32 (Go.bits .xor .u32 0 (u (rr a x))) (u (rr b x))) (u (rr c x))) = _
 rw [u_zero, bits_xor, bits_xor, bits_xor]
 simp
theorem C_ints {w : World} {g : Nat} {xs : List Int} {t : TypeId} {f : Nat × Nat} (h : w.heap[g]? = some (.cells (xs.map (Value.int .i64)).toArray t f)) (hl : xs.length ≤ 9223372036854775807) : (Kd.int .i64).C w (some ⟨g, 0, none⟩) xs.length xs := by
 refine ⟨rfl, hl, fun _ => ⟨_, rfl, fun j p hp => ⟨[.int .i64 p], rfl, rfl, fun i v hv => ?_⟩⟩⟩
 cases i with
 | zero =>
  simp only [List.getElem?_cons_zero, Option.some.injEq] at hv
  subst hv
  have hj : j < xs.length := (List.getElem?_eq_some_iff.1 hp).1
  have he := (List.getElem?_eq_some_iff.1 hp).2
  have ha : (⟨g, 0, none⟩ : Addr).add (j * 1 + 0) = ⟨g, j, none⟩ := by unfold Addr.add; split <;> simp_all
  show w.cell? ((⟨g, 0, none⟩ : Addr).add (j * 1 + 0)) = _
  rw [ha]
  simp only [World.cell?, h]
  simp [List.getElem?_eq_getElem hj, he]
 | succ i => simp at hv
theorem mixed2_calls (x : B) (a b : Nat) (ha : 0 < a ∧ a < 32) (hb : 0 < b ∧ b < 32) (w : World) (g c : Nat) (t : TypeId) (f : Nat × Nat) (h : w.heap[g]? = some (.cells #[.int .i64 (a : Int), .int .i64 (b : Int)] t f)) (hc : 2 ≤ c) :
  Calls Tryz.prog 145 #[.int .u32 (u x), .slice (some ⟨g, 0, none⟩) 2 c] w fun e w' => e = .returned (.int .u32 (u (rr a x ^^^ rr b x))) ∧ Drawn0 w w' :=
 digest_mixed.calls 9 (u x) _ c [(a : Int), (b : Int)] _ w (C_ints (xs := [(a : Int), (b : Int)]) h (show (2 : Nat) ≤ 9223372036854775807 by decide)) hc (mixed2 x a b ha hb)
theorem mixed3_calls (x : B) (a b d : Nat) (ha : 0 < a ∧ a < 32) (hb : 0 < b ∧ b < 32) (hd : 0 < d ∧ d < 32) (w : World) (g c : Nat) (t : TypeId) (f : Nat × Nat) (h : w.heap[g]? = some (.cells #[.int .i64 (a : Int), .int .i64 (b : Int), .int .i64 (d : Int)] t f)) (hc : 3 ≤ c) :
  Calls Tryz.prog 145 #[.int .u32 (u x), .slice (some ⟨g, 0, none⟩) 3 c] w fun e w' => e = .returned (.int .u32 (u (rr a x ^^^ rr b x ^^^ rr d x))) ∧ Drawn0 w w' :=
 digest_mixed.calls 9 (u x) _ c [(a : Int), (b : Int), (d : Int)] _ w (C_ints (xs := [(a : Int), (b : Int), (d : Int)]) h (show (3 : Nat) ≤ 9223372036854775807 by decide)) hc (mixed3 x a b d ha hb hd)
end Go.Proofs.YtniegajdmbepbaaGreatDoor.Sha
