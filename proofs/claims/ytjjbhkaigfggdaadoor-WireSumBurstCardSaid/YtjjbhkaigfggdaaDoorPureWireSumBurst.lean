/- WireSumBurst: a change of at most 32 consecutive bits of a string changes its checksum: the walk of the law. No condition beyond the arguments' own. -/
import Derived.Test.YtjjbhkaigfggdaaDoorWCrc
import Derived.Test.YtjjbhkaigfggdaaDoorWSane
import Derived.Test.YtjjbhkaigfggdaaDoorWNum
import Derived.RegionTactic
import Derived.BigRegion
import Derived.Deep.QuietTactic
import Derived.BigQuiet
import Derived.StillTailTactics
import Derived.LoopTactic
import Derived.OwnWalk
import Derived.WalkMore
import Derived.Outline
set_option linter.unusedVariables false
set_option linter.unusedSimpArgs false
namespace Go.Proofs.YtjjbhkaigfggdaaDoor.WPure
open Go Go.RowKit Go.Proofs.YtjjbhkaigfggdaaDoor.Wire Go.Proofs.YtjjbhkaigfggdaaDoor.Pr Go.Proofs.YtjjbhkaigfggdaaDoor.Crc Go.Proofs.YtjjbhkaigfggdaaDoorW.PrintWords Go.Proofs.YtjjbhkaigfggdaaDoorW.PrintLast Go.Proofs.YtjjbhkaigfggdaaDoorW.PrintMore
attribute [local go_sem] max2_int min2_int max_two min_two max_three min_three max_four min_four

/-- A row of bytes that a conversion has laid: block g has its numbers first, and the mark lies behind them. -/
def Buf (w : World) (g : Nat) (xs : List Int) : Prop := ∃ cur fz, w.heap[g]? = some (.cells cur 5 fz) ∧ xs.length ≤ fz.1 ∧ xs.length ≤ cur.size ∧ cur.toList.take xs.length = xs.map (Value.int .u8)
theorem Buf.lt {w : World} {g : Nat} {xs : List Int} (h : Buf w g xs) : g < w.heap.size := by
  obtain ⟨_, _, h, _⟩ := h
  exact (Array.getElem?_eq_some_iff.1 h).1
theorem Buf.cell {w : World} {g : Nat} {xs : List Int} (h : Buf w g xs) (j : Nat) (x : Int) (hx : xs[j]? = some x) : w.cell? ⟨g, j, none⟩ = some (.int .u8 x) := by
  obtain ⟨cur, fz, h1, h2, h3, h4⟩ := h
  have hj : j < xs.length := (List.getElem?_eq_some_iff.1 hx).1
  simp only [World.cell?, h1]
  have h5 : (cur.toList.take xs.length)[j]? = some (Value.int .u8 x) := by rw [h4, List.getElem?_map, hx]; rfl
  rw [List.getElem?_take_of_lt hj] at h5
  simpa using h5
theorem Buf.block {w W : World} {g : Nat} {xs : List Int} (h : Buf w g xs) (e : W.heap[g]? = w.heap[g]?) : Buf W g xs := by
  obtain ⟨cur, fz, h1, h⟩ := h
  exact ⟨cur, fz, e.trans h1, h⟩
theorem buf_new (w : World) (s : ByteArray) : Buf (Lib.bytesWorld w 5 s) w.heap.size (bytesOf s) := by
  have hl : (Lib.bytesCells w 5 s).toList.take s.size = (bytesOf s).map (Value.int .u8) := by
    unfold Lib.bytesCells bytesOf
    rw [Array.toList_append, List.take_append_of_le_length (by simp), List.take_of_length_le (by simp)]
    simp
  have hz : s.size ≤ (Lib.bytesCells w 5 s).size := by unfold Lib.bytesCells; simp
  refine ⟨_, _, Lib.bytesWorld_at_new w _ s, ?_, ?_, ?_⟩
  · rw [bytesOf_length]; exact hz
  · rw [bytesOf_length]; exact hz
  · rw [bytesOf_length]; exact hl
theorem Buf.notFrozen {w : World} {g : Nat} {xs : List Int} (h : Buf w g xs) (j : Nat) (hj : j < xs.length) : w.frozen? ⟨g, j, none⟩ = false := by
  obtain ⟨cur, fz, h1, h2, h3, h4⟩ := h
  obtain ⟨lo, hi⟩ := fz
  simp only [World.frozen?, h1, Bool.and_eq_false_iff, decide_eq_false_iff_not]
  left
  simp only at h2
  omega
theorem Buf.set {w : World} {g : Nat} {xs : List Int} (h : Buf w g xs) (j : Nat) (x : Int) :
    Buf ((w.setCell ⟨g, j, none⟩ (.int .u8 x)).drew) g (xs.set j x) := by
  obtain ⟨cur, fz, h1, h2, h3, h4⟩ := h
  rw [setCell_eq_setRow w g j cur _ fz _ h1]
  refine ⟨_, fz, setRow_heap w g cur _ _ fz h1, ?_, ?_, ?_⟩
  · simpa using h2
  · simpa using h3
  · simp only [List.length_set, Array.toList_setIfInBounds, List.take_set, h4, List.map_set]
theorem Buf.set_below {v w : World} {g : Nat} {xs : List Int} (h : Buf w g xs) (j : Nat) (x : Int) (hb : Below v.heap.size v w) (hg : v.heap.size ≤ g) :
    Below v.heap.size v ((w.setCell ⟨g, j, none⟩ (.int .u8 x)).drew) := by
  obtain ⟨cur, fz, h1, h2, h3, h4⟩ := h
  rw [setCell_eq_setRow w g j cur _ fz _ h1]
  exact ⟨hb.os, hb.tape, hb.output, by have := hb.size; simpa using this, fun i hi => (setRow_other w g i _ (by omega)).trans (hb.block i hi)⟩
theorem Buf.str {w : World} {g : Nat} {xs : List Int} (h : Buf w g xs) (c : Nat) : (convert 38 9 (.slice (some ⟨g, 0, none⟩) xs.length c)).run Tryd.prog w = .ok (.string (strOfNums xs)) w := by
  refine run_convert_bytes_arg w 38 5 Tryd.underlying38 Tryd.underlying5 g 0 _ c xs rfl (fun i hi => ?_) 9 Tryd.underlying9
  rw [Nat.zero_add]
  exact h.cell i _ (by simp [List.getD_eq_getElem?_getD, List.getElem?_eq_getElem hi])

/-- The state behind m rounds: the bits below m are turned from bit f on. -/
def St (t : ByteArray) (n f bits m : Nat) (xs : List Int) (ch : Bool) : Prop := ∃ l : List Nat, xs = l.map (fun x : Nat => (x : Int)) ∧ l.length = n ∧ (∀ x ∈ l, x < 256) ∧ leX l = leX (nl t) ^^^ ((bits % 2 ^ m) * 2 ^ f) ∧ (ch = true ↔ bits % 2 ^ m ≠ 0)
theorem nl_bytesOf (t : ByteArray) : bytesOf t = (nl t).map (fun x : Nat => (x : Int)) := by
  unfold bytesOf nl
  rw [List.map_map]
  rfl
theorem st_0 (t : ByteArray) (n f bits : Nat) (ht : t.size = n) : St t n f bits 0 (bytesOf t) false := by
  refine ⟨nl t, nl_bytesOf t, by rw [nl_length, ht], nl_lt t, ?_, ?_⟩
  · simp [Nat.mod_one]
  · simp [Nat.mod_one]
theorem mod_succ_no (b m : Nat) (h : ¬ b / 2 ^ m % 2 = 1) : b % 2 ^ (m + 1) = b % 2 ^ m := by
  rw [Nat.pow_succ, Nat.mod_mul, show b / 2 ^ m % 2 = 0 by omega, Nat.mul_zero, Nat.add_zero]
theorem mod_succ_yes (b m : Nat) (h : b / 2 ^ m % 2 = 1) : b % 2 ^ (m + 1) = b % 2 ^ m + 2 ^ m := by
  rw [Nat.pow_succ, Nat.mod_mul, h, Nat.mul_one]
theorem st_no {t : ByteArray} {n f bits m : Nat} {xs : List Int} {ch : Bool} (h : St t n f bits m xs ch) (hb : ¬ bits / 2 ^ m % 2 = 1) : St t n f bits (m + 1) xs ch := by
  unfold St at h ⊢
  rw [mod_succ_no _ _ hb]
  exact h
theorem pow256 (r : Nat) (h : r < 8) : (2 : Int) ^ r % 256 = 2 ^ r := by
  have : ∀ r : Fin 8, (2 : Int) ^ r.1 % 256 = 2 ^ r.1 := by decide
  exact this ⟨r, h⟩
theorem st_yes {t : ByteArray} {n f bits m : Nat} {xs : List Int} {ch : Bool} (h : St t n f bits m xs ch) (hb : bits / 2 ^ m % 2 = 1) (k j r : Nat) (hk : f + m = k) (hj : k / 8 = j) (hr : k % 8 = r) (hlt : k < 8 * n) (x : Int) (hx : xs[j]? = some x) :
    St t n f bits (m + 1) (xs.set j (Go.bits .xor .u8 x (2 ^ r))) true := by
  obtain ⟨l, rfl, hl, h256, hX, hch⟩ := h
  obtain ⟨b, hb2⟩ : ∃ b, l[j]? = some b := ⟨_, List.getElem?_eq_getElem (by omega)⟩
  have hbl : b < 256 := h256 b (List.mem_iff_getElem?.2 ⟨j, hb2⟩)
  rw [List.getElem?_map, hb2] at hx
  simp only [Option.map_some, Option.some.injEq] at hx
  subst hx
  have hr8 : 2 ^ r < 256 := by
    have := Nat.pow_lt_pow_right (a := 2) (by decide) (show r < 8 by omega)
    omega
  have he : Go.bits .xor .u8 (b : Int) (2 ^ r) = ((b ^^^ 2 ^ r : Nat) : Int) := by
    have := (Bits.u8 b (2 ^ r) hbl hr8).2.2
    push_cast at this
    exact this
  rw [he]
  refine ⟨l.set j (b ^^^ 2 ^ r), by rw [List.map_set], by simpa using hl, ?_, ?_, ?_⟩
  · intro y hy
    rcases List.mem_or_eq_of_mem_set hy with h | rfl
    · exact h256 y h
    · exact Nat.xor_lt_two_pow (n := 8) hbl hr8
  · rw [leX_set _ _ _ _ hb2, hX, mod_succ_yes _ _ hb, Nat.xor_assoc]
    congr 1
    have h1 : 2 ^ r * 256 ^ j = 2 ^ m * 2 ^ f := by
      rw [show (256 : Nat) = 2 ^ 8 from rfl, ← Nat.pow_mul, ← Nat.pow_add, ← Nat.pow_add]
      congr 1
      omega
    rw [h1, ← mul_xor]
    congr 1
    have h2 : bits % 2 ^ m < 2 ^ m := Nat.mod_lt _ (Nat.two_pow_pos m)
    have h3 := Nat.two_pow_add_eq_or_of_lt h2 1
    rw [Nat.mul_one] at h3
    rw [Nat.add_comm, h3]
    apply Nat.eq_of_testBit_eq
    intro i
    rw [Nat.testBit_xor, Nat.testBit_or, Nat.testBit_two_pow]
    by_cases hi : m = i
    · subst hi
      rw [Nat.testBit_lt_two_pow h2]
      simp
    · simp [hi]
  · simp only [true_iff]
    rw [mod_succ_yes _ _ hb]
    have := Nat.two_pow_pos m
    omega
theorem strOf_size (xs : List Int) : (strOfNums xs).size = xs.length := by
  show (strOfNums xs).data.size = _
  rw [← Array.length_toList, strOfNums_data]
  simp
theorem drewN_heap (w : World) (q g : Nat) : (w.drewN q).heap[g]? = w.heap[g]? := rfl
/-- What the law compares behind the loop. -/
theorem st_end {t : ByteArray} {n f bits m : Nat} {xs : List Int} {ch : Bool} (h : St t n f bits m xs ch) (ht : t.size = n) (hf : f < 8 * n) (hm : m ≤ 32) (h2 : m = 32 ∨ 8 * n ≤ f + m) :
    (ch == ((4294967295 - (R (strOfNums xs) : Int)) != (4294967295 - (R t : Int)))) = true := by
  obtain ⟨l, rfl, hl, h256, hX, hch⟩ := h
  have hn : nl (strOfNums (l.map fun x : Nat => (x : Int))) = l := nl_strOf l h256
  have hW : bits % 2 ^ m < 4294967296 := by
    have h1 := Nat.mod_lt bits (Nat.two_pow_pos m)
    have h3 := Nat.pow_le_pow_right (n := 2) (by decide) hm
    simp only [Nat.reducePow] at h3
    omega
  have hb := burst (8 * n) f (bits % 2 ^ m) (4294967295 ^^^ leX (nl t)) hW (by omega)
  rw [Nat.xor_assoc, ← hX] at hb
  have e1 : R (strOfNums (l.map fun x : Nat => (x : Int))) = An (8 * n) (4294967295 ^^^ leX l) := by rw [R_eq, hn, strOf_size, List.length_map, hl]
  have e2 : R t = An (8 * n) (4294967295 ^^^ leX (nl t)) := by rw [R_eq, ht]
  rw [e1, e2, beq_iff_eq]
  cases ch with
  | true =>
    have : bits % 2 ^ m ≠ 0 := hch.1 rfl
    rw [eq_comm, bne_iff_ne]
    intro h
    exact this (hb.1 (by omega))
  | false =>
    have : bits % 2 ^ m = 0 := by
      refine Decidable.byContradiction fun hne => ?_
      exact absurd (hch.2 hne) (by decide)
    rw [eq_comm, bne_eq_false_iff_eq, hb.2 this]
theorem quiet_S {P : Program} {f : FuncId} {x : ByteArray} {W : World} {v : Value} (h : ∀ q, Calls P f #[.string x] (W.drewN q) fun e w' => e = .returned v ∧ w' = W.drewN q) (q : Nat) :
    Calls P f #[.string x] (W.drewN q) fun e w'' => e = .returned v ∧ ∃ m, w'' = W.drewN m := Calls.quiet_of_same (h q)

set_option maxHeartbeats 2000000 in
set_option maxRecDepth 100000 in
theorem burst_walk (s t : ByteArray) (at_ : Int) (bits n : Nat) (w : World) (hG_ : Amb w) (hs : s.size ≤ 140737488351232) (hb : bits < 4294967296) (hat0 : -9223372036854775808 ≤ at_) (hat1 : at_ ≤ 9223372036854775807)
    (e1 : (if 300 < (s.size : Int) then 300 else (s.size : Int)) = (n : Int)) (e2 : s.extract 0 n = t) (hn : n ≤ 300) (hns : n ≤ s.size) (ht : t.size = n) (f : Nat)
    (hx : (n = 0 ∨ bits = 0) ∨ (0 < n ∧ 0 < bits ∧ clearwaylaw01_pick.f at_ (8 * (n : Int)) = some (f : Int) ∧ f < 8 * n)) :
    Calls Tryd.prog 8 #[.string s, .int .i64 at_, .int .u32 bits] w fun e w' => e = .returned (.bool true) ∧ Below w.heap.size w w' := by
  have kb := fun W => print_bytes (P := Tryd.prog) 9 38 5 Tryd.underlying9 Tryd.underlying38 Tryd.underlying5 t W
  have e3 : s.extract 0 ((n : Int)).toNat = t := e2
  go_enter Tryd.func8, Tryd.ntmps8
  go_wp2_with fail
  refine (clearwaylaw01_sane.calls true _ hG_ rfl).mono ?_
  rintro e w1 ⟨rfl, b1⟩
  rcases hx with h0 | ⟨hn0, hb0, hp, hf⟩
  · have hc : (((n : Int) == 0) || ((bits : Int) == 0)) = true := by simp; omega
    go_wp2_with fail
    all_goals (go_ret; exact ⟨rfl, bytes_below b1 (below_size b1) _ _⟩)
  · have hc : (((n : Int) == 0) || ((bits : Int) == 0)) = false := by simp; omega
    go_wp2_with fail
    refine (clearwaylaw01_pick.calls at_ (8 * (n : Int)) (f : Int) _ hp).mono ?_
    rintro e w2 ⟨rfl, b2⟩
    have B1 : Below w.heap.size w (Lib.bytesWorld w1 5 t) := bytes_below b1 (below_size b1) _ _
    have BU : Buf w2 w1.heap.size (bytesOf t) := (buf_new w1 t).block (b2.below.block _ (buf_new w1 t).lt)
    have B2 : Below w.heap.size w w2 := below_then B1 (below_size B1) b2.below
    clear b2
    go_wp2_with fail
    obtain ⟨g, hgg⟩ : ∃ g, w1.heap.size = g := ⟨_, rfl⟩
    have hg : w.heap.size ≤ g := by rw [← hgg]; exact below_size b1
    rw [hgg] at BU ⊢
    clear hgg
    generalize grownCap w1 n 0 5 = cp
    clear b1 B1
    go_loopw [10, 11] (fun r i w' => ∃ (m : Nat) (ch : Bool) (xs : List Int), r = .bool ch ∧ i = .int .i64 m ∧ m ≤ 32 ∧ Buf w' g xs ∧ xs.length = n ∧ Aside0 (St t n f bits m xs ch) ∧ Below w.heap.size w w') (fun _ i _ => 32 - (intOf i).toNat)
    case atStart =>
      refine ⟨0, false, bytesOf t, rfl, rfl, by omega, BU, by rw [bytesOf_length, ht], ⟨st_0 t n f bits ht⟩, B2⟩
    case round =>
      obtain ⟨m, ch, xs, rfl, rfl, hm, BU, hl, HS, B2⟩ := hrel
      by_cases h1 : m < 32
      · by_cases h2 : f + m < 8 * n
        · obtain ⟨k, hk⟩ : ∃ k, f + m = k := ⟨_, rfl⟩
          have ek : (f : Int) + (m : Int) = (k : Int) := by omega
          have e1 : decide ((m : Int) < 32) = true := decide_eq_true (by omega)
          have e2 : decide ((k : Int) < 8 * (n : Int)) = true := decide_eq_true (by omega)
          by_cases h3 : bits / 2 ^ m % 2 = 1
          · have hbit : (((bits : Int) / 2 ^ m).tmod 2 == 1) = true := by rw [beq_iff_eq, Int.tmod_eq_emod_of_nonneg (Int.ediv_nonneg (by omega) (Int.pow_nonneg (by omega)))]; exact_mod_cast h3
            obtain ⟨j, hj⟩ : ∃ j, k / 8 = j := ⟨_, rfl⟩
            obtain ⟨r, hr⟩ : ∃ r, k % 8 = r := ⟨_, rfl⟩
            have ej : (k : Int).tdiv 8 = (j : Int) := by rw [Int.tdiv_eq_ediv_of_nonneg (by omega)]; omega
            have er : (k : Int).tmod 8 = (r : Int) := by rw [Int.tmod_eq_emod_of_nonneg (by omega)]; omega
            have ej' : (k : Int) / 8 = (j : Int) := by omega
            have er' : (k : Int) % 8 = (r : Int) := by omega
            have lj : decide ((j : Int) < (n : Int)) = true := decide_eq_true (by omega)
            have lj' : decide (j < n) = true := decide_eq_true (by omega)
            obtain ⟨x, hx⟩ : ∃ x, xs[j]? = some x := ⟨_, List.getElem?_eq_getElem (by omega)⟩
            have hcell : wr.drew.cell? ⟨g, j, none⟩ = some (.int .u8 x) := (BU.block rfl).cell j x hx
            have hcell2 := hcell
            unfold World.drew at hcell2
            have wj : IntKind.i64.wrap (j : Int) = (j : Int) := by rw [IntKind.wrap_i64]; omega
            have cj : (0 ≤ (j : Int) ∧ (j : Int) < (n : Int)) = True := eq_true (by omega)
            have cj3 : (j < n) = True := eq_true (by omega)
            have wr8 : IntKind.i64.wrap (r : Int) = (r : Int) := by rw [IntKind.wrap_i64]; omega
            go_wp2_with fail
            go_still_tail 13, (by kernel_rfl)
            change wpList _ _ _ _ _ wr.drew
            have nf : wr.drew.frozen? ⟨g, j, none⟩ = false := (Buf.block (W := wr.drew) BU rfl).notFrozen j (by omega)
            go_wp2_with fail
            go_round
            case rel => exact ⟨m + 1, true, xs.set j (Go.bits .xor .u8 x (2 ^ r % 256)), rfl, by go_num, by omega, BU.set j _, by rw [List.length_set, hl], ⟨by rw [pow256 r (by omega)]; exact st_yes HS.out h3 k j r hk hj hr (by omega) x hx⟩, BU.set_below j _ B2 hg⟩
            case measure => simp [intOf]; omega
          · have hbit : (((bits : Int) / 2 ^ m).tmod 2 == 1) = false := by rw [beq_eq_false_iff_ne, Int.tmod_eq_emod_of_nonneg (Int.ediv_nonneg (by omega) (Int.pow_nonneg (by omega)))]; exact_mod_cast h3
            go_wp2_with fail
            go_round
            case rel => exact ⟨m + 1, ch, xs, rfl, by go_num, by omega, BU, hl, ⟨st_no HS.out h3⟩, B2⟩
            case measure => simp [intOf]; omega
        · have FIN : m = 32 ∨ 8 * n ≤ f + m := .inr (by omega)
          have e1 : decide ((m : Int) < 32) = true := decide_eq_true (by omega)
          have e2 : decide ((f : Int) + (m : Int) < 8 * (n : Int)) = false := decide_eq_false (by omega)
          go_wp2_with fail
          obtain ⟨vS, hvS⟩ : ∃ v : Int, 4294967295 - (R (strOfNums xs) : Int) = v := ⟨_, rfl⟩
          obtain ⟨vT, hvT⟩ : ∃ v : Int, 4294967295 - (R t : Int) = v := ⟨_, rfl⟩
          have hS : ∀ q, Calls Tryd.prog 21 #[.string (strOfNums xs)] (wr.drewN q) fun e w' => e = .returned (.int .i64 vS) ∧ w' = wr.drewN q := fun q => by
            rw [← hvS, ← sumF_R]
            exact sum_calls _ _ (hG_.below (pw_below_drewN B2 q)) (by rw [strOf_size, hl]; exact Nat.le_trans hn (by decide))
          have hT : ∀ q, Calls Tryd.prog 21 #[.string t] (wr.drewN q) fun e w' => e = .returned (.int .i64 vT) ∧ w' = wr.drewN q := fun q => by
            rw [← hvT, ← sumF_R]
            exact sum_calls _ _ (hG_.below (pw_below_drewN B2 q)) (by rw [ht]; exact Nat.le_trans hn (by decide))
          have hstr : ∀ q, (convert 38 9 (.slice (some ⟨g, 0, none⟩) n cp)).run Tryd.prog (wr.drewN q) = .ok (.string (strOfNums xs)) (wr.drewN q) := fun q => by
            rw [← hl]
            exact (Buf.block (W := wr.drewN q) BU (drewN_heap wr q g)).str cp
          have fin : (ch == (vS != vT)) = true := by
            rw [← hvS, ← hvT]
            exact st_end HS.out ht hf hm FIN
          go_quiet ((first | with_reducible exact quiet_S hS _ | with_reducible exact quiet_S hT _))
          go_wp2_with fail
          go_ret
          exact ⟨by first | rfl | rw [fin], pw_below_drewN B2 _⟩
      · have FIN : m = 32 ∨ 8 * n ≤ f + m := .inl (by omega)
        have e1 : decide ((m : Int) < 32) = false := decide_eq_false (by omega)
        go_wp2_with fail
        obtain ⟨vS, hvS⟩ : ∃ v : Int, 4294967295 - (R (strOfNums xs) : Int) = v := ⟨_, rfl⟩
        obtain ⟨vT, hvT⟩ : ∃ v : Int, 4294967295 - (R t : Int) = v := ⟨_, rfl⟩
        have hS : ∀ q, Calls Tryd.prog 21 #[.string (strOfNums xs)] (wr.drewN q) fun e w' => e = .returned (.int .i64 vS) ∧ w' = wr.drewN q := fun q => by
          rw [← hvS, ← sumF_R]
          exact sum_calls _ _ (hG_.below (pw_below_drewN B2 q)) (by rw [strOf_size, hl]; exact Nat.le_trans hn (by decide))
        have hT : ∀ q, Calls Tryd.prog 21 #[.string t] (wr.drewN q) fun e w' => e = .returned (.int .i64 vT) ∧ w' = wr.drewN q := fun q => by
          rw [← hvT, ← sumF_R]
          exact sum_calls _ _ (hG_.below (pw_below_drewN B2 q)) (by rw [ht]; exact Nat.le_trans hn (by decide))
        have hstr : ∀ q, (convert 38 9 (.slice (some ⟨g, 0, none⟩) n cp)).run Tryd.prog (wr.drewN q) = .ok (.string (strOfNums xs)) (wr.drewN q) := fun q => by
          rw [← hl]
          exact (Buf.block (W := wr.drewN q) BU (drewN_heap wr q g)).str cp
        have fin : (ch == (vS != vT)) = true := by
          rw [← hvS, ← hvT]
          exact st_end HS.out ht hf hm FIN
        go_quiet ((first | with_reducible exact quiet_S hS _ | with_reducible exact quiet_S hT _))
        go_wp2_with fail
        go_ret
        exact ⟨by first | rfl | rw [fin], pw_below_drewN B2 _⟩
theorem u32_wf {n : Int} (h : (Lit.int .u32 n).wf = true) : ∃ b : Nat, n = (b : Int) ∧ b < 4294967296 := by
  simp [Lit.wf] at h
  have h1 : IntKind.u32.min = 0 := by decide
  have h2 : IntKind.u32.max = 4294967295 := by decide
  have h0 : 0 ≤ n ∧ n < 4294967296 := ⟨by omega, by omega⟩
  exact ⟨n.toNat, by omega, by omega⟩
theorem burst_row (s : ByteArray) (at_ b : Int) (w : World) (ws : s.size ≤ 140737488351232) (wa : (Lit.int .i64 at_).wf = true) (wb : (Lit.int .u32 b).wf = true) (hG_ : Amb w) :
    Calls Tryd.prog 8 #[.string s, .int .i64 at_, .int .u32 b] w fun e w' => e = .returned (.bool true) ∧ Below w.heap.size w w' := by
  obtain ⟨bits, rfl, hb⟩ := u32_wf wb
  obtain ⟨b0, b1⟩ := wf_bd wa
  obtain ⟨n, e1, hn, hns⟩ : ∃ n : Nat, (if 300 < (s.size : Int) then 300 else (s.size : Int)) = (n : Int) ∧ n ≤ 300 ∧ n ≤ s.size := by
    refine ⟨min 300 s.size, ?_, by omega, by omega⟩
    split <;> omega
  have hz : (s.extract 0 n).size = n := by rw [ByteArray.size_extract]; omega
  by_cases h0 : n = 0 ∨ bits = 0
  · exact burst_walk s _ at_ bits n w hG_ ws hb b0 b1 e1 rfl hn hns hz 0 (.inl h0)
  · obtain ⟨f, hf, f0, f1⟩ := pick_in (b := 8 * (n : Int)) b0 b1 (by omega)
    obtain ⟨f, rfl⟩ := Int.eq_ofNat_of_zero_le f0
    exact burst_walk s _ at_ bits n w hG_ ws hb b0 b1 e1 rfl hn hns hz f (.inr ⟨by omega, by omega, hf, by omega⟩)
end Go.Proofs.YtjjbhkaigfggdaaDoor.WPure
