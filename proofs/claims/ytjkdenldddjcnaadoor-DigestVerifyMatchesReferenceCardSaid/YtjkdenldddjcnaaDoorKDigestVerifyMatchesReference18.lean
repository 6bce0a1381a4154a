/- The contracts of functions, written by this session's program (wip/pp.py): what the list functions answer, the code comes to. No condition. The reference's Verify and VerifyExtension are the program's: what its printed list functions answer. Conditions: at most 1,000 strings of at most 60 bytes; numbers of 64 bits. DigestVerifyMatchesReference returns true for all arguments: the printed contract joined with the plain law. Condition: none but the sizes that any call has. -/
import Derived.Test.YtjkdenldddjcnaaDoorKDigestVerifyMatchesReference15
import Derived.Test.YtjkdenldddjcnaaDoorKDigestVerifyMatchesReference17
import Derived.Test.YtjkdenldddjcnaaDoorKDigestVerifyMatchesReference13
import Derived.Test.YtjkdenldddjcnaaDoorKDigestVerifyMatchesReference14
namespace Go.Proofs.YtjkdenldddjcnaaDoor.Dm
open Go.RowKit Go.Proofs.YtjkdenldddjcnaaDoor.Sha Go.Proofs.YtjkdenldddjcnaaDoor.Df Go.Proofs.YtjkdenldddjcnaaDoorW.PrintWords Go.Proofs.YtjkdenldddjcnaaDoorW.PrintLast Go.Proofs.YtjkdenldddjcnaaDoorW.PrintMore
attribute [local go_sem] max2_int min2_int max_two min_two max_three min_three max_four min_four   -- for this text's walks alone
set_option linter.unusedVariables false
set_option linter.unusedSimpArgs false

/-! ### clearwayref02_both: function 52 -/
def clearwayref02_both.f : Nat → ByteArray → Int → Int → List ByteArray → Bool → Option (ByteArray × ByteArray × Bool)
 | 0, _, _, _, _, _ => none
 | k + 1, a0, a1, a2, l3, a4 => if a1 = a2 then (if a4 = true then (some (a0, a0, decide ((wrap64 ((l3.length : Int) - 1)) < 0))) else (if (wrap64 ((l3.length : Int) - 1)) = 0 then (if 0 < (l3.length : Int) then (some (rdOf ByteArray.empty l3 0, rdOf ByteArray.empty l3 0, true)) else (none)) else (some ((⟨#[]⟩ : ByteArray), (⟨#[]⟩ : ByteArray), false)))) else (if (wrap64 ((l3.length : Int) - 1)) < 0 then (some ((⟨#[]⟩ : ByteArray), (⟨#[]⟩ : ByteArray), false)) else ((clearwayref02_Left.f k a2).bind fun t316 => (if a1 ≤ t316 then (if 0 ≤ (wrap64 ((l3.length : Int) - 1)) then (if (wrap64 ((l3.length : Int) - 1)) ≤ (l3.length : Int) then ((clearwayref02_both.f k a0 a1 t316 (l3.take ((wrap64 ((l3.length : Int) - 1)) : Int).toNat) a4).bind fun bt318 => (if (wrap64 ((l3.length : Int) - 1)) < (l3.length : Int) then ((clearwayref02_Node.f k bt318.2.1 (rdOf ByteArray.empty l3 (wrap64 ((l3.length : Int) - 1)))).bind fun t322 => (some (bt318.1, t322, bt318.2.2))) else (none))) else (none)) else (none)) else (if 0 ≤ (wrap64 ((l3.length : Int) - 1)) then (if (wrap64 ((l3.length : Int) - 1)) ≤ (l3.length : Int) then ((clearwayref02_both.f k a0 (wrap64 (a1 - t316)) (wrap64 (a2 - t316)) (l3.take ((wrap64 ((l3.length : Int) - 1)) : Int).toNat) false).bind fun bt324 => (if (wrap64 ((l3.length : Int) - 1)) < (l3.length : Int) then ((clearwayref02_Node.f k (rdOf ByteArray.empty l3 (wrap64 ((l3.length : Int) - 1))) bt324.1).bind fun t328 => ((clearwayref02_Node.f k (rdOf ByteArray.empty l3 (wrap64 ((l3.length : Int) - 1))) bt324.2.1).bind fun t330 => (some (t328, t330, bt324.2.2)))) else (none))) else (none)) else (none)))))
def clearwayref02_both.T7 : Bool × List (List Nat × List Nat) := (true, [([], []), ([0], [0]), ([1], [1]), ([], []), ([3], [3]), ([4], [4]), ([2, 0, 1, 2], [2]), ([5, 6, 0, 1, 2, 3, 4, 5, 6], [5]), ([7, 0, 1, 2, 3, 4, 5, 6, 7], [])])
def clearwayref02_both.B7 : List Nat := [0, 1, 3, 0, 8, 24, 7, 127, 255]
theorem clearwayref02_both.tab7 : rtab .any (opsOf Tryd.f52 7) = clearwayref02_both.T7 := by kernel_rfl
theorem clearwayref02_both.bits7 : waitsOk clearwayref02_both.T7.2 clearwayref02_both.B7 = true := by kernel_rfl
def clearwayref02_both.T15 : Bool × List (List Nat × List Nat) := (true, [([], []), ([], []), ([0, 1], [0, 1]), ([2], [2]), ([], []), ([3, 4], [3, 4]), ([], []), ([], []), ([6, 7], [6, 7]), ([8], [8]), ([], []), ([9, 10, 5], [9, 10]), ([], []), ([5, 11, 0, 1, 2, 3, 4, 5], [5]), ([11, 13, 0, 1, 2, 3, 4, 5, 6, 7, 8, 9, 10, 11, 13], [11]), ([12, 14, 0, 1, 2, 3, 4, 5, 6, 7, 8, 9, 10, 11, 12, 13, 14], [12])])
def clearwayref02_both.B15 : List Nat := [0, 0, 3, 7, 0, 31, 0, 0, 192, 448, 0, 2047, 0, 4095, 12287, 32767]
theorem clearwayref02_both.tab15 : rtab .any (opsOf Tryd.f52 15) = clearwayref02_both.T15 := by kernel_rfl
theorem clearwayref02_both.bits15 : waitsOk clearwayref02_both.T15.2 clearwayref02_both.B15 = true := by kernel_rfl
set_option maxHeartbeats 8000000 in
set_option maxRecDepth 100000 in
theorem clearwayref02_both.calls (k : Nat) : ∀ (a0 : ByteArray) (a1 : Int) (a2 : Int) (A3 : Option Addr) (c3 : Nat) (l3 : List ByteArray) (a4 : Bool) (r1 : ByteArray) (r2 : ByteArray) (r3 : Bool) (w : World) (hr3 : Kd.C Kd.string w A3 l3.length l3) (hc3 : l3.length ≤ c3) (h : clearwayref02_both.f k a0 a1 a2 l3 a4 = some (r1, r2, r3)),
  Calls Tryd.prog 52 #[.string a0, .int .i64 a1, .int .i64 a2, .slice A3 l3.length c3, .bool a4] w fun e w' => e = .returned (.tuple #[.string r1, .string r2, .bool r3]) ∧ Below w.heap.size w w' := by
 induction k using Nat.strongRecOn with
 | _ k ih =>
 intro a0 a1 a2 A3 c3 l3 a4 r1 r2 r3 w hr3 hc3 h
 cases k with
 | zero => exact absurd h (by simp [clearwayref02_both.f])
 | succ k =>
 simp only [clearwayref02_both.f] at h
 have HR3 := Aside0.mk hr3
 have HC3 := Aside0.mk hc3
 clear hr3 hc3
 have HB := Aside0.mk (Below.refl w.heap.size w)
 have H : (if a1 = a2 then (if a4 = true then (some (a0, a0, decide ((wrap64 ((l3.length : Int) - 1)) < 0))) else (if (wrap64 ((l3.length : Int) - 1)) = 0 then (if 0 < (l3.length : Int) then (some (rdOf ByteArray.empty l3 0, rdOf ByteArray.empty l3 0, true)) else (none)) else (some ((⟨#[]⟩ : ByteArray), (⟨#[]⟩ : ByteArray), false)))) else (if (wrap64 ((l3.length : Int) - 1)) < 0 then (some ((⟨#[]⟩ : ByteArray), (⟨#[]⟩ : ByteArray), false)) else ((clearwayref02_Left.f k a2).bind fun t316 => (if a1 ≤ t316 then (if 0 ≤ (wrap64 ((l3.length : Int) - 1)) then (if (wrap64 ((l3.length : Int) - 1)) ≤ (l3.length : Int) then ((clearwayref02_both.f k a0 a1 t316 (l3.take ((wrap64 ((l3.length : Int) - 1)) : Int).toNat) a4).bind fun bt318 => (if (wrap64 ((l3.length : Int) - 1)) < (l3.length : Int) then ((clearwayref02_Node.f k bt318.2.1 (rdOf ByteArray.empty l3 (wrap64 ((l3.length : Int) - 1)))).bind fun t322 => (some (bt318.1, t322, bt318.2.2))) else (none))) else (none)) else (none)) else (if 0 ≤ (wrap64 ((l3.length : Int) - 1)) then (if (wrap64 ((l3.length : Int) - 1)) ≤ (l3.length : Int) then ((clearwayref02_both.f k a0 (wrap64 (a1 - t316)) (wrap64 (a2 - t316)) (l3.take ((wrap64 ((l3.length : Int) - 1)) : Int).toNat) false).bind fun bt324 => (if (wrap64 ((l3.length : Int) - 1)) < (l3.length : Int) then ((clearwayref02_Node.f k (rdOf ByteArray.empty l3 (wrap64 ((l3.length : Int) - 1))) bt324.1).bind fun t328 => ((clearwayref02_Node.f k (rdOf ByteArray.empty l3 (wrap64 ((l3.length : Int) - 1))) bt324.2.1).bind fun t330 => (some (t328, t330, bt324.2.2)))) else (none))) else (none)) else (none)))))) = some (r1, r2, r3) := h
 clear h
 by_cases c6 : a1 = a2
 ·rw [if_pos c6] at H
  have c6b0 : (a1 == a2) = true := beq_iff_eq.mpr c6
  have c6b1 : (a1 != a2) = false := bne_eq_false_iff_eq.mpr c6
  clear c6
  by_cases c7 : a4 = true
  ·subst c7
   have H1 : (some (a0, a0, decide ((wrap64 ((l3.length : Int) - 1)) < 0))) = some (r1, r2, r3) := by rw [if_pos rfl] at H; exact H
   clear H
   have H := H1
   clear H1
   simp only [Option.some.injEq, Prod.mk.injEq] at H
   obtain ⟨rfl, rfl, rfl⟩ := H
   go_enter Tryd.func52, Tryd.ntmps52
   go_wp2
   go_ret3
   exact ⟨by first | rfl | (simp [errW_none, errW_some] <;> rfl) | (simp [*, errW_none, errW_some] <;> rfl), by repeat (first | (with_reducible first | exact HB.out | apply below_alloc | apply pw_below_drewN | apply below_drew1) | exact HB.out)⟩
  ·replace c7 := Bool.eq_false_iff.mpr c7
   subst c7
   have H1 : (if (wrap64 ((l3.length : Int) - 1)) = 0 then (if 0 < (l3.length : Int) then (some (rdOf ByteArray.empty l3 0, rdOf ByteArray.empty l3 0, true)) else (none)) else (some ((⟨#[]⟩ : ByteArray), (⟨#[]⟩ : ByteArray), false))) = some (r1, r2, r3) := by rw [if_neg (show ¬ (false = true) by decide)] at H; exact H
   clear H
   have H := H1
   clear H1
   by_cases c8 : (wrap64 ((l3.length : Int) - 1)) = 0
   ·rw [if_pos c8] at H
    have c8b0 : ((wrap64 ((l3.length : Int) - 1)) == 0) = true := beq_iff_eq.mpr c8
    have c8b1 : ((wrap64 ((l3.length : Int) - 1)) != 0) = false := bne_eq_false_iff_eq.mpr c8
    clear c8
    by_cases c9 : 0 < (l3.length : Int)
    ·rw [if_pos c9] at H
     have c9b0 : decide (0 < (l3.length : Int)) = true := decide_eq_true c9
     have c9b1 : decide (0 < l3.length) = true := decide_eq_true (by omega)
     clear c9
     simp only [Option.some.injEq, Prod.mk.injEq] at H
     obtain ⟨rfl, rfl, rfl⟩ := H
     go_enter Tryd.func52, Tryd.ntmps52
     try go_wp2
     have n0_ := Aside0.mk (below_drew1 HB.out)
     clear HB
     have HB := n0_
     clear n0_
     have p314 : 0 ≤ (0 : Int) := (by omega)
     have q314 : 0 < (l3.length : Int) := of_decide_eq_true (by first | (with_reducible assumption) | assumption)
     obtain ⟨ad314, e314, hx314_0⟩ := Kd.at_string HR3.out 0 p314 q314
     have hw314_0 := hx314_0
     (try rw [show ((0 : Int)).toNat = 0 from rfl] at hw314_0)
     (try rw [show 0 * 1 = 0 from rfl] at hw314_0)
     (try rw [Addr.add_zero'] at hw314_0)
     cases e314
     have qi314 : (0 < l3.length) = True := eq_true (by omega)
     (try rw [show ((0 : Int)).toNat = 0 from rfl] at hx314_0)
     (try rw [Addr.add_zero'] at hx314_0)
     replace hx314_0 := (HB.out.cell (World.block_lt_of_cell? w _ hx314_0)).trans hx314_0
     replace p314 := eq_true p314
     replace q314 := eq_true q314
     have p315 : 0 ≤ (0 : Int) := (by omega)
     have q315 : 0 < (l3.length : Int) := of_decide_eq_true (by first | (with_reducible assumption) | assumption)
     obtain ⟨ad315, e315, hx315_0⟩ := Kd.at_string HR3.out 0 p315 q315
     have hw315_0 := hx315_0
     (try rw [show ((0 : Int)).toNat = 0 from rfl] at hw315_0)
     (try rw [show 0 * 1 = 0 from rfl] at hw315_0)
     (try rw [Addr.add_zero'] at hw315_0)
     obtain rfl : ad314 = ad315 := (by injection e315)
     have qi315 : (0 < l3.length) = True := eq_true (by omega)
     (try rw [show ((0 : Int)).toNat = 0 from rfl] at hx315_0)
     (try rw [Addr.add_zero'] at hx315_0)
     replace hx315_0 := (HB.out.cell (World.block_lt_of_cell? w _ hx315_0)).trans hx315_0
     replace p315 := eq_true p315
     replace q315 := eq_true q315
     refine start_ (n := 9) (S := fun w' => w'.cell? ad314 = some (.string (rdOf ByteArray.empty l3 0)) ∧ w'.cell? ad314 = some (.string (rdOf ByteArray.empty l3 0))) (ds := []) #[false, false, false, false, false, false, false, false, false] (by kernel_rfl) rfl rfl ⟨((HB.out.cell (World.block_lt_of_cell? w _ hw314_0)).trans hw314_0), ((HB.out.cell (World.block_lt_of_cell? w _ hw315_0)).trans hw315_0)⟩ (fun hHeld => ?_); refine with_tabW clearwayref02_both.tab7 clearwayref02_both.bits7 (fun HT_ HW_ => ?_)
     generalize w.drew = w10 at HB hx314_0 hx315_0 hHeld ⊢
     refine pure_ (i := 0) (N := some 34) (v := ?_) (a' := ?_) #[true, false, false, false, false, false, false, false, false] rfl rfl (any_of HT_.out (by kernel_rfl)) (fun _ _ _ h => h) (Or.inl ⟨by rfl, ?_⟩) ?_ ?_
     rotate_left
     ·intro w'
      go_simp
      with_reducible rfl
     rotate_left
     ·simp only [Act.put, List.setIfInBounds_toArray, List.set_cons_zero, List.set_cons_succ, i64_w, i32_w]
      rfl
     refine pure_ (i := 1) (N := some 35) (v := ?_) (a' := ?_) #[true, true, false, false, false, false, false, false, false] rfl rfl (any_of HT_.out (by kernel_rfl)) (fun _ _ _ h => h) (Or.inl ⟨by rfl, ?_⟩) ?_ ?_
     rotate_left
     ·intro w'
      go_simp
      with_reducible rfl
     rotate_left
     ·simp only [Act.put, List.setIfInBounds_toArray, List.set_cons_zero, List.set_cons_succ, i64_w, i32_w]
      rfl
     refine pure_ (i := 3) (N := some 37) (v := ?_) (a' := ?_) #[true, true, false, true, false, false, false, false, false] rfl rfl (any_of HT_.out (by kernel_rfl)) (fun _ _ _ h => h) (Or.inl ⟨by rfl, ?_⟩) ?_ ?_
     rotate_left
     ·intro w'
      go_simp
      with_reducible rfl
     rotate_left
     ·simp only [Act.put, List.setIfInBounds_toArray, List.set_cons_zero, List.set_cons_succ, i64_w, i32_w]
      rfl
     refine pure_ (i := 4) (N := some 38) (v := ?_) (a' := ?_) #[true, true, false, true, true, false, false, false, false] rfl rfl (any_of HT_.out (by kernel_rfl)) (fun _ _ _ h => h) (Or.inl ⟨by rfl, ?_⟩) ?_ ?_
     rotate_left
     ·intro w'
      go_simp
      with_reducible rfl
     rotate_left
     ·simp only [Act.put, List.setIfInBounds_toArray, List.set_cons_zero, List.set_cons_succ, i64_w, i32_w]
      rfl
     refine take_ (i := 2) (N := some 36) (v := ?_) (a' := ?_) #[true, true, true, true, true, false, false, false, false] rfl rfl (take_ofW HT_.out HW_.out (by kernel_rfl)) (fun _ _ _ h => h) (Or.inl ⟨by rfl, ?_⟩) hHeld ?_ ?_
     rotate_left
     ·rintro w' ⟨s0, s1⟩
      go_simp
      with_reducible rfl
     rotate_left
     ·simp only [Act.put, List.setIfInBounds_toArray, List.set_cons_zero, List.set_cons_succ, i64_w, i32_w]
      rfl
     refine pure_ (i := 6) (N := some 10) (v := ?_) (a' := ?_) #[true, true, true, true, true, false, true, false, false] rfl rfl (any_of HT_.out (by kernel_rfl)) (fun _ _ _ h => h) (Or.inl ⟨by rfl, ?_⟩) ?_ ?_
     rotate_left
     ·intro w'
      go_simp
      with_reducible rfl
     rotate_left
     ·simp only [Act.put, List.setIfInBounds_toArray, List.set_cons_zero, List.set_cons_succ, i64_w, i32_w]
      rfl
     refine take_ (i := 5) (N := some 39) (v := ?_) (a' := ?_) #[true, true, true, true, true, true, true, false, false] rfl rfl (take_ofW HT_.out HW_.out (by kernel_rfl)) (fun _ _ _ h => h) (Or.inl ⟨by rfl, ?_⟩) hHeld ?_ ?_
     rotate_left
     ·rintro w' ⟨s0, s1⟩
      go_simp
      with_reducible rfl
     rotate_left
     ·simp only [Act.put, List.setIfInBounds_toArray, List.set_cons_zero, List.set_cons_succ, i64_w, i32_w]
      rfl
     refine pure_ (i := 7) (N := some 11) (v := ?_) (a' := ?_) #[true, true, true, true, true, true, true, true, false] rfl rfl (any_of HT_.out (by kernel_rfl)) (fun _ _ _ h => h) (Or.inl ⟨by rfl, ?_⟩) ?_ ?_
     rotate_left
     ·intro w'
      go_simp
      with_reducible rfl
     rotate_left
     ·simp only [Act.put, List.setIfInBounds_toArray, List.set_cons_zero, List.set_cons_succ, i64_w, i32_w]
      rfl
     refine pure_ (i := 8) (N := some 12) (v := ?_) (a' := ?_) #[true, true, true, true, true, true, true, true, true] rfl rfl (any_of HT_.out (by kernel_rfl)) (fun _ _ _ h => h) (Or.inl ⟨by rfl, ?_⟩) ?_ ?_
     rotate_left
     ·intro w'
      go_simp
      with_reducible rfl
     rotate_left
     ·simp only [Act.put, List.setIfInBounds_toArray, List.set_cons_zero, List.set_cons_succ, i64_w, i32_w]
      rfl
     refine done_ (done_of HT_.out (by kernel_rfl)) ?_
     try go_wp2
     go_ret3
     exact ⟨by first | rfl | (simp [errW_none, errW_some] <;> rfl) | (simp [*, errW_none, errW_some] <;> rfl), by repeat (first | (with_reducible first | exact HB.out | apply below_alloc | apply pw_below_drewN | apply below_drew1) | exact HB.out)⟩
    ·rw [if_neg c9] at H
     exact absurd H (by simp)
   ·rw [if_neg c8] at H
    have c8b0 : ((wrap64 ((l3.length : Int) - 1)) == 0) = false := beq_eq_false_iff_ne.mpr c8
    have c8b1 : ((wrap64 ((l3.length : Int) - 1)) != 0) = true := bne_iff_ne.mpr c8
    simp only [Option.some.injEq, Prod.mk.injEq] at H
    obtain ⟨rfl, rfl, rfl⟩ := H
    go_enter Tryd.func52, Tryd.ntmps52
    go_wp2
    go_ret3
    exact ⟨by first | rfl | (simp [errW_none, errW_some] <;> rfl) | (simp [*, errW_none, errW_some] <;> rfl), by repeat (first | (with_reducible first | exact HB.out | apply below_alloc | apply pw_below_drewN | apply below_drew1) | exact HB.out)⟩
 ·rw [if_neg c6] at H
  have c6b0 : (a1 == a2) = false := beq_eq_false_iff_ne.mpr c6
  have c6b1 : (a1 != a2) = true := bne_iff_ne.mpr c6
  by_cases c11 : (wrap64 ((l3.length : Int) - 1)) < 0
  ·rw [if_pos c11] at H
   have c11b0 : decide ((wrap64 ((l3.length : Int) - 1)) < 0) = true := decide_eq_true c11
   clear c11
   simp only [Option.some.injEq, Prod.mk.injEq] at H
   obtain ⟨rfl, rfl, rfl⟩ := H
   go_enter Tryd.func52, Tryd.ntmps52
   go_wp2
   go_ret3
   exact ⟨by first | rfl | (simp [errW_none, errW_some] <;> rfl) | (simp [*, errW_none, errW_some] <;> rfl), by repeat (first | (with_reducible first | exact HB.out | apply below_alloc | apply pw_below_drewN | apply below_drew1) | exact HB.out)⟩
  ·rw [if_neg c11] at H
   have c11b0 : decide ((wrap64 ((l3.length : Int) - 1)) < 0) = false := decide_eq_false c11
   clear c11
   replace H := Option.bind_eq_some_iff.mp H
   obtain ⟨t316, A120, H⟩ := H
   replace H : (if a1 ≤ t316 then (if 0 ≤ (wrap64 ((l3.length : Int) - 1)) then (if (wrap64 ((l3.length : Int) - 1)) ≤ (l3.length : Int) then ((clearwayref02_both.f k a0 a1 t316 (l3.take ((wrap64 ((l3.length : Int) - 1)) : Int).toNat) a4).bind fun bt318 => (if (wrap64 ((l3.length : Int) - 1)) < (l3.length : Int) then ((clearwayref02_Node.f k bt318.2.1 (rdOf ByteArray.empty l3 (wrap64 ((l3.length : Int) - 1)))).bind fun t322 => (some (bt318.1, t322, bt318.2.2))) else (none))) else (none)) else (none)) else (if 0 ≤ (wrap64 ((l3.length : Int) - 1)) then (if (wrap64 ((l3.length : Int) - 1)) ≤ (l3.length : Int) then ((clearwayref02_both.f k a0 (wrap64 (a1 - t316)) (wrap64 (a2 - t316)) (l3.take ((wrap64 ((l3.length : Int) - 1)) : Int).toNat) false).bind fun bt324 => (if (wrap64 ((l3.length : Int) - 1)) < (l3.length : Int) then ((clearwayref02_Node.f k (rdOf ByteArray.empty l3 (wrap64 ((l3.length : Int) - 1))) bt324.1).bind fun t328 => ((clearwayref02_Node.f k (rdOf ByteArray.empty l3 (wrap64 ((l3.length : Int) - 1))) bt324.2.1).bind fun t330 => (some (t328, t330, bt324.2.2)))) else (none))) else (none)) else (none))) = some (r1, r2, r3) := H
   have A12 := Aside0.mk A120
   clear A120
   by_cases c13 : a1 ≤ t316
   ·rw [if_pos c13] at H
    have c13b0 : decide (a1 ≤ t316) = true := decide_eq_true c13
    clear c13
    obtain ⟨ji14, hji14⟩ : ∃ j_ : Int, (wrap64 ((l3.length : Int) - 1)) = j_ := ⟨_, rfl⟩
    replace H : (if 0 ≤ (ji14) then (if (ji14) ≤ (l3.length : Int) then ((clearwayref02_both.f k a0 a1 t316 (l3.take ((ji14) : Int).toNat) a4).bind fun bt318 => (if (ji14) < (l3.length : Int) then ((clearwayref02_Node.f k bt318.2.1 (rdOf ByteArray.empty l3 (ji14))).bind fun t322 => (some (bt318.1, t322, bt318.2.2))) else (none))) else (none)) else (none)) = some (r1, r2, r3) := by first | (rw [hji14] at H; exact H) | (simp only [hji14] at H ⊢; exact H)
    (try rw [hji14] at c11b0)
    (try rw [hji14] at A12)
    have hji14w : (IntKind.i64.wrap ((l3.length : Int) - 1)) = ji14 := (i64_w _).trans hji14
    by_cases c15 : 0 ≤ (ji14)
    ·rw [if_pos c15] at H
     have c15b0 := eq_true c15
     have c15b1 : decide (0 ≤ (ji14)) = true := decide_eq_true c15
     clear c15
     by_cases c16 : (ji14) ≤ (l3.length : Int)
     ·rw [if_pos c16] at H
      have c16b0 := eq_true c16
      have c16b1 : decide ((ji14) ≤ (l3.length : Int)) = true := decide_eq_true c16
      clear c16
      replace H := Option.bind_eq_some_iff.mp H
      obtain ⟨⟨t318, t319, t320⟩, A170, H⟩ := H
      replace H : (if (ji14) < (l3.length : Int) then ((clearwayref02_Node.f k t319 (rdOf ByteArray.empty l3 (ji14))).bind fun t322 => (some (t318, t322, t320))) else (none)) = some (r1, r2, r3) := H
      have A17 := Aside0.mk A170
      clear A170
      by_cases c18 : (ji14) < (l3.length : Int)
      ·rw [if_pos c18] at H
       have c18b0 : decide ((ji14) < (l3.length : Int)) = true := decide_eq_true c18
       clear c18
       replace H := Option.bind_eq_some_iff.mp H
       obtain ⟨t322, A190, H⟩ := H
       replace H : (some (t318, t322, t320)) = some (r1, r2, r3) := H
       have A19 := Aside0.mk A190
       clear A190
       simp only [Option.some.injEq, Prod.mk.injEq] at H
       obtain ⟨rfl, rfl, rfl⟩ := H
       go_enter Tryd.func52, Tryd.ntmps52
       go_wp2_with (first | ((with_reducible refine gate_callee (f := 42) rfl ?_); refine goesL_ (some 43) rfl rfl Tryd.func42 (by kernel_rfl) rfl #[.int .i64 a2] rfl (by (try simp only [List.map_toArray, List.map_cons, List.map_nil]); first | done | rfl | (simp only [List.length_drop, List.length_take]; rfl)) ?_; (with_reducible refine (clearwayref02_Left.calls k a2 t316 _ A12.out).mono ?_); rintro e w' ⟨rfl, ⟨nd, rfl⟩⟩; refine ⟨_, rfl, ?_⟩; obtain ⟨i020, hi020, _, hsz20, _⟩ := info_parts info9; obtain ⟨hcut20, hA20, hC20⟩ := print_take_of (P := Tryd.prog) Value.string (⟨#[]⟩ : ByteArray) 22 9 .i64 Tryd.underlying22 hi020 hsz20 A3 c3 l3 (ji14) (of_decide_eq_true (by first | (with_reducible assumption) | assumption)) (of_decide_eq_true (by first | (with_reducible assumption) | assumption)) HC3.out; have HR317 := Aside0.mk (Kd.C_of_reads (h1 := fun _ => rfl) (hA20 _ (Kd.reads_of_C HR3.out))); have HC317 := Aside0.mk hC20; clear hA20 hC20 hi020 hsz20) | ((with_reducible refine gate_callee (f := 52) rfl ?_); refine goesL_ (some 55) rfl rfl Tryd.func52 (by kernel_rfl) rfl #[.string a0, .int .i64 a1, .int .i64 t316, .slice A3 (l3.take ((ji14) : Int).toNat).length c3, .bool a4] rfl (by (try simp only [List.map_toArray, List.map_cons, List.map_nil]); first | done | (rw [show (l3.take ((ji14) : Int).toNat).length = (ji14).toNat from (by rw [List.length_take]; have h_ : ((ji14) : Int) ≤ (l3.length : Int) := of_decide_eq_true (by first | (with_reducible assumption) | assumption); omega)] <;> rfl) | (simp only [hji14]; rfl) | rfl | (simp only [List.length_drop, List.length_take]; rfl)) ?_; (with_reducible refine (ih k (by omega) a0 a1 t316 _ _ (l3.take ((ji14) : Int).toNat) a4 t318 t319 t320 _ ?side1 ?side2 A17.out).mono ?_); (case side1 => repeat (first | exact HR317.out | (with_reducible refine Kd.C_alloc ?_ _) | (with_reducible refine Kd.C_drewN ?_ _) | (with_reducible refine Kd.C_drew ?_))); (case side2 => exact HC317.out); rintro e w21 ⟨rfl, hb⟩; refine ⟨_, rfl, ?_⟩; have n0_ := Aside0.mk (below_step (by repeat (first | (with_reducible first | exact HB.out | apply below_alloc | apply pw_below_drewN | apply below_drew1) | exact HB.out)) hb); clear HB; have HB := n0_; clear n0_; (try clear hb); (try clear hb2); (try clear hk); (try clear hi); have p321 : 0 ≤ ((ji14) : Int) := of_decide_eq_true (by first | (with_reducible assumption) | assumption); have q321 : (ji14) < (l3.length : Int) := of_decide_eq_true (by first | (with_reducible assumption) | assumption); obtain ⟨ad321, e321, hx321_0⟩ := Kd.at_string HR3.out (ji14) p321 q321; cases e321; replace hx321_0 := (HB.out.cell (World.block_lt_of_cell? w _ hx321_0)).trans hx321_0; replace p321 := eq_true p321; replace q321 := eq_true q321) | ((with_reducible refine gate_callee (f := 35) rfl ?_); refine goesL_ (some 65) rfl rfl Tryd.func35 (by kernel_rfl) rfl #[.string t319, .string (rdOf ByteArray.empty l3 (ji14))] rfl (by (try simp only [List.map_toArray, List.map_cons, List.map_nil]); first | done | (simp only [hji14]; rfl) | rfl | (simp only [List.length_drop, List.length_take]; rfl)) ?_; (with_reducible refine (clearwayref02_Node.calls k t319 (rdOf ByteArray.empty l3 (ji14)) t322 _ A19.out).mono ?_); rintro e w22 ⟨rfl, hb⟩; refine ⟨_, rfl, ?_⟩; have n0_ := Aside0.mk (below_step (by repeat (first | (with_reducible first | exact HB.out | apply below_alloc | apply pw_below_drewN | apply below_drew1) | exact HB.out)) hb); clear HB; have HB := n0_; clear n0_; (try clear hb); (try clear hb2); (try clear hk); (try clear hi)))
       go_ret3
       exact ⟨by first | rfl | (simp [errW_none, errW_some] <;> rfl) | (simp only [← hji14]; first | rfl | (simp [errW_none, errW_some] <;> rfl)) | (simp [*, errW_none, errW_some] <;> rfl), by repeat (first | (with_reducible first | exact HB.out | apply below_alloc | apply pw_below_drewN | apply below_drew1) | exact HB.out)⟩
      ·rw [if_neg c18] at H
       exact absurd H (by simp)
     ·rw [if_neg c16] at H
      exact absurd H (by simp)
    ·rw [if_neg c15] at H
     exact absurd H (by simp)
   ·rw [if_neg c13] at H
    have c13b0 : decide (a1 ≤ t316) = false := decide_eq_false c13
    clear c13
    obtain ⟨ji23, hji23⟩ : ∃ j_ : Int, (wrap64 ((l3.length : Int) - 1)) = j_ := ⟨_, rfl⟩
    replace H : (if 0 ≤ (ji23) then (if (ji23) ≤ (l3.length : Int) then ((clearwayref02_both.f k a0 (wrap64 (a1 - t316)) (wrap64 (a2 - t316)) (l3.take ((ji23) : Int).toNat) false).bind fun bt324 => (if (ji23) < (l3.length : Int) then ((clearwayref02_Node.f k (rdOf ByteArray.empty l3 (ji23)) bt324.1).bind fun t328 => ((clearwayref02_Node.f k (rdOf ByteArray.empty l3 (ji23)) bt324.2.1).bind fun t330 => (some (t328, t330, bt324.2.2)))) else (none))) else (none)) else (none)) = some (r1, r2, r3) := by first | (rw [hji23] at H; exact H) | (simp only [hji23] at H ⊢; exact H)
    (try rw [hji23] at c11b0)
    (try rw [hji23] at A12)
    have hji23w : (IntKind.i64.wrap ((l3.length : Int) - 1)) = ji23 := (i64_w _).trans hji23
    by_cases c24 : 0 ≤ (ji23)
    ·rw [if_pos c24] at H
     have c24b0 := eq_true c24
     have c24b1 : decide (0 ≤ (ji23)) = true := decide_eq_true c24
     clear c24
     by_cases c25 : (ji23) ≤ (l3.length : Int)
     ·rw [if_pos c25] at H
      have c25b0 := eq_true c25
      have c25b1 : decide ((ji23) ≤ (l3.length : Int)) = true := decide_eq_true c25
      clear c25
      replace H := Option.bind_eq_some_iff.mp H
      obtain ⟨⟨t324, t325, t326⟩, A260, H⟩ := H
      replace H : (if (ji23) < (l3.length : Int) then ((clearwayref02_Node.f k (rdOf ByteArray.empty l3 (ji23)) t324).bind fun t328 => ((clearwayref02_Node.f k (rdOf ByteArray.empty l3 (ji23)) t325).bind fun t330 => (some (t328, t330, t326)))) else (none)) = some (r1, r2, r3) := H
      have A26 := Aside0.mk A260
      clear A260
      by_cases c27 : (ji23) < (l3.length : Int)
      ·rw [if_pos c27] at H
       have c27b0 : decide ((ji23) < (l3.length : Int)) = true := decide_eq_true c27
       clear c27
       replace H := Option.bind_eq_some_iff.mp H
       obtain ⟨t328, A280, H⟩ := H
       replace H : ((clearwayref02_Node.f k (rdOf ByteArray.empty l3 (ji23)) t325).bind fun t330 => (some (t328, t330, t326))) = some (r1, r2, r3) := H
       have A28 := Aside0.mk A280
       clear A280
       replace H := Option.bind_eq_some_iff.mp H
       obtain ⟨t330, A290, H⟩ := H
       replace H : (some (t328, t330, t326)) = some (r1, r2, r3) := H
       have A29 := Aside0.mk A290
       clear A290
       simp only [Option.some.injEq, Prod.mk.injEq] at H
       obtain ⟨rfl, rfl, rfl⟩ := H
       go_enter Tryd.func52, Tryd.ntmps52
       try go_wp2_with (first | ((with_reducible refine gate_callee (f := 42) rfl ?_); refine goesL_ (some 43) rfl rfl Tryd.func42 (by kernel_rfl) rfl #[.int .i64 a2] rfl (by (try simp only [List.map_toArray, List.map_cons, List.map_nil]); first | done | rfl | (simp only [List.length_drop, List.length_take]; rfl)) ?_; (with_reducible refine (clearwayref02_Left.calls k a2 t316 _ A12.out).mono ?_); rintro e w' ⟨rfl, ⟨nd, rfl⟩⟩; refine ⟨_, rfl, ?_⟩; obtain ⟨i030, hi030, _, hsz30, _⟩ := info_parts info9; obtain ⟨hcut30, hA30, hC30⟩ := print_take_of (P := Tryd.prog) Value.string (⟨#[]⟩ : ByteArray) 22 9 .i64 Tryd.underlying22 hi030 hsz30 A3 c3 l3 (ji23) (of_decide_eq_true (by first | (with_reducible assumption) | assumption)) (of_decide_eq_true (by first | (with_reducible assumption) | assumption)) HC3.out; have HR323 := Aside0.mk (Kd.C_of_reads (h1 := fun _ => rfl) (hA30 _ (Kd.reads_of_C HR3.out))); have HC323 := Aside0.mk hC30; clear hA30 hC30 hi030 hsz30) | ((with_reducible refine gate_callee (f := 52) rfl ?_); refine goesL_ (some 78) rfl rfl Tryd.func52 (by kernel_rfl) rfl #[.string a0, .int .i64 (wrap64 (a1 - t316)), .int .i64 (wrap64 (a2 - t316)), .slice A3 (l3.take ((ji23) : Int).toNat).length c3, .bool false] rfl (by (try simp only [List.map_toArray, List.map_cons, List.map_nil]); first | done | (rw [show (l3.take ((ji23) : Int).toNat).length = (ji23).toNat from (by rw [List.length_take]; have h_ : ((ji23) : Int) ≤ (l3.length : Int) := of_decide_eq_true (by first | (with_reducible assumption) | assumption); omega)] <;> rfl) | (simp only [hji23]; rfl) | rfl | (simp only [List.length_drop, List.length_take]; rfl)) ?_; (with_reducible refine (ih k (by omega) a0 (wrap64 (a1 - t316)) (wrap64 (a2 - t316)) _ _ (l3.take ((ji23) : Int).toNat) false t324 t325 t326 _ ?side1 ?side2 A26.out).mono ?_); (case side1 => repeat (first | exact HR323.out | (with_reducible refine Kd.C_alloc ?_ _) | (with_reducible refine Kd.C_drewN ?_ _) | (with_reducible refine Kd.C_drew ?_))); (case side2 => exact HC323.out); rintro e w31 ⟨rfl, hb⟩; refine ⟨_, rfl, ?_⟩; have n0_ := Aside0.mk (below_step (by repeat (first | (with_reducible first | exact HB.out | apply below_alloc | apply pw_below_drewN | apply below_drew1) | exact HB.out)) hb); clear HB; have HB := n0_; clear n0_; (try clear hb); (try clear hb2); (try clear hk); (try clear hi)))
       have n0_ := Aside0.mk (below_drew1 HB.out)
       clear HB
       have HB := n0_
       clear n0_
       have p327 : 0 ≤ ((ji23) : Int) := of_decide_eq_true (by first | (with_reducible assumption) | assumption)
       have q327 : (ji23) < (l3.length : Int) := of_decide_eq_true (by first | (with_reducible assumption) | assumption)
       obtain ⟨ad327, e327, hx327_0⟩ := Kd.at_string HR3.out (ji23) p327 q327
       have hw327_0 := hx327_0
       cases e327
       replace hx327_0 := (HB.out.cell (World.block_lt_of_cell? w _ hx327_0)).trans hx327_0
       replace p327 := eq_true p327
       replace q327 := eq_true q327
       have p329 : 0 ≤ ((ji23) : Int) := of_decide_eq_true (by first | (with_reducible assumption) | assumption)
       have q329 : (ji23) < (l3.length : Int) := of_decide_eq_true (by first | (with_reducible assumption) | assumption)
       obtain ⟨ad329, e329, hx329_0⟩ := Kd.at_string HR3.out (ji23) p329 q329
       have hw329_0 := hx329_0
       obtain rfl : ad327 = ad329 := (by injection e329)
       replace hx329_0 := (HB.out.cell (World.block_lt_of_cell? w _ hx329_0)).trans hx329_0
       replace p329 := eq_true p329
       replace q329 := eq_true q329
       refine start_ (n := 16) (S := fun w' => w'.cell? (ad327.add ((ji23)).toNat) = some (.string (rdOf ByteArray.empty l3 (ji23))) ∧ w'.cell? (ad327.add ((ji23)).toNat) = some (.string (rdOf ByteArray.empty l3 (ji23)))) (ds := []) #[false, false, false, false, false, false, false, false, false, false, false, false, false, false, false, false] (by kernel_rfl) rfl rfl ⟨((HB.out.cell (World.block_lt_of_cell? w _ hw327_0)).trans hw327_0), ((HB.out.cell (World.block_lt_of_cell? w _ hw329_0)).trans hw329_0)⟩ (fun hHeld => ?_); refine with_tabW clearwayref02_both.tab15 clearwayref02_both.bits15 (fun HT_ HW_ => ?_)
       generalize w31.drew = w32 at HB hx327_0 hx329_0 hHeld ⊢
       refine pure_ (i := 0) (N := some 82) (v := ?_) (a' := ?_) #[true, false, false, false, false, false, false, false, false, false, false, false, false, false, false, false] rfl rfl (any_of HT_.out (by kernel_rfl)) (fun _ _ _ h => h) (Or.inl ⟨by rfl, ?_⟩) ?_ ?_
       rotate_left
       ·intro w'
        go_simp
        with_reducible rfl
       rotate_left
       ·simp only [Act.put, List.setIfInBounds_toArray, List.set_cons_zero, List.set_cons_succ, i64_w, i32_w]
        rfl
       refine pure_ (i := 1) (N := some 83) (v := ?_) (a' := ?_) #[true, true, false, false, false, false, false, false, false, false, false, false, false, false, false, false] rfl rfl (any_of HT_.out (by kernel_rfl)) (fun _ _ _ h => h) (Or.inl ⟨by rfl, ?_⟩) ?_ ?_
       rotate_left
       ·intro w'
        go_simp
        with_reducible rfl
       rotate_left
       ·simp only [Act.put, List.setIfInBounds_toArray, List.set_cons_zero, List.set_cons_succ, i64_w, i32_w]
        rfl
       refine pure_ (i := 2) (N := some 84) (v := ?_) (a' := ?_) #[true, true, true, false, false, false, false, false, false, false, false, false, false, false, false, false] rfl rfl (any_of HT_.out (by kernel_rfl)) (fun _ _ _ h => h) (Or.inl ⟨by rfl, ?_⟩) ?_ ?_
       rotate_left
       ·intro w'
        go_simp
        with_reducible rfl
       rotate_left
       ·simp only [Act.put, List.setIfInBounds_toArray, List.set_cons_zero, List.set_cons_succ, i64_w, i32_w]
        rfl
       refine pure_ (i := 4) (N := some 86) (v := ?_) (a' := ?_) #[true, true, true, false, true, false, false, false, false, false, false, false, false, false, false, false] rfl rfl (any_of HT_.out (by kernel_rfl)) (fun _ _ _ h => h) (Or.inl ⟨by rfl, ?_⟩) ?_ ?_
       rotate_left
       ·intro w'
        go_simp
        with_reducible rfl
       rotate_left
       ·simp only [Act.put, List.setIfInBounds_toArray, List.set_cons_zero, List.set_cons_succ, i64_w, i32_w]
        rfl
       refine pure_ (i := 6) (N := some 88) (v := ?_) (a' := ?_) #[true, true, true, false, true, false, true, false, false, false, false, false, false, false, false, false] rfl rfl (any_of HT_.out (by kernel_rfl)) (fun _ _ _ h => h) (Or.inl ⟨by rfl, ?_⟩) ?_ ?_
       rotate_left
       ·intro w'
        go_simp
        with_reducible rfl
       rotate_left
       ·simp only [Act.put, List.setIfInBounds_toArray, List.set_cons_zero, List.set_cons_succ, i64_w, i32_w]
        rfl
       refine pure_ (i := 7) (N := some 89) (v := ?_) (a' := ?_) #[true, true, true, false, true, false, true, true, false, false, false, false, false, false, false, false] rfl rfl (any_of HT_.out (by kernel_rfl)) (fun _ _ _ h => h) (Or.inl ⟨by rfl, ?_⟩) ?_ ?_
       rotate_left
       ·intro w'
        go_simp
        with_reducible rfl
       rotate_left
       ·simp only [Act.put, List.setIfInBounds_toArray, List.set_cons_zero, List.set_cons_succ, i64_w, i32_w]
        rfl
       refine pure_ (i := 8) (N := some 90) (v := ?_) (a' := ?_) #[true, true, true, false, true, false, true, true, true, false, false, false, false, false, false, false] rfl rfl (any_of HT_.out (by kernel_rfl)) (fun _ _ _ h => h) (Or.inl ⟨by rfl, ?_⟩) ?_ ?_
       rotate_left
       ·intro w'
        go_simp
        with_reducible rfl
       rotate_left
       ·simp only [Act.put, List.setIfInBounds_toArray, List.set_cons_zero, List.set_cons_succ, i64_w, i32_w]
        rfl
       refine pure_ (i := 10) (N := some 92) (v := ?_) (a' := ?_) #[true, true, true, false, true, false, true, true, true, false, true, false, false, false, false, false] rfl rfl (any_of HT_.out (by kernel_rfl)) (fun _ _ _ h => h) (Or.inl ⟨by rfl, ?_⟩) ?_ ?_
       rotate_left
       ·intro w'
        go_simp
        with_reducible rfl
       rotate_left
       ·simp only [Act.put, List.setIfInBounds_toArray, List.set_cons_zero, List.set_cons_succ, i64_w, i32_w]
        rfl
       refine pure_ (i := 12) (N := some 94) (v := ?_) (a' := ?_) #[true, true, true, false, true, false, true, true, true, false, true, false, true, false, false, false] rfl rfl (any_of HT_.out (by kernel_rfl)) (fun _ _ _ h => h) (Or.inl ⟨by rfl, ?_⟩) ?_ ?_
       rotate_left
       ·intro w'
        go_simp
        with_reducible rfl
       rotate_left
       ·simp only [Act.put, List.setIfInBounds_toArray, List.set_cons_zero, List.set_cons_succ, i64_w, i32_w]
        rfl
       refine take_ (i := 3) (N := some 85) (v := ?_) (a' := ?_) #[true, true, true, true, true, false, true, true, true, false, true, false, true, false, false, false] rfl rfl (take_ofW HT_.out HW_.out (by kernel_rfl)) (fun _ _ _ h => h) (Or.inl ⟨by rfl, ?_⟩) hHeld ?_ ?_
       rotate_left
       ·rintro w' ⟨s0, s1⟩
        go_simp
        with_reducible rfl
       rotate_left
       ·simp only [Act.put, List.setIfInBounds_toArray, List.set_cons_zero, List.set_cons_succ, i64_w, i32_w]
        rfl
       refine take_ (i := 9) (N := some 91) (v := ?_) (a' := ?_) #[true, true, true, true, true, false, true, true, true, true, true, false, true, false, false, false] rfl rfl (take_ofW HT_.out HW_.out (by kernel_rfl)) (fun _ _ _ h => h) (Or.inl ⟨by rfl, ?_⟩) hHeld ?_ ?_
       rotate_left
       ·rintro w' ⟨s0, s1⟩
        go_simp
        with_reducible rfl
       rotate_left
       ·simp only [Act.put, List.setIfInBounds_toArray, List.set_cons_zero, List.set_cons_succ, i64_w, i32_w]
        rfl
       refine one_ (i := 5) (N := some 87) #[true, true, true, true, true, true, true, true, true, true, true, false, true, false, false, false] rfl rfl (one_of HT_.out (by kernel_rfl)) (by decide) (fun K hK => ?_)
       refine goes_ Tryd.func35 (by kernel_rfl) rfl #[.string (rdOf ByteArray.empty l3 (ji23)), .string t324] (by rfl) rfl rfl (by (try simp only [List.map_toArray, List.map_cons, List.map_nil]); first | done | (simp only [hji23]; rfl) | rfl | (simp only [List.length_drop, List.length_take]; rfl)) ?_
       with_reducible refine (clearwayref02_Node.calls k (rdOf ByteArray.empty l3 (ji23)) t324 t328 _ A28.out).mono ?_
       rintro e w33 ⟨rfl, hb⟩
       refine ⟨_, rfl, ?_⟩
       have n0_ := Aside0.mk (below_step (by repeat (first | (with_reducible first | exact HB.out | apply below_alloc | apply pw_below_drewN | apply below_drew1) | exact HB.out)) hb)
       clear HB
       have HB := n0_
       clear n0_
       (try clear hb)
       (try clear hb2)
       (try clear hk)
       (try clear hi)
       refine hK.out _ _ ⟨((HB.out.cell (World.block_lt_of_cell? w _ hw327_0)).trans hw327_0), ((HB.out.cell (World.block_lt_of_cell? w _ hw329_0)).trans hw329_0)⟩ (fun hHeld => ?_)
       clear hK K
       refine norm_ (a' := ?_) ?_ ?_
       rotate_left
       ·show Act.put _ (some 87) _ = _
        simp only [Act.put, List.setIfInBounds_toArray, List.set_cons_zero, List.set_cons_succ, i64_w, i32_w]
        rfl
       refine one_ (i := 11) (N := some 93) #[true, true, true, true, true, true, true, true, true, true, true, true, true, false, false, false] rfl rfl (one_of HT_.out (by kernel_rfl)) (by decide) (fun K hK => ?_)
       refine goes_ Tryd.func35 (by kernel_rfl) rfl #[.string (rdOf ByteArray.empty l3 (ji23)), .string t325] (by rfl) rfl rfl (by (try simp only [List.map_toArray, List.map_cons, List.map_nil]); first | done | (simp only [hji23]; rfl) | rfl | (simp only [List.length_drop, List.length_take]; rfl)) ?_
       with_reducible refine (clearwayref02_Node.calls k (rdOf ByteArray.empty l3 (ji23)) t325 t330 _ A29.out).mono ?_
       rintro e w34 ⟨rfl, hb⟩
       refine ⟨_, rfl, ?_⟩
       have n0_ := Aside0.mk (below_step (by repeat (first | (with_reducible first | exact HB.out | apply below_alloc | apply pw_below_drewN | apply below_drew1) | exact HB.out)) hb)
       clear HB
       have HB := n0_
       clear n0_
       (try clear hb)
       (try clear hb2)
       (try clear hk)
       (try clear hi)
       refine hK.out _ _ ⟨((HB.out.cell (World.block_lt_of_cell? w _ hw327_0)).trans hw327_0), ((HB.out.cell (World.block_lt_of_cell? w _ hw329_0)).trans hw329_0)⟩ (fun hHeld => ?_)
       clear hK K
       refine norm_ (a' := ?_) ?_ ?_
       rotate_left
       ·show Act.put _ (some 93) _ = _
        simp only [Act.put, List.setIfInBounds_toArray, List.set_cons_zero, List.set_cons_succ, i64_w, i32_w]
        rfl
       refine pure_ (i := 13) (N := some 10) (v := ?_) (a' := ?_) #[true, true, true, true, true, true, true, true, true, true, true, true, true, true, false, false] rfl rfl (any_of HT_.out (by kernel_rfl)) (fun _ _ _ h => h) (Or.inl ⟨by rfl, ?_⟩) ?_ ?_
       rotate_left
       ·intro w'
        go_simp
        with_reducible rfl
       rotate_left
       ·simp only [Act.put, List.setIfInBounds_toArray, List.set_cons_zero, List.set_cons_succ, i64_w, i32_w]
        rfl
       refine pure_ (i := 14) (N := some 11) (v := ?_) (a' := ?_) #[true, true, true, true, true, true, true, true, true, true, true, true, true, true, true, false] rfl rfl (any_of HT_.out (by kernel_rfl)) (fun _ _ _ h => h) (Or.inl ⟨by rfl, ?_⟩) ?_ ?_
       rotate_left
       ·intro w'
        go_simp
        with_reducible rfl
       rotate_left
       ·simp only [Act.put, List.setIfInBounds_toArray, List.set_cons_zero, List.set_cons_succ, i64_w, i32_w]
        rfl
       refine pure_ (i := 15) (N := some 12) (v := ?_) (a' := ?_) #[true, true, true, true, true, true, true, true, true, true, true, true, true, true, true, true] rfl rfl (any_of HT_.out (by kernel_rfl)) (fun _ _ _ h => h) (Or.inl ⟨by rfl, ?_⟩) ?_ ?_
       rotate_left
       ·intro w'
        go_simp
        with_reducible rfl
       rotate_left
       ·simp only [Act.put, List.setIfInBounds_toArray, List.set_cons_zero, List.set_cons_succ, i64_w, i32_w]
        rfl
       refine done_ (done_of HT_.out (by kernel_rfl)) ?_
       try go_wp2
       go_ret3
       exact ⟨by first | rfl | (simp [errW_none, errW_some] <;> rfl) | (simp only [← hji23]; first | rfl | (simp [errW_none, errW_some] <;> rfl)) | (simp [*, errW_none, errW_some] <;> rfl), by repeat (first | (with_reducible first | exact HB.out | apply below_alloc | apply pw_below_drewN | apply below_drew1) | exact HB.out)⟩
      ·rw [if_neg c27] at H
       exact absurd H (by simp)
     ·rw [if_neg c25] at H
      exact absurd H (by simp)
    ·rw [if_neg c24] at H
     exact absurd H (by simp)

/-! ### clearwayref02_VerifyExtension: function 24 -/
def clearwayref02_VerifyExtension.j0 : Nat → ByteArray → Int → ByteArray → Int → List ByteArray → Bool → Option (Bool)
 | 0, _, _, _, _, _, _ => none
 | k + 1, x0, x1, x2, x3, x4, x37 => if x37 = true then (some false) else (if x1 = 0 then (if (x4.length : Int) = 0 then ((clearwayref02_Sum.f k (⟨#[]⟩ : ByteArray)).bind fun t332 => (some (x0.toList == t332.toList))) else (some false)) else (if x1 = x3 then (if (x4.length : Int) = 0 then (some (x0.toList == x2.toList)) else (some false)) else ((clearwayref02_both.f k x0 x1 x3 x4 true).bind fun bt333 => (if bt333.2.2 = true then (if bt333.1.toList = x0.toList then (some (bt333.2.1.toList == x2.toList)) else (some false)) else (some false)))))
def clearwayref02_VerifyExtension.f (k : Nat) (a0 : ByteArray) (a1 : Int) (a2 : ByteArray) (a3 : Int) (l4 : List ByteArray) : Option (Bool) := (clearwayref02_Digests.f k l4).bind fun t331 => (if a1 < 0 then (clearwayref02_VerifyExtension.j0 k a0 a1 a2 a3 l4 true) else (if a1 > a3 then (clearwayref02_VerifyExtension.j0 k a0 a1 a2 a3 l4 true) else (if t331 = true then (if (a0.size : Int) = 32 then (clearwayref02_VerifyExtension.j0 k a0 a1 a2 a3 l4 ((a2.size : Int) != 32)) else (clearwayref02_VerifyExtension.j0 k a0 a1 a2 a3 l4 true)) else (clearwayref02_VerifyExtension.j0 k a0 a1 a2 a3 l4 true))))
set_option maxHeartbeats 8000000 in
set_option maxRecDepth 100000 in
theorem clearwayref02_VerifyExtension.calls (k : Nat) (a0 : ByteArray) (a1 : Int) (a2 : ByteArray) (a3 : Int) (A4 : Option Addr) (c4 : Nat) (l4 : List ByteArray) (r : Bool) (w : World) (hr4 : Kd.C Kd.string w A4 l4.length l4) (hc4 : l4.length ≤ c4) (h : clearwayref02_VerifyExtension.f k a0 a1 a2 a3 l4 = some r) :
  Calls Tryd.prog 24 #[.string a0, .int .i64 a1, .string a2, .int .i64 a3, .slice A4 l4.length c4] w fun e w' => e = .returned (.bool r) ∧ Below w.heap.size w w' := by
 have HR4 := Aside0.mk hr4
 have HC4 := Aside0.mk hc4
 clear hr4 hc4
 have HB := Aside0.mk (Below.refl w.heap.size w)
 have H : ((clearwayref02_Digests.f k l4).bind fun t331 => (if a1 < 0 then (clearwayref02_VerifyExtension.j0 k a0 a1 a2 a3 l4 true) else (if a1 > a3 then (clearwayref02_VerifyExtension.j0 k a0 a1 a2 a3 l4 true) else (if t331 = true then (if (a0.size : Int) = 32 then (clearwayref02_VerifyExtension.j0 k a0 a1 a2 a3 l4 ((a2.size : Int) != 32)) else (clearwayref02_VerifyExtension.j0 k a0 a1 a2 a3 l4 true)) else (clearwayref02_VerifyExtension.j0 k a0 a1 a2 a3 l4 true))))) = some r := h
 clear h
 replace H := Option.bind_eq_some_iff.mp H
 obtain ⟨t331, A60, H⟩ := H
 replace H : (if a1 < 0 then (clearwayref02_VerifyExtension.j0 k a0 a1 a2 a3 l4 true) else (if a1 > a3 then (clearwayref02_VerifyExtension.j0 k a0 a1 a2 a3 l4 true) else (if t331 = true then (if (a0.size : Int) = 32 then (clearwayref02_VerifyExtension.j0 k a0 a1 a2 a3 l4 ((a2.size : Int) != 32)) else (clearwayref02_VerifyExtension.j0 k a0 a1 a2 a3 l4 true)) else (clearwayref02_VerifyExtension.j0 k a0 a1 a2 a3 l4 true)))) = some r := H
 have A6 := Aside0.mk A60
 clear A60
 have HC7 := Aside0.mk H
 clear H
 go_enter Tryd.func24, Tryd.ntmps24
 go_upto_region 2 with (first | ((with_reducible refine gate_callee (f := 49) rfl ?_); refine goesL_ (some 16) rfl rfl Tryd.func49 (by kernel_rfl) rfl #[.slice A4 l4.length c4] rfl (by (try simp only [List.map_toArray, List.map_cons, List.map_nil]); first | done | rfl | (simp only [List.length_drop, List.length_take]; rfl)) ?_; (with_reducible refine (clearwayref02_Digests.calls k _ _ l4 t331 _ ?side1 ?side2 A6.out).mono ?_); (case side1 => repeat (first | exact HR4.out | (with_reducible refine Kd.C_alloc ?_ _) | (with_reducible refine Kd.C_drewN ?_ _) | (with_reducible refine Kd.C_drew ?_))); (case side2 => exact HC4.out); rintro e w' ⟨rfl, ⟨nd, rfl⟩⟩; refine ⟨_, rfl, ?_⟩))
 (try simp only [Act.put, List.setIfInBounds_toArray, List.set_cons_zero, List.set_cons_succ])
 go_cut [37] (fun v37 wc => ∃ (kq : Nat) (x37_6 : Bool), v37 = .bool x37_6 ∧ Aside0 (clearwayref02_VerifyExtension.j0 kq a0 a1 a2 a3 l4 x37_6 = some r) ∧ Aside0 (kq ≤ k) ∧ Aside0 (Below w.heap.size w wc))
 case first =>
  have H := HC7.out
  clear HC7
  by_cases c8 : a1 < 0
  ·rw [if_pos c8] at H
   have c8b0 : decide (a1 < 0) = true := decide_eq_true c8
   clear c8
   (first | rw [c8b0] | (simp only [i64_w, i32_w]; rw [c8b0]) | skip)
   have H' := Aside0.mk H
   clear H
   go_wp2
   go_meet
   case rel => exact ⟨_, (true), (by first | rfl | (simp; done) | (simp [*]; done)), H', ⟨by first | omega | exact Nat.le_refl _⟩, ⟨by repeat (first | (with_reducible first | exact HB.out | apply below_alloc | apply pw_below_drewN | apply below_drew1) | exact HB.out)⟩⟩
  ·rw [if_neg c8] at H
   have c8b0 : decide (a1 < 0) = false := decide_eq_false c8
   clear c8
   (first | rw [c8b0] | (simp only [i64_w, i32_w]; rw [c8b0]) | skip)
   by_cases c9 : a1 > a3
   ·rw [if_pos c9] at H
    have c9b0 : decide (a3 < a1) = true := decide_eq_true c9
    clear c9
    have H' := Aside0.mk H
    clear H
    go_wp2
    go_meet
    case rel => exact ⟨_, (true), (by first | rfl | (simp; done) | (simp [*]; done)), H', ⟨by first | omega | exact Nat.le_refl _⟩, ⟨by repeat (first | (with_reducible first | exact HB.out | apply below_alloc | apply pw_below_drewN | apply below_drew1) | exact HB.out)⟩⟩
   ·rw [if_neg c9] at H
    have c9b0 : decide (a3 < a1) = false := decide_eq_false c9
    clear c9
    by_cases c10 : t331 = true
    ·subst c10
     have H1 : (if (a0.size : Int) = 32 then (clearwayref02_VerifyExtension.j0 k a0 a1 a2 a3 l4 ((a2.size : Int) != 32)) else (clearwayref02_VerifyExtension.j0 k a0 a1 a2 a3 l4 true)) = some r := by rw [if_pos rfl] at H; exact H
     clear H
     have H := H1
     clear H1
     by_cases c11 : (a0.size : Int) = 32
     ·rw [if_pos c11] at H
      have c11b0 : ((a0.size : Int) == 32) = true := beq_iff_eq.mpr c11
      have c11b1 : ((a0.size : Int) != 32) = false := bne_eq_false_iff_eq.mpr c11
      clear c11
      have H' := Aside0.mk H
      clear H
      go_wp2
      go_meet
      case rel => exact ⟨_, (((a2.size : Int) != 32)), (by first | rfl | (simp; done) | (simp [*]; done)), H', ⟨by first | omega | exact Nat.le_refl _⟩, ⟨by repeat (first | (with_reducible first | exact HB.out | apply below_alloc | apply pw_below_drewN | apply below_drew1) | exact HB.out)⟩⟩
     ·rw [if_neg c11] at H
      have c11b0 : ((a0.size : Int) == 32) = false := beq_eq_false_iff_ne.mpr c11
      have c11b1 : ((a0.size : Int) != 32) = true := bne_iff_ne.mpr c11
      have H' := Aside0.mk H
      clear H
      go_wp2
      go_meet
      case rel => exact ⟨_, (true), (by first | rfl | (simp; done) | (simp [*]; done)), H', ⟨by first | omega | exact Nat.le_refl _⟩, ⟨by repeat (first | (with_reducible first | exact HB.out | apply below_alloc | apply pw_below_drewN | apply below_drew1) | exact HB.out)⟩⟩
    ·replace c10 := Bool.eq_false_iff.mpr c10
     subst c10
     have H1 : (clearwayref02_VerifyExtension.j0 k a0 a1 a2 a3 l4 true) = some r := by rw [if_neg (show ¬ (false = true) by decide)] at H; exact H
     clear H
     have H := H1
     clear H1
     have H' := Aside0.mk H
     clear H
     go_wp2
     go_meet
     case rel => exact ⟨_, (true), (by first | rfl | (simp; done) | (simp [*]; done)), H', ⟨by first | omega | exact Nat.le_refl _⟩, ⟨by repeat (first | (with_reducible first | exact HB.out | apply below_alloc | apply pw_below_drewN | apply below_drew1) | exact HB.out)⟩⟩
 case rest =>
  clear HC7
  try clear c1
  try clear c2
  try clear p2
  try clear c4
  try clear c8
  try clear c8b0
  try clear c9
  try clear c9b0
  try clear c10
  try clear c11
  try clear c11b0
  try clear c11b1
  obtain ⟨kq, x37_6, rfl, HA, HJ6, HB⟩ := hcut
  cases kq with
  | zero => exact absurd HA.out (by simp [clearwayref02_VerifyExtension.j0])
  | succ kj6 =>
   have H := HA.out
   clear HA
   simp only [clearwayref02_VerifyExtension.j0] at H
   by_cases c12 : x37_6 = true
   ·subst c12
    have H1 : (some false) = some r := by rw [if_pos rfl] at H; exact H
    clear H
    have H := H1
    clear H1
    obtain rfl := Option.some.inj H
    go_wp2
    go_ret
    exact ⟨by first | rfl | (simp [errW_none, errW_some] <;> rfl) | (simp [*, errW_none, errW_some] <;> rfl), by repeat (first | (with_reducible first | exact HB.out | apply below_alloc | apply pw_below_drewN | apply below_drew1) | exact HB.out)⟩
   ·replace c12 := Bool.eq_false_iff.mpr c12
    subst c12
    have H1 : (if a1 = 0 then (if (l4.length : Int) = 0 then ((clearwayref02_Sum.f kj6 (⟨#[]⟩ : ByteArray)).bind fun t332 => (some (a0.toList == t332.toList))) else (some false)) else (if a1 = a3 then (if (l4.length : Int) = 0 then (some (a0.toList == a2.toList)) else (some false)) else ((clearwayref02_both.f kj6 a0 a1 a3 l4 true).bind fun bt333 => (if bt333.2.2 = true then (if bt333.1.toList = a0.toList then (some (bt333.2.1.toList == a2.toList)) else (some false)) else (some false))))) = some r := by rw [if_neg (show ¬ (false = true) by decide)] at H; exact H
    clear H
    have H := H1
    clear H1
    by_cases c13 : a1 = 0
    ·rw [if_pos c13] at H
     have c13b0 : (a1 == 0) = true := beq_iff_eq.mpr c13
     have c13b1 : (a1 != 0) = false := bne_eq_false_iff_eq.mpr c13
     clear c13
     by_cases c14 : (l4.length : Int) = 0
     ·rw [if_pos c14] at H
      have c14b0 : ((l4.length : Int) == 0) = true := beq_iff_eq.mpr c14
      have c14b1 : ((l4.length : Int) != 0) = false := bne_eq_false_iff_eq.mpr c14
      clear c14
      replace H := Option.bind_eq_some_iff.mp H
      obtain ⟨t332, A150, H⟩ := H
      replace H : (some (a0.toList == t332.toList)) = some r := H
      have A15 := Aside0.mk A150
      clear A150
      obtain rfl := Option.some.inj H
      go_wp2_with (first | (go_at_call 33; (with_reducible refine (clearwayref02_Sum.calls kj6 (⟨#[]⟩ : ByteArray) t332 _ A15.out).mono ?_); rintro e w16 ⟨rfl, hb⟩; have n0_ := Aside0.mk (below_step (by repeat (first | (with_reducible first | exact HB.out | apply below_alloc | apply pw_below_drewN | apply below_drew1) | exact HB.out)) hb); clear HB; have HB := n0_; clear n0_; (try clear hb); (try clear hb2); (try clear hk); (try clear hi)))
      go_ret
      exact ⟨by first | rfl | (simp [errW_none, errW_some] <;> rfl) | (simp [*, errW_none, errW_some] <;> rfl), by repeat (first | (with_reducible first | exact HB.out | apply below_alloc | apply pw_below_drewN | apply below_drew1) | exact HB.out)⟩
     ·rw [if_neg c14] at H
      have c14b0 : ((l4.length : Int) == 0) = false := beq_eq_false_iff_ne.mpr c14
      have c14b1 : ((l4.length : Int) != 0) = true := bne_iff_ne.mpr c14
      have c14b2 : ¬ (l4 = []) := fun h_ => c14 (by rw [h_]; rfl)
      obtain rfl := Option.some.inj H
      go_wp2
      go_ret
      exact ⟨by first | rfl | (simp [errW_none, errW_some] <;> rfl) | (simp [*, errW_none, errW_some] <;> rfl), by repeat (first | (with_reducible first | exact HB.out | apply below_alloc | apply pw_below_drewN | apply below_drew1) | exact HB.out)⟩
    ·rw [if_neg c13] at H
     have c13b0 : (a1 == 0) = false := beq_eq_false_iff_ne.mpr c13
     have c13b1 : (a1 != 0) = true := bne_iff_ne.mpr c13
     by_cases c17 : a1 = a3
     ·rw [if_pos c17] at H
      have c17b0 : (a1 == a3) = true := beq_iff_eq.mpr c17
      have c17b1 : (a1 != a3) = false := bne_eq_false_iff_eq.mpr c17
      clear c17
      by_cases c18 : (l4.length : Int) = 0
      ·rw [if_pos c18] at H
       have c18b0 : ((l4.length : Int) == 0) = true := beq_iff_eq.mpr c18
       have c18b1 : ((l4.length : Int) != 0) = false := bne_eq_false_iff_eq.mpr c18
       clear c18
       obtain rfl := Option.some.inj H
       go_wp2
       go_ret
       exact ⟨by first | rfl | (simp [errW_none, errW_some] <;> rfl) | (simp [*, errW_none, errW_some] <;> rfl), by repeat (first | (with_reducible first | exact HB.out | apply below_alloc | apply pw_below_drewN | apply below_drew1) | exact HB.out)⟩
      ·rw [if_neg c18] at H
       have c18b0 : ((l4.length : Int) == 0) = false := beq_eq_false_iff_ne.mpr c18
       have c18b1 : ((l4.length : Int) != 0) = true := bne_iff_ne.mpr c18
       have c18b2 : ¬ (l4 = []) := fun h_ => c18 (by rw [h_]; rfl)
       obtain rfl := Option.some.inj H
       go_wp2
       go_ret
       exact ⟨by first | rfl | (simp [errW_none, errW_some] <;> rfl) | (simp [*, errW_none, errW_some] <;> rfl), by repeat (first | (with_reducible first | exact HB.out | apply below_alloc | apply pw_below_drewN | apply below_drew1) | exact HB.out)⟩
     ·rw [if_neg c17] at H
      have c17b0 : (a1 == a3) = false := beq_eq_false_iff_ne.mpr c17
      have c17b1 : (a1 != a3) = true := bne_iff_ne.mpr c17
      replace H := Option.bind_eq_some_iff.mp H
      obtain ⟨⟨t333, t334, t335⟩, A190, H⟩ := H
      replace H : (if t335 = true then (if t333.toList = a0.toList then (some (t334.toList == a2.toList)) else (some false)) else (some false)) = some r := H
      have A19 := Aside0.mk A190
      clear A190
      by_cases c20 : t335 = true
      ·subst c20
       have H1 : (if t333.toList = a0.toList then (some (t334.toList == a2.toList)) else (some false)) = some r := by rw [if_pos rfl] at H; exact H
       clear H
       have H := H1
       clear H1
       by_cases c21 : t333.toList = a0.toList
       ·rw [if_pos c21] at H
        have c21b0 : (t333.toList == a0.toList) = true := beq_iff_eq.mpr c21
        have c21b1 : (t333.toList != a0.toList) = false := bne_eq_false_iff_eq.mpr c21
        clear c21
        obtain rfl := Option.some.inj H
        go_wp2_with (first | ((with_reducible refine gate_callee (f := 52) rfl ?_); refine goesL_ (some 64) rfl rfl Tryd.func52 (by kernel_rfl) rfl #[.string a0, .int .i64 a1, .int .i64 a3, .slice A4 l4.length c4, .bool true] rfl (by (try simp only [List.map_toArray, List.map_cons, List.map_nil]); first | done | rfl | (simp only [List.length_drop, List.length_take]; rfl)) ?_; (with_reducible refine (clearwayref02_both.calls kj6 a0 a1 a3 _ _ l4 true t333 t334 true _ ?side1 ?side2 A19.out).mono ?_); (case side1 => repeat (first | exact (Kd.C_below HR4.out HB.out) | (with_reducible refine Kd.C_alloc ?_ _) | (with_reducible refine Kd.C_drewN ?_ _) | (with_reducible refine Kd.C_drew ?_))); (case side2 => exact HC4.out); rintro e w22 ⟨rfl, hb⟩; refine ⟨_, rfl, ?_⟩; have n0_ := Aside0.mk (below_step (by repeat (first | (with_reducible first | exact HB.out | apply below_alloc | apply pw_below_drewN | apply below_drew1) | exact HB.out)) hb); clear HB; have HB := n0_; clear n0_; (try clear hb); (try clear hb2); (try clear hk); (try clear hi)))
        go_ret
        exact ⟨by first | rfl | (simp [errW_none, errW_some] <;> rfl) | (simp [*, errW_none, errW_some] <;> rfl), by repeat (first | (with_reducible first | exact HB.out | apply below_alloc | apply pw_below_drewN | apply below_drew1) | exact HB.out)⟩
       ·rw [if_neg c21] at H
        have c21b0 : (t333.toList == a0.toList) = false := beq_eq_false_iff_ne.mpr c21
        have c21b1 : (t333.toList != a0.toList) = true := bne_iff_ne.mpr c21
        obtain rfl := Option.some.inj H
        go_wp2_with (first | ((with_reducible refine gate_callee (f := 52) rfl ?_); refine goesL_ (some 64) rfl rfl Tryd.func52 (by kernel_rfl) rfl #[.string a0, .int .i64 a1, .int .i64 a3, .slice A4 l4.length c4, .bool true] rfl (by (try simp only [List.map_toArray, List.map_cons, List.map_nil]); first | done | rfl | (simp only [List.length_drop, List.length_take]; rfl)) ?_; (with_reducible refine (clearwayref02_both.calls kj6 a0 a1 a3 _ _ l4 true t333 t334 true _ ?side1 ?side2 A19.out).mono ?_); (case side1 => repeat (first | exact (Kd.C_below HR4.out HB.out) | (with_reducible refine Kd.C_alloc ?_ _) | (with_reducible refine Kd.C_drewN ?_ _) | (with_reducible refine Kd.C_drew ?_))); (case side2 => exact HC4.out); rintro e w23 ⟨rfl, hb⟩; refine ⟨_, rfl, ?_⟩; have n0_ := Aside0.mk (below_step (by repeat (first | (with_reducible first | exact HB.out | apply below_alloc | apply pw_below_drewN | apply below_drew1) | exact HB.out)) hb); clear HB; have HB := n0_; clear n0_; (try clear hb); (try clear hb2); (try clear hk); (try clear hi)))
        go_ret
        exact ⟨by first | rfl | (simp [errW_none, errW_some] <;> rfl) | (simp [*, errW_none, errW_some] <;> rfl), by repeat (first | (with_reducible first | exact HB.out | apply below_alloc | apply pw_below_drewN | apply below_drew1) | exact HB.out)⟩
      ·replace c20 := Bool.eq_false_iff.mpr c20
       subst c20
       have H1 : (some false) = some r := by rw [if_neg (show ¬ (false = true) by decide)] at H; exact H
       clear H
       have H := H1
       clear H1
       obtain rfl := Option.some.inj H
       go_wp2_with (first | ((with_reducible refine gate_callee (f := 52) rfl ?_); refine goesL_ (some 64) rfl rfl Tryd.func52 (by kernel_rfl) rfl #[.string a0, .int .i64 a1, .int .i64 a3, .slice A4 l4.length c4, .bool true] rfl (by (try simp only [List.map_toArray, List.map_cons, List.map_nil]); first | done | rfl | (simp only [List.length_drop, List.length_take]; rfl)) ?_; (with_reducible refine (clearwayref02_both.calls kj6 a0 a1 a3 _ _ l4 true t333 t334 false _ ?side1 ?side2 A19.out).mono ?_); (case side1 => repeat (first | exact (Kd.C_below HR4.out HB.out) | (with_reducible refine Kd.C_alloc ?_ _) | (with_reducible refine Kd.C_drewN ?_ _) | (with_reducible refine Kd.C_drew ?_))); (case side2 => exact HC4.out); rintro e w24 ⟨rfl, hb⟩; refine ⟨_, rfl, ?_⟩; have n0_ := Aside0.mk (below_step (by repeat (first | (with_reducible first | exact HB.out | apply below_alloc | apply pw_below_drewN | apply below_drew1) | exact HB.out)) hb); clear HB; have HB := n0_; clear n0_; (try clear hb); (try clear hb2); (try clear hk); (try clear hi)))
       go_ret
       exact ⟨by first | rfl | (simp [errW_none, errW_some] <;> rfl) | (simp [*, errW_none, errW_some] <;> rfl), by repeat (first | (with_reducible first | exact HB.out | apply below_alloc | apply pw_below_drewN | apply below_drew1) | exact HB.out)⟩

/-! ### clearwaylaw02_DigestVerifyMatchesReference: function 4 -/
def clearwaylaw02_DigestVerifyMatchesReference.f (k : Nat) (a0 : ByteArray) (a1 : ByteArray) (a2 : Int) (a3 : Int) (a4 : ByteArray) (l5 : List ByteArray) : Option (Bool) := (clearwaylaw02_sane.f k).bind fun t336 => ((clearwaylaw02_few.f k l5 70).bind fun t337 => (if 0 ≤ (mn (a4.size : Int) 60) then (if (mn (a4.size : Int) 60) ≤ (a4.size : Int) then ((digest_Verify.f a1 a2 a3 (a4.extract 0 ((mn (a4.size : Int) 60) : Int).toNat) t337).bind fun t340 => ((clearwayref02_Verify.f k a1 a2 a3 (a4.extract 0 ((mn (a4.size : Int) 60) : Int).toNat) t337).bind fun t341 => (if t336 = true then (if (t340 == t341) = true then ((digest_VerifyExtension.f a0 a3 a1 a2 t337).bind fun t342 => ((clearwayref02_VerifyExtension.f k a0 a3 a1 a2 t337).bind fun t343 => (some (t342 == t343)))) else (some false)) else (some false)))) else (none)) else (none)))
set_option maxHeartbeats 8000000 in
set_option maxRecDepth 100000 in
theorem clearwaylaw02_DigestVerifyMatchesReference.calls (k : Nat) (a0 : ByteArray) (a1 : ByteArray) (a2 : Int) (a3 : Int) (a4 : ByteArray) (A5 : Option Addr) (c5 : Nat) (l5 : List ByteArray) (r : Bool) (w : World) (hr5 : Kd.C Kd.string w A5 l5.length l5) (hc5 : l5.length ≤ c5) (hG_ : Amb w) (h : clearwaylaw02_DigestVerifyMatchesReference.f k a0 a1 a2 a3 a4 l5 = some r) :
  Calls Tryd.prog 4 #[.string a0, .string a1, .int .i64 a2, .int .i64 a3, .string a4, .slice A5 l5.length c5] w fun e w' => e = .returned (.bool r) ∧ Below w.heap.size w w' := by
 have HR5 := Aside0.mk hr5
 have HC5 := Aside0.mk hc5
 clear hr5 hc5
 have HB := Aside0.mk (Below.refl w.heap.size w)
 have H : ((clearwaylaw02_sane.f k).bind fun t336 => ((clearwaylaw02_few.f k l5 70).bind fun t337 => (if 0 ≤ (mn (a4.size : Int) 60) then (if (mn (a4.size : Int) 60) ≤ (a4.size : Int) then ((digest_Verify.f a1 a2 a3 (a4.extract 0 ((mn (a4.size : Int) 60) : Int).toNat) t337).bind fun t340 => ((clearwayref02_Verify.f k a1 a2 a3 (a4.extract 0 ((mn (a4.size : Int) 60) : Int).toNat) t337).bind fun t341 => (if t336 = true then (if (t340 == t341) = true then ((digest_VerifyExtension.f a0 a3 a1 a2 t337).bind fun t342 => ((clearwayref02_VerifyExtension.f k a0 a3 a1 a2 t337).bind fun t343 => (some (t342 == t343)))) else (some false)) else (some false)))) else (none)) else (none)))) = some r := h
 clear h
 replace H := Option.bind_eq_some_iff.mp H
 obtain ⟨t336, A70, H⟩ := H
 replace H : ((clearwaylaw02_few.f k l5 70).bind fun t337 => (if 0 ≤ (mn (a4.size : Int) 60) then (if (mn (a4.size : Int) 60) ≤ (a4.size : Int) then ((digest_Verify.f a1 a2 a3 (a4.extract 0 ((mn (a4.size : Int) 60) : Int).toNat) t337).bind fun t340 => ((clearwayref02_Verify.f k a1 a2 a3 (a4.extract 0 ((mn (a4.size : Int) 60) : Int).toNat) t337).bind fun t341 => (if t336 = true then (if (t340 == t341) = true then ((digest_VerifyExtension.f a0 a3 a1 a2 t337).bind fun t342 => ((clearwayref02_VerifyExtension.f k a0 a3 a1 a2 t337).bind fun t343 => (some (t342 == t343)))) else (some false)) else (some false)))) else (none)) else (none))) = some r := H
 have A7 := Aside0.mk A70
 clear A70
 replace H := Option.bind_eq_some_iff.mp H
 obtain ⟨t337, A80, H⟩ := H
 replace H : (if 0 ≤ (mn (a4.size : Int) 60) then (if (mn (a4.size : Int) 60) ≤ (a4.size : Int) then ((digest_Verify.f a1 a2 a3 (a4.extract 0 ((mn (a4.size : Int) 60) : Int).toNat) t337).bind fun t340 => ((clearwayref02_Verify.f k a1 a2 a3 (a4.extract 0 ((mn (a4.size : Int) 60) : Int).toNat) t337).bind fun t341 => (if t336 = true then (if (t340 == t341) = true then ((digest_VerifyExtension.f a0 a3 a1 a2 t337).bind fun t342 => ((clearwayref02_VerifyExtension.f k a0 a3 a1 a2 t337).bind fun t343 => (some (t342 == t343)))) else (some false)) else (some false)))) else (none)) else (none)) = some r := H
 have A8 := Aside0.mk A80
 clear A80
 obtain ⟨ji9, hji9⟩ : ∃ j_ : Int, (mn (a4.size : Int) 60) = j_ := ⟨_, rfl⟩
 replace H : (if 0 ≤ (ji9) then (if (ji9) ≤ (a4.size : Int) then ((digest_Verify.f a1 a2 a3 (a4.extract 0 ((ji9) : Int).toNat) t337).bind fun t340 => ((clearwayref02_Verify.f k a1 a2 a3 (a4.extract 0 ((ji9) : Int).toNat) t337).bind fun t341 => (if t336 = true then (if (t340 == t341) = true then ((digest_VerifyExtension.f a0 a3 a1 a2 t337).bind fun t342 => ((clearwayref02_VerifyExtension.f k a0 a3 a1 a2 t337).bind fun t343 => (some (t342 == t343)))) else (some false)) else (some false)))) else (none)) else (none)) = some r := by first | (rw [hji9] at H; exact H) | (simp only [hji9] at H ⊢; exact H)
 (try rw [hji9] at A7)
 (try rw [hji9] at A8)
 (try (have hji9h : ji9 ≤ 60 := by (rw [← hji9]; unfold mn; (repeat' split) <;> omega)))
 (try (have hji9g : ji9 ≤ 64 := by omega))
 (try (have hji9l : 0 ≤ ji9 := by (rw [← hji9]; unfold mn; (repeat' split) <;> omega)))
 (try (have hji9m : 0 ≤ ji9 := by omega))
 have hji9_ : (if 60 < (a4.size : Int) then 60 else (a4.size : Int)) = ji9 := hji9
 by_cases c10 : 0 ≤ (ji9)
 ·rw [if_pos c10] at H
  have c10b0 := eq_true c10
  have c10b1 : decide (0 ≤ (ji9)) = true := decide_eq_true c10
  clear c10
  by_cases c11 : (ji9) ≤ (a4.size : Int)
  ·rw [if_pos c11] at H
   have c11b0 := eq_true c11
   have c11b1 : decide ((ji9) ≤ (a4.size : Int)) = true := decide_eq_true c11
   clear c11
   obtain ⟨ua4_ji9, hua4_ji9⟩ : ∃ u_ : ByteArray, a4.extract 0 ((ji9) : Int).toNat = u_ := ⟨_, rfl⟩
   rw [hua4_ji9] at H
   replace H := Option.bind_eq_some_iff.mp H
   obtain ⟨t340, A120, H⟩ := H
   replace H : ((clearwayref02_Verify.f k a1 a2 a3 ua4_ji9 t337).bind fun t341 => (if t336 = true then (if (t340 == t341) = true then ((digest_VerifyExtension.f a0 a3 a1 a2 t337).bind fun t342 => ((clearwayref02_VerifyExtension.f k a0 a3 a1 a2 t337).bind fun t343 => (some (t342 == t343)))) else (some false)) else (some false))) = some r := H
   have A12 := Aside0.mk A120
   clear A120
   replace H := Option.bind_eq_some_iff.mp H
   obtain ⟨t341, A130, H⟩ := H
   replace H : (if t336 = true then (if (t340 == t341) = true then ((digest_VerifyExtension.f a0 a3 a1 a2 t337).bind fun t342 => ((clearwayref02_VerifyExtension.f k a0 a3 a1 a2 t337).bind fun t343 => (some (t342 == t343)))) else (some false)) else (some false)) = some r := H
   have A13 := Aside0.mk A130
   clear A130
   by_cases c14 : t336 = true
   ·subst c14
    have H1 : (if (t340 == t341) = true then ((digest_VerifyExtension.f a0 a3 a1 a2 t337).bind fun t342 => ((clearwayref02_VerifyExtension.f k a0 a3 a1 a2 t337).bind fun t343 => (some (t342 == t343)))) else (some false)) = some r := by rw [if_pos rfl] at H; exact H
    clear H
    have H := H1
    clear H1
    by_cases c15 : (t340 == t341) = true
    ·rw [if_pos c15] at H
     have c15b0 : (t340 == t341) = true := c15
     (try (have c15b1 : decide (t340 = t341) = true := by simpa using c15))
     (try (have c15b2 : (t340 == t341) = true := by simpa using c15))
     clear c15
     replace H := Option.bind_eq_some_iff.mp H
     obtain ⟨t342, A160, H⟩ := H
     replace H : ((clearwayref02_VerifyExtension.f k a0 a3 a1 a2 t337).bind fun t343 => (some (t342 == t343))) = some r := H
     have A16 := Aside0.mk A160
     clear A160
     replace H := Option.bind_eq_some_iff.mp H
     obtain ⟨t343, A170, H⟩ := H
     replace H : (some (t342 == t343)) = some r := H
     have A17 := Aside0.mk A170
     clear A170
     obtain rfl := Option.some.inj H
     go_enter Tryd.func4, Tryd.ntmps4
     go_wp2_with (first | ((with_reducible refine gate_callee (f := 12) rfl ?_); refine goesL_ (some 15) rfl rfl Tryd.func12 (by kernel_rfl) rfl #[] rfl (by (try simp only [List.map_toArray, List.map_cons, List.map_nil]); first | done | rfl | (simp only [List.length_drop, List.length_take]; rfl)) ?_; (with_reducible refine (clearwaylaw02_sane.calls k  true _ ?side1 A7.out).mono ?_); (case side1 => exact Amb.below hG_ (by repeat (first | (with_reducible first | exact HB.out | apply below_alloc | apply pw_below_drewN | apply below_drew1) | exact HB.out))); rintro e w18 ⟨rfl, hb⟩; refine ⟨_, rfl, ?_⟩; have n0_ := Aside0.mk (below_step (by repeat (first | (with_reducible first | exact HB.out | apply below_alloc | apply pw_below_drewN | apply below_drew1) | exact HB.out)) hb); clear HB; have HB := n0_; clear n0_; (try clear hb); (try clear hb2); (try clear hk); (try clear hi)) | ((with_reducible refine gate_callee (f := 13) rfl ?_); refine goesL_ (some 17) rfl rfl Tryd.func13 (by kernel_rfl) rfl #[.slice A5 l5.length c5, .int .i64 70] rfl (by (try simp only [List.map_toArray, List.map_cons, List.map_nil]); first | done | rfl | (simp only [List.length_drop, List.length_take]; rfl)) ?_; (with_reducible refine (clearwaylaw02_few.calls k _ _ l5 70 t337 _ ?side1 ?side2 A8.out).mono ?_); (case side1 => repeat (first | exact (Kd.C_below HR5.out HB.out) | (with_reducible refine Kd.C_alloc ?_ _) | (with_reducible refine Kd.C_drewN ?_ _) | (with_reducible refine Kd.C_drew ?_))); (case side2 => exact HC5.out); rintro e w19 ⟨v338, rfl, ho0, hb⟩; refine ⟨_, rfl, ?_⟩; have n0_ := Aside0.mk (Kd.R_lower ho0 (below_size (by repeat (first | (with_reducible first | exact HB.out | apply below_alloc | apply pw_below_drewN | apply below_drew1) | exact HB.out)))); have n1_ := Aside0.mk (below_step (by repeat (first | (with_reducible first | exact HB.out | apply below_alloc | apply pw_below_drewN | apply below_drew1) | exact HB.out)) hb); clear HB; have HO339 := n0_; have HB := n1_; clear n0_ n1_; (try clear hb); (try clear hb2); (try clear hk); (try clear hi); (try clear ho0); obtain ⟨Ao20, co20, eo20⟩ := Kd.R_slice HO339.out; subst eo20) | ((with_reducible refine gate_callee (f := 21) rfl ?_); refine goesL_ (some 28) rfl rfl Tryd.func21 (by kernel_rfl) rfl #[.string a1, .int .i64 a2, .int .i64 a3, .string ua4_ji9, .slice Ao20 t337.length co20] rfl (by (try simp only [List.map_toArray, List.map_cons, List.map_nil]); first | done | (simp only [hji9]; rfl) | rfl | (simp only [List.length_drop, List.length_take]; rfl)) ?_; (with_reducible refine (digest_Verify.calls a1 a2 a3 ua4_ji9 _ _ t337 t340 _ ?side1 ?side2 ?side3 A12.out).mono ?_); (case side1 => repeat (first | exact (Kd.R_reads' HO339.out).2.2 | (with_reducible refine Kd.C_alloc ?_ _) | (with_reducible refine Kd.C_drewN ?_ _) | (with_reducible refine Kd.C_drew ?_))); (case side2 => exact (Kd.R_reads' HO339.out).2.1); (case side3 => exact Amb.below hG_ (by repeat (first | (with_reducible first | exact HB.out | apply below_alloc | apply pw_below_drewN | apply below_drew1) | exact HB.out))); rintro e w21 ⟨rfl, hb⟩; refine ⟨_, rfl, ?_⟩; have n0_ := Aside0.mk (Kd.R_below (by (with_reducible repeat (first | apply Kd.R_alloc | apply Kd.R_drewN | apply Kd.R_drew)); exact HO339.out) hb); have n1_ := Aside0.mk (below_step (by repeat (first | (with_reducible first | exact HB.out | apply below_alloc | apply pw_below_drewN | apply below_drew1) | exact HB.out)) hb); clear HO339; clear HB; have HO339 := n0_; have HB := n1_; clear n0_ n1_; (try clear hb); (try clear hb2); (try clear hk); (try clear hi)) | ((with_reducible refine gate_callee (f := 22) rfl ?_); refine goesL_ (some 34) rfl rfl Tryd.func22 (by kernel_rfl) rfl #[.string a1, .int .i64 a2, .int .i64 a3, .string ua4_ji9, .slice Ao20 t337.length co20] rfl (by (try simp only [List.map_toArray, List.map_cons, List.map_nil]); first | done | (simp only [hji9]; rfl) | rfl | (simp only [List.length_drop, List.length_take]; rfl)) ?_; (with_reducible refine (clearwayref02_Verify.calls k a1 a2 a3 ua4_ji9 _ _ t337 t341 _ ?side1 ?side2 A13.out).mono ?_); (case side1 => repeat (first | exact (Kd.R_reads' HO339.out).2.2 | (with_reducible refine Kd.C_alloc ?_ _) | (with_reducible refine Kd.C_drewN ?_ _) | (with_reducible refine Kd.C_drew ?_))); (case side2 => exact (Kd.R_reads' HO339.out).2.1); rintro e w22 ⟨rfl, hb⟩; refine ⟨_, rfl, ?_⟩; have n0_ := Aside0.mk (Kd.R_below (by (with_reducible repeat (first | apply Kd.R_alloc | apply Kd.R_drewN | apply Kd.R_drew)); exact HO339.out) hb); have n1_ := Aside0.mk (below_step (by repeat (first | (with_reducible first | exact HB.out | apply below_alloc | apply pw_below_drewN | apply below_drew1) | exact HB.out)) hb); clear HO339; clear HB; have HO339 := n0_; have HB := n1_; clear n0_ n1_; (try clear hb); (try clear hb2); (try clear hk); (try clear hi)) | (go_at_call 23; (with_reducible refine (digest_VerifyExtension.calls a0 a3 a1 a2 _ _ t337 t342 _ ?side1 ?side2 ?side3 A16.out).mono ?_); (case side1 => repeat (first | exact (Kd.R_reads' HO339.out).2.2 | (with_reducible refine Kd.C_alloc ?_ _) | (with_reducible refine Kd.C_drewN ?_ _) | (with_reducible refine Kd.C_drew ?_))); (case side2 => exact (Kd.R_reads' HO339.out).2.1); (case side3 => exact Amb.below hG_ (by repeat (first | (with_reducible first | exact HB.out | apply below_alloc | apply pw_below_drewN | apply below_drew1) | exact HB.out))); rintro e w23 ⟨rfl, hb⟩; have n0_ := Aside0.mk (Kd.R_below (by (with_reducible repeat (first | apply Kd.R_alloc | apply Kd.R_drewN | apply Kd.R_drew)); exact HO339.out) hb); have n1_ := Aside0.mk (below_step (by repeat (first | (with_reducible first | exact HB.out | apply below_alloc | apply pw_below_drewN | apply below_drew1) | exact HB.out)) hb); clear HO339; clear HB; have HO339 := n0_; have HB := n1_; clear n0_ n1_; (try clear hb); (try clear hb2); (try clear hk); (try clear hi)) | (go_at_call 24; (with_reducible refine (clearwayref02_VerifyExtension.calls k a0 a3 a1 a2 _ _ t337 t343 _ ?side1 ?side2 A17.out).mono ?_); (case side1 => repeat (first | exact (Kd.R_reads' HO339.out).2.2 | (with_reducible refine Kd.C_alloc ?_ _) | (with_reducible refine Kd.C_drewN ?_ _) | (with_reducible refine Kd.C_drew ?_))); (case side2 => exact (Kd.R_reads' HO339.out).2.1); rintro e w24 ⟨rfl, hb⟩; have n0_ := Aside0.mk (Kd.R_below (by (with_reducible repeat (first | apply Kd.R_alloc | apply Kd.R_drewN | apply Kd.R_drew)); exact HO339.out) hb); have n1_ := Aside0.mk (below_step (by repeat (first | (with_reducible first | exact HB.out | apply below_alloc | apply pw_below_drewN | apply below_drew1) | exact HB.out)) hb); clear HO339; clear HB; have HO339 := n0_; have HB := n1_; clear n0_ n1_; (try clear hb); (try clear hb2); (try clear hk); (try clear hi)))
     go_ret
     exact ⟨by first | rfl | (simp [errW_none, errW_some] <;> rfl) | (simp only [← hji9]; first | rfl | (simp [errW_none, errW_some] <;> rfl)) | (simp [*, errW_none, errW_some] <;> rfl), by repeat (first | (with_reducible first | exact HB.out | apply below_alloc | apply pw_below_drewN | apply below_drew1) | exact HB.out)⟩
    ·rw [if_neg c15] at H
     have c15b0 : (t340 == t341) = false := by simpa using c15
     (try (have c15b1 : decide (t340 = t341) = false := by simpa using c15))
     (try (have c15b2 : (t340 == t341) = false := by simpa using c15))
     (try (have c15b3 : ¬ (t340 = t341) := by simpa using c15))
     clear c15
     obtain rfl := Option.some.inj H
     go_enter Tryd.func4, Tryd.ntmps4
     go_wp2_with (first | ((with_reducible refine gate_callee (f := 12) rfl ?_); refine goesL_ (some 15) rfl rfl Tryd.func12 (by kernel_rfl) rfl #[] rfl (by (try simp only [List.map_toArray, List.map_cons, List.map_nil]); first | done | rfl | (simp only [List.length_drop, List.length_take]; rfl)) ?_; (with_reducible refine (clearwaylaw02_sane.calls k  true _ ?side1 A7.out).mono ?_); (case side1 => exact Amb.below hG_ (by repeat (first | (with_reducible first | exact HB.out | apply below_alloc | apply pw_below_drewN | apply below_drew1) | exact HB.out))); rintro e w25 ⟨rfl, hb⟩; refine ⟨_, rfl, ?_⟩; have n0_ := Aside0.mk (below_step (by repeat (first | (with_reducible first | exact HB.out | apply below_alloc | apply pw_below_drewN | apply below_drew1) | exact HB.out)) hb); clear HB; have HB := n0_; clear n0_; (try clear hb); (try clear hb2); (try clear hk); (try clear hi)) | ((with_reducible refine gate_callee (f := 13) rfl ?_); refine goesL_ (some 17) rfl rfl Tryd.func13 (by kernel_rfl) rfl #[.slice A5 l5.length c5, .int .i64 70] rfl (by (try simp only [List.map_toArray, List.map_cons, List.map_nil]); first | done | rfl | (simp only [List.length_drop, List.length_take]; rfl)) ?_; (with_reducible refine (clearwaylaw02_few.calls k _ _ l5 70 t337 _ ?side1 ?side2 A8.out).mono ?_); (case side1 => repeat (first | exact (Kd.C_below HR5.out HB.out) | (with_reducible refine Kd.C_alloc ?_ _) | (with_reducible refine Kd.C_drewN ?_ _) | (with_reducible refine Kd.C_drew ?_))); (case side2 => exact HC5.out); rintro e w26 ⟨v338, rfl, ho0, hb⟩; refine ⟨_, rfl, ?_⟩; have n0_ := Aside0.mk (Kd.R_lower ho0 (below_size (by repeat (first | (with_reducible first | exact HB.out | apply below_alloc | apply pw_below_drewN | apply below_drew1) | exact HB.out)))); have n1_ := Aside0.mk (below_step (by repeat (first | (with_reducible first | exact HB.out | apply below_alloc | apply pw_below_drewN | apply below_drew1) | exact HB.out)) hb); clear HB; have HO339 := n0_; have HB := n1_; clear n0_ n1_; (try clear hb); (try clear hb2); (try clear hk); (try clear hi); (try clear ho0); obtain ⟨Ao27, co27, eo27⟩ := Kd.R_slice HO339.out; subst eo27) | ((with_reducible refine gate_callee (f := 21) rfl ?_); refine goesL_ (some 28) rfl rfl Tryd.func21 (by kernel_rfl) rfl #[.string a1, .int .i64 a2, .int .i64 a3, .string ua4_ji9, .slice Ao27 t337.length co27] rfl (by (try simp only [List.map_toArray, List.map_cons, List.map_nil]); first | done | (simp only [hji9]; rfl) | rfl | (simp only [List.length_drop, List.length_take]; rfl)) ?_; (with_reducible refine (digest_Verify.calls a1 a2 a3 ua4_ji9 _ _ t337 t340 _ ?side1 ?side2 ?side3 A12.out).mono ?_); (case side1 => repeat (first | exact (Kd.R_reads' HO339.out).2.2 | (with_reducible refine Kd.C_alloc ?_ _) | (with_reducible refine Kd.C_drewN ?_ _) | (with_reducible refine Kd.C_drew ?_))); (case side2 => exact (Kd.R_reads' HO339.out).2.1); (case side3 => exact Amb.below hG_ (by repeat (first | (with_reducible first | exact HB.out | apply below_alloc | apply pw_below_drewN | apply below_drew1) | exact HB.out))); rintro e w28 ⟨rfl, hb⟩; refine ⟨_, rfl, ?_⟩; have n0_ := Aside0.mk (Kd.R_below (by (with_reducible repeat (first | apply Kd.R_alloc | apply Kd.R_drewN | apply Kd.R_drew)); exact HO339.out) hb); have n1_ := Aside0.mk (below_step (by repeat (first | (with_reducible first | exact HB.out | apply below_alloc | apply pw_below_drewN | apply below_drew1) | exact HB.out)) hb); clear HO339; clear HB; have HO339 := n0_; have HB := n1_; clear n0_ n1_; (try clear hb); (try clear hb2); (try clear hk); (try clear hi)) | ((with_reducible refine gate_callee (f := 22) rfl ?_); refine goesL_ (some 34) rfl rfl Tryd.func22 (by kernel_rfl) rfl #[.string a1, .int .i64 a2, .int .i64 a3, .string ua4_ji9, .slice Ao27 t337.length co27] rfl (by (try simp only [List.map_toArray, List.map_cons, List.map_nil]); first | done | (simp only [hji9]; rfl) | rfl | (simp only [List.length_drop, List.length_take]; rfl)) ?_; (with_reducible refine (clearwayref02_Verify.calls k a1 a2 a3 ua4_ji9 _ _ t337 t341 _ ?side1 ?side2 A13.out).mono ?_); (case side1 => repeat (first | exact (Kd.R_reads' HO339.out).2.2 | (with_reducible refine Kd.C_alloc ?_ _) | (with_reducible refine Kd.C_drewN ?_ _) | (with_reducible refine Kd.C_drew ?_))); (case side2 => exact (Kd.R_reads' HO339.out).2.1); rintro e w29 ⟨rfl, hb⟩; refine ⟨_, rfl, ?_⟩; have n0_ := Aside0.mk (Kd.R_below (by (with_reducible repeat (first | apply Kd.R_alloc | apply Kd.R_drewN | apply Kd.R_drew)); exact HO339.out) hb); have n1_ := Aside0.mk (below_step (by repeat (first | (with_reducible first | exact HB.out | apply below_alloc | apply pw_below_drewN | apply below_drew1) | exact HB.out)) hb); clear HO339; clear HB; have HO339 := n0_; have HB := n1_; clear n0_ n1_; (try clear hb); (try clear hb2); (try clear hk); (try clear hi)))
     go_ret
     exact ⟨by first | rfl | (simp [errW_none, errW_some] <;> rfl) | (simp only [← hji9]; first | rfl | (simp [errW_none, errW_some] <;> rfl)) | (simp [*, errW_none, errW_some] <;> rfl), by repeat (first | (with_reducible first | exact HB.out | apply below_alloc | apply pw_below_drewN | apply below_drew1) | exact HB.out)⟩
   ·replace c14 := Bool.eq_false_iff.mpr c14
    subst c14
    have H1 : (some false) = some r := by rw [if_neg (show ¬ (false = true) by decide)] at H; exact H
    clear H
    have H := H1
    clear H1
    obtain rfl := Option.some.inj H
    go_enter Tryd.func4, Tryd.ntmps4
    go_wp2_with (first | ((with_reducible refine gate_callee (f := 12) rfl ?_); refine goesL_ (some 15) rfl rfl Tryd.func12 (by kernel_rfl) rfl #[] rfl (by (try simp only [List.map_toArray, List.map_cons, List.map_nil]); first | done | rfl | (simp only [List.length_drop, List.length_take]; rfl)) ?_; (with_reducible refine (clearwaylaw02_sane.calls k  false _ ?side1 A7.out).mono ?_); (case side1 => exact Amb.below hG_ (by repeat (first | (with_reducible first | exact HB.out | apply below_alloc | apply pw_below_drewN | apply below_drew1) | exact HB.out))); rintro e w30 ⟨rfl, hb⟩; refine ⟨_, rfl, ?_⟩; have n0_ := Aside0.mk (below_step (by repeat (first | (with_reducible first | exact HB.out | apply below_alloc | apply pw_below_drewN | apply below_drew1) | exact HB.out)) hb); clear HB; have HB := n0_; clear n0_; (try clear hb); (try clear hb2); (try clear hk); (try clear hi)) | ((with_reducible refine gate_callee (f := 13) rfl ?_); refine goesL_ (some 17) rfl rfl Tryd.func13 (by kernel_rfl) rfl #[.slice A5 l5.length c5, .int .i64 70] rfl (by (try simp only [List.map_toArray, List.map_cons, List.map_nil]); first | done | rfl | (simp only [List.length_drop, List.length_take]; rfl)) ?_; (with_reducible refine (clearwaylaw02_few.calls k _ _ l5 70 t337 _ ?side1 ?side2 A8.out).mono ?_); (case side1 => repeat (first | exact (Kd.C_below HR5.out HB.out) | (with_reducible refine Kd.C_alloc ?_ _) | (with_reducible refine Kd.C_drewN ?_ _) | (with_reducible refine Kd.C_drew ?_))); (case side2 => exact HC5.out); rintro e w31 ⟨v338, rfl, ho0, hb⟩; refine ⟨_, rfl, ?_⟩; have n0_ := Aside0.mk (Kd.R_lower ho0 (below_size (by repeat (first | (with_reducible first | exact HB.out | apply below_alloc | apply pw_below_drewN | apply below_drew1) | exact HB.out)))); have n1_ := Aside0.mk (below_step (by repeat (first | (with_reducible first | exact HB.out | apply below_alloc | apply pw_below_drewN | apply below_drew1) | exact HB.out)) hb); clear HB; have HO339 := n0_; have HB := n1_; clear n0_ n1_; (try clear hb); (try clear hb2); (try clear hk); (try clear hi); (try clear ho0); obtain ⟨Ao32, co32, eo32⟩ := Kd.R_slice HO339.out; subst eo32) | ((with_reducible refine gate_callee (f := 21) rfl ?_); refine goesL_ (some 28) rfl rfl Tryd.func21 (by kernel_rfl) rfl #[.string a1, .int .i64 a2, .int .i64 a3, .string ua4_ji9, .slice Ao32 t337.length co32] rfl (by (try simp only [List.map_toArray, List.map_cons, List.map_nil]); first | done | (simp only [hji9]; rfl) | rfl | (simp only [List.length_drop, List.length_take]; rfl)) ?_; (with_reducible refine (digest_Verify.calls a1 a2 a3 ua4_ji9 _ _ t337 t340 _ ?side1 ?side2 ?side3 A12.out).mono ?_); (case side1 => repeat (first | exact (Kd.R_reads' HO339.out).2.2 | (with_reducible refine Kd.C_alloc ?_ _) | (with_reducible refine Kd.C_drewN ?_ _) | (with_reducible refine Kd.C_drew ?_))); (case side2 => exact (Kd.R_reads' HO339.out).2.1); (case side3 => exact Amb.below hG_ (by repeat (first | (with_reducible first | exact HB.out | apply below_alloc | apply pw_below_drewN | apply below_drew1) | exact HB.out))); rintro e w33 ⟨rfl, hb⟩; refine ⟨_, rfl, ?_⟩; have n0_ := Aside0.mk (Kd.R_below (by (with_reducible repeat (first | apply Kd.R_alloc | apply Kd.R_drewN | apply Kd.R_drew)); exact HO339.out) hb); have n1_ := Aside0.mk (below_step (by repeat (first | (with_reducible first | exact HB.out | apply below_alloc | apply pw_below_drewN | apply below_drew1) | exact HB.out)) hb); clear HO339; clear HB; have HO339 := n0_; have HB := n1_; clear n0_ n1_; (try clear hb); (try clear hb2); (try clear hk); (try clear hi)) | ((with_reducible refine gate_callee (f := 22) rfl ?_); refine goesL_ (some 34) rfl rfl Tryd.func22 (by kernel_rfl) rfl #[.string a1, .int .i64 a2, .int .i64 a3, .string ua4_ji9, .slice Ao32 t337.length co32] rfl (by (try simp only [List.map_toArray, List.map_cons, List.map_nil]); first | done | (simp only [hji9]; rfl) | rfl | (simp only [List.length_drop, List.length_take]; rfl)) ?_; (with_reducible refine (clearwayref02_Verify.calls k a1 a2 a3 ua4_ji9 _ _ t337 t341 _ ?side1 ?side2 A13.out).mono ?_); (case side1 => repeat (first | exact (Kd.R_reads' HO339.out).2.2 | (with_reducible refine Kd.C_alloc ?_ _) | (with_reducible refine Kd.C_drewN ?_ _) | (with_reducible refine Kd.C_drew ?_))); (case side2 => exact (Kd.R_reads' HO339.out).2.1); rintro e w34 ⟨rfl, hb⟩; refine ⟨_, rfl, ?_⟩; have n0_ := Aside0.mk (Kd.R_below (by (with_reducible repeat (first | apply Kd.R_alloc | apply Kd.R_drewN | apply Kd.R_drew)); exact HO339.out) hb); have n1_ := Aside0.mk (below_step (by repeat (first | (with_reducible first | exact HB.out | apply below_alloc | apply pw_below_drewN | apply below_drew1) | exact HB.out)) hb); clear HO339; clear HB; have HO339 := n0_; have HB := n1_; clear n0_ n1_; (try clear hb); (try clear hb2); (try clear hk); (try clear hi)))
    go_ret
    exact ⟨by first | rfl | (simp [errW_none, errW_some] <;> rfl) | (simp only [← hji9]; first | rfl | (simp [errW_none, errW_some] <;> rfl)) | (simp [*, errW_none, errW_some] <;> rfl), by repeat (first | (with_reducible first | exact HB.out | apply below_alloc | apply pw_below_drewN | apply below_drew1) | exact HB.out)⟩
  ·rw [if_neg c11] at H
   exact absurd H (by simp)
 ·rw [if_neg c10] at H
  exact absurd H (by simp)

end Go.Proofs.YtjkdenldddjcnaaDoor.Dm

set_option linter.unusedVariables false
set_option linter.unusedSimpArgs false
namespace Go.Proofs.YtjkdenldddjcnaaDoor.Sha
open Go Go.RowKit Go.Proofs.YtjkdenldddjcnaaDoor.Df Go.Proofs.YtjkdenldddjcnaaDoor.Dm Go.Proofs.YtjkdenldddjcnaaDoorW.PrintWords Go.Proofs.YtjkdenldddjcnaaDoorW.PrintLast Go.Proofs.YtjkdenldddjcnaaDoorW.PrintMore

theorem digests_loop : ∀ (q p l : List ByteArray) (k : Nat), l = p ++ q → q.length < k → l.length ≤ 1000000 → clearwayref02_Digests.l0 k l (p.length : Int) = some (all32 q) := by
 intro q
 induction q with
 | nil =>
  intro p l k hl hk h1
  obtain ⟨k, rfl⟩ : ∃ j, k = j + 1 := ⟨k - 1, by omega⟩
  rw [List.append_nil] at hl
  subst hl
  rw [clearwayref02_Digests.l0, if_neg (by omega)]
  rfl
 | cons x q ih =>
  intro p l k hl hk h1
  obtain ⟨k, rfl⟩ : ∃ j, k = j + 1 := ⟨k - 1, by omega⟩
  have hll : l.length = p.length + (q.length + 1) := by rw [hl]; simp
  have hx : l[p.length]? = some x := by rw [hl, List.getElem?_append_right (Nat.le_refl _), Nat.sub_self]; rfl
  have hw : wrap64 ((p.length : Int) + 1) = ((p ++ [x]).length : Int) := by unfold wrap64; simp; omega
  have ha : all32 (x :: q) = (((x.size : Int) == 32) && all32 q) := by unfold all32; rw [List.all_cons]
  rw [clearwayref02_Digests.l0, if_pos (by omega), if_pos (by omega), rdOf_at hx, ha]
  by_cases h : (x.size : Int) = 32
  ·rw [if_pos h, hw, ih (p ++ [x]) l k (by rw [hl]; simp) (by simp at hk; omega) h1, beq_iff_eq.2 h, Bool.true_and]
  ·rw [if_neg h, beq_eq_false_iff_ne.2 h, Bool.false_and]
theorem digests_ref (l : List ByteArray) (k : Nat) (hk : l.length < k) (h : l.length ≤ 1000000) : clearwayref02_Digests.f k l = some (all32 l) := digests_loop l [] l k rfl hk h
/-- What the pair of a value and whether the length is right says of the way down. -/
def ValOk (s : ByteArray) (d : Option (Way × List ByteArray)) (way : Way) (v : ByteArray) (ok : Bool) : Prop :=
 match d with
 | none => ok = false
 | some (w', []) => ok = true ∧ upF w' (leafF s) = upF way v
 | some (_, _ :: _) => ok = false
theorem last_at (r : List ByteArray) (x : ByteArray) : (r.reverse ++ [x])[r.length]? = some x := by
 rw [List.getElem?_append_right (by rw [List.length_reverse]; omega), List.length_reverse, Nat.sub_self]; rfl
theorem value_ref (s : ByteArray) (hs : s.size ≤ 100) : ∀ (rev : List ByteArray) (n i k : Nat), 1 ≤ n → i < n → n ≤ 9223372036854775807 → (∀ x ∈ rev, x.size ≤ 100) → rev.length ≤ 1000 → rev.length + 3000 ≤ k →
  ∃ v ok, clearwayref02_value.f k (n : Int) (i : Int) s rev.reverse = some (v, ok) ∧ v.size ≤ 32 ∧ ∀ way, ValOk s (descF rev n i way) way v ok := by
 intro rev
 induction rev with
 | nil =>
  intro n i k h1 h2 h3 h4 h5 h6
  obtain ⟨k, rfl⟩ : ∃ j, k = j + 1 := ⟨k - 1, by omega⟩
  rw [clearwayref02_value.f]
  have hw : wrap64 ((([] : List ByteArray).reverse.length : Int) - 1) = -1 := by unfold wrap64; rfl
  rw [hw]
  by_cases hn : n = 1
  ·subst hn
   rw [if_pos (show ((1 : Nat) : Int) = 1 from rfl), ref_leaf s (by omega) k (by simp only [List.length_nil] at h6; omega)]
   refine ⟨_, _, rfl, by rw [leafF, sumF_size]; omega, fun way => ?_⟩
   rw [descF, if_pos (Nat.le_refl _)]
   exact ⟨rfl, rfl⟩
  ·rw [if_neg (by omega), if_pos (by decide)]
   refine ⟨_, _, rfl, by decide, fun way => ?_⟩
   rw [descF, if_neg (by omega)]
   rfl
 | cons x r ih =>
  intro n i k h1 h2 h3 h4 h5 h6
  obtain ⟨k, rfl⟩ : ∃ j, k = j + 1 := ⟨k - 1, by omega⟩
  rw [List.length_cons] at h5 h6
  have hl : (x :: r).reverse.length = r.length + 1 := by simp
  have hw : wrap64 (((x :: r).reverse.length : Int) - 1) = ((r.length : Nat) : Int) := by rw [hl]; unfold wrap64; omega
  have htk : ((x :: r).reverse).take r.length = r.reverse := by
   rw [List.reverse_cons, List.take_append_of_le_length (by rw [List.length_reverse]; omega), List.take_of_length_le (by rw [List.length_reverse]; omega)]
  have hrd : rdOf ByteArray.empty (x :: r).reverse ((r.length : Nat) : Int) = x := rdOf_at (by rw [List.reverse_cons]; exact last_at r x)
  have hx := h4 x List.mem_cons_self
  have hr4 : ∀ y ∈ r, y.size ≤ 100 := fun y hy => h4 y (List.mem_cons_of_mem _ hy)
  rw [clearwayref02_value.f, hw]
  by_cases hn : n = 1
  ·subst hn
   rw [if_pos (show ((1 : Nat) : Int) = 1 from rfl), ref_leaf s (by omega) k (by omega)]
   refine ⟨_, _, rfl, by rw [leafF, sumF_size]; omega, fun way => ?_⟩
   rw [descF, if_pos (Nat.le_refl _)]
   exact decide_eq_false (by omega)
  ·have hlt := leftN_lt n (by omega) h3
   rw [if_neg (by omega), if_neg (by omega), left_ref n k (by omega) h3 (by omega), Option.bind_some]
   by_cases hk : leftN n ≤ i
   ·have w1 : wrap64 ((n : Int) - (leftN n : Int)) = ((n - leftN n : Nat) : Int) := by unfold wrap64; omega
    have w2 : wrap64 ((i : Int) - (leftN n : Int)) = ((i - leftN n : Nat) : Int) := by unfold wrap64; omega
    obtain ⟨v, ok, g1, g2, g3⟩ := ih (n - leftN n) (i - leftN n) k (by omega) (by omega) (by omega) hr4 (by omega) (by omega)
    rw [if_neg (by omega), if_pos (by omega), if_pos (by rw [hl]; omega), w1, w2, Int.toNat_natCast, htk, g1, Option.bind_some, if_pos (by rw [hl]; omega), hrd, ref_node x v (by omega) k (by omega)]
    refine ⟨_, _, rfl, by rw [nodeF, sumF_size]; omega, fun way => ?_⟩
    have := g3 ((x, true) :: way)
    rw [descF, if_neg (by omega), if_pos hk]
    revert this
    unfold ValOk
    cases descF r (n - leftN n) (i - leftN n) ((x, true) :: way) with
    | none => exact id
    | some p =>
     obtain ⟨w', t⟩ := p
     cases t with
     | nil => exact fun h => ⟨h.1, by rw [h.2, up_cons, joinF_t]⟩
     | cons _ _ => exact id
   ·obtain ⟨v, ok, g1, g2, g3⟩ := ih (leftN n) i k (by omega) (by omega) (by omega) hr4 (by omega) (by omega)
    rw [if_pos (by omega), if_pos (by omega), if_pos (by rw [hl]; omega), Int.toNat_natCast, htk, g1, Option.bind_some, if_pos (by rw [hl]; omega), hrd, ref_node v x (by omega) k (by omega)]
    refine ⟨_, _, rfl, by rw [nodeF, sumF_size]; omega, fun way => ?_⟩
    have := g3 ((x, false) :: way)
    rw [descF, if_neg (by omega), if_neg hk]
    revert this
    unfold ValOk
    cases descF r (leftN n) i ((x, false) :: way) with
    | none => exact id
    | some p =>
     obtain ⟨w', t⟩ := p
     cases t with
     | nil => exact fun h => ⟨h.1, by rw [h.2, up_cons, joinF_f]⟩
     | cons _ _ => exact id
theorem verify_ref (root s : ByteArray) (n i : Int) (l : List ByteArray) (hn : n ≤ 9223372036854775807) (hs : s.size ≤ 100) (hl : l.length ≤ 1000) (h4 : ∀ x ∈ l, x.size ≤ 100) : clearwayref02_Verify.f 10000 root n i s l = some (verifyF root n i s l) := by
 unfold clearwayref02_Verify.f verifyF
 rw [digests_ref l 10000 (by omega) (by omega), Option.bind_some]
 by_cases h0 : i < 0
 ·rw [if_pos h0, if_pos h0]; rfl
 ·rw [if_neg h0, if_neg h0]
  by_cases h1 : n ≤ i
  ·rw [if_pos h1, if_pos h1]; rfl
  ·rw [if_neg (by omega), if_neg h1]
   cases h2 : all32 l with
   | false => rfl
   | true =>
    rw [if_neg (by decide)]
    show clearwayref02_Verify.j0 (9999 + 1) root n i s l (!true) = _
    rw [clearwayref02_Verify.j0, if_neg (by decide)]
    obtain ⟨n', rfl⟩ : ∃ m : Nat, n = (m : Int) := ⟨n.toNat, by omega⟩
    obtain ⟨i', rfl⟩ : ∃ m : Nat, i = (m : Int) := ⟨i.toNat, by omega⟩
    obtain ⟨v, ok, g1, g2, g3⟩ := value_ref s hs l.reverse n' i' 9999 (by omega) (by omega) (by omega) (by simpa using h4) (by simpa using hl) (by rw [List.length_reverse]; omega)
    rw [List.reverse_reverse] at g1
    rw [g1, Option.bind_some, Int.toNat_natCast, Int.toNat_natCast]
    have g := g3 []
    revert g
    unfold ValOk endV
    cases descF l.reverse n' i' [] with
    | none => intro h; rw [if_neg (by rw [show ok = false from h]; exact Bool.false_ne_true)]
    | some p =>
     obtain ⟨w', t⟩ := p
     cases t with
     | nil =>
      intro h
      rw [if_pos h.1]
      show some (v.toList == root.toList) = some (true && (upF w' (leafF s) == root))
      rw [h.2, Bool.true_and, beq_toListBytes]
      rfl
     | cons _ _ => intro h; rw [if_neg (by rw [show ok = false from h]; exact Bool.false_ne_true)]; rfl
/-- The same of an extension. -/
def ExtOk (old : ByteArray) (d : Option (Way × List ByteArray × Bool)) (way : Way) (a b : ByteArray) (ok : Bool) : Prop :=
 match d with
 | none => ok = false
 | some (w', [], true) => ok = true ∧ upE w' old = upE way a ∧ upF w' old = upF way b
 | some (w', [y], false) => ok = true ∧ upE w' y = upE way a ∧ upF w' y = upF way b
 | some _ => ok = false
theorem both_ref (old : ByteArray) (ho : old.size ≤ 100) : ∀ (rev : List ByteArray) (m n : Nat) (wh : Bool) (k : Nat), 1 ≤ m → m ≤ n → n ≤ 9223372036854775807 → (∀ x ∈ rev, x.size ≤ 100) → rev.length ≤ 1000 → rev.length + 3000 ≤ k →
  ∃ a b ok, clearwayref02_both.f k old (m : Int) (n : Int) rev.reverse wh = some (a, b, ok) ∧ a.size ≤ 100 ∧ b.size ≤ 100 ∧ ∀ way, ExtOk old (descE rev m n wh way) way a b ok := by
 intro rev
 induction rev with
 | nil =>
  intro m n wh k h1 h2 h3 h4 h5 h6
  obtain ⟨k, rfl⟩ : ∃ j, k = j + 1 := ⟨k - 1, by omega⟩
  rw [clearwayref02_both.f]
  have hw : wrap64 ((([] : List ByteArray).reverse.length : Int) - 1) = -1 := by unfold wrap64; rfl
  rw [hw]
  by_cases hn : m = n
  ·subst hn
   rw [if_pos rfl]
   cases wh with
   | true =>
    rw [if_pos rfl]
    refine ⟨_, _, _, rfl, ho, ho, fun way => ?_⟩
    rw [descE, if_pos (Nat.le_refl _)]
    exact ⟨rfl, rfl, rfl⟩
   | false =>
    rw [if_neg (by decide), if_neg (by decide)]
    refine ⟨_, _, _, rfl, by decide, by decide, fun way => ?_⟩
    rw [descE, if_pos (Nat.le_refl _)]
    rfl
  ·rw [if_neg (by omega), if_pos (by decide)]
   refine ⟨_, _, _, rfl, by decide, by decide, fun way => ?_⟩
   rw [descE, if_neg (by omega)]
   rfl
 | cons x r ih =>
  intro m n wh k h1 h2 h3 h4 h5 h6
  obtain ⟨k, rfl⟩ : ∃ j, k = j + 1 := ⟨k - 1, by omega⟩
  rw [List.length_cons] at h5 h6
  have hl : (x :: r).reverse.length = r.length + 1 := by simp
  have hw : wrap64 (((x :: r).reverse.length : Int) - 1) = ((r.length : Nat) : Int) := by rw [hl]; unfold wrap64; omega
  have htk : ((x :: r).reverse).take r.length = r.reverse := by
   rw [List.reverse_cons, List.take_append_of_le_length (by rw [List.length_reverse]; omega), List.take_of_length_le (by rw [List.length_reverse]; omega)]
  have hrd : rdOf ByteArray.empty (x :: r).reverse ((r.length : Nat) : Int) = x := rdOf_at (by rw [List.reverse_cons]; exact last_at r x)
  have hx := h4 x List.mem_cons_self
  have hr4 : ∀ y ∈ r, y.size ≤ 100 := fun y hy => h4 y (List.mem_cons_of_mem _ hy)
  rw [clearwayref02_both.f, hw]
  by_cases hn : m = n
  ·subst hn
   rw [if_pos rfl]
   cases wh with
   | true =>
    rw [if_pos rfl]
    refine ⟨_, _, _, rfl, ho, ho, fun way => ?_⟩
    rw [descE, if_pos (Nat.le_refl _)]
    have hd : decide (((r.length : Nat) : Int) < 0) = false := decide_eq_false (by omega)
    rw [hd]
    cases r with
    | nil => rfl
    | cons _ _ => rfl
   | false =>
    rw [if_neg (by decide)]
    cases r with
    | nil =>
     rw [if_pos (show ((([] : List ByteArray).length : Nat) : Int) = 0 from rfl), if_pos (by rw [hl]; decide)]
     refine ⟨_, _, _, rfl, hx, hx, fun way => ?_⟩
     rw [descE, if_pos (Nat.le_refl _)]
     exact ⟨rfl, rfl, rfl⟩
    | cons y r =>
     rw [if_neg (by rw [List.length_cons]; omega)]
     refine ⟨_, _, _, rfl, by decide, by decide, fun way => ?_⟩
     rw [descE, if_pos (Nat.le_refl _)]
     rfl
  ·have hlt := leftN_lt n (by omega) h3
   rw [if_neg (by omega), if_neg (by omega), left_ref n k (by omega) h3 (by omega), Option.bind_some]
   by_cases hk : leftN n < m
   ·have w1 : wrap64 ((n : Int) - (leftN n : Int)) = ((n - leftN n : Nat) : Int) := by unfold wrap64; omega
    have w2 : wrap64 ((m : Int) - (leftN n : Int)) = ((m - leftN n : Nat) : Int) := by unfold wrap64; omega
    obtain ⟨a, b, ok, g1, g2, g2', g3⟩ := ih (m - leftN n) (n - leftN n) false k (by omega) (by omega) (by omega) hr4 (by omega) (by omega)
    rw [if_neg (by omega), if_pos (by omega), if_pos (by rw [hl]; omega), w1, w2, Int.toNat_natCast, htk, g1, Option.bind_some, if_pos (by rw [hl]; omega), hrd, ref_node x a (by omega) k (by omega), Option.bind_some, ref_node x b (by omega) k (by omega)]
    refine ⟨_, _, _, rfl, by rw [nodeF, sumF_size]; omega, by rw [nodeF, sumF_size]; omega, fun way => ?_⟩
    have := g3 ((x, true) :: way)
    rw [descE, if_neg (by omega), if_pos hk]
    revert this
    unfold ExtOk
    split <;> intro h
    ·exact h
    ·exact ⟨h.1, by rw [h.2.1, upE_cons, joinE_t], by rw [h.2.2, up_cons, joinF_t]⟩
    ·exact ⟨h.1, by rw [h.2.1, upE_cons, joinE_t], by rw [h.2.2, up_cons, joinF_t]⟩
    ·exact h
   ·obtain ⟨a, b, ok, g1, g2, g2', g3⟩ := ih m (leftN n) wh k h1 (by omega) (by omega) hr4 (by omega) (by omega)
    rw [if_pos (by omega), if_pos (by omega), if_pos (by rw [hl]; omega), Int.toNat_natCast, htk, g1, Option.bind_some, if_pos (by rw [hl]; omega), hrd, ref_node b x (by omega) k (by omega)]
    refine ⟨_, _, _, rfl, g2, by rw [nodeF, sumF_size]; omega, fun way => ?_⟩
    have := g3 ((x, false) :: way)
    rw [descE, if_neg (by omega), if_neg hk]
    revert this
    unfold ExtOk
    split <;> intro h
    ·exact h
    ·exact ⟨h.1, by rw [h.2.1, upE_cons, joinE_f], by rw [h.2.2, up_cons, joinF_f]⟩
    ·exact ⟨h.1, by rw [h.2.1, upE_cons, joinE_f], by rw [h.2.2, up_cons, joinF_f]⟩
    ·exact h
theorem verifyE_ref (old root : ByteArray) (m n : Int) (l : List ByteArray) (hn : n ≤ 9223372036854775807) (hl : l.length ≤ 1000) (h4 : ∀ x ∈ l, x.size ≤ 100) : clearwayref02_VerifyExtension.f 10000 old m root n l = some (verifyEF old m root n l) := by
 unfold clearwayref02_VerifyExtension.f verifyEF
 rw [digests_ref l 10000 (by omega) (by omega), Option.bind_some]
 have jt : clearwayref02_VerifyExtension.j0 10000 old m root n l true = some false := rfl
 by_cases h0 : m < 0
 ·rw [if_pos h0, if_pos h0, jt]
 ·rw [if_neg h0, if_neg h0]
  by_cases h1 : n < m
  ·rw [if_pos (by omega), if_pos h1, jt]
  ·rw [if_neg (by omega), if_neg h1]
   cases h2 : all32 l with
   | false => rw [if_neg (by decide), if_pos rfl, jt]
   | true =>
    rw [if_pos rfl, if_neg (show ¬ (true = false) by decide)]
    by_cases h3 : (old.size : Int) = 32
    ·rw [if_pos h3, beq_iff_eq.2 h3, if_neg (show ¬ (true = false) by decide)]
     by_cases h5 : (root.size : Int) = 32
     ·have hb : ((root.size : Int) != 32) = false := by rw [h5]; rfl
      rw [hb, beq_iff_eq.2 h5, if_neg (show ¬ (true = false) by decide)]
      show clearwayref02_VerifyExtension.j0 (9999 + 1) old m root n l false = _
      rw [clearwayref02_VerifyExtension.j0, if_neg (by decide)]
      have he : ∀ z : Bool, (if (l.length : Int) = 0 then some z else some false) = some (l.isEmpty && z) := by
       intro z
       cases l with
       | nil => rfl
       | cons x r => rw [if_neg (by rw [List.length_cons]; omega)]; rfl
      by_cases h6 : m = 0
      ·rw [if_pos h6, if_pos h6, ref_sum _ (by decide) 9999 (by decide)]
       rw [beq_toListBytes]
       exact he _
      ·rw [if_neg h6, if_neg h6]
       by_cases h7 : m = n
       ·rw [if_pos h7, if_pos h7]
        rw [beq_toListBytes]
        exact he _
       ·rw [if_neg h7, if_neg h7]
        obtain ⟨n', rfl⟩ : ∃ m : Nat, n = (m : Int) := ⟨n.toNat, by omega⟩
        obtain ⟨m', rfl⟩ : ∃ j : Nat, m = (j : Int) := ⟨m.toNat, by omega⟩
        obtain ⟨a, b, ok, g1, g2, g2', g3⟩ := both_ref old (by omega) l.reverse m' n' true 9999 (by omega) (by omega) (by omega) (by simpa using h4) (by simpa using hl) (by rw [List.length_reverse]; omega)
        rw [List.reverse_reverse] at g1
        rw [g1, Option.bind_some, Int.toNat_natCast, Int.toNat_natCast]
        have g := g3 []
        have fin : ∀ e w : ByteArray, e = a → w = b → (if a.toList = old.toList then some (b.toList == root.toList) else some false) = some ((e == old) && (w == root)) := by
         rintro e w rfl rfl
         rw [beq_toListBytes, beq_toListBytes]
         by_cases hh : e.toList = old.toList
         ·rw [if_pos hh, beq_iff_eq.2 hh, Bool.true_and]
         ·rw [if_neg hh, beq_eq_false_iff_ne.2 hh, Bool.false_and]
        revert g
        cases hd : descE l.reverse m' n' true [] with
        | none => intro h; rw [if_neg (by rw [show ok = false from h]; exact Bool.false_ne_true)]; rfl
        | some p =>
         obtain ⟨w', t, q⟩ := p
         cases q with
         | true =>
          cases t with
          | nil =>
           intro h
           rw [if_pos h.1, endE_t]
           exact fin _ _ h.2.1 h.2.2
          | cons y t =>
           intro h
           have hf : ok = false := by cases t <;> exact h
           rw [if_neg (by rw [hf]; exact Bool.false_ne_true), endE_t]
           rfl
         | false =>
          cases t with
          | nil => intro h; rw [if_neg (by rw [show ok = false from h]; exact Bool.false_ne_true)]; rfl
          | cons y t =>
           cases t with
           | nil =>
            intro h
            rw [if_pos h.1, endE_f]
            exact fin _ _ h.2.1 h.2.2
           | cons z t => intro h; rw [if_neg (by rw [show ok = false from h]; exact Bool.false_ne_true)]; rfl
     ·have hb : ((root.size : Int) != 32) = true := bne_iff_ne.2 h5
      rw [hb, jt, beq_eq_false_iff_ne.2 h5, if_pos rfl]
    ·rw [if_neg h3, jt, beq_eq_false_iff_ne.2 h3, if_pos rfl]
end Go.Proofs.YtjkdenldddjcnaaDoor.Sha

set_option linter.unusedVariables false
set_option linter.unusedSimpArgs false
namespace Go.Proofs.YtjkdenldddjcnaaDoor.Sha
open Go Go.RowKit Go.Proofs.YtjkdenldddjcnaaDoor.Df Go.Proofs.YtjkdenldddjcnaaDoor.Dm Go.Proofs.YtjkdenldddjcnaaDoorW.PrintWords Go.Proofs.YtjkdenldddjcnaaDoorW.PrintLast Go.Proofs.YtjkdenldddjcnaaDoorW.PrintMore

theorem saneV (n : Nat) : clearwaylaw02_sane.f (200 + n) = some true := by
 induction n with
 | zero => exact sane_f
 | succ n ih => exact clearwaylaw02_sane.mono (200 + n) _ ih
theorem wf_hi {n : Int} (h : (Lit.int .i64 n).wf = true) : -9223372036854775808 ≤ n ∧ n ≤ 9223372036854775807 := by
 simp [Lit.wf] at h
 exact ⟨h.1, h.2⟩
theorem verref_f (a0 a1 : ByteArray) (a2 a3 : Int) (a4 : ByteArray) (l5 : List ByteArray) (hn : a2 ≤ 9223372036854775807) : ∃ k, clearwaylaw02_DigestVerifyMatchesReference.f k a0 a1 a2 a3 a4 l5 = some true := by
 refine ⟨10000, ?_⟩
 have hsane : clearwaylaw02_sane.f 10000 = some true := saneV 9800
 obtain ⟨l, hl, hll, hls⟩ := few_f l5 70 10000 (by decide) (by decide)
 have hl' : clearwaylaw02_few.f 10000 l5 70 = some l := hl
 obtain ⟨p0, p1, p2⟩ := mn_cut a4 60 (by decide)
 obtain ⟨s, hs⟩ : ∃ s, a4.extract 0 (mn (a4.size : Int) 60).toNat = s := ⟨_, rfl⟩
 rw [hs] at p2
 have h100 : ∀ x ∈ l, x.size ≤ 100 := fun x hx => by have := hls x hx; omega
 unfold clearwaylaw02_DigestVerifyMatchesReference.f
 have e1 : digest_Verify.f a1 a2 a3 s l = some (verifyF a1 a2 a3 s l) := by unfold digest_Verify.f; rw [if_pos ⟨by omega, hn, by omega⟩]
 have e2 : digest_VerifyExtension.f a0 a3 a1 a2 l = some (verifyEF a0 a3 a1 a2 l) := by unfold digest_VerifyExtension.f; rw [if_pos ⟨hn, by omega⟩]
 rw [hsane, Option.bind_some, hl', Option.bind_some, if_pos p0, if_pos p1, hs, e1, Option.bind_some, verify_ref a1 s a2 a3 l hn (by omega) (by omega) h100, Option.bind_some, if_pos rfl, if_pos (by simp), e2, Option.bind_some, verifyE_ref a0 a1 a3 a2 l hn (by omega) h100, Option.bind_some]
 simp
theorem verref (a0 a1 : ByteArray) (a2 a3 : Int) (a4 : ByteArray) (A5 : Option Addr) (n5 c5 : Nat) (l5 : List ByteArray) (w : World)
  (w0 : a0.size ≤ 140737488351232) (w1 : a1.size ≤ 140737488351232) (w2 : (Lit.int .i64 a2).wf = true) (w3 : (Lit.int .i64 a3).wf = true) (w4 : a4.size ≤ 140737488351232) (w5 : l5.length = n5 ∧ n5 ≤ c5 ∧ c5 ≤ maxLen ∧ Kd.C Kd.string w A5 n5 l5 ∧ ∀ x ∈ l5, x.size ≤ maxLen) (hG : Amb w) :
  Calls Tryd.prog 4 #[.string a0, .string a1, .int .i64 a2, .int .i64 a3, .string a4, .slice A5 n5 c5] w fun e w' => e = .returned (.bool true) ∧ Below w.heap.size w w' := by
 obtain ⟨rfl, h1, _, k1, _⟩ := w5
 obtain ⟨k, hk⟩ := verref_f a0 a1 a2 a3 a4 l5 (wf_hi w2).2
 exact clearwaylaw02_DigestVerifyMatchesReference.calls k a0 a1 a2 a3 a4 A5 c5 l5 true w k1 h1 hG hk
end Go.Proofs.YtjkdenldddjcnaaDoor.Sha

