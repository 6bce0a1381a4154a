/- The contracts of functions, written by this session's program (wip/pp.py): what the list functions answer, the code comes to. No condition. The reference's trees are the program's: what its printed list functions answer. Conditions: at most 1,000 strings, of at most 1,000 bytes. DigestTreeMatchesReference returns true for all arguments: the printed contract joined with the plain law. Condition: none but the sizes that any call has. -/
import Derived.Test.YtjkdenldddjcnaaDoorKDigestTreeMatchesReference15
import Derived.Test.YtjkdenldddjcnaaDoorKDigestTreeMatchesReference17
import Derived.Test.YtjkdenldddjcnaaDoorKDigestTreeMatchesReference13
import Derived.Test.YtjkdenldddjcnaaDoorKDigestTreeMatchesReference12
namespace Go.Proofs.YtjkdenldddjcnaaDoor.Dm
open Go.RowKit Go.Proofs.YtjkdenldddjcnaaDoor.Sha Go.Proofs.YtjkdenldddjcnaaDoor.Df Go.Proofs.YtjkdenldddjcnaaDoorW.PrintWords Go.Proofs.YtjkdenldddjcnaaDoorW.PrintLast Go.Proofs.YtjkdenldddjcnaaDoorW.PrintMore
attribute [local go_sem] max2_int min2_int max_two min_two max_three min_three max_four min_four   -- for this text's walks alone
set_option linter.unusedVariables false
set_option linter.unusedSimpArgs false

/-! ### clearwayref02_part: function 43 -/
def clearwayref02_part.f : Nat → List ByteArray → Int → Bool → Option (List ByteArray)
 | 0, _, _, _ => none
 | k + 1, l0, a1, a2 => if a1 = (l0.length : Int) then (if a2 = true then (some ([] : List ByteArray)) else ((clearwayref02_Root.f k l0).bind fun t246 => (some (([t246] : List ByteArray))))) else ((clearwayref02_Left.f k (l0.length : Int)).bind fun t250 => (if a1 ≤ t250 then (if 0 ≤ t250 then (if t250 ≤ (l0.length : Int) then ((clearwayref02_part.f k (l0.take (t250 : Int).toNat) a1 a2).bind fun t252 => ((clearwayref02_Root.f k (l0.drop (t250 : Int).toNat)).bind fun t256 => (if t252.length < 8796093022208 then (some (t252 ++ [t256])) else (none)))) else (none)) else (none)) else (if 0 ≤ t250 then (if t250 ≤ (l0.length : Int) then ((clearwayref02_part.f k (l0.drop (t250 : Int).toNat) (wrap64 (a1 - t250)) false).bind fun t261 => ((clearwayref02_Root.f k (l0.take (t250 : Int).toNat)).bind fun t265 => (if t261.length < 8796093022208 then (some (t261 ++ [t265])) else (none)))) else (none)) else (none))))
def clearwayref02_part.T7 : Bool × List (List Nat × List Nat) := (true, [([], []), ([], []), ([0, 1], [0, 1]), ([], []), ([], []), ([2, 3, 4], [2, 3, 4]), ([], []), ([], []), ([6, 7], [6, 7]), ([8, 5], [8]), ([9], [9]), ([5, 10, 9], [5, 10]), ([11, 11, 0, 1, 2, 3, 4, 5, 6, 7, 8, 9, 10, 11], [11])])
def clearwayref02_part.B7 : List Nat := [0, 0, 3, 0, 0, 31, 0, 0, 192, 511, 1023, 2047, 4095]
theorem clearwayref02_part.tab7 : rtab .any (opsOf Tryd.f43 7) = clearwayref02_part.T7 := by kernel_rfl
theorem clearwayref02_part.bits7 : waitsOk clearwayref02_part.T7.2 clearwayref02_part.B7 = true := by kernel_rfl
def clearwayref02_part.T8 : Bool × List (List Nat × List Nat) := (true, [([], []), ([], []), ([0, 1], [0, 1]), ([], []), ([], []), ([3, 4], [3, 4]), ([2, 5], [2, 5]), ([], []), ([], []), ([7, 8], [7, 8]), ([9, 6], [9]), ([10], [10]), ([6, 11, 10], [6, 11]), ([12, 12, 0, 1, 2, 3, 4, 5, 6, 7, 8, 9, 10, 11, 12], [12])])
def clearwayref02_part.B8 : List Nat := [0, 0, 3, 0, 0, 24, 63, 0, 0, 384, 1023, 2047, 4095, 8191]
theorem clearwayref02_part.tab8 : rtab .any (opsOf Tryd.f43 8) = clearwayref02_part.T8 := by kernel_rfl
theorem clearwayref02_part.bits8 : waitsOk clearwayref02_part.T8.2 clearwayref02_part.B8 = true := by kernel_rfl
set_option maxHeartbeats 8000000 in
set_option maxRecDepth 100000 in
theorem clearwayref02_part.calls (k : Nat) : ∀ (A0 : Option Addr) (c0 : Nat) (l0 : List ByteArray) (a1 : Int) (a2 : Bool) (r : List ByteArray) (w : World) (hr0 : Kd.C Kd.string w A0 l0.length l0) (hc0 : l0.length ≤ c0) (h : clearwayref02_part.f k l0 a1 a2 = some r),
  Calls Tryd.prog 43 #[.slice A0 l0.length c0, .int .i64 a1, .bool a2] w fun e w' => ∃ v0_ : Value, e = .returned (v0_) ∧ Kd.R Kd.string 9 w' w.heap.size (fun _ => True) v0_ r ∧ Below w.heap.size w w' := by
 induction k using Nat.strongRecOn with
 | _ k ih =>
 intro A0 c0 l0 a1 a2 r w hr0 hc0 h
 cases k with
 | zero => exact absurd h (by simp [clearwayref02_part.f])
 | succ k =>
 simp only [clearwayref02_part.f] at h
 have HR0 := Aside0.mk hr0
 have HC0 := Aside0.mk hc0
 clear hr0 hc0
 have HB := Aside0.mk (Below.refl w.heap.size w)
 have H : (if a1 = (l0.length : Int) then (if a2 = true then (some ([] : List ByteArray)) else ((clearwayref02_Root.f k l0).bind fun t246 => (some (([t246] : List ByteArray))))) else ((clearwayref02_Left.f k (l0.length : Int)).bind fun t250 => (if a1 ≤ t250 then (if 0 ≤ t250 then (if t250 ≤ (l0.length : Int) then ((clearwayref02_part.f k (l0.take (t250 : Int).toNat) a1 a2).bind fun t252 => ((clearwayref02_Root.f k (l0.drop (t250 : Int).toNat)).bind fun t256 => (if t252.length < 8796093022208 then (some (t252 ++ [t256])) else (none)))) else (none)) else (none)) else (if 0 ≤ t250 then (if t250 ≤ (l0.length : Int) then ((clearwayref02_part.f k (l0.drop (t250 : Int).toNat) (wrap64 (a1 - t250)) false).bind fun t261 => ((clearwayref02_Root.f k (l0.take (t250 : Int).toNat)).bind fun t265 => (if t261.length < 8796093022208 then (some (t261 ++ [t265])) else (none)))) else (none)) else (none))))) = some r := h
 clear h
 by_cases c4 : a1 = (l0.length : Int)
 ·rw [if_pos c4] at H
  have c4b0 : (a1 == (l0.length : Int)) = true := beq_iff_eq.mpr c4
  have c4b1 : (a1 != (l0.length : Int)) = false := bne_eq_false_iff_eq.mpr c4
  clear c4
  by_cases c5 : a2 = true
  ·subst c5
   have H1 : (some ([] : List ByteArray)) = some r := by rw [if_pos rfl] at H; exact H
   clear H
   have H := H1
   clear H1
   obtain rfl := Option.some.inj H
   go_enter Tryd.func43, Tryd.ntmps43
   go_wp2
   go_ret
   exact ⟨_, by first | rfl | (simp [errW_none, errW_some] <;> rfl) | (simp [*, errW_none, errW_some] <;> rfl), by first | exact Kd.R_nil _ _ _ _ _ | exact Kd.N_nil _ _ _ _ _ | exact Kd.V_nil _ _ _ _ _ | exact Kd.Q_nil _ _ _ _ _ | exact Kd.S_nil _ _ _ _ _, by repeat (first | (with_reducible first | exact HB.out | apply below_alloc | apply pw_below_drewN | apply below_drew1) | exact HB.out)⟩
  ·replace c5 := Bool.eq_false_iff.mpr c5
   subst c5
   have H1 : ((clearwayref02_Root.f k l0).bind fun t246 => (some (([t246] : List ByteArray)))) = some r := by rw [if_neg (show ¬ (false = true) by decide)] at H; exact H
   clear H
   have H := H1
   clear H1
   replace H := Option.bind_eq_some_iff.mp H
   obtain ⟨t246, A60, H⟩ := H
   replace H : (some (([t246] : List ByteArray))) = some r := H
   have A6 := Aside0.mk A60
   clear A60
   obtain ⟨y247, hy247⟩ : ∃ y_ : List ByteArray, y_ = (([t246] : List ByteArray)) := ⟨_, rfl⟩
   replace H : (some y247) = some r := by first | (rw [hy247]; with_reducible exact H) | (have H2_ := (Option.bind_some _ _).symm.trans H; rw [hy247]; with_reducible exact H2_) | (have H2_ := (Option.bind_some _ _).symm.trans H; with_reducible exact H2_) | with_reducible exact H | (rw [hy247]; exact H) | exact H
   have Ny247 := Aside0.mk hy247
   clear hy247
   obtain rfl := Option.some.inj H
   go_enter Tryd.func43, Tryd.ntmps43
   go_wp2_with (first | ((with_reducible refine gate_callee (f := 20) rfl ?_); refine goesL_ (some 14) rfl rfl Tryd.func20 (by kernel_rfl) rfl #[.slice A0 l0.length c0] rfl (by (try simp only [List.map_toArray, List.map_cons, List.map_nil]); first | done | rfl | (simp only [List.length_drop, List.length_take]; rfl)) ?_; (with_reducible refine (clearwayref02_Root.calls k _ _ l0 t246 _ ?side1 ?side2 A6.out).mono ?_); (case side1 => repeat (first | exact HR0.out | (with_reducible refine Kd.C_alloc ?_ _) | (with_reducible refine Kd.C_drewN ?_ _) | (with_reducible refine Kd.C_drew ?_))); (case side2 => exact HC0.out); rintro e w7 ⟨rfl, hb⟩; refine ⟨_, rfl, ?_⟩; have n0_ := Aside0.mk (below_step (by repeat (first | (with_reducible first | exact HB.out | apply below_alloc | apply pw_below_drewN | apply below_drew1) | exact HB.out)) hb); clear HB; have HB := n0_; clear n0_; (try clear hb); (try clear hb2); (try clear hk); (try clear hi)) | ((with_reducible refine gate_dst (N := 15) rfl ?_); refine Kd.R_lit Kd.string _ 9 ?hg (N := 15) ?hd (xs := ([t246] : List ByteArray)) (inner := [.string t246]) (ok := fun _ => True) (okp := fun _ => True) ?hr ?hp (fun _ hk => hk) trivial (Below.refl _ _) (Nat.le_refl _) (by simp) ?_; (case hd => rfl); (case hg => rfl); (case hr => first | (go_simp; done) | (go_simp; rfl)); (case hp => exact (Reps.one (show Kd.M Kd.string _ _ _ t246 [.string t246] from rfl) (Reps.none _ _))); intro v248 w8 ho9 hb hg_ hnew_; clear hg_ hnew_; (first | rw [← Ny247.out] at ho9 | (simp only [Int.reduceToNat] at ho9; rw [← Ny247.out] at ho9)); have n0_ := Aside0.mk (Kd.R_lower ho9 (below_size (by repeat (first | (with_reducible first | exact HB.out | apply below_alloc | apply pw_below_drewN | apply below_drew1) | exact HB.out)))); have n1_ := Aside0.mk (below_step (by repeat (first | (with_reducible first | exact HB.out | apply below_alloc | apply pw_below_drewN | apply below_drew1) | exact HB.out)) hb); clear HB; have HO249 := n0_; have HB := n1_; clear n0_ n1_; clear hb ho9))
   go_ret
   exact ⟨_, by first | rfl | (simp [errW_none, errW_some] <;> rfl) | (simp [*, errW_none, errW_some] <;> rfl), by (with_reducible repeat (first | apply Kd.R_alloc | apply Kd.R_drewN | apply Kd.R_drew)); exact HO249.out, by repeat (first | (with_reducible first | exact HB.out | apply below_alloc | apply pw_below_drewN | apply below_drew1) | exact HB.out)⟩
 ·rw [if_neg c4] at H
  have c4b0 : (a1 == (l0.length : Int)) = false := beq_eq_false_iff_ne.mpr c4
  have c4b1 : (a1 != (l0.length : Int)) = true := bne_iff_ne.mpr c4
  replace H := Option.bind_eq_some_iff.mp H
  obtain ⟨t250, A100, H⟩ := H
  replace H : (if a1 ≤ t250 then (if 0 ≤ t250 then (if t250 ≤ (l0.length : Int) then ((clearwayref02_part.f k (l0.take (t250 : Int).toNat) a1 a2).bind fun t252 => ((clearwayref02_Root.f k (l0.drop (t250 : Int).toNat)).bind fun t256 => (if t252.length < 8796093022208 then (some (t252 ++ [t256])) else (none)))) else (none)) else (none)) else (if 0 ≤ t250 then (if t250 ≤ (l0.length : Int) then ((clearwayref02_part.f k (l0.drop (t250 : Int).toNat) (wrap64 (a1 - t250)) false).bind fun t261 => ((clearwayref02_Root.f k (l0.take (t250 : Int).toNat)).bind fun t265 => (if t261.length < 8796093022208 then (some (t261 ++ [t265])) else (none)))) else (none)) else (none))) = some r := H
  have A10 := Aside0.mk A100
  clear A100
  by_cases c11 : a1 ≤ t250
  ·rw [if_pos c11] at H
   have c11b0 : decide (a1 ≤ t250) = true := decide_eq_true c11
   clear c11
   by_cases c12 : 0 ≤ t250
   ·rw [if_pos c12] at H
    have c12b0 := eq_true c12
    have c12b1 : decide (0 ≤ t250) = true := decide_eq_true c12
    clear c12
    by_cases c13 : t250 ≤ (l0.length : Int)
    ·rw [if_pos c13] at H
     have c13b0 := eq_true c13
     have c13b1 : decide (t250 ≤ (l0.length : Int)) = true := decide_eq_true c13
     clear c13
     replace H := Option.bind_eq_some_iff.mp H
     obtain ⟨t252, A140, H⟩ := H
     replace H : ((clearwayref02_Root.f k (l0.drop (t250 : Int).toNat)).bind fun t256 => (if t252.length < 8796093022208 then (some (t252 ++ [t256])) else (none))) = some r := H
     have A14 := Aside0.mk A140
     clear A140
     have c15b0 := eq_true (of_decide_eq_true (by first | (with_reducible assumption) | assumption) : 0 ≤ t250)
     have c16b0 := eq_true (of_decide_eq_true (by first | (with_reducible assumption) | assumption) : t250 ≤ (l0.length : Int))
     replace H := Option.bind_eq_some_iff.mp H
     obtain ⟨t256, A170, H⟩ := H
     replace H : (if t252.length < 8796093022208 then (some (t252 ++ [t256])) else (none)) = some r := H
     have A17 := Aside0.mk A170
     clear A170
     by_cases c18 : t252.length < 8796093022208
     ·rw [if_pos c18] at H
      have LMc18 := Aside0.mk c18
      clear c18
      obtain ⟨y257, hy257⟩ : ∃ y_ : List ByteArray, y_ = (t252 ++ [t256]) := ⟨_, rfl⟩
      replace H : (some y257) = some r := by first | (rw [hy257]; with_reducible exact H) | (have H2_ := (Option.bind_some _ _).symm.trans H; rw [hy257]; with_reducible exact H2_) | (have H2_ := (Option.bind_some _ _).symm.trans H; with_reducible exact H2_) | with_reducible exact H | (rw [hy257]; exact H) | exact H
      have Ny257 := Aside0.mk hy257
      clear hy257
      obtain rfl := Option.some.inj H
      go_enter Tryd.func43, Tryd.ntmps43
      try go_wp2_with (first | ((with_reducible refine gate_callee (f := 42) rfl ?_); refine goesL_ (some 18) rfl rfl Tryd.func42 (by kernel_rfl) rfl #[.int .i64 (l0.length : Int)] rfl (by (try simp only [List.map_toArray, List.map_cons, List.map_nil]); first | done | rfl | (simp only [List.length_drop, List.length_take]; rfl)) ?_; (with_reducible refine (clearwayref02_Left.calls k (l0.length : Int) t250 _ A10.out).mono ?_); rintro e w' ⟨rfl, ⟨nd, rfl⟩⟩; refine ⟨_, rfl, ?_⟩))
      refine (fun (h_ : ∀ W_ : World, Aside0 (Below w.heap.size w W_) → Code.wp _ _ _ _ W_) => h_ _ ⟨by repeat (first | (with_reducible first | exact HB.out | apply below_alloc | apply pw_below_drewN | apply below_drew1) | exact HB.out)⟩) ?_
      intro w19 n0_
      clear HB
      have HB := n0_
      clear n0_
      have n0_ := Aside0.mk (below_drew1 HB.out)
      clear HB
      have HB := n0_
      clear n0_
      obtain ⟨i021, hi021, _, hsz21, _⟩ := info_parts info9
      obtain ⟨hcut21, hA21, hC21⟩ := print_take_of (P := Tryd.prog) Value.string (⟨#[]⟩ : ByteArray) 22 9 .i64 Tryd.underlying22 hi021 hsz21 A0 c0 l0 t250 (of_decide_eq_true (by first | (with_reducible assumption) | assumption)) (of_decide_eq_true (by first | (with_reducible assumption) | assumption)) HC0.out
      have HR251 := Aside0.mk (Kd.C_of_reads (h1 := fun _ => rfl) (hA21 _ (Kd.reads_of_C HR0.out)))
      have HC251 := Aside0.mk hC21
      clear hA21 hC21 hi021 hsz21
      obtain ⟨i022, hi022, _, hsz22, _⟩ := info_parts info9
      obtain ⟨A22, hcut22, hA22, hC22⟩ := print_drop_of (P := Tryd.prog) Value.string (⟨#[]⟩ : ByteArray) 22 9 .i64 Tryd.underlying22 hi022 hsz22 A0 c0 l0 t250 (of_decide_eq_true (by first | (with_reducible assumption) | assumption)) (of_decide_eq_true (by first | (with_reducible assumption) | assumption)) HC0.out
      have HR255 := Aside0.mk (Kd.C_of_reads (h1 := fun _ => rfl) (hA22 _ (Kd.reads_of_C HR0.out)))
      have HC255 := Aside0.mk hC22
      clear hA22 hC22 hi022 hsz22
      refine start_ (n := 13) (S := fun w' => True) (ds := []) #[false, false, false, false, false, false, false, false, false, false, false, false, false] (by kernel_rfl) rfl rfl trivial (fun hHeld => ?_); refine with_tabW clearwayref02_part.tab7 clearwayref02_part.bits7 (fun HT_ HW_ => ?_)
      generalize w19.drew = w20 at HB HR251 HR255 hHeld ⊢
      refine pure_ (i := 0) (N := some 22) (v := ?_) (a' := ?_) #[true, false, false, false, false, false, false, false, false, false, false, false, false] rfl rfl (any_of HT_.out (by kernel_rfl)) (fun _ _ _ h => h) (Or.inl ⟨by rfl, ?_⟩) ?_ ?_
      rotate_left
      ·intro w'
       go_simp
       with_reducible rfl
      rotate_left
      ·simp only [Act.put, List.setIfInBounds_toArray, List.set_cons_zero, List.set_cons_succ, i64_w, i32_w]
       rfl
      refine pure_ (i := 1) (N := some 23) (v := ?_) (a' := ?_) #[true, true, false, false, false, false, false, false, false, false, false, false, false] rfl rfl (any_of HT_.out (by kernel_rfl)) (fun _ _ _ h => h) (Or.inl ⟨by rfl, ?_⟩) ?_ ?_
      rotate_left
      ·intro w'
       go_simp
       with_reducible rfl
      rotate_left
      ·simp only [Act.put, List.setIfInBounds_toArray, List.set_cons_zero, List.set_cons_succ, i64_w, i32_w]
       rfl
      refine pure_ (i := 2) (N := some 24) (v := ?_) (a' := ?_) #[true, true, true, false, false, false, false, false, false, false, false, false, false] rfl rfl (any_of HT_.out (by kernel_rfl)) (fun _ _ _ h => h) (Or.inl ⟨by rfl, ?_⟩) ?_ ?_
      rotate_left
      ·intro w'
       go_simp
       with_reducible rfl
      rotate_left
      ·simp only [Act.put, List.setIfInBounds_toArray, List.set_cons_zero, List.set_cons_succ, i64_w, i32_w]
       rfl
      refine pure_ (i := 3) (N := some 25) (v := ?_) (a' := ?_) #[true, true, true, true, false, false, false, false, false, false, false, false, false] rfl rfl (any_of HT_.out (by kernel_rfl)) (fun _ _ _ h => h) (Or.inl ⟨by rfl, ?_⟩) ?_ ?_
      rotate_left
      ·intro w'
       go_simp
       with_reducible rfl
      rotate_left
      ·simp only [Act.put, List.setIfInBounds_toArray, List.set_cons_zero, List.set_cons_succ, i64_w, i32_w]
       rfl
      refine pure_ (i := 4) (N := some 26) (v := ?_) (a' := ?_) #[true, true, true, true, true, false, false, false, false, false, false, false, false] rfl rfl (any_of HT_.out (by kernel_rfl)) (fun _ _ _ h => h) (Or.inl ⟨by rfl, ?_⟩) ?_ ?_
      rotate_left
      ·intro w'
       go_simp
       with_reducible rfl
      rotate_left
      ·simp only [Act.put, List.setIfInBounds_toArray, List.set_cons_zero, List.set_cons_succ, i64_w, i32_w]
       rfl
      refine pure_ (i := 6) (N := some 28) (v := ?_) (a' := ?_) #[true, true, true, true, true, false, true, false, false, false, false, false, false] rfl rfl (any_of HT_.out (by kernel_rfl)) (fun _ _ _ h => h) (Or.inl ⟨by rfl, ?_⟩) ?_ ?_
      rotate_left
      ·intro w'
       go_simp
       with_reducible rfl
      rotate_left
      ·simp only [Act.put, List.setIfInBounds_toArray, List.set_cons_zero, List.set_cons_succ, i64_w, i32_w]
       rfl
      refine pure_ (i := 7) (N := some 29) (v := ?_) (a' := ?_) #[true, true, true, true, true, false, true, true, false, false, false, false, false] rfl rfl (any_of HT_.out (by kernel_rfl)) (fun _ _ _ h => h) (Or.inl ⟨by rfl, ?_⟩) ?_ ?_
      rotate_left
      ·intro w'
       go_simp
       with_reducible rfl
      rotate_left
      ·simp only [Act.put, List.setIfInBounds_toArray, List.set_cons_zero, List.set_cons_succ, i64_w, i32_w]
       rfl
      refine pure_ (i := 8) (N := some 30) (v := ?_) (a' := ?_) #[true, true, true, true, true, false, true, true, true, false, false, false, false] rfl rfl (any_of HT_.out (by kernel_rfl)) (fun _ _ _ h => h) (Or.inl ⟨by rfl, ?_⟩) ?_ ?_
      rotate_left
      ·intro w'
       go_simp
       with_reducible rfl
      rotate_left
      ·simp only [Act.put, List.setIfInBounds_toArray, List.set_cons_zero, List.set_cons_succ, i64_w, i32_w]
       rfl
      refine one_ (i := 5) (N := some 27) #[true, true, true, true, true, true, true, true, true, false, false, false, false] rfl rfl (one_of HT_.out (by kernel_rfl)) (by decide) (fun K hK => ?_)
      refine goes_ Tryd.func43 (by kernel_rfl) rfl #[.slice A0 (l0.take (t250 : Int).toNat).length c0, .int .i64 a1, .bool a2] (by rfl) rfl rfl (by (try simp only [List.map_toArray, List.map_cons, List.map_nil]); first | done | (rw [show (l0.take (t250 : Int).toNat).length = t250.toNat from (by rw [List.length_take]; have h_ : (t250 : Int) ≤ (l0.length : Int) := of_decide_eq_true (by first | (with_reducible assumption) | assumption); omega)] <;> rfl) | rfl | (simp only [List.length_drop, List.length_take]; rfl)) ?_
      with_reducible refine (ih k (by omega) _ _ (l0.take (t250 : Int).toNat) a1 a2 t252 _ ?side1 ?side2 A14.out).mono ?_
      (case side1 => repeat (first | exact (Kd.C_below HR251.out HB.out) | (with_reducible refine Kd.C_alloc ?_ _) | (with_reducible refine Kd.C_drewN ?_ _) | (with_reducible refine Kd.C_drew ?_)))
      (case side2 => exact HC251.out)
      rintro e w23 ⟨v253, rfl, ho0, hb⟩
      refine ⟨_, rfl, ?_⟩
      have n0_ := Aside0.mk (Kd.R_lower ho0 (below_size (by repeat (first | (with_reducible first | exact HB.out | apply below_alloc | apply pw_below_drewN | apply below_drew1) | exact HB.out))))
      have n1_ := Aside0.mk (below_step (by repeat (first | (with_reducible first | exact HB.out | apply below_alloc | apply pw_below_drewN | apply below_drew1) | exact HB.out)) hb)
      clear HB
      have HO254 := n0_
      have HB := n1_
      clear n0_ n1_
      (try clear hb)
      (try clear hb2)
      (try clear hk)
      (try clear hi)
      (try clear ho0)
      refine hK.out _ _ trivial (fun hHeld => ?_)
      clear hK K
      refine norm_ (a' := ?_) ?_ ?_
      rotate_left
      ·show Act.put _ (some 27) _ = _
       simp only [Act.put, List.setIfInBounds_toArray, List.set_cons_zero, List.set_cons_succ, i64_w, i32_w]
       rfl
      refine one_ (i := 9) (N := some 31) #[true, true, true, true, true, true, true, true, true, true, false, false, false] rfl rfl (one_of HT_.out (by kernel_rfl)) (by decide) (fun K hK => ?_)
      refine goes_ Tryd.func20 (by kernel_rfl) rfl #[.slice A22 (l0.drop (t250 : Int).toNat).length (c0 - t250.toNat)] (by rfl) rfl rfl (by (try simp only [List.map_toArray, List.map_cons, List.map_nil]); first | done | (rw [show (l0.drop (t250 : Int).toNat).length = (l0.length - t250.toNat) from List.length_drop] <;> rfl) | rfl | (simp only [List.length_drop, List.length_take]; rfl)) ?_
      with_reducible refine (clearwayref02_Root.calls k _ _ (l0.drop (t250 : Int).toNat) t256 _ ?side1 ?side2 A17.out).mono ?_
      (case side1 => repeat (first | exact (Kd.C_below HR255.out HB.out) | (with_reducible refine Kd.C_alloc ?_ _) | (with_reducible refine Kd.C_drewN ?_ _) | (with_reducible refine Kd.C_drew ?_)))
      (case side2 => exact HC255.out)
      rintro e w24 ⟨rfl, hb⟩
      refine ⟨_, rfl, ?_⟩
      have n0_ := Aside0.mk (Kd.R_below (by (with_reducible repeat (first | apply Kd.R_alloc | apply Kd.R_drewN | apply Kd.R_drew)); exact HO254.out) hb)
      have n1_ := Aside0.mk (below_step (by repeat (first | (with_reducible first | exact HB.out | apply below_alloc | apply pw_below_drewN | apply below_drew1) | exact HB.out)) hb)
      clear HO254
      clear HB
      have HO254 := n0_
      have HB := n1_
      clear n0_ n1_
      (try clear hb)
      (try clear hb2)
      (try clear hk)
      (try clear hi)
      refine hK.out _ _ trivial (fun hHeld => ?_)
      clear hK K
      refine norm_ (a' := ?_) ?_ ?_
      rotate_left
      ·show Act.put _ (some 31) _ = _
       simp only [Act.put, List.setIfInBounds_toArray, List.set_cons_zero, List.set_cons_succ, i64_w, i32_w]
       rfl
      refine one_ (i := 10) (N := some 32) #[true, true, true, true, true, true, true, true, true, true, true, false, false] rfl rfl (one_of HT_.out (by kernel_rfl)) (by decide) (fun K hK => ?_)
      refine value_ (w1 := ?_) (v := ?_) (by rfl) rfl ?_ ?_
      rotate_left 2
      ·go_simp
       constructor
       ·rfl
       ·rfl
      refine hK.out _ _ trivial (fun hHeld => ?_)
      clear hK K
      refine norm_ (a' := ?_) ?_ ?_
      rotate_left
      ·show Act.put _ (some 32) _ = _
       simp only [Act.put, List.setIfInBounds_toArray, List.set_cons_zero, List.set_cons_succ, i64_w, i32_w]
       rfl
      refine one_ (i := 11) (N := some 33) #[true, true, true, true, true, true, true, true, true, true, true, true, false] rfl rfl (one_of HT_.out (by kernel_rfl)) (by decide) (fun K hK => ?_)
      refine Kd.R_append_step Kd.string (w0 := w) w.heap.size (by rfl) (.tmp 27) (.tmp 32) 22 9 (.string ⟨#[]⟩) 16 rfl Tryd.underlying22 info9 rfl (by decide) (by omega) v253 t252 t256 [.string t256] (fun _ => True) (fun _ => False) rfl rfl ?aP (fun _ hk => hk.elim) ?aF ?aO ?aB ?aS ?aL ?_
      (case aP => exact rfl)
      (case aB => exact (by repeat (first | (with_reducible first | exact HB.out | apply below_alloc | apply pw_below_drewN | apply below_drew1) | exact HB.out)))
      (case aF => exact (fun _ _ => trivial))
      (case aO => exact (by (with_reducible repeat (first | apply Kd.R_alloc | apply Kd.R_drewN | apply Kd.R_drew)); exact HO254.out))
      (case aS => exact (below_size (by repeat (first | (with_reducible first | exact HB.out | apply below_alloc | apply pw_below_drewN | apply below_drew1) | exact HB.out))))
      (case aL => have := LMc18.out; omega)
      intro v258 w25 ho hb hg hat
      rw [← Ny257.out] at ho
      have n0_ := Aside0.mk (hb)
      have n1_ := Aside0.mk (ho)
      clear HB
      clear HO254
      have HB := n0_
      have HO259 := n1_
      clear n0_ n1_
      clear ho hb hg hat
      refine hK.out _ _ trivial (fun hHeld => ?_)
      clear hK K
      refine norm_ (a' := ?_) ?_ ?_
      rotate_left
      ·show Act.put _ (some 33) _ = _
       simp only [Act.put, List.setIfInBounds_toArray, List.set_cons_zero, List.set_cons_succ, i64_w, i32_w]
       rfl
      refine pure_ (i := 12) (N := some 6) (v := ?_) (a' := ?_) #[true, true, true, true, true, true, true, true, true, true, true, true, true] rfl rfl (any_of HT_.out (by kernel_rfl)) (fun _ _ _ h => h) (Or.inl ⟨by rfl, ?_⟩) ?_ ?_
      rotate_left
      ·intro w'
       go_simp
       with_reducible rfl
      rotate_left
      ·simp only [Act.put, List.setIfInBounds_toArray, List.set_cons_zero, List.set_cons_succ, i64_w, i32_w]
       rfl
      refine done_ (done_of HT_.out (by kernel_rfl)) ?_
      try go_wp2
      go_ret
      exact ⟨_, by first | rfl | (simp [errW_none, errW_some] <;> rfl) | (simp [*, errW_none, errW_some] <;> rfl), by (with_reducible repeat (first | apply Kd.R_alloc | apply Kd.R_drewN | apply Kd.R_drew)); exact HO259.out, by repeat (first | (with_reducible first | exact HB.out | apply below_alloc | apply pw_below_drewN | apply below_drew1) | exact HB.out)⟩
     ·rw [if_neg c18] at H
      exact absurd H (by simp)
    ·rw [if_neg c13] at H
     exact absurd H (by simp)
   ·rw [if_neg c12] at H
    exact absurd H (by simp)
  ·rw [if_neg c11] at H
   have c11b0 : decide (a1 ≤ t250) = false := decide_eq_false c11
   clear c11
   by_cases c26 : 0 ≤ t250
   ·rw [if_pos c26] at H
    have c26b0 := eq_true c26
    have c26b1 : decide (0 ≤ t250) = true := decide_eq_true c26
    clear c26
    by_cases c27 : t250 ≤ (l0.length : Int)
    ·rw [if_pos c27] at H
     have c27b0 := eq_true c27
     have c27b1 : decide (t250 ≤ (l0.length : Int)) = true := decide_eq_true c27
     clear c27
     replace H := Option.bind_eq_some_iff.mp H
     obtain ⟨t261, A280, H⟩ := H
     replace H : ((clearwayref02_Root.f k (l0.take (t250 : Int).toNat)).bind fun t265 => (if t261.length < 8796093022208 then (some (t261 ++ [t265])) else (none))) = some r := H
     have A28 := Aside0.mk A280
     clear A280
     have c29b0 := eq_true (of_decide_eq_true (by first | (with_reducible assumption) | assumption) : 0 ≤ t250)
     have c30b0 := eq_true (of_decide_eq_true (by first | (with_reducible assumption) | assumption) : t250 ≤ (l0.length : Int))
     replace H := Option.bind_eq_some_iff.mp H
     obtain ⟨t265, A310, H⟩ := H
     replace H : (if t261.length < 8796093022208 then (some (t261 ++ [t265])) else (none)) = some r := H
     have A31 := Aside0.mk A310
     clear A310
     by_cases c32 : t261.length < 8796093022208
     ·rw [if_pos c32] at H
      have LMc32 := Aside0.mk c32
      clear c32
      obtain ⟨y266, hy266⟩ : ∃ y_ : List ByteArray, y_ = (t261 ++ [t265]) := ⟨_, rfl⟩
      replace H : (some y266) = some r := by first | (rw [hy266]; with_reducible exact H) | (have H2_ := (Option.bind_some _ _).symm.trans H; rw [hy266]; with_reducible exact H2_) | (have H2_ := (Option.bind_some _ _).symm.trans H; with_reducible exact H2_) | with_reducible exact H | (rw [hy266]; exact H) | exact H
      have Ny266 := Aside0.mk hy266
      clear hy266
      obtain rfl := Option.some.inj H
      go_enter Tryd.func43, Tryd.ntmps43
      try go_wp2_with (first | ((with_reducible refine gate_callee (f := 42) rfl ?_); refine goesL_ (some 18) rfl rfl Tryd.func42 (by kernel_rfl) rfl #[.int .i64 (l0.length : Int)] rfl (by (try simp only [List.map_toArray, List.map_cons, List.map_nil]); first | done | rfl | (simp only [List.length_drop, List.length_take]; rfl)) ?_; (with_reducible refine (clearwayref02_Left.calls k (l0.length : Int) t250 _ A10.out).mono ?_); rintro e w' ⟨rfl, ⟨nd, rfl⟩⟩; refine ⟨_, rfl, ?_⟩))
      refine (fun (h_ : ∀ W_ : World, Aside0 (Below w.heap.size w W_) → Code.wp _ _ _ _ W_) => h_ _ ⟨by repeat (first | (with_reducible first | exact HB.out | apply below_alloc | apply pw_below_drewN | apply below_drew1) | exact HB.out)⟩) ?_
      intro w33 n0_
      clear HB
      have HB := n0_
      clear n0_
      have n0_ := Aside0.mk (below_drew1 HB.out)
      clear HB
      have HB := n0_
      clear n0_
      obtain ⟨i035, hi035, _, hsz35, _⟩ := info_parts info9
      obtain ⟨A35, hcut35, hA35, hC35⟩ := print_drop_of (P := Tryd.prog) Value.string (⟨#[]⟩ : ByteArray) 22 9 .i64 Tryd.underlying22 hi035 hsz35 A0 c0 l0 t250 (of_decide_eq_true (by first | (with_reducible assumption) | assumption)) (of_decide_eq_true (by first | (with_reducible assumption) | assumption)) HC0.out
      have HR260 := Aside0.mk (Kd.C_of_reads (h1 := fun _ => rfl) (hA35 _ (Kd.reads_of_C HR0.out)))
      have HC260 := Aside0.mk hC35
      clear hA35 hC35 hi035 hsz35
      obtain ⟨i036, hi036, _, hsz36, _⟩ := info_parts info9
      obtain ⟨hcut36, hA36, hC36⟩ := print_take_of (P := Tryd.prog) Value.string (⟨#[]⟩ : ByteArray) 22 9 .i64 Tryd.underlying22 hi036 hsz36 A0 c0 l0 t250 (of_decide_eq_true (by first | (with_reducible assumption) | assumption)) (of_decide_eq_true (by first | (with_reducible assumption) | assumption)) HC0.out
      have HR264 := Aside0.mk (Kd.C_of_reads (h1 := fun _ => rfl) (hA36 _ (Kd.reads_of_C HR0.out)))
      have HC264 := Aside0.mk hC36
      clear hA36 hC36 hi036 hsz36
      refine start_ (n := 14) (S := fun w' => True) (ds := []) #[false, false, false, false, false, false, false, false, false, false, false, false, false, false] (by kernel_rfl) rfl rfl trivial (fun hHeld => ?_); refine with_tabW clearwayref02_part.tab8 clearwayref02_part.bits8 (fun HT_ HW_ => ?_)
      generalize w33.drew = w34 at HB HR260 HR264 hHeld ⊢
      refine pure_ (i := 0) (N := some 34) (v := ?_) (a' := ?_) #[true, false, false, false, false, false, false, false, false, false, false, false, false, false] rfl rfl (any_of HT_.out (by kernel_rfl)) (fun _ _ _ h => h) (Or.inl ⟨by rfl, ?_⟩) ?_ ?_
      rotate_left
      ·intro w'
       go_simp
       with_reducible rfl
      rotate_left
      ·simp only [Act.put, List.setIfInBounds_toArray, List.set_cons_zero, List.set_cons_succ, i64_w, i32_w]
       rfl
      refine pure_ (i := 1) (N := some 35) (v := ?_) (a' := ?_) #[true, true, false, false, false, false, false, false, false, false, false, false, false, false] rfl rfl (any_of HT_.out (by kernel_rfl)) (fun _ _ _ h => h) (Or.inl ⟨by rfl, ?_⟩) ?_ ?_
      rotate_left
      ·intro w'
       go_simp
       with_reducible rfl
      rotate_left
      ·simp only [Act.put, List.setIfInBounds_toArray, List.set_cons_zero, List.set_cons_succ, i64_w, i32_w]
       rfl
      refine pure_ (i := 2) (N := some 36) (v := ?_) (a' := ?_) #[true, true, true, false, false, false, false, false, false, false, false, false, false, false] rfl rfl (any_of HT_.out (by kernel_rfl)) (fun _ _ _ h => h) (Or.inl ⟨by rfl, ?_⟩) ?_ ?_
      rotate_left
      ·intro w'
       go_simp
       with_reducible rfl
      rotate_left
      ·simp only [Act.put, List.setIfInBounds_toArray, List.set_cons_zero, List.set_cons_succ, i64_w, i32_w]
       rfl
      refine pure_ (i := 3) (N := some 37) (v := ?_) (a' := ?_) #[true, true, true, true, false, false, false, false, false, false, false, false, false, false] rfl rfl (any_of HT_.out (by kernel_rfl)) (fun _ _ _ h => h) (Or.inl ⟨by rfl, ?_⟩) ?_ ?_
      rotate_left
      ·intro w'
       go_simp
       with_reducible rfl
      rotate_left
      ·simp only [Act.put, List.setIfInBounds_toArray, List.set_cons_zero, List.set_cons_succ, i64_w, i32_w]
       rfl
      refine pure_ (i := 4) (N := some 38) (v := ?_) (a' := ?_) #[true, true, true, true, true, false, false, false, false, false, false, false, false, false] rfl rfl (any_of HT_.out (by kernel_rfl)) (fun _ _ _ h => h) (Or.inl ⟨by rfl, ?_⟩) ?_ ?_
      rotate_left
      ·intro w'
       go_simp
       with_reducible rfl
      rotate_left
      ·simp only [Act.put, List.setIfInBounds_toArray, List.set_cons_zero, List.set_cons_succ, i64_w, i32_w]
       rfl
      refine pure_ (i := 5) (N := some 39) (v := ?_) (a' := ?_) #[true, true, true, true, true, true, false, false, false, false, false, false, false, false] rfl rfl (any_of HT_.out (by kernel_rfl)) (fun _ _ _ h => h) (Or.inl ⟨by rfl, ?_⟩) ?_ ?_
      rotate_left
      ·intro w'
       go_simp
       with_reducible rfl
      rotate_left
      ·simp only [Act.put, List.setIfInBounds_toArray, List.set_cons_zero, List.set_cons_succ, i64_w, i32_w]
       rfl
      refine pure_ (i := 7) (N := some 41) (v := ?_) (a' := ?_) #[true, true, true, true, true, true, false, true, false, false, false, false, false, false] rfl rfl (any_of HT_.out (by kernel_rfl)) (fun _ _ _ h => h) (Or.inl ⟨by rfl, ?_⟩) ?_ ?_
      rotate_left
      ·intro w'
       go_simp
       with_reducible rfl
      rotate_left
      ·simp only [Act.put, List.setIfInBounds_toArray, List.set_cons_zero, List.set_cons_succ, i64_w, i32_w]
       rfl
      refine pure_ (i := 8) (N := some 42) (v := ?_) (a' := ?_) #[true, true, true, true, true, true, false, true, true, false, false, false, false, false] rfl rfl (any_of HT_.out (by kernel_rfl)) (fun _ _ _ h => h) (Or.inl ⟨by rfl, ?_⟩) ?_ ?_
      rotate_left
      ·intro w'
       go_simp
       with_reducible rfl
      rotate_left
      ·simp only [Act.put, List.setIfInBounds_toArray, List.set_cons_zero, List.set_cons_succ, i64_w, i32_w]
       rfl
      refine pure_ (i := 9) (N := some 43) (v := ?_) (a' := ?_) #[true, true, true, true, true, true, false, true, true, true, false, false, false, false] rfl rfl (any_of HT_.out (by kernel_rfl)) (fun _ _ _ h => h) (Or.inl ⟨by rfl, ?_⟩) ?_ ?_
      rotate_left
      ·intro w'
       go_simp
       with_reducible rfl
      rotate_left
      ·simp only [Act.put, List.setIfInBounds_toArray, List.set_cons_zero, List.set_cons_succ, i64_w, i32_w]
       rfl
      refine one_ (i := 6) (N := some 40) #[true, true, true, true, true, true, true, true, true, true, false, false, false, false] rfl rfl (one_of HT_.out (by kernel_rfl)) (by decide) (fun K hK => ?_)
      refine goes_ Tryd.func43 (by kernel_rfl) rfl #[.slice A35 (l0.drop (t250 : Int).toNat).length (c0 - t250.toNat), .int .i64 (wrap64 (a1 - t250)), .bool false] (by rfl) rfl rfl (by (try simp only [List.map_toArray, List.map_cons, List.map_nil]); first | done | (rw [show (l0.drop (t250 : Int).toNat).length = (l0.length - t250.toNat) from List.length_drop] <;> rfl) | rfl | (simp only [List.length_drop, List.length_take]; rfl)) ?_
      with_reducible refine (ih k (by omega) _ _ (l0.drop (t250 : Int).toNat) (wrap64 (a1 - t250)) false t261 _ ?side1 ?side2 A28.out).mono ?_
      (case side1 => repeat (first | exact (Kd.C_below HR260.out HB.out) | (with_reducible refine Kd.C_alloc ?_ _) | (with_reducible refine Kd.C_drewN ?_ _) | (with_reducible refine Kd.C_drew ?_)))
      (case side2 => exact HC260.out)
      rintro e w37 ⟨v262, rfl, ho0, hb⟩
      refine ⟨_, rfl, ?_⟩
      have n0_ := Aside0.mk (Kd.R_lower ho0 (below_size (by repeat (first | (with_reducible first | exact HB.out | apply below_alloc | apply pw_below_drewN | apply below_drew1) | exact HB.out))))
      have n1_ := Aside0.mk (below_step (by repeat (first | (with_reducible first | exact HB.out | apply below_alloc | apply pw_below_drewN | apply below_drew1) | exact HB.out)) hb)
      clear HB
      have HO263 := n0_
      have HB := n1_
      clear n0_ n1_
      (try clear hb)
      (try clear hb2)
      (try clear hk)
      (try clear hi)
      (try clear ho0)
      refine hK.out _ _ trivial (fun hHeld => ?_)
      clear hK K
      refine norm_ (a' := ?_) ?_ ?_
      rotate_left
      ·show Act.put _ (some 40) _ = _
       simp only [Act.put, List.setIfInBounds_toArray, List.set_cons_zero, List.set_cons_succ, i64_w, i32_w]
       rfl
      refine one_ (i := 10) (N := some 44) #[true, true, true, true, true, true, true, true, true, true, true, false, false, false] rfl rfl (one_of HT_.out (by kernel_rfl)) (by decide) (fun K hK => ?_)
      refine goes_ Tryd.func20 (by kernel_rfl) rfl #[.slice A0 (l0.take (t250 : Int).toNat).length c0] (by rfl) rfl rfl (by (try simp only [List.map_toArray, List.map_cons, List.map_nil]); first | done | (rw [show (l0.take (t250 : Int).toNat).length = t250.toNat from (by rw [List.length_take]; have h_ : (t250 : Int) ≤ (l0.length : Int) := of_decide_eq_true (by first | (with_reducible assumption) | assumption); omega)] <;> rfl) | rfl | (simp only [List.length_drop, List.length_take]; rfl)) ?_
      with_reducible refine (clearwayref02_Root.calls k _ _ (l0.take (t250 : Int).toNat) t265 _ ?side1 ?side2 A31.out).mono ?_
      (case side1 => repeat (first | exact (Kd.C_below HR264.out HB.out) | (with_reducible refine Kd.C_alloc ?_ _) | (with_reducible refine Kd.C_drewN ?_ _) | (with_reducible refine Kd.C_drew ?_)))
      (case side2 => exact HC264.out)
      rintro e w38 ⟨rfl, hb⟩
      refine ⟨_, rfl, ?_⟩
      have n0_ := Aside0.mk (Kd.R_below (by (with_reducible repeat (first | apply Kd.R_alloc | apply Kd.R_drewN | apply Kd.R_drew)); exact HO263.out) hb)
      have n1_ := Aside0.mk (below_step (by repeat (first | (with_reducible first | exact HB.out | apply below_alloc | apply pw_below_drewN | apply below_drew1) | exact HB.out)) hb)
      clear HO263
      clear HB
      have HO263 := n0_
      have HB := n1_
      clear n0_ n1_
      (try clear hb)
      (try clear hb2)
      (try clear hk)
      (try clear hi)
      refine hK.out _ _ trivial (fun hHeld => ?_)
      clear hK K
      refine norm_ (a' := ?_) ?_ ?_
      rotate_left
      ·show Act.put _ (some 44) _ = _
       simp only [Act.put, List.setIfInBounds_toArray, List.set_cons_zero, List.set_cons_succ, i64_w, i32_w]
       rfl
      refine one_ (i := 11) (N := some 45) #[true, true, true, true, true, true, true, true, true, true, true, true, false, false] rfl rfl (one_of HT_.out (by kernel_rfl)) (by decide) (fun K hK => ?_)
      refine value_ (w1 := ?_) (v := ?_) (by rfl) rfl ?_ ?_
      rotate_left 2
      ·go_simp
       constructor
       ·rfl
       ·rfl
      refine hK.out _ _ trivial (fun hHeld => ?_)
      clear hK K
      refine norm_ (a' := ?_) ?_ ?_
      rotate_left
      ·show Act.put _ (some 45) _ = _
       simp only [Act.put, List.setIfInBounds_toArray, List.set_cons_zero, List.set_cons_succ, i64_w, i32_w]
       rfl
      refine one_ (i := 12) (N := some 46) #[true, true, true, true, true, true, true, true, true, true, true, true, true, false] rfl rfl (one_of HT_.out (by kernel_rfl)) (by decide) (fun K hK => ?_)
      refine Kd.R_append_step Kd.string (w0 := w) w.heap.size (by rfl) (.tmp 40) (.tmp 45) 22 9 (.string ⟨#[]⟩) 16 rfl Tryd.underlying22 info9 rfl (by decide) (by omega) v262 t261 t265 [.string t265] (fun _ => True) (fun _ => False) rfl rfl ?aP (fun _ hk => hk.elim) ?aF ?aO ?aB ?aS ?aL ?_
      (case aP => exact rfl)
      (case aB => exact (by repeat (first | (with_reducible first | exact HB.out | apply below_alloc | apply pw_below_drewN | apply below_drew1) | exact HB.out)))
      (case aF => exact (fun _ _ => trivial))
      (case aO => exact (by (with_reducible repeat (first | apply Kd.R_alloc | apply Kd.R_drewN | apply Kd.R_drew)); exact HO263.out))
      (case aS => exact (below_size (by repeat (first | (with_reducible first | exact HB.out | apply below_alloc | apply pw_below_drewN | apply below_drew1) | exact HB.out))))
      (case aL => have := LMc32.out; omega)
      intro v267 w39 ho hb hg hat
      rw [← Ny266.out] at ho
      have n0_ := Aside0.mk (hb)
      have n1_ := Aside0.mk (ho)
      clear HB
      clear HO263
      have HB := n0_
      have HO268 := n1_
      clear n0_ n1_
      clear ho hb hg hat
      refine hK.out _ _ trivial (fun hHeld => ?_)
      clear hK K
      refine norm_ (a' := ?_) ?_ ?_
      rotate_left
      ·show Act.put _ (some 46) _ = _
       simp only [Act.put, List.setIfInBounds_toArray, List.set_cons_zero, List.set_cons_succ, i64_w, i32_w]
       rfl
      refine pure_ (i := 13) (N := some 6) (v := ?_) (a' := ?_) #[true, true, true, true, true, true, true, true, true, true, true, true, true, true] rfl rfl (any_of HT_.out (by kernel_rfl)) (fun _ _ _ h => h) (Or.inl ⟨by rfl, ?_⟩) ?_ ?_
      rotate_left
      ·intro w'
       go_simp
       with_reducible rfl
      rotate_left
      ·simp only [Act.put, List.setIfInBounds_toArray, List.set_cons_zero, List.set_cons_succ, i64_w, i32_w]
       rfl
      refine done_ (done_of HT_.out (by kernel_rfl)) ?_
      try go_wp2
      go_ret
      exact ⟨_, by first | rfl | (simp [errW_none, errW_some] <;> rfl) | (simp [*, errW_none, errW_some] <;> rfl), by (with_reducible repeat (first | apply Kd.R_alloc | apply Kd.R_drewN | apply Kd.R_drew)); exact HO268.out, by repeat (first | (with_reducible first | exact HB.out | apply below_alloc | apply pw_below_drewN | apply below_drew1) | exact HB.out)⟩
     ·rw [if_neg c32] at H
      exact absurd H (by simp)
    ·rw [if_neg c27] at H
     exact absurd H (by simp)
   ·rw [if_neg c26] at H
    exact absurd H (by simp)

/-! ### clearwayref02_Extension: function 17 -/
def clearwayref02_Extension.j0 : Nat → List ByteArray → Int → Bool → Option (List ByteArray × Int)
 | 0, _, _, _ => none
 | k + 1, x0, x1, x13 => if x13 = true then (some (([] : List ByteArray), 2)) else (if x1 = 0 then (some (([] : List ByteArray), 0)) else ((clearwayref02_part.f k x0 x1 true).bind fun t269 => (some (t269, 0))))
def clearwayref02_Extension.f (k : Nat) (l0 : List ByteArray) (a1 : Int) : Option (List ByteArray × Int) := if a1 < 0 then (clearwayref02_Extension.j0 k l0 a1 true) else (clearwayref02_Extension.j0 k l0 a1 (decide (a1 > (l0.length : Int))))
set_option maxHeartbeats 8000000 in
set_option maxRecDepth 100000 in
theorem clearwayref02_Extension.calls (k : Nat) (A0 : Option Addr) (c0 : Nat) (l0 : List ByteArray) (a1 : Int) (r1 : List ByteArray) (r2 : Int) (w : World) (hr0 : Kd.C Kd.string w A0 l0.length l0) (hc0 : l0.length ≤ c0) (h : clearwayref02_Extension.f k l0 a1 = some (r1, r2)) :
  Calls Tryd.prog 17 #[.slice A0 l0.length c0, .int .i64 a1] w fun e w' => ∃ v0_ : Value, e = .returned (.tuple #[v0_, .int .i64 r2]) ∧ Kd.R Kd.string 9 w' w.heap.size (fun _ => True) v0_ r1 ∧ Below w.heap.size w w' := by
 have HR0 := Aside0.mk hr0
 have HC0 := Aside0.mk hc0
 clear hr0 hc0
 have HB := Aside0.mk (Below.refl w.heap.size w)
 have H : (if a1 < 0 then (clearwayref02_Extension.j0 k l0 a1 true) else (clearwayref02_Extension.j0 k l0 a1 (decide (a1 > (l0.length : Int))))) = some (r1, r2) := h
 clear h
 have HC3 := Aside0.mk H
 clear H
 go_enter Tryd.func17, Tryd.ntmps17
 go_upto_region 1 with (fail)
 go_cut [13] (fun v13 wc => ∃ (kq : Nat) (x13_2 : Bool), v13 = .bool x13_2 ∧ Aside0 (clearwayref02_Extension.j0 kq l0 a1 x13_2 = some (r1, r2)) ∧ Aside0 (kq ≤ k) ∧ Aside0 (Below w.heap.size w wc))
 case first =>
  have H := HC3.out
  clear HC3
  by_cases c4 : a1 < 0
  ·rw [if_pos c4] at H
   have c4b0 : decide (a1 < 0) = true := decide_eq_true c4
   clear c4
   (first | rw [c4b0] | (simp only [i64_w, i32_w]; rw [c4b0]) | skip)
   have H' := Aside0.mk H
   clear H
   go_wp2
   go_meet
   case rel => exact ⟨_, (true), (by first | rfl | (simp; done) | (simp [*]; done)), H', ⟨by first | omega | exact Nat.le_refl _⟩, ⟨by repeat (first | (with_reducible first | exact HB.out | apply below_alloc | apply pw_below_drewN | apply below_drew1) | exact HB.out)⟩⟩
  ·rw [if_neg c4] at H
   have c4b0 : decide (a1 < 0) = false := decide_eq_false c4
   clear c4
   (first | rw [c4b0] | (simp only [i64_w, i32_w]; rw [c4b0]) | skip)
   have H' := Aside0.mk H
   clear H
   go_wp2
   go_meet
   case rel => exact ⟨_, (decide (a1 > (l0.length : Int))), (by first | rfl | (simp; done) | (simp [*]; done)), H', ⟨by first | omega | exact Nat.le_refl _⟩, ⟨by repeat (first | (with_reducible first | exact HB.out | apply below_alloc | apply pw_below_drewN | apply below_drew1) | exact HB.out)⟩⟩
 case rest =>
  clear HC3
  try clear c1
  try clear p2
  try clear c4
  try clear c4b0
  obtain ⟨kq, x13_2, rfl, HA, HJ2, HB⟩ := hcut
  cases kq with
  | zero => exact absurd HA.out (by simp [clearwayref02_Extension.j0])
  | succ kj2 =>
   have H := HA.out
   clear HA
   simp only [clearwayref02_Extension.j0] at H
   by_cases c5 : x13_2 = true
   ·subst c5
    have H1 : (some (([] : List ByteArray), 2)) = some (r1, r2) := by rw [if_pos rfl] at H; exact H
    clear H
    have H := H1
    clear H1
    simp only [Option.some.injEq, Prod.mk.injEq] at H
    obtain ⟨rfl, rfl⟩ := H
    go_wp2
    go_ret2
    exact ⟨_, by first | rfl | (simp [errW_none, errW_some] <;> rfl) | (simp [*, errW_none, errW_some] <;> rfl), by first | exact Kd.R_nil _ _ _ _ _ | exact Kd.N_nil _ _ _ _ _ | exact Kd.V_nil _ _ _ _ _ | exact Kd.Q_nil _ _ _ _ _ | exact Kd.S_nil _ _ _ _ _, by repeat (first | (with_reducible first | exact HB.out | apply below_alloc | apply pw_below_drewN | apply below_drew1) | exact HB.out)⟩
   ·replace c5 := Bool.eq_false_iff.mpr c5
    subst c5
    have H1 : (if a1 = 0 then (some (([] : List ByteArray), 0)) else ((clearwayref02_part.f kj2 l0 a1 true).bind fun t269 => (some (t269, 0)))) = some (r1, r2) := by rw [if_neg (show ¬ (false = true) by decide)] at H; exact H
    clear H
    have H := H1
    clear H1
    by_cases c6 : a1 = 0
    ·rw [if_pos c6] at H
     have c6b0 : (a1 == 0) = true := beq_iff_eq.mpr c6
     have c6b1 : (a1 != 0) = false := bne_eq_false_iff_eq.mpr c6
     clear c6
     simp only [Option.some.injEq, Prod.mk.injEq] at H
     obtain ⟨rfl, rfl⟩ := H
     go_wp2
     go_ret2
     exact ⟨_, by first | rfl | (simp [errW_none, errW_some] <;> rfl) | (simp [*, errW_none, errW_some] <;> rfl), by first | exact Kd.R_nil _ _ _ _ _ | exact Kd.N_nil _ _ _ _ _ | exact Kd.V_nil _ _ _ _ _ | exact Kd.Q_nil _ _ _ _ _ | exact Kd.S_nil _ _ _ _ _, by repeat (first | (with_reducible first | exact HB.out | apply below_alloc | apply pw_below_drewN | apply below_drew1) | exact HB.out)⟩
    ·rw [if_neg c6] at H
     have c6b0 : (a1 == 0) = false := beq_eq_false_iff_ne.mpr c6
     have c6b1 : (a1 != 0) = true := bne_iff_ne.mpr c6
     replace H := Option.bind_eq_some_iff.mp H
     obtain ⟨t269, A70, H⟩ := H
     replace H : (some (t269, 0)) = some (r1, r2) := H
     have A7 := Aside0.mk A70
     clear A70
     simp only [Option.some.injEq, Prod.mk.injEq] at H
     obtain ⟨rfl, rfl⟩ := H
     go_wp2_with (first | ((with_reducible refine gate_callee (f := 43) rfl ?_); refine goesL_ (some 18) rfl rfl Tryd.func43 (by kernel_rfl) rfl #[.slice A0 l0.length c0, .int .i64 a1, .bool true] rfl (by (try simp only [List.map_toArray, List.map_cons, List.map_nil]); first | done | rfl | (simp only [List.length_drop, List.length_take]; rfl)) ?_; (with_reducible refine (clearwayref02_part.calls kj2 _ _ l0 a1 true t269 _ ?side1 ?side2 A7.out).mono ?_); (case side1 => repeat (first | exact (Kd.C_below HR0.out HB.out) | (with_reducible refine Kd.C_alloc ?_ _) | (with_reducible refine Kd.C_drewN ?_ _) | (with_reducible refine Kd.C_drew ?_))); (case side2 => exact HC0.out); rintro e w8 ⟨v270, rfl, ho0, hb⟩; refine ⟨_, rfl, ?_⟩; have n0_ := Aside0.mk (Kd.R_lower ho0 (below_size (by repeat (first | (with_reducible first | exact HB.out | apply below_alloc | apply pw_below_drewN | apply below_drew1) | exact HB.out)))); have n1_ := Aside0.mk (below_step (by repeat (first | (with_reducible first | exact HB.out | apply below_alloc | apply pw_below_drewN | apply below_drew1) | exact HB.out)) hb); clear HB; have HO271 := n0_; have HB := n1_; clear n0_ n1_; (try clear hb); (try clear hb2); (try clear hk); (try clear hi); (try clear ho0)))
     go_ret2
     exact ⟨_, by first | rfl | (simp [errW_none, errW_some] <;> rfl) | (simp [*, errW_none, errW_some] <;> rfl), by (with_reducible repeat (first | apply Kd.R_alloc | apply Kd.R_drewN | apply Kd.R_drew)); exact HO271.out, by repeat (first | (with_reducible first | exact HB.out | apply below_alloc | apply pw_below_drewN | apply below_drew1) | exact HB.out)⟩

/-! ### clearwayref02_Same: function 18 -/
def clearwayref02_Same.l0 : Nat → List ByteArray → List ByteArray → Int → Option (Bool)
 | 0, _, _, _ => none
 | k + 1, x0, x1, x5 => if x5 < (x0.length : Int) then (if 0 ≤ x5 then (if x5 < (x1.length : Int) then (if (rdOf ByteArray.empty x0 x5).toList = (rdOf ByteArray.empty x1 x5).toList then (clearwayref02_Same.l0 k x0 x1 (wrap64 (x5 + 1))) else (some false)) else (none)) else (none)) else (some true)
def clearwayref02_Same.f (k : Nat) (l0 : List ByteArray) (l1 : List ByteArray) : Option (Bool) := if (l0.length : Int) = (l1.length : Int) then (clearwayref02_Same.l0 k l0 l1 0) else (some false)
set_option maxHeartbeats 8000000 in
set_option maxRecDepth 100000 in
theorem clearwayref02_Same.calls (k : Nat) (A0 : Option Addr) (c0 : Nat) (l0 : List ByteArray) (A1 : Option Addr) (c1 : Nat) (l1 : List ByteArray) (r : Bool) (w : World) (hr0 : Kd.C Kd.string w A0 l0.length l0) (hc0 : l0.length ≤ c0) (hr1 : Kd.C Kd.string w A1 l1.length l1) (hc1 : l1.length ≤ c1) (h : clearwayref02_Same.f k l0 l1 = some r) :
  Calls Tryd.prog 18 #[.slice A0 l0.length c0, .slice A1 l1.length c1] w fun e w' => e = .returned (.bool r) ∧ Drawn0 w w' := by
 have HR0 := Aside0.mk hr0
 have HC0 := Aside0.mk hc0
 clear hr0 hc0
 have HR1 := Aside0.mk hr1
 have HC1 := Aside0.mk hc1
 clear hr1 hc1
 have H : (if (l0.length : Int) = (l1.length : Int) then (clearwayref02_Same.l0 k l0 l1 0) else (some false)) = some r := h
 clear h
 by_cases c3 : (l0.length : Int) = (l1.length : Int)
 ·rw [if_pos c3] at H
  have c3b0 : ((l0.length : Int) == (l1.length : Int)) = true := beq_iff_eq.mpr c3
  have c3b1 : ((l0.length : Int) != (l1.length : Int)) = false := bne_eq_false_iff_eq.mpr c3
  have c3b2 : (l0.length == l1.length) = true := by first | simpa using c3 | (simp at c3 ⊢; omega)
  clear c3
  have H' := Aside0.mk H
  clear H
  go_enter Tryd.func18, Tryd.ntmps18
  go_wp2
  repeat (go_quiet (fail); try go_wp2)
  go_loopg [5] k (fun kq v5 w' => ∃ (x5_1 : Int), v5 = .int .i64 x5_1 ∧ Aside0 (clearwayref02_Same.l0 kq l0 l1 x5_1 = some r) ∧ Aside0 (kq ≤ k) ∧ Drawn0 w w')
  case atStart => exact ⟨(0), (by first | rfl | (simp; done) | (simp [*]; done)), H', ⟨Nat.le_refl _⟩, by repeat (first | exact Drawn0.refl _ | apply Drawn0.step)⟩
  case round =>
   clear H'
   try clear c1
   try clear p2
   try clear c3
   try clear c3b0
   try clear c3b1
   try clear c3b2
   obtain ⟨x5_1, rfl, HA, HK1, ⟨m1, rfl⟩⟩ := hrel
   cases gk with
   | zero => exact absurd HA.out (by simp [clearwayref02_Same.l0])
   | succ k1 =>
    have H := HA.out
    clear HA
    simp only [clearwayref02_Same.l0] at H
    by_cases c4 : x5_1 < (l0.length : Int)
    ·rw [if_pos c4] at H
     have c4b0 : decide (x5_1 < (l0.length : Int)) = true := decide_eq_true c4
     clear c4
     by_cases c5 : 0 ≤ x5_1
     ·rw [if_pos c5] at H
      have c5b0 : decide (0 ≤ x5_1) = true := decide_eq_true c5
      clear c5
      by_cases c6 : x5_1 < (l1.length : Int)
      ·rw [if_pos c6] at H
       have c6b0 : decide (x5_1 < (l1.length : Int)) = true := decide_eq_true c6
       clear c6
       by_cases c7 : (rdOf ByteArray.empty l0 x5_1).toList = (rdOf ByteArray.empty l1 x5_1).toList
       ·rw [if_pos c7] at H
        have c7b0 : ((rdOf ByteArray.empty l0 x5_1).toList == (rdOf ByteArray.empty l1 x5_1).toList) = true := beq_iff_eq.mpr c7
        have c7b1 : ((rdOf ByteArray.empty l0 x5_1).toList != (rdOf ByteArray.empty l1 x5_1).toList) = false := bne_eq_false_iff_eq.mpr c7
        clear c7
        have H' := Aside0.mk H
        clear H
        have p272 : 0 ≤ (x5_1 : Int) := of_decide_eq_true (by first | (with_reducible assumption) | assumption)
        have q272 : x5_1 < (l0.length : Int) := of_decide_eq_true (by first | (with_reducible assumption) | assumption)
        obtain ⟨ad272, e272, hx272_0⟩ := Kd.at_string HR0.out x5_1 p272 q272
        cases e272
        replace p272 := eq_true p272
        replace q272 := eq_true q272
        have p273 : 0 ≤ (x5_1 : Int) := of_decide_eq_true (by first | (with_reducible assumption) | assumption)
        have q273 : x5_1 < (l1.length : Int) := of_decide_eq_true (by first | (with_reducible assumption) | assumption)
        obtain ⟨ad273, e273, hx273_0⟩ := Kd.at_string HR1.out x5_1 p273 q273
        cases e273
        replace p273 := eq_true p273
        replace q273 := eq_true q273
        go_wp2
        repeat (go_quiet (fail); try go_wp2)
        go_roundg k1
        case measure => have := HK1.out; omega
        case rel => exact ⟨(wrap64 (x5_1 + 1)), (by first | rfl | (simp; done) | (simp [*]; done)), H', ⟨by have := HK1.out; omega⟩, by repeat (first | exact Drawn0.refl _ | apply Drawn0.step)⟩
       ·rw [if_neg c7] at H
        have c7b0 : ((rdOf ByteArray.empty l0 x5_1).toList == (rdOf ByteArray.empty l1 x5_1).toList) = false := beq_eq_false_iff_ne.mpr c7
        have c7b1 : ((rdOf ByteArray.empty l0 x5_1).toList != (rdOf ByteArray.empty l1 x5_1).toList) = true := bne_iff_ne.mpr c7
        obtain rfl := Option.some.inj H
        have p272 : 0 ≤ (x5_1 : Int) := of_decide_eq_true (by first | (with_reducible assumption) | assumption)
        have q272 : x5_1 < (l0.length : Int) := of_decide_eq_true (by first | (with_reducible assumption) | assumption)
        obtain ⟨ad272, e272, hx272_0⟩ := Kd.at_string HR0.out x5_1 p272 q272
        cases e272
        replace p272 := eq_true p272
        replace q272 := eq_true q272
        have p273 : 0 ≤ (x5_1 : Int) := of_decide_eq_true (by first | (with_reducible assumption) | assumption)
        have q273 : x5_1 < (l1.length : Int) := of_decide_eq_true (by first | (with_reducible assumption) | assumption)
        obtain ⟨ad273, e273, hx273_0⟩ := Kd.at_string HR1.out x5_1 p273 q273
        cases e273
        replace p273 := eq_true p273
        replace q273 := eq_true q273
        go_wp2
        repeat (go_quiet (fail); try go_wp2)
        go_ret
        exact ⟨by first | rfl | (simp; done) | (simp [*]; done), by repeat (first | exact Drawn0.refl _ | apply Drawn0.step)⟩
      ·rw [if_neg c6] at H
       exact absurd H (by simp)
     ·rw [if_neg c5] at H
      exact absurd H (by simp)
    ·rw [if_neg c4] at H
     have c4b0 : decide (x5_1 < (l0.length : Int)) = false := decide_eq_false c4
     clear c4
     obtain rfl := Option.some.inj H
     go_wp2
     repeat (go_quiet (fail); try go_wp2)
     go_ret
     exact ⟨by first | rfl | (simp; done) | (simp [*]; done), by repeat (first | exact Drawn0.refl _ | apply Drawn0.step)⟩
 ·rw [if_neg c3] at H
  have c3b0 : ((l0.length : Int) == (l1.length : Int)) = false := beq_eq_false_iff_ne.mpr c3
  have c3b1 : ((l0.length : Int) != (l1.length : Int)) = true := bne_iff_ne.mpr c3
  have c3b2 : (l0.length == l1.length) = false := by first | simpa using c3 | (simp at c3 ⊢; omega)
  obtain rfl := Option.some.inj H
  go_enter Tryd.func18, Tryd.ntmps18
  go_wp2
  repeat (go_quiet (fail); try go_wp2)
  go_ret
  exact ⟨by first | rfl | (simp; done) | (simp [*]; done), by repeat (first | exact Drawn0.refl _ | apply Drawn0.step)⟩

end Go.Proofs.YtjkdenldddjcnaaDoor.Dm

set_option linter.unusedVariables false
set_option linter.unusedSimpArgs false
namespace Go.Proofs.YtjkdenldddjcnaaDoor.Sha
open Go Go.RowKit Go.Proofs.YtjkdenldddjcnaaDoor.Df Go.Proofs.YtjkdenldddjcnaaDoor.Dm Go.Proofs.YtjkdenldddjcnaaDoorW.PrintWords Go.Proofs.YtjkdenldddjcnaaDoorW.PrintLast Go.Proofs.YtjkdenldddjcnaaDoorW.PrintMore

theorem leftr_loop (n b : Nat) (h1 : 2 ^ b < n) (h2 : n ≤ 2 ^ (b + 1)) (h3 : n ≤ 9223372036854775807) : ∀ (d f : Nat), d ≤ b → clearwayref02_Left.l0 (d + 1 + f) (n : Int) ((2 ^ (b - d) : Nat) : Int) = some ((2 ^ b : Nat) : Int) := by
 intro d
 induction d with
 | zero =>
  intro f _
  rw [show 0 + 1 + f = f + 1 by omega, clearwayref02_Left.l0, Nat.sub_zero]
  rw [Nat.pow_succ] at h2
  have hw : wrap64 ((n : Int) - ((2 ^ b : Nat) : Int)) = ((n - 2 ^ b : Nat) : Int) := by unfold wrap64; omega
  rw [hw, if_neg (by omega)]
 | succ d ih =>
  intro f hd
  have hp : 2 ^ (b - d) = 2 * 2 ^ (b - (d + 1)) := by rw [show b - d = (b - (d + 1)) + 1 by omega, Nat.pow_succ]; omega
  have hq : 2 ^ (b - d) ≤ 2 ^ b := Nat.pow_le_pow_right (by decide) (by omega)
  have hw : wrap64 ((n : Int) - ((2 ^ (b - (d + 1)) : Nat) : Int)) = ((n - 2 ^ (b - (d + 1)) : Nat) : Int) := by unfold wrap64; omega
  have hw2 : wrap64 (2 * ((2 ^ (b - (d + 1)) : Nat) : Int)) = ((2 ^ (b - d) : Nat) : Int) := by unfold wrap64; omega
  rw [show d + 1 + 1 + f = (d + 1 + f) + 1 by omega, clearwayref02_Left.l0, hw, if_pos (by omega), hw2]
  exact ih f (by omega)
theorem left_ref (n k : Nat) (h : 2 ≤ n) (h2 : n ≤ 9223372036854775807) (hk : 64 ≤ k) : clearwayref02_Left.f k (n : Int) = some (leftN n : Int) := by
 obtain ⟨b, hb, hb2, h4, h5⟩ := left_exp n h h2
 unfold clearwayref02_Left.f
 have := leftr_loop n b h4 h5 h2 b (k - (b + 1)) (Nat.le_refl _)
 rw [show b + 1 + (k - (b + 1)) = k by omega, Nat.sub_self] at this
 rw [hb]
 exact this
def Sm (l : List ByteArray) : Prop := ∀ s ∈ l, s.size ≤ 1000
theorem Sm.take {l : List ByteArray} (h : Sm l) (k : Nat) : Sm (l.take k) := fun s hs => h s (List.mem_of_mem_take hs)
theorem Sm.drop {l : List ByteArray} (h : Sm l) (k : Nat) : Sm (l.drop k) := fun s hs => h s (List.mem_of_mem_drop hs)
theorem root_ref : ∀ (f : Nat) (l : List ByteArray) (k : Nat), l.length ≤ f → l.length ≤ 1000 → Sm l → f + 4000 ≤ k → clearwayref02_Root.f k l = some (rootF l) := by
 intro f
 induction f with
 | zero =>
  intro l k h1 h2 h3 h4
  obtain ⟨k, rfl⟩ : ∃ j, k = j + 1 := ⟨k - 1, by omega⟩
  have hl : l = [] := List.length_eq_zero_iff.1 (by omega)
  subst hl
  rw [clearwayref02_Root.f, if_pos (show (([] : List ByteArray).length : Int) = 0 from rfl), ref_sum _ (by decide) k (by show 0 + 1000 ≤ k; omega)]
  rfl
 | succ f ih =>
  intro l k h1 h2 h3 h4
  obtain ⟨k, rfl⟩ : ∃ j, k = j + 1 := ⟨k - 1, by omega⟩
  rw [clearwayref02_Root.f]
  by_cases h0 : l.length = 0
  ·have hl : l = [] := List.length_eq_zero_iff.1 h0
   subst hl
   rw [if_pos (show (([] : List ByteArray).length : Int) = 0 from rfl), ref_sum _ (by decide) k (by show 0 + 1000 ≤ k; omega)]
   rfl
  ·rw [if_neg (by omega)]
   by_cases h5 : l.length = 1
   ·rw [if_pos (by omega), if_pos (by omega)]
    match l, h5 with
    | [x], _ =>
     have hx := h3 x List.mem_cons_self
     rw [show rdOf ByteArray.empty [x] 0 = x from rfl, ref_leaf x (by omega) k (by omega), root_one]
     rfl
   ·have hlt := leftN_lt l.length (by omega) (by omega)
    rw [if_neg (by omega), left_ref l.length k (by omega) (by omega) (by omega), Option.bind_some, if_pos (by omega), if_pos (by omega), Int.toNat_natCast,
     ih (l.take (leftN l.length)) k (by rw [List.length_take]; omega) (by rw [List.length_take]; omega) (h3.take _) (by omega), Option.bind_some,
     ih (l.drop (leftN l.length)) k (by rw [List.length_drop]; omega) (by rw [List.length_drop]; omega) (h3.drop _) (by omega), Option.bind_some,
     ref_node _ _ (by rw [root_size, root_size]; omega) k (by rw [root_size, root_size]; omega), ← root_left l (by omega) (by omega)]
    rfl
theorem proofr_out (l : List ByteArray) (i : Int) (k : Nat) (h : i < 0 ∨ (l.length : Int) ≤ i) (hk : 2 ≤ k) : clearwayref02_Proof.f k l i = some ([], 2) := by
 obtain ⟨k, rfl⟩ : ∃ j, k = j + 1 + 1 := ⟨k - 2, by omega⟩
 rw [clearwayref02_Proof.f]
 by_cases h0 : i < 0
 ·rw [if_pos h0, clearwayref02_Proof.j0, if_pos rfl]
 ·rw [if_neg h0, clearwayref02_Proof.j0, if_pos (by rw [decide_eq_true_iff]; omega)]
theorem prP_len : ∀ (f : Nat) (l : List ByteArray) (i : Nat), (prP f l i).length ≤ f := by
 intro f
 induction f with
 | zero => intro l i; simp [prP]
 | succ f ih =>
  intro l i
  rw [prP]
  split
  ·simp
  ·split
   ·have := ih (l.drop (leftN l.length)) (i - leftN l.length); simp; omega
   ·have := ih (l.take (leftN l.length)) i; simp; omega
theorem proof_ref : ∀ (f : Nat) (l : List ByteArray) (i k : Nat), i < l.length → l.length ≤ f → f ≤ 1000 → Sm l → 2 * f + 6000 ≤ k → clearwayref02_Proof.f k l (i : Int) = some ((prP f l i).reverse, 0) := by
 intro f
 induction f with
 | zero => intro l i k h1 h2; omega
 | succ f ih =>
  intro l i k h1 h2 h3 h4 h5
  obtain ⟨k, rfl⟩ : ∃ j, k = j + 1 + 1 := ⟨k - 2, by omega⟩
  rw [clearwayref02_Proof.f, if_neg (by omega), clearwayref02_Proof.j0, if_neg (by simp; omega), prP]
  by_cases hm : l.length = 1
  ·rw [if_pos (by omega), if_pos (by omega)]
   rfl
  ·have hlt := leftN_lt l.length (by omega) (by omega)
   rw [if_neg (by omega), if_neg (by omega), left_ref l.length k (by omega) (by omega) (by omega), Option.bind_some]
   by_cases hk : leftN l.length ≤ i
   ·have hw : wrap64 ((i : Int) - (leftN l.length : Int)) = ((i - leftN l.length : Nat) : Int) := by unfold wrap64; omega
    have hp := prP_len f (l.drop (leftN l.length)) (i - leftN l.length)
    rw [if_neg (by omega), if_pos hk, if_pos (by omega), if_pos (by omega), hw, Int.toNat_natCast, ih (l.drop (leftN l.length)) (i - leftN l.length) k (by rw [List.length_drop]; omega) (by rw [List.length_drop]; omega) (by omega) (h4.drop _) (by omega), Option.bind_some, root_ref f (l.take (leftN l.length)) k (by rw [List.length_take]; omega) (by rw [List.length_take]; omega) (h4.take _) (by omega), Option.bind_some, if_pos (by rw [List.length_reverse]; omega)]
    simp
   ·have hp := prP_len f (l.take (leftN l.length)) i
    rw [if_pos (by omega), if_neg hk, if_pos (by omega), if_pos (by omega), Int.toNat_natCast, ih (l.take (leftN l.length)) i k (by rw [List.length_take]; omega) (by rw [List.length_take]; omega) (by omega) (h4.take _) (by omega), Option.bind_some, root_ref f (l.drop (leftN l.length)) k (by rw [List.length_drop]; omega) (by rw [List.length_drop]; omega) (h4.drop _) (by omega), Option.bind_some, if_pos (by rw [List.length_reverse]; omega)]
    simp
theorem extP_len : ∀ (f : Nat) (l : List ByteArray) (m : Nat) (wh : Bool), (extP f l m wh).length ≤ f := by
 intro f
 induction f with
 | zero => intro l m wh; simp [extP]
 | succ f ih =>
  intro l m wh
  rw [extP]
  split
  ·split
   ·have := ih (l.drop (leftN l.length)) (m - leftN l.length) false; simp; omega
   ·have := ih (l.take (leftN l.length)) m wh; simp; omega
  ·split <;> simp
theorem part_ref : ∀ (f : Nat) (l : List ByteArray) (m : Nat) (wh : Bool) (k : Nat), 1 ≤ m → m ≤ l.length → l.length ≤ f → f ≤ 1000 → Sm l → f + 6000 ≤ k → clearwayref02_part.f k l (m : Int) wh = some (extP f l m wh).reverse := by
 intro f
 induction f with
 | zero => intro l m wh k h1 h2; omega
 | succ f ih =>
  intro l m wh k h0 h1 h2 h3 h4 h5
  obtain ⟨k, rfl⟩ : ∃ j, k = j + 1 := ⟨k - 1, by omega⟩
  rw [clearwayref02_part.f, extP]
  by_cases hm : m < l.length
  ·have hlt := leftN_lt l.length (by omega) (by omega)
   rw [if_neg (by omega), if_pos hm, left_ref l.length k (by omega) (by omega) (by omega), Option.bind_some]
   by_cases hk : leftN l.length < m
   ·have hw : wrap64 ((m : Int) - (leftN l.length : Int)) = ((m - leftN l.length : Nat) : Int) := by unfold wrap64; omega
    have hp := extP_len f (l.drop (leftN l.length)) (m - leftN l.length) false
    rw [if_neg (by omega), if_pos hk, if_pos (by omega), if_pos (by omega), hw, Int.toNat_natCast, ih (l.drop (leftN l.length)) (m - leftN l.length) false k (by omega) (by rw [List.length_drop]; omega) (by rw [List.length_drop]; omega) (by omega) (h4.drop _) (by omega), Option.bind_some, root_ref f (l.take (leftN l.length)) k (by rw [List.length_take]; omega) (by rw [List.length_take]; omega) (h4.take _) (by omega), Option.bind_some, if_pos (by rw [List.length_reverse]; omega)]
    simp
   ·have hp := extP_len f (l.take (leftN l.length)) m wh
    rw [if_pos (by omega), if_neg hk, if_pos (by omega), if_pos (by omega), Int.toNat_natCast, ih (l.take (leftN l.length)) m wh k h0 (by rw [List.length_take]; omega) (by rw [List.length_take]; omega) (by omega) (h4.take _) (by omega), Option.bind_some, root_ref f (l.drop (leftN l.length)) k (by rw [List.length_drop]; omega) (by rw [List.length_drop]; omega) (h4.drop _) (by omega), Option.bind_some, if_pos (by rw [List.length_reverse]; omega)]
    simp
  ·rw [if_pos (by omega), if_neg hm]
   cases wh with
   | true => rfl
   | false =>
    rw [if_neg (by decide), if_neg (by decide), root_ref (f + 1) l k h2 (by omega) h4 (by omega)]
    rfl
theorem ext_ref (l : List ByteArray) (m k : Nat) (hm : m ≤ l.length) (hl : l.length ≤ 1000) (hs : Sm l) (hk : l.length + 7000 ≤ k) : clearwayref02_Extension.f k l (m : Int) = some (if m = 0 then [] else (extP l.length l m true).reverse, 0) := by
 obtain ⟨k, rfl⟩ : ∃ j, k = j + 1 := ⟨k - 1, by omega⟩
 unfold clearwayref02_Extension.f
 rw [if_neg (by omega), clearwayref02_Extension.j0, if_neg (by simp; omega)]
 by_cases h0 : m = 0
 ·rw [if_pos (by omega), if_pos h0]
 ·rw [if_neg (by omega), if_neg h0, part_ref l.length l m true k (by omega) hm (Nat.le_refl _) hl hs (by omega)]
  rfl
theorem extr_out (l : List ByteArray) (m : Int) (k : Nat) (h : m < 0 ∨ (l.length : Int) < m) (hk : 0 < k) : clearwayref02_Extension.f k l m = some ([], 2) := by
 obtain ⟨k, rfl⟩ : ∃ j, k = j + 1 := ⟨k - 1, by omega⟩
 unfold clearwayref02_Extension.f
 by_cases h0 : m < 0
 ·rw [if_pos h0, clearwayref02_Extension.j0, if_pos rfl]
 ·rw [if_neg h0, clearwayref02_Extension.j0, if_pos (by rw [decide_eq_true_iff]; omega)]
theorem same_refl : ∀ (q p a : List ByteArray) (k : Nat), a = p ++ q → q.length < k → a.length ≤ 1000000 → clearwayref02_Same.l0 k a a (p.length : Int) = some true := by
 intro q
 induction q with
 | nil =>
  intro p a k ha hk h1
  obtain ⟨k, rfl⟩ : ∃ j, k = j + 1 := ⟨k - 1, by omega⟩
  rw [List.append_nil] at ha
  subst ha
  rw [clearwayref02_Same.l0, if_neg (by omega)]
 | cons x q ih =>
  intro p a k ha hk h1
  obtain ⟨k, rfl⟩ : ∃ j, k = j + 1 := ⟨k - 1, by omega⟩
  have hal : a.length = p.length + (q.length + 1) := by rw [ha]; simp
  have hw : wrap64 ((p.length : Int) + 1) = ((p ++ [x]).length : Int) := by unfold wrap64; simp; omega
  rw [clearwayref02_Same.l0, if_pos (by omega), if_pos (by omega), if_pos (by omega), if_pos rfl, hw]
  exact ih (p ++ [x]) a k (by rw [ha]; simp) (by simp at hk; omega) h1
theorem same_self (a : List ByteArray) (k : Nat) (hk : a.length < k) (h1 : a.length ≤ 1000000) : clearwayref02_Same.f k a a = some true := by
 unfold clearwayref02_Same.f
 rw [if_pos rfl]
 exact same_refl a [] a k rfl hk h1
end Go.Proofs.YtjkdenldddjcnaaDoor.Sha

namespace Go.Proofs.YtjkdenldddjcnaaDoor.Dm
open Go.RowKit Go.Proofs.YtjkdenldddjcnaaDoor.Sha Go.Proofs.YtjkdenldddjcnaaDoor.Df Go.Proofs.YtjkdenldddjcnaaDoorW.PrintWords Go.Proofs.YtjkdenldddjcnaaDoorW.PrintLast Go.Proofs.YtjkdenldddjcnaaDoorW.PrintMore
attribute [local go_sem] max2_int min2_int max_two min_two max_three min_three max_four min_four   -- for this text's walks alone
set_option linter.unusedVariables false
set_option linter.unusedSimpArgs false

/-! ### clearwaylaw02_DigestTreeMatchesReference: function 3 -/
def clearwaylaw02_DigestTreeMatchesReference.j0 : Nat → List ByteArray → Bool → Int → Int → Int → Int → Bool → Option (Bool)
 | 0, _, _, _, _, _, _, _ => none
 | k + 1, x0, x7, x9, x11, x13, x15, x16 => if x7 = true then (if x16 = true then (if x9 = x11 then (if x13 = x15 then ((digest_Root.f x0).bind fun t296 => ((clearwayref02_Root.f k x0).bind fun t297 => (some (t296.toList == t297.toList)))) else (some false)) else (some false)) else (some false)) else (some false)
def clearwaylaw02_DigestTreeMatchesReference.f (k : Nat) (l0 : List ByteArray) (a1 : Int) (a2 : Int) : Option (Bool) := (clearwaylaw02_sane.f k).bind fun t274 => ((clearwaylaw02_few.f k l0 40).bind fun t275 => ((proofC.f k t275 a1).bind fun bt278 => ((clearwayref02_Proof.f k t275 a1).bind fun bt282 => ((extC.f k t275 a2).bind fun bt286 => ((clearwayref02_Extension.f k t275 a2).bind fun bt290 => ((clearwayref02_Same.f k bt278.1 bt282.1).bind fun t294 => (if t294 = true then ((clearwayref02_Same.f k bt286.1 bt290.1).bind fun t295 => (clearwaylaw02_DigestTreeMatchesReference.j0 k t275 t274 bt278.2 bt282.2 bt286.2 bt290.2 t295)) else (clearwaylaw02_DigestTreeMatchesReference.j0 k t275 t274 bt278.2 bt282.2 bt286.2 bt290.2 false))))))))
set_option maxHeartbeats 8000000 in
set_option maxRecDepth 100000 in
theorem clearwaylaw02_DigestTreeMatchesReference.calls (k : Nat) (A0 : Option Addr) (c0 : Nat) (l0 : List ByteArray) (a1 : Int) (a2 : Int) (r : Bool) (w : World) (hr0 : Kd.C Kd.string w A0 l0.length l0) (hc0 : l0.length ≤ c0) (hG_ : Amb w) (h : clearwaylaw02_DigestTreeMatchesReference.f k l0 a1 a2 = some r) :
  Calls Tryd.prog 3 #[.slice A0 l0.length c0, .int .i64 a1, .int .i64 a2] w fun e w' => e = .returned (.bool r) ∧ Below w.heap.size w w' := by
 have HR0 := Aside0.mk hr0
 have HC0 := Aside0.mk hc0
 clear hr0 hc0
 have HB := Aside0.mk (Below.refl w.heap.size w)
 have H : ((clearwaylaw02_sane.f k).bind fun t274 => ((clearwaylaw02_few.f k l0 40).bind fun t275 => ((proofC.f k t275 a1).bind fun bt278 => ((clearwayref02_Proof.f k t275 a1).bind fun bt282 => ((extC.f k t275 a2).bind fun bt286 => ((clearwayref02_Extension.f k t275 a2).bind fun bt290 => ((clearwayref02_Same.f k bt278.1 bt282.1).bind fun t294 => (if t294 = true then ((clearwayref02_Same.f k bt286.1 bt290.1).bind fun t295 => (clearwaylaw02_DigestTreeMatchesReference.j0 k t275 t274 bt278.2 bt282.2 bt286.2 bt290.2 t295)) else (clearwaylaw02_DigestTreeMatchesReference.j0 k t275 t274 bt278.2 bt282.2 bt286.2 bt290.2 false))))))))) = some r := h
 clear h
 replace H := Option.bind_eq_some_iff.mp H
 obtain ⟨t274, A40, H⟩ := H
 replace H : ((clearwaylaw02_few.f k l0 40).bind fun t275 => ((proofC.f k t275 a1).bind fun bt278 => ((clearwayref02_Proof.f k t275 a1).bind fun bt282 => ((extC.f k t275 a2).bind fun bt286 => ((clearwayref02_Extension.f k t275 a2).bind fun bt290 => ((clearwayref02_Same.f k bt278.1 bt282.1).bind fun t294 => (if t294 = true then ((clearwayref02_Same.f k bt286.1 bt290.1).bind fun t295 => (clearwaylaw02_DigestTreeMatchesReference.j0 k t275 t274 bt278.2 bt282.2 bt286.2 bt290.2 t295)) else (clearwaylaw02_DigestTreeMatchesReference.j0 k t275 t274 bt278.2 bt282.2 bt286.2 bt290.2 false)))))))) = some r := H
 have A4 := Aside0.mk A40
 clear A40
 replace H := Option.bind_eq_some_iff.mp H
 obtain ⟨t275, A50, H⟩ := H
 replace H : ((proofC.f k t275 a1).bind fun bt278 => ((clearwayref02_Proof.f k t275 a1).bind fun bt282 => ((extC.f k t275 a2).bind fun bt286 => ((clearwayref02_Extension.f k t275 a2).bind fun bt290 => ((clearwayref02_Same.f k bt278.1 bt282.1).bind fun t294 => (if t294 = true then ((clearwayref02_Same.f k bt286.1 bt290.1).bind fun t295 => (clearwaylaw02_DigestTreeMatchesReference.j0 k t275 t274 bt278.2 bt282.2 bt286.2 bt290.2 t295)) else (clearwaylaw02_DigestTreeMatchesReference.j0 k t275 t274 bt278.2 bt282.2 bt286.2 bt290.2 false))))))) = some r := H
 have A5 := Aside0.mk A50
 clear A50
 replace H := Option.bind_eq_some_iff.mp H
 obtain ⟨⟨t278, t279⟩, A60, H⟩ := H
 replace H : ((clearwayref02_Proof.f k t275 a1).bind fun bt282 => ((extC.f k t275 a2).bind fun bt286 => ((clearwayref02_Extension.f k t275 a2).bind fun bt290 => ((clearwayref02_Same.f k t278 bt282.1).bind fun t294 => (if t294 = true then ((clearwayref02_Same.f k bt286.1 bt290.1).bind fun t295 => (clearwaylaw02_DigestTreeMatchesReference.j0 k t275 t274 t279 bt282.2 bt286.2 bt290.2 t295)) else (clearwaylaw02_DigestTreeMatchesReference.j0 k t275 t274 t279 bt282.2 bt286.2 bt290.2 false)))))) = some r := H
 have A6 := Aside0.mk A60
 clear A60
 replace H := Option.bind_eq_some_iff.mp H
 obtain ⟨⟨t282, t283⟩, A70, H⟩ := H
 replace H : ((extC.f k t275 a2).bind fun bt286 => ((clearwayref02_Extension.f k t275 a2).bind fun bt290 => ((clearwayref02_Same.f k t278 t282).bind fun t294 => (if t294 = true then ((clearwayref02_Same.f k bt286.1 bt290.1).bind fun t295 => (clearwaylaw02_DigestTreeMatchesReference.j0 k t275 t274 t279 t283 bt286.2 bt290.2 t295)) else (clearwaylaw02_DigestTreeMatchesReference.j0 k t275 t274 t279 t283 bt286.2 bt290.2 false))))) = some r := H
 have A7 := Aside0.mk A70
 clear A70
 replace H := Option.bind_eq_some_iff.mp H
 obtain ⟨⟨t286, t287⟩, A80, H⟩ := H
 replace H : ((clearwayref02_Extension.f k t275 a2).bind fun bt290 => ((clearwayref02_Same.f k t278 t282).bind fun t294 => (if t294 = true then ((clearwayref02_Same.f k t286 bt290.1).bind fun t295 => (clearwaylaw02_DigestTreeMatchesReference.j0 k t275 t274 t279 t283 t287 bt290.2 t295)) else (clearwaylaw02_DigestTreeMatchesReference.j0 k t275 t274 t279 t283 t287 bt290.2 false)))) = some r := H
 have A8 := Aside0.mk A80
 clear A80
 replace H := Option.bind_eq_some_iff.mp H
 obtain ⟨⟨t290, t291⟩, A90, H⟩ := H
 replace H : ((clearwayref02_Same.f k t278 t282).bind fun t294 => (if t294 = true then ((clearwayref02_Same.f k t286 t290).bind fun t295 => (clearwaylaw02_DigestTreeMatchesReference.j0 k t275 t274 t279 t283 t287 t291 t295)) else (clearwaylaw02_DigestTreeMatchesReference.j0 k t275 t274 t279 t283 t287 t291 false))) = some r := H
 have A9 := Aside0.mk A90
 clear A90
 have HC10 := Aside0.mk H
 clear H
 go_enter Tryd.func3, Tryd.ntmps3
 go_upto_region 7 with (first | ((with_reducible refine gate_callee (f := 12) rfl ?_); refine goesL_ (some 17) rfl rfl Tryd.func12 (by kernel_rfl) rfl #[] rfl (by (try simp only [List.map_toArray, List.map_cons, List.map_nil]); first | done | rfl | (simp only [List.length_drop, List.length_take]; rfl)) ?_; (with_reducible refine (clearwaylaw02_sane.calls k  t274 _ ?side1 A4.out).mono ?_); (case side1 => exact Amb.below hG_ (by repeat (first | (with_reducible first | exact HB.out | apply below_alloc | apply pw_below_drewN | apply below_drew1) | exact HB.out))); rintro e w11 ⟨rfl, hb⟩; refine ⟨_, rfl, ?_⟩; have n0_ := Aside0.mk (below_step (by repeat (first | (with_reducible first | exact HB.out | apply below_alloc | apply pw_below_drewN | apply below_drew1) | exact HB.out)) hb); clear HB; have HB := n0_; clear n0_; (try clear hb); (try clear hb2); (try clear hk); (try clear hi)) | ((with_reducible refine gate_callee (f := 13) rfl ?_); refine goesL_ (some 19) rfl rfl Tryd.func13 (by kernel_rfl) rfl #[.slice A0 l0.length c0, .int .i64 40] rfl (by (try simp only [List.map_toArray, List.map_cons, List.map_nil]); first | done | rfl | (simp only [List.length_drop, List.length_take]; rfl)) ?_; (with_reducible refine (clearwaylaw02_few.calls k _ _ l0 40 t275 _ ?side1 ?side2 A5.out).mono ?_); (case side1 => repeat (first | exact (Kd.C_below HR0.out HB.out) | (with_reducible refine Kd.C_alloc ?_ _) | (with_reducible refine Kd.C_drewN ?_ _) | (with_reducible refine Kd.C_drew ?_))); (case side2 => exact HC0.out); rintro e w12 ⟨v276, rfl, ho0, hb⟩; refine ⟨_, rfl, ?_⟩; have n0_ := Aside0.mk (Kd.R_lower ho0 (below_size (by repeat (first | (with_reducible first | exact HB.out | apply below_alloc | apply pw_below_drewN | apply below_drew1) | exact HB.out)))); have n1_ := Aside0.mk (below_step (by repeat (first | (with_reducible first | exact HB.out | apply below_alloc | apply pw_below_drewN | apply below_drew1) | exact HB.out)) hb); clear HB; have HO277 := n0_; have HB := n1_; clear n0_ n1_; (try clear hb); (try clear hb2); (try clear hk); (try clear hi); (try clear ho0); obtain ⟨Ao13, co13, eo13⟩ := Kd.R_slice HO277.out; subst eo13) | ((with_reducible refine gate_callee (f := 14) rfl ?_); refine goesL_ (some 23) rfl rfl Tryd.func14 (by kernel_rfl) rfl #[.slice Ao13 t275.length co13, .int .i64 a1] rfl (by (try simp only [List.map_toArray, List.map_cons, List.map_nil]); first | done | rfl | (simp only [List.length_drop, List.length_take]; rfl)) ?_; (with_reducible refine (proofC.calls k _ _ t275 a1 t278 t279 _ ?side1 ?side2 ?side3 A6.out).mono ?_); (case side1 => repeat (first | exact (Kd.R_reads' HO277.out).2.2 | (with_reducible refine Kd.C_alloc ?_ _) | (with_reducible refine Kd.C_drewN ?_ _) | (with_reducible refine Kd.C_drew ?_))); (case side2 => exact (Kd.R_reads' HO277.out).2.1); (case side3 => exact Amb.below hG_ (by repeat (first | (with_reducible first | exact HB.out | apply below_alloc | apply pw_below_drewN | apply below_drew1) | exact HB.out))); rintro e w14 ⟨v280, rfl, ho0, hb⟩; refine ⟨_, rfl, ?_⟩; have n0_ := Aside0.mk (Kd.R_elder' (by (with_reducible repeat (first | apply Kd.R_alloc | apply Kd.R_drewN | apply Kd.R_drew)); exact HO277.out) (Kd.R_base ho0) hb); have n1_ := Aside0.mk (Kd.R_lower (Kd.R_new' ho0 (Kd.R_lt (by (with_reducible repeat (first | apply Kd.R_alloc | apply Kd.R_drewN | apply Kd.R_drew)); exact HO277.out))) (below_size (by repeat (first | (with_reducible first | exact HB.out | apply below_alloc | apply pw_below_drewN | apply below_drew1) | exact HB.out)))); have n2_ := Aside0.mk (below_step (by repeat (first | (with_reducible first | exact HB.out | apply below_alloc | apply pw_below_drewN | apply below_drew1) | exact HB.out)) hb); clear HO277; clear HB; have HO277 := n0_; have HO281 := n1_; have HB := n2_; clear n0_ n1_ n2_; (try clear hb); (try clear hb2); (try clear hk); (try clear hi); (try clear ho0)) | ((with_reducible refine gate_callee (f := 15) rfl ?_); refine goesL_ (some 29) rfl rfl Tryd.func15 (by kernel_rfl) rfl #[.slice Ao13 t275.length co13, .int .i64 a1] rfl (by (try simp only [List.map_toArray, List.map_cons, List.map_nil]); first | done | rfl | (simp only [List.length_drop, List.length_take]; rfl)) ?_; (with_reducible refine (clearwayref02_Proof.calls k _ _ t275 a1 t282 t283 _ ?side1 ?side2 A7.out).mono ?_); (case side1 => repeat (first | exact (Kd.R_reads' HO277.out).2.2 | (with_reducible refine Kd.C_alloc ?_ _) | (with_reducible refine Kd.C_drewN ?_ _) | (with_reducible refine Kd.C_drew ?_))); (case side2 => exact (Kd.R_reads' HO277.out).2.1); rintro e w15 ⟨v284, rfl, ho0, hb⟩; refine ⟨_, rfl, ?_⟩; have n0_ := Aside0.mk (Kd.R_elder' (by (with_reducible repeat (first | apply Kd.R_alloc | apply Kd.R_drewN | apply Kd.R_drew)); exact HO277.out) (Kd.R_base ho0) hb); have n1_ := Aside0.mk (Kd.R_elder' (by (with_reducible repeat (first | apply Kd.R_alloc | apply Kd.R_drewN | apply Kd.R_drew)); exact HO281.out) (Kd.R_base ho0) hb); have n2_ := Aside0.mk (Kd.R_lower (Kd.R_new' (Kd.R_new' ho0 (Kd.R_lt (by (with_reducible repeat (first | apply Kd.R_alloc | apply Kd.R_drewN | apply Kd.R_drew)); exact HO277.out))) (Kd.R_lt (by (with_reducible repeat (first | apply Kd.R_alloc | apply Kd.R_drewN | apply Kd.R_drew)); exact HO281.out))) (below_size (by repeat (first | (with_reducible first | exact HB.out | apply below_alloc | apply pw_below_drewN | apply below_drew1) | exact HB.out)))); have n3_ := Aside0.mk (below_step (by repeat (first | (with_reducible first | exact HB.out | apply below_alloc | apply pw_below_drewN | apply below_drew1) | exact HB.out)) hb); clear HO277; clear HO281; clear HB; have HO277 := n0_; have HO281 := n1_; have HO285 := n2_; have HB := n3_; clear n0_ n1_ n2_ n3_; (try clear hb); (try clear hb2); (try clear hk); (try clear hi); (try clear ho0)) | ((with_reducible refine gate_callee (f := 16) rfl ?_); refine goesL_ (some 35) rfl rfl Tryd.func16 (by kernel_rfl) rfl #[.slice Ao13 t275.length co13, .int .i64 a2] rfl (by (try simp only [List.map_toArray, List.map_cons, List.map_nil]); first | done | rfl | (simp only [List.length_drop, List.length_take]; rfl)) ?_; (with_reducible refine (extC.calls k _ _ t275 a2 t286 t287 _ ?side1 ?side2 ?side3 A8.out).mono ?_); (case side1 => repeat (first | exact (Kd.R_reads' HO277.out).2.2 | (with_reducible refine Kd.C_alloc ?_ _) | (with_reducible refine Kd.C_drewN ?_ _) | (with_reducible refine Kd.C_drew ?_))); (case side2 => exact (Kd.R_reads' HO277.out).2.1); (case side3 => exact Amb.below hG_ (by repeat (first | (with_reducible first | exact HB.out | apply below_alloc | apply pw_below_drewN | apply below_drew1) | exact HB.out))); rintro e w16 ⟨v288, rfl, ho0, hb⟩; refine ⟨_, rfl, ?_⟩; have n0_ := Aside0.mk (Kd.R_elder' (by (with_reducible repeat (first | apply Kd.R_alloc | apply Kd.R_drewN | apply Kd.R_drew)); exact HO277.out) (Kd.R_base ho0) hb); have n1_ := Aside0.mk (Kd.R_elder' (by (with_reducible repeat (first | apply Kd.R_alloc | apply Kd.R_drewN | apply Kd.R_drew)); exact HO281.out) (Kd.R_base ho0) hb); have n2_ := Aside0.mk (Kd.R_elder' (by (with_reducible repeat (first | apply Kd.R_alloc | apply Kd.R_drewN | apply Kd.R_drew)); exact HO285.out) (Kd.R_base ho0) hb); have n3_ := Aside0.mk (Kd.R_lower (Kd.R_new' (Kd.R_new' (Kd.R_new' ho0 (Kd.R_lt (by (with_reducible repeat (first | apply Kd.R_alloc | apply Kd.R_drewN | apply Kd.R_drew)); exact HO277.out))) (Kd.R_lt (by (with_reducible repeat (first | apply Kd.R_alloc | apply Kd.R_drewN | apply Kd.R_drew)); exact HO281.out))) (Kd.R_lt (by (with_reducible repeat (first | apply Kd.R_alloc | apply Kd.R_drewN | apply Kd.R_drew)); exact HO285.out))) (below_size (by repeat (first | (with_reducible first | exact HB.out | apply below_alloc | apply pw_below_drewN | apply below_drew1) | exact HB.out)))); have n4_ := Aside0.mk (below_step (by repeat (first | (with_reducible first | exact HB.out | apply below_alloc | apply pw_below_drewN | apply below_drew1) | exact HB.out)) hb); clear HO277; clear HO281; clear HO285; clear HB; have HO277 := n0_; have HO281 := n1_; have HO285 := n2_; have HO289 := n3_; have HB := n4_; clear n0_ n1_ n2_ n3_ n4_; (try clear hb); (try clear hb2); (try clear hk); (try clear hi); (try clear ho0)) | ((with_reducible refine gate_callee (f := 17) rfl ?_); refine goesL_ (some 41) rfl rfl Tryd.func17 (by kernel_rfl) rfl #[.slice Ao13 t275.length co13, .int .i64 a2] rfl (by (try simp only [List.map_toArray, List.map_cons, List.map_nil]); first | done | rfl | (simp only [List.length_drop, List.length_take]; rfl)) ?_; (with_reducible refine (clearwayref02_Extension.calls k _ _ t275 a2 t290 t291 _ ?side1 ?side2 A9.out).mono ?_); (case side1 => repeat (first | exact (Kd.R_reads' HO277.out).2.2 | (with_reducible refine Kd.C_alloc ?_ _) | (with_reducible refine Kd.C_drewN ?_ _) | (with_reducible refine Kd.C_drew ?_))); (case side2 => exact (Kd.R_reads' HO277.out).2.1); rintro e w17 ⟨v292, rfl, ho0, hb⟩; refine ⟨_, rfl, ?_⟩; have n0_ := Aside0.mk (Kd.R_elder' (by (with_reducible repeat (first | apply Kd.R_alloc | apply Kd.R_drewN | apply Kd.R_drew)); exact HO277.out) (Kd.R_base ho0) hb); have n1_ := Aside0.mk (Kd.R_elder' (by (with_reducible repeat (first | apply Kd.R_alloc | apply Kd.R_drewN | apply Kd.R_drew)); exact HO281.out) (Kd.R_base ho0) hb); have n2_ := Aside0.mk (Kd.R_elder' (by (with_reducible repeat (first | apply Kd.R_alloc | apply Kd.R_drewN | apply Kd.R_drew)); exact HO285.out) (Kd.R_base ho0) hb); have n3_ := Aside0.mk (Kd.R_elder' (by (with_reducible repeat (first | apply Kd.R_alloc | apply Kd.R_drewN | apply Kd.R_drew)); exact HO289.out) (Kd.R_base ho0) hb); have n4_ := Aside0.mk (Kd.R_lower (Kd.R_new' (Kd.R_new' (Kd.R_new' (Kd.R_new' ho0 (Kd.R_lt (by (with_reducible repeat (first | apply Kd.R_alloc | apply Kd.R_drewN | apply Kd.R_drew)); exact HO277.out))) (Kd.R_lt (by (with_reducible repeat (first | apply Kd.R_alloc | apply Kd.R_drewN | apply Kd.R_drew)); exact HO281.out))) (Kd.R_lt (by (with_reducible repeat (first | apply Kd.R_alloc | apply Kd.R_drewN | apply Kd.R_drew)); exact HO285.out))) (Kd.R_lt (by (with_reducible repeat (first | apply Kd.R_alloc | apply Kd.R_drewN | apply Kd.R_drew)); exact HO289.out))) (below_size (by repeat (first | (with_reducible first | exact HB.out | apply below_alloc | apply pw_below_drewN | apply below_drew1) | exact HB.out)))); have n5_ := Aside0.mk (below_step (by repeat (first | (with_reducible first | exact HB.out | apply below_alloc | apply pw_below_drewN | apply below_drew1) | exact HB.out)) hb); clear HO277; clear HO281; clear HO285; clear HO289; clear HB; have HO277 := n0_; have HO281 := n1_; have HO285 := n2_; have HO289 := n3_; have HO293 := n4_; have HB := n5_; clear n0_ n1_ n2_ n3_ n4_ n5_; (try clear hb); (try clear hb2); (try clear hk); (try clear hi); (try clear ho0)))
 (try simp only [Act.put, List.setIfInBounds_toArray, List.set_cons_zero, List.set_cons_succ])
 go_cut [16] (fun v16 wc => ∃ (kq : Nat) (x16_9 : Bool), v16 = .bool x16_9 ∧ Aside0 (clearwaylaw02_DigestTreeMatchesReference.j0 kq t275 t274 t279 t283 t287 t291 x16_9 = some r) ∧ Aside0 (kq ≤ k) ∧ Aside0 (Kd.R Kd.string 9 wc w.heap.size (fun _ => True) (.slice Ao13 t275.length co13) t275) ∧ Aside0 (Below w.heap.size w wc))
 case first =>
  have H := HC10.out
  clear HC10
  replace H := Option.bind_eq_some_iff.mp H
  obtain ⟨t294, A180, H⟩ := H
  replace H : (if t294 = true then ((clearwayref02_Same.f k t286 t290).bind fun t295 => (clearwaylaw02_DigestTreeMatchesReference.j0 k t275 t274 t279 t283 t287 t291 t295)) else (clearwaylaw02_DigestTreeMatchesReference.j0 k t275 t274 t279 t283 t287 t291 false)) = some r := H
  have A18 := Aside0.mk A180
  clear A180
  by_cases c19 : t294 = true
  ·subst c19
   have H1 : ((clearwayref02_Same.f k t286 t290).bind fun t295 => (clearwaylaw02_DigestTreeMatchesReference.j0 k t275 t274 t279 t283 t287 t291 t295)) = some r := by rw [if_pos rfl] at H; exact H
   clear H
   have H := H1
   clear H1
   replace H := Option.bind_eq_some_iff.mp H
   obtain ⟨t295, A200, H⟩ := H
   replace H : (clearwaylaw02_DigestTreeMatchesReference.j0 k t275 t274 t279 t283 t287 t291 t295) = some r := H
   have A20 := Aside0.mk A200
   clear A200
   have H' := Aside0.mk H
   clear H
   obtain ⟨Ao21, co21, eo21⟩ := Kd.R_slice HO281.out
   subst eo21
   obtain ⟨Ao22, co22, eo22⟩ := Kd.R_slice HO285.out
   subst eo22
   go_wp2_with (first | ((with_reducible refine gate_callee (f := 18) rfl ?_); refine goesL_ (some 46) rfl rfl Tryd.func18 (by kernel_rfl) rfl #[.slice Ao21 t278.length co21, .slice Ao22 t282.length co22] rfl (by (try simp only [List.map_toArray, List.map_cons, List.map_nil]); first | done | rfl | (simp only [List.length_drop, List.length_take]; rfl)) ?_; (with_reducible refine (clearwayref02_Same.calls k _ _ t278 _ _ t282 true _ ?side1 ?side2 ?side3 ?side4 A18.out).mono ?_); (case side1 => repeat (first | exact (Kd.R_reads' HO281.out).2.2 | (with_reducible refine Kd.C_alloc ?_ _) | (with_reducible refine Kd.C_drewN ?_ _) | (with_reducible refine Kd.C_drew ?_))); (case side2 => exact (Kd.R_reads' HO281.out).2.1); (case side3 => repeat (first | exact (Kd.R_reads' HO285.out).2.2 | (with_reducible refine Kd.C_alloc ?_ _) | (with_reducible refine Kd.C_drewN ?_ _) | (with_reducible refine Kd.C_drew ?_))); (case side4 => exact (Kd.R_reads' HO285.out).2.1); rintro e w' ⟨rfl, ⟨nd, rfl⟩⟩; refine ⟨_, rfl, ?_⟩; obtain ⟨Ao23, co23, eo23⟩ := Kd.R_slice HO289.out; subst eo23; obtain ⟨Ao24, co24, eo24⟩ := Kd.R_slice HO293.out; subst eo24) | (go_at_call 18; (with_reducible refine (clearwayref02_Same.calls k _ _ t286 _ _ t290 t295 _ ?side1 ?side2 ?side3 ?side4 A20.out).mono ?_); (case side1 => repeat (first | exact (Kd.R_reads' HO289.out).2.2 | (with_reducible refine Kd.C_alloc ?_ _) | (with_reducible refine Kd.C_drewN ?_ _) | (with_reducible refine Kd.C_drew ?_))); (case side2 => exact (Kd.R_reads' HO289.out).2.1); (case side3 => repeat (first | exact (Kd.R_reads' HO293.out).2.2 | (with_reducible refine Kd.C_alloc ?_ _) | (with_reducible refine Kd.C_drewN ?_ _) | (with_reducible refine Kd.C_drew ?_))); (case side4 => exact (Kd.R_reads' HO293.out).2.1); rintro e w' ⟨rfl, ⟨nd, rfl⟩⟩))
   go_meet
   case rel => exact ⟨_, (t295), (by first | rfl | (simp; done) | (simp [*]; done)), H', ⟨by first | omega | exact Nat.le_refl _⟩, ⟨by (with_reducible repeat (first | apply Kd.R_alloc | apply Kd.R_drewN | apply Kd.R_drew)); exact Kd.R_mono HO277.out (fun _ hk => trivial)⟩, ⟨by repeat (first | (with_reducible first | exact HB.out | apply below_alloc | apply pw_below_drewN | apply below_drew1) | exact HB.out)⟩⟩
  ·replace c19 := Bool.eq_false_iff.mpr c19
   subst c19
   have H1 : (clearwaylaw02_DigestTreeMatchesReference.j0 k t275 t274 t279 t283 t287 t291 false) = some r := by rw [if_neg (show ¬ (false = true) by decide)] at H; exact H
   clear H
   have H := H1
   clear H1
   have H' := Aside0.mk H
   clear H
   obtain ⟨Ao25, co25, eo25⟩ := Kd.R_slice HO281.out
   subst eo25
   obtain ⟨Ao26, co26, eo26⟩ := Kd.R_slice HO285.out
   subst eo26
   go_wp2_with (first | ((with_reducible refine gate_callee (f := 18) rfl ?_); refine goesL_ (some 46) rfl rfl Tryd.func18 (by kernel_rfl) rfl #[.slice Ao25 t278.length co25, .slice Ao26 t282.length co26] rfl (by (try simp only [List.map_toArray, List.map_cons, List.map_nil]); first | done | rfl | (simp only [List.length_drop, List.length_take]; rfl)) ?_; (with_reducible refine (clearwayref02_Same.calls k _ _ t278 _ _ t282 false _ ?side1 ?side2 ?side3 ?side4 A18.out).mono ?_); (case side1 => repeat (first | exact (Kd.R_reads' HO281.out).2.2 | (with_reducible refine Kd.C_alloc ?_ _) | (with_reducible refine Kd.C_drewN ?_ _) | (with_reducible refine Kd.C_drew ?_))); (case side2 => exact (Kd.R_reads' HO281.out).2.1); (case side3 => repeat (first | exact (Kd.R_reads' HO285.out).2.2 | (with_reducible refine Kd.C_alloc ?_ _) | (with_reducible refine Kd.C_drewN ?_ _) | (with_reducible refine Kd.C_drew ?_))); (case side4 => exact (Kd.R_reads' HO285.out).2.1); rintro e w' ⟨rfl, ⟨nd, rfl⟩⟩; refine ⟨_, rfl, ?_⟩))
   go_meet
   case rel => exact ⟨_, (false), (by first | rfl | (simp; done) | (simp [*]; done)), H', ⟨by first | omega | exact Nat.le_refl _⟩, ⟨by (with_reducible repeat (first | apply Kd.R_alloc | apply Kd.R_drewN | apply Kd.R_drew)); exact Kd.R_mono HO277.out (fun _ hk => trivial)⟩, ⟨by repeat (first | (with_reducible first | exact HB.out | apply below_alloc | apply pw_below_drewN | apply below_drew1) | exact HB.out)⟩⟩
 case rest =>
  clear HC10
  try clear c1
  try clear p2
  try clear c3
  try clear c12
  try clear c13
  try clear c14
  try clear c15
  try clear c16
  try clear c17
  try clear c18
  try clear c19
  obtain ⟨kq, x16_9, rfl, HA, HJ9, HO_0, HB⟩ := hcut
  cases kq with
  | zero => exact absurd HA.out (by simp [clearwaylaw02_DigestTreeMatchesReference.j0])
  | succ kj9 =>
   have H := HA.out
   clear HA
   simp only [clearwaylaw02_DigestTreeMatchesReference.j0] at H
   by_cases c27 : t274 = true
   ·subst c27
    have H1 : (if x16_9 = true then (if t279 = t283 then (if t287 = t291 then ((digest_Root.f t275).bind fun t296 => ((clearwayref02_Root.f kj9 t275).bind fun t297 => (some (t296.toList == t297.toList)))) else (some false)) else (some false)) else (some false)) = some r := by rw [if_pos rfl] at H; exact H
    clear H
    have H := H1
    clear H1
    by_cases c28 : x16_9 = true
    ·subst c28
     have H1 : (if t279 = t283 then (if t287 = t291 then ((digest_Root.f t275).bind fun t296 => ((clearwayref02_Root.f kj9 t275).bind fun t297 => (some (t296.toList == t297.toList)))) else (some false)) else (some false)) = some r := by rw [if_pos rfl] at H; exact H
     clear H
     have H := H1
     clear H1
     by_cases c29 : t279 = t283
     ·rw [if_pos c29] at H
      have c29b0 : (t279 == t283) = true := beq_iff_eq.mpr c29
      have c29b1 : (t279 != t283) = false := bne_eq_false_iff_eq.mpr c29
      clear c29
      by_cases c30 : t287 = t291
      ·rw [if_pos c30] at H
       have c30b0 : (t287 == t291) = true := beq_iff_eq.mpr c30
       have c30b1 : (t287 != t291) = false := bne_eq_false_iff_eq.mpr c30
       clear c30
       replace H := Option.bind_eq_some_iff.mp H
       obtain ⟨t296, A310, H⟩ := H
       replace H : ((clearwayref02_Root.f kj9 t275).bind fun t297 => (some (t296.toList == t297.toList))) = some r := H
       have A31 := Aside0.mk A310
       clear A310
       replace H := Option.bind_eq_some_iff.mp H
       obtain ⟨t297, A320, H⟩ := H
       replace H : (some (t296.toList == t297.toList)) = some r := H
       have A32 := Aside0.mk A320
       clear A320
       obtain rfl := Option.some.inj H
       go_wp2_with (first | (go_at_call 19; (with_reducible refine (digest_Root.calls _ _ t275 t296 _ ?side1 ?side2 ?side3 A31.out).mono ?_); (case side1 => repeat (first | exact (Kd.R_reads' HO_0.out).2.2 | (with_reducible refine Kd.C_alloc ?_ _) | (with_reducible refine Kd.C_drewN ?_ _) | (with_reducible refine Kd.C_drew ?_))); (case side2 => exact (Kd.R_reads' HO_0.out).2.1); (case side3 => exact Amb.below hG_ (by repeat (first | (with_reducible first | exact HB.out | apply below_alloc | apply pw_below_drewN | apply below_drew1) | exact HB.out))); rintro e w33 ⟨rfl, hb⟩; have n0_ := Aside0.mk (Kd.R_below (by (with_reducible repeat (first | apply Kd.R_alloc | apply Kd.R_drewN | apply Kd.R_drew)); exact HO_0.out) hb); have n1_ := Aside0.mk (below_step (by repeat (first | (with_reducible first | exact HB.out | apply below_alloc | apply pw_below_drewN | apply below_drew1) | exact HB.out)) hb); clear HO_0; clear HB; have HO_0 := n0_; have HB := n1_; clear n0_ n1_; (try clear hb); (try clear hb2); (try clear hk); (try clear hi)) | (go_at_call 20; (with_reducible refine (clearwayref02_Root.calls kj9 _ _ t275 t297 _ ?side1 ?side2 A32.out).mono ?_); (case side1 => repeat (first | exact (Kd.R_reads' HO_0.out).2.2 | (with_reducible refine Kd.C_alloc ?_ _) | (with_reducible refine Kd.C_drewN ?_ _) | (with_reducible refine Kd.C_drew ?_))); (case side2 => exact (Kd.R_reads' HO_0.out).2.1); rintro e w34 ⟨rfl, hb⟩; have n0_ := Aside0.mk (Kd.R_below (by (with_reducible repeat (first | apply Kd.R_alloc | apply Kd.R_drewN | apply Kd.R_drew)); exact HO_0.out) hb); have n1_ := Aside0.mk (below_step (by repeat (first | (with_reducible first | exact HB.out | apply below_alloc | apply pw_below_drewN | apply below_drew1) | exact HB.out)) hb); clear HO_0; clear HB; have HO_0 := n0_; have HB := n1_; clear n0_ n1_; (try clear hb); (try clear hb2); (try clear hk); (try clear hi)))
       go_ret
       exact ⟨by first | rfl | (simp [errW_none, errW_some] <;> rfl) | (simp [*, errW_none, errW_some] <;> rfl), by repeat (first | (with_reducible first | exact HB.out | apply below_alloc | apply pw_below_drewN | apply below_drew1) | exact HB.out)⟩
      ·rw [if_neg c30] at H
       have c30b0 : (t287 == t291) = false := beq_eq_false_iff_ne.mpr c30
       have c30b1 : (t287 != t291) = true := bne_iff_ne.mpr c30
       obtain rfl := Option.some.inj H
       go_wp2
       go_ret
       exact ⟨by first | rfl | (simp [errW_none, errW_some] <;> rfl) | (simp [*, errW_none, errW_some] <;> rfl), by repeat (first | (with_reducible first | exact HB.out | apply below_alloc | apply pw_below_drewN | apply below_drew1) | exact HB.out)⟩
     ·rw [if_neg c29] at H
      have c29b0 : (t279 == t283) = false := beq_eq_false_iff_ne.mpr c29
      have c29b1 : (t279 != t283) = true := bne_iff_ne.mpr c29
      obtain rfl := Option.some.inj H
      go_wp2
      go_ret
      exact ⟨by first | rfl | (simp [errW_none, errW_some] <;> rfl) | (simp [*, errW_none, errW_some] <;> rfl), by repeat (first | (with_reducible first | exact HB.out | apply below_alloc | apply pw_below_drewN | apply below_drew1) | exact HB.out)⟩
    ·replace c28 := Bool.eq_false_iff.mpr c28
     subst c28
     have H1 : (some false) = some r := by rw [if_neg (show ¬ (false = true) by decide)] at H; exact H
     clear H
     have H := H1
     clear H1
     obtain rfl := Option.some.inj H
     go_wp2
     go_ret
     exact ⟨by first | rfl | (simp [errW_none, errW_some] <;> rfl) | (simp [*, errW_none, errW_some] <;> rfl), by repeat (first | (with_reducible first | exact HB.out | apply below_alloc | apply pw_below_drewN | apply below_drew1) | exact HB.out)⟩
   ·replace c27 := Bool.eq_false_iff.mpr c27
    subst c27
    have H1 : (some false) = some r := by rw [if_neg (show ¬ (false = true) by decide)] at H; exact H
    clear H
    have H := H1
    clear H1
    obtain rfl := Option.some.inj H
    go_wp2
    go_ret
    exact ⟨by first | rfl | (simp [errW_none, errW_some] <;> rfl) | (simp [*, errW_none, errW_some] <;> rfl), by repeat (first | (with_reducible first | exact HB.out | apply below_alloc | apply pw_below_drewN | apply below_drew1) | exact HB.out)⟩

/-! ### clearwayref02_Digests: function 49 -/
/-! ### clearwayref02_value: function 50 -/
/-! ### clearwayref02_Verify: function 22 -/
end Go.Proofs.YtjkdenldddjcnaaDoor.Dm

set_option linter.unusedVariables false
set_option linter.unusedSimpArgs false
namespace Go.Proofs.YtjkdenldddjcnaaDoor.Sha
open Go Go.RowKit Go.Proofs.YtjkdenldddjcnaaDoor.Df Go.Proofs.YtjkdenldddjcnaaDoor.Dm Go.Proofs.YtjkdenldddjcnaaDoorW.PrintWords Go.Proofs.YtjkdenldddjcnaaDoorW.PrintLast Go.Proofs.YtjkdenldddjcnaaDoorW.PrintMore

theorem saneT (n : Nat) : clearwaylaw02_sane.f (200 + n) = some true := by
 induction n with
 | zero => exact sane_f
 | succ n ih => exact clearwaylaw02_sane.mono (200 + n) _ ih
theorem proof_both (l : List ByteArray) (i : Int) (hs : small l = true) (hm : Sm l) (hl : l.length ≤ 40) : ∃ P e, digest_Proof.f 10000 l i = some (P, e) ∧ clearwayref02_Proof.f 10000 l i = some (P, e) ∧ P.length ≤ 1000 := by
 by_cases h : i < 0 ∨ (l.length : Int) ≤ i
 ·exact ⟨_, _, proof_out l i 10000 h (by decide), proofr_out l i 10000 h (by decide), by simp⟩
 ·obtain ⟨j, rfl⟩ : ∃ j : Nat, i = (j : Int) := ⟨i.toNat, by omega⟩
  have hp := prP_len l.length l j
  exact ⟨_, _, proof_f l j 10000 (by omega) hs (by omega), proof_ref l.length l j 10000 (by omega) (Nat.le_refl _) (by omega) hm (by omega), by rw [List.length_reverse]; omega⟩
theorem ext_both (l : List ByteArray) (m : Int) (hs : small l = true) (hm : Sm l) (hl : l.length ≤ 40) : ∃ P e, digest_Extension.f 10000 l m = some (P, e) ∧ clearwayref02_Extension.f 10000 l m = some (P, e) ∧ P.length ≤ 1000 := by
 by_cases h : m < 0 ∨ (l.length : Int) < m
 ·exact ⟨_, _, ext_out l m 10000 h (by decide), extr_out l m 10000 h (by decide), by simp⟩
 ·obtain ⟨j, rfl⟩ : ∃ j : Nat, m = (j : Int) := ⟨m.toNat, by omega⟩
  have hp := extP_len l.length l j true
  exact ⟨_, _, ext_f l j 10000 (by omega) hs (by omega), ext_ref l j 10000 (by omega) (by omega) hm (by omega), by split <;> simp <;> omega⟩
theorem treeref_f (l0 : List ByteArray) (a1 a2 : Int) : ∃ k, clearwaylaw02_DigestTreeMatchesReference.f k l0 a1 a2 = some true := by
 refine ⟨10000, ?_⟩
 have hsane : clearwaylaw02_sane.f 10000 = some true := saneT 9800
 obtain ⟨l, hl, hll, hls⟩ := few_f l0 40 10000 (by decide) (by decide)
 have hl' : clearwaylaw02_few.f 10000 l0 40 = some l := hl
 have sl : small l = true := small_of 40 hll (by decide) hls
 have sm : Sm l := fun s hs => by have := hls s hs; omega
 obtain ⟨P, e, p1, p2, p3⟩ := proof_both l a1 sl sm hll
 obtain ⟨Q, f, q1, q2, q3⟩ := ext_both l a2 sl sm hll
 unfold clearwaylaw02_DigestTreeMatchesReference.f
 simp only [proofC_f, extC_f]
 rw [hsane, Option.bind_some, hl', Option.bind_some, p1, Option.bind_some, p2, Option.bind_some, q1, Option.bind_some, q2, Option.bind_some]
 show ((clearwayref02_Same.f 10000 P P).bind _) = _
 rw [same_self P 10000 (by omega) (by omega), Option.bind_some, if_pos rfl]
 show ((clearwayref02_Same.f 10000 Q Q).bind _) = _
 rw [same_self Q 10000 (by omega) (by omega), Option.bind_some]
 show clearwaylaw02_DigestTreeMatchesReference.j0 (9999 + 1) l true e e f f true = _
 rw [clearwaylaw02_DigestTreeMatchesReference.j0, if_pos rfl, if_pos rfl, if_pos rfl, if_pos rfl, root_f sl, Option.bind_some, root_ref l.length l 9999 (Nat.le_refl _) (by omega) sm (by omega), Option.bind_some]
 simp
theorem treeref (A0 : Option Addr) (n0 c0 : Nat) (l0 : List ByteArray) (a1 a2 : Int) (w : World)
  (w0 : l0.length = n0 ∧ n0 ≤ c0 ∧ c0 ≤ maxLen ∧ Kd.C Kd.string w A0 n0 l0 ∧ ∀ x ∈ l0, x.size ≤ maxLen) (w1 : (Lit.int .i64 a1).wf = true) (w2 : (Lit.int .i64 a2).wf = true) (hG : Amb w) :
  Calls Tryd.prog 3 #[.slice A0 n0 c0, .int .i64 a1, .int .i64 a2] w fun e w' => e = .returned (.bool true) ∧ Below w.heap.size w w' := by
 obtain ⟨rfl, h1, _, k1, _⟩ := w0
 obtain ⟨k, hk⟩ := treeref_f l0 a1 a2
 exact clearwaylaw02_DigestTreeMatchesReference.calls k A0 c0 l0 a1 a2 true w k1 h1 hG hk
end Go.Proofs.YtjkdenldddjcnaaDoor.Sha

