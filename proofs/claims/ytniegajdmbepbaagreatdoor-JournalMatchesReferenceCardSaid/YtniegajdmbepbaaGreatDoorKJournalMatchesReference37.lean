/- JournalMatchesReference: the regions whose order is open. Condition: none. -/
import Derived.Test.YtniegajdmbepbaaGreatDoorKJournalMatchesReference14
import Derived.Test.YtniegajdmbepbaaGreatDoorKJournalMatchesReference36
set_option linter.unusedSimpArgs false
set_option linter.unusedVariables false
open Go.Proofs.YtniegajdmbepbaaGreatDoor
namespace Go.Proofs.YtniegajdmbepbaaGreatDoor.Jm
open Go Go.RowKit Go.Shelf Go.Proofs.YtniegajdmbepbaaGreatDoor.Rf Go.Proofs.YtniegajdmbepbaaGreatDoorW.PrintWords Go.Proofs.YtniegajdmbepbaaGreatDoorW.PrintLast Go.Proofs.YtniegajdmbepbaaGreatDoorW.PrintMore Go.Proofs.YtniegajdmbepbaaGreatDoor.Sha
def dm_r9tS (wb : Nat) (d : Nat) (r : Nat) (m : Nat) (pc : Nat) (pa : Option Addr) (V_ : World) : Prop := V_.cell? ⟨wb, 0, none⟩ = some (.pointer (some ⟨d, 0, none⟩)) ∧ V_.cell? ⟨wb, 2, none⟩ = some (.pointer (some ⟨r, 0, none⟩)) ∧ V_.cell? ⟨r, 1, none⟩ = some (.slice pa m pc) ∧ V_.cell? ⟨r, 2, none⟩ = some (.bool true)
def dmT.T9 : Bool × List (List Nat × List Nat) := (true, [([], []), ([0], [0]), ([1], [1]), ([2], [2]), ([3, 2], [2, 3]), ([4, 2], [2, 4]), ([5, 2], [2, 5]), ([6, 2, 2], [2, 6]), ([2], [2]), ([8, 2], [2, 8]), ([9, 2], [2, 9]), ([10, 2], [2, 10]), ([11, 2], [2, 11]), ([12, 2], [2, 12]), ([13, 2], [2, 13]), ([14, 2], [2, 14]), ([7, 15, 2], [2, 7, 15]), ([2, 16], [2, 16]), ([17, 7], [17]), ([18], [18]), ([19, 18], [18, 19]), ([20, 18], [18, 20]), ([21, 18], [18, 21]), ([22, 18], [18, 22]), ([23, 18], [18, 23]), ([24, 18], [18, 24]), ([25, 18], [18, 25]), ([26, 18, 18], [18, 26]), ([27], [27]), ([28, 27], [27, 28]), ([29, 27], [27, 29]), ([30, 27], [27, 30]), ([31, 27, 27], [27, 31]), ([27], [27]), ([33, 27], [27, 33]), ([34, 27], [27, 34]), ([35, 27], [27, 35]), ([36, 32, 27], [27, 36]), ([37, 27], [27, 37]), ([32, 38, 27], [27, 32, 38]), ([27, 39, 18], [18, 27, 39]), ([18, 40], [18, 40])])
def dmT.B9 : List Nat := [0, 1, 3, 7, 15, 31, 63, 127, 7, 263, 775, 1799, 3847, 7943, 16135, 32519, 65535, 131071, 262143, 524287, 1048575, 2097151, 4194303, 8388607, 16777215, 33554431, 67108863, 134217727, 268435455, 536870911, 1073741823, 2147483647, 4294967295, 268435455, 8858370047, 26038239231, 60397977599, 137438953471, 274877906943, 549755813887, 1099511627775, 2199023255551]
theorem dmT.tab9 : rtab .any (opsOf Tryz.f7 9) = dmT.T9 := by kernel_rfl
theorem dmT.bits9 : waitsOk dmT.T9.2 dmT.B9 = true := by kernel_rfl
noncomputable def dmR9 : Code := ((Tryz.f7.body.bind (regionOf 9)).getD .skip)
set_option maxHeartbeats 8000000 in
set_option maxRecDepth 100000 in
theorem dm_r9t (R : Act → World → Prop) (W : World) (v0 v1 v2 v3 v4 v5 v7 v8 v10 v11 v12 v13 v14 v15 v16 v17 v18 v19 v20 v21 v22 v23 v24 v25 v26 v27 v28 v29 v30 v31 v32 v33 v34 v35 v36 v37 v38 v39 v40 v41 v42 v43 v44 v45 v46 v47 v48 v49 v50 v51 v52 v53 v54 v55 v56 v57 v58 v59 v60 v61 v62 v63 v64 v65 v66 v67 v68 v69 v70 v71 v72 v73 v74 v75 v76 v77 v78 v79 v80 v81 v82 v83 v84 v85 v86 v87 v88 v89 v90 v91 v92 v93 v94 v95 v96 v97 v98 v99 v100 v101 v102 v103 v104 v105 v106 v107 v108 v109 v110 : Value) (wb d r m pc : Nat) (pa : Option Addr) (P0 : World → Prop) (P7 : World → Prop)
  (hmm : ((m : Int) != (m : Int)) = false)
  (hP0 : P0 W.drew)
  (hS0 : ∀ V, P0 V → dm_r9tS wb d r m pc pa V)
  (hc7 : ∀ V, P0 V → Calls Tryz.prog 32 #[.pointer (some ⟨d, 0, none⟩)] V fun e w' => e = .returned (.int .i64 (m : Int)) ∧ P7 w')
  (hS7 : ∀ V, P7 V → dm_r9tS wb d r m pc pa V)
  (hQ : ∀ (z34 z35 z36 z37 z38 z39 z40 z41 z42 z43 z44 z45 z46 z47 z48 z49 z50 z51 z52 z53 z54 z55 z56 z57 z58 z59 z60 z61 z62 z63 z64 z65 z66 z67 z68 z69 z70 z71 z72 z73 z74 : Value) (W' : World), P7 W' → R ⟨#[v0, v1, v2, v3, v4, v5, Value.pointer (some ⟨wb, 0, none⟩), v7, v8, Value.bool true, v10, v11, v12, v13, v14, v15, v16, v17, v18, v19, v20, v21, v22, v23, v24, v25, v26, v27, v28, v29, v30, v31, v32, v33, z34, z35, z36, z37, z38, z39, z40, z41, z42, z43, z44, z45, z46, z47, z48, z49, z50, z51, z52, z53, z54, z55, z56, z57, z58, z59, z60, z61, z62, z63, z64, z65, z66, z67, z68, z69, z70, z71, z72, z73, z74, Value.bool false, v76, v77, v78, v79, v80, v81, v82, v83, v84, v85, v86, v87, v88, v89, v90, v91, v92, v93, v94, v95, v96, v97, v98, v99, v100, v101, v102, v103, v104, v105, v106, v107, v108, v109, v110], []⟩ W') :
  dmR9.wp Tryz.prog (Norm R) ⟨#[v0, v1, v2, v3, v4, v5, Value.pointer (some ⟨wb, 0, none⟩), v7, v8, Value.bool true, v10, v11, v12, v13, v14, v15, v16, v17, v18, v19, v20, v21, v22, v23, v24, v25, v26, v27, v28, v29, v30, v31, v32, v33, v34, v35, v36, v37, v38, v39, v40, v41, v42, v43, v44, v45, v46, v47, v48, v49, v50, v51, v52, v53, v54, v55, v56, v57, v58, v59, v60, v61, v62, v63, v64, v65, v66, v67, v68, v69, v70, v71, v72, v73, v74, v75, v76, v77, v78, v79, v80, v81, v82, v83, v84, v85, v86, v87, v88, v89, v90, v91, v92, v93, v94, v95, v96, v97, v98, v99, v100, v101, v102, v103, v104, v105, v106, v107, v108, v109, v110], []⟩ W := by
 unfold dmR9
 conv => arg 2; whnf
 refine start_ (n := 42) (S := (dm_r9tS wb d r m pc pa)) (ds := []) (Sx14.b 42 0) (by kernel_rfl) rfl rfl (hS0 _ hP0) (fun hHeld => ?_); refine with_tabW dmT.tab9 dmT.bits9 (fun HT_ HW_ => ?_)
 have hP0_ := hP0
 clear hP0
 generalize W.drew = w0_ at hHeld hP0_ ⊢
 refine Sx14.p (i := 0) (N := some 34) HT_.out (Sx14.b 42 1) ?_
 refine Sx14.p (i := 1) (N := some 35) HT_.out (Sx14.b 42 3) ?_
 refine Sx14.p (i := 2) (N := some 36) HT_.out (Sx14.b 42 7) ?_
 refine Sx14.p (i := 3) (N := some 37) HT_.out (Sx14.b 42 15) ?_
 refine Sx14.p (i := 4) (N := some 38) HT_.out (Sx14.b 42 31) ?_
 refine Sx14.p (i := 5) (N := some 39) HT_.out (Sx14.b 42 63) ?_
 refine Sx14.p (i := 8) (N := some 42) HT_.out (Sx14.b 42 319) ?_
 refine Sx14.p (i := 9) (N := some 43) HT_.out (Sx14.b 42 831) ?_
 refine Sx14.p (i := 10) (N := some 44) HT_.out (Sx14.b 42 1855) ?_
 refine take_ (i := 6) (N := some 40) (v := ?_) (a' := ?_) (Sx14.b 42 1919) rfl rfl (take_ofW HT_.out HW_.out (by kernel_rfl)) (fun _ _ _ h => h) (Or.inl ⟨by rfl, ?_⟩) hHeld ?_ ?_
 rotate_left
 ·intro w' hS_
  obtain ⟨q0, q2, s1, s2⟩ := hS_
  go_simp
  with_reducible rfl
 rotate_left
 ·simp only [Act.put, Sx14.u, Sx14.v, Sx14.w, i64_w, i32_w]
  rfl
 refine take_ (i := 11) (N := some 45) (v := ?_) (a' := ?_) (Sx14.b 42 3967) rfl rfl (take_ofW HT_.out HW_.out (by kernel_rfl)) (fun _ _ _ h => h) (Or.inl ⟨by rfl, ?_⟩) hHeld ?_ ?_
 rotate_left
 ·intro w' hS_
  obtain ⟨q0, q2, s1, s2⟩ := hS_
  go_simp
  with_reducible rfl
 rotate_left
 ·simp only [Act.put, Sx14.u, Sx14.v, Sx14.w, i64_w, i32_w]
  rfl
 refine Sx14.p (i := 12) (N := some 46) HT_.out (Sx14.b 42 8063) ?_
 refine Sx14.p (i := 13) (N := some 47) HT_.out (Sx14.b 42 16255) ?_
 refine take_ (i := 14) (N := some 48) (v := ?_) (a' := ?_) (Sx14.b 42 32639) rfl rfl (take_ofW HT_.out HW_.out (by kernel_rfl)) (fun _ _ _ h => h) (Or.inl ⟨by rfl, ?_⟩) hHeld ?_ ?_
 rotate_left
 ·intro w' hS_
  obtain ⟨q0, q2, s1, s2⟩ := hS_
  go_simp
  with_reducible rfl
 rotate_left
 ·simp only [Act.put, Sx14.u, Sx14.v, Sx14.w, i64_w, i32_w]
  rfl
 refine Sx14.p (i := 15) (N := some 49) HT_.out (Sx14.b 42 65407) ?_
 refine one_ (i := 7) (N := some 41) (Sx14.b 42 65535) rfl rfl (one_of HT_.out (by kernel_rfl)) (by decide) (fun K hK => ?_)
 refine goes_ Tryz.func32 (by kernel_rfl) rfl #[.pointer (some ⟨d, 0, none⟩)] (by rfl) rfl rfl (by (try simp only [List.map_toArray, List.map_cons, List.map_nil]); first | done | rfl) ?_
 refine (hc7 _ hP0_).mono ?_
 rintro e wc7_ ⟨rfl, hp7_⟩
 refine ⟨_, rfl, ?_⟩
 refine hK.out _ _ (hS7 _ hp7_) (fun hHeld => ?_)
 clear hK K
 refine norm_ (a' := ?_) ?_ ?_
 rotate_left
 ·show Act.put _ (some 41) _ = _
  simp only [Act.put, Sx14.u, Sx14.v, Sx14.w, i64_w, i32_w]
  rfl
 refine Sx14.p (i := 16) (N := some 50) HT_.out (Sx14.b 42 131071) ?_
 refine Sx14.p (i := 17) (N := some 51) HT_.out (Sx14.b 42 262143) ?_
 refine Sx14.p (i := 18) (N := some 52) HT_.out (Sx14.b 42 524287) ?_
 refine Sx14.p (i := 19) (N := some 53) HT_.out (Sx14.b 42 1048575) ?_
 refine Sx14.p (i := 20) (N := some 54) HT_.out (Sx14.b 42 2097151) ?_
 refine Sx14.p (i := 21) (N := some 55) HT_.out (Sx14.b 42 4194303) ?_
 refine take_ (i := 22) (N := some 56) (v := ?_) (a' := ?_) (Sx14.b 42 8388607) rfl rfl (take_ofW HT_.out HW_.out (by kernel_rfl)) (fun _ _ _ h => h) (Or.inl ⟨by rfl, ?_⟩) hHeld ?_ ?_
 rotate_left
 ·intro w' hS_
  obtain ⟨q0, q2, s1, s2⟩ := hS_
  go_simp
  with_reducible rfl
 rotate_left
 ·simp only [Act.put, Sx14.u, Sx14.v, Sx14.w, i64_w, i32_w]
  rfl
 refine Sx14.p (i := 23) (N := some 57) HT_.out (Sx14.b 42 16777215) ?_
 refine Sx14.p (i := 24) (N := some 58) HT_.out (Sx14.b 42 33554431) ?_
 refine take_ (i := 25) (N := some 59) (v := ?_) (a' := ?_) (Sx14.b 42 67108863) rfl rfl (take_ofW HT_.out HW_.out (by kernel_rfl)) (fun _ _ _ h => h) (Or.inl ⟨by rfl, ?_⟩) hHeld ?_ ?_
 rotate_left
 ·intro w' hS_
  obtain ⟨q0, q2, s1, s2⟩ := hS_
  go_simp
  with_reducible rfl
 rotate_left
 ·simp only [Act.put, Sx14.u, Sx14.v, Sx14.w, i64_w, i32_w]
  rfl
 refine Sx14.p (i := 26) (N := some 60) HT_.out (Sx14.b 42 134217727) ?_
 refine Sx14.p (i := 27) (N := some 61) HT_.out (Sx14.b 42 268435455) ?_
 refine pure_ (i := 28) (N := some 62) (v := undef) (a' := ?_) (Sx14.b 42 536870911) rfl rfl (any_of HT_.out (by kernel_rfl)) (fun _ _ _ h => h) (Or.inr ⟨by rfl, rfl⟩) ?_ ?_
 rotate_left
 ·simp only [Act.put, Sx14.u, Sx14.v, Sx14.w, i64_w, i32_w]
  rfl
 refine pure_ (i := 29) (N := some 63) (v := undef) (a' := ?_) (Sx14.b 42 1073741823) rfl rfl (any_of HT_.out (by kernel_rfl)) (fun _ _ _ h => h) (Or.inr ⟨by rfl, rfl⟩) ?_ ?_
 rotate_left
 ·simp only [Act.put, Sx14.u, Sx14.v, Sx14.w, i64_w, i32_w]
  rfl
 refine pure_ (i := 30) (N := some 64) (v := undef) (a' := ?_) (Sx14.b 42 2147483647) rfl rfl (any_of HT_.out (by kernel_rfl)) (fun _ _ _ h => h) (Or.inr ⟨by rfl, rfl⟩) ?_ ?_
 rotate_left
 ·simp only [Act.put, Sx14.u, Sx14.v, Sx14.w, i64_w, i32_w]
  rfl
 refine pure_ (i := 31) (N := some 65) (v := undef) (a' := ?_) (Sx14.b 42 4294967295) rfl rfl (any_of HT_.out (by kernel_rfl)) (fun _ _ _ h => h) (Or.inr ⟨by rfl, rfl⟩) ?_ ?_
 rotate_left
 ·simp only [Act.put, Sx14.u, Sx14.v, Sx14.w, i64_w, i32_w]
  rfl
 refine pure_ (i := 32) (N := some 66) (v := undef) (a' := ?_) (Sx14.b 42 8589934591) rfl rfl (any_of HT_.out (by kernel_rfl)) (fun _ _ _ h => h) (Or.inr ⟨by rfl, rfl⟩) ?_ ?_
 rotate_left
 ·simp only [Act.put, Sx14.u, Sx14.v, Sx14.w, i64_w, i32_w]
  rfl
 refine pure_ (i := 33) (N := some 67) (v := undef) (a' := ?_) (Sx14.b 42 17179869183) rfl rfl (any_of HT_.out (by kernel_rfl)) (fun _ _ _ h => h) (Or.inr ⟨by rfl, rfl⟩) ?_ ?_
 rotate_left
 ·simp only [Act.put, Sx14.u, Sx14.v, Sx14.w, i64_w, i32_w]
  rfl
 refine pure_ (i := 34) (N := some 68) (v := undef) (a' := ?_) (Sx14.b 42 34359738367) rfl rfl (any_of HT_.out (by kernel_rfl)) (fun _ _ _ h => h) (Or.inr ⟨by rfl, rfl⟩) ?_ ?_
 rotate_left
 ·simp only [Act.put, Sx14.u, Sx14.v, Sx14.w, i64_w, i32_w]
  rfl
 refine pure_ (i := 35) (N := some 69) (v := undef) (a' := ?_) (Sx14.b 42 68719476735) rfl rfl (any_of HT_.out (by kernel_rfl)) (fun _ _ _ h => h) (Or.inr ⟨by rfl, rfl⟩) ?_ ?_
 rotate_left
 ·simp only [Act.put, Sx14.u, Sx14.v, Sx14.w, i64_w, i32_w]
  rfl
 refine pure_ (i := 36) (N := some 70) (v := undef) (a' := ?_) (Sx14.b 42 137438953471) rfl rfl (any_of HT_.out (by kernel_rfl)) (fun _ _ _ h => h) (Or.inr ⟨by rfl, rfl⟩) ?_ ?_
 rotate_left
 ·simp only [Act.put, Sx14.u, Sx14.v, Sx14.w, i64_w, i32_w]
  rfl
 refine pure_ (i := 37) (N := some 71) (v := undef) (a' := ?_) (Sx14.b 42 274877906943) rfl rfl (any_of HT_.out (by kernel_rfl)) (fun _ _ _ h => h) (Or.inr ⟨by rfl, rfl⟩) ?_ ?_
 rotate_left
 ·simp only [Act.put, Sx14.u, Sx14.v, Sx14.w, i64_w, i32_w]
  rfl
 refine pure_ (i := 38) (N := some 72) (v := undef) (a' := ?_) (Sx14.b 42 549755813887) rfl rfl (any_of HT_.out (by kernel_rfl)) (fun _ _ _ h => h) (Or.inr ⟨by rfl, rfl⟩) ?_ ?_
 rotate_left
 ·simp only [Act.put, Sx14.u, Sx14.v, Sx14.w, i64_w, i32_w]
  rfl
 refine pure_ (i := 39) (N := some 73) (v := undef) (a' := ?_) (Sx14.b 42 1099511627775) rfl rfl (any_of HT_.out (by kernel_rfl)) (fun _ _ _ h => h) (Or.inr ⟨by rfl, rfl⟩) ?_ ?_
 rotate_left
 ·simp only [Act.put, Sx14.u, Sx14.v, Sx14.w, i64_w, i32_w]
  rfl
 refine Sx14.p (i := 40) (N := some 74) HT_.out (Sx14.b 42 2199023255551) ?_
 refine Sx14.p (i := 41) (N := some 75) HT_.out (Sx14.b 42 4398046511103) ?_
 refine done_ (done_of HT_.out (by kernel_rfl)) ?_
 exact hQ _ _ _ _ _ _ _ _ _ _ _ _ _ _ _ _ _ _ _ _ _ _ _ _ _ _ _ _ _ _ _ _ _ _ _ _ _ _ _ _ _ _ hp7_
def dm_r9fS (wb : Nat) (d : Nat) (r : Nat) (m : Nat) (pc : Nat) (pa : Option Addr) (V_ : World) : Prop := V_.cell? ⟨wb, 0, none⟩ = some (.pointer (some ⟨d, 0, none⟩)) ∧ V_.cell? ⟨wb, 2, none⟩ = some (.pointer (some ⟨r, 0, none⟩)) ∧ V_.cell? ⟨r, 1, none⟩ = some (.slice pa m pc) ∧ V_.cell? ⟨r, 2, none⟩ = some (.bool false)
set_option maxHeartbeats 8000000 in
set_option maxRecDepth 100000 in
theorem dm_r9f (R : Act → World → Prop) (W : World) (v0 v1 v2 v3 v4 v5 v7 v8 v10 v11 v12 v13 v14 v15 v16 v17 v18 v19 v20 v21 v22 v23 v24 v25 v26 v27 v28 v29 v30 v31 v32 v33 v34 v35 v36 v37 v38 v39 v40 v41 v42 v43 v44 v45 v46 v47 v48 v49 v50 v51 v52 v53 v54 v55 v56 v57 v58 v59 v60 v61 v62 v63 v64 v65 v66 v67 v68 v69 v70 v71 v72 v73 v74 v75 v76 v77 v78 v79 v80 v81 v82 v83 v84 v85 v86 v87 v88 v89 v90 v91 v92 v93 v94 v95 v96 v97 v98 v99 v100 v101 v102 v103 v104 v105 v106 v107 v108 v109 v110 : Value) (wb d r m pc : Nat) (pa : Option Addr) (s : ByteArray) (P0 : World → Prop) (P7 : World → Prop) (P32 : World → Prop) (P37 : Value → World → Prop)
  (hmm : ((m : Int) != (m : Int)) = false) (hss : (s.toList != s.toList) = false) (hcv : Aside0 (∀ V u1, P37 u1 V → (convert 39 9 u1).run Tryz.prog V = .ok (.string s) V))
  (hP0 : P0 W.drew)
  (hS0 : ∀ V, P0 V → dm_r9fS wb d r m pc pa V)
  (hc7 : ∀ V, P0 V → Calls Tryz.prog 32 #[.pointer (some ⟨d, 0, none⟩)] V fun e w' => e = .returned (.int .i64 (m : Int)) ∧ P7 w')
  (hS7 : ∀ V, P7 V → dm_r9fS wb d r m pc pa V)
  (hc32 : ∀ V, P7 V → Calls Tryz.prog 22 #[.pointer (some ⟨d, 0, none⟩)] V fun e w' => e = .returned (.string s) ∧ P32 w')
  (hS32 : ∀ V, P32 V → dm_r9fS wb d r m pc pa V)
  (hc37 : ∀ V, P32 V → Calls Tryz.prog 23 #[.pointer (some ⟨r, 0, none⟩)] V fun e w' => ∃ u1, e = .returned u1 ∧ P37 u1 w')
  (hS37 : ∀ V u1, P37 u1 V → dm_r9fS wb d r m pc pa V)
  (hQ : ∀ (z34 z35 z36 z37 z38 z39 z40 z41 z42 z43 z44 z45 z46 z47 z48 z49 z50 z51 z52 z53 z54 z55 z56 z57 z58 z59 z60 z61 z62 z63 z64 z65 z66 z67 z68 z69 z70 z71 z72 z73 z74 : Value) (W' : World) (u1 : Value), P37 u1 W' → R ⟨#[v0, v1, v2, v3, v4, v5, Value.pointer (some ⟨wb, 0, none⟩), v7, v8, Value.bool true, v10, v11, v12, v13, v14, v15, v16, v17, v18, v19, v20, v21, v22, v23, v24, v25, v26, v27, v28, v29, v30, v31, v32, v33, z34, z35, z36, z37, z38, z39, z40, z41, z42, z43, z44, z45, z46, z47, z48, z49, z50, z51, z52, z53, z54, z55, z56, z57, z58, z59, z60, z61, z62, z63, z64, z65, z66, z67, z68, z69, z70, z71, z72, z73, z74, Value.bool false, v76, v77, v78, v79, v80, v81, v82, v83, v84, v85, v86, v87, v88, v89, v90, v91, v92, v93, v94, v95, v96, v97, v98, v99, v100, v101, v102, v103, v104, v105, v106, v107, v108, v109, v110], []⟩ W') :
  dmR9.wp Tryz.prog (Norm R) ⟨#[v0, v1, v2, v3, v4, v5, Value.pointer (some ⟨wb, 0, none⟩), v7, v8, Value.bool true, v10, v11, v12, v13, v14, v15, v16, v17, v18, v19, v20, v21, v22, v23, v24, v25, v26, v27, v28, v29, v30, v31, v32, v33, v34, v35, v36, v37, v38, v39, v40, v41, v42, v43, v44, v45, v46, v47, v48, v49, v50, v51, v52, v53, v54, v55, v56, v57, v58, v59, v60, v61, v62, v63, v64, v65, v66, v67, v68, v69, v70, v71, v72, v73, v74, v75, v76, v77, v78, v79, v80, v81, v82, v83, v84, v85, v86, v87, v88, v89, v90, v91, v92, v93, v94, v95, v96, v97, v98, v99, v100, v101, v102, v103, v104, v105, v106, v107, v108, v109, v110], []⟩ W := by
 unfold dmR9
 conv => arg 2; whnf
 refine start_ (n := 42) (S := (dm_r9fS wb d r m pc pa)) (ds := []) (Sx14.b 42 0) (by kernel_rfl) rfl rfl (hS0 _ hP0) (fun hHeld => ?_); refine with_tabW dmT.tab9 dmT.bits9 (fun HT_ HW_ => ?_)
 have hP0_ := hP0
 clear hP0
 generalize W.drew = w0_ at hHeld hP0_ ⊢
 refine Sx14.p (i := 0) (N := some 34) HT_.out (Sx14.b 42 1) ?_
 refine Sx14.p (i := 1) (N := some 35) HT_.out (Sx14.b 42 3) ?_
 refine Sx14.p (i := 2) (N := some 36) HT_.out (Sx14.b 42 7) ?_
 refine Sx14.p (i := 3) (N := some 37) HT_.out (Sx14.b 42 15) ?_
 refine Sx14.p (i := 4) (N := some 38) HT_.out (Sx14.b 42 31) ?_
 refine Sx14.p (i := 5) (N := some 39) HT_.out (Sx14.b 42 63) ?_
 refine Sx14.p (i := 8) (N := some 42) HT_.out (Sx14.b 42 319) ?_
 refine Sx14.p (i := 9) (N := some 43) HT_.out (Sx14.b 42 831) ?_
 refine Sx14.p (i := 10) (N := some 44) HT_.out (Sx14.b 42 1855) ?_
 refine take_ (i := 6) (N := some 40) (v := ?_) (a' := ?_) (Sx14.b 42 1919) rfl rfl (take_ofW HT_.out HW_.out (by kernel_rfl)) (fun _ _ _ h => h) (Or.inl ⟨by rfl, ?_⟩) hHeld ?_ ?_
 rotate_left
 ·intro w' hS_
  obtain ⟨q0, q2, s1, s2⟩ := hS_
  go_simp
  with_reducible rfl
 rotate_left
 ·simp only [Act.put, Sx14.u, Sx14.v, Sx14.w, i64_w, i32_w]
  rfl
 refine take_ (i := 11) (N := some 45) (v := ?_) (a' := ?_) (Sx14.b 42 3967) rfl rfl (take_ofW HT_.out HW_.out (by kernel_rfl)) (fun _ _ _ h => h) (Or.inl ⟨by rfl, ?_⟩) hHeld ?_ ?_
 rotate_left
 ·intro w' hS_
  obtain ⟨q0, q2, s1, s2⟩ := hS_
  go_simp
  with_reducible rfl
 rotate_left
 ·simp only [Act.put, Sx14.u, Sx14.v, Sx14.w, i64_w, i32_w]
  rfl
 refine Sx14.p (i := 12) (N := some 46) HT_.out (Sx14.b 42 8063) ?_
 refine Sx14.p (i := 13) (N := some 47) HT_.out (Sx14.b 42 16255) ?_
 refine take_ (i := 14) (N := some 48) (v := ?_) (a' := ?_) (Sx14.b 42 32639) rfl rfl (take_ofW HT_.out HW_.out (by kernel_rfl)) (fun _ _ _ h => h) (Or.inl ⟨by rfl, ?_⟩) hHeld ?_ ?_
 rotate_left
 ·intro w' hS_
  obtain ⟨q0, q2, s1, s2⟩ := hS_
  go_simp
  with_reducible rfl
 rotate_left
 ·simp only [Act.put, Sx14.u, Sx14.v, Sx14.w, i64_w, i32_w]
  rfl
 refine Sx14.p (i := 15) (N := some 49) HT_.out (Sx14.b 42 65407) ?_
 refine one_ (i := 7) (N := some 41) (Sx14.b 42 65535) rfl rfl (one_of HT_.out (by kernel_rfl)) (by decide) (fun K hK => ?_)
 refine goes_ Tryz.func32 (by kernel_rfl) rfl #[.pointer (some ⟨d, 0, none⟩)] (by rfl) rfl rfl (by (try simp only [List.map_toArray, List.map_cons, List.map_nil]); first | done | rfl) ?_
 refine (hc7 _ hP0_).mono ?_
 rintro e wc7_ ⟨rfl, hp7_⟩
 refine ⟨_, rfl, ?_⟩
 refine hK.out _ _ (hS7 _ hp7_) (fun hHeld => ?_)
 clear hK K
 refine norm_ (a' := ?_) ?_ ?_
 rotate_left
 ·show Act.put _ (some 41) _ = _
  simp only [Act.put, Sx14.u, Sx14.v, Sx14.w, i64_w, i32_w]
  rfl
 refine Sx14.p (i := 16) (N := some 50) HT_.out (Sx14.b 42 131071) ?_
 refine Sx14.p (i := 17) (N := some 51) HT_.out (Sx14.b 42 262143) ?_
 refine Sx14.p (i := 18) (N := some 52) HT_.out (Sx14.b 42 524287) ?_
 refine Sx14.p (i := 19) (N := some 53) HT_.out (Sx14.b 42 1048575) ?_
 refine Sx14.p (i := 20) (N := some 54) HT_.out (Sx14.b 42 2097151) ?_
 refine Sx14.p (i := 21) (N := some 55) HT_.out (Sx14.b 42 4194303) ?_
 refine take_ (i := 22) (N := some 56) (v := ?_) (a' := ?_) (Sx14.b 42 8388607) rfl rfl (take_ofW HT_.out HW_.out (by kernel_rfl)) (fun _ _ _ h => h) (Or.inl ⟨by rfl, ?_⟩) hHeld ?_ ?_
 rotate_left
 ·intro w' hS_
  obtain ⟨q0, q2, s1, s2⟩ := hS_
  go_simp
  with_reducible rfl
 rotate_left
 ·simp only [Act.put, Sx14.u, Sx14.v, Sx14.w, i64_w, i32_w]
  rfl
 refine Sx14.p (i := 23) (N := some 57) HT_.out (Sx14.b 42 16777215) ?_
 refine Sx14.p (i := 24) (N := some 58) HT_.out (Sx14.b 42 33554431) ?_
 refine take_ (i := 25) (N := some 59) (v := ?_) (a' := ?_) (Sx14.b 42 67108863) rfl rfl (take_ofW HT_.out HW_.out (by kernel_rfl)) (fun _ _ _ h => h) (Or.inl ⟨by rfl, ?_⟩) hHeld ?_ ?_
 rotate_left
 ·intro w' hS_
  obtain ⟨q0, q2, s1, s2⟩ := hS_
  go_simp
  with_reducible rfl
 rotate_left
 ·simp only [Act.put, Sx14.u, Sx14.v, Sx14.w, i64_w, i32_w]
  rfl
 refine Sx14.p (i := 26) (N := some 60) HT_.out (Sx14.b 42 134217727) ?_
 refine Sx14.p (i := 27) (N := some 61) HT_.out (Sx14.b 42 268435455) ?_
 refine Sx14.p (i := 28) (N := some 62) HT_.out (Sx14.b 42 536870911) ?_
 refine Sx14.p (i := 29) (N := some 63) HT_.out (Sx14.b 42 1073741823) ?_
 refine Sx14.p (i := 30) (N := some 64) HT_.out (Sx14.b 42 2147483647) ?_
 refine Sx14.p (i := 33) (N := some 67) HT_.out (Sx14.b 42 10737418239) ?_
 refine Sx14.p (i := 34) (N := some 68) HT_.out (Sx14.b 42 27917287423) ?_
 refine Sx14.p (i := 35) (N := some 69) HT_.out (Sx14.b 42 62277025791) ?_
 refine take_ (i := 31) (N := some 65) (v := ?_) (a' := ?_) (Sx14.b 42 64424509439) rfl rfl (take_ofW HT_.out HW_.out (by kernel_rfl)) (fun _ _ _ h => h) (Or.inl ⟨by rfl, ?_⟩) hHeld ?_ ?_
 rotate_left
 ·intro w' hS_
  obtain ⟨q0, q2, s1, s2⟩ := hS_
  go_simp
  with_reducible rfl
 rotate_left
 ·simp only [Act.put, Sx14.u, Sx14.v, Sx14.w, i64_w, i32_w]
  rfl
 refine take_ (i := 36) (N := some 70) (v := ?_) (a' := ?_) (Sx14.b 42 133143986175) rfl rfl (take_ofW HT_.out HW_.out (by kernel_rfl)) (fun _ _ _ h => h) (Or.inl ⟨by rfl, ?_⟩) hHeld ?_ ?_
 rotate_left
 ·intro w' hS_
  obtain ⟨q0, q2, s1, s2⟩ := hS_
  go_simp
  with_reducible rfl
 rotate_left
 ·simp only [Act.put, Sx14.u, Sx14.v, Sx14.w, i64_w, i32_w]
  rfl
 refine one_ (i := 32) (N := some 66) (Sx14.b 42 137438953471) rfl rfl (one_of HT_.out (by kernel_rfl)) (by decide) (fun K hK => ?_)
 refine goes_ Tryz.func22 (by kernel_rfl) rfl #[.pointer (some ⟨d, 0, none⟩)] (by rfl) rfl rfl (by (try simp only [List.map_toArray, List.map_cons, List.map_nil]); first | done | rfl) ?_
 refine (hc32 _ hp7_).mono ?_
 rintro e wc32_ ⟨rfl, hp32_⟩
 refine ⟨_, rfl, ?_⟩
 refine hK.out _ _ (hS32 _ hp32_) (fun hHeld => ?_)
 clear hK K
 refine norm_ (a' := ?_) ?_ ?_
 rotate_left
 ·show Act.put _ (some 66) _ = _
  simp only [Act.put, Sx14.u, Sx14.v, Sx14.w, i64_w, i32_w]
  rfl
 refine one_ (i := 37) (N := some 71) (Sx14.b 42 274877906943) rfl rfl (one_of HT_.out (by kernel_rfl)) (by decide) (fun K hK => ?_)
 refine goes_ Tryz.func23 (by kernel_rfl) rfl #[.pointer (some ⟨r, 0, none⟩)] (by rfl) rfl rfl (by (try simp only [List.map_toArray, List.map_cons, List.map_nil]); first | done | rfl) ?_
 refine (hc37 _ hp32_).mono ?_
 rintro e wc37_ ⟨u1, rfl, hp37_⟩
 refine ⟨_, rfl, ?_⟩
 refine hK.out _ _ (hS37 _ u1 hp37_) (fun hHeld => ?_)
 clear hK K
 refine norm_ (a' := ?_) ?_ ?_
 rotate_left
 ·show Act.put _ (some 71) _ = _
  simp only [Act.put, Sx14.u, Sx14.v, Sx14.w, i64_w, i32_w]
  rfl
 refine one_ (i := 38) (N := some 72) (Sx14.b 42 549755813887) rfl rfl (one_of HT_.out (by kernel_rfl)) (by decide) (fun K hK => ?_)
 have hcv_ := hcv.out _ _ hp37_
 go_simp
 refine hK.out _ _ hHeld (fun hHeld => ?_)
 clear hK K
 refine Sx14.p (i := 39) (N := some 73) HT_.out (Sx14.b 42 1099511627775) ?_
 refine Sx14.p (i := 40) (N := some 74) HT_.out (Sx14.b 42 2199023255551) ?_
 refine Sx14.p (i := 41) (N := some 75) HT_.out (Sx14.b 42 4398046511103) ?_
 refine done_ (done_of HT_.out (by kernel_rfl)) ?_
 exact hQ _ _ _ _ _ _ _ _ _ _ _ _ _ _ _ _ _ _ _ _ _ _ _ _ _ _ _ _ _ _ _ _ _ _ _ _ _ _ _ _ _ _ u1 hp37_
def dm_r11nS (wb : Nat) (V_ : World) : Prop := V_.cell? ⟨wb, 1, none⟩ = some (.pointer none)
def dmT.T11 : Bool × List (List Nat × List Nat) := (true, [([], []), ([0], [0]), ([1], [1]), ([2], [2]), ([3], [3]), ([4], [4]), ([5], [5]), ([6, 5], [5, 6]), ([7, 5], [5, 7]), ([8, 5], [5, 8]), ([9, 5, 5], [5, 9]), ([5], [5]), ([11, 5], [5, 11]), ([12, 5], [5, 12]), ([13, 5], [5, 13]), ([14, 5], [5, 14]), ([15, 5], [5, 15]), ([16, 5], [5, 16]), ([10, 17, 10, 5], [5, 10, 17]), ([18, 5], [5, 18]), ([19, 18, 5], [5, 19]), ([20], [20]), ([21, 20], [20, 21]), ([22, 20], [20, 22]), ([23, 20], [20, 23]), ([24, 20, 20], [20, 24]), ([20], [20]), ([26, 20], [20, 26]), ([27, 20], [20, 27]), ([28, 20], [20, 28]), ([29, 25, 20], [20, 29]), ([25, 30, 20], [20, 25, 30]), ([20, 31, 5], [5, 20, 31]), ([5, 32], [5, 32])])
def dmT.B11 : List Nat := [0, 1, 3, 7, 15, 31, 63, 127, 255, 511, 1023, 63, 2111, 6207, 14399, 30783, 63551, 129087, 262143, 524287, 1048575, 2097151, 4194303, 8388607, 16777215, 33554431, 2097151, 69206015, 203423743, 471859199, 1073741823, 2147483647, 4294967295, 8589934591]
theorem dmT.tab11 : rtab .any (opsOf Tryz.f7 11) = dmT.T11 := by kernel_rfl
theorem dmT.bits11 : waitsOk dmT.T11.2 dmT.B11 = true := by kernel_rfl
noncomputable def dmR11 : Code := ((Tryz.f7.body.bind (regionOf 11)).getD .skip)
set_option maxHeartbeats 8000000 in
set_option maxRecDepth 100000 in
theorem dm_r11n (R : Act → World → Prop) (W : World) (v0 v1 v2 v3 v4 v5 v7 v8 v9 v10 v11 v12 v13 v14 v15 v16 v17 v18 v19 v20 v21 v22 v23 v24 v25 v26 v27 v28 v29 v30 v31 v32 v33 v34 v35 v36 v37 v38 v39 v40 v41 v42 v43 v44 v45 v46 v47 v48 v49 v50 v51 v52 v53 v54 v55 v56 v57 v58 v59 v60 v61 v62 v63 v64 v65 v66 v67 v68 v69 v70 v71 v72 v73 v74 v75 v76 v77 v78 v79 v80 v81 v82 v83 v84 v85 v86 v87 v88 v89 v90 v91 v92 v93 v94 v95 v96 v97 v98 v99 v100 v101 v102 v103 v104 v105 v106 v107 v108 v109 v110 : Value) (wb : Nat) (P0 : World → Prop)
  
  (hP0 : P0 W.drew)
  (hS0 : ∀ V, P0 V → dm_r11nS wb V)
  (hQ : ∀ (z76 z77 z78 z79 z80 z81 z82 z83 z84 z85 z86 z87 z88 z89 z90 z91 z92 z93 z94 z95 z96 z97 z98 z99 z100 z101 z102 z103 z104 z105 z106 z107 z108 : Value) (W' : World), P0 W' → R ⟨#[v0, v1, v2, v3, v4, v5, Value.pointer (some ⟨wb, 0, none⟩), v7, v8, v9, v10, v11, v12, v13, v14, v15, v16, v17, v18, v19, v20, v21, v22, v23, v24, v25, v26, v27, v28, v29, v30, v31, v32, v33, v34, v35, v36, v37, v38, v39, v40, v41, v42, v43, v44, v45, v46, v47, v48, v49, v50, v51, v52, v53, v54, v55, v56, v57, v58, v59, v60, v61, v62, v63, v64, v65, v66, v67, v68, v69, v70, v71, v72, v73, v74, v75, z76, z77, z78, z79, z80, z81, z82, z83, z84, z85, z86, z87, z88, z89, z90, z91, z92, z93, z94, z95, z96, z97, z98, z99, z100, z101, z102, z103, z104, z105, z106, z107, z108, Value.bool false, v110], []⟩ W') :
  dmR11.wp Tryz.prog (Norm R) ⟨#[v0, v1, v2, v3, v4, v5, Value.pointer (some ⟨wb, 0, none⟩), v7, v8, v9, v10, v11, v12, v13, v14, v15, v16, v17, v18, v19, v20, v21, v22, v23, v24, v25, v26, v27, v28, v29, v30, v31, v32, v33, v34, v35, v36, v37, v38, v39, v40, v41, v42, v43, v44, v45, v46, v47, v48, v49, v50, v51, v52, v53, v54, v55, v56, v57, v58, v59, v60, v61, v62, v63, v64, v65, v66, v67, v68, v69, v70, v71, v72, v73, v74, v75, v76, v77, v78, v79, v80, v81, v82, v83, v84, v85, v86, v87, v88, v89, v90, v91, v92, v93, v94, v95, v96, v97, v98, v99, v100, v101, v102, v103, v104, v105, v106, v107, v108, v109, v110], []⟩ W := by
 unfold dmR11
 conv => arg 2; whnf
 refine start_ (n := 34) (S := (dm_r11nS wb)) (ds := []) (Sx14.b 34 0) (by kernel_rfl) rfl rfl (hS0 _ hP0) (fun hHeld => ?_); refine with_tabW dmT.tab11 dmT.bits11 (fun HT_ HW_ => ?_)
 have hP0_ := hP0
 clear hP0
 generalize W.drew = w0_ at hHeld hP0_ ⊢
 refine Sx14.p (i := 0) (N := some 76) HT_.out (Sx14.b 34 1) ?_
 refine Sx14.p (i := 1) (N := some 77) HT_.out (Sx14.b 34 3) ?_
 refine Sx14.p (i := 2) (N := some 78) HT_.out (Sx14.b 34 7) ?_
 refine take_ (i := 3) (N := some 79) (v := ?_) (a' := ?_) (Sx14.b 34 15) rfl rfl (take_ofW HT_.out HW_.out (by kernel_rfl)) (fun _ _ _ h => h) (Or.inl ⟨by rfl, ?_⟩) hHeld ?_ ?_
 rotate_left
 ·intro w' hS_
  have q1 : w'.cell? ⟨wb, 1, none⟩ = some (.pointer none) := hS_
  go_simp
  with_reducible rfl
 rotate_left
 ·simp only [Act.put, Sx14.u, Sx14.v, Sx14.w, i64_w, i32_w]
  rfl
 refine Sx14.p (i := 4) (N := some 80) HT_.out (Sx14.b 34 31) ?_
 refine Sx14.p (i := 5) (N := some 81) HT_.out (Sx14.b 34 63) ?_
 refine pure_ (i := 6) (N := some 82) (v := undef) (a' := ?_) (Sx14.b 34 127) rfl rfl (any_of HT_.out (by kernel_rfl)) (fun _ _ _ h => h) (Or.inr ⟨by rfl, rfl⟩) ?_ ?_
 rotate_left
 ·simp only [Act.put, Sx14.u, Sx14.v, Sx14.w, i64_w, i32_w]
  rfl
 refine pure_ (i := 7) (N := some 83) (v := undef) (a' := ?_) (Sx14.b 34 255) rfl rfl (any_of HT_.out (by kernel_rfl)) (fun _ _ _ h => h) (Or.inr ⟨by rfl, rfl⟩) ?_ ?_
 rotate_left
 ·simp only [Act.put, Sx14.u, Sx14.v, Sx14.w, i64_w, i32_w]
  rfl
 refine pure_ (i := 8) (N := some 84) (v := undef) (a' := ?_) (Sx14.b 34 511) rfl rfl (any_of HT_.out (by kernel_rfl)) (fun _ _ _ h => h) (Or.inr ⟨by rfl, rfl⟩) ?_ ?_
 rotate_left
 ·simp only [Act.put, Sx14.u, Sx14.v, Sx14.w, i64_w, i32_w]
  rfl
 refine pure_ (i := 9) (N := some 85) (v := undef) (a' := ?_) (Sx14.b 34 1023) rfl rfl (any_of HT_.out (by kernel_rfl)) (fun _ _ _ h => h) (Or.inr ⟨by rfl, rfl⟩) ?_ ?_
 rotate_left
 ·simp only [Act.put, Sx14.u, Sx14.v, Sx14.w, i64_w, i32_w]
  rfl
 refine pure_ (i := 10) (N := some 86) (v := undef) (a' := ?_) (Sx14.b 34 2047) rfl rfl (any_of HT_.out (by kernel_rfl)) (fun _ _ _ h => h) (Or.inr ⟨by rfl, rfl⟩) ?_ ?_
 rotate_left
 ·simp only [Act.put, Sx14.u, Sx14.v, Sx14.w, i64_w, i32_w]
  rfl
 refine pure_ (i := 11) (N := some 87) (v := undef) (a' := ?_) (Sx14.b 34 4095) rfl rfl (any_of HT_.out (by kernel_rfl)) (fun _ _ _ h => h) (Or.inr ⟨by rfl, rfl⟩) ?_ ?_
 rotate_left
 ·simp only [Act.put, Sx14.u, Sx14.v, Sx14.w, i64_w, i32_w]
  rfl
 refine pure_ (i := 12) (N := some 88) (v := undef) (a' := ?_) (Sx14.b 34 8191) rfl rfl (any_of HT_.out (by kernel_rfl)) (fun _ _ _ h => h) (Or.inr ⟨by rfl, rfl⟩) ?_ ?_
 rotate_left
 ·simp only [Act.put, Sx14.u, Sx14.v, Sx14.w, i64_w, i32_w]
  rfl
 refine pure_ (i := 13) (N := some 89) (v := undef) (a' := ?_) (Sx14.b 34 16383) rfl rfl (any_of HT_.out (by kernel_rfl)) (fun _ _ _ h => h) (Or.inr ⟨by rfl, rfl⟩) ?_ ?_
 rotate_left
 ·simp only [Act.put, Sx14.u, Sx14.v, Sx14.w, i64_w, i32_w]
  rfl
 refine pure_ (i := 14) (N := some 90) (v := undef) (a' := ?_) (Sx14.b 34 32767) rfl rfl (any_of HT_.out (by kernel_rfl)) (fun _ _ _ h => h) (Or.inr ⟨by rfl, rfl⟩) ?_ ?_
 rotate_left
 ·simp only [Act.put, Sx14.u, Sx14.v, Sx14.w, i64_w, i32_w]
  rfl
 refine pure_ (i := 15) (N := some 91) (v := undef) (a' := ?_) (Sx14.b 34 65535) rfl rfl (any_of HT_.out (by kernel_rfl)) (fun _ _ _ h => h) (Or.inr ⟨by rfl, rfl⟩) ?_ ?_
 rotate_left
 ·simp only [Act.put, Sx14.u, Sx14.v, Sx14.w, i64_w, i32_w]
  rfl
 refine pure_ (i := 16) (N := some 92) (v := undef) (a' := ?_) (Sx14.b 34 131071) rfl rfl (any_of HT_.out (by kernel_rfl)) (fun _ _ _ h => h) (Or.inr ⟨by rfl, rfl⟩) ?_ ?_
 rotate_left
 ·simp only [Act.put, Sx14.u, Sx14.v, Sx14.w, i64_w, i32_w]
  rfl
 refine pure_ (i := 17) (N := some 93) (v := undef) (a' := ?_) (Sx14.b 34 262143) rfl rfl (any_of HT_.out (by kernel_rfl)) (fun _ _ _ h => h) (Or.inr ⟨by rfl, rfl⟩) ?_ ?_
 rotate_left
 ·simp only [Act.put, Sx14.u, Sx14.v, Sx14.w, i64_w, i32_w]
  rfl
 refine pure_ (i := 18) (N := some 94) (v := undef) (a' := ?_) (Sx14.b 34 524287) rfl rfl (any_of HT_.out (by kernel_rfl)) (fun _ _ _ h => h) (Or.inr ⟨by rfl, rfl⟩) ?_ ?_
 rotate_left
 ·simp only [Act.put, Sx14.u, Sx14.v, Sx14.w, i64_w, i32_w]
  rfl
 refine pure_ (i := 19) (N := some 95) (v := undef) (a' := ?_) (Sx14.b 34 1048575) rfl rfl (any_of HT_.out (by kernel_rfl)) (fun _ _ _ h => h) (Or.inr ⟨by rfl, rfl⟩) ?_ ?_
 rotate_left
 ·simp only [Act.put, Sx14.u, Sx14.v, Sx14.w, i64_w, i32_w]
  rfl
 refine pure_ (i := 20) (N := some 96) (v := undef) (a' := ?_) (Sx14.b 34 2097151) rfl rfl (any_of HT_.out (by kernel_rfl)) (fun _ _ _ h => h) (Or.inr ⟨by rfl, rfl⟩) ?_ ?_
 rotate_left
 ·simp only [Act.put, Sx14.u, Sx14.v, Sx14.w, i64_w, i32_w]
  rfl
 refine pure_ (i := 21) (N := some 97) (v := undef) (a' := ?_) (Sx14.b 34 4194303) rfl rfl (any_of HT_.out (by kernel_rfl)) (fun _ _ _ h => h) (Or.inr ⟨by rfl, rfl⟩) ?_ ?_
 rotate_left
 ·simp only [Act.put, Sx14.u, Sx14.v, Sx14.w, i64_w, i32_w]
  rfl
 refine pure_ (i := 22) (N := some 98) (v := undef) (a' := ?_) (Sx14.b 34 8388607) rfl rfl (any_of HT_.out (by kernel_rfl)) (fun _ _ _ h => h) (Or.inr ⟨by rfl, rfl⟩) ?_ ?_
 rotate_left
 ·simp only [Act.put, Sx14.u, Sx14.v, Sx14.w, i64_w, i32_w]
  rfl
 refine pure_ (i := 23) (N := some 99) (v := undef) (a' := ?_) (Sx14.b 34 16777215) rfl rfl (any_of HT_.out (by kernel_rfl)) (fun _ _ _ h => h) (Or.inr ⟨by rfl, rfl⟩) ?_ ?_
 rotate_left
 ·simp only [Act.put, Sx14.u, Sx14.v, Sx14.w, i64_w, i32_w]
  rfl
 refine pure_ (i := 24) (N := some 100) (v := undef) (a' := ?_) (Sx14.b 34 33554431) rfl rfl (any_of HT_.out (by kernel_rfl)) (fun _ _ _ h => h) (Or.inr ⟨by rfl, rfl⟩) ?_ ?_
 rotate_left
 ·simp only [Act.put, Sx14.u, Sx14.v, Sx14.w, i64_w, i32_w]
  rfl
 refine pure_ (i := 25) (N := some 101) (v := undef) (a' := ?_) (Sx14.b 34 67108863) rfl rfl (any_of HT_.out (by kernel_rfl)) (fun _ _ _ h => h) (Or.inr ⟨by rfl, rfl⟩) ?_ ?_
 rotate_left
 ·simp only [Act.put, Sx14.u, Sx14.v, Sx14.w, i64_w, i32_w]
  rfl
 refine pure_ (i := 26) (N := some 102) (v := undef) (a' := ?_) (Sx14.b 34 134217727) rfl rfl (any_of HT_.out (by kernel_rfl)) (fun _ _ _ h => h) (Or.inr ⟨by rfl, rfl⟩) ?_ ?_
 rotate_left
 ·simp only [Act.put, Sx14.u, Sx14.v, Sx14.w, i64_w, i32_w]
  rfl
 refine pure_ (i := 27) (N := some 103) (v := undef) (a' := ?_) (Sx14.b 34 268435455) rfl rfl (any_of HT_.out (by kernel_rfl)) (fun _ _ _ h => h) (Or.inr ⟨by rfl, rfl⟩) ?_ ?_
 rotate_left
 ·simp only [Act.put, Sx14.u, Sx14.v, Sx14.w, i64_w, i32_w]
  rfl
 refine pure_ (i := 28) (N := some 104) (v := undef) (a' := ?_) (Sx14.b 34 536870911) rfl rfl (any_of HT_.out (by kernel_rfl)) (fun _ _ _ h => h) (Or.inr ⟨by rfl, rfl⟩) ?_ ?_
 rotate_left
 ·simp only [Act.put, Sx14.u, Sx14.v, Sx14.w, i64_w, i32_w]
  rfl
 refine pure_ (i := 29) (N := some 105) (v := undef) (a' := ?_) (Sx14.b 34 1073741823) rfl rfl (any_of HT_.out (by kernel_rfl)) (fun _ _ _ h => h) (Or.inr ⟨by rfl, rfl⟩) ?_ ?_
 rotate_left
 ·simp only [Act.put, Sx14.u, Sx14.v, Sx14.w, i64_w, i32_w]
  rfl
 refine pure_ (i := 30) (N := some 106) (v := undef) (a' := ?_) (Sx14.b 34 2147483647) rfl rfl (any_of HT_.out (by kernel_rfl)) (fun _ _ _ h => h) (Or.inr ⟨by rfl, rfl⟩) ?_ ?_
 rotate_left
 ·simp only [Act.put, Sx14.u, Sx14.v, Sx14.w, i64_w, i32_w]
  rfl
 refine pure_ (i := 31) (N := some 107) (v := undef) (a' := ?_) (Sx14.b 34 4294967295) rfl rfl (any_of HT_.out (by kernel_rfl)) (fun _ _ _ h => h) (Or.inr ⟨by rfl, rfl⟩) ?_ ?_
 rotate_left
 ·simp only [Act.put, Sx14.u, Sx14.v, Sx14.w, i64_w, i32_w]
  rfl
 refine pure_ (i := 32) (N := some 108) (v := undef) (a' := ?_) (Sx14.b 34 8589934591) rfl rfl (any_of HT_.out (by kernel_rfl)) (fun _ _ _ h => h) (Or.inr ⟨by rfl, rfl⟩) ?_ ?_
 rotate_left
 ·simp only [Act.put, Sx14.u, Sx14.v, Sx14.w, i64_w, i32_w]
  rfl
 refine Sx14.p (i := 33) (N := some 109) HT_.out (Sx14.b 34 17179869183) ?_
 refine done_ (done_of HT_.out (by kernel_rfl)) ?_
 exact hQ _ _ _ _ _ _ _ _ _ _ _ _ _ _ _ _ _ _ _ _ _ _ _ _ _ _ _ _ _ _ _ _ _ _ hP0_
def dm_r11S (wb : Nat) (j : Nat) (q : Nat) (lv : Value) (V_ : World) : Prop := V_.cell? ⟨wb, 1, none⟩ = some (.pointer (some ⟨j, 0, none⟩)) ∧ V_.cell? ⟨wb, 3, none⟩ = some (.pointer (some ⟨q, 0, none⟩)) ∧ V_.cell? ⟨q, 1, none⟩ = some (lv)
set_option maxHeartbeats 8000000 in
set_option maxRecDepth 100000 in
theorem dm_r11 (R : Act → World → Prop) (W : World) (v0 v1 v2 v3 v4 v5 v7 v8 v9 v10 v11 v12 v13 v14 v15 v16 v17 v18 v19 v20 v21 v22 v23 v24 v25 v26 v27 v28 v29 v30 v31 v32 v33 v34 v35 v36 v37 v38 v39 v40 v41 v42 v43 v44 v45 v46 v47 v48 v49 v50 v51 v52 v53 v54 v55 v56 v57 v58 v59 v60 v61 v62 v63 v64 v65 v66 v67 v68 v69 v70 v71 v72 v73 v74 v75 v76 v77 v78 v79 v80 v81 v82 v83 v84 v85 v86 v87 v88 v89 v90 v91 v92 v93 v94 v95 v96 v97 v98 v99 v100 v101 v102 v103 v104 v105 v106 v107 v108 v109 v110 : Value) (wb j q : Nat) (lv : Value) (x : Int) (P0 : World → Prop) (P10 : Value → World → Prop) (P18 : World → Prop) (P25 : World → Prop) (P30 : World → Prop)
  (hxx : (x != x) = false)
  (hP0 : P0 W.drew)
  (hS0 : ∀ V, P0 V → dm_r11S wb j q lv V)
  (hc10 : ∀ V, P0 V → Calls Tryz.prog 19 #[.pointer (some ⟨j, 0, none⟩)] V fun e w' => ∃ u1, e = .returned u1 ∧ P10 u1 w')
  (hS10 : ∀ V u1, P10 u1 V → dm_r11S wb j q lv V)
  (hc18 : ∀ V u1, P10 u1 V → Calls Tryz.prog 18 #[u1, lv] V fun e w' => e = .returned (.bool true) ∧ P18 w')
  (hS18 : ∀ V, P18 V → dm_r11S wb j q lv V)
  (hc25 : ∀ V, P18 V → Calls Tryz.prog 20 #[.pointer (some ⟨j, 0, none⟩)] V fun e w' => e = .returned (.int .i64 x) ∧ P25 w')
  (hS25 : ∀ V, P25 V → dm_r11S wb j q lv V)
  (hc30 : ∀ V, P25 V → Calls Tryz.prog 21 #[.pointer (some ⟨q, 0, none⟩)] V fun e w' => e = .returned (.int .i64 x) ∧ P30 w')
  (hS30 : ∀ V, P30 V → dm_r11S wb j q lv V)
  (hQ : ∀ (z76 z77 z78 z79 z80 z81 z82 z83 z84 z85 z86 z87 z88 z89 z90 z91 z92 z93 z94 z95 z96 z97 z98 z99 z100 z101 z102 z103 z104 z105 z106 z107 z108 : Value) (W' : World), P30 W' → R ⟨#[v0, v1, v2, v3, v4, v5, Value.pointer (some ⟨wb, 0, none⟩), v7, v8, v9, v10, v11, v12, v13, v14, v15, v16, v17, v18, v19, v20, v21, v22, v23, v24, v25, v26, v27, v28, v29, v30, v31, v32, v33, v34, v35, v36, v37, v38, v39, v40, v41, v42, v43, v44, v45, v46, v47, v48, v49, v50, v51, v52, v53, v54, v55, v56, v57, v58, v59, v60, v61, v62, v63, v64, v65, v66, v67, v68, v69, v70, v71, v72, v73, v74, v75, z76, z77, z78, z79, z80, z81, z82, z83, z84, z85, z86, z87, z88, z89, z90, z91, z92, z93, z94, z95, z96, z97, z98, z99, z100, z101, z102, z103, z104, z105, z106, z107, z108, Value.bool false, v110], []⟩ W') :
  dmR11.wp Tryz.prog (Norm R) ⟨#[v0, v1, v2, v3, v4, v5, Value.pointer (some ⟨wb, 0, none⟩), v7, v8, v9, v10, v11, v12, v13, v14, v15, v16, v17, v18, v19, v20, v21, v22, v23, v24, v25, v26, v27, v28, v29, v30, v31, v32, v33, v34, v35, v36, v37, v38, v39, v40, v41, v42, v43, v44, v45, v46, v47, v48, v49, v50, v51, v52, v53, v54, v55, v56, v57, v58, v59, v60, v61, v62, v63, v64, v65, v66, v67, v68, v69, v70, v71, v72, v73, v74, v75, v76, v77, v78, v79, v80, v81, v82, v83, v84, v85, v86, v87, v88, v89, v90, v91, v92, v93, v94, v95, v96, v97, v98, v99, v100, v101, v102, v103, v104, v105, v106, v107, v108, v109, v110], []⟩ W := by
 unfold dmR11
 conv => arg 2; whnf
 refine start_ (n := 34) (S := (dm_r11S wb j q lv)) (ds := []) (Sx14.b 34 0) (by kernel_rfl) rfl rfl (hS0 _ hP0) (fun hHeld => ?_); refine with_tabW dmT.tab11 dmT.bits11 (fun HT_ HW_ => ?_)
 have hP0_ := hP0
 clear hP0
 generalize W.drew = w0_ at hHeld hP0_ ⊢
 refine Sx14.p (i := 0) (N := some 76) HT_.out (Sx14.b 34 1) ?_
 refine Sx14.p (i := 1) (N := some 77) HT_.out (Sx14.b 34 3) ?_
 refine Sx14.p (i := 2) (N := some 78) HT_.out (Sx14.b 34 7) ?_
 refine take_ (i := 3) (N := some 79) (v := ?_) (a' := ?_) (Sx14.b 34 15) rfl rfl (take_ofW HT_.out HW_.out (by kernel_rfl)) (fun _ _ _ h => h) (Or.inl ⟨by rfl, ?_⟩) hHeld ?_ ?_
 rotate_left
 ·intro w' hS_
  obtain ⟨q1, q3, s1⟩ := hS_
  go_simp
  with_reducible rfl
 rotate_left
 ·simp only [Act.put, Sx14.u, Sx14.v, Sx14.w, i64_w, i32_w]
  rfl
 refine Sx14.p (i := 4) (N := some 80) HT_.out (Sx14.b 34 31) ?_
 refine Sx14.p (i := 5) (N := some 81) HT_.out (Sx14.b 34 63) ?_
 refine Sx14.p (i := 6) (N := some 82) HT_.out (Sx14.b 34 127) ?_
 refine Sx14.p (i := 7) (N := some 83) HT_.out (Sx14.b 34 255) ?_
 refine Sx14.p (i := 8) (N := some 84) HT_.out (Sx14.b 34 511) ?_
 refine Sx14.p (i := 11) (N := some 87) HT_.out (Sx14.b 34 2559) ?_
 refine Sx14.p (i := 12) (N := some 88) HT_.out (Sx14.b 34 6655) ?_
 refine Sx14.p (i := 13) (N := some 89) HT_.out (Sx14.b 34 14847) ?_
 refine take_ (i := 9) (N := some 85) (v := ?_) (a' := ?_) (Sx14.b 34 15359) rfl rfl (take_ofW HT_.out HW_.out (by kernel_rfl)) (fun _ _ _ h => h) (Or.inl ⟨by rfl, ?_⟩) hHeld ?_ ?_
 rotate_left
 ·intro w' hS_
  obtain ⟨q1, q3, s1⟩ := hS_
  go_simp
  with_reducible rfl
 rotate_left
 ·simp only [Act.put, Sx14.u, Sx14.v, Sx14.w, i64_w, i32_w]
  rfl
 refine take_ (i := 14) (N := some 90) (v := ?_) (a' := ?_) (Sx14.b 34 31743) rfl rfl (take_ofW HT_.out HW_.out (by kernel_rfl)) (fun _ _ _ h => h) (Or.inl ⟨by rfl, ?_⟩) hHeld ?_ ?_
 rotate_left
 ·intro w' hS_
  obtain ⟨q1, q3, s1⟩ := hS_
  go_simp
  with_reducible rfl
 rotate_left
 ·simp only [Act.put, Sx14.u, Sx14.v, Sx14.w, i64_w, i32_w]
  rfl
 refine Sx14.p (i := 15) (N := some 91) HT_.out (Sx14.b 34 64511) ?_
 refine Sx14.p (i := 16) (N := some 92) HT_.out (Sx14.b 34 130047) ?_
 refine take_ (i := 17) (N := some 93) (v := ?_) (a' := ?_) (Sx14.b 34 261119) rfl rfl (take_ofW HT_.out HW_.out (by kernel_rfl)) (fun _ _ _ h => h) (Or.inl ⟨by rfl, ?_⟩) hHeld ?_ ?_
 rotate_left
 ·intro w' hS_
  obtain ⟨q1, q3, s1⟩ := hS_
  go_simp
  with_reducible rfl
 rotate_left
 ·simp only [Act.put, Sx14.u, Sx14.v, Sx14.w, i64_w, i32_w]
  rfl
 refine one_ (i := 10) (N := some 86) (Sx14.b 34 262143) rfl rfl (one_of HT_.out (by kernel_rfl)) (by decide) (fun K hK => ?_)
 refine goes_ Tryz.func19 (by kernel_rfl) rfl #[.pointer (some ⟨j, 0, none⟩)] (by rfl) rfl rfl (by (try simp only [List.map_toArray, List.map_cons, List.map_nil]); first | done | rfl) ?_
 refine (hc10 _ hP0_).mono ?_
 rintro e wc10_ ⟨u1, rfl, hp10_⟩
 refine ⟨_, rfl, ?_⟩
 refine hK.out _ _ (hS10 _ u1 hp10_) (fun hHeld => ?_)
 clear hK K
 refine norm_ (a' := ?_) ?_ ?_
 rotate_left
 ·show Act.put _ (some 86) _ = _
  simp only [Act.put, Sx14.u, Sx14.v, Sx14.w, i64_w, i32_w]
  rfl
 refine one_ (i := 18) (N := some 94) (Sx14.b 34 524287) rfl rfl (one_of HT_.out (by kernel_rfl)) (by decide) (fun K hK => ?_)
 refine goes_ Tryz.func18 (by kernel_rfl) rfl #[u1, lv] (by rfl) rfl rfl (by (try simp only [List.map_toArray, List.map_cons, List.map_nil]); first | done | rfl) ?_
 refine (hc18 _ u1 hp10_).mono ?_
 rintro e wc18_ ⟨rfl, hp18_⟩
 refine ⟨_, rfl, ?_⟩
 refine hK.out _ _ (hS18 _ hp18_) (fun hHeld => ?_)
 clear hK K
 refine norm_ (a' := ?_) ?_ ?_
 rotate_left
 ·show Act.put _ (some 94) _ = _
  simp only [Act.put, Sx14.u, Sx14.v, Sx14.w, i64_w, i32_w]
  rfl
 refine Sx14.p (i := 19) (N := some 95) HT_.out (Sx14.b 34 1048575) ?_
 refine Sx14.p (i := 20) (N := some 96) HT_.out (Sx14.b 34 2097151) ?_
 refine Sx14.p (i := 21) (N := some 97) HT_.out (Sx14.b 34 4194303) ?_
 refine Sx14.p (i := 22) (N := some 98) HT_.out (Sx14.b 34 8388607) ?_
 refine Sx14.p (i := 23) (N := some 99) HT_.out (Sx14.b 34 16777215) ?_
 refine Sx14.p (i := 26) (N := some 102) HT_.out (Sx14.b 34 83886079) ?_
 refine Sx14.p (i := 27) (N := some 103) HT_.out (Sx14.b 34 218103807) ?_
 refine Sx14.p (i := 28) (N := some 104) HT_.out (Sx14.b 34 486539263) ?_
 refine take_ (i := 24) (N := some 100) (v := ?_) (a' := ?_) (Sx14.b 34 503316479) rfl rfl (take_ofW HT_.out HW_.out (by kernel_rfl)) (fun _ _ _ h => h) (Or.inl ⟨by rfl, ?_⟩) hHeld ?_ ?_
 rotate_left
 ·intro w' hS_
  obtain ⟨q1, q3, s1⟩ := hS_
  go_simp
  with_reducible rfl
 rotate_left
 ·simp only [Act.put, Sx14.u, Sx14.v, Sx14.w, i64_w, i32_w]
  rfl
 refine take_ (i := 29) (N := some 105) (v := ?_) (a' := ?_) (Sx14.b 34 1040187391) rfl rfl (take_ofW HT_.out HW_.out (by kernel_rfl)) (fun _ _ _ h => h) (Or.inl ⟨by rfl, ?_⟩) hHeld ?_ ?_
 rotate_left
 ·intro w' hS_
  obtain ⟨q1, q3, s1⟩ := hS_
  go_simp
  with_reducible rfl
 rotate_left
 ·simp only [Act.put, Sx14.u, Sx14.v, Sx14.w, i64_w, i32_w]
  rfl
 refine one_ (i := 25) (N := some 101) (Sx14.b 34 1073741823) rfl rfl (one_of HT_.out (by kernel_rfl)) (by decide) (fun K hK => ?_)
 refine goes_ Tryz.func20 (by kernel_rfl) rfl #[.pointer (some ⟨j, 0, none⟩)] (by rfl) rfl rfl (by (try simp only [List.map_toArray, List.map_cons, List.map_nil]); first | done | rfl) ?_
 refine (hc25 _ hp18_).mono ?_
 rintro e wc25_ ⟨rfl, hp25_⟩
 refine ⟨_, rfl, ?_⟩
 refine hK.out _ _ (hS25 _ hp25_) (fun hHeld => ?_)
 clear hK K
 refine norm_ (a' := ?_) ?_ ?_
 rotate_left
 ·show Act.put _ (some 101) _ = _
  simp only [Act.put, Sx14.u, Sx14.v, Sx14.w, i64_w, i32_w]
  rfl
 refine one_ (i := 30) (N := some 106) (Sx14.b 34 2147483647) rfl rfl (one_of HT_.out (by kernel_rfl)) (by decide) (fun K hK => ?_)
 refine goes_ Tryz.func21 (by kernel_rfl) rfl #[.pointer (some ⟨q, 0, none⟩)] (by rfl) rfl rfl (by (try simp only [List.map_toArray, List.map_cons, List.map_nil]); first | done | rfl) ?_
 refine (hc30 _ hp25_).mono ?_
 rintro e wc30_ ⟨rfl, hp30_⟩
 refine ⟨_, rfl, ?_⟩
 refine hK.out _ _ (hS30 _ hp30_) (fun hHeld => ?_)
 clear hK K
 refine norm_ (a' := ?_) ?_ ?_
 rotate_left
 ·show Act.put _ (some 106) _ = _
  simp only [Act.put, Sx14.u, Sx14.v, Sx14.w, i64_w, i32_w]
  rfl
 refine Sx14.p (i := 31) (N := some 107) HT_.out (Sx14.b 34 4294967295) ?_
 refine Sx14.p (i := 32) (N := some 108) HT_.out (Sx14.b 34 8589934591) ?_
 refine Sx14.p (i := 33) (N := some 109) HT_.out (Sx14.b 34 17179869183) ?_
 refine done_ (done_of HT_.out (by kernel_rfl)) ?_
 exact hQ _ _ _ _ _ _ _ _ _ _ _ _ _ _ _ _ _ _ _ _ _ _ _ _ _ _ _ _ _ _ _ _ _ _ hp30_
end Go.Proofs.YtniegajdmbepbaaGreatDoor.Jm
