/- What the law's functions heads and sized answer. Condition: records of at most 65,536 bytes (heads), 100 bytes (sized). JournalDamaged's region that compares two heads. Condition: none. JournalDamaged: the law's function returns true. Condition: none. -/
import Derived.Test.YtniegajdmbepbaaGreatDoorKJournalDamaged24
import Derived.Test.YtniegajdmbepbaaGreatDoorKJournalDamaged22
import Derived.Test.YtniegajdmbepbaaGreatDoorKJournalDamaged20
import Derived.Test.YtniegajdmbepbaaGreatDoorKJournalDamaged0
import Derived.Test.YtniegajdmbepbaaGreatDoorKJournalDamaged19
set_option linter.unusedVariables false
set_option linter.unusedSimpArgs false
namespace Go.Proofs.YtniegajdmbepbaaGreatDoor.Jm
open Go Go.RowKit Go.Proofs.YtniegajdmbepbaaGreatDoorW.PrintWords Go.Proofs.YtniegajdmbepbaaGreatDoorW.PrintMore

section
variable (chain : ByteArray → ByteArray → ByteArray)
def headsG : ByteArray → List ByteArray → List ByteArray
 | _, [] => []
 | h, r :: rs => ((⟨#[2]⟩ : ByteArray) ++ h ++ r) :: headsG (chain h r) rs
theorem headsG_length : ∀ (rs : List ByteArray) (h : ByteArray), (headsG chain h rs).length = rs.length
 | [], _ => rfl
 | r :: rs, h => by show (headsG chain (chain h r) rs).length + 1 = rs.length + 1; rw [headsG_length rs]
theorem headsG_get : ∀ (rs : List ByteArray) (h : ByteArray) (j : Nat) (r : ByteArray), rs[j]? = some r → (headsG chain h rs)[j]? = some ((⟨#[2]⟩ : ByteArray) ++ headOf chain h (rs.take j) ++ r)
 | [], _, j, r, hj => by simp at hj
 | x :: rs, h, 0, r, hj => by simp at hj; subst hj; rfl
 | x :: rs, h, j + 1, r, hj => by
  have := headsG_get rs (chain h x) j r (by simpa using hj)
  exact this
theorem headsG_small (hc : ∀ h r, (chain h r).size = 32) (rs : List ByteArray) (M : Nat) : ∀ h : ByteArray, h.size = 32 → (∀ r ∈ rs, r.size ≤ M) → ∀ s ∈ headsG chain h rs, s.size ≤ 33 + M := by
 induction rs with
 | nil => intro h hh hr s hs; cases hs
 | cons r rs ih =>
  intro h hh hr s hs
  rcases List.mem_cons.1 hs with e | hs
  ·rw [e, ByteArray.size_append, ByteArray.size_append, hh]
   have := hr r List.mem_cons_self
   show 1 + 32 + r.size ≤ _
   omega
  ·exact ih (chain h r) (hc h r) (fun x hx => hr x (List.mem_cons_of_mem _ hx)) s hs
theorem headsG_cons (h r : ByteArray) (rs : List ByteArray) : headsG chain h (r :: rs) = ((⟨#[2]⟩ : ByteArray) ++ h ++ r) :: headsG chain (chain h r) rs := rfl
theorem sized_cons (r : ByteArray) (rs : List ByteArray) (k : Int) : sized (r :: rs) k = (decide (1 ≤ k ∧ k ≤ ((Code.enc (r.size : Int)).length : Int)) || sized rs (k - ((33 + (encS r).length : Nat) : Int))) := rfl
end
theorem chF_head (h r : ByteArray) : chF h r = Sha.sumF ((⟨#[2]⟩ : ByteArray) ++ h ++ r) := by
 rw [ByteArray.append_assoc]
 rfl
theorem ref_chF (h x : ByteArray) (hs : h.size + x.size ≤ 900000) (k : Nat) (hk : h.size + x.size + 2000 ≤ k) : Dm.clearwayref02_Chain.f k h x = some (chF h x) := Sha.ref_chain h x hs k hk
theorem heads_l0 (l : List ByteArray) (hl : ∀ r ∈ l, r.size ≤ 65536) (hn : l.length ≤ 1000000) : ∀ (d i k : Nat) (acc : List ByteArray) (h : ByteArray), i + d = l.length → h.size = 32 → 70000 + d ≤ k → acc.length = i →
  Dm.clearwaylaw29_heads.l0 k l acc h (i : Int) = some (acc ++ headsG chF h (l.drop i)) := by
 intro d
 induction d with
 | zero =>
  intro i k acc h hi hh hk ha
  obtain ⟨k, rfl⟩ : ∃ k', k = k' + 1 := ⟨k - 1, by omega⟩
  rw [Dm.clearwaylaw29_heads.l0, if_neg (by omega), List.drop_of_length_le (by omega)]
  show _ = some (acc ++ [])
  rw [List.append_nil]
 | succ d ih =>
  intro i k acc h hi hh hk ha
  obtain ⟨k, rfl⟩ : ∃ k', k = k' + 1 := ⟨k - 1, by omega⟩
  obtain ⟨x, hx⟩ : ∃ x, l[i]? = some x := ⟨_, List.getElem?_eq_getElem (by omega)⟩
  have hxs := hl x (List.mem_of_getElem? hx)
  have hrd : rdOf ByteArray.empty l (i : Int) = x := by
   unfold rdOf
   rw [Int.toNat_natCast, List.getD_eq_getElem?_getD, hx]
   rfl
  have hdr : l.drop i = x :: l.drop (i + 1) := by
   rw [List.drop_eq_getElem_cons (by omega)]
   congr 1
   exact (List.getElem?_eq_some_iff.1 hx).2
  have s1 : ((⟨#[2]⟩ : ByteArray) ++ h).size = 33 := by rw [ByteArray.size_append, hh]; rfl
  rw [Dm.clearwaylaw29_heads.l0, if_pos (by omega), if_pos (by omega), if_pos (by omega), hrd, if_pos (by rw [s1]; omega), if_pos (by omega), ref_chF h x (by omega) k (by omega), Option.bind_some, w64 _ (by omega)]
  have := ih (i + 1) k (acc ++ [((⟨#[2]⟩ : ByteArray) ++ h) ++ x]) (chF h x) (by omega) (chF_size h x) (by omega) (by rw [List.length_append, ha]; rfl)
  rw [show ((i : Int) + 1) = ((i + 1 : Nat) : Int) by omega]
  refine Eq.trans this ?_
  rw [hdr, headsG_cons, List.append_assoc]
  rfl
theorem zeros_str : strOfNums (List.replicate 32 0) = z32 := by
 unfold z32
 rw [← str_ofB]
 rfl
theorem heads_f (l : List ByteArray) (hl : ∀ r ∈ l, r.size ≤ 65536) (hn : l.length ≤ 1000000) : Dm.clearwaylaw29_heads.f (70001 + l.length) l = some (headsG chF z32 l) := by
 unfold Dm.clearwaylaw29_heads.f Dm.clearwayref02_Head.f
 rw [if_pos (by decide)]
 have e : Dm.clearwayref02_Head.l0 (70001 + l.length) ([] : List ByteArray) (strOfNums (List.replicate 32 0)) 0 = some z32 := by
  rw [show 70001 + l.length = (70000 + l.length) + 1 by omega, Dm.clearwayref02_Head.l0, if_neg (by decide), zeros_str]
 rw [e, Option.bind_some]
 have := heads_l0 l hl hn l.length 0 (70001 + l.length) [] z32 (by omega) z32_size (by omega) rfl
 rw [List.drop_zero, List.nil_append] at this
 exact this
theorem put_ints : ∀ n : Fin 101, (Dm.clearwayref01_PutInt.f 6 ((n.val : Nat) : Int)).map (fun x => (x.1.size, x.2)) = some ((Code.enc ((n.val : Nat) : Int)).length, 0) := by decide +kernel
theorem put_more (n : Int) (r : ByteArray × Int) (k : Nat) (hk : 6 ≤ k) (h : Dm.clearwayref01_PutInt.f 6 n = some r) : Dm.clearwayref01_PutInt.f k n = some r := by
 obtain ⟨d, rfl⟩ : ∃ d, k = 6 + d := ⟨k - 6, by omega⟩
 induction d with
 | zero => exact h
 | succ d ih => exact Dm.clearwayref01_PutInt.mono n (6 + d) r (ih (by omega))
theorem put_f (n : Nat) (hn : n ≤ 100) (k : Nat) (hk : 6 ≤ k) : ∃ r : ByteArray, Dm.clearwayref01_PutInt.f k (n : Int) = some (r, 0) ∧ r.size = (Code.enc (n : Int)).length := by
 have h1 := put_ints ⟨n, by omega⟩
 simp only at h1
 cases hp : Dm.clearwayref01_PutInt.f 6 (n : Int) with
 | none => rw [hp] at h1; cases h1
 | some x =>
  obtain ⟨r, c⟩ := x
  rw [hp, Option.map_some] at h1
  have h2 : (r.size, c) = ((Code.enc (n : Int)).length, (0 : Int)) := Option.some.inj h1
  obtain ⟨h3, rfl⟩ := Prod.mk.injEq .. ▸ h2
  exact ⟨r, put_more _ _ k hk hp, h3⟩
theorem sized_l0 (l : List ByteArray) (hl : ∀ r ∈ l, r.size ≤ 100) (hn : l.length ≤ 1000) : ∀ (d i k : Nat) (a : Int), i + d = l.length → 2 * d + 8 ≤ k → a ≤ 1000000 → -1000000 + 1000 * (i : Int) * (-1) ≤ a →
  Dm.clearwaylaw29_sized.l0 k l a (i : Int) = some (sized (l.drop i) a) := by
 intro d
 induction d with
 | zero =>
  intro i k a hi hk h1 h2
  obtain ⟨k, rfl⟩ : ∃ k', k = k' + 1 := ⟨k - 1, by omega⟩
  rw [Dm.clearwaylaw29_sized.l0, if_neg (by omega), List.drop_of_length_le (by omega)]
  rfl
 | succ d ih =>
  intro i k a hi hk h1 h2
  obtain ⟨k, rfl⟩ : ∃ k', k = k' + 2 := ⟨k - 2, by omega⟩
  obtain ⟨x, hx⟩ : ∃ x, l[i]? = some x := ⟨_, List.getElem?_eq_getElem (by omega)⟩
  have hxs := hl x (List.mem_of_getElem? hx)
  have hrd : rdOf ByteArray.empty l (i : Int) = x := by
   unfold rdOf
   rw [Int.toNat_natCast, List.getD_eq_getElem?_getD, hx]
   rfl
  have hdr : l.drop i = x :: l.drop (i + 1) := by
   rw [List.drop_eq_getElem_cons (by omega)]
   congr 1
   exact (List.getElem?_eq_some_iff.1 hx).2
  obtain ⟨r, hr, hrs⟩ := put_f x.size hxs (k + 1) (by omega)
  have hel : (encS x).length = (Code.enc (x.size : Int)).length + x.size := by unfold encS; rw [List.length_append, bl_length]
  have henc := Code.enc_len (n := (x.size : Int)) (by unfold Code.maxInt; omega) (by unfold Code.maxInt; omega)
  have hrs9 : r.size ≤ 100 := by omega
  have key : ∀ b : Bool, b = decide (1 ≤ a ∧ a ≤ (r.size : Int)) → Dm.clearwaylaw29_sized.j1 (k + 1) l a (i : Int) r b = some (sized (l.drop i) a) := by
   intro b hb
   rw [Dm.clearwaylaw29_sized.j1, hdr, sized_cons, ← hrs, ← hb]
   cases b with
   | true => rw [if_pos rfl]; rfl
   | false =>
    rw [if_neg (by decide), if_pos (by omega), if_pos (by omega), hrd, w64 (1 + (r.size : Int)) (by omega), w64 (1 + (r.size : Int) + (x.size : Int)) (by omega), w64 (1 + (r.size : Int) + (x.size : Int) + 32) (by omega), w64 (a - (1 + (r.size : Int) + (x.size : Int) + 32)) (by omega), w64 ((i : Int) + 1) (by omega)]
    have := ih (i + 1) k (a - ((33 + (encS x).length : Nat) : Int)) (by omega) (by omega) (by omega) (by omega)
    rw [Bool.false_or, ← this]
    congr 1
    omega
  rw [Dm.clearwaylaw29_sized.l0, if_pos (by omega), if_pos (by omega), hrd, hr, Option.bind_some]
  by_cases h1a : a ≥ 1
  ·rw [if_pos h1a]
   exact key _ (by rw [decide_eq_decide]; exact ⟨fun h => ⟨h1a, h⟩, fun h => h.2⟩)
  ·rw [if_neg h1a]
   exact key _ (by rw [decide_eq_false]; intro h; exact h1a h.1)
theorem sized_f (l : List ByteArray) (hl : ∀ r ∈ l, r.size ≤ 100) (hn : l.length ≤ 1000) (a : Nat) (ha : a ≤ 1000000) : Dm.clearwaylaw29_sized.f (2 * l.length + 8) l (a : Int) = some (sized l (a : Int)) := by
 have := sized_l0 l hl hn l.length 0 (2 * l.length + 8) (a : Int) (by omega) (by omega) (by omega) (by omega)
 rw [List.drop_zero] at this
 exact this
end Go.Proofs.YtniegajdmbepbaaGreatDoor.Jm

set_option linter.unusedVariables false
set_option linter.unusedSimpArgs false
namespace Go.Proofs.YtniegajdmbepbaaGreatDoor.Jm
open Go Go.RowKit Go.Shelf Go.Proofs.YtniegajdmbepbaaGreatDoor.Rf Go.Proofs.YtniegajdmbepbaaGreatDoorW.PrintWords Go.Proofs.YtniegajdmbepbaaGreatDoorW.PrintLast Go.Proofs.YtniegajdmbepbaaGreatDoorW.PrintMore Go.Proofs.YtniegajdmbepbaaGreatDoor.Sha

def damT.T36 : Bool × List (List Nat × List Nat) := (true, [([], []), ([], []), ([0, 1], [0, 1]), ([2], [2]), ([], []), ([], []), ([4, 5], [4, 5]), ([6], [6]), ([3, 7], [3, 7]), ([8], [8]), ([9], [9]), ([9], [9]), ([10, 11, 9], [9, 10, 11]), ([12, 9], [9, 12]), ([13, 9, 9], [9, 13]), ([9], [9]), ([9], [9]), ([15, 16, 9], [9, 15, 16]), ([17, 9], [9, 17]), ([18, 14, 9], [9, 18]), ([14, 19, 9], [9, 14, 19]), ([9, 20], [9, 20])])
def damT.B36 : List Nat := [0, 0, 3, 7, 0, 0, 48, 112, 255, 511, 1023, 1023, 4095, 8191, 16383, 1023, 1023, 99327, 230399, 524287, 1048575, 2097151]
theorem damT.tab36 : rtab .any (opsOf Tryz.f4 36) = damT.T36 := by kernel_rfl
theorem damT.bits36 : waitsOk damT.T36.2 damT.B36 = true := by kernel_rfl
noncomputable def damR36 : Code := ((Tryz.f4.body.bind (regionOf 36)).getD .skip)
set_option maxHeartbeats 8000000 in
set_option maxRecDepth 100000 in
theorem dam_ne (R : Act → World → Prop) (v W : World) (v0 v1 v2 v3 v4 v5 v6 v7 v8 v9 v10 v11 v12 v13 v14 v15 v16 v17 v18 v19 v20 v24 v25 v26 v27 v28 v29 v30 v31 v32 v33 v34 v35 v36 v37 v38 v39 v40 v41 v42 v43 v44 v45 v46 v47 v48 v49 v50 v51 v52 v53 v54 v55 v56 v57 v58 v59 v60 v61 v62 v63 v64 v65 v66 v67 v68 v69 v70 v71 v72 v73 v74 v75 v76 v77 v78 v79 v80 v81 v82 v83 v84 v85 v86 v87 v88 v89 v90 v91 v92 v93 v94 v95 v96 v97 v98 v99 v100 v101 v102 v103 v104 v105 v106 v107 v108 v109 v110 v111 v112 v113 v114 v115 v116 v117 v118 v119 v120 v121 v122 v123 v124 v125 v126 v127 v128 v129 v130 v131 v132 v133 v134 v135 v136 v137 v138 v139 v140 v141 v142 v143 v144 v145 v146 v147 v148 v149 v150 v151 v152 v153 v154 v155 v156 v157 v158 v159 v160 v161 v162 v163 v164 v165 v166 v167 v168 v169 v170 v171 v172 v173 v174 v175 v176 v177 v178 v179 : Value) (g1 g2 n1 n2 c1 c2 i : Nat) (x y : ByteArray) (kx : Nat) (sm : ByteArray)
  (hx1 : ((i : Int) < (n1 : Int)) = True) (hx2 : (i < n1) = True) (hy1 : ((i : Int) < (n2 : Int)) = True) (hy2 : (i < n2) = True) (hg1 : g1 < v.heap.size) (hg2 : g2 < v.heap.size) (hx : v.cell? ⟨g1, i, none⟩ = some (.string x)) (hy : v.cell? ⟨g2, i, none⟩ = some (.string y)) (e1 : (x.toList == y.toList) = false) (hsx : Dm.clearwayref02_Sum.f kx x = some sm) (hsy : Dm.clearwayref02_Sum.f kx y = some sm)
  (hS : SBl v W)
  (hQ : ∀ (z157 z158 z159 z160 z161 z162 z163 z164 z165 z166 z167 z168 z169 z170 z171 z172 z173 z174 z175 z176 z177 : Value) (W' : World), SBl v W' → R ⟨#[v0, v1, v2, v3, v4, v5, v6, v7, v8, v9, v10, v11, v12, v13, v14, v15, v16, v17, v18, v19, v20, Value.slice (some ⟨g1, 0, none⟩) n1 c1, Value.slice (some ⟨g2, 0, none⟩) n2 c2, Value.int .i64 (i : Int), v24, v25, v26, v27, v28, v29, v30, v31, v32, v33, v34, v35, v36, v37, v38, v39, v40, v41, v42, v43, v44, v45, v46, v47, v48, v49, v50, v51, v52, v53, v54, v55, v56, v57, v58, v59, v60, v61, v62, v63, v64, v65, v66, v67, v68, v69, v70, v71, v72, v73, v74, v75, v76, v77, v78, v79, v80, v81, v82, v83, v84, v85, v86, v87, v88, v89, v90, v91, v92, v93, v94, v95, v96, v97, v98, v99, v100, v101, v102, v103, v104, v105, v106, v107, v108, v109, v110, v111, v112, v113, v114, v115, v116, v117, v118, v119, v120, v121, v122, v123, v124, v125, v126, v127, v128, v129, v130, v131, v132, v133, v134, v135, v136, v137, v138, v139, v140, v141, v142, v143, v144, v145, v146, v147, v148, v149, v150, v151, v152, v153, v154, v155, v156, z157, z158, z159, z160, z161, z162, z163, z164, z165, z166, z167, z168, z169, z170, z171, z172, z173, z174, z175, z176, z177, Value.bool true, v179], []⟩ W') :
  damR36.wp Tryz.prog (Norm R) ⟨#[v0, v1, v2, v3, v4, v5, v6, v7, v8, v9, v10, v11, v12, v13, v14, v15, v16, v17, v18, v19, v20, Value.slice (some ⟨g1, 0, none⟩) n1 c1, Value.slice (some ⟨g2, 0, none⟩) n2 c2, Value.int .i64 (i : Int), v24, v25, v26, v27, v28, v29, v30, v31, v32, v33, v34, v35, v36, v37, v38, v39, v40, v41, v42, v43, v44, v45, v46, v47, v48, v49, v50, v51, v52, v53, v54, v55, v56, v57, v58, v59, v60, v61, v62, v63, v64, v65, v66, v67, v68, v69, v70, v71, v72, v73, v74, v75, v76, v77, v78, v79, v80, v81, v82, v83, v84, v85, v86, v87, v88, v89, v90, v91, v92, v93, v94, v95, v96, v97, v98, v99, v100, v101, v102, v103, v104, v105, v106, v107, v108, v109, v110, v111, v112, v113, v114, v115, v116, v117, v118, v119, v120, v121, v122, v123, v124, v125, v126, v127, v128, v129, v130, v131, v132, v133, v134, v135, v136, v137, v138, v139, v140, v141, v142, v143, v144, v145, v146, v147, v148, v149, v150, v151, v152, v153, v154, v155, v156, v157, v158, v159, v160, v161, v162, v163, v164, v165, v166, v167, v168, v169, v170, v171, v172, v173, v174, v175, v176, v177, v178, v179], []⟩ W := by
 unfold damR36
 conv => arg 2; whnf
 refine start_ (n := 22) (S := SBl v) (ds := []) #[false, false, false, false, false, false, false, false, false, false, false, false, false, false, false, false, false, false, false, false, false, false] (by kernel_rfl) rfl rfl (keepSBl hS (below_drew1 (Below.refl _ _))) (fun hHeld => ?_); refine with_tabW damT.tab36 damT.bits36 (fun HT_ HW_ => ?_)
 generalize W.drew = w0_ at hHeld ⊢
 refine pure_ (i := 0) (N := some 157) (v := ?_) (a' := ?_) #[true, false, false, false, false, false, false, false, false, false, false, false, false, false, false, false, false, false, false, false, false, false] rfl rfl (any_of HT_.out (by kernel_rfl)) (fun _ _ _ h => h) (Or.inl ⟨by rfl, ?_⟩) ?_ ?_
 rotate_left
 ·intro w'
  go_simp
  with_reducible rfl
 rotate_left
 ·simp only [Act.put, List.setIfInBounds_toArray, List.set_cons_zero, List.set_cons_succ, i64_w, i32_w]
  rfl
 refine pure_ (i := 1) (N := some 158) (v := ?_) (a' := ?_) #[true, true, false, false, false, false, false, false, false, false, false, false, false, false, false, false, false, false, false, false, false, false] rfl rfl (any_of HT_.out (by kernel_rfl)) (fun _ _ _ h => h) (Or.inl ⟨by rfl, ?_⟩) ?_ ?_
 rotate_left
 ·intro w'
  go_simp
  with_reducible rfl
 rotate_left
 ·simp only [Act.put, List.setIfInBounds_toArray, List.set_cons_zero, List.set_cons_succ, i64_w, i32_w]
  rfl
 refine pure_ (i := 2) (N := some 159) (v := ?_) (a' := ?_) #[true, true, true, false, false, false, false, false, false, false, false, false, false, false, false, false, false, false, false, false, false, false] rfl rfl (any_of HT_.out (by kernel_rfl)) (fun _ _ _ h => h) (Or.inl ⟨by rfl, ?_⟩) ?_ ?_
 rotate_left
 ·intro w'
  go_simp
  with_reducible rfl
 rotate_left
 ·simp only [Act.put, List.setIfInBounds_toArray, List.set_cons_zero, List.set_cons_succ, i64_w, i32_w]
  rfl
 refine pure_ (i := 4) (N := some 161) (v := ?_) (a' := ?_) #[true, true, true, false, true, false, false, false, false, false, false, false, false, false, false, false, false, false, false, false, false, false] rfl rfl (any_of HT_.out (by kernel_rfl)) (fun _ _ _ h => h) (Or.inl ⟨by rfl, ?_⟩) ?_ ?_
 rotate_left
 ·intro w'
  go_simp
  with_reducible rfl
 rotate_left
 ·simp only [Act.put, List.setIfInBounds_toArray, List.set_cons_zero, List.set_cons_succ, i64_w, i32_w]
  rfl
 refine pure_ (i := 5) (N := some 162) (v := ?_) (a' := ?_) #[true, true, true, false, true, true, false, false, false, false, false, false, false, false, false, false, false, false, false, false, false, false] rfl rfl (any_of HT_.out (by kernel_rfl)) (fun _ _ _ h => h) (Or.inl ⟨by rfl, ?_⟩) ?_ ?_
 rotate_left
 ·intro w'
  go_simp
  with_reducible rfl
 rotate_left
 ·simp only [Act.put, List.setIfInBounds_toArray, List.set_cons_zero, List.set_cons_succ, i64_w, i32_w]
  rfl
 refine pure_ (i := 6) (N := some 163) (v := ?_) (a' := ?_) #[true, true, true, false, true, true, true, false, false, false, false, false, false, false, false, false, false, false, false, false, false, false] rfl rfl (any_of HT_.out (by kernel_rfl)) (fun _ _ _ h => h) (Or.inl ⟨by rfl, ?_⟩) ?_ ?_
 rotate_left
 ·intro w'
  go_simp
  with_reducible rfl
 rotate_left
 ·simp only [Act.put, List.setIfInBounds_toArray, List.set_cons_zero, List.set_cons_succ, i64_w, i32_w]
  rfl
 refine take_ (i := 3) (N := some 160) (v := ?_) (a' := ?_) #[true, true, true, true, true, true, true, false, false, false, false, false, false, false, false, false, false, false, false, false, false, false] rfl rfl (take_ofW HT_.out HW_.out (by kernel_rfl)) (fun _ _ _ h => h) (Or.inl ⟨by rfl, ?_⟩) hHeld ?_ ?_
 rotate_left
 ·intro w' hS_
  have cx_ := (hS_.cell (p := ⟨g1, i, none⟩) hg1).trans hx
  have cy_ := (hS_.cell (p := ⟨g2, i, none⟩) hg2).trans hy
  go_simp
  with_reducible rfl
 rotate_left
 ·simp only [Act.put, List.setIfInBounds_toArray, List.set_cons_zero, List.set_cons_succ, i64_w, i32_w]
  rfl
 refine take_ (i := 7) (N := some 164) (v := ?_) (a' := ?_) #[true, true, true, true, true, true, true, true, false, false, false, false, false, false, false, false, false, false, false, false, false, false] rfl rfl (take_ofW HT_.out HW_.out (by kernel_rfl)) (fun _ _ _ h => h) (Or.inl ⟨by rfl, ?_⟩) hHeld ?_ ?_
 rotate_left
 ·intro w' hS_
  have cx_ := (hS_.cell (p := ⟨g1, i, none⟩) hg1).trans hx
  have cy_ := (hS_.cell (p := ⟨g2, i, none⟩) hg2).trans hy
  go_simp
  with_reducible rfl
 rotate_left
 ·simp only [Act.put, List.setIfInBounds_toArray, List.set_cons_zero, List.set_cons_succ, i64_w, i32_w]
  rfl
 refine pure_ (i := 8) (N := some 165) (v := ?_) (a' := ?_) #[true, true, true, true, true, true, true, true, true, false, false, false, false, false, false, false, false, false, false, false, false, false] rfl rfl (any_of HT_.out (by kernel_rfl)) (fun _ _ _ h => h) (Or.inl ⟨by rfl, ?_⟩) ?_ ?_
 rotate_left
 ·intro w'
  go_simp
  with_reducible rfl
 rotate_left
 ·simp only [Act.put, List.setIfInBounds_toArray, List.set_cons_zero, List.set_cons_succ, i64_w, i32_w]
  rfl
 refine pure_ (i := 9) (N := some 166) (v := ?_) (a' := ?_) #[true, true, true, true, true, true, true, true, true, true, false, false, false, false, false, false, false, false, false, false, false, false] rfl rfl (any_of HT_.out (by kernel_rfl)) (fun _ _ _ h => h) (Or.inl ⟨by rfl, ?_⟩) ?_ ?_
 rotate_left
 ·intro w'
  go_simp
  with_reducible rfl
 rotate_left
 ·simp only [Act.put, List.setIfInBounds_toArray, List.set_cons_zero, List.set_cons_succ, i64_w, i32_w]
  rfl
 refine pure_ (i := 10) (N := some 167) (v := ?_) (a' := ?_) #[true, true, true, true, true, true, true, true, true, true, true, false, false, false, false, false, false, false, false, false, false, false] rfl rfl (any_of HT_.out (by kernel_rfl)) (fun _ _ _ h => h) (Or.inl ⟨by rfl, ?_⟩) ?_ ?_
 rotate_left
 ·intro w'
  go_simp
  with_reducible rfl
 rotate_left
 ·simp only [Act.put, List.setIfInBounds_toArray, List.set_cons_zero, List.set_cons_succ, i64_w, i32_w]
  rfl
 refine pure_ (i := 11) (N := some 168) (v := ?_) (a' := ?_) #[true, true, true, true, true, true, true, true, true, true, true, true, false, false, false, false, false, false, false, false, false, false] rfl rfl (any_of HT_.out (by kernel_rfl)) (fun _ _ _ h => h) (Or.inl ⟨by rfl, ?_⟩) ?_ ?_
 rotate_left
 ·intro w'
  go_simp
  with_reducible rfl
 rotate_left
 ·simp only [Act.put, List.setIfInBounds_toArray, List.set_cons_zero, List.set_cons_succ, i64_w, i32_w]
  rfl
 refine pure_ (i := 12) (N := some 169) (v := ?_) (a' := ?_) #[true, true, true, true, true, true, true, true, true, true, true, true, true, false, false, false, false, false, false, false, false, false] rfl rfl (any_of HT_.out (by kernel_rfl)) (fun _ _ _ h => h) (Or.inl ⟨by rfl, ?_⟩) ?_ ?_
 rotate_left
 ·intro w'
  go_simp
  with_reducible rfl
 rotate_left
 ·simp only [Act.put, List.setIfInBounds_toArray, List.set_cons_zero, List.set_cons_succ, i64_w, i32_w]
  rfl
 refine pure_ (i := 15) (N := some 172) (v := ?_) (a' := ?_) #[true, true, true, true, true, true, true, true, true, true, true, true, true, false, false, true, false, false, false, false, false, false] rfl rfl (any_of HT_.out (by kernel_rfl)) (fun _ _ _ h => h) (Or.inl ⟨by rfl, ?_⟩) ?_ ?_
 rotate_left
 ·intro w'
  go_simp
  with_reducible rfl
 rotate_left
 ·simp only [Act.put, List.setIfInBounds_toArray, List.set_cons_zero, List.set_cons_succ, i64_w, i32_w]
  rfl
 refine pure_ (i := 16) (N := some 173) (v := ?_) (a' := ?_) #[true, true, true, true, true, true, true, true, true, true, true, true, true, false, false, true, true, false, false, false, false, false] rfl rfl (any_of HT_.out (by kernel_rfl)) (fun _ _ _ h => h) (Or.inl ⟨by rfl, ?_⟩) ?_ ?_
 rotate_left
 ·intro w'
  go_simp
  with_reducible rfl
 rotate_left
 ·simp only [Act.put, List.setIfInBounds_toArray, List.set_cons_zero, List.set_cons_succ, i64_w, i32_w]
  rfl
 refine pure_ (i := 17) (N := some 174) (v := ?_) (a' := ?_) #[true, true, true, true, true, true, true, true, true, true, true, true, true, false, false, true, true, true, false, false, false, false] rfl rfl (any_of HT_.out (by kernel_rfl)) (fun _ _ _ h => h) (Or.inl ⟨by rfl, ?_⟩) ?_ ?_
 rotate_left
 ·intro w'
  go_simp
  with_reducible rfl
 rotate_left
 ·simp only [Act.put, List.setIfInBounds_toArray, List.set_cons_zero, List.set_cons_succ, i64_w, i32_w]
  rfl
 refine take_ (i := 13) (N := some 170) (v := ?_) (a' := ?_) #[true, true, true, true, true, true, true, true, true, true, true, true, true, true, false, true, true, true, false, false, false, false] rfl rfl (take_ofW HT_.out HW_.out (by kernel_rfl)) (fun _ _ _ h => h) (Or.inl ⟨by rfl, ?_⟩) hHeld ?_ ?_
 rotate_left
 ·intro w' hS_
  have cx_ := (hS_.cell (p := ⟨g1, i, none⟩) hg1).trans hx
  have cy_ := (hS_.cell (p := ⟨g2, i, none⟩) hg2).trans hy
  go_simp
  with_reducible rfl
 rotate_left
 ·simp only [Act.put, List.setIfInBounds_toArray, List.set_cons_zero, List.set_cons_succ, i64_w, i32_w]
  rfl
 refine take_ (i := 18) (N := some 175) (v := ?_) (a' := ?_) #[true, true, true, true, true, true, true, true, true, true, true, true, true, true, false, true, true, true, true, false, false, false] rfl rfl (take_ofW HT_.out HW_.out (by kernel_rfl)) (fun _ _ _ h => h) (Or.inl ⟨by rfl, ?_⟩) hHeld ?_ ?_
 rotate_left
 ·intro w' hS_
  have cx_ := (hS_.cell (p := ⟨g1, i, none⟩) hg1).trans hx
  have cy_ := (hS_.cell (p := ⟨g2, i, none⟩) hg2).trans hy
  go_simp
  with_reducible rfl
 rotate_left
 ·simp only [Act.put, List.setIfInBounds_toArray, List.set_cons_zero, List.set_cons_succ, i64_w, i32_w]
  rfl
 refine one_ (i := 14) (N := some 171) #[true, true, true, true, true, true, true, true, true, true, true, true, true, true, true, true, true, true, true, false, false, false] rfl rfl (one_of HT_.out (by kernel_rfl)) (by decide) (fun K hK => ?_)
 refine goes_ Tryz.func28 (by kernel_rfl) rfl #[.string x] (by rfl) rfl rfl (by (try simp only [List.map_toArray, List.map_cons, List.map_nil]); first | done | rfl) ?_
 refine (Dm.clearwayref02_Sum.calls kx x sm _ hsx).mono ?_
 rintro e wc_ ⟨rfl, hbc⟩
 refine ⟨_, rfl, ?_⟩
 refine hK.out _ _ (keepSBl hHeld hbc) (fun hHeld => ?_)
 clear hK K hbc
 refine norm_ (a' := ?_) ?_ ?_
 rotate_left
 ·show Act.put _ (some 171) _ = _
  simp only [Act.put, List.setIfInBounds_toArray, List.set_cons_zero, List.set_cons_succ, i64_w, i32_w]
  rfl
 refine one_ (i := 19) (N := some 176) #[true, true, true, true, true, true, true, true, true, true, true, true, true, true, true, true, true, true, true, true, false, false] rfl rfl (one_of HT_.out (by kernel_rfl)) (by decide) (fun K hK => ?_)
 refine goes_ Tryz.func28 (by kernel_rfl) rfl #[.string y] (by rfl) rfl rfl (by (try simp only [List.map_toArray, List.map_cons, List.map_nil]); first | done | rfl) ?_
 refine (Dm.clearwayref02_Sum.calls kx y sm _ hsy).mono ?_
 rintro e wc_ ⟨rfl, hbc⟩
 refine ⟨_, rfl, ?_⟩
 refine hK.out _ _ (keepSBl hHeld hbc) (fun hHeld => ?_)
 clear hK K hbc
 refine norm_ (a' := ?_) ?_ ?_
 rotate_left
 ·show Act.put _ (some 176) _ = _
  simp only [Act.put, List.setIfInBounds_toArray, List.set_cons_zero, List.set_cons_succ, i64_w, i32_w]
  rfl
 refine pure_ (i := 20) (N := some 177) (v := ?_) (a' := ?_) #[true, true, true, true, true, true, true, true, true, true, true, true, true, true, true, true, true, true, true, true, true, false] rfl rfl (any_of HT_.out (by kernel_rfl)) (fun _ _ _ h => h) (Or.inl ⟨by rfl, ?_⟩) ?_ ?_
 rotate_left
 ·intro w'
  go_simp
  with_reducible rfl
 rotate_left
 ·simp only [Act.put, List.setIfInBounds_toArray, List.set_cons_zero, List.set_cons_succ, i64_w, i32_w]
  rfl
 refine pure_ (i := 21) (N := some 178) (v := ?_) (a' := ?_) #[true, true, true, true, true, true, true, true, true, true, true, true, true, true, true, true, true, true, true, true, true, true] rfl rfl (any_of HT_.out (by kernel_rfl)) (fun _ _ _ h => h) (Or.inl ⟨by rfl, ?_⟩) ?_ ?_
 rotate_left
 ·intro w'
  go_simp
  with_reducible rfl
 rotate_left
 ·simp only [Act.put, List.setIfInBounds_toArray, List.set_cons_zero, List.set_cons_succ, i64_w, i32_w]
  rfl
 refine done_ (done_of HT_.out (by kernel_rfl)) ?_
 exact hQ _ _ _ _ _ _ _ _ _ _ _ _ _ _ _ _ _ _ _ _ _ _ hHeld
set_option maxHeartbeats 8000000 in
set_option maxRecDepth 100000 in
theorem dam_eq (R : Act → World → Prop) (v W : World) (v0 v1 v2 v3 v4 v5 v6 v7 v8 v9 v10 v11 v12 v13 v14 v15 v16 v17 v18 v19 v20 v24 v25 v26 v27 v28 v29 v30 v31 v32 v33 v34 v35 v36 v37 v38 v39 v40 v41 v42 v43 v44 v45 v46 v47 v48 v49 v50 v51 v52 v53 v54 v55 v56 v57 v58 v59 v60 v61 v62 v63 v64 v65 v66 v67 v68 v69 v70 v71 v72 v73 v74 v75 v76 v77 v78 v79 v80 v81 v82 v83 v84 v85 v86 v87 v88 v89 v90 v91 v92 v93 v94 v95 v96 v97 v98 v99 v100 v101 v102 v103 v104 v105 v106 v107 v108 v109 v110 v111 v112 v113 v114 v115 v116 v117 v118 v119 v120 v121 v122 v123 v124 v125 v126 v127 v128 v129 v130 v131 v132 v133 v134 v135 v136 v137 v138 v139 v140 v141 v142 v143 v144 v145 v146 v147 v148 v149 v150 v151 v152 v153 v154 v155 v156 v157 v158 v159 v160 v161 v162 v163 v164 v165 v166 v167 v168 v169 v170 v171 v172 v173 v174 v175 v176 v177 v178 v179 : Value) (g1 g2 n1 n2 c1 c2 i : Nat) (x y : ByteArray)
  (hx1 : ((i : Int) < (n1 : Int)) = True) (hx2 : (i < n1) = True) (hy1 : ((i : Int) < (n2 : Int)) = True) (hy2 : (i < n2) = True) (hg1 : g1 < v.heap.size) (hg2 : g2 < v.heap.size) (hx : v.cell? ⟨g1, i, none⟩ = some (.string x)) (hy : v.cell? ⟨g2, i, none⟩ = some (.string x))
  (hS : SBl v W)
  (hQ : ∀ (z157 z158 z159 z160 z161 z162 z163 z164 z165 z166 z167 z168 z169 z170 z171 z172 z173 z174 z175 z176 z177 : Value) (W' : World), SBl v W' → R ⟨#[v0, v1, v2, v3, v4, v5, v6, v7, v8, v9, v10, v11, v12, v13, v14, v15, v16, v17, v18, v19, v20, Value.slice (some ⟨g1, 0, none⟩) n1 c1, Value.slice (some ⟨g2, 0, none⟩) n2 c2, Value.int .i64 (i : Int), v24, v25, v26, v27, v28, v29, v30, v31, v32, v33, v34, v35, v36, v37, v38, v39, v40, v41, v42, v43, v44, v45, v46, v47, v48, v49, v50, v51, v52, v53, v54, v55, v56, v57, v58, v59, v60, v61, v62, v63, v64, v65, v66, v67, v68, v69, v70, v71, v72, v73, v74, v75, v76, v77, v78, v79, v80, v81, v82, v83, v84, v85, v86, v87, v88, v89, v90, v91, v92, v93, v94, v95, v96, v97, v98, v99, v100, v101, v102, v103, v104, v105, v106, v107, v108, v109, v110, v111, v112, v113, v114, v115, v116, v117, v118, v119, v120, v121, v122, v123, v124, v125, v126, v127, v128, v129, v130, v131, v132, v133, v134, v135, v136, v137, v138, v139, v140, v141, v142, v143, v144, v145, v146, v147, v148, v149, v150, v151, v152, v153, v154, v155, v156, z157, z158, z159, z160, z161, z162, z163, z164, z165, z166, z167, z168, z169, z170, z171, z172, z173, z174, z175, z176, z177, Value.bool false, v179], []⟩ W') :
  damR36.wp Tryz.prog (Norm R) ⟨#[v0, v1, v2, v3, v4, v5, v6, v7, v8, v9, v10, v11, v12, v13, v14, v15, v16, v17, v18, v19, v20, Value.slice (some ⟨g1, 0, none⟩) n1 c1, Value.slice (some ⟨g2, 0, none⟩) n2 c2, Value.int .i64 (i : Int), v24, v25, v26, v27, v28, v29, v30, v31, v32, v33, v34, v35, v36, v37, v38, v39, v40, v41, v42, v43, v44, v45, v46, v47, v48, v49, v50, v51, v52, v53, v54, v55, v56, v57, v58, v59, v60, v61, v62, v63, v64, v65, v66, v67, v68, v69, v70, v71, v72, v73, v74, v75, v76, v77, v78, v79, v80, v81, v82, v83, v84, v85, v86, v87, v88, v89, v90, v91, v92, v93, v94, v95, v96, v97, v98, v99, v100, v101, v102, v103, v104, v105, v106, v107, v108, v109, v110, v111, v112, v113, v114, v115, v116, v117, v118, v119, v120, v121, v122, v123, v124, v125, v126, v127, v128, v129, v130, v131, v132, v133, v134, v135, v136, v137, v138, v139, v140, v141, v142, v143, v144, v145, v146, v147, v148, v149, v150, v151, v152, v153, v154, v155, v156, v157, v158, v159, v160, v161, v162, v163, v164, v165, v166, v167, v168, v169, v170, v171, v172, v173, v174, v175, v176, v177, v178, v179], []⟩ W := by
 unfold damR36
 conv => arg 2; whnf
 refine start_ (n := 22) (S := SBl v) (ds := []) #[false, false, false, false, false, false, false, false, false, false, false, false, false, false, false, false, false, false, false, false, false, false] (by kernel_rfl) rfl rfl (keepSBl hS (below_drew1 (Below.refl _ _))) (fun hHeld => ?_); refine with_tabW damT.tab36 damT.bits36 (fun HT_ HW_ => ?_)
 generalize W.drew = w0_ at hHeld ⊢
 refine pure_ (i := 0) (N := some 157) (v := ?_) (a' := ?_) #[true, false, false, false, false, false, false, false, false, false, false, false, false, false, false, false, false, false, false, false, false, false] rfl rfl (any_of HT_.out (by kernel_rfl)) (fun _ _ _ h => h) (Or.inl ⟨by rfl, ?_⟩) ?_ ?_
 rotate_left
 ·intro w'
  go_simp
  with_reducible rfl
 rotate_left
 ·simp only [Act.put, List.setIfInBounds_toArray, List.set_cons_zero, List.set_cons_succ, i64_w, i32_w]
  rfl
 refine pure_ (i := 1) (N := some 158) (v := ?_) (a' := ?_) #[true, true, false, false, false, false, false, false, false, false, false, false, false, false, false, false, false, false, false, false, false, false] rfl rfl (any_of HT_.out (by kernel_rfl)) (fun _ _ _ h => h) (Or.inl ⟨by rfl, ?_⟩) ?_ ?_
 rotate_left
 ·intro w'
  go_simp
  with_reducible rfl
 rotate_left
 ·simp only [Act.put, List.setIfInBounds_toArray, List.set_cons_zero, List.set_cons_succ, i64_w, i32_w]
  rfl
 refine pure_ (i := 2) (N := some 159) (v := ?_) (a' := ?_) #[true, true, true, false, false, false, false, false, false, false, false, false, false, false, false, false, false, false, false, false, false, false] rfl rfl (any_of HT_.out (by kernel_rfl)) (fun _ _ _ h => h) (Or.inl ⟨by rfl, ?_⟩) ?_ ?_
 rotate_left
 ·intro w'
  go_simp
  with_reducible rfl
 rotate_left
 ·simp only [Act.put, List.setIfInBounds_toArray, List.set_cons_zero, List.set_cons_succ, i64_w, i32_w]
  rfl
 refine pure_ (i := 4) (N := some 161) (v := ?_) (a' := ?_) #[true, true, true, false, true, false, false, false, false, false, false, false, false, false, false, false, false, false, false, false, false, false] rfl rfl (any_of HT_.out (by kernel_rfl)) (fun _ _ _ h => h) (Or.inl ⟨by rfl, ?_⟩) ?_ ?_
 rotate_left
 ·intro w'
  go_simp
  with_reducible rfl
 rotate_left
 ·simp only [Act.put, List.setIfInBounds_toArray, List.set_cons_zero, List.set_cons_succ, i64_w, i32_w]
  rfl
 refine pure_ (i := 5) (N := some 162) (v := ?_) (a' := ?_) #[true, true, true, false, true, true, false, false, false, false, false, false, false, false, false, false, false, false, false, false, false, false] rfl rfl (any_of HT_.out (by kernel_rfl)) (fun _ _ _ h => h) (Or.inl ⟨by rfl, ?_⟩) ?_ ?_
 rotate_left
 ·intro w'
  go_simp
  with_reducible rfl
 rotate_left
 ·simp only [Act.put, List.setIfInBounds_toArray, List.set_cons_zero, List.set_cons_succ, i64_w, i32_w]
  rfl
 refine pure_ (i := 6) (N := some 163) (v := ?_) (a' := ?_) #[true, true, true, false, true, true, true, false, false, false, false, false, false, false, false, false, false, false, false, false, false, false] rfl rfl (any_of HT_.out (by kernel_rfl)) (fun _ _ _ h => h) (Or.inl ⟨by rfl, ?_⟩) ?_ ?_
 rotate_left
 ·intro w'
  go_simp
  with_reducible rfl
 rotate_left
 ·simp only [Act.put, List.setIfInBounds_toArray, List.set_cons_zero, List.set_cons_succ, i64_w, i32_w]
  rfl
 refine take_ (i := 3) (N := some 160) (v := ?_) (a' := ?_) #[true, true, true, true, true, true, true, false, false, false, false, false, false, false, false, false, false, false, false, false, false, false] rfl rfl (take_ofW HT_.out HW_.out (by kernel_rfl)) (fun _ _ _ h => h) (Or.inl ⟨by rfl, ?_⟩) hHeld ?_ ?_
 rotate_left
 ·intro w' hS_
  have cx_ := (hS_.cell (p := ⟨g1, i, none⟩) hg1).trans hx
  have cy_ := (hS_.cell (p := ⟨g2, i, none⟩) hg2).trans hy
  go_simp
  with_reducible rfl
 rotate_left
 ·simp only [Act.put, List.setIfInBounds_toArray, List.set_cons_zero, List.set_cons_succ, i64_w, i32_w]
  rfl
 refine take_ (i := 7) (N := some 164) (v := ?_) (a' := ?_) #[true, true, true, true, true, true, true, true, false, false, false, false, false, false, false, false, false, false, false, false, false, false] rfl rfl (take_ofW HT_.out HW_.out (by kernel_rfl)) (fun _ _ _ h => h) (Or.inl ⟨by rfl, ?_⟩) hHeld ?_ ?_
 rotate_left
 ·intro w' hS_
  have cx_ := (hS_.cell (p := ⟨g1, i, none⟩) hg1).trans hx
  have cy_ := (hS_.cell (p := ⟨g2, i, none⟩) hg2).trans hy
  go_simp
  with_reducible rfl
 rotate_left
 ·simp only [Act.put, List.setIfInBounds_toArray, List.set_cons_zero, List.set_cons_succ, i64_w, i32_w]
  rfl
 refine pure_ (i := 8) (N := some 165) (v := ?_) (a' := ?_) #[true, true, true, true, true, true, true, true, true, false, false, false, false, false, false, false, false, false, false, false, false, false] rfl rfl (any_of HT_.out (by kernel_rfl)) (fun _ _ _ h => h) (Or.inl ⟨by rfl, ?_⟩) ?_ ?_
 rotate_left
 ·intro w'
  go_simp
  with_reducible rfl
 rotate_left
 ·simp only [Act.put, List.setIfInBounds_toArray, List.set_cons_zero, List.set_cons_succ, i64_w, i32_w]
  rfl
 refine pure_ (i := 9) (N := some 166) (v := ?_) (a' := ?_) #[true, true, true, true, true, true, true, true, true, true, false, false, false, false, false, false, false, false, false, false, false, false] rfl rfl (any_of HT_.out (by kernel_rfl)) (fun _ _ _ h => h) (Or.inl ⟨by rfl, ?_⟩) ?_ ?_
 rotate_left
 ·intro w'
  go_simp
  with_reducible rfl
 rotate_left
 ·simp only [Act.put, List.setIfInBounds_toArray, List.set_cons_zero, List.set_cons_succ, i64_w, i32_w]
  rfl
 refine pure_ (i := 10) (N := some 167) (v := undef) (a' := ?_) #[true, true, true, true, true, true, true, true, true, true, true, false, false, false, false, false, false, false, false, false, false, false] rfl rfl (any_of HT_.out (by kernel_rfl)) (fun _ _ _ h => h) (Or.inr ⟨by rfl, rfl⟩) ?_ ?_
 rotate_left
 ·simp only [Act.put, List.setIfInBounds_toArray, List.set_cons_zero, List.set_cons_succ, i64_w, i32_w]
  rfl
 refine pure_ (i := 11) (N := some 168) (v := undef) (a' := ?_) #[true, true, true, true, true, true, true, true, true, true, true, true, false, false, false, false, false, false, false, false, false, false] rfl rfl (any_of HT_.out (by kernel_rfl)) (fun _ _ _ h => h) (Or.inr ⟨by rfl, rfl⟩) ?_ ?_
 rotate_left
 ·simp only [Act.put, List.setIfInBounds_toArray, List.set_cons_zero, List.set_cons_succ, i64_w, i32_w]
  rfl
 refine pure_ (i := 12) (N := some 169) (v := undef) (a' := ?_) #[true, true, true, true, true, true, true, true, true, true, true, true, true, false, false, false, false, false, false, false, false, false] rfl rfl (any_of HT_.out (by kernel_rfl)) (fun _ _ _ h => h) (Or.inr ⟨by rfl, rfl⟩) ?_ ?_
 rotate_left
 ·simp only [Act.put, List.setIfInBounds_toArray, List.set_cons_zero, List.set_cons_succ, i64_w, i32_w]
  rfl
 refine pure_ (i := 13) (N := some 170) (v := undef) (a' := ?_) #[true, true, true, true, true, true, true, true, true, true, true, true, true, true, false, false, false, false, false, false, false, false] rfl rfl (any_of HT_.out (by kernel_rfl)) (fun _ _ _ h => h) (Or.inr ⟨by rfl, rfl⟩) ?_ ?_
 rotate_left
 ·simp only [Act.put, List.setIfInBounds_toArray, List.set_cons_zero, List.set_cons_succ, i64_w, i32_w]
  rfl
 refine pure_ (i := 14) (N := some 171) (v := undef) (a' := ?_) #[true, true, true, true, true, true, true, true, true, true, true, true, true, true, true, false, false, false, false, false, false, false] rfl rfl (any_of HT_.out (by kernel_rfl)) (fun _ _ _ h => h) (Or.inr ⟨by rfl, rfl⟩) ?_ ?_
 rotate_left
 ·simp only [Act.put, List.setIfInBounds_toArray, List.set_cons_zero, List.set_cons_succ, i64_w, i32_w]
  rfl
 refine pure_ (i := 15) (N := some 172) (v := undef) (a' := ?_) #[true, true, true, true, true, true, true, true, true, true, true, true, true, true, true, true, false, false, false, false, false, false] rfl rfl (any_of HT_.out (by kernel_rfl)) (fun _ _ _ h => h) (Or.inr ⟨by rfl, rfl⟩) ?_ ?_
 rotate_left
 ·simp only [Act.put, List.setIfInBounds_toArray, List.set_cons_zero, List.set_cons_succ, i64_w, i32_w]
  rfl
 refine pure_ (i := 16) (N := some 173) (v := undef) (a' := ?_) #[true, true, true, true, true, true, true, true, true, true, true, true, true, true, true, true, true, false, false, false, false, false] rfl rfl (any_of HT_.out (by kernel_rfl)) (fun _ _ _ h => h) (Or.inr ⟨by rfl, rfl⟩) ?_ ?_
 rotate_left
 ·simp only [Act.put, List.setIfInBounds_toArray, List.set_cons_zero, List.set_cons_succ, i64_w, i32_w]
  rfl
 refine pure_ (i := 17) (N := some 174) (v := undef) (a' := ?_) #[true, true, true, true, true, true, true, true, true, true, true, true, true, true, true, true, true, true, false, false, false, false] rfl rfl (any_of HT_.out (by kernel_rfl)) (fun _ _ _ h => h) (Or.inr ⟨by rfl, rfl⟩) ?_ ?_
 rotate_left
 ·simp only [Act.put, List.setIfInBounds_toArray, List.set_cons_zero, List.set_cons_succ, i64_w, i32_w]
  rfl
 refine pure_ (i := 18) (N := some 175) (v := undef) (a' := ?_) #[true, true, true, true, true, true, true, true, true, true, true, true, true, true, true, true, true, true, true, false, false, false] rfl rfl (any_of HT_.out (by kernel_rfl)) (fun _ _ _ h => h) (Or.inr ⟨by rfl, rfl⟩) ?_ ?_
 rotate_left
 ·simp only [Act.put, List.setIfInBounds_toArray, List.set_cons_zero, List.set_cons_succ, i64_w, i32_w]
  rfl
 refine pure_ (i := 19) (N := some 176) (v := undef) (a' := ?_) #[true, true, true, true, true, true, true, true, true, true, true, true, true, true, true, true, true, true, true, true, false, false] rfl rfl (any_of HT_.out (by kernel_rfl)) (fun _ _ _ h => h) (Or.inr ⟨by rfl, rfl⟩) ?_ ?_
 rotate_left
 ·simp only [Act.put, List.setIfInBounds_toArray, List.set_cons_zero, List.set_cons_succ, i64_w, i32_w]
  rfl
 refine pure_ (i := 20) (N := some 177) (v := undef) (a' := ?_) #[true, true, true, true, true, true, true, true, true, true, true, true, true, true, true, true, true, true, true, true, true, false] rfl rfl (any_of HT_.out (by kernel_rfl)) (fun _ _ _ h => h) (Or.inr ⟨by rfl, rfl⟩) ?_ ?_
 rotate_left
 ·simp only [Act.put, List.setIfInBounds_toArray, List.set_cons_zero, List.set_cons_succ, i64_w, i32_w]
  rfl
 refine pure_ (i := 21) (N := some 178) (v := ?_) (a' := ?_) #[true, true, true, true, true, true, true, true, true, true, true, true, true, true, true, true, true, true, true, true, true, true] rfl rfl (any_of HT_.out (by kernel_rfl)) (fun _ _ _ h => h) (Or.inl ⟨by rfl, ?_⟩) ?_ ?_
 rotate_left
 ·intro w'
  go_simp
  with_reducible rfl
 rotate_left
 ·simp only [Act.put, List.setIfInBounds_toArray, List.set_cons_zero, List.set_cons_succ, i64_w, i32_w]
  rfl
 refine done_ (done_of HT_.out (by kernel_rfl)) ?_
 exact hQ _ _ _ _ _ _ _ _ _ _ _ _ _ _ _ _ _ _ _ _ _ _ hHeld
end Go.Proofs.YtniegajdmbepbaaGreatDoor.Jm

set_option linter.unusedVariables false
set_option linter.unusedSimpArgs false
namespace Go.Proofs.YtniegajdmbepbaaGreatDoor.Jm
open Go Go.RowKit Go.Shelf Go.Proofs.YtniegajdmbepbaaGreatDoorW.PrintWords Go.Proofs.YtniegajdmbepbaaGreatDoorW.PrintMore Go.Proofs.YtniegajdmbepbaaGreatDoor.Pl Go.Proofs.YtniegajdmbepbaaGreatDoor.Pr

theorem recs_size (rs : List ByteArray) (h : ∀ s ∈ rs, s.size ≤ 100) (hd : ByteArray) : (stored chF hd rs).length ≤ rs.length * 142 := stored_bound 100 (by omega) rs hd h
theorem conv_one (n : Nat) (hn : n < 256) (W : World) : (convert 39 9 (.slice (some ⟨W.heap.size, 0, none⟩) 1 1)).run Tryz.prog (W.alloc (.cells #[.int .u8 (n : Int)] 5)) = .ok (.string (ofB [n])) (W.alloc (.cells #[.int .u8 (n : Int)] 5)) := by
  have h := run_convert_bytes_arg (P := Tryz.prog) (W.alloc (.cells #[.int .u8 (n : Int)] 5)) 39 5 Tryz.underlying39 Tryz.underlying5 W.heap.size 0 1 1 ([n].map fun (b : Nat) => (b : Int)) (by simp) (fun i hi => by
    have := heap_alloc_new W (.cells #[.int .u8 (n : Int)] 5)
    obtain rfl : i = 0 := by omega
    simp only [World.cell?, this, Nat.zero_add]
    simp) 9 Tryz.underlying9
  rw [h, str_ofB]
theorem splice_one (l : List Nat) (k c : Nat) (hk : k < l.length) : splice l k [c] = l.set k c := by
  unfold splice
  rw [List.set_eq_take_append_cons_drop, if_pos hk]
  simp
theorem openM_some (A B : List Nat) (P : List (Nat × ByteArray)) (rs : List ByteArray) (n : Nat) (hl : A.length = B.length) (hp : parse chF (B.length + 1) z32 B = some (rs, n)) (hn : n ≤ B.length) :
    ∃ d', openM chF z32 ⟨false, 0, A, B, P⟩ = (d', some ⟨rs, headOf chF z32 rs, n, false⟩, 0) := by
  by_cases hz : (B.drop n).all (· == 0) = true
  · exact ⟨_, openM_clean ⟨false, 0, A, B, P⟩ rfl rs n hp hz⟩
  · unfold openM
    dsimp only
    rw [if_neg (by decide), hp]
    dsimp only
    rw [if_neg hz]
    have hw := write_in 0 A B P n (ofB (zeros (B.length - n))) (by rw [size_ofB (zeros_lt _), zeros_length]; omega)
    rw [hw]
    dsimp only
    rw [if_neg (by decide)]
    exact ⟨(Dk.sync (Dk.used ⟨false, 0, A, splice B n (bl (ofB (zeros (B.length - n)))), P ++ [(n, ofB (zeros (B.length - n)))]⟩)).1, rfl⟩
theorem vis_byte {l : List Nat} (hl : ∀ b ∈ l, b < 256) {k v : Nat} (hk : l[k]? = some v) {S : ByteArray} (hS : ofB l = S) (h : k < S.size) : (S[k]'h).toNat = v := by
  have h1 : (bl S)[k]? = some v := by rw [← hS, bl_ofB hl]; exact hk
  unfold bl at h1
  rw [List.getElem?_map] at h1
  obtain ⟨u, hu, rfl⟩ := Option.map_eq_some_iff.1 h1
  have := (List.getElem?_eq_some_iff.1 hu).2
  rw [← this]
  rfl
theorem samev_calls3 (w : World) {b1 b2 : Nat} {v1 v2 : Value} (l k : List ByteArray) (r : Bool) (hr : clearwaylaw29_same.f (l.length + 1) l k = some r) (h1 : w.ownsRow b1 9 1 v1 l.length (l.map Value.string)) (h2 : w.ownsRow b2 9 1 v2 k.length (k.map Value.string)) :
    Calls Tryz.prog 18 #[v1, v2] w fun e w' => e = .returned (.bool r) ∧ Below w.heap.size w w' := by
  obtain ⟨A, c, rfl, hc, hr1⟩ := own_C h1
  obtain ⟨A2, c2, rfl, hc2, hr2⟩ := own_C h2
  exact (clearwaylaw29_same.calls _ A c l A2 c2 k r w hr1 hc hr2 hc2 hr).mono fun e w' ⟨h1, h2⟩ => ⟨h1, h2.below⟩
theorem heads_calls {w : World} {b c : Nat} {A : Option Addr} (l : List ByteArray) (h : w.ownsRow b 9 1 (.slice A l.length c) l.length (l.map Value.string)) (hl : ∀ r ∈ l, r.size ≤ 65536) (hn : l.length ≤ 1000000) :
    Calls Tryz.prog 27 #[.slice A l.length c] w fun e w' => ∃ v, e = .returned v ∧ w'.ownsRow w.heap.size 9 1 v (headsG chF z32 l).length ((headsG chF z32 l).map Value.string) ∧ Below w.heap.size w w' := by
  obtain ⟨A', c', hv, hc, hr⟩ := own_C h
  injection hv with e1 e2 e3
  subst e1
  subst e3
  refine (Dm.clearwaylaw29_heads.calls _ A c l _ w hr hc (heads_f l hl hn)).mono ?_
  rintro e w' ⟨v, rfl, hR, hb⟩
  exact ⟨v, rfl, own_R hR, hb⟩
theorem own_some {w : World} {b n : Nat} {v : Value} {l : List ByteArray} (h : w.ownsRow b 9 1 v n (l.map Value.string)) (h0 : 0 < n) : ∃ g c, v = .slice (some ⟨g, 0, none⟩) n c ∧ g < w.heap.size ∧ ∀ (i : Nat) (s : ByteArray), l[i]? = some s → w.cell? ⟨g, i, none⟩ = some (.string s) := by
  rcases id h.2 with ⟨_, e⟩ | ⟨g, cap, cur, rfl, hb, hg, _⟩
  · omega
  · refine ⟨g, cap, rfl, (Array.getElem?_eq_some_iff.1 hg).1, fun i s hs => ?_⟩
    have := h.cells (g := g) rfl i (.string s) (by rw [List.getElem?_map, hs]; rfl)
    cases i <;> simpa [Addr.add] using this
theorem bytes_ne (h a b : ByteArray) (hne : a ≠ b) : ((⟨#[2]⟩ : ByteArray) ++ h ++ a).toList ≠ ((⟨#[2]⟩ : ByteArray) ++ h ++ b).toList := by
  intro e
  have e2 := congrArg bl (Go.Proofs.YtniegajdmbepbaaGreatDoor.WPure.nl_toList.1 e)
  have e3 : bl ((⟨#[2]⟩ : ByteArray) ++ h) ++ bl a = bl ((⟨#[2]⟩ : ByteArray) ++ h) ++ bl b := by rw [← bl_append, ← bl_append]; exact e2
  exact hne (bl_inj (List.append_cancel_left e3))
theorem wpNormD {Q : Exit → Act → World → Prop} {a : Act} {W : World} (F : World → Prop) (hF : F W) (h : ∀ W', F W' → Q .normal a W') : Q .normal a W := h W hF
set_option maxRecDepth 100000 in
set_option maxHeartbeats 16000000 in
theorem damagedLaw (w : World) (A : Option Addr) (len cap : Nat) (z : List (List ByteArray)) (at' : Int) (c : Int)
    (hz : z.length = len ∧ len ≤ cap ∧ cap ≤ maxLen ∧ Kd.C (Kd.slice 9 Kd.string) w A len z ∧ ∀ x ∈ z, True) (hat : (Lit.int .i64 at').wf = true) (hcw : (Lit.int .u8 c).wf = true) (hA : Sha.Amb w ∧ ∃ a, AmbE a w) :
    Calls Tryz.prog 4 #[.slice A len cap, .int .i64 at', .int .u8 c] w fun e w' => e = .returned (.bool true) ∧ Below w.heap.size w w' := by
  obtain ⟨rfl, hcap, hmax, hC, _⟩ := hz
  obtain ⟨hA, a, hE⟩ := hA
  have g1 : 3 < w.heap.size := (Array.getElem?_eq_some_iff.1 hA.choose_spec.choose_spec).1
  have g2 : 0 < w.heap.size := (Array.getElem?_eq_some_iff.1 hE.choose_spec.choose_spec).1
  obtain ⟨ha1, ha2⟩ : -9223372036854775808 ≤ at' ∧ at' ≤ 9223372036854775807 := by simpa [Lit.wf, IntKind.min, IntKind.max, IntKind.signed, IntKind.bits] using hat
  obtain ⟨hc1, hc2⟩ : 0 ≤ c ∧ c ≤ 255 := by simpa [Lit.wf, IntKind.min, IntKind.max, IntKind.signed, IntKind.bits] using hcw
  obtain ⟨cn, rfl⟩ : ∃ cn : Nat, c = (cn : Int) := ⟨c.toNat, by omega⟩
  have hcn : cn < 256 := by omega
  have hlen : z.length ≤ 9223372036854775807 := by unfold maxLen at hmax; omega
  go_enter Tryz.func4, Tryz.ntmps4
  go_upto_region 2 with (go_at_call 8; refine (sane_calls w a hA hE).mono ?_; rintro e w0 ⟨rfl, b0⟩)
  have hnew : Calls Tryz.prog 24 #[.int .i64 6000] w0 _ := new_calls w0 6000 (by decide) (by decide)
  go_upto_region 3 with (go_at_call 24; refine hnew.mono ?_; rintro e w2 ⟨D, rfl, hd2, b2, hDB⟩)
  have hDw : w.heap.size ≤ D.B := by rw [hDB]; exact b0.size
  have B2 : Below w.heap.size w w2 := b0.trans (b2.mono b0.size)
  have a2 : Ambs a D w2 := ⟨hA.below_block B2, hE.keep (B2.block _ g2), by omega, by omega⟩
  go_upto_region 4 with (go_at_call 25; refine (open_new hd2 (by decide) a2).mono ?_; rintro e w3 ⟨j, rfl, h3, o3, a3, b3⟩)
  have B3 : Below w.heap.size w w3 := B2.trans (b3.mono hDw)
  obtain ⟨Bj, hBj⟩ : ∃ Bj, w2.heap.size = Bj := ⟨_, rfl⟩
  rw [hBj] at h3
  refine wp_world (fun W => (∃ dk jr m, Good W Bj j D dk jr m 6000 ∧ dk.left = 0 ∧ jr.records.length ≤ 0 ∧ ∀ s ∈ jr.records, s.size ≤ 100) ∧ Ambs a D W ∧ Below w.heap.size w W) ⟨⟨_, _, _, h3, rfl, Nat.le_refl _, fun s hs => by cases hs⟩, a3, B3⟩ ?_
  clear B3 B2 b3 b2 b0 o3 h3 a3 a2 hd2 hBj hDB hnew
  rintro W3 ⟨h3, a3, b3⟩
  go_wp2_with fail
  go_loopw [12] (fun v wr => ∃ i : Nat, v = .int .i64 (i : Int) ∧ i ≤ 6 ∧ i ≤ z.length ∧ (∃ dk jr m, Good wr Bj j D dk jr m 6000 ∧ dk.left = 0 ∧ jr.records.length ≤ i * 6 ∧ ∀ s ∈ jr.records, s.size ≤ 100) ∧ Ambs a D wr ∧ Below w.heap.size w wr) (fun v _ => 6 - (intOf v).toNat)
  case atStart =>
    obtain ⟨dk, jr, m, q⟩ := h3
    exact ⟨0, rfl, by omega, Nat.zero_le _, ⟨dk, jr, m, q.1, q.2.1, by have := q.2.2.1; omega, q.2.2.2⟩, a3, b3⟩
  case round =>
    clear h3 a3 b3
    obtain ⟨i, rfl, hi6, hiz, ⟨dk, jr, m, G, hleft, hrl, hrs⟩, aI, bI⟩ := hrel
    by_cases h1 : i < z.length ∧ i < 6
    · have x1 : decide ((i : Int) < (z.length : Int)) = true := decide_eq_true (by omega)
      have x2 : ((i : Int) < (z.length : Int)) = True := eq_true (by omega)
      have x3 : decide ((i : Int) < 6) = true := decide_eq_true (by omega)
      have x4 : ((i : Int) < 6) = True := eq_true (by omega)
      obtain ⟨ad, cs, rfl, hcl, ⟨A', c', rfl, hc', hK'⟩, hcell⟩ := Kd.C_get (Kd.C_below hC bI) [] (i : Int) (by omega) (by omega)
      have hcell := hcell 0 _ rfl
      rw [Int.toNat_natCast] at hK' hcell hc'
      rw [Nat.add_zero, show (Kd.slice 9 Kd.string).sz = 1 from rfl, Nat.mul_one] at hcell
      generalize hg : z.getD i [] = g at hK' hcell hc'
      have hFl := fewF_length g
      have hFs := fewF_size g
      have hsb := recs_size (fewF g) hFs jr.head
      have hjb := recs_size jr.records hrs z32
      rw [← G.fine.size] at hjb
      have htot := G.tot
      go_wp2_with (first
        | (go_at_call 10; refine ((G.keep ba).app_ok hleft (aI.keep' ba) hSt (by omega) (fun s hs => by have := hFs s hs; omega) _ rfl (by omega)).mono ?_; rintro e wb ⟨dk', jr', rfl, G2, hrec, hl2, ho2, a2, bb⟩)
        | (go_at_call 11; refine (few_calls _ A' c' g hK' hc').mono ?_; rintro e wa ⟨v, rfl, hR, hSt, ba⟩
           obtain ⟨A2, c2, rfl, _⟩ := id hSt))
      have B2 : Below w.heap.size w wb := (bI.trans (ba.mono bI.size)).trans (bb.mono hDw)
      go_roundw
      case rel =>
        refine ⟨i + 1, by simp, by omega, by omega, ⟨dk', jr', _, G2, hl2, by rw [hrec, List.length_append]; omega, fun s hs => ?_⟩, a2, B2⟩
        rw [hrec] at hs
        rcases List.mem_append.1 hs with hs | hs
        · exact hrs s hs
        · exact hFs s hs
      case measure => simp [intOf]; omega
    · have hiK2 := hi6
      go_upto_region 7 with (fail)
      refine nrm_wp (fun a' w' => ∃ (z36 z37 z38 z39 z40 z41 z42 : Value), a' = ⟨#[Value.slice A z.length cap, Value.int IntKind.i64 at', Value.int IntKind.u8 (cn : Int), undef, undef, undef, u6, Value.bool true, Value.pointer (some ⟨D.d, 0, none⟩), Value.int IntKind.i64 0, Value.pointer (some ⟨j, 0, none⟩), Value.int IntKind.i64 0, Value.int IntKind.i64 (i : Int), undef, undef, undef, undef, undef, undef, undef, undef, undef, undef, undef, Value.bool true, Value.tuple #[Value.pointer (some ⟨D.d, 0, none⟩), Value.int IntKind.i64 0], Value.tuple #[Value.pointer (some ⟨D.d, 0, none⟩), Value.int IntKind.i64 0], Value.pointer (some ⟨D.d, 0, none⟩), Value.int IntKind.i64 0, Value.tuple #[Value.pointer (some ⟨j, 0, none⟩), Value.int IntKind.i64 0], Value.pointer (some ⟨D.d, 0, none⟩), Value.tuple #[Value.pointer (some ⟨j, 0, none⟩), Value.int IntKind.i64 0], Value.pointer (some ⟨j, 0, none⟩), Value.int IntKind.i64 0, Value.int IntKind.i64 0, Value.bool false, z36, z37, z38, z39, z40, z41, z42, Value.bool false, u44, u45, u46, u47, u48, u49, u50, u51, u52, u53, undef, undef, undef, undef, undef, undef, undef, undef, undef, undef, undef, undef, undef, undef, undef, undef, undef, undef, undef, undef, undef, undef, undef, undef, undef, undef, undef, undef, undef, undef, undef, undef, undef, undef, undef, undef, undef, undef, undef, undef, undef, undef, undef, undef, undef, undef, undef, undef, undef, undef, undef, undef, undef, undef, undef, undef, undef, undef, undef, undef, undef, undef, undef, undef, undef, undef, undef, undef, undef, undef, undef, undef, undef, undef, undef, undef, undef, undef, undef, undef, undef, undef, undef, undef, undef, undef, undef, undef, undef, undef, undef, undef, undef, undef, undef, undef, undef, undef, undef, undef, undef, undef, undef, undef, undef, undef, undef, undef, undef, undef, undef, undef, undef, undef, undef, undef, undef, undef, undef, undef, undef, undef, undef, undef, undef, undef], []⟩ ∧ w' = wr) ?_ ?_
      · by_cases hz1 : i < z.length
        · have y1 : decide ((i : Int) < (z.length : Int)) = true := decide_eq_true (by omega)
          have y2 : ((i : Int) < (z.length : Int)) = True := eq_true (by omega)
          have y3 : decide ((i : Int) < 6) = false := decide_eq_false (by omega)
          have y4 : ((i : Int) < 6) = False := eq_false (by omega)
          have y5 : ((6 : Int) ≤ (i : Int)) = True := eq_true (by omega)
          go_wp2_with fail
          exact ⟨⟨_, _, _, _, _, _, _, rfl⟩, rfl⟩
        · have y1 : decide ((i : Int) < (z.length : Int)) = false := decide_eq_false (by omega)
          have y2 : ((i : Int) < (z.length : Int)) = False := eq_false (by omega)
          have y3 : (i < z.length) = False := eq_false (by omega)
          go_wp2_with fail
          exact ⟨⟨_, _, _, _, _, _, _, rfl⟩, rfl⟩
      · rintro a' w' ⟨z36, z37, z38, z39, z40, z41, z42, rfl, rfl⟩
        obtain ⟨R, hR⟩ : ∃ R, jr.records = R := ⟨_, rfl⟩
        have hjb := recs_size jr.records hrs z32
        have hj33 := rec_le34 jr.records z32
        rw [← G.fine.size] at hjb hj33
        have htot := G.tot
        obtain ⟨U, hU⟩ : ∃ U, jr.size = U := ⟨_, rfl⟩
        have hrec := records_calls G.jour (by omega)
        rw [hR] at hrec hrl hrs hjb hj33
        rw [hU] at hjb hj33 htot
        have hw1 : IntKind.i64.wrap (6000 - (m : Int)) = (U : Int) := by rw [IntKind.wrap_i64]; omega
        go_upto_region 13 with (first
          | (go_at_call 20; refine (G.keep b5).room.mono ?_; rintro e w6 ⟨rfl, b6⟩)
          | (go_at_call 19; refine hrec.mono ?_; rintro e w5 ⟨v5, rfl, o5, b5⟩; obtain ⟨A5, c5, rfl⟩ := own_form o5))
        have k6 := b5.trans (b6.mono b5.size)
        obtain ⟨q5, hq5⟩ : ∃ q, w'.heap.size = q := ⟨_, rfl⟩
        rw [hq5] at o5
        refine wp_world (fun W => Good W Bj j D dk jr m 6000 ∧ Ambs a D W ∧ Below w.heap.size w W ∧ W.ownsRow q5 9 1 (.slice A5 R.length c5) R.length (R.map Value.string)) ⟨G.keep k6, aI.keep' k6, bI.trans (k6.mono bI.size), own_below o5 b6⟩ ?_
        clear k6 b6 b5 o5 hq5 hrec G aI bI
        rintro W6 ⟨G, aI, bI, r⟩
        by_cases hU0 : U = 0
        · subst hU0
          have hR0 : R.length = 0 := by omega
          go_wp2_with fail
          go_ret
          exact ⟨rfl, bI⟩
        have u1 : decide ((U : Int) ≤ 0) = false := decide_eq_false (by omega)
        have u2 : ((U : Int) ≤ 0) = False := eq_false (by omega)
        have u3 : decide ((6000 : Int) < (U : Int)) = false := decide_eq_false (by omega)
        have u4 : ((6000 : Int) < (U : Int)) = False := eq_false (by omega)
        have u5 : (6000 < U) = False := eq_false (by omega)
        have u6 : (U = 0) = False := eq_false hU0
        obtain ⟨k, hk, hk2⟩ := pick_f at' (U : Int) ha1 ha2 (by omega)
        obtain ⟨Ar, cr, hvr, hcr, hCr⟩ := own_C r
        injection hvr with e1 e2 e3
        subst e1
        subst e3
        obtain ⟨sz, hsz⟩ : ∃ sz, sized R (k : Int) = sz := ⟨_, rfl⟩
        have hszf := sized_f R hrs (by omega) k (by omega)
        rw [hsz] at hszf
        go_upto_region 16 with (go_at_call 14; refine (clearwaylaw29_pick.calls at' (U : Int) _ _ hk).mono ?_; rintro e wp ⟨rfl, hdr⟩)
        have kp := hdr.below
        have hszc := Dm.clearwaylaw29_sized.calls _ A5 c5 R (k : Int) sz wp (Kd.C_below hCr kp) hcr hszf
        cases sz with
        | true =>
          go_wp2_with (go_at_call 26; refine hszc.mono ?_; rintro e wq ⟨rfl, bq⟩)
          go_ret
          exact ⟨rfl, bI.trans ((kp.trans (bq.mono kp.size)).mono bI.size)⟩
        | false =>
          go_upto_region 18 with (go_at_call 26; refine hszc.mono ?_; rintro e wq ⟨rfl, bq⟩)
          have kq := kp.trans (bq.mono kp.size)
          refine wp_world (fun W => Good W Bj j D dk jr m 6000 ∧ Ambs a D W ∧ Below w.heap.size w W ∧ W.ownsRow q5 9 1 (.slice A5 R.length c5) R.length (R.map Value.string)) ⟨G.keep kq, aI.keep' kq, bI.trans (kq.mono bI.size), own_below r kq⟩ ?_
          clear kq bq hszc kp hdr hszf hCr G aI bI r u1 u2 u3 u4 u5 u6 hw1
          rintro W7 ⟨G, aI, bI, r⟩
          have hcon := content_calls G.disk G.fine.on
          have hvl : dk.vis.length = 6000 := G.vis
          have hvlt : ∀ b ∈ dk.vis, b < 256 := by obtain ⟨pv, h⟩ := G.disk; exact h.lt
          have hSz : (ofB dk.vis).size = 6000 := by rw [size_ofB hvlt, hvl]
          obtain ⟨vk, hvk⟩ : ∃ vk, dk.vis[k]? = some vk := ⟨_, List.getElem?_eq_getElem (by omega)⟩
          obtain ⟨S, hS⟩ : ∃ S, ofB dk.vis = S := ⟨_, rfl⟩
          rw [hS] at hcon hSz
          go_upto_region 19 with (go_at_call 22; refine hcon.mono ?_; rintro e w8 ⟨rfl, rfl⟩)
          have hSk : (S[k]'(by omega)).toNat = vk := vis_byte hvlt hvk hS (by omega)
          have k61 : ((k : Int) < 6000) = True := eq_true (by omega)
          have k62 : (k < 6000) = True := eq_true (by omega)
          by_cases hvc : vk = cn
          · subst hvc
            go_wp2_with fail
            go_ret
            exact ⟨rfl, bI⟩
          have e1 : ((vk : Int) == (cn : Int)) = false := by simp; omega
          have e2 : decide ((vk : Int) = (cn : Int)) = false := decide_eq_false (by omega)
          have e3 : ((vk : Int) = (cn : Int)) = False := eq_false (by omega)
          have hcv := fun W => conv_one cn hcn W
          have hone : (ofB [cn]).size = 1 := by rw [size_ofB (fun b hb => by rw [List.mem_singleton] at hb; omega)]; rfl
          have hdkv : dk = ⟨false, 0, dk.dur, dk.vis, []⟩ := by rw [← G.fine.on, ← hleft, ← G.fine.pend]
          have hdl : dk.dur.length = 6000 := G.dur
          have hwr := fun (W : World) (hW : Below w8.heap.size w8 W) => write_calls (G.disk.keep hW) (k : Int) (ofB [cn]) (by rw [G.fine.pend]; decide)
          have hwe : dk.write (k : Int) (ofB [cn]) = (⟨false, 0, dk.dur, dk.vis.set k cn, [(k, ofB [cn])]⟩, 0) := by
            rw [hdkv]
            rw [write_in 0 dk.dur dk.vis [] k (ofB [cn]) (by omega)]
            rw [bl_ofB (fun b hb => by rw [List.mem_singleton] at hb; omega), splice_one _ _ _ (by omega)]
            rfl
          rw [hwe] at hwr
          obtain ⟨V9, hV9⟩ : ∃ V9, dk.vis.set k cn = V9 := ⟨_, rfl⟩
          have hV9l : V9.length = 6000 := by rw [← hV9, List.length_set]; exact hvl
          have hV9t : ∀ b ∈ V9, b < 256 := by
            intro b hb
            rw [← hV9] at hb
            rcases List.mem_or_eq_of_mem_set hb with hb | hb
            · exact hvlt b hb
            · omega
          rw [hV9] at hwr
          go_upto_region 22 with (go_at_call 13; refine (hwr _ (by first | exact below_alloc (Below.refl _ w8) _ | exact (below_alloc (Below.refl _ w8) _).drew)).mono ?_; rintro e w9 ⟨rfl, hd9, o9⟩)
          have o9' : Off D w8 w9 := (Off.of_below (by first | exact below_alloc (Below.refl _ w8) _ | exact (below_alloc (Below.refl _ w8) _).drew)).trans o9
          have bl9 := o9'.below G.disk.sizeB
          have r9 := own_off r o9' G.disk
          refine wp_world (fun W => DiskAt W D ⟨false, 0, dk.dur, V9, [(k, ofB [cn])]⟩ ∧ Ambs a D W ∧ Below w.heap.size w W ∧ W.ownsRow q5 9 1 (.slice A5 R.length c5) R.length (R.map Value.string)) ⟨hd9, aI.keep bl9, bI.trans (bl9.mono hDw), r9⟩ ?_
          clear r9 bl9 o9' o9 hd9 hwr hcv e1 e2 e3 hSk k61 k62 r bI aI hcon
          rintro W9 ⟨D9, aI, bI, r⟩
          have hop := jopen_calls D9 a aI.amb aI.ambE (by show 1 + 2 ≤ _; omega)
          have hR6 : ∀ x ∈ R, x.size ≤ 65536 := fun x hx => by have := hrs x hx; omega
          have hvis : dk.vis = stored chF z32 R ++ zeros m := by rw [← hR]; exact G.fine.vis
          have hUl : (stored chF z32 R).length = U := by rw [← hR, ← G.fine.size, hU]
          have hne : (stored chF z32 R)[k]? ≠ some cn := by
            intro hh
            have h2 : dk.vis[k]? = some cn := by rw [hvis, List.getElem?_append_left (by omega)]; exact hh
            rw [hvk] at h2
            exact hvc (Option.some.inj h2)
          cases hP : parse chF (V9.length + 1) z32 V9 with
          | none =>
            have hom := openM_bad ⟨false, 0, dk.dur, V9, [(k, ofB [cn])]⟩ rfl hP
            rw [hom] at hop
            go_wp2_with (go_at_call 25; refine hop.mono ?_; rintro e wd ⟨hd10, o10, rfl⟩)
            go_ret
            exact ⟨rfl, bI.trans ((o10.below D9.sizeB).mono hDw)⟩
          | some pr =>
            obtain ⟨is, n⟩ := pr
            obtain ⟨p1, p2, p3, _⟩ := parse_some chF (V9.length + 1) z32 V9 is n hV9t (by omega) hP
            have hisl : is.length * 33 ≤ 6000 := by have h1 := rec_le34 is z32; rw [← p2, List.length_take] at h1; omega
            obtain ⟨d9, hom⟩ := openM_some dk.dur V9 [(k, ofB [cn])] is n (by omega) hP p1
            rw [hom] at hop
            have hmath := damaged chF chF_size R z32 (zeros m) k cn (V9.length + 1) n is hR6 (by omega) hsz hne hcn (by rw [← hvis, hV9]; exact hP) (by omega) (by omega)
            go_upto_region 23 with (go_at_call 25; refine hop.mono ?_; rintro e wd ⟨hd10, o10, j2, rfl, J2⟩)
            have r10 := own_off r o10 D9
            have b10 := bI.trans ((o10.below D9.sizeB).mono hDw)
            obtain ⟨Bq, hBq⟩ : ∃ B, W9.heap.size = B := ⟨_, rfl⟩
            rw [hBq] at J2
            have hrc := records_calls J2 (show is.length ≤ _ by omega)
            go_upto_region 28 with (go_at_call 19; refine hrc.mono ?_; rintro e we ⟨v11, rfl, o11, b11⟩; obtain ⟨A11, c11, rfl⟩ := own_form o11)
            obtain ⟨q11, hq11⟩ : ∃ q, wd.heap.size = q := ⟨_, rfl⟩
            rw [hq11] at o11
            refine wp_world (fun W => Below w.heap.size w W ∧ W.ownsRow q5 9 1 (.slice A5 R.length c5) R.length (R.map Value.string) ∧ W.ownsRow q11 9 1 (.slice A11 is.length c11) is.length (is.map Value.string)) ⟨b10.trans (b11.mono b10.size), own_below r10 b11, o11⟩ ?_
            clear o11 b11 hq11 hrc hBq b10 r10 J2 o10 hd10 hop r bI aI D9 G hom hdkv
            rintro W12 ⟨bI, r, s⟩
            have hc5 := own_capS r
            obtain ⟨q, hq, heq⟩ := same_any is (R.take is.length) (by omega) (by rw [List.length_take]; omega)
            have hsm := fun (hle : is.length ≤ R.length) => samev_calls3 W12 is (R.take is.length) q hq s (own_takeS r is.length hle rfl)
            by_cases hq1 : cn = 0 ∧ is.length < R.length ∧ q = true
            · obtain ⟨hf1, hf2, hf3⟩ := hq1
              subst hf1
              subst hf3
              have f1 : decide ((is.length : Int) < (R.length : Int)) = true := decide_eq_true (by omega)
              have f2 : ((is.length : Int) < (R.length : Int)) = True := eq_true (by omega)
              have f3 : (is.length < R.length) = True := eq_true (by omega)
              have f4 : ((is.length : Int) ≤ (c5 : Int)) = True := eq_true (by omega)
              have f5 : (is.length ≤ c5) = True := eq_true (by omega)
              go_wp2_with (go_at_call 18; refine (hsm (by omega)).mono ?_; rintro e wf ⟨rfl, bf⟩)
              go_ret
              exact ⟨rfl, bI.trans (bf.mono bI.size)⟩
            have h2 : ∃ (i0 : Nat) (rr xx : ByteArray), is.take i0 = R.take i0 ∧ R[i0]? = some rr ∧ is[i0]? = some xx ∧ rr ≠ xx ∧ chF (headOf chF z32 (R.take i0)) rr = chF (headOf chF z32 (R.take i0)) xx := by
              rcases hmath with ⟨h0, i1, hi1, hi2⟩ | h
              · have hl := congrArg List.length hi2
                rw [List.length_take] at hl
                have hli : is.length = i1 := by omega
                exact absurd ⟨h0, by omega, heq (by rw [hli]; exact hi2)⟩ hq1
              · exact h
            clear hmath heq
            refine nrm_wp (fun a' w' => ∃ (z122 z123 z124 z125 z126 z127 z128 z129 z130 z131 z132 z133 z134 z135 z136 z137 z138 : Value), a' = ⟨#[Value.slice A z.length cap, Value.int IntKind.i64 at', Value.int IntKind.u8 (cn : Int), undef, undef, undef, u6, Value.bool true, Value.pointer (some ⟨D.d, 0, none⟩), Value.int IntKind.i64 0, Value.pointer (some ⟨j, 0, none⟩), Value.int IntKind.i64 0, Value.int IntKind.i64 (i : Int), Value.slice A5 R.length c5, Value.int IntKind.i64 (U : Int), Value.int IntKind.i64 (k : Int), Value.string S, Value.pointer (some ⟨j2, 0, none⟩), Value.int IntKind.i64 0, Value.slice A11 is.length c11, Value.bool false, undef, undef, undef, Value.bool true, Value.tuple #[Value.pointer (some ⟨D.d, 0, none⟩), Value.int IntKind.i64 0], Value.tuple #[Value.pointer (some ⟨D.d, 0, none⟩), Value.int IntKind.i64 0], Value.pointer (some ⟨D.d, 0, none⟩), Value.int IntKind.i64 0, Value.tuple #[Value.pointer (some ⟨j, 0, none⟩), Value.int IntKind.i64 0], Value.pointer (some ⟨D.d, 0, none⟩), Value.tuple #[Value.pointer (some ⟨j, 0, none⟩), Value.int IntKind.i64 0], Value.pointer (some ⟨j, 0, none⟩), Value.int IntKind.i64 0, Value.int IntKind.i64 0, Value.bool false, z36, z37, z38, z39, z40, z41, z42, Value.bool false, u44, u45, u46, u47, u48, u49, u50, u51, u52, u53, Value.pointer (some ⟨j, 0, none⟩), Value.slice A5 R.length c5, Value.pointer (some ⟨j, 0, none⟩), Value.int IntKind.i64 (m : Int), Value.int IntKind.i64 (U : Int), Value.int IntKind.i64 (U : Int), Value.bool false, Value.bool false, Value.int IntKind.i64 (U : Int), Value.bool false, Value.bool false, undef, undef, undef, undef, undef, undef, undef, undef, undef, undef, Value.int IntKind.i64 at', Value.int IntKind.i64 (U : Int), Value.int IntKind.i64 (k : Int), Value.slice A5 R.length c5, Value.int IntKind.i64 (k : Int), Value.bool false, undef, Value.pointer (some ⟨D.d, 0, none⟩), Value.string S, Value.string S, Value.int IntKind.i64 6000, Value.bool false, Value.bool false, Value.string S, Value.int IntKind.i64 (k : Int), Value.int IntKind.u8 (vk : Int), Value.int IntKind.u8 (cn : Int), Value.bool false, Value.bool false, undef, undef, undef, undef, undef, undef, Value.pointer (some ⟨D.d, 0, none⟩), Value.int IntKind.i64 (k : Int), Value.int IntKind.u8 (cn : Int), Value.slice (some ⟨w8.heap.size, 0, none⟩) 1 1, Value.string (ofB [cn]), Value.int IntKind.i64 0, Value.tuple #[Value.pointer (some ⟨j2, 0, none⟩), Value.int IntKind.i64 0], Value.pointer (some ⟨D.d, 0, none⟩), Value.tuple #[Value.pointer (some ⟨j2, 0, none⟩), Value.int IntKind.i64 0], Value.pointer (some ⟨j2, 0, none⟩), Value.int IntKind.i64 0, Value.int IntKind.i64 0, Value.bool false, undef, Value.int IntKind.i64 0, Value.bool false, Value.bool false, Value.pointer (some ⟨j2, 0, none⟩), Value.bool false, Value.bool false, Value.pointer (some ⟨j2, 0, none⟩), Value.slice A11 is.length c11, z122, z123, z124, z125, z126, z127, z128, z129, z130, z131, z132, z133, z134, z135, z136, z137, z138, undef, undef, undef, undef, undef, undef, undef, undef, undef, undef, undef, undef, undef, undef, undef, undef, undef, undef, undef, undef, undef, undef, undef, undef, undef, undef, undef, undef, undef, undef, undef, undef, undef, undef, undef, undef, undef, undef, undef, undef, undef], []⟩ ∧ Below W12.heap.size W12 w') ?_ ?_
            · by_cases h0 : cn = 0
              · subst h0
                by_cases hf2 : is.length < R.length
                · have hqf : q = false := by
                    cases q with
                    | true => exact absurd ⟨rfl, hf2, rfl⟩ hq1
                    | false => rfl
                  subst hqf
                  have f1 : decide ((is.length : Int) < (R.length : Int)) = true := decide_eq_true (by omega)
                  have f2 : ((is.length : Int) < (R.length : Int)) = True := eq_true (by omega)
                  have f3 : (is.length < R.length) = True := eq_true (by omega)
                  have f4 : ((is.length : Int) ≤ (c5 : Int)) = True := eq_true (by omega)
                  have f5 : (is.length ≤ c5) = True := eq_true (by omega)
                  clear hq1 h2
                  go_wp2_with (go_at_call 18; refine (hsm (by omega)).mono ?_; rintro e wf ⟨rfl, bf⟩)
                  exact ⟨⟨_, _, _, _, _, _, _, _, _, _, _, _, _, _, _, _, _, rfl⟩, bf⟩
                · have f1 : decide ((is.length : Int) < (R.length : Int)) = false := decide_eq_false (by omega)
                  have f2 : ((is.length : Int) < (R.length : Int)) = False := eq_false (by omega)
                  have f3 : (is.length < R.length) = False := eq_false (by omega)
                  clear hq1 h2
                  go_wp2_with fail
                  exact ⟨⟨_, _, _, _, _, _, _, _, _, _, _, _, _, _, _, _, _, rfl⟩, Below.refl _ _⟩
              · have f1 : decide ((cn : Int) = 0) = false := decide_eq_false (by omega)
                have f2 : ((cn : Int) = 0) = False := eq_false (by omega)
                have f3 : (cn = 0) = False := eq_false (by omega)
                have f4 : ((cn : Int) == 0) = false := by simp; omega
                clear hq1 h2
                go_wp2_with fail
                exact ⟨⟨_, _, _, _, _, _, _, _, _, _, _, _, _, _, _, _, _, rfl⟩, Below.refl _ _⟩
            rintro a' wz ⟨z122, z123, z124, z125, z126, z127, z128, z129, z130, z131, z132, z133, z134, z135, z136, z137, z138, rfl, bz⟩
            obtain ⟨i0, rr, xx, g0, gr, gx, gne, gch⟩ := h2
            have hi1 := (List.getElem?_eq_some_iff.1 gr).1
            have hi2 := (List.getElem?_eq_some_iff.1 gx).1
            refine wpNormD (fun W => Below w.heap.size w W ∧ W.ownsRow q5 9 1 (.slice A5 R.length c5) R.length (R.map Value.string) ∧ W.ownsRow q11 9 1 (.slice A11 is.length c11) is.length (is.map Value.string)) ⟨bI.trans (bz.mono bI.size), own_below r bz, own_below s bz⟩ ?_
            clear bz hsm hq hq1 r s bI
            rintro W13 ⟨bI, r, s⟩
            go_upto_region 33 with (first
              | (go_at_call 27; refine (heads_calls is (own_below s b14) p3 (by omega)).mono ?_; rintro e w15 ⟨v15, rfl, o15, b15⟩; obtain ⟨A15, c15, rfl⟩ := own_form o15)
              | (go_at_call 27; refine (heads_calls R r hR6 (by omega)).mono ?_; rintro e w14 ⟨v14, rfl, o14, b14⟩; obtain ⟨A14, c14, rfl⟩ := own_form o14))
            obtain ⟨La, hLa⟩ : ∃ La, headsG chF z32 R = La := ⟨_, rfl⟩
            obtain ⟨Lb, hLb⟩ : ∃ Lb, headsG chF z32 is = Lb := ⟨_, rfl⟩
            have nLa : La.length = R.length := by rw [← hLa]; exact headsG_length chF R z32
            have nLb : Lb.length = is.length := by rw [← hLb]; exact headsG_length chF is z32
            have sLa : ∀ x ∈ La, x.size ≤ 33 + 65536 := by rw [← hLa]; exact headsG_small chF chF_size R 65536 z32 z32_size hR6
            have sLb : ∀ x ∈ Lb, x.size ≤ 33 + 65536 := by rw [← hLb]; exact headsG_small chF chF_size is 65536 z32 z32_size p3
            have gA : ∀ jn x, R[jn]? = some x → La[jn]? = some ((⟨#[2]⟩ : ByteArray) ++ headOf chF z32 (R.take jn) ++ x) := fun jn x hx => by rw [← hLa]; exact headsG_get chF R z32 jn x hx
            have gB : ∀ jn x, is[jn]? = some x → Lb[jn]? = some ((⟨#[2]⟩ : ByteArray) ++ headOf chF z32 (is.take jn) ++ x) := fun jn x hx => by rw [← hLb]; exact headsG_get chF is z32 jn x hx
            rw [hLa] at o14 ⊢
            rw [hLb] at o15 ⊢
            have o14' := own_below o14 b15
            obtain ⟨ga, ca, ea, hga, hxa⟩ := own_some o14' (by omega)
            obtain ⟨gb, cb, eb, hgb, hxb⟩ := own_some o15 (by omega)
            injection ea with ea1 ea2 ea3
            injection eb with eb1 eb2 eb3
            subst ea1 ea3 eb1 eb3
            have b16 : Below w.heap.size w w15 := bI.trans ((b14.trans (b15.mono b14.size)).mono bI.size)
            refine wp_world (fun W => Below w.heap.size w W ∧ ga < W.heap.size ∧ gb < W.heap.size ∧ (∀ (jn : Nat) (t : ByteArray), La[jn]? = some t → W.cell? ⟨ga, jn, none⟩ = some (.string t)) ∧ (∀ (jn : Nat) (t : ByteArray), Lb[jn]? = some t → W.cell? ⟨gb, jn, none⟩ = some (.string t))) ⟨b16, hga, hgb, hxa, hxb⟩ ?_
            clear b16 hga hgb hxa hxb o14' o14 o15 b14 b15 bI r s hLa hLb
            rintro W16 ⟨bI, hga, hgb, hxa, hxb⟩
            replace hxa := Aside0.mk hxa
            replace hxb := Aside0.mk hxb
            replace gA := Aside0.mk gA
            replace gB := Aside0.mk gB
            replace sLa := Aside0.mk sLa
            replace sLb := Aside0.mk sLb
            replace gch := Aside0.mk gch
            replace g0 := Aside0.mk g0
            replace gr := Aside0.mk gr
            replace gx := Aside0.mk gx
            replace gne := Aside0.mk gne
            clear p2 p1 hP
            go_wp2_with fail
            go_loopw [23] (fun v wr => ∃ jn : Nat, v = .int .i64 (jn : Int) ∧ jn ≤ i0 ∧ Below W16.heap.size W16 wr) (fun v _ => i0 - (intOf v).toNat)
            case atStart => exact ⟨0, rfl, Nat.zero_le _, Below.refl _ _⟩
            case round =>
              obtain ⟨jn, rfl, hjn, bW⟩ := hrel
              have d1 : decide ((jn : Int) < (R.length : Int)) = true := decide_eq_true (by omega)
              have d2 : ((jn : Int) < (R.length : Int)) = True := eq_true (by omega)
              have d3 : (jn < R.length) = True := eq_true (by omega)
              have d4 : decide ((jn : Int) < (is.length : Int)) = true := decide_eq_true (by omega)
              have d5 : ((jn : Int) < (is.length : Int)) = True := eq_true (by omega)
              have d6 : (jn < is.length) = True := eq_true (by omega)
              have hga' := Nat.lt_of_lt_of_le hga bW.size
              have hgb' := Nat.lt_of_lt_of_le hgb bW.size
              go_upto_region 36 with (fail)
              by_cases hj : jn < i0
              · obtain ⟨x0, hx0⟩ : ∃ x0, R[jn]? = some x0 := ⟨_, List.getElem?_eq_getElem (by omega)⟩
                have hx1 : is[jn]? = some x0 := by
                  have h1 : (is.take i0)[jn]? = (R.take i0)[jn]? := by rw [g0.out]
                  rw [List.getElem?_take, List.getElem?_take, if_pos hj, if_pos hj, hx0] at h1
                  exact h1
                have htk : is.take jn = R.take jn := by
                  have h1 := congrArg (List.take jn) g0.out
                  rw [List.take_take, List.take_take, Nat.min_eq_left (by omega)] at h1
                  exact h1
                have ha := gA.out jn x0 hx0
                have hb := gB.out jn x0 hx1
                rw [htk] at hb
                refine Sha.norm_wp ?_
                refine dam_eq _ wr wr _ _ _ _ _ _ _ _ _ _ _ _ _ _ _ _ _ _ _ _ _ _ _ _ _ _ _ _ _ _ _ _ _ _ _ _ _ _ _ _ _ _ _ _ _ _ _ _ _ _ _ _ _ _ _ _ _ _ _ _ _ _ _ _ _ _ _ _ _ _ _ _ _ _ _ _ _ _ _ _ _ _ _ _ _ _ _ _ _ _ _ _ _ _ _ _ _ _ _ _ _ _ _ _ _ _ _ _ _ _ _ _ _ _ _ _ _ _ _ _ _ _ _ _ _ _ _ _ _ _ _ _ _ _ _ _ _ _ _ _ _ _ _ _ _ _ _ _ _ _ _ _ _ _ _ _ _ _ _ _ _ _ _ _ _ _ _ _ _ _ _ _ _ _ _ _ _ ga gb R.length is.length c14 c15 jn _ ByteArray.empty d2 d3 d5 d6 hga' hgb' ((bW.cell (p := ⟨ga, jn, none⟩) hga).trans (hxa.out jn _ ha)) ((bW.cell (p := ⟨gb, jn, none⟩) hgb).trans (hxb.out jn _ hb)) (Below.refl _ _) ?_
                intro z157 z158 z159 z160 z161 z162 z163 z164 z165 z166 z167 z168 z169 z170 z171 z172 z173 z174 z175 z176 z177 W17 k17
                go_wp2_with fail
                go_roundw
                case rel => exact ⟨jn + 1, by simp, by omega, bW.trans (Below.mono k17 bW.size)⟩
                case measure => simp [intOf]; omega
              · have hje : jn = i0 := by omega
                subst hje
                have ha := gA.out jn rr gr.out
                have hb := gB.out jn xx gx.out
                rw [g0.out] at hb
                have sa := sLa.out _ (List.mem_of_getElem? ha)
                have sb := sLb.out _ (List.mem_of_getElem? hb)
                refine Sha.norm_wp ?_
                refine dam_ne _ wr wr _ _ _ _ _ _ _ _ _ _ _ _ _ _ _ _ _ _ _ _ _ _ _ _ _ _ _ _ _ _ _ _ _ _ _ _ _ _ _ _ _ _ _ _ _ _ _ _ _ _ _ _ _ _ _ _ _ _ _ _ _ _ _ _ _ _ _ _ _ _ _ _ _ _ _ _ _ _ _ _ _ _ _ _ _ _ _ _ _ _ _ _ _ _ _ _ _ _ _ _ _ _ _ _ _ _ _ _ _ _ _ _ _ _ _ _ _ _ _ _ _ _ _ _ _ _ _ _ _ _ _ _ _ _ _ _ _ _ _ _ _ _ _ _ _ _ _ _ _ _ _ _ _ _ _ _ _ _ _ _ _ _ _ _ _ _ _ _ _ _ _ _ _ _ _ _ _ ga gb R.length is.length c14 c15 jn ((⟨#[2]⟩ : ByteArray) ++ headOf chF z32 (R.take jn) ++ rr) ((⟨#[2]⟩ : ByteArray) ++ headOf chF z32 (R.take jn) ++ xx) 70000 (chF (headOf chF z32 (R.take jn)) rr) d2 d3 d5 d6 hga' hgb' ((bW.cell (p := ⟨ga, jn, none⟩) hga).trans (hxa.out jn _ ha)) ((bW.cell (p := ⟨gb, jn, none⟩) hgb).trans (hxb.out jn _ hb)) (by simpa using bytes_ne _ rr xx gne.out) (by rw [chF_head]; exact Sha.ref_sum _ (by omega) 70000 (by omega)) (by rw [gch.out, chF_head]; exact Sha.ref_sum _ (by omega) 70000 (by omega)) (Below.refl _ _) ?_
                intro z157 z158 z159 z160 z161 z162 z163 z164 z165 z166 z167 z168 z169 z170 z171 z172 z173 z174 z175 z176 z177 W17 k17
                go_wp2_with fail
                go_ret
                exact ⟨rfl, bI.trans ((bW.trans (Below.mono k17 bW.size)).mono bI.size)⟩
end Go.Proofs.YtniegajdmbepbaaGreatDoor.Jm

