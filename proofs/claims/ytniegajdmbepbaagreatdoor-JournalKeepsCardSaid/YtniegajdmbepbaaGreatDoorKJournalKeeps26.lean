/- What a power failure leaves of a disk with a journal, whatever it was about to do: the records before, or these and a whole group; Append and Open there. Condition: none. JournalSurvives's region that makes the records that are wanted. Condition: none. JournalKeeps's regions that draw: the records that are sure, and the power failure. Condition: none. A row of ints that is read, as cells. Condition: none. -/
import Derived.Test.YtniegajdmbepbaaGreatDoorKJournalKeeps23
import Derived.Test.YtniegajdmbepbaaGreatDoorKJournalKeeps25
set_option linter.unusedVariables false
set_option linter.unusedSimpArgs false
namespace Go.Proofs.YtniegajdmbepbaaGreatDoor.Jm
open Go Go.RowKit Go.Shelf Go.Proofs.YtniegajdmbepbaaGreatDoorW.PrintWords Go.Proofs.YtniegajdmbepbaaGreatDoorW.PrintMore Go.Proofs.YtniegajdmbepbaaGreatDoor.Pl Go.Proofs.YtniegajdmbepbaaGreatDoor.Pr

/-- A disk whose power may fail now: what is left of it then. -/
structure Surv (dk : Dk) (N : Nat) (was want : List ByteArray) : Prop where
  len : dk.dur.length = N
  lt : ∀ b ∈ dk.dur, b < 256
  fit : ∀ p ∈ dk.pend, p.1 + p.2.size ≤ dk.dur.length
  few : dk.pend.length ≤ 1
  back : ∀ keep torn, ∃ rs t, (rs = was ∨ rs = want) ∧ Dk.crash dk keep torn = ⟨false, 0, stored chF z32 rs ++ t, stored chF z32 rs ++ t, []⟩ ∧ (t = [] ∨ t.head? = some 0) ∧ (∀ r ∈ rs, r.size ≤ 65536) ∧ (stored chF z32 rs ++ t).length = N
theorem fine_lt {rs : List ByteArray} {t : List Nat} (ht : ∀ b ∈ t, b < 256) : ∀ b ∈ stored chF z32 rs ++ t, b < 256 := by
  intro b hb
  rcases List.mem_append.1 hb with hb | hb
  · exact stored_lt chF rs z32 b hb
  · exact ht b hb
theorem Surv.of_fine {dk : Dk} {jr : Jr} {m N : Nat} (h : Fine chF z32 dk jr m) (ht : jr.size + m = N) (want : List ByteArray) : Surv dk N jr.records want := by
  have hl : (stored chF z32 jr.records ++ zeros m).length = N := by rw [List.length_append, zeros_length, ← h.size, ht]
  refine ⟨by rw [h.dur]; exact hl, by rw [h.dur]; exact fine_lt (zeros_lt m), (by rw [h.pend]; intro p hp; cases hp), by rw [h.pend]; exact Nat.zero_le _, fun keep torn => ?_⟩
  exact ⟨jr.records, zeros m, .inl rfl, crash_fine chF z32 dk jr m h keep torn, zeros_head m, h.small, hl⟩
theorem Surv.of_torn {dk : Dk} {jr : Jr} {N : Nat} {l : List ByteArray} (h : Torn chF z32 dk jr l) (hn : dk.dur.length = N) : Surv dk N jr.records (jr.records ++ l) := by
  obtain ⟨m, h1, h2, h3, h4, h5, h6⟩ := id h
  have hne : stored chF (headOf chF z32 jr.records) l ≠ [] := fun e => h2 ((stored_nil chF l _).1 e)
  have hlt := stored_lt chF l (headOf chF z32 jr.records)
  have h65 := stored_lt chF jr.records z32
  generalize stored chF (headOf chF z32 jr.records) l = s at h1 h6 hne hlt
  obtain ⟨x, t, rfl⟩ : ∃ x t, s = x :: t := by cases s with
    | nil => exact absurd rfl hne
    | cons x t => exact ⟨x, t, rfl⟩
  have ht : ∀ b ∈ t, b < 256 := fun b hb => hlt b (List.mem_cons_of_mem _ hb)
  simp only [List.tail_cons, List.length_cons] at h1 h6
  refine ⟨hn, ?_, ?_, ?_, fun keep torn => ?_⟩
  · rcases h6 with ⟨e, _⟩ | ⟨e, _⟩
    · rw [e]; exact fine_lt (zeros_lt m)
    · rw [e, List.append_assoc]
      refine fine_lt fun b hb => ?_
      rcases List.mem_append.1 hb with hb | hb
      · rcases List.mem_cons.1 hb with rfl | hb
        · decide
        · exact ht b hb
      · exact zeros_lt _ b hb
  · rcases h6 with ⟨e, e2⟩ | ⟨e, e2⟩
    · rw [e, e2]
      intro p hp
      rw [List.mem_singleton] at hp
      subst hp
      show _ + 1 + (ofB t).size ≤ _
      rw [size_ofB ht, List.length_append, zeros_length]
      omega
    · rw [e, e2]
      intro p hp
      rw [List.mem_singleton] at hp
      subst hp
      show _ + (ofB [x]).size ≤ _
      rw [size_ofB (fun b hb => by rw [List.mem_singleton] at hb; subst hb; exact hlt b List.mem_cons_self), List.append_assoc, List.length_append, List.length_append]
      simp
      omega
  · rcases h6 with ⟨_, e2⟩ | ⟨_, e2⟩ <;> rw [e2] <;> exact Nat.le_refl _
  · obtain ⟨rs, q, q1, q2, q3, q4, q5⟩ := crash_torn chF z32 dk jr l h keep torn
    exact ⟨rs, q, q1, q2, q3, q4, q5.trans hn⟩
theorem write_len {d : Dk} {o : Int} {s : ByteArray} {N : Nat} (h1 : d.dur.length = N) (h2 : d.vis.length = N) : (d.write o s).1.dur.length = N ∧ (d.write o s).1.vis.length = N := by
  unfold Dk.write
  split
  · exact ⟨h1, h2⟩
  · split
    · rename_i hi
      unfold Dk.inside at hi
      simp only [Bool.and_eq_true, decide_eq_true_eq] at hi
      have hs : (splice d.vis o.toNat (bl s)).length = N := by rw [splice_length (by rw [bl_length]; omega)]; exact h2
      unfold Dk.used
      dsimp only
      split
      · exact ⟨h1, hs⟩
      · exact ⟨h1, hs⟩
    · exact ⟨h1, h2⟩
theorem sync_len {d : Dk} {N : Nat} (h1 : d.dur.length = N) (h2 : d.vis.length = N) : d.sync.1.dur.length = N ∧ d.sync.1.vis.length = N := by
  unfold Dk.sync
  split
  · exact ⟨h1, h2⟩
  · exact ⟨h2, h2⟩
theorem append_len {d : Dk} {j : Jr} {l : List ByteArray} {N : Nat} (h1 : d.dur.length = N) (h2 : d.vis.length = N) :
    (appendM chF d j l).1.dur.length = N ∧ ((appendM chF d j l).2.2 ≠ 0 → (appendM chF d j l).2.1.head = j.head ∧ (appendM chF d j l).2.1.size = j.size ∧ (appendM chF d j l).2.1.records = j.records) := by
  unfold appendM
  split
  · exact ⟨h1, fun _ => ⟨rfl, rfl, rfl⟩⟩
  · dsimp only
    split
    · exact ⟨h1, fun _ => ⟨rfl, rfl, rfl⟩⟩
    · split
      · exact ⟨h1, fun _ => ⟨rfl, rfl, rfl⟩⟩
      · obtain ⟨a1, a2⟩ := write_len (d := d) (o := ((j.size + 1 : Nat) : Int)) (s := ofB (stored chF j.head l).tail) h1 h2
        generalize hw : d.write ((j.size + 1 : Nat) : Int) (ofB (stored chF j.head l).tail) = x at a1 a2
        obtain ⟨d1, e1⟩ := x
        have hw' : d.write ((j.size : Int) + 1) (ofB (stored chF j.head l).tail) = (d1, e1) := by rw [← hw]; rfl
        rw [hw']
        dsimp only at a1 a2 ⊢
        split
        · exact ⟨a1, fun _ => ⟨rfl, rfl, rfl⟩⟩
        · obtain ⟨b1, b2⟩ := sync_len a1 a2
          generalize d1.sync = y at b1 b2
          obtain ⟨d2, e2⟩ := y
          dsimp only at b1 b2 ⊢
          split
          · exact ⟨b1, fun _ => ⟨rfl, rfl, rfl⟩⟩
          · obtain ⟨c1, c2⟩ := write_len (o := (j.size : Int)) (s := ofB ((stored chF j.head l).take 1)) b1 b2
            generalize d2.write (j.size : Int) (ofB ((stored chF j.head l).take 1)) = z at c1 c2
            obtain ⟨d3, e3⟩ := z
            dsimp only at c1 c2 ⊢
            split
            · exact ⟨c1, fun _ => ⟨rfl, rfl, rfl⟩⟩
            · obtain ⟨f1, f2⟩ := sync_len c1 c2
              generalize d3.sync = u at f1 f2
              obtain ⟨d4, e4⟩ := u
              dsimp only at f1 f2 ⊢
              split
              · exact ⟨f1, fun _ => ⟨rfl, rfl, rfl⟩⟩
              · rename_i q
                exact ⟨f1, fun hh => absurd rfl hh⟩
/-- Append, whenever the power fails. -/
theorem Good.app_last {w : World} {B j : Nat} {D : Dsk} {dk : Dk} {jr : Jr} {m N : Nat} {a : Addr} (h : Good w B j D dk jr m N) (ha : Ambs a D w) {v : Value} {l : List ByteArray} (hl : Strs w v l) (hn : l.length ≤ 6) (hs : ∀ s ∈ l, s.size ≤ 100) :
    Calls Tryz.prog 10 #[.pointer (some ⟨j, 0, none⟩), v] w fun e w' => ∃ (c : Int) (dk' : Dk) (jr' : Jr), e = .returned (.int .i64 c) ∧ DiskAt w' D dk' ∧ JrAt w' B j D jr' ∧ Oj D j w w' ∧ Ambs a D w' ∧ Below D.B w w' ∧
      ((c = 0 ∧ ∃ m', Fine chF z32 dk' jr' m' ∧ jr'.size + m' = N ∧ jr'.records = jr.records ++ l ∧ (dk.left = 0 → dk'.left = 0)) ∨ (c = 291 ∧ dk' = dk ∧ jr' = jr) ∨
       (c = 281 ∧ Surv dk' N jr.records (jr.records ++ l) ∧ dk.left ≠ 0 ∧ dk'.off = true ∧ jr'.broken = true ∧ jr'.records = jr.records ∧ jr'.head = jr.head ∧ jr'.size = jr.size)) := by
  refine (h.append ha hl (by omega) 65536 (by omega) (fun s hh => by have := hs s hh; omega)).mono ?_
  obtain ⟨d', j', e', hap, hc⟩ := append_any chF z32 dk jr m l h.fine
  obtain ⟨hal, hae⟩ := append_len (j := jr) (l := l) h.dur h.vis
  rw [hap] at hal hae ⊢
  rintro e w' ⟨he, hd, hj, ho, ha2, hb⟩
  refine ⟨e', d', j', he, hd, hj, ho, ha2, hb, ?_⟩
  rcases hc with ⟨_, _, _, s, hsl, hss⟩ | ⟨_, he0, hd0, hj0, hf⟩ | ⟨_, hle, he0, hfi, hrec, hl0⟩ | ⟨he0, ht, hrec, hne⟩
  · have := hs s hsl; omega
  · exact .inr (.inl ⟨he0, hd0, hj0⟩)
  · refine .inl ⟨he0, _, hfi, ?_, hrec, hl0⟩
    have e1 := hfi.size
    rw [hrec, stored_append, List.length_append, ← h.fine.size, ← h.fine.head] at e1
    have := h.tot
    omega
  · obtain ⟨q1, q2, q3⟩ := hae (by show e' ≠ 0; omega)
    obtain ⟨_, _, _, _, hb, hof, _⟩ := id ht
    refine .inr (.inr ⟨he0, ?_, hne, hof, hb, hrec, q1, q2⟩)
    have := Surv.of_torn ht hal
    rw [hrec] at this
    exact this
/-- Cut at any disk that is on. -/
theorem Good.cutn {w : World} {B j : Nat} {D : Dsk} {dk : Dk} {jr : Jr} {m N : Nat} {a : Addr} (h : Good w B j D dk jr m N) (ha : Ambs a D w) (k : Nat) (hk : 1 ≤ k ∧ k ≤ 1000) :
    Calls Tryz.prog 29 #[.pointer (some ⟨D.d, 0, none⟩), .int .i64 (k : Int)] w fun e w' => e = .returned (.int .i64 0) ∧ Good w' B j D { dk with left := k } jr m N ∧ Ambs a D w' ∧ Below D.B w w' ∧ Off D w w' := by
  refine (cut_calls h.disk (k : Int) (by omega)).mono ?_
  have hce : dk.cut (k : Int) = ({ dk with left := k }, 0) := by
    unfold Dk.cut
    rw [if_neg (by rw [h.fine.on]; decide), if_neg (by omega)]
    have : decide ((k : Int) = 0) = false := decide_eq_false (by omega)
    rw [this]
    have := h.fine.on
    cases dk
    simp_all
  rw [hce]
  rintro e w' ⟨he, hd, ho⟩
  have hb := ho.below h.disk.sizeB
  exact ⟨he, ⟨hd, h.jour.off ho h.disk, ⟨h.fine.on, h.fine.ok, h.fine.pend, h.fine.dur, h.fine.vis, h.fine.size, h.fine.head, h.fine.small⟩, h.tot, h.small, h.hj⟩, ha.keep hb, hb, ho⟩
/-- Open behind a power failure. -/
theorem open_surv {w : World} {D : Dsk} {rs : List ByteArray} {t : List Nat} {a : Addr} {N : Nat} (h : DiskAt w D ⟨false, 0, stored chF z32 rs ++ t, stored chF z32 rs ++ t, []⟩) (ht : t = [] ∨ t.head? = some 0) (hs : ∀ r ∈ rs, r.size ≤ 65536) (hN : (stored chF z32 rs ++ t).length = N) (hN2 : N ≤ 1000000) (ha : Ambs a D w) :
    Calls Tryz.prog 25 #[.pointer (some ⟨D.d, 0, none⟩)] w fun e w' => ∃ j2 dk jr m, e = .returned (.tuple #[.pointer (some ⟨j2, 0, none⟩), .int .i64 0]) ∧ Good w' w.heap.size j2 D dk jr m N ∧ jr.records = rs ∧ dk.left = 0 ∧ Off D w w' ∧ Ambs a D w' ∧ Below D.B w w' := by
  have ho := open_any chF z32 chF_size rs t 0 hs ht (.inl rfl)
  refine (jopen_calls h a ha.amb ha.ambE (by show 0 + 2 ≤ _; omega)).mono ?_
  rw [ho]
  rintro e w' ⟨hd, hof, j2, rfl, hj2⟩
  have hbl := hof.below h.sizeB
  refine ⟨j2, _, _, t.length, rfl, ⟨hd, hj2, ⟨rfl, rfl, rfl, rfl, rfl, rfl, rfl, hs⟩, ?_, hN2, ?_⟩, rfl, rfl, hof, ha.keep hbl, hbl⟩
  · rw [List.length_append] at hN; exact hN
  · obtain ⟨rv, hj2⟩ := hj2
    exact Nat.le_trans h.sizeB hj2.tape.hp
end Go.Proofs.YtniegajdmbepbaaGreatDoor.Jm

set_option linter.unusedVariables false
set_option linter.unusedSimpArgs false
namespace Go.Proofs.YtniegajdmbepbaaGreatDoor.Jm
open Go Go.RowKit Go.Shelf Go.Proofs.YtniegajdmbepbaaGreatDoor.Rf Go.Proofs.YtniegajdmbepbaaGreatDoorW.PrintWords Go.Proofs.YtniegajdmbepbaaGreatDoorW.PrintLast Go.Proofs.YtniegajdmbepbaaGreatDoorW.PrintMore Go.Proofs.YtniegajdmbepbaaGreatDoor.Sha Go.Proofs.YtniegajdmbepbaaGreatDoor.Pl Go.Proofs.YtniegajdmbepbaaGreatDoor.Pr

theorem below_via {v w W : World} (h : Below v.heap.size v w) (k : Below v.heap.size w W) : Below v.heap.size v W := h.trans k
def SBl (v W : World) : Prop := Below v.heap.size v W
theorem keepSBl {v W W' : World} (h : SBl v W) (hb : Below W.heap.size W W') : SBl v W' := Below.trans h (hb.mono (Below.size h))
theorem own_later {v W : World} {base n : Nat} {x : Value} {xs : List Value} (h : v.ownsRow base 9 1 x n xs) (k : SBl v W) : W.ownsRow base 9 1 x n xs := own_below h k
theorem SBl.cell {v W : World} (h : SBl v W) {p : Addr} (hp : p.block < v.heap.size) : W.cell? p = v.cell? p := Below.cell h hp
theorem SBl.size {v W : World} (h : SBl v W) : v.heap.size ≤ W.heap.size := Below.size h
theorem step_app {ops : Array Oper} {o : Oper} {a : Act} {K : Act → World → Prop} {Q : Exit → Act → World → Prop} (w : World) (hw : Region.wanted o (yielded ops a.tmps) = true) (s x : Operand)
  (ho : o.op = .call { callee := .builtin .append, args := #[s, x], argTypes := #[22, 22] }) (base b2 : Nat) (v vx : Value) (xs ys : List ByteArray)
  (hs : a.eval s = v) (hown : w.ownsRow base 9 1 v xs.length (xs.map Value.string)) (hx : a.eval x = vx) (hox : w.ownsRow b2 9 1 vx ys.length (ys.map Value.string))
  (hlen : xs.length + ys.length ≤ 1000) (hbase : base ≤ w.heap.size)
  (h : ∀ v' w', w'.ownsRow base 9 1 v' (xs ++ ys).length ((xs ++ ys).map Value.string) → Below base w w' → K (a.put o.dst v') w') :
  if Region.wanted o (yielded ops a.tmps) = true then Oper.wp Tryz.prog o a w K Q else K (a.put o.dst undef) w := by
 rw [if_pos hw]
 obtain ⟨i0, hi0, hz0, hz1, hz2⟩ := info_parts infoS
 rcases id hox.2 with ⟨rfl, h0⟩ | ⟨g, cap, cur, rfl, hb, hg, r⟩
 ·obtain rfl := List.eq_nil_of_length_eq_zero h0
  have hrun := run_append_owned_none (P := Tryz.prog) (w := w) base 22 o.type 9 i0 1 Tryz.underlying22 hi0 v _ _ hown
  unfold Oper.wp
  simp [execOp, ho, resolve, invoke, builtin, hs, hx, hrun, Result.andThen]
  exact h v w (by rw [List.append_nil]; exact hown) (Below.refl _ _)
 ·refine wp_append_own (P := Tryz.prog) w s x 22 ho base 9 i0 _ 1 16 Tryz.underlying22 hi0 hz0 hz1 hz2 rfl (by decide) v _ _ hs hown ⟨g, 0, none⟩ ys.length cap (ys.map Value.string) hx (by simp) (fun j u hu => hox.cells (g := g) rfl j u hu)
   (by intro u hu; obtain ⟨y, _, rfl⟩ := List.mem_map.1 hu; rfl) (by unfold maxLen; omega) (by omega) hbase ?_
  intro v' w' h2 h3 h4
  exact h v' w' (by rw [List.length_append, List.map_append]; exact h2) ((Below.refl base w).grown h3 hbase (fun k hk => own_base hown k hk))
end Go.Proofs.YtniegajdmbepbaaGreatDoor.Jm

set_option linter.unusedVariables false
set_option linter.unusedSimpArgs false
namespace Go.Proofs.YtniegajdmbepbaaGreatDoor.Jm
open Go Go.RowKit Go.Shelf Go.Proofs.YtniegajdmbepbaaGreatDoor.Rf Go.Proofs.YtniegajdmbepbaaGreatDoorW.PrintWords Go.Proofs.YtniegajdmbepbaaGreatDoorW.PrintLast Go.Proofs.YtniegajdmbepbaaGreatDoorW.PrintMore Go.Proofs.YtniegajdmbepbaaGreatDoor.Sha Go.Proofs.YtniegajdmbepbaaGreatDoor.Pl Go.Proofs.YtniegajdmbepbaaGreatDoor.Pr

def keepT.T13 : Bool × List (List Nat × List Nat) := (true, [([], []), ([], []), ([0, 1], [0, 1]), ([], []), ([], []), ([3, 4], [3, 4]), ([5], [5]), ([6], [6]), ([7, 2], [7]), ([2, 8, 8], [2, 8]), ([9, 9, 0, 1, 2, 3, 4, 5, 6, 7, 8, 9], [9])])
def keepT.B13 : List Nat := [0, 0, 3, 0, 0, 24, 56, 120, 255, 511, 1023]
theorem keepT.tab13 : rtab .any (opsOf Tryz.f6 13) = keepT.T13 := by kernel_rfl
theorem keepT.bits13 : waitsOk keepT.T13.2 keepT.B13 = true := by kernel_rfl
noncomputable def keepsR13 : Code := ((Tryz.f6.body.bind (regionOf 13)).getD .skip)
set_option maxHeartbeats 8000000 in
set_option maxRecDepth 100000 in
theorem keeps_r13 (R : Act → World → Prop) (v W : World) (v0 v2 v3 v4 v5 v6 v7 v8 v9 v10 v12 v13 v15 v16 v17 v18 v19 v20 v21 v22 v23 v24 v25 v26 v27 v28 v29 v30 v31 v32 v33 v34 v35 v36 v37 v38 v39 v40 v41 v42 v43 v44 v45 v46 v47 v48 v49 v50 v51 v52 v53 v54 v55 v56 v57 v58 v59 v60 v61 v62 v63 v64 v65 v66 v67 v68 v69 v70 v71 v72 v73 v74 v75 v76 v77 v78 v79 v80 v81 v82 v83 v84 v85 v86 v87 v88 v89 v90 v91 v92 v93 v94 v95 v96 v97 v98 v99 v100 v101 v102 v103 v104 v105 v106 v107 v108 v109 v110 v111 v112 v113 v114 v115 v116 v117 v118 v119 v120 v121 v122 v123 v124 v125 v126 v127 v128 v129 v130 v131 v132 v133 v134 v135 v136 v137 v138 v139 v140 v141 v142 v143 v144 v145 v146 v147 v148 v149 : Value) (bk o zl cap i q c4 c' : Nat) (A4 A' : Option Addr) (L g : List ByteArray)
  (hx1 : ((i : Int) < (zl : Int)) = True) (hx2 : (i < zl) = True) (hbk : bk < v.heap.size) (hcell : v.cell? ⟨bk, o + i * 4 + 1, none⟩ = some (.slice A' g.length c')) (hCg : Kd.C Kd.string v A' g.length g) (hcg : g.length ≤ c') (r4 : v.ownsRow q 9 1 (.slice A4 L.length c4) L.length (L.map Value.string)) (hL : L.length ≤ 900)
  (hS : SBl v W)
  (hQ : ∀ (z57 z58 z59 z60 z61 z62 z63 z64 z65 z66 v' : Value) (W' : World), W'.ownsRow v.heap.size 9 1 v' (L ++ fewF g).length ((L ++ fewF g).map Value.string) → SBl v W' → R ⟨#[v0, Value.slice (some ⟨bk, o, none⟩) zl cap, v2, v3, v4, v5, v6, v7, v8, v9, v', Value.int .i64 (i : Int), v12, v13, Value.slice A4 L.length c4, v15, v16, v17, v18, v19, v20, v21, v22, v23, v24, v25, v26, v27, v28, v29, v30, v31, v32, v33, v34, v35, v36, v37, v38, v39, v40, v41, v42, v43, v44, v45, v46, v47, v48, v49, v50, v51, v52, v53, v54, v55, v56, z57, z58, z59, z60, z61, z62, z63, z64, z65, z66, v67, v68, v69, v70, v71, v72, v73, v74, v75, v76, v77, v78, v79, v80, v81, v82, v83, v84, v85, v86, v87, v88, v89, v90, v91, v92, v93, v94, v95, v96, v97, v98, v99, v100, v101, v102, v103, v104, v105, v106, v107, v108, v109, v110, v111, v112, v113, v114, v115, v116, v117, v118, v119, v120, v121, v122, v123, v124, v125, v126, v127, v128, v129, v130, v131, v132, v133, v134, v135, v136, v137, v138, v139, v140, v141, v142, v143, v144, v145, v146, v147, v148, v149], []⟩ W') :
  keepsR13.wp Tryz.prog (Norm R) ⟨#[v0, Value.slice (some ⟨bk, o, none⟩) zl cap, v2, v3, v4, v5, v6, v7, v8, v9, v10, Value.int .i64 (i : Int), v12, v13, Value.slice A4 L.length c4, v15, v16, v17, v18, v19, v20, v21, v22, v23, v24, v25, v26, v27, v28, v29, v30, v31, v32, v33, v34, v35, v36, v37, v38, v39, v40, v41, v42, v43, v44, v45, v46, v47, v48, v49, v50, v51, v52, v53, v54, v55, v56, v57, v58, v59, v60, v61, v62, v63, v64, v65, v66, v67, v68, v69, v70, v71, v72, v73, v74, v75, v76, v77, v78, v79, v80, v81, v82, v83, v84, v85, v86, v87, v88, v89, v90, v91, v92, v93, v94, v95, v96, v97, v98, v99, v100, v101, v102, v103, v104, v105, v106, v107, v108, v109, v110, v111, v112, v113, v114, v115, v116, v117, v118, v119, v120, v121, v122, v123, v124, v125, v126, v127, v128, v129, v130, v131, v132, v133, v134, v135, v136, v137, v138, v139, v140, v141, v142, v143, v144, v145, v146, v147, v148, v149], []⟩ W := by
 unfold keepsR13
 conv => arg 2; whnf
 refine start_ (n := 11) (S := SBl v) (ds := []) #[false, false, false, false, false, false, false, false, false, false, false] (by kernel_rfl) rfl rfl (keepSBl hS (below_drew1 (Below.refl _ _))) (fun hHeld => ?_); refine with_tabW keepT.tab13 keepT.bits13 (fun HT_ HW_ => ?_)
 generalize W.drew = w0_ at hHeld ⊢
 refine pure_ (i := 1) (N := some 58) (v := ?_) (a' := ?_) #[false, true, false, false, false, false, false, false, false, false, false] rfl rfl (any_of HT_.out (by kernel_rfl)) (fun _ _ _ h => h) (Or.inl ⟨by rfl, ?_⟩) ?_ ?_
 rotate_left
 ·intro w'
  go_simp
  with_reducible rfl
 rotate_left
 ·simp only [Act.put, List.setIfInBounds_toArray, List.set_cons_zero, List.set_cons_succ, i64_w, i32_w]
  rfl
 refine pure_ (i := 3) (N := some 60) (v := ?_) (a' := ?_) #[false, true, false, true, false, false, false, false, false, false, false] rfl rfl (any_of HT_.out (by kernel_rfl)) (fun _ _ _ h => h) (Or.inl ⟨by rfl, ?_⟩) ?_ ?_
 rotate_left
 ·intro w'
  go_simp
  with_reducible rfl
 rotate_left
 ·simp only [Act.put, List.setIfInBounds_toArray, List.set_cons_zero, List.set_cons_succ, i64_w, i32_w]
  rfl
 refine pure_ (i := 4) (N := some 61) (v := ?_) (a' := ?_) #[false, true, false, true, true, false, false, false, false, false, false] rfl rfl (any_of HT_.out (by kernel_rfl)) (fun _ _ _ h => h) (Or.inl ⟨by rfl, ?_⟩) ?_ ?_
 rotate_left
 ·intro w'
  go_simp
  with_reducible rfl
 rotate_left
 ·simp only [Act.put, List.setIfInBounds_toArray, List.set_cons_zero, List.set_cons_succ, i64_w, i32_w]
  rfl
 refine pure_ (i := 5) (N := some 62) (v := ?_) (a' := ?_) #[false, true, false, true, true, true, false, false, false, false, false] rfl rfl (any_of HT_.out (by kernel_rfl)) (fun _ _ _ h => h) (Or.inl ⟨by rfl, ?_⟩) ?_ ?_
 rotate_left
 ·intro w'
  go_simp
  with_reducible rfl
 rotate_left
 ·simp only [Act.put, List.setIfInBounds_toArray, List.set_cons_zero, List.set_cons_succ, i64_w, i32_w]
  rfl
 refine pure_ (i := 6) (N := some 63) (v := ?_) (a' := ?_) #[false, true, false, true, true, true, true, false, false, false, false] rfl rfl (any_of HT_.out (by kernel_rfl)) (fun _ _ _ h => h) (Or.inl ⟨by rfl, ?_⟩) ?_ ?_
 rotate_left
 ·intro w'
  go_simp
  with_reducible rfl
 rotate_left
 ·simp only [Act.put, List.setIfInBounds_toArray, List.set_cons_zero, List.set_cons_succ, i64_w, i32_w]
  rfl
 refine take_ (i := 7) (N := some 64) (v := ?_) (a' := ?_) #[false, true, false, true, true, true, true, true, false, false, false] rfl rfl (take_ofW HT_.out HW_.out (by kernel_rfl)) (fun _ _ _ h => h) (Or.inl ⟨by rfl, ?_⟩) hHeld ?_ ?_
 rotate_left
 ·intro w' hS_
  have c_ := (hS_.cell (p := ⟨bk, o + i * 4 + 1, none⟩) hbk).trans hcell
  go_simp
  with_reducible rfl
 rotate_left
 ·simp only [Act.put, List.setIfInBounds_toArray, List.set_cons_zero, List.set_cons_succ, i64_w, i32_w]
  rfl
 refine one_ (i := 0) (N := some 57) #[true, true, false, true, true, true, true, true, false, false, false] rfl rfl (one_of HT_.out (by kernel_rfl)) (by decide) (fun K hK => ?_)
 have hz0 : v.heap.size ≤ w0_.heap.size := hHeld.size
 go_simp
 have hH1 := keepSBl hHeld (below_alloc (Below.refl _ _) (.cells #[] 9))
 have own0 := (own_new w0_ [] (by simp)).mono (base' := v.heap.size) hz0
 rw [show (([] : List ByteArray).map Value.string).toArray = #[] from rfl] at own0
 refine hK.out _ _ hH1 (fun hHeld => ?_)
 clear hK K
 generalize w0_.alloc (.cells #[] 9) = wa_ at hHeld hH1 own0 ⊢
 refine one_ (i := 2) (N := some 59) #[true, true, true, true, true, true, true, true, false, false, false] rfl rfl (one_of HT_.out (by kernel_rfl)) (by decide) (fun K hK => ?_)
 have hza : v.heap.size ≤ wa_.heap.size := hHeld.size
 refine step_app wa_ (by rfl) (.tmp 57) (.tmp 58) rfl v.heap.size q _ _ [] L rfl own0 rfl (own_later r4 hHeld) (by simp only [List.length_nil]; omega) hza ?_
 intro v1_ wb_ own1 hb1
 rw [List.nil_append] at own1
 have hH2 := below_via hHeld hb1
 refine hK.out _ _ hH2 (fun hHeld => ?_)
 clear hK K hH1 own0
 refine norm_ (a' := ?_) ?_ ?_
 rotate_left
 ·show Act.put _ (some 59) _ = _
  simp only [Act.put, List.setIfInBounds_toArray, List.set_cons_zero, List.set_cons_succ, i64_w, i32_w]
  rfl
 refine one_ (i := 8) (N := some 65) #[true, true, true, true, true, true, true, true, true, false, false] rfl rfl (one_of HT_.out (by kernel_rfl)) (by decide) (fun K hK => ?_)
 have hzb : v.heap.size ≤ wb_.heap.size := hHeld.size
 refine goes_ Tryz.func11 (by kernel_rfl) rfl #[.slice A' g.length c'] (by rfl) rfl rfl (by (try simp only [List.map_toArray, List.map_cons, List.map_nil]); first | done | rfl) ?_
 refine (few_calls _ A' c' g (Kd.C_below hCg hHeld) hcg).mono ?_
 rintro e wc_ ⟨vf_, rfl, hF_, _, hbc⟩
 refine ⟨_, rfl, ?_⟩
 have own2 := own_below own1 hbc
 have ownF := own_R hF_
 have hH3 := keepSBl hHeld hbc
 refine hK.out _ _ hH3 (fun hHeld => ?_)
 clear hK K hH2 own1
 refine norm_ (a' := ?_) ?_ ?_
 rotate_left
 ·show Act.put _ (some 65) _ = _
  simp only [Act.put, List.setIfInBounds_toArray, List.set_cons_zero, List.set_cons_succ, i64_w, i32_w]
  rfl
 refine one_ (i := 9) (N := some 66) #[true, true, true, true, true, true, true, true, true, true, false] rfl rfl (one_of HT_.out (by kernel_rfl)) (by decide) (fun K hK => ?_)
 have hzc : v.heap.size ≤ wc_.heap.size := hHeld.size
 refine step_app wc_ (by rfl) (.tmp 59) (.tmp 65) rfl v.heap.size wb_.heap.size _ _ L (fewF g) rfl own2 rfl ownF (by have := fewF_length g; omega) hzc ?_
 intro v2_ wd_ own3 hb3
 have hH4 := below_via hHeld hb3
 refine hK.out _ _ hH4 (fun hHeld => ?_)
 clear hK K hH3 own2
 refine norm_ (a' := ?_) ?_ ?_
 rotate_left
 ·show Act.put _ (some 66) _ = _
  simp only [Act.put, List.setIfInBounds_toArray, List.set_cons_zero, List.set_cons_succ, i64_w, i32_w]
  rfl
 refine pure_ (i := 10) (N := some 10) (v := ?_) (a' := ?_) #[true, true, true, true, true, true, true, true, true, true, true] rfl rfl (any_of HT_.out (by kernel_rfl)) (fun _ _ _ h => h) (Or.inl ⟨by rfl, ?_⟩) ?_ ?_
 rotate_left
 ·intro w'
  go_simp
  with_reducible rfl
 rotate_left
 ·simp only [Act.put, List.setIfInBounds_toArray, List.set_cons_zero, List.set_cons_succ, i64_w, i32_w]
  rfl
 refine done_ (done_of HT_.out (by kernel_rfl)) ?_
 exact hQ _ _ _ _ _ _ _ _ _ _ _ _ own3 hHeld
def keepU.T18 : Bool × List (List Nat × List Nat) := (true, [([], []), ([], []), ([], []), ([1, 2], [1, 2]), ([3], [3]), ([4], [4]), ([], []), ([], []), ([6, 7], [6, 7]), ([8], [8]), ([9], [9]), ([10], [10]), ([11], [11]), ([5, 12], [5, 12]), ([], []), ([], []), ([14, 15], [14, 15]), ([16], [16]), ([17], [17]), ([0, 13, 18], [0, 13, 18])])
def keepU.B18 : List Nat := [0, 0, 0, 6, 14, 30, 0, 0, 192, 448, 960, 1984, 4032, 8190, 0, 0, 49152, 114688, 245760, 524287]
theorem keepU.tab18 : rtab .any (opsOf Tryz.f6 18) = keepU.T18 := by kernel_rfl
theorem keepU.bits18 : waitsOk keepU.T18.2 keepU.B18 = true := by kernel_rfl
noncomputable def keepsR18 : Code := ((Tryz.f6.body.bind (regionOf 18)).getD .skip)
set_option maxHeartbeats 8000000 in
set_option maxRecDepth 100000 in
theorem keeps_r18 (R : Act → World → Prop) (v W : World) (v0 v2 v3 v4 v5 v7 v8 v9 v10 v12 v13 v14 v15 v16 v17 v18 v19 v20 v21 v22 v23 v24 v25 v26 v27 v28 v29 v30 v31 v32 v33 v34 v35 v36 v37 v38 v39 v40 v41 v42 v43 v44 v45 v46 v47 v48 v49 v50 v51 v52 v53 v54 v55 v56 v57 v58 v59 v60 v61 v62 v63 v64 v65 v66 v67 v68 v69 v70 v71 v72 v73 v74 v75 v76 v77 v78 v79 v80 v81 v82 v83 v84 v85 v86 v87 v88 v89 v90 v91 v92 v93 v94 v95 v96 v97 v98 v99 v100 v101 v102 v103 v104 v105 v106 v107 v108 v109 v110 v111 v112 v113 v114 v115 v116 v117 v118 v119 v120 v121 v122 v123 v124 v125 v126 v127 v128 v129 v130 v131 v132 v133 v134 v135 v136 v137 v138 v139 v140 v141 v142 v143 v144 v145 v146 v147 v148 v149 : Value) (bk o zl cap i n2 k2 cap2 : Nat) (A2 : Option Addr) (torn : Int) (D : Dsk) (dk' : Dk)
  (hx1 : ((i : Int) < (zl : Int)) = True) (hx2 : (i < zl) = True) (hbk : bk < v.heap.size) (hcell2 : v.cell? ⟨bk, o + i * 4 + 2, none⟩ = some (.int .i64 torn)) (hcell3 : v.cell? ⟨bk, o + i * 4 + 3, none⟩ = some (.slice A2 n2 cap2)) (hm1 : min (n2 : Int) 20 = (k2 : Int)) (hm2 : ((k2 : Int) ≤ (cap2 : Int)) = True) (hm3 : (k2 ≤ cap2) = True)
  (hcr : ∀ V, SBl v V → Calls Tryz.prog 30 #[.pointer (some ⟨D.d, 0, none⟩), .slice A2 k2 cap2, .int .i64 torn] V fun e w' => e = .returned (.int .i64 0) ∧ DiskAt w' D dk' ∧ Off D V w')
  (hS : SBl v W)
  (hQ : ∀ (z81 z82 z83 z84 z85 z86 z87 z88 z89 z90 z91 z92 z93 z94 z95 z96 z97 z98 z99 z100 : Value) (W' : World), DiskAt W' D dk' → Off D v W' → R ⟨#[v0, Value.slice (some ⟨bk, o, none⟩) zl cap, v2, v3, v4, v5, Value.pointer (some ⟨D.d, 0, none⟩), v7, v8, v9, v10, Value.int .i64 (i : Int), v12, v13, v14, v15, v16, v17, v18, v19, v20, v21, v22, v23, v24, v25, v26, v27, v28, v29, v30, v31, v32, v33, v34, v35, v36, v37, v38, v39, v40, v41, v42, v43, v44, v45, v46, v47, v48, v49, v50, v51, v52, v53, v54, v55, v56, v57, v58, v59, v60, v61, v62, v63, v64, v65, v66, v67, v68, v69, v70, v71, v72, v73, v74, v75, v76, v77, v78, v79, v80, z81, z82, z83, z84, z85, z86, z87, z88, z89, z90, z91, z92, z93, z94, z95, z96, z97, z98, z99, z100, v101, v102, v103, v104, v105, v106, v107, v108, v109, v110, v111, v112, v113, v114, v115, v116, v117, v118, v119, v120, v121, v122, v123, v124, v125, v126, v127, v128, v129, v130, v131, v132, v133, v134, v135, v136, v137, v138, v139, v140, v141, v142, v143, v144, v145, v146, v147, v148, v149], []⟩ W') :
  keepsR18.wp Tryz.prog (Norm R) ⟨#[v0, Value.slice (some ⟨bk, o, none⟩) zl cap, v2, v3, v4, v5, Value.pointer (some ⟨D.d, 0, none⟩), v7, v8, v9, v10, Value.int .i64 (i : Int), v12, v13, v14, v15, v16, v17, v18, v19, v20, v21, v22, v23, v24, v25, v26, v27, v28, v29, v30, v31, v32, v33, v34, v35, v36, v37, v38, v39, v40, v41, v42, v43, v44, v45, v46, v47, v48, v49, v50, v51, v52, v53, v54, v55, v56, v57, v58, v59, v60, v61, v62, v63, v64, v65, v66, v67, v68, v69, v70, v71, v72, v73, v74, v75, v76, v77, v78, v79, v80, v81, v82, v83, v84, v85, v86, v87, v88, v89, v90, v91, v92, v93, v94, v95, v96, v97, v98, v99, v100, v101, v102, v103, v104, v105, v106, v107, v108, v109, v110, v111, v112, v113, v114, v115, v116, v117, v118, v119, v120, v121, v122, v123, v124, v125, v126, v127, v128, v129, v130, v131, v132, v133, v134, v135, v136, v137, v138, v139, v140, v141, v142, v143, v144, v145, v146, v147, v148, v149], []⟩ W := by
 unfold keepsR18
 conv => arg 2; whnf
 refine start_ (n := 20) (S := SBl v) (ds := [19]) #[false, false, false, false, false, false, false, false, false, false, false, false, false, false, false, false, false, false, false, false] (by kernel_rfl) rfl rfl (keepSBl hS (below_drew1 (Below.refl _ _))) (fun hHeld => ?_); refine with_tabW keepU.tab18 keepU.bits18 (fun HT_ HW_ => ?_)
 generalize W.drew = w0_ at hHeld ⊢
 refine pure_ (i := 0) (N := some 81) (v := ?_) (a' := ?_) #[true, false, false, false, false, false, false, false, false, false, false, false, false, false, false, false, false, false, false, false] rfl rfl (any_of HT_.out (by kernel_rfl)) (fun _ _ _ h => h) (Or.inl ⟨by rfl, ?_⟩) ?_ ?_
 rotate_left
 ·intro w'
  go_simp
  with_reducible rfl
 rotate_left
 ·simp only [Act.put, List.setIfInBounds_toArray, List.set_cons_zero, List.set_cons_succ, i64_w, i32_w]
  rfl
 refine pure_ (i := 1) (N := some 82) (v := ?_) (a' := ?_) #[true, true, false, false, false, false, false, false, false, false, false, false, false, false, false, false, false, false, false, false] rfl rfl (any_of HT_.out (by kernel_rfl)) (fun _ _ _ h => h) (Or.inl ⟨by rfl, ?_⟩) ?_ ?_
 rotate_left
 ·intro w'
  go_simp
  with_reducible rfl
 rotate_left
 ·simp only [Act.put, List.setIfInBounds_toArray, List.set_cons_zero, List.set_cons_succ, i64_w, i32_w]
  rfl
 refine pure_ (i := 2) (N := some 83) (v := ?_) (a' := ?_) #[true, true, true, false, false, false, false, false, false, false, false, false, false, false, false, false, false, false, false, false] rfl rfl (any_of HT_.out (by kernel_rfl)) (fun _ _ _ h => h) (Or.inl ⟨by rfl, ?_⟩) ?_ ?_
 rotate_left
 ·intro w'
  go_simp
  with_reducible rfl
 rotate_left
 ·simp only [Act.put, List.setIfInBounds_toArray, List.set_cons_zero, List.set_cons_succ, i64_w, i32_w]
  rfl
 refine pure_ (i := 3) (N := some 84) (v := ?_) (a' := ?_) #[true, true, true, true, false, false, false, false, false, false, false, false, false, false, false, false, false, false, false, false] rfl rfl (any_of HT_.out (by kernel_rfl)) (fun _ _ _ h => h) (Or.inl ⟨by rfl, ?_⟩) ?_ ?_
 rotate_left
 ·intro w'
  go_simp
  with_reducible rfl
 rotate_left
 ·simp only [Act.put, List.setIfInBounds_toArray, List.set_cons_zero, List.set_cons_succ, i64_w, i32_w]
  rfl
 refine pure_ (i := 4) (N := some 85) (v := ?_) (a' := ?_) #[true, true, true, true, true, false, false, false, false, false, false, false, false, false, false, false, false, false, false, false] rfl rfl (any_of HT_.out (by kernel_rfl)) (fun _ _ _ h => h) (Or.inl ⟨by rfl, ?_⟩) ?_ ?_
 rotate_left
 ·intro w'
  go_simp
  with_reducible rfl
 rotate_left
 ·simp only [Act.put, List.setIfInBounds_toArray, List.set_cons_zero, List.set_cons_succ, i64_w, i32_w]
  rfl
 refine pure_ (i := 6) (N := some 87) (v := ?_) (a' := ?_) #[true, true, true, true, true, false, true, false, false, false, false, false, false, false, false, false, false, false, false, false] rfl rfl (any_of HT_.out (by kernel_rfl)) (fun _ _ _ h => h) (Or.inl ⟨by rfl, ?_⟩) ?_ ?_
 rotate_left
 ·intro w'
  go_simp
  with_reducible rfl
 rotate_left
 ·simp only [Act.put, List.setIfInBounds_toArray, List.set_cons_zero, List.set_cons_succ, i64_w, i32_w]
  rfl
 refine pure_ (i := 7) (N := some 88) (v := ?_) (a' := ?_) #[true, true, true, true, true, false, true, true, false, false, false, false, false, false, false, false, false, false, false, false] rfl rfl (any_of HT_.out (by kernel_rfl)) (fun _ _ _ h => h) (Or.inl ⟨by rfl, ?_⟩) ?_ ?_
 rotate_left
 ·intro w'
  go_simp
  with_reducible rfl
 rotate_left
 ·simp only [Act.put, List.setIfInBounds_toArray, List.set_cons_zero, List.set_cons_succ, i64_w, i32_w]
  rfl
 refine pure_ (i := 8) (N := some 89) (v := ?_) (a' := ?_) #[true, true, true, true, true, false, true, true, true, false, false, false, false, false, false, false, false, false, false, false] rfl rfl (any_of HT_.out (by kernel_rfl)) (fun _ _ _ h => h) (Or.inl ⟨by rfl, ?_⟩) ?_ ?_
 rotate_left
 ·intro w'
  go_simp
  with_reducible rfl
 rotate_left
 ·simp only [Act.put, List.setIfInBounds_toArray, List.set_cons_zero, List.set_cons_succ, i64_w, i32_w]
  rfl
 refine pure_ (i := 9) (N := some 90) (v := ?_) (a' := ?_) #[true, true, true, true, true, false, true, true, true, true, false, false, false, false, false, false, false, false, false, false] rfl rfl (any_of HT_.out (by kernel_rfl)) (fun _ _ _ h => h) (Or.inl ⟨by rfl, ?_⟩) ?_ ?_
 rotate_left
 ·intro w'
  go_simp
  with_reducible rfl
 rotate_left
 ·simp only [Act.put, List.setIfInBounds_toArray, List.set_cons_zero, List.set_cons_succ, i64_w, i32_w]
  rfl
 refine pure_ (i := 14) (N := some 95) (v := ?_) (a' := ?_) #[true, true, true, true, true, false, true, true, true, true, false, false, false, false, true, false, false, false, false, false] rfl rfl (any_of HT_.out (by kernel_rfl)) (fun _ _ _ h => h) (Or.inl ⟨by rfl, ?_⟩) ?_ ?_
 rotate_left
 ·intro w'
  go_simp
  with_reducible rfl
 rotate_left
 ·simp only [Act.put, List.setIfInBounds_toArray, List.set_cons_zero, List.set_cons_succ, i64_w, i32_w]
  rfl
 refine pure_ (i := 15) (N := some 96) (v := ?_) (a' := ?_) #[true, true, true, true, true, false, true, true, true, true, false, false, false, false, true, true, false, false, false, false] rfl rfl (any_of HT_.out (by kernel_rfl)) (fun _ _ _ h => h) (Or.inl ⟨by rfl, ?_⟩) ?_ ?_
 rotate_left
 ·intro w'
  go_simp
  with_reducible rfl
 rotate_left
 ·simp only [Act.put, List.setIfInBounds_toArray, List.set_cons_zero, List.set_cons_succ, i64_w, i32_w]
  rfl
 refine pure_ (i := 16) (N := some 97) (v := ?_) (a' := ?_) #[true, true, true, true, true, false, true, true, true, true, false, false, false, false, true, true, true, false, false, false] rfl rfl (any_of HT_.out (by kernel_rfl)) (fun _ _ _ h => h) (Or.inl ⟨by rfl, ?_⟩) ?_ ?_
 rotate_left
 ·intro w'
  go_simp
  with_reducible rfl
 rotate_left
 ·simp only [Act.put, List.setIfInBounds_toArray, List.set_cons_zero, List.set_cons_succ, i64_w, i32_w]
  rfl
 refine pure_ (i := 17) (N := some 98) (v := ?_) (a' := ?_) #[true, true, true, true, true, false, true, true, true, true, false, false, false, false, true, true, true, true, false, false] rfl rfl (any_of HT_.out (by kernel_rfl)) (fun _ _ _ h => h) (Or.inl ⟨by rfl, ?_⟩) ?_ ?_
 rotate_left
 ·intro w'
  go_simp
  with_reducible rfl
 rotate_left
 ·simp only [Act.put, List.setIfInBounds_toArray, List.set_cons_zero, List.set_cons_succ, i64_w, i32_w]
  rfl
 refine take_ (i := 5) (N := some 86) (v := ?_) (a' := ?_) #[true, true, true, true, true, true, true, true, true, true, false, false, false, false, true, true, true, true, false, false] rfl rfl (take_ofW HT_.out HW_.out (by kernel_rfl)) (fun _ _ _ h => h) (Or.inl ⟨by rfl, ?_⟩) hHeld ?_ ?_
 rotate_left
 ·intro w' hS_
  have c2_ := (hS_.cell (p := ⟨bk, o + i * 4 + 2, none⟩) hbk).trans hcell2
  have c3_ := (hS_.cell (p := ⟨bk, o + i * 4 + 3, none⟩) hbk).trans hcell3
  go_simp
  with_reducible rfl
 rotate_left
 ·simp only [Act.put, List.setIfInBounds_toArray, List.set_cons_zero, List.set_cons_succ, i64_w, i32_w]
  rfl
 refine take_ (i := 10) (N := some 91) (v := ?_) (a' := ?_) #[true, true, true, true, true, true, true, true, true, true, true, false, false, false, true, true, true, true, false, false] rfl rfl (take_ofW HT_.out HW_.out (by kernel_rfl)) (fun _ _ _ h => h) (Or.inl ⟨by rfl, ?_⟩) hHeld ?_ ?_
 rotate_left
 ·intro w' hS_
  have c2_ := (hS_.cell (p := ⟨bk, o + i * 4 + 2, none⟩) hbk).trans hcell2
  have c3_ := (hS_.cell (p := ⟨bk, o + i * 4 + 3, none⟩) hbk).trans hcell3
  go_simp
  with_reducible rfl
 rotate_left
 ·simp only [Act.put, List.setIfInBounds_toArray, List.set_cons_zero, List.set_cons_succ, i64_w, i32_w]
  rfl
 refine pure_ (i := 11) (N := some 92) (v := ?_) (a' := ?_) #[true, true, true, true, true, true, true, true, true, true, true, true, false, false, true, true, true, true, false, false] rfl rfl (any_of HT_.out (by kernel_rfl)) (fun _ _ _ h => h) (Or.inl ⟨by rfl, ?_⟩) ?_ ?_
 rotate_left
 ·intro w'
  go_simp
  with_reducible rfl
 rotate_left
 ·simp only [Act.put, List.setIfInBounds_toArray, List.set_cons_zero, List.set_cons_succ, i64_w, i32_w]
  rfl
 refine pure_ (i := 12) (N := some 93) (v := ?_) (a' := ?_) #[true, true, true, true, true, true, true, true, true, true, true, true, true, false, true, true, true, true, false, false] rfl rfl (any_of HT_.out (by kernel_rfl)) (fun _ _ _ h => h) (Or.inl ⟨by rfl, ?_⟩) ?_ ?_
 rotate_left
 ·intro w'
  go_simp
  with_reducible rfl
 rotate_left
 ·simp only [Act.put, List.setIfInBounds_toArray, List.set_cons_zero, List.set_cons_succ, i64_w, i32_w]
  rfl
 refine pure_ (i := 13) (N := some 94) (v := ?_) (a' := ?_) #[true, true, true, true, true, true, true, true, true, true, true, true, true, true, true, true, true, true, false, false] rfl rfl (any_of HT_.out (by kernel_rfl)) (fun _ _ _ h => h) (Or.inl ⟨by rfl, ?_⟩) ?_ ?_
 rotate_left
 ·intro w'
  go_simp
  with_reducible rfl
 rotate_left
 ·simp only [Act.put, List.setIfInBounds_toArray, List.set_cons_zero, List.set_cons_succ, i64_w, i32_w]
  rfl
 refine take_ (i := 18) (N := some 99) (v := ?_) (a' := ?_) #[true, true, true, true, true, true, true, true, true, true, true, true, true, true, true, true, true, true, true, false] rfl rfl (take_ofW HT_.out HW_.out (by kernel_rfl)) (fun _ _ _ h => h) (Or.inl ⟨by rfl, ?_⟩) hHeld ?_ ?_
 rotate_left
 ·intro w' hS_
  have c2_ := (hS_.cell (p := ⟨bk, o + i * 4 + 2, none⟩) hbk).trans hcell2
  have c3_ := (hS_.cell (p := ⟨bk, o + i * 4 + 3, none⟩) hbk).trans hcell3
  go_simp
  with_reducible rfl
 rotate_left
 ·simp only [Act.put, List.setIfInBounds_toArray, List.set_cons_zero, List.set_cons_succ, i64_w, i32_w]
  rfl
 refine last_ (i := 19) (N := some 100) #[true, true, true, true, true, true, true, true, true, true, true, true, true, true, true, true, true, true, true, true] rfl rfl (one_of HT_.out (by kernel_rfl)) (by decide) (fun K hK => ?_)
 refine goes_ Tryz.func30 (by kernel_rfl) rfl #[.pointer (some ⟨D.d, 0, none⟩), .slice A2 k2 cap2, .int .i64 torn] (by rfl) rfl rfl (by (try simp only [List.map_toArray, List.map_cons, List.map_nil]); first | done | rfl) ?_
 refine (hcr _ hHeld).mono ?_
 rintro e w9 ⟨rfl, hd9, o9⟩
 refine ⟨_, rfl, ?_⟩
 refine hK.out _ _ ?_
 clear hK K
 refine norm_ (a' := ?_) ?_ ?_
 rotate_left
 ·show Act.put _ (some 100) _ = _
  simp only [Act.put, List.setIfInBounds_toArray, List.set_cons_zero, List.set_cons_succ, i64_w, i32_w]
  rfl
 refine done_ (done_of HT_.out (by kernel_rfl)) ?_
 exact hQ _ _ _ _ _ _ _ _ _ _ _ _ _ _ _ _ _ _ _ _ _ hd9 ((Off.of_below hHeld).trans o9)
end Go.Proofs.YtniegajdmbepbaaGreatDoor.Jm

set_option linter.unusedVariables false
set_option linter.unusedSimpArgs false
namespace Go.Proofs.YtniegajdmbepbaaGreatDoor.Jm
open Go Go.RowKit Go.Shelf Go.Proofs.YtniegajdmbepbaaGreatDoorW.PrintWords Go.Proofs.YtniegajdmbepbaaGreatDoorW.PrintMore

theorem spot_none {w : World} {p : Addr} {u : Value} (h : w.cell? p = some u) : p.spot = none := by
  unfold World.cell? at h
  split at h
  · split at h
    · cases h
    · rename_i hh
      simpa using hh
  · cases h
theorem ints_C {w : World} {A : Option Addr} {n : Nat} {xs : List Int} (h : Kd.C (Kd.int .i64) w A n xs) (hn : xs.length = n) (hw : 0 < w.heap.size) : ∃ bk o, (0 < n → A = some ⟨bk, o, none⟩) ∧ bk < w.heap.size ∧ intR xs bk o w := by
  by_cases h0 : 0 < n
  · obtain ⟨ad, cs, rfl, hcl, hK, hcell⟩ := Kd.C_get h 0 0 (by omega) (by omega)
    have hcs : cs = [.int .i64 (xs.getD 0 0)] := hK
    have hc0 := hcell 0 _ (by rw [hcs]; rfl)
    have e0 : ad.add ((Int.toNat 0) * (Kd.int IntKind.i64).sz + 0) = ad := rfl
    rw [e0] at hc0
    have hs := spot_none hc0
    obtain ⟨b, o, u⟩ := ad
    simp only at hs
    subst hs
    refine ⟨b, o, fun _ => rfl, ?_, ?_⟩
    · unfold World.cell? at hc0
      cases hb : w.heap[b]? with
      | none => rw [hb] at hc0; cases hc0
      | some o => exact (Array.getElem?_eq_some_iff.1 hb).1
    · intro j x hx
      have hj := (List.getElem?_eq_some_iff.1 hx).1
      obtain ⟨ad2, cs2, he, hcl2, hK2, hcell2⟩ := Kd.C_get h 0 (j : Int) (by omega) (by omega)
      injection he with he
      subst he
      rw [Int.toNat_natCast] at hK2 hcell2
      have hcs2 : cs2 = [.int .i64 (xs.getD j 0)] := hK2
      have hc2 := hcell2 0 _ (by rw [hcs2]; rfl)
      rw [show (Kd.int IntKind.i64).sz = 1 from rfl, Nat.mul_one, Nat.add_zero] at hc2
      have hg : xs.getD j 0 = x := by simp [List.getD, hx]
      rw [hg] at hc2
      rw [← hc2]
      unfold Addr.add
      split
      · rename_i hz; subst hz; rfl
      · rfl
  · have : xs = [] := List.eq_nil_of_length_eq_zero (by omega)
    subst this
    exact ⟨0, 0, fun hh => absurd hh h0, hw, fun j x hx => by simp at hx⟩
end Go.Proofs.YtniegajdmbepbaaGreatDoor.Jm

