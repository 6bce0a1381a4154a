/- What a power failure leaves of a disk with a journal, whatever it was about to do: the records before, or these and a whole group; Append and Open there. Condition: none. JournalSurvives's region that makes the records that are wanted. Condition: none. A row of ints that is read, as cells. Condition: none. JournalSurvives: the law's function returns true. Condition: none. -/
import Derived.Test.YtniegajdmbepbaaGreatDoorKJournalSurvives23
import Derived.Test.YtniegajdmbepbaaGreatDoorKJournalSurvives25
set_option linter.unusedVariables false
set_option linter.unusedSimpArgs false
namespace Go.Proofs.YtniegajdmbepbaaGreatDoor.Jm
open Go Go.RowKit Go.Shelf Go.Proofs.YtniegajdmbepbaaGreatDoorW.PrintWords Go.Proofs.YtniegajdmbepbaaGreatDoorW.PrintMore Go.Proofs.YtniegajdmbepbaaGreatDoor.Pl Go.Proofs.YtniegajdmbepbaaGreatDoor.Pr

/-- A disk whose power may fail now: what is left of it then. -/
structure Surv (dk : Dk) (N : Nat) (was want : List ByteArray) : Prop where
  len : dk.dur.length = N
  lt : ∀ b ∈ dk.dur, b < 256
  fit : ∀ p ∈ dk.pend, p.1 + p.2.size ≤ dk.dur.length
  few : dk.pend.length ≤ 1
  back : ∀ keep torn, ∃ rs t, (rs = was ∨ rs = want) ∧ Dk.crash dk keep torn = ⟨false, 0, stored chF z32 rs ++ t, stored chF z32 rs ++ t, []⟩ ∧ (t = [] ∨ t.head? = some 0) ∧ (∀ r ∈ rs, r.size ≤ 65536) ∧ (stored chF z32 rs ++ t).length = N
theorem fine_lt {rs : List ByteArray} {t : List Nat} (ht : ∀ b ∈ t, b < 256) : ∀ b ∈ stored chF z32 rs ++ t, b < 256 := by
  intro b hb
  rcases List.mem_append.1 hb with hb | hb
  · exact stored_lt chF rs z32 b hb
  · exact ht b hb
theorem Surv.of_fine {dk : Dk} {jr : Jr} {m N : Nat} (h : Fine chF z32 dk jr m) (ht : jr.size + m = N) (want : List ByteArray) : Surv dk N jr.records want := by
  have hl : (stored chF z32 jr.records ++ zeros m).length = N := by rw [List.length_append, zeros_length, ← h.size, ht]
  refine ⟨by rw [h.dur]; exact hl, by rw [h.dur]; exact fine_lt (zeros_lt m), (by rw [h.pend]; intro p hp; cases hp), by rw [h.pend]; exact Nat.zero_le _, fun keep torn => ?_⟩
  exact ⟨jr.records, zeros m, .inl rfl, crash_fine chF z32 dk jr m h keep torn, zeros_head m, h.small, hl⟩
theorem Surv.of_torn {dk : Dk} {jr : Jr} {N : Nat} {l : List ByteArray} (h : Torn chF z32 dk jr l) (hn : dk.dur.length = N) : Surv dk N jr.records (jr.records ++ l) := by
  obtain ⟨m, h1, h2, h3, h4, h5, h6⟩ := id h
  have hne : stored chF (headOf chF z32 jr.records) l ≠ [] := fun e => h2 ((stored_nil chF l _).1 e)
  have hlt := stored_lt chF l (headOf chF z32 jr.records)
  have h65 := stored_lt chF jr.records z32
  generalize stored chF (headOf chF z32 jr.records) l = s at h1 h6 hne hlt
  obtain ⟨x, t, rfl⟩ : ∃ x t, s = x :: t := by cases s with
    | nil => exact absurd rfl hne
    | cons x t => exact ⟨x, t, rfl⟩
  have ht : ∀ b ∈ t, b < 256 := fun b hb => hlt b (List.mem_cons_of_mem _ hb)
  simp only [List.tail_cons, List.length_cons] at h1 h6
  refine ⟨hn, ?_, ?_, ?_, fun keep torn => ?_⟩
  · rcases h6 with ⟨e, _⟩ | ⟨e, _⟩
    · rw [e]; exact fine_lt (zeros_lt m)
    · rw [e, List.append_assoc]
      refine fine_lt fun b hb => ?_
      rcases List.mem_append.1 hb with hb | hb
      · rcases List.mem_cons.1 hb with rfl | hb
        · decide
        · exact ht b hb
      · exact zeros_lt _ b hb
  · rcases h6 with ⟨e, e2⟩ | ⟨e, e2⟩
    · rw [e, e2]
      intro p hp
      rw [List.mem_singleton] at hp
      subst hp
      show _ + 1 + (ofB t).size ≤ _
      rw [size_ofB ht, List.length_append, zeros_length]
      omega
    · rw [e, e2]
      intro p hp
      rw [List.mem_singleton] at hp
      subst hp
      show _ + (ofB [x]).size ≤ _
      rw [size_ofB (fun b hb => by rw [List.mem_singleton] at hb; subst hb; exact hlt b List.mem_cons_self), List.append_assoc, List.length_append, List.length_append]
      simp
      omega
  · rcases h6 with ⟨_, e2⟩ | ⟨_, e2⟩ <;> rw [e2] <;> exact Nat.le_refl _
  · obtain ⟨rs, q, q1, q2, q3, q4, q5⟩ := crash_torn chF z32 dk jr l h keep torn
    exact ⟨rs, q, q1, q2, q3, q4, q5.trans hn⟩
theorem write_len {d : Dk} {o : Int} {s : ByteArray} {N : Nat} (h1 : d.dur.length = N) (h2 : d.vis.length = N) : (d.write o s).1.dur.length = N ∧ (d.write o s).1.vis.length = N := by
  unfold Dk.write
  split
  · exact ⟨h1, h2⟩
  · split
    · rename_i hi
      unfold Dk.inside at hi
      simp only [Bool.and_eq_true, decide_eq_true_eq] at hi
      have hs : (splice d.vis o.toNat (bl s)).length = N := by rw [splice_length (by rw [bl_length]; omega)]; exact h2
      unfold Dk.used
      dsimp only
      split
      · exact ⟨h1, hs⟩
      · exact ⟨h1, hs⟩
    · exact ⟨h1, h2⟩
theorem sync_len {d : Dk} {N : Nat} (h1 : d.dur.length = N) (h2 : d.vis.length = N) : d.sync.1.dur.length = N ∧ d.sync.1.vis.length = N := by
  unfold Dk.sync
  split
  · exact ⟨h1, h2⟩
  · exact ⟨h2, h2⟩
theorem append_len {d : Dk} {j : Jr} {l : List ByteArray} {N : Nat} (h1 : d.dur.length = N) (h2 : d.vis.length = N) :
    (appendM chF d j l).1.dur.length = N ∧ ((appendM chF d j l).2.2 ≠ 0 → (appendM chF d j l).2.1.head = j.head ∧ (appendM chF d j l).2.1.size = j.size ∧ (appendM chF d j l).2.1.records = j.records) := by
  unfold appendM
  split
  · exact ⟨h1, fun _ => ⟨rfl, rfl, rfl⟩⟩
  · dsimp only
    split
    · exact ⟨h1, fun _ => ⟨rfl, rfl, rfl⟩⟩
    · split
      · exact ⟨h1, fun _ => ⟨rfl, rfl, rfl⟩⟩
      · obtain ⟨a1, a2⟩ := write_len (d := d) (o := ((j.size + 1 : Nat) : Int)) (s := ofB (stored chF j.head l).tail) h1 h2
        generalize hw : d.write ((j.size + 1 : Nat) : Int) (ofB (stored chF j.head l).tail) = x at a1 a2
        obtain ⟨d1, e1⟩ := x
        have hw' : d.write ((j.size : Int) + 1) (ofB (stored chF j.head l).tail) = (d1, e1) := by rw [← hw]; rfl
        rw [hw']
        dsimp only at a1 a2 ⊢
        split
        · exact ⟨a1, fun _ => ⟨rfl, rfl, rfl⟩⟩
        · obtain ⟨b1, b2⟩ := sync_len a1 a2
          generalize d1.sync = y at b1 b2
          obtain ⟨d2, e2⟩ := y
          dsimp only at b1 b2 ⊢
          split
          · exact ⟨b1, fun _ => ⟨rfl, rfl, rfl⟩⟩
          · obtain ⟨c1, c2⟩ := write_len (o := (j.size : Int)) (s := ofB ((stored chF j.head l).take 1)) b1 b2
            generalize d2.write (j.size : Int) (ofB ((stored chF j.head l).take 1)) = z at c1 c2
            obtain ⟨d3, e3⟩ := z
            dsimp only at c1 c2 ⊢
            split
            · exact ⟨c1, fun _ => ⟨rfl, rfl, rfl⟩⟩
            · obtain ⟨f1, f2⟩ := sync_len c1 c2
              generalize d3.sync = u at f1 f2
              obtain ⟨d4, e4⟩ := u
              dsimp only at f1 f2 ⊢
              split
              · exact ⟨f1, fun _ => ⟨rfl, rfl, rfl⟩⟩
              · rename_i q
                exact ⟨f1, fun hh => absurd rfl hh⟩
/-- Append, whenever the power fails. -/
theorem Good.app_last {w : World} {B j : Nat} {D : Dsk} {dk : Dk} {jr : Jr} {m N : Nat} {a : Addr} (h : Good w B j D dk jr m N) (ha : Ambs a D w) {v : Value} {l : List ByteArray} (hl : Strs w v l) (hn : l.length ≤ 6) (hs : ∀ s ∈ l, s.size ≤ 100) :
    Calls Tryz.prog 10 #[.pointer (some ⟨j, 0, none⟩), v] w fun e w' => ∃ (c : Int) (dk' : Dk) (jr' : Jr), e = .returned (.int .i64 c) ∧ DiskAt w' D dk' ∧ JrAt w' B j D jr' ∧ Oj D j w w' ∧ Ambs a D w' ∧ Below D.B w w' ∧
      ((c = 0 ∧ ∃ m', Fine chF z32 dk' jr' m' ∧ jr'.size + m' = N ∧ jr'.records = jr.records ++ l ∧ (dk.left = 0 → dk'.left = 0)) ∨ (c = 291 ∧ dk' = dk ∧ jr' = jr) ∨
       (c = 281 ∧ Surv dk' N jr.records (jr.records ++ l) ∧ dk.left ≠ 0 ∧ dk'.off = true ∧ jr'.broken = true ∧ jr'.records = jr.records ∧ jr'.head = jr.head ∧ jr'.size = jr.size)) := by
  refine (h.append ha hl (by omega) 65536 (by omega) (fun s hh => by have := hs s hh; omega)).mono ?_
  obtain ⟨d', j', e', hap, hc⟩ := append_any chF z32 dk jr m l h.fine
  obtain ⟨hal, hae⟩ := append_len (j := jr) (l := l) h.dur h.vis
  rw [hap] at hal hae ⊢
  rintro e w' ⟨he, hd, hj, ho, ha2, hb⟩
  refine ⟨e', d', j', he, hd, hj, ho, ha2, hb, ?_⟩
  rcases hc with ⟨_, _, _, s, hsl, hss⟩ | ⟨_, he0, hd0, hj0, hf⟩ | ⟨_, hle, he0, hfi, hrec, hl0⟩ | ⟨he0, ht, hrec, hne⟩
  · have := hs s hsl; omega
  · exact .inr (.inl ⟨he0, hd0, hj0⟩)
  · refine .inl ⟨he0, _, hfi, ?_, hrec, hl0⟩
    have e1 := hfi.size
    rw [hrec, stored_append, List.length_append, ← h.fine.size, ← h.fine.head] at e1
    have := h.tot
    omega
  · obtain ⟨q1, q2, q3⟩ := hae (by show e' ≠ 0; omega)
    obtain ⟨_, _, _, _, hb, hof, _⟩ := id ht
    refine .inr (.inr ⟨he0, ?_, hne, hof, hb, hrec, q1, q2⟩)
    have := Surv.of_torn ht hal
    rw [hrec] at this
    exact this
/-- Cut at any disk that is on. -/
theorem Good.cutn {w : World} {B j : Nat} {D : Dsk} {dk : Dk} {jr : Jr} {m N : Nat} {a : Addr} (h : Good w B j D dk jr m N) (ha : Ambs a D w) (k : Nat) (hk : 1 ≤ k ∧ k ≤ 1000) :
    Calls Tryz.prog 29 #[.pointer (some ⟨D.d, 0, none⟩), .int .i64 (k : Int)] w fun e w' => e = .returned (.int .i64 0) ∧ Good w' B j D { dk with left := k } jr m N ∧ Ambs a D w' ∧ Below D.B w w' ∧ Off D w w' := by
  refine (cut_calls h.disk (k : Int) (by omega)).mono ?_
  have hce : dk.cut (k : Int) = ({ dk with left := k }, 0) := by
    unfold Dk.cut
    rw [if_neg (by rw [h.fine.on]; decide), if_neg (by omega)]
    have : decide ((k : Int) = 0) = false := decide_eq_false (by omega)
    rw [this]
    have := h.fine.on
    cases dk
    simp_all
  rw [hce]
  rintro e w' ⟨he, hd, ho⟩
  have hb := ho.below h.disk.sizeB
  exact ⟨he, ⟨hd, h.jour.off ho h.disk, ⟨h.fine.on, h.fine.ok, h.fine.pend, h.fine.dur, h.fine.vis, h.fine.size, h.fine.head, h.fine.small⟩, h.tot, h.small, h.hj⟩, ha.keep hb, hb, ho⟩
/-- Open behind a power failure. -/
theorem open_surv {w : World} {D : Dsk} {rs : List ByteArray} {t : List Nat} {a : Addr} {N : Nat} (h : DiskAt w D ⟨false, 0, stored chF z32 rs ++ t, stored chF z32 rs ++ t, []⟩) (ht : t = [] ∨ t.head? = some 0) (hs : ∀ r ∈ rs, r.size ≤ 65536) (hN : (stored chF z32 rs ++ t).length = N) (hN2 : N ≤ 1000000) (ha : Ambs a D w) :
    Calls Tryz.prog 25 #[.pointer (some ⟨D.d, 0, none⟩)] w fun e w' => ∃ j2 dk jr m, e = .returned (.tuple #[.pointer (some ⟨j2, 0, none⟩), .int .i64 0]) ∧ Good w' w.heap.size j2 D dk jr m N ∧ jr.records = rs ∧ dk.left = 0 ∧ Off D w w' ∧ Ambs a D w' ∧ Below D.B w w' := by
  have ho := open_any chF z32 chF_size rs t 0 hs ht (.inl rfl)
  refine (jopen_calls h a ha.amb ha.ambE (by show 0 + 2 ≤ _; omega)).mono ?_
  rw [ho]
  rintro e w' ⟨hd, hof, j2, rfl, hj2⟩
  have hbl := hof.below h.sizeB
  refine ⟨j2, _, _, t.length, rfl, ⟨hd, hj2, ⟨rfl, rfl, rfl, rfl, rfl, rfl, rfl, hs⟩, ?_, hN2, ?_⟩, rfl, rfl, hof, ha.keep hbl, hbl⟩
  · rw [List.length_append] at hN; exact hN
  · obtain ⟨rv, hj2⟩ := hj2
    exact Nat.le_trans h.sizeB hj2.tape.hp
/-- same at any two lists. -/
theorem same_any_l0 (a b : List ByteArray) (hl : a.length = b.length) (hn : a.length ≤ 1000000) : ∀ k i : Nat, i + k = a.length → ∃ r, clearwaylaw29_same.l0 (k + 1) a b (i : Int) = some r := by
  intro k
  induction k with
  | zero =>
    intro i hi
    exact ⟨true, by rw [clearwaylaw29_same.l0, if_neg (by omega)]⟩
  | succ k ih =>
    intro i hi
    rw [clearwaylaw29_same.l0, if_pos (by omega), if_pos (by omega), if_pos (by omega)]
    split
    · rw [w64 _ (by omega)]
      exact ih (i + 1) (by omega)
    · exact ⟨_, rfl⟩
theorem same_any (a b : List ByteArray) (hn : a.length ≤ 1000000) (hm : b.length ≤ 1000000) : ∃ r, clearwaylaw29_same.f (a.length + 1) a b = some r ∧ (a = b → r = true) := by
  by_cases e : a = b
  · subst e
    exact ⟨true, same_refl a hn, fun _ => rfl⟩
  · by_cases hl : a.length = b.length
    · obtain ⟨r, hr⟩ := same_any_l0 a b hl hn a.length 0 (by omega)
      refine ⟨r, ?_, fun h => absurd h e⟩
      unfold clearwaylaw29_same.f
      rw [if_pos (by omega)]
      exact hr
    · refine ⟨false, ?_, fun h => absurd h e⟩
      unfold clearwaylaw29_same.f
      rw [if_neg (by omega)]
end Go.Proofs.YtniegajdmbepbaaGreatDoor.Jm

set_option linter.unusedVariables false
set_option linter.unusedSimpArgs false
namespace Go.Proofs.YtniegajdmbepbaaGreatDoor.Jm
open Go Go.RowKit Go.Shelf Go.Proofs.YtniegajdmbepbaaGreatDoor.Rf Go.Proofs.YtniegajdmbepbaaGreatDoorW.PrintWords Go.Proofs.YtniegajdmbepbaaGreatDoorW.PrintLast Go.Proofs.YtniegajdmbepbaaGreatDoorW.PrintMore Go.Proofs.YtniegajdmbepbaaGreatDoor.Sha Go.Proofs.YtniegajdmbepbaaGreatDoor.Pl Go.Proofs.YtniegajdmbepbaaGreatDoor.Pr

theorem below_via {v w W : World} (h : Below v.heap.size v w) (k : Below v.heap.size w W) : Below v.heap.size v W := h.trans k
def SBl (v W : World) : Prop := Below v.heap.size v W
theorem keepSBl {v W W' : World} (h : SBl v W) (hb : Below W.heap.size W W') : SBl v W' := Below.trans h (hb.mono (Below.size h))
theorem own_later {v W : World} {base n : Nat} {x : Value} {xs : List Value} (h : v.ownsRow base 9 1 x n xs) (k : SBl v W) : W.ownsRow base 9 1 x n xs := own_below h k
theorem SBl.cell {v W : World} (h : SBl v W) {p : Addr} (hp : p.block < v.heap.size) : W.cell? p = v.cell? p := Below.cell h hp
theorem SBl.size {v W : World} (h : SBl v W) : v.heap.size ≤ W.heap.size := Below.size h
theorem step_app {ops : Array Oper} {o : Oper} {a : Act} {K : Act → World → Prop} {Q : Exit → Act → World → Prop} (w : World) (hw : Region.wanted o (yielded ops a.tmps) = true) (s x : Operand)
  (ho : o.op = .call { callee := .builtin .append, args := #[s, x], argTypes := #[22, 22] }) (base b2 : Nat) (v vx : Value) (xs ys : List ByteArray)
  (hs : a.eval s = v) (hown : w.ownsRow base 9 1 v xs.length (xs.map Value.string)) (hx : a.eval x = vx) (hox : w.ownsRow b2 9 1 vx ys.length (ys.map Value.string))
  (hlen : xs.length + ys.length ≤ 1000) (hbase : base ≤ w.heap.size)
  (h : ∀ v' w', w'.ownsRow base 9 1 v' (xs ++ ys).length ((xs ++ ys).map Value.string) → Below base w w' → K (a.put o.dst v') w') :
  if Region.wanted o (yielded ops a.tmps) = true then Oper.wp Tryz.prog o a w K Q else K (a.put o.dst undef) w := by
 rw [if_pos hw]
 obtain ⟨i0, hi0, hz0, hz1, hz2⟩ := info_parts infoS
 rcases id hox.2 with ⟨rfl, h0⟩ | ⟨g, cap, cur, rfl, hb, hg, r⟩
 ·obtain rfl := List.eq_nil_of_length_eq_zero h0
  have hrun := run_append_owned_none (P := Tryz.prog) (w := w) base 22 o.type 9 i0 1 Tryz.underlying22 hi0 v _ _ hown
  unfold Oper.wp
  simp [execOp, ho, resolve, invoke, builtin, hs, hx, hrun, Result.andThen]
  exact h v w (by rw [List.append_nil]; exact hown) (Below.refl _ _)
 ·refine wp_append_own (P := Tryz.prog) w s x 22 ho base 9 i0 _ 1 16 Tryz.underlying22 hi0 hz0 hz1 hz2 rfl (by decide) v _ _ hs hown ⟨g, 0, none⟩ ys.length cap (ys.map Value.string) hx (by simp) (fun j u hu => hox.cells (g := g) rfl j u hu)
   (by intro u hu; obtain ⟨y, _, rfl⟩ := List.mem_map.1 hu; rfl) (by unfold maxLen; omega) (by omega) hbase ?_
  intro v' w' h2 h3 h4
  exact h v' w' (by rw [List.length_append, List.map_append]; exact h2) ((Below.refl base w).grown h3 hbase (fun k hk => own_base hown k hk))
def survT.T12 : Bool × List (List Nat × List Nat) := (true, [([], []), ([], []), ([0, 1], [0, 1]), ([], []), ([], []), ([3, 4], [3, 4]), ([5], [5]), ([6, 2], [6]), ([2, 7, 7], [2, 7]), ([8, 8, 0, 1, 2, 3, 4, 5, 6, 7, 8], [8])])
def survT.B12 : List Nat := [0, 0, 3, 0, 0, 24, 56, 127, 255, 511]
theorem survT.tab12 : rtab .any (opsOf Tryz.f5 12) = survT.T12 := by kernel_rfl
theorem survT.bits12 : waitsOk survT.T12.2 survT.B12 = true := by kernel_rfl
noncomputable def survR12 : Code := ((Tryz.f5.body.bind (regionOf 12)).getD .skip)
set_option maxHeartbeats 8000000 in
set_option maxRecDepth 100000 in
theorem surv_r12 (R : Act → World → Prop) (v W : World) (v0 v2 v3 v4 v5 v6 v7 v8 v9 v10 v11 v12 v13 v14 v15 v17 v19 v20 v21 v22 v23 v24 v25 v26 v27 v28 v29 v30 v31 v32 v33 v34 v35 v36 v37 v38 v39 v40 v41 v42 v43 v44 v45 v46 v47 v48 v49 v50 v51 v52 v53 v54 v55 v56 v57 v58 v59 v60 v61 v62 v63 v64 v65 v66 v67 v68 v69 v70 v71 v72 v73 v74 v75 v76 v77 v78 v79 v80 v81 v82 v83 v84 v85 v86 v87 v88 v89 v90 v91 v92 v93 v94 v95 v96 v97 v98 v99 v100 v101 v102 v103 v104 v105 v106 v107 v108 v109 v110 v111 v112 v113 v114 v115 v116 v117 v118 v119 v120 v121 : Value) (ad : Addr) (zl cap i q c4 c' : Nat) (A4 A' : Option Addr) (L g : List ByteArray)
  (hx1 : ((i : Int) < (zl : Int)) = True) (hx2 : (i < zl) = True) (hadl : (ad.add i).block < v.heap.size) (hcell : v.cell? (ad.add i) = some (.slice A' g.length c')) (hCg : Kd.C Kd.string v A' g.length g) (hcg : g.length ≤ c') (r4 : v.ownsRow q 9 1 (.slice A4 L.length c4) L.length (L.map Value.string)) (hL : L.length ≤ 900)
  (hS : SBl v W)
  (hQ : ∀ (z49 z50 z51 z52 z53 z54 z55 z56 z57 v' : Value) (W' : World), W'.ownsRow v.heap.size 9 1 v' (L ++ fewF g).length ((L ++ fewF g).map Value.string) → SBl v W' → R ⟨#[v0, Value.slice (some ad) zl cap, v2, v3, v4, v5, v6, v7, v8, v9, v10, v11, v12, v13, v14, v15, Value.slice A4 L.length c4, v', Value.int .i64 (i : Int), v19, v20, v21, v22, v23, v24, v25, v26, v27, v28, v29, v30, v31, v32, v33, v34, v35, v36, v37, v38, v39, v40, v41, v42, v43, v44, v45, v46, v47, v48, z49, z50, z51, z52, z53, z54, z55, z56, z57, v58, v59, v60, v61, v62, v63, v64, v65, v66, v67, v68, v69, v70, v71, v72, v73, v74, v75, v76, v77, v78, v79, v80, v81, v82, v83, v84, v85, v86, v87, v88, v89, v90, v91, v92, v93, v94, v95, v96, v97, v98, v99, v100, v101, v102, v103, v104, v105, v106, v107, v108, v109, v110, v111, v112, v113, v114, v115, v116, v117, v118, v119, v120, v121], []⟩ W') :
  survR12.wp Tryz.prog (Norm R) ⟨#[v0, Value.slice (some ad) zl cap, v2, v3, v4, v5, v6, v7, v8, v9, v10, v11, v12, v13, v14, v15, Value.slice A4 L.length c4, v17, Value.int .i64 (i : Int), v19, v20, v21, v22, v23, v24, v25, v26, v27, v28, v29, v30, v31, v32, v33, v34, v35, v36, v37, v38, v39, v40, v41, v42, v43, v44, v45, v46, v47, v48, v49, v50, v51, v52, v53, v54, v55, v56, v57, v58, v59, v60, v61, v62, v63, v64, v65, v66, v67, v68, v69, v70, v71, v72, v73, v74, v75, v76, v77, v78, v79, v80, v81, v82, v83, v84, v85, v86, v87, v88, v89, v90, v91, v92, v93, v94, v95, v96, v97, v98, v99, v100, v101, v102, v103, v104, v105, v106, v107, v108, v109, v110, v111, v112, v113, v114, v115, v116, v117, v118, v119, v120, v121], []⟩ W := by
 unfold survR12
 conv => arg 2; whnf
 refine start_ (n := 10) (S := SBl v) (ds := []) #[false, false, false, false, false, false, false, false, false, false] (by kernel_rfl) rfl rfl (keepSBl hS (below_drew1 (Below.refl _ _))) (fun hHeld => ?_); refine with_tabW survT.tab12 survT.bits12 (fun HT_ HW_ => ?_)
 generalize W.drew = w0_ at hHeld ⊢
 refine pure_ (i := 1) (N := some 50) (v := ?_) (a' := ?_) #[false, true, false, false, false, false, false, false, false, false] rfl rfl (any_of HT_.out (by kernel_rfl)) (fun _ _ _ h => h) (Or.inl ⟨by rfl, ?_⟩) ?_ ?_
 rotate_left
 ·intro w'
  go_simp
  with_reducible rfl
 rotate_left
 ·simp only [Act.put, List.setIfInBounds_toArray, List.set_cons_zero, List.set_cons_succ, i64_w, i32_w]
  rfl
 refine pure_ (i := 3) (N := some 52) (v := ?_) (a' := ?_) #[false, true, false, true, false, false, false, false, false, false] rfl rfl (any_of HT_.out (by kernel_rfl)) (fun _ _ _ h => h) (Or.inl ⟨by rfl, ?_⟩) ?_ ?_
 rotate_left
 ·intro w'
  go_simp
  with_reducible rfl
 rotate_left
 ·simp only [Act.put, List.setIfInBounds_toArray, List.set_cons_zero, List.set_cons_succ, i64_w, i32_w]
  rfl
 refine pure_ (i := 4) (N := some 53) (v := ?_) (a' := ?_) #[false, true, false, true, true, false, false, false, false, false] rfl rfl (any_of HT_.out (by kernel_rfl)) (fun _ _ _ h => h) (Or.inl ⟨by rfl, ?_⟩) ?_ ?_
 rotate_left
 ·intro w'
  go_simp
  with_reducible rfl
 rotate_left
 ·simp only [Act.put, List.setIfInBounds_toArray, List.set_cons_zero, List.set_cons_succ, i64_w, i32_w]
  rfl
 refine pure_ (i := 5) (N := some 54) (v := ?_) (a' := ?_) #[false, true, false, true, true, true, false, false, false, false] rfl rfl (any_of HT_.out (by kernel_rfl)) (fun _ _ _ h => h) (Or.inl ⟨by rfl, ?_⟩) ?_ ?_
 rotate_left
 ·intro w'
  go_simp
  with_reducible rfl
 rotate_left
 ·simp only [Act.put, List.setIfInBounds_toArray, List.set_cons_zero, List.set_cons_succ, i64_w, i32_w]
  rfl
 refine take_ (i := 6) (N := some 55) (v := ?_) (a' := ?_) #[false, true, false, true, true, true, true, false, false, false] rfl rfl (take_ofW HT_.out HW_.out (by kernel_rfl)) (fun _ _ _ h => h) (Or.inl ⟨by rfl, ?_⟩) hHeld ?_ ?_
 rotate_left
 ·intro w' hS_
  have c_ := (hS_.cell (p := ad.add i) hadl).trans hcell
  go_simp
  with_reducible rfl
 rotate_left
 ·simp only [Act.put, List.setIfInBounds_toArray, List.set_cons_zero, List.set_cons_succ, i64_w, i32_w]
  rfl
 refine one_ (i := 0) (N := some 49) #[true, true, false, true, true, true, true, false, false, false] rfl rfl (one_of HT_.out (by kernel_rfl)) (by decide) (fun K hK => ?_)
 have hz0 : v.heap.size ≤ w0_.heap.size := hHeld.size
 go_simp
 have hH1 := keepSBl hHeld (below_alloc (Below.refl _ _) (.cells #[] 9))
 have own0 := (own_new w0_ [] (by simp)).mono (base' := v.heap.size) hz0
 rw [show (([] : List ByteArray).map Value.string).toArray = #[] from rfl] at own0
 refine hK.out _ _ hH1 (fun hHeld => ?_)
 clear hK K
 generalize w0_.alloc (.cells #[] 9) = wa_ at hHeld hH1 own0 ⊢
 refine one_ (i := 2) (N := some 51) #[true, true, true, true, true, true, true, false, false, false] rfl rfl (one_of HT_.out (by kernel_rfl)) (by decide) (fun K hK => ?_)
 have hza : v.heap.size ≤ wa_.heap.size := hHeld.size
 refine step_app wa_ (by rfl) (.tmp 49) (.tmp 50) rfl v.heap.size q _ _ [] L rfl own0 rfl (own_later r4 hHeld) (by simp only [List.length_nil]; omega) hza ?_
 intro v1_ wb_ own1 hb1
 rw [List.nil_append] at own1
 have hH2 := below_via hHeld hb1
 refine hK.out _ _ hH2 (fun hHeld => ?_)
 clear hK K hH1 own0
 refine norm_ (a' := ?_) ?_ ?_
 rotate_left
 ·show Act.put _ (some 51) _ = _
  simp only [Act.put, List.setIfInBounds_toArray, List.set_cons_zero, List.set_cons_succ, i64_w, i32_w]
  rfl
 refine one_ (i := 7) (N := some 56) #[true, true, true, true, true, true, true, true, false, false] rfl rfl (one_of HT_.out (by kernel_rfl)) (by decide) (fun K hK => ?_)
 have hzb : v.heap.size ≤ wb_.heap.size := hHeld.size
 refine goes_ Tryz.func11 (by kernel_rfl) rfl #[.slice A' g.length c'] (by rfl) rfl rfl (by (try simp only [List.map_toArray, List.map_cons, List.map_nil]); first | done | rfl) ?_
 refine (few_calls _ A' c' g (Kd.C_below hCg hHeld) hcg).mono ?_
 rintro e wc_ ⟨vf_, rfl, hF_, _, hbc⟩
 refine ⟨_, rfl, ?_⟩
 have own2 := own_below own1 hbc
 have ownF := own_R hF_
 have hH3 := keepSBl hHeld hbc
 refine hK.out _ _ hH3 (fun hHeld => ?_)
 clear hK K hH2 own1
 refine norm_ (a' := ?_) ?_ ?_
 rotate_left
 ·show Act.put _ (some 56) _ = _
  simp only [Act.put, List.setIfInBounds_toArray, List.set_cons_zero, List.set_cons_succ, i64_w, i32_w]
  rfl
 refine one_ (i := 8) (N := some 57) #[true, true, true, true, true, true, true, true, true, false] rfl rfl (one_of HT_.out (by kernel_rfl)) (by decide) (fun K hK => ?_)
 have hzc : v.heap.size ≤ wc_.heap.size := hHeld.size
 refine step_app wc_ (by rfl) (.tmp 51) (.tmp 56) rfl v.heap.size wb_.heap.size _ _ L (fewF g) rfl own2 rfl ownF (by have := fewF_length g; omega) hzc ?_
 intro v2_ wd_ own3 hb3
 have hH4 := below_via hHeld hb3
 refine hK.out _ _ hH4 (fun hHeld => ?_)
 clear hK K hH3 own2
 refine norm_ (a' := ?_) ?_ ?_
 rotate_left
 ·show Act.put _ (some 57) _ = _
  simp only [Act.put, List.setIfInBounds_toArray, List.set_cons_zero, List.set_cons_succ, i64_w, i32_w]
  rfl
 refine pure_ (i := 9) (N := some 17) (v := ?_) (a' := ?_) #[true, true, true, true, true, true, true, true, true, true] rfl rfl (any_of HT_.out (by kernel_rfl)) (fun _ _ _ h => h) (Or.inl ⟨by rfl, ?_⟩) ?_ ?_
 rotate_left
 ·intro w'
  go_simp
  with_reducible rfl
 rotate_left
 ·simp only [Act.put, List.setIfInBounds_toArray, List.set_cons_zero, List.set_cons_succ, i64_w, i32_w]
  rfl
 refine done_ (done_of HT_.out (by kernel_rfl)) ?_
 exact hQ _ _ _ _ _ _ _ _ _ _ _ own3 hHeld
end Go.Proofs.YtniegajdmbepbaaGreatDoor.Jm

set_option linter.unusedVariables false
set_option linter.unusedSimpArgs false
namespace Go.Proofs.YtniegajdmbepbaaGreatDoor.Jm
open Go Go.RowKit Go.Shelf Go.Proofs.YtniegajdmbepbaaGreatDoorW.PrintWords Go.Proofs.YtniegajdmbepbaaGreatDoorW.PrintMore

theorem spot_none {w : World} {p : Addr} {u : Value} (h : w.cell? p = some u) : p.spot = none := by
  unfold World.cell? at h
  split at h
  · split at h
    · cases h
    · rename_i hh
      simpa using hh
  · cases h
theorem ints_C {w : World} {A : Option Addr} {n : Nat} {xs : List Int} (h : Kd.C (Kd.int .i64) w A n xs) (hn : xs.length = n) (hw : 0 < w.heap.size) : ∃ bk o, (0 < n → A = some ⟨bk, o, none⟩) ∧ bk < w.heap.size ∧ intR xs bk o w := by
  by_cases h0 : 0 < n
  · obtain ⟨ad, cs, rfl, hcl, hK, hcell⟩ := Kd.C_get h 0 0 (by omega) (by omega)
    have hcs : cs = [.int .i64 (xs.getD 0 0)] := hK
    have hc0 := hcell 0 _ (by rw [hcs]; rfl)
    have e0 : ad.add ((Int.toNat 0) * (Kd.int IntKind.i64).sz + 0) = ad := rfl
    rw [e0] at hc0
    have hs := spot_none hc0
    obtain ⟨b, o, u⟩ := ad
    simp only at hs
    subst hs
    refine ⟨b, o, fun _ => rfl, ?_, ?_⟩
    · unfold World.cell? at hc0
      cases hb : w.heap[b]? with
      | none => rw [hb] at hc0; cases hc0
      | some o => exact (Array.getElem?_eq_some_iff.1 hb).1
    · intro j x hx
      have hj := (List.getElem?_eq_some_iff.1 hx).1
      obtain ⟨ad2, cs2, he, hcl2, hK2, hcell2⟩ := Kd.C_get h 0 (j : Int) (by omega) (by omega)
      injection he with he
      subst he
      rw [Int.toNat_natCast] at hK2 hcell2
      have hcs2 : cs2 = [.int .i64 (xs.getD j 0)] := hK2
      have hc2 := hcell2 0 _ (by rw [hcs2]; rfl)
      rw [show (Kd.int IntKind.i64).sz = 1 from rfl, Nat.mul_one, Nat.add_zero] at hc2
      have hg : xs.getD j 0 = x := by simp [List.getD, hx]
      rw [hg] at hc2
      rw [← hc2]
      unfold Addr.add
      split
      · rename_i hz; subst hz; rfl
      · rfl
  · have : xs = [] := List.eq_nil_of_length_eq_zero (by omega)
    subst this
    exact ⟨0, 0, fun hh => absurd hh h0, hw, fun j x hx => by simp at hx⟩
end Go.Proofs.YtniegajdmbepbaaGreatDoor.Jm

set_option linter.unusedVariables false
set_option linter.unusedSimpArgs false
namespace Go.Proofs.YtniegajdmbepbaaGreatDoor.Jm
open Go Go.RowKit Go.Shelf Go.Proofs.YtniegajdmbepbaaGreatDoorW.PrintWords Go.Proofs.YtniegajdmbepbaaGreatDoorW.PrintMore Go.Proofs.YtniegajdmbepbaaGreatDoor.Pl Go.Proofs.YtniegajdmbepbaaGreatDoor.Pr

theorem cell_lt {w : World} {p : Addr} {u : Value} (h : w.cell? p = some u) : p.block < w.heap.size := by
  unfold World.cell? at h
  cases hb : w.heap[p.block]? with
  | none => rw [hb] at h; cases h
  | some o => exact (Array.getElem?_eq_some_iff.1 hb).1
def SvMid (n cut torn : Int) (ad : Addr) (zl cap len2 cap2 d j N i n1 c4 n2 c17 : Nat) (A2 A4 A17 : Option Addr) (a' : Act) : Prop := ∃ (z10 z20 z37 z38 z39 z40 z41 z42 z43 z44 z45 z46 z47 z48 z49 z50 z51 z52 z53 z54 z55 z56 z57 z58 z59 z60 z61 z62 z63 z64 z65 z66 z67 z68 z69 z70 z71 z72 z73 z74 z75 z76 z77 z78 z79 z80 z81 z82 z83 z84 z85 z86 z87 : Value), a' = ⟨#[Value.int IntKind.i64 n, Value.slice (some ad) zl cap, Value.int IntKind.i64 cut, Value.slice A2 len2 cap2, Value.int IntKind.i64 torn, undef, undef, undef, undef, undef, z10, Value.bool true, Value.pointer (some ⟨d, 0, none⟩), Value.int IntKind.i64 0, Value.pointer (some ⟨j, 0, none⟩), Value.int IntKind.i64 0, Value.slice A4 n1 c4, Value.slice A17 n2 c17, Value.int IntKind.i64 (i : Int), Value.bool true, z20, undef, undef, Value.bool true, Value.tuple #[Value.pointer (some ⟨d, 0, none⟩), Value.int IntKind.i64 0], Value.int IntKind.i64 n, Value.int IntKind.i64 (N : Int), Value.tuple #[Value.pointer (some ⟨d, 0, none⟩), Value.int IntKind.i64 0], Value.pointer (some ⟨d, 0, none⟩), Value.int IntKind.i64 0, Value.tuple #[Value.pointer (some ⟨j, 0, none⟩), Value.int IntKind.i64 0], Value.pointer (some ⟨d, 0, none⟩), Value.tuple #[Value.pointer (some ⟨j, 0, none⟩), Value.int IntKind.i64 0], Value.pointer (some ⟨j, 0, none⟩), Value.int IntKind.i64 0, Value.int IntKind.i64 0, Value.bool false, z37, z38, z39, z40, z41, z42, z43, z44, z45, z46, z47, z48, z49, z50, z51, z52, z53, z54, z55, z56, z57, z58, z59, z60, z61, z62, z63, z64, z65, z66, z67, z68, z69, z70, z71, z72, z73, z74, z75, z76, z77, z78, z79, z80, z81, z82, z83, z84, z85, z86, z87, undef, undef, undef, undef, undef, undef, undef, undef, undef, undef, undef, undef, undef, undef, undef, undef, undef, undef, undef, undef, undef, undef, undef, undef, undef, undef, undef, undef, undef, undef, undef, undef, undef, undef], []⟩
theorem wp_norm {Q : Exit → Act → World → Prop} {a : Act} {W : World} (F : World → Prop) (hF : F W) (h : ∀ W', F W' → Q .normal a W') : Q .normal a W := h W hF
theorem samev_calls (w : World) {b1 b2 : Nat} {v1 v2 : Value} (l k : List ByteArray) (r : Bool) (hr : clearwaylaw29_same.f (l.length + 1) l k = some r) (h1 : w.ownsRow b1 9 1 v1 l.length (l.map Value.string)) (h2 : w.ownsRow b2 9 1 v2 k.length (k.map Value.string)) :
    Calls Tryz.prog 18 #[v1, v2] w fun e w' => e = .returned (.bool r) ∧ Below w.heap.size w w' := by
  obtain ⟨A, c, rfl, hc, hr1⟩ := own_C h1
  obtain ⟨A2, c2, rfl, hc2, hr2⟩ := own_C h2
  exact (clearwaylaw29_same.calls _ A c l A2 c2 k r w hr1 hc hr2 hc2 hr).mono fun e w' ⟨h1, h2⟩ => ⟨h1, h2.below⟩
set_option maxRecDepth 100000 in
set_option maxHeartbeats 8000000 in
theorem survives (w : World) (n : Int) (A : Option Addr) (len cap : Nat) (z : List (List ByteArray)) (cut : Int) (A2 : Option Addr) (len2 cap2 : Nat) (xs : List Int) (torn : Int) (hn : (Lit.int .i64 n).wf = true)
    (hz : z.length = len ∧ len ≤ cap ∧ cap ≤ maxLen ∧ Kd.C (Kd.slice 9 Kd.string) w A len z ∧ ∀ x ∈ z, True) (hcu : (Lit.int .i64 cut).wf = true)
    (hx : xs.length = len2 ∧ len2 ≤ cap2 ∧ cap2 ≤ maxLen ∧ Kd.C (Kd.int .i64) w A2 len2 xs ∧ ∀ x ∈ xs, (Lit.int .i64 x).wf = true) (ht : (Lit.int .i64 torn).wf = true) (hA : Sha.Amb w ∧ ∃ a, AmbE a w) :
    Calls Tryz.prog 5 #[.int .i64 n, .slice A len cap, .int .i64 cut, .slice A2 len2 cap2, .int .i64 torn] w fun e w' => e = .returned (.bool true) ∧ Below w.heap.size w w' := by
  obtain ⟨rfl, hcap, hmax, hC, _⟩ := hz
  obtain ⟨hx1, hcap2, hmax2, hC2, _⟩ := hx
  obtain ⟨hA, a, hE⟩ := hA
  have g1 : 3 < w.heap.size := (Array.getElem?_eq_some_iff.1 hA.choose_spec.choose_spec).1
  have g2 : 0 < w.heap.size := (Array.getElem?_eq_some_iff.1 hE.choose_spec.choose_spec).1
  obtain ⟨hn1, hn2⟩ : -9223372036854775808 ≤ n ∧ n ≤ 9223372036854775807 := by simpa [Lit.wf, IntKind.min, IntKind.max, IntKind.signed, IntKind.bits] using hn
  obtain ⟨hc1, hc2⟩ : -9223372036854775808 ≤ cut ∧ cut ≤ 9223372036854775807 := by simpa [Lit.wf, IntKind.min, IntKind.max, IntKind.signed, IntKind.bits] using hcu
  obtain ⟨ht1, ht2⟩ : -9223372036854775808 ≤ torn ∧ torn ≤ 9223372036854775807 := by simpa [Lit.wf, IntKind.min, IntKind.max, IntKind.signed, IntKind.bits] using ht
  obtain ⟨N, hN, hN1, hN2⟩ := size_f n hn1 hn2
  obtain ⟨kc, hkc, hkc2⟩ := pick_f cut 3 hc1 hc2 (by decide)
  have hlen : z.length ≤ 9223372036854775807 := by unfold maxLen at hmax; omega
  go_enter Tryz.func5, Tryz.ntmps5
  go_upto_region 2 with (go_at_call 8; refine (sane_calls w a hA hE).mono ?_; rintro e w0 ⟨rfl, b0⟩)
  go_upto_region 3 with (first
    | (go_at_call 15; refine (lawsize_calls _ n N hN).mono ?_; rintro e w1 ⟨rfl, b1⟩)
    | (go_at_call 24; refine (new_calls w1 N hN1 (by omega)).mono ?_; rintro e w2 ⟨D, rfl, hd2, b2, hDB⟩))
  have b02 : Below w.heap.size w w1 := b0.trans (b1.mono b0.size)
  have hDw : w.heap.size ≤ D.B := by rw [hDB]; exact b02.size
  have B2 : Below w.heap.size w w2 := b02.trans (b2.mono b02.size)
  have a2 : Ambs a D w2 := ⟨hA.below_block B2, hE.keep (B2.block _ g2), by omega, by omega⟩
  go_upto_region 4 with (go_at_call 25; refine (open_new hd2 (by omega) a2).mono ?_; rintro e w3 ⟨j, rfl, h3, o3, a3, b3⟩)
  have B3 : Below w.heap.size w w3 := B2.trans (b3.mono hDw)
  obtain ⟨Bj, hBj⟩ : ∃ Bj, w2.heap.size = Bj := ⟨_, rfl⟩
  rw [hBj] at h3
  have hS3 : Surv (newDk N) N ([] : List ByteArray) [] := Surv.of_fine h3.fine h3.tot []
  have hnl := World.ownsRow_nil w3 0 9 1
  refine wp_world (fun W => (∃ dk, DiskAt W D dk ∧ Surv dk N [] [] ∧ ∃ jr m, Good W Bj j D dk jr m N ∧ dk.left = 0 ∧ jr.records.length ≤ 0) ∧ Ambs a D W ∧ Below w.heap.size w W) ⟨⟨_, h3.disk, hS3, _, _, h3, rfl, Nat.le_refl _⟩, a3, B3⟩ ?_
  clear B3 B2 b02 b3 b2 b1 b0 o3 h3 a3 a2 hd2 hBj hDB hS3 hnl
  rintro W3 ⟨h3, a3, b3⟩
  go_wp2_with fail
  obtain ⟨K, hK⟩ : ∃ K, min z.length 8 = K := ⟨_, rfl⟩
  go_loopw [16, 17, 18] (fun v1 v2 v wr => ∃ (i : Nat) (b1 b2 : Nat) (L1 L2 : List ByteArray), v = .int .i64 (i : Int) ∧ i ≤ K ∧ (∃ dk, DiskAt wr D dk ∧ Surv dk N L1 L2 ∧ (i < K → ∃ jr m, Good wr Bj j D dk jr m N ∧ dk.left = 0 ∧ jr.records.length ≤ i * 6)) ∧ Ambs a D wr ∧ Below w.heap.size w wr ∧
    wr.ownsRow b1 9 1 v1 L1.length (L1.map Value.string) ∧ wr.ownsRow b2 9 1 v2 L2.length (L2.map Value.string) ∧ L1.length ≤ 100 ∧ L2.length ≤ 100) (fun _ _ v _ => 8 - (intOf v).toNat)
  case atStart =>
    obtain ⟨dk, q1, q2, jr, m, q3⟩ := h3
    exact ⟨0, 0, 0, [], [], rfl, Nat.zero_le _, ⟨dk, q1, q2, fun _ => ⟨jr, m, q3.1, q3.2.1, by have := q3.2.2; omega⟩⟩, a3, b3, World.ownsRow_nil _ _ _ _, World.ownsRow_nil _ _ _ _, by simp, by simp⟩
  case round =>
    clear h3 a3 b3
    obtain ⟨i, b1, b2, L1, L2, rfl, hiK, ⟨dk, hD, hSv, hG⟩, aI, bI, r1, r2, hl1, hl2⟩ := hrel
    by_cases h1 : i < K
    · obtain ⟨jr, m, I, hleft, hrl⟩ := hG h1
      have x1 : decide ((i : Int) < (z.length : Int)) = true := decide_eq_true (by omega)
      have x2 : ((i : Int) < (z.length : Int)) = True := eq_true (by omega)
      have x3 : decide ((i : Int) < 8) = true := decide_eq_true (by omega)
      have x4 : ((i : Int) < 8) = True := eq_true (by omega)
      have hrec := records_calls I.jour (by omega)
      go_upto_region 12 with (go_at_call 19; refine hrec.mono ?_; rintro e w4 ⟨v4, rfl, r4, b4⟩; obtain ⟨A4, c4, rfl⟩ := own_form r4)
      obtain ⟨q, hq⟩ : ∃ q, wr.heap.size = q := ⟨_, rfl⟩
      have B4 := bI.trans (b4.mono bI.size)
      have I4 := I.keep b4
      have A4' := aI.keep' b4
      rw [hq] at r4
      refine wp_world (fun W => Good W Bj j D dk jr m N ∧ Ambs a D W ∧ Below w.heap.size w W ∧ W.ownsRow q 9 1 (.slice A4 jr.records.length c4) jr.records.length (jr.records.map Value.string)) ⟨I4, A4', B4, r4⟩ ?_
      clear B4 I4 A4' r4 b4 hrec r1 r2 hl1 hl2 aI bI I hD hG hSv hq
      rintro W4 ⟨I, aI, bI, r4⟩
      obtain ⟨ad, cs, rfl, hcl, ⟨A', c', rfl, hc', hK'⟩, hcell⟩ := Kd.C_get hC [] (i : Int) (by omega) (by omega)
      have hcell := hcell 0 _ rfl
      rw [Int.toNat_natCast] at hK' hcell hc'
      rw [Nat.add_zero, show (Kd.slice 9 Kd.string).sz = 1 from rfl, Nat.mul_one] at hcell
      generalize hg : z.getD i [] = g at hK' hcell hc'
      have hFl := fewF_length g
      have hFs := fewF_size g
      have hadl : (ad.add i).block < w.heap.size := cell_lt hcell
      have x5 : (i < z.length) = True := eq_true (by omega)
      refine Sha.norm_wp ?_
      refine surv_r12 _ W4 W4 _ _ _ _ _ _ _ _ _ _ _ _ _ _ _ _ _ _ _ _ _ _ _ _ _ _ _ _ _ _ _ _ _ _ _ _ _ _ _ _ _ _ _ _ _ _ _ _ _ _ _ _ _ _ _ _ _ _ _ _ _ _ _ _ _ _ _ _ _ _ _ _ _ _ _ _ _ _ _ _ _ _ _ _ _ _ _ _ _ _ _ _ _ _ _ _ _ _ _ _ _ _ _ _ _ _ _ _ _ _ _ _ _ _ _ _ _ _ _ ad z.length cap i q c4 c' A4 A' jr.records g x2 x5 (Nat.lt_of_lt_of_le hadl bI.size) ((bI.cell hadl).trans hcell) (Kd.C_below hK' bI) hc' r4 (by omega) (Below.refl _ _) ?_
      intro z49 z50 z51 z52 z53 z54 z55 z56 z57 v17 W5 r17 k5
      obtain ⟨L2, hL2⟩ : ∃ L2, jr.records ++ fewF g = L2 := ⟨_, rfl⟩
      have hL2l : L2.length ≤ i * 6 + 6 := by rw [← hL2, List.length_append]; omega
      rw [hL2] at r17
      obtain ⟨A17, c17, rfl⟩ := own_form r17
      obtain ⟨q2, hq2⟩ : ∃ q2, W4.heap.size = q2 := ⟨_, rfl⟩
      have I5 := I.keep k5
      have a5 := aI.keep' k5
      have b5 := bI.trans (k5.mono bI.size)
      have r16 := own_below r4 k5
      rw [hq2] at r17
      refine wp_norm (fun W => Good W Bj j D dk jr m N ∧ Ambs a D W ∧ Below w.heap.size w W ∧ W.ownsRow q 9 1 (.slice A4 jr.records.length c4) jr.records.length (jr.records.map Value.string) ∧ W.ownsRow q2 9 1 (.slice A17 L2.length c17) L2.length (L2.map Value.string)) ⟨I5, a5, b5, r16, r17⟩ ?_
      clear I5 a5 b5 r16 r17 k5 hq2 r4 bI aI I
      rintro W5 ⟨I, aI, b5, r16, r17⟩
      have hCg5 := Kd.C_below hK' b5
      have hcell5 := (b5.cell hadl).trans hcell
      have hcg := hc'
      have hw1 : IntKind.i64.wrap ((z.length : Int) - 1) = ((z.length - 1 : Nat) : Int) := by rw [IntKind.wrap_i64]; omega
      have hcw : IntKind.i64.wrap (1 + (kc : Int)) = ((kc + 1 : Nat) : Int) := by rw [IntKind.wrap_i64]; omega
      by_cases hlast : i + 1 = K
      · go_upto_region 13 with (fail)
        refine nrm_wp (fun a' w' => SvMid n cut torn ad z.length cap len2 cap2 D.d j N i jr.records.length c4 L2.length c17 A2 A4 A17 a' ∧ w' = W5) ?_ ?_
        · by_cases hz1 : i + 1 = z.length
          · have y1 : decide ((i : Int) = ((z.length - 1 : Nat) : Int)) = true := decide_eq_true (by omega)
            have y2 : ((i : Int) = ((z.length - 1 : Nat) : Int)) = True := eq_true (by omega)
            have y3 : (i = z.length - 1) = True := eq_true (by omega)
            have y4 : ((i : Int) == ((z.length - 1 : Nat) : Int)) = true := by simp; omega
            go_wp2_with fail
            exact ⟨⟨_, _, _, _, _, _, _, _, _, _, _, _, _, _, _, _, _, _, _, _, _, _, _, _, _, _, _, _, _, _, _, _, _, _, _, _, _, _, _, _, _, _, _, _, _, _, _, _, _, _, _, _, _, rfl⟩, rfl⟩
          · have y1 : decide ((i : Int) = ((z.length - 1 : Nat) : Int)) = false := decide_eq_false (by omega)
            have y2 : ((i : Int) = ((z.length - 1 : Nat) : Int)) = False := eq_false (by omega)
            have y3 : (i = z.length - 1) = False := eq_false (by omega)
            have y4 : ((i : Int) == ((z.length - 1 : Nat) : Int)) = false := by simp; omega
            have y5 : ((i : Int) == 7) = true := by simp; omega
            have y6 : ((i : Int) = 7) = True := eq_true (by omega)
            go_wp2_with fail
            exact ⟨⟨_, _, _, _, _, _, _, _, _, _, _, _, _, _, _, _, _, _, _, _, _, _, _, _, _, _, _, _, _, _, _, _, _, _, _, _, _, _, _, _, _, _, _, _, _, _, _, _, _, _, _, _, _, rfl⟩, rfl⟩
        · rintro a' w' ⟨⟨z10, z20, z37, z38, z39, z40, z41, z42, z43, z44, z45, z46, z47, z48, z49, z50, z51, z52, z53, z54, z55, z56, z57, z58, z59, z60, z61, z62, z63, z64, z65, z66, z67, z68, z69, z70, z71, z72, z73, z74, z75, z76, z77, z78, z79, z80, z81, z82, z83, z84, z85, z86, z87, rfl⟩, rfl⟩
          go_upto_region 16 with (first
            | (go_at_call 29; refine ((I.keep kp).cutn (aI.keep' kp) (kc + 1) (by omega)).mono ?_; rintro e wc ⟨rfl, I6, a6, b6, o6⟩)
            | (go_at_call 14; refine (clearwaylaw29_pick.calls cut 3 _ _ hkc).mono ?_; rintro e wp ⟨rfl, hdr⟩
               have kp := hdr.below))
          have r16b := own_off (own_below r16 kp) o6 (I.keep kp).disk
          have r17b := own_off (own_below r17 kp) o6 (I.keep kp).disk
          refine wp_world (fun W => Good W Bj j D { dk with left := kc + 1 } jr m N ∧ Ambs a D W ∧ Below w.heap.size w W ∧ W.ownsRow q 9 1 (.slice A4 jr.records.length c4) jr.records.length (jr.records.map Value.string) ∧ W.ownsRow q2 9 1 (.slice A17 L2.length c17) L2.length (L2.map Value.string)) ⟨I6, a6, (b5.trans (kp.mono b5.size)).trans (b6.mono hDw), r16b, r17b⟩ ?_
          clear r16b r17b I6 a6 b6 o6 hdr kp hcell5 hCg5 I aI b5 r16 r17
          rintro W6 ⟨I, aI, b5, r16, r17⟩
          have hCg5 := Kd.C_below hK' b5
          have hcell5 := (b5.cell hadl).trans hcell
          go_upto_region 17 with (first
            | (go_at_call 10; refine (((I.keep ba).app_last (aI.keep' ba) hSt hFl hFs)).mono ?_; rintro e wb ⟨c, dk', jr', rfl, hD', hJ', hO', ha', hb', hcs⟩)
            | (go_at_call 11; refine (few_calls _ A' c' g hCg5 hcg).mono ?_; rintro e wa ⟨v, rfl, hR, hSt, ba⟩
               obtain ⟨A8, c8, rfl, _⟩ := id hSt))
          have bw : Below w.heap.size w wb := (b5.trans (ba.mono b5.size)).trans (hb'.mono hDw)
          have s16 := own_oj (own_below r16 ba) hO' (I.keep ba).disk (I.keep ba).jour
          have s17 := own_oj (own_below r17 ba) hO' (I.keep ba).disk (I.keep ba).jour
          rw [hL2] at hcs
          rcases hcs with ⟨rfl, m', hf, hsz, hrec, _⟩ | ⟨rfl, rfl, rfl⟩ | ⟨rfl, hsv, _, _, _, _, _, _⟩
          · go_wp2_with fail
            go_roundw
            case rel => exact ⟨i + 1, _, _, _, _, by simp, by omega, ⟨dk', hD', hrec ▸ Surv.of_fine hf hsz _, fun hh => absurd hh (by omega)⟩, ha', bw, s17, s17, by omega, by omega⟩
            case measure => simp [intOf]; omega
          · go_wp2_with fail
            go_roundw
            case rel => exact ⟨i + 1, _, _, _, _, by simp, by omega, ⟨_, hD', Surv.of_fine I.fine I.tot _, fun hh => absurd hh (by omega)⟩, ha', bw, s16, s16, by omega, by omega⟩
            case measure => simp [intOf]; omega
          · go_wp2_with fail
            go_roundw
            case rel => exact ⟨i + 1, _, _, _, _, by simp, by omega, ⟨dk', hD', hsv, fun hh => absurd hh (by omega)⟩, ha', bw, s16, s17, by omega, by omega⟩
            case measure => simp [intOf]; omega
      · have y1 : decide ((i : Int) = ((z.length - 1 : Nat) : Int)) = false := decide_eq_false (by omega)
        have y2 : ((i : Int) = ((z.length - 1 : Nat) : Int)) = False := eq_false (by omega)
        have y3 : (i = z.length - 1) = False := eq_false (by omega)
        have y4 : ((i : Int) == ((z.length - 1 : Nat) : Int)) = false := by simp; omega
        have y5 : ((i : Int) == 7) = false := by simp; omega
        have y6 : ((i : Int) = 7) = False := eq_false (by omega)
        have y7 : (i = 7) = False := eq_false (by omega)
        go_upto_region 17 with (first
          | (go_at_call 10; refine (((I.keep ba).app_last (aI.keep' ba) hSt hFl hFs)).mono ?_; rintro e wb ⟨c, dk', jr', rfl, hD', hJ', hO', ha', hb', hcs⟩)
          | (go_at_call 11; refine (few_calls _ A' c' g hCg5 hcg).mono ?_; rintro e wa ⟨v, rfl, hR, hSt, ba⟩
             obtain ⟨A8, c8, rfl, _⟩ := id hSt))
        have bw : Below w.heap.size w wb := (b5.trans (ba.mono b5.size)).trans (hb'.mono hDw)
        have s16 := own_oj (own_below r16 ba) hO' (I.keep ba).disk (I.keep ba).jour
        have s17 := own_oj (own_below r17 ba) hO' (I.keep ba).disk (I.keep ba).jour
        rw [hL2] at hcs
        rcases hcs with ⟨rfl, m', hf, hsz, hrec, hlf⟩ | ⟨rfl, rfl, rfl⟩ | ⟨_, _, hne, _⟩
        · go_wp2_with fail
          go_roundw
          case rel => exact ⟨i + 1, _, _, _, _, by simp, by omega, ⟨dk', hD', hrec ▸ Surv.of_fine hf hsz _, fun hh => ⟨jr', m', ⟨hD', hJ', hf, hsz, I.small, I.hj⟩, hlf hleft, by rw [hrec]; omega⟩⟩, ha', bw, s17, s17, by omega, by omega⟩
          case measure => simp [intOf]; omega
        · go_wp2_with fail
          go_roundw
          case rel => exact ⟨i + 1, _, _, _, _, by simp, by omega, ⟨_, hD', Surv.of_fine I.fine I.tot _, fun hh => ⟨_, m, ⟨hD', hJ', I.fine, I.tot, I.small, I.hj⟩, hleft, by omega⟩⟩, ha', bw, s16, s16, by omega, by omega⟩
          case measure => simp [intOf]; omega
        · exact absurd hleft hne
    · have hiK2 := hiK
      obtain ⟨A16, c16, rfl⟩ := own_form r1
      obtain ⟨A17, c17, rfl⟩ := own_form r2
      go_upto_region 9 with (fail)
      refine nrm_wp (fun a' w' => ∃ (z37 z38 z39 z40 z41 z42 z43 : Value), a' = ⟨#[Value.int IntKind.i64 n, Value.slice A z.length cap, Value.int IntKind.i64 cut, Value.slice A2 len2 cap2, Value.int IntKind.i64 torn, undef, undef, undef, undef, undef, u10, Value.bool true, Value.pointer (some ⟨D.d, 0, none⟩), Value.int IntKind.i64 0, Value.pointer (some ⟨j, 0, none⟩), Value.int IntKind.i64 0, Value.slice A16 L1.length c16, Value.slice A17 L2.length c17, Value.int IntKind.i64 (i : Int), u19, u20, undef, undef, Value.bool true, Value.tuple #[Value.pointer (some ⟨D.d, 0, none⟩), Value.int IntKind.i64 0], Value.int IntKind.i64 n, Value.int IntKind.i64 (N : Int), Value.tuple #[Value.pointer (some ⟨D.d, 0, none⟩), Value.int IntKind.i64 0], Value.pointer (some ⟨D.d, 0, none⟩), Value.int IntKind.i64 0, Value.tuple #[Value.pointer (some ⟨j, 0, none⟩), Value.int IntKind.i64 0], Value.pointer (some ⟨D.d, 0, none⟩), Value.tuple #[Value.pointer (some ⟨j, 0, none⟩), Value.int IntKind.i64 0], Value.pointer (some ⟨j, 0, none⟩), Value.int IntKind.i64 0, Value.int IntKind.i64 0, Value.bool false, z37, z38, z39, z40, z41, z42, z43, Value.bool false, u45, u46, u47, u48, u49, u50, u51, u52, u53, u54, u55, u56, u57, u58, u59, u60, u61, u62, u63, u64, u65, u66, u67, u68, u69, u70, u71, u72, u73, u74, u75, u76, u77, u78, u79, u80, u81, u82, u83, u84, u85, u86, u87, undef, undef, undef, undef, undef, undef, undef, undef, undef, undef, undef, undef, undef, undef, undef, undef, undef, undef, undef, undef, undef, undef, undef, undef, undef, undef, undef, undef, undef, undef, undef, undef, undef, undef], []⟩ ∧ w' = wr) ?_ ?_
      · by_cases hz1 : i < z.length
        · have y1 : decide ((i : Int) < (z.length : Int)) = true := decide_eq_true (by omega)
          have y2 : ((i : Int) < (z.length : Int)) = True := eq_true (by omega)
          have y3 : decide ((i : Int) < 8) = false := decide_eq_false (by omega)
          have y4 : ((i : Int) < 8) = False := eq_false (by omega)
          have y5 : ((8 : Int) ≤ (i : Int)) = True := eq_true (by omega)
          go_wp2_with fail
          exact ⟨⟨_, _, _, _, _, _, _, rfl⟩, rfl⟩
        · have y1 : decide ((i : Int) < (z.length : Int)) = false := decide_eq_false (by omega)
          have y2 : ((i : Int) < (z.length : Int)) = False := eq_false (by omega)
          have y3 : (i < z.length) = False := eq_false (by omega)
          go_wp2_with fail
          exact ⟨⟨_, _, _, _, _, _, _, rfl⟩, rfl⟩
      · rintro a' w' ⟨z37, z38, z39, z40, z41, z42, z43, rfl, rfl⟩
        have hCk := Kd.C_below hC2 bI
        obtain ⟨bk, o, hbk1, hbk2, hbk3⟩ := ints_C hCk hx1 (by have := bI.size; omega)
        obtain ⟨k2, hk2⟩ : ∃ k2, min len2 20 = k2 := ⟨_, rfl⟩
        have hm1 : min (len2 : Int) 20 = (k2 : Int) := by omega
        have hm2 : ((k2 : Int) ≤ (cap2 : Int)) = True := eq_true (by omega)
        have hm3 : (k2 ≤ cap2) = True := eq_true (by omega)
        have hR2 : intR (xs.take k2) bk o w' := fun jj x hh => by
          rw [List.getElem?_take] at hh
          split at hh
          · exact hbk3 jj x hh
          · cases hh
        have hxl : (xs.take k2).length = k2 := by rw [List.length_take]; omega
        have hcr := crash_calls hD bk o k2 cap2 A2 (xs.take k2) hxl (by omega) (fun hh => hbk1 (by omega)) hbk2 hR2 torn ⟨ht1, ht2⟩ hSv.lt hSv.fit (by have := hSv.few; omega)
        obtain ⟨rs, tt, hrs, hce, htt, hsm, hNl⟩ := hSv.back (xs.take k2) torn
        rw [hce] at hcr
        go_upto_region 24 with (go_at_call 30; refine hcr.mono ?_; rintro e wc ⟨rfl, hdc, oc⟩)
        have s1 := own_off r1 oc hD
        have s2 := own_off r2 oc hD
        have bc := oc.below hD.sizeB
        have ac := aI.keep bc
        have bwc : Below w.heap.size w wc := bI.trans (bc.mono hDw)
        refine wp_world (fun W => DiskAt W D ⟨false, 0, stored chF z32 rs ++ tt, stored chF z32 rs ++ tt, []⟩ ∧ Ambs a D W ∧ Below w.heap.size w W ∧ W.ownsRow b1 9 1 (.slice A16 L1.length c16) L1.length (L1.map Value.string) ∧ W.ownsRow b2 9 1 (.slice A17 L2.length c17) L2.length (L2.map Value.string)) ⟨hdc, ac, bwc, s1, s2⟩ ?_
        clear s1 s2 bc ac bwc hdc oc hcr hR2 hbk3 hCk hD hSv hG aI bI r1 r2
        rintro W7 ⟨hD, aI, bI, r1, r2⟩
        have hop := open_surv hD htt hsm hNl (by omega) aI
        go_upto_region 25 with (go_at_call 25; refine hop.mono ?_; rintro e wd ⟨j2, dk2, jr2, m2, rfl, G2, hrec2, hl3, o2, a2, b2'⟩)
        have s1 := own_off r1 o2 hD
        have s2 := own_off r2 o2 hD
        have bwd : Below w.heap.size w wd := bI.trans (b2'.mono hDw)
        have hrl2 : jr2.records.length ≤ 1000000 := by have h1 := rec_le jr2.records z32; rw [← G2.fine.size] at h1; have := G2.tot; omega
        have hrc := records_calls G2.jour (Nat.le_trans hrl2 (by decide))
        have hrc2 := fun W (hW : Below wd.heap.size wd W) => records_calls (G2.keep hW).jour (Nat.le_trans hrl2 (by decide))
        rw [hrec2] at hrc hrl2
        simp only [hrec2] at hrc2
        obtain ⟨q1, hq1, he1⟩ := same_any rs L1 hrl2 (by omega)
        obtain ⟨q2, hq2, he2⟩ := same_any rs L2 hrl2 (by omega)
        cases q1 with
        | true =>
          go_wp2_with (first
            | (go_at_call 18; refine (samev_calls we rs L1 true hq1 o3 (own_below s1 b3)).mono ?_; rintro e wf ⟨rfl, b4⟩)
            | (go_at_call 19; refine hrc.mono ?_; rintro e we ⟨v3, rfl, o3, b3⟩; obtain ⟨A3, c3, rfl⟩ := own_form o3))
          go_ret
          exact ⟨rfl, bwd.trans ((b3.trans (b4.mono b3.size)).mono bwd.size)⟩
        | false =>
          have hqt : q2 = true := by
            rcases hrs with e | e
            · have := he1 e; cases this
            · exact he2 e
          subst hqt
          go_wp2_with (first
            | (go_at_call 18; refine (samev_calls wg rs L2 true hq2 o5 (own_below s2 k5)).mono ?_; rintro e wh ⟨rfl, b6⟩)
            | (go_at_call 19; refine (hrc2 wf k4).mono ?_; rintro e wg ⟨v5, rfl, o5, b5⟩; obtain ⟨A5, c5, rfl⟩ := own_form o5
               have k5 := k4.trans (b5.mono k4.size))
            | (go_at_call 18; refine (samev_calls we rs L1 false hq1 o3 (own_below s1 b3)).mono ?_; rintro e wf ⟨rfl, b4⟩
               have k4 := b3.trans (b4.mono b3.size))
            | (go_at_call 19; refine hrc.mono ?_; rintro e we ⟨v3, rfl, o3, b3⟩; obtain ⟨A3, c3, rfl⟩ := own_form o3))
          go_ret
          exact ⟨rfl, bwd.trans ((k5.trans (b6.mono k5.size)).mono bwd.size)⟩
end Go.Proofs.YtniegajdmbepbaaGreatDoor.Jm

