/- The reference's Visible: its region that applies a change. Condition: it fits. The reference's disk as a state; New and Visible. Condition: at least one byte. The reference's disk: Visible. Condition: none. The reference's disk: Write. Condition: none. The reference's disk: Write, Sync, Read of the whole. Condition: fewer than 1,000,000 changes. The reference's disk: Sync, Read of the whole. Condition: none. What a power failure leaves of a disk with a journal, whatever it was about to do: the records before, or these and a whole group; Append and Open there. Condition: none. A row of ints that is read, as cells. Condition: none. -/
import Derived.Test.YtniegajdmbepbaaGreatDoorKJournalMatchesReference14
import Derived.Test.YtniegajdmbepbaaGreatDoorKJournalMatchesReference25
import Derived.Test.YtniegajdmbepbaaGreatDoorKJournalMatchesReference27
set_option linter.unusedSimpArgs false
set_option linter.unusedVariables false
open Go.Proofs.YtniegajdmbepbaaGreatDoor
namespace Go.Proofs.YtniegajdmbepbaaGreatDoor.Jm
open Go Go.RowKit Go.Shelf Go.Proofs.YtniegajdmbepbaaGreatDoor.Rf Go.Proofs.YtniegajdmbepbaaGreatDoorW.PrintWords Go.Proofs.YtniegajdmbepbaaGreatDoorW.PrintLast Go.Proofs.YtniegajdmbepbaaGreatDoorW.PrintMore Go.Proofs.YtniegajdmbepbaaGreatDoor.Sha
def visT.T5 : Bool × List (List Nat × List Nat) := (true, [([], []), ([], []), ([1], [1]), ([2], [2]), ([3], [3]), ([], []), ([4, 5], [4, 5]), ([6], [6]), ([7], [7]), ([], []), ([9], [9]), ([10], [10]), ([11], [11]), ([], []), ([12, 13], [12, 13]), ([14], [14]), ([15], [15]), ([0, 8, 16], [0, 8, 16])])
def visT.B5 : List Nat := [0, 0, 2, 6, 14, 0, 62, 126, 254, 0, 512, 1536, 3584, 0, 15872, 32256, 65024, 131071]
theorem visT.tab5 : rtab .any (opsOf Tryz.f23 5) = visT.T5 := by kernel_rfl
theorem visT.bits5 : waitsOk visT.T5.2 visT.B5 = true := by kernel_rfl
noncomputable def visR5 : Code := ((Tryz.f23.body.bind (regionOf 5)).getD .skip)
set_option maxHeartbeats 8000000 in
set_option maxRecDepth 100000 in
theorem vis_r5 (R : Act → World → Prop) (v W : World) (v1 v2 v5 v6 v7 v8 v9 v10 v11 v12 v13 v14 v15 v16 v17 v18 v19 v20 v21 v22 v23 v24 v25 v26 v27 v28 v29 v30 v31 v32 v33 v34 v35 v36 v37 v38 : Value) (base r gb n cb gp k cp i o : Nat) (s : ByteArray) (l : List Nat)
  (hx1 : ((i : Int) < (k : Int)) = True) (hx2 : (i < k) = True) (hr : r < v.heap.size) (hgp : gp < v.heap.size) (hc1 : v.cell? ⟨r, 1, none⟩ = some (.slice (some ⟨gp, 0, none⟩) k cp)) (hd0 : v.cell? ⟨gp, i * 2, none⟩ = some (.int .i64 (o : Int))) (hd1 : v.cell? ⟨gp, i * 2 + 1, none⟩ = some (.string s))
  (hrow : v.ownsRow base 5 1 (.slice (some ⟨gb, 0, none⟩) n cb) n (bv l)) (hl : l.length = n) (hfit : o + s.size ≤ n) (hn : n ≤ 4194304)
  (hS : SBl v W)
  (hQ : ∀ (z20 z21 z22 z23 z24 z25 z26 z27 z28 z29 z30 z31 z32 z33 z34 z35 z36 z37 : Value) (W' : World), W'.ownsRow base 5 1 (.slice (some ⟨gb, 0, none⟩) n cb) n (bv (splice l o (bl s))) → But gb v W' → R ⟨#[Value.pointer (some ⟨r, 0, none⟩), v1, v2, Value.slice (some ⟨gb, 0, none⟩) n cb, Value.int .i64 (i : Int), v5, v6, v7, v8, v9, v10, v11, v12, v13, v14, v15, v16, v17, v18, v19, z20, z21, z22, z23, z24, z25, z26, z27, z28, z29, z30, z31, z32, z33, z34, z35, z36, z37, v38], []⟩ W') :
  visR5.wp Tryz.prog (Norm R) ⟨#[Value.pointer (some ⟨r, 0, none⟩), v1, v2, Value.slice (some ⟨gb, 0, none⟩) n cb, Value.int .i64 (i : Int), v5, v6, v7, v8, v9, v10, v11, v12, v13, v14, v15, v16, v17, v18, v19, v20, v21, v22, v23, v24, v25, v26, v27, v28, v29, v30, v31, v32, v33, v34, v35, v36, v37, v38], []⟩ W := by
 unfold visR5
 conv => arg 2; whnf
 refine start_ (n := 18) (S := SBl v) (ds := [17]) (Sx14.b 18 0) (by kernel_rfl) rfl rfl (keepSBl hS (below_drew1 (Below.refl _ _))) (fun hHeld => ?_); refine with_tabW visT.tab5 visT.bits5 (fun HT_ HW_ => ?_)
 generalize W.drew = w0_ at hHeld ⊢
 refine Sx14.p (i := 0) (N := some 20) HT_.out (Sx14.b 18 1) ?_
 refine Sx14.p (i := 1) (N := some 21) HT_.out (Sx14.b 18 3) ?_
 refine Sx14.p (i := 2) (N := some 22) HT_.out (Sx14.b 18 7) ?_
 refine Sx14.p (i := 3) (N := some 23) HT_.out (Sx14.b 18 15) ?_
 refine Sx14.p (i := 5) (N := some 25) HT_.out (Sx14.b 18 47) ?_
 refine Sx14.p (i := 9) (N := some 29) HT_.out (Sx14.b 18 559) ?_
 refine Sx14.p (i := 10) (N := some 30) HT_.out (Sx14.b 18 1583) ?_
 refine Sx14.p (i := 11) (N := some 31) HT_.out (Sx14.b 18 3631) ?_
 refine Sx14.p (i := 13) (N := some 33) HT_.out (Sx14.b 18 11823) ?_
 refine take_ (i := 4) (N := some 24) (v := ?_) (a' := ?_) (Sx14.b 18 11839) rfl rfl (take_ofW HT_.out HW_.out (by kernel_rfl)) (fun _ _ _ h => h) (Or.inl ⟨by rfl, ?_⟩) hHeld ?_ ?_
 rotate_left
 ·intro w' hS_
  have c1_ := (hS_.cell (p := ⟨r, 1, none⟩) hr).trans hc1
  have d0_ := (hS_.cell (p := ⟨gp, i * 2, none⟩) hgp).trans hd0
  have d1_ := (hS_.cell (p := ⟨gp, i * 2 + 1, none⟩) hgp).trans hd1
  go_simp
  with_reducible rfl
 rotate_left
 ·simp only [Act.put, Sx14.u, Sx14.v, Sx14.w, i64_w, i32_w]
  rfl
 refine Sx14.p (i := 6) (N := some 26) HT_.out (Sx14.b 18 11903) ?_
 refine Sx14.p (i := 7) (N := some 27) HT_.out (Sx14.b 18 12031) ?_
 refine take_ (i := 8) (N := some 28) (v := ?_) (a' := ?_) (Sx14.b 18 12287) rfl rfl (take_ofW HT_.out HW_.out (by kernel_rfl)) (fun _ _ _ h => h) (Or.inl ⟨by rfl, ?_⟩) hHeld ?_ ?_
 rotate_left
 ·intro w' hS_
  have c1_ := (hS_.cell (p := ⟨r, 1, none⟩) hr).trans hc1
  have d0_ := (hS_.cell (p := ⟨gp, i * 2, none⟩) hgp).trans hd0
  have d1_ := (hS_.cell (p := ⟨gp, i * 2 + 1, none⟩) hgp).trans hd1
  go_simp
  with_reducible rfl
 rotate_left
 ·simp only [Act.put, Sx14.u, Sx14.v, Sx14.w, i64_w, i32_w]
  rfl
 refine take_ (i := 12) (N := some 32) (v := ?_) (a' := ?_) (Sx14.b 18 16383) rfl rfl (take_ofW HT_.out HW_.out (by kernel_rfl)) (fun _ _ _ h => h) (Or.inl ⟨by rfl, ?_⟩) hHeld ?_ ?_
 rotate_left
 ·intro w' hS_
  have c1_ := (hS_.cell (p := ⟨r, 1, none⟩) hr).trans hc1
  have d0_ := (hS_.cell (p := ⟨gp, i * 2, none⟩) hgp).trans hd0
  have d1_ := (hS_.cell (p := ⟨gp, i * 2 + 1, none⟩) hgp).trans hd1
  go_simp
  with_reducible rfl
 rotate_left
 ·simp only [Act.put, Sx14.u, Sx14.v, Sx14.w, i64_w, i32_w]
  rfl
 refine Sx14.p (i := 14) (N := some 34) HT_.out (Sx14.b 18 32767) ?_
 refine Sx14.p (i := 15) (N := some 35) HT_.out (Sx14.b 18 65535) ?_
 refine take_ (i := 16) (N := some 36) (v := ?_) (a' := ?_) (Sx14.b 18 131071) rfl rfl (take_ofW HT_.out HW_.out (by kernel_rfl)) (fun _ _ _ h => h) (Or.inl ⟨by rfl, ?_⟩) hHeld ?_ ?_
 rotate_left
 ·intro w' hS_
  have c1_ := (hS_.cell (p := ⟨r, 1, none⟩) hr).trans hc1
  have d0_ := (hS_.cell (p := ⟨gp, i * 2, none⟩) hgp).trans hd0
  have d1_ := (hS_.cell (p := ⟨gp, i * 2 + 1, none⟩) hgp).trans hd1
  go_simp
  with_reducible rfl
 rotate_left
 ·simp only [Act.put, Sx14.u, Sx14.v, Sx14.w, i64_w, i32_w]
  rfl
 refine last_ (i := 17) (N := some 37) (Sx14.b 18 262143) rfl rfl (one_of HT_.out (by kernel_rfl)) (by decide) (fun K hK => ?_)
 refine goes_ Tryz.func53 (by kernel_rfl) rfl #[.slice (some ⟨gb, 0, none⟩) n cb, .int .i64 (o : Int), .string s] (by rfl) rfl rfl (by (try simp only [List.map_toArray, List.map_cons, List.map_nil]); first | done | rfl) ?_
 refine (apply_calls _ base gb n cb o s l (Jm.own_keep hrow fun g hg => hHeld.block g (hrow.lt g hg).2) hl hfit hn).mono ?_
 rintro e w9 ⟨rfl, hrow9, hbut⟩
 refine ⟨_, rfl, ?_⟩
 refine hK.out _ _ ?_
 clear hK K
 refine norm_ (a' := ?_) ?_ ?_
 rotate_left
 ·show Act.put _ (some 37) _ = _
  simp only [Act.put, Sx14.u, Sx14.v, Sx14.w, i64_w, i32_w]
  rfl
 refine done_ (done_of HT_.out (by kernel_rfl)) ?_
 exact hQ _ _ _ _ _ _ _ _ _ _ _ _ _ _ _ _ _ _ _ hrow9 ((But.of_below hHeld).trans hbut)
open Go Go.RowKit Go.Shelf Go.Proofs.YtniegajdmbepbaaGreatDoorW.PrintWords Go.Proofs.YtniegajdmbepbaaGreatDoorW.PrintMore
theorem wpl_app8 {ops : Array Oper} {rest : List Oper} {o : Oper} {a : Act} {Q : Exit → Act → World → Prop} {w : World} (hgd : o.guard = none) (s x : Operand)
    (ho : o.op = .call { callee := .builtin .append, args := #[s, x], argTypes := #[39, 39] }) (base b2 : Nat) (v vx : Value) (xs ys : List Nat)
    (hs : a.eval s = v) (hown : w.ownsRow base 5 1 v xs.length (bv xs)) (hx : a.eval x = vx) (hox : w.ownsRow b2 5 1 vx ys.length (bv ys))
    (hlen : xs.length + ys.length ≤ 8388608) (hbase : base ≤ w.heap.size)
    (h : ∀ v' w', w'.ownsRow base 5 1 v' (xs ++ ys).length (bv (xs ++ ys)) → Below base w w' → wpList Tryz.prog ops Q rest (a.put o.dst v') w') :
    wpList Tryz.prog ops Q (o :: rest) a w := by
  obtain ⟨i0, hi0, hz0, hz1, hz2⟩ := info_parts info81
  rcases id hox.2 with ⟨rfl, h0⟩ | ⟨g, cap, cur, rfl, hb, hg, r⟩
  · refine wpList_append_own_none hgd s x 39 ho base 5 i0 1 Tryz.underlying39 hi0 v _ _ hs hown hx ?_
    obtain rfl := List.eq_nil_of_length_eq_zero h0
    refine h v w (by rw [List.append_nil]; exact hown) (Below.refl _ _)
  · refine wpList_append_own (P := Tryz.prog) w hgd s x 39 ho base 5 i0 _ 1 1 Tryz.underlying39 hi0 hz0 hz1 hz2 rfl (by decide) v _ _ hs hown ⟨g, 0, none⟩ ys.length cap (bv ys) hx (by rw [bv_length]; omega) (fun j u hu => hox.cells (g := g) rfl j u hu)
      (by intro u hu; obtain ⟨y, _, rfl⟩ := List.mem_map.1 hu; rfl) (by unfold maxLen; omega) (by omega) hbase ?_
    intro v' w' h2 h3 h4
    refine h v' w' (by rw [List.length_append, show bv (xs ++ ys) = bv xs ++ bv ys by unfold bv; rw [List.map_append]]; exact h2) ((Below.refl base w).grown h3 hbase (fun k hk => own_base hown k hk))
structure RAt (w : World) (B r : Nat) (dk : Dk) (gs cs : Nat) (pl : Value) : Prop where
  blk : w.heap[r]? = some (.cells #[.slice (some ⟨gs, 0, none⟩) dk.dur.length cs, pl, .bool dk.off, .int .i64 (dk.left : Int)] 67 (0, 0))
  sure : w.ownsRow B 5 1 (.slice (some ⟨gs, 0, none⟩) dk.dur.length cs) dk.dur.length (bv dk.dur)
  pend : w.ownsRow B 100 2 pl dk.pend.length (pcells dk.pend)
  hr : B ≤ r
  vis : dk.vis = putL dk.dur dk.pend
  lt : ∀ b ∈ dk.dur, b < 256
  pos : 1 ≤ dk.dur.length
  small : dk.dur.length ≤ 4194304
  fit : ∀ p ∈ dk.pend, p.1 + p.2.size ≤ dk.dur.length
  left : dk.left ≤ 9223372036854775807
  few : dk.pend.length ≤ 1000000
def RefAt (w : World) (B r : Nat) (Z : Nat → Prop) (dk : Dk) : Prop := ∃ gs cs pl, RAt w B r dk gs cs pl ∧ ¬ Z gs
theorem RAt.lt_r {w : World} {B r : Nat} {dk : Dk} {gs cs : Nat} {pl : Value} (h : RAt w B r dk gs cs pl) : r < w.heap.size := (Array.getElem?_eq_some_iff.1 h.blk).1
theorem RAt.keep {w W : World} {B r : Nat} {dk : Dk} {gs cs : Nat} {pl : Value} (h : RAt w B r dk gs cs pl) (k : Below w.heap.size w W) : RAt W B r dk gs cs pl :=
  ⟨(k.block _ h.lt_r).trans h.blk, own_keep h.sure fun g hg => k.block g (h.sure.lt g hg).2, own_keep h.pend fun g hg => k.block g (h.pend.lt g hg).2, h.hr, h.vis, h.lt, h.pos, h.small, h.fit, h.left, h.few⟩
theorem RefAt.keep {w W : World} {B r : Nat} {Z : Nat → Prop} {dk : Dk} (h : RefAt w B r Z dk) (k : Below w.heap.size w W) : RefAt W B r Z dk := let ⟨gs, cs, pl, h, hz⟩ := h; ⟨gs, cs, pl, h.keep k, hz⟩
theorem RAt.cell0 {w : World} {B r : Nat} {dk : Dk} {gs cs : Nat} {pl : Value} (h : RAt w B r dk gs cs pl) : w.cell? ⟨r, 0, none⟩ = some (.slice (some ⟨gs, 0, none⟩) dk.dur.length cs) := by simp [World.cell?, h.blk]
theorem RAt.cell1 {w : World} {B r : Nat} {dk : Dk} {gs cs : Nat} {pl : Value} (h : RAt w B r dk gs cs pl) : w.cell? ⟨r, 1, none⟩ = some pl := by simp [World.cell?, h.blk]
theorem RAt.cell2 {w : World} {B r : Nat} {dk : Dk} {gs cs : Nat} {pl : Value} (h : RAt w B r dk gs cs pl) : w.cell? ⟨r, 2, none⟩ = some (.bool dk.off) := by simp [World.cell?, h.blk]
theorem RAt.cell3 {w : World} {B r : Nat} {dk : Dk} {gs cs : Nat} {pl : Value} (h : RAt w B r dk gs cs pl) : w.cell? ⟨r, 3, none⟩ = some (.int .i64 (dk.left : Int)) := by simp [World.cell?, h.blk]
theorem RAt.frozen {w : World} {B r : Nat} {dk : Dk} {gs cs : Nat} {pl : Value} (h : RAt w B r dk gs cs pl) (j : Nat) : w.frozen? ⟨r, j, none⟩ = false := frozen_of h.blk j
set_option maxRecDepth 100000 in
set_option maxHeartbeats 4000000 in
theorem refnew_calls (w : World) (n : Nat) (h1 : 1 ≤ n) (h2 : n ≤ 4194304) (Z : Nat → Prop) (hZ : ∀ k, Z k → k < w.heap.size) :
    Calls Tryz.prog 33 #[.int .i64 (n : Int)] w fun e w' => ∃ r, e = .returned (.tuple #[.pointer (some ⟨r, 0, none⟩), .int .i64 0]) ∧ RefAt w' w.heap.size r Z (newDk n) ∧ Below w.heap.size w w' := by
  have hm := run_make_bytes n (by omega)
  have x1 : ((n : Int) < 1) = False := eq_false (by omega)
  have x2 : decide ((n : Int) < 1) = false := decide_eq_false (by omega)
  have x3 : decide ((4194304 : Int) < (n : Int)) = false := decide_eq_false (by omega)
  have x4 : ((4194304 : Int) < (n : Int)) = False := eq_false (by omega)
  have x5 : (4194304 < n) = False := eq_false (by omega)
  have x6 : (n < 1) = False := eq_false (by omega)
  go_enter Tryz.func33, Tryz.ntmps33
  go_wp2_with fail
  go_ret2
  have k1 := below_alloc (Below.refl w.heap.size w) (.cells (bv (zeros n)).toArray 5)
  obtain ⟨w1, hw1⟩ : ∃ w1, w.alloc (.cells (bv (zeros n)).toArray 5) = w1 := ⟨_, rfl⟩
  have q1 : w1.heap[w.heap.size]? = some (.cells (bv (zeros n)).toArray 5 (0, 0)) := by rw [← hw1]; exact heap_alloc_new ..
  have s1 : w1.heap.size = w.heap.size + 1 := by rw [← hw1]; simp
  rw [hw1] at k1 ⊢
  have k2 := below_alloc (Below.refl w1.heap.size w1) (.cells #[.slice (some ⟨w.heap.size, 0, none⟩) n n, .slice none 0 0, .bool false, .int .i64 0] 67)
  have q2 := heap_alloc_new w1 (.cells #[.slice (some ⟨w.heap.size, 0, none⟩) n n, .slice none 0 0, .bool false, .int .i64 0] 67)
  have zl : (zeros n).length = n := zeros_length n
  refine ⟨_, rfl, ⟨w.heap.size, n, .slice none 0 0, ?_, fun hz => by have := hZ _ hz; omega⟩, k1.trans (k2.mono (by omega))⟩
  exact { blk := by rw [show (newDk n).dur.length = n from zl]; rw [s1] at q2; exact q2
          sure := by
            rw [show (newDk n).dur.length = n from zl]
            refine ⟨by rw [bv_length, Nat.mul_one]; exact zl, .inr ⟨w.heap.size, n, _, rfl, Nat.le_refl _, (k2.block _ (by omega)).trans q1, Nat.le_refl _, by unfold maxLen; omega, by simp [bv, zl], ?_⟩⟩
            rw [Nat.mul_one]
            exact List.take_of_length_le (by rw [List.toList_toArray]; rw [bv_length]; exact Nat.le_of_eq zl)
          pend := World.ownsRow_nil _ _ _ _
          hr := by omega, vis := rfl, lt := zeros_lt n, pos := by rw [show (newDk n).dur.length = n from zl]; exact h1, small := by rw [show (newDk n).dur.length = n from zl]; exact h2
          fit := fun p hp => by cases hp
          left := Nat.zero_le _, few := Nat.zero_le _ }
open Go Go.RowKit Go.Shelf Go.Proofs.YtniegajdmbepbaaGreatDoorW.PrintWords Go.Proofs.YtniegajdmbepbaaGreatDoorW.PrintMore
theorem own_new8 (w : World) : (w.alloc (.cells #[] 5)).ownsRow w.heap.size 5 1 (.slice (some ⟨w.heap.size, 0, none⟩) 0 0) 0 (bv []) :=
  ⟨rfl, .inr ⟨w.heap.size, 0, #[], rfl, Nat.le_refl _, heap_alloc_new .., Nat.le_refl _, Nat.zero_le _, rfl, rfl⟩⟩
set_option maxRecDepth 100000 in
set_option maxHeartbeats 4000000 in
theorem visible_calls {w : World} {B r : Nat} {Z : Nat → Prop} {dk : Dk} (h : RefAt w B r Z dk) :
    Calls Tryz.prog 23 #[.pointer (some ⟨r, 0, none⟩)] w fun e w' => ∃ gb cb, e = .returned (.slice (some ⟨gb, 0, none⟩) dk.dur.length cb) ∧ w'.ownsRow w.heap.size 5 1 (.slice (some ⟨gb, 0, none⟩) dk.dur.length cb) dk.dur.length (bv dk.vis) ∧ Below w.heap.size w w' := by
  obtain ⟨gs, cs, pl, h, _⟩ := h
  have c0 := h.cell0
  obtain ⟨n, hn⟩ : ∃ n, dk.dur.length = n := ⟨_, rfl⟩
  have hsm := h.small
  have hpos := h.pos
  have hsu := h.sure
  rw [hn] at c0 hsm hpos hsu ⊢
  have k0 := below_alloc (Below.refl w.heap.size w) (.cells #[] 5)
  have c0a := (h.keep k0).cell0
  rw [hn] at c0a
  have o0 := own_new8 w
  have o1 := own_keep hsu fun g hg => k0.block g (hsu.lt g hg).2
  go_enter Tryz.func23, Tryz.ntmps23
  go_upto_region 2 with (at_builtin; refine wpl_app8 rfl (.tmp 5) (.tmp 9) rfl w.heap.size B (.slice (some ⟨w.heap.size, 0, none⟩) 0 0) (.slice (some ⟨gs, 0, none⟩) n cs) [] dk.dur rfl o0 rfl (by rw [hn]; exact o1) (by simp only [List.length_nil]; omega) (by simp) ?_
                         intro v1 w1 hown1 hb1
                         rw [List.nil_append, hn] at hown1)
  obtain ⟨A1, cb, rfl⟩ := own_form hown1
  obtain ⟨gb, rfl⟩ : ∃ gb, A1 = some ⟨gb, 0, none⟩ := by
    rcases hown1.2 with ⟨_, e⟩ | ⟨g, cap, cur, e, _⟩
    · omega
    · injection e with e1; exact ⟨g, e1⟩
  have B1 : Below w.heap.size w w1 := k0.trans hb1
  refine wp_world (fun W => Below w.heap.size w W ∧ W.ownsRow w.heap.size 5 1 (.slice (some ⟨gb, 0, none⟩) n cb) n (bv dk.dur)) ⟨B1, hown1⟩ ?_
  clear B1 hown1 hb1 o1 o0 k0 c0 c0a
  rintro W1 ⟨b1, r1⟩
  go_wp2_with fail
  go_loopw [4] (fun v wr => ∃ i : Nat, v = .int .i64 (i : Int) ∧ i ≤ dk.pend.length ∧ Below w.heap.size w wr ∧ wr.ownsRow w.heap.size 5 1 (.slice (some ⟨gb, 0, none⟩) n cb) n (bv (putL dk.dur (dk.pend.take i)))) (fun v _ => dk.pend.length - (intOf v).toNat)
  case atStart => exact ⟨0, rfl, Nat.zero_le _, b1, by rw [List.take_zero]; exact r1⟩
  case round =>
    clear b1 r1
    obtain ⟨i, rfl, hi, bI, rI⟩ := hrel
    have hk := h.keep bI
    have c1 := hk.cell1
    obtain ⟨ap, cp, hpv⟩ := own_form h.pend
    rw [hpv] at c1
    have hst := putL_ok (dk.pend.take i) dk.dur (fun q hq => h.fit q (List.mem_of_mem_take hq)) h.lt
    by_cases h1 : i < dk.pend.length
    · have x1 : decide ((i : Int) < (dk.pend.length : Int)) = true := decide_eq_true (by omega)
      have x2 : ((i : Int) < (dk.pend.length : Int)) = True := eq_true (by omega)
      have x3 : (i < dk.pend.length) = True := eq_true h1
      obtain ⟨p, hp⟩ : ∃ p, dk.pend[i]? = some p := ⟨_, List.getElem?_eq_getElem h1⟩
      have hfew := h.few
      have hn1 : IntKind.i64.wrap ((i : Int) + 1) = ((i + 1 : Nat) : Int) := by rw [IntKind.wrap_i64]; omega
      have hfp := h.fit p (List.mem_of_getElem? hp)
      rcases id hk.pend.2 with ⟨_, h0⟩ | ⟨gp, capp, curp, hep, hbp, hgp, _⟩
      · omega
      rw [hpv] at hep
      injection hep with e1 e2 e3
      subst e1
      obtain ⟨hp0, hp1⟩ := pcells_get dk.pend i p hp
      have d6p := hk.pend
      rw [hpv] at d6p
      have hc0 : wr.cell? ⟨gp, i * 2, none⟩ = some (.int .i64 (p.1 : Int)) := by
        have := d6p.cells (g := gp) rfl (i * 2) _ hp0
        cases i <;> simpa [Addr.add] using this
      have hc1 : wr.cell? ⟨gp, i * 2 + 1, none⟩ = some (.string p.2) := by
        have := d6p.cells (g := gp) rfl (i * 2 + 1) _ hp1
        simpa [Addr.add] using this
      have hgpl := (Array.getElem?_eq_some_iff.1 hgp).1
      clear hgp
      go_upto_region 5 with (fail)
      refine Sha.norm_wp ?_
      refine vis_r5 _ wr wr _ _ _ _ _ _ _ _ _ _ _ _ _ _ _ _ _ _ _ _ _ _ _ _ _ _ _ _ _ _ _ _ _ _ _ _ w.heap.size r gb n cb gp dk.pend.length cp i p.1 p.2 (putL dk.dur (dk.pend.take i)) x2 x3 hk.lt_r hgpl c1 hc0 hc1 rI (by rw [hst.1, hn]) (by omega) hsm (Below.refl _ _) ?_
      intro z20 z21 z22 z23 z24 z25 z26 z27 z28 z29 z30 z31 z32 z33 z34 z35 z36 z37 W2 r2 bt2
      have htk : dk.pend.take (i + 1) = dk.pend.take i ++ [p] := by rw [List.take_add_one, hp]; rfl
      have hgb := (rI.lt gb rfl).1
      have b2 : Below w.heap.size w W2 := by
        refine ⟨bt2.os.trans bI.os, bt2.tape.trans bI.tape, bt2.output.trans bI.output, Nat.le_trans bI.size bt2.size, fun k hk => ?_⟩
        exact (bt2.block k (Nat.lt_of_lt_of_le hk bI.size) (by omega)).trans (bI.block k hk)
      clear c1 hc0 hc1 x1
      go_wp2_with fail
      go_roundw
      case rel => exact ⟨i + 1, by first | rfl | simp, by omega, b2, by rw [htk, putL_snoc]; exact r2⟩
      case measure => simp [intOf]; omega
    · have hie : i = dk.pend.length := by omega
      have x1 : decide ((i : Int) < (dk.pend.length : Int)) = false := decide_eq_false (by omega)
      have x2 : ((i : Int) < (dk.pend.length : Int)) = False := eq_false (by omega)
      rw [hie, List.take_length, ← h.vis] at rI
      clear hie
      go_wp2_with fail
      go_ret
      exact ⟨gb, cb, rfl, rI, bI⟩
open Go Go.RowKit Go.Shelf Go.Proofs.YtniegajdmbepbaaGreatDoorW.PrintWords Go.Proofs.YtniegajdmbepbaaGreatDoorW.PrintMore
def isC : Obj → Prop
  | .cells _ t _ => t = 100
  | _ => False
structure ROff (B r : Nat) (w W : World) : Prop where
  os : W.os = w.os
  tape : W.tape = w.tape
  output : W.output = w.output
  size : w.heap.size ≤ W.heap.size
  block : ∀ k o, w.heap[k]? = some o → k ≠ r → (k < B ∨ ¬ isC o) → W.heap[k]? = some o
theorem ROff.refl (B r : Nat) (w : World) : ROff B r w w := ⟨rfl, rfl, rfl, Nat.le_refl _, fun _ _ h _ _ => h⟩
theorem ROff.trans {B r : Nat} {a b c : World} (h : ROff B r a b) (k : ROff B r b c) : ROff B r a c :=
  ⟨k.os.trans h.os, k.tape.trans h.tape, k.output.trans h.output, Nat.le_trans h.size k.size, fun i o hi hr hc => k.block i o (h.block i o hi hr hc) hr hc⟩
theorem ROff.of_below {B r : Nat} {w W : World} (h : Below w.heap.size w W) : ROff B r w W :=
  ⟨h.os, h.tape, h.output, h.size, fun k o hk _ _ => (h.block k (Array.getElem?_eq_some_iff.1 hk).1).trans hk⟩
theorem ROff.of_but {B r : Nat} {w W : World} (h : But r w W) : ROff B r w W :=
  ⟨h.os, h.tape, h.output, h.size, fun k o hk hr _ => (h.block k (Array.getElem?_eq_some_iff.1 hk).1 hr).trans hk⟩
theorem ROff.of_grown {r B n : Nat} {w W : World} {v : Value} {xs : List Value} (h : w.grownBy W v.ownBlock) (ho : w.ownsRow B 100 2 v n xs) : ROff B r w W :=
  ⟨h.os, h.tape, h.output, h.size, fun k o hk _ hc => (h.block k (Array.getElem?_eq_some_iff.1 hk).1 (fun e => hc.elim (fun hl => absurd (own_base ho k e.symm) (by omega)) fun hc => hc (by
    obtain ⟨cs, hcs⟩ := own_block ho e.symm
    rw [hcs] at hk
    cases hk
    rfl))).trans hk⟩
theorem infoC : (Tryz.prog.info? 100).map (fun i => (i.zero, i.size, i.bytes)) = some (some (.agg #[.int .i64 0, .string ⟨#[]⟩]), 2, 24) := by kernel_rfl
theorem RAt.re {w W : World} {B r : Nat} {dk : Dk} {gs cs : Nat} {pl : Value} (h : RAt w B r dk gs cs pl) (hb : But r w W) (off : Bool) (left : Nat) (hl : left ≤ 9223372036854775807)
    (hk : W.heap[r]? = some (.cells #[.slice (some ⟨gs, 0, none⟩) dk.dur.length cs, pl, .bool off, .int .i64 (left : Int)] 67 (0, 0))) : RAt W B r { dk with off := off, left := left } gs cs pl :=
  { blk := hk
    sure := own_keep h.sure fun g hg => by
      obtain ⟨cs, hc⟩ := own_block h.sure hg
      exact hb.block _ (h.sure.lt g hg).2 (cells_ne hc h.blk (by decide))
    pend := own_keep h.pend fun g hg => by
      obtain ⟨cs, hc⟩ := own_block h.pend hg
      exact hb.block _ (h.pend.lt g hg).2 (cells_ne hc h.blk (by decide))
    hr := h.hr, vis := h.vis, lt := h.lt, pos := h.pos, small := h.small, fit := h.fit, left := hl, few := h.few }
set_option maxRecDepth 100000 in
set_option maxHeartbeats 4000000 in
theorem refcut_calls {w : World} {B r : Nat} {Z : Nat → Prop} {dk : Dk} (h : RefAt w B r Z dk) (n : Int) (hn : n ≤ 9223372036854775807) :
    Calls Tryz.prog 66 #[.pointer (some ⟨r, 0, none⟩), .int .i64 n] w fun e w' => e = .returned (.int .i64 (dk.cut n).2) ∧ RefAt w' B r Z (dk.cut n).1 ∧ ROff B r w w' := by
  obtain ⟨gs, cs, pl, h, hz⟩ := h
  have c2 := h.cell2
  have c3 := h.cell3
  have f2 := h.frozen 2
  have f3 := h.frozen 3
  cases ho : dk.off with
  | true =>
    have e : dk.cut n = (dk, 281) := by unfold Dk.cut; rw [if_pos ho]
    rw [e]
    rw [ho] at c2
    go_enter Tryz.func66, Tryz.ntmps66
    go_wp2_with fail
    go_ret
    exact ⟨rfl, ⟨gs, cs, pl, h, hz⟩, ROff.refl _ _ _⟩
  | false =>
    rw [ho] at c2
    by_cases h0 : n < 0
    · have e : dk.cut n = (dk, 2) := by unfold Dk.cut; rw [if_neg (by rw [ho]; decide), if_pos h0]
      rw [e]
      have x1 : decide (n < 0) = true := decide_eq_true h0
      go_enter Tryz.func66, Tryz.ntmps66
      go_wp2_with fail
      go_ret
      exact ⟨rfl, ⟨gs, cs, pl, h, hz⟩, ROff.refl _ _ _⟩
    · obtain ⟨m, rfl⟩ : ∃ m : Nat, n = (m : Int) := ⟨n.toNat, by omega⟩
      have e : dk.cut (m : Int) = ({ dk with off := decide (m = 0), left := m }, 0) := by
        unfold Dk.cut; rw [if_neg (by rw [ho]; decide), if_neg h0]; simp
      rw [e]
      have hz' : ((m : Int) == 0) = decide (m = 0) := by rw [Bool.beq_eq_decide_eq]; simp
      go_enter Tryz.func66, Tryz.ntmps66
      go_wp2_with fail
      go_ret
      have S1 := set_blk h.blk (j := 3) (.int .i64 (m : Int))
      have S2 := set_blk S1 (j := 2) (.bool (decide (m = 0)))
      have Bt := (But.setCell r 3 w (.int .i64 (m : Int))).trans (But.setCell r 2 _ (.bool (decide (m = 0))))
      exact ⟨rfl, ⟨gs, cs, pl, h.re Bt (decide (m = 0)) m (by omega) S2, hz⟩, ROff.of_but Bt⟩
open Go Go.RowKit Go.Shelf Go.Proofs.YtniegajdmbepbaaGreatDoorW.PrintWords Go.Proofs.YtniegajdmbepbaaGreatDoorW.PrintMore
theorem RAt.pended {w W1 W2 : World} {B r : Nat} {dk : Dk} {gs cs : Nat} {pl pl' : Value} {off : Nat} {s : ByteArray} (h : RAt w B r dk gs cs pl) (hf : dk.pend.length + 1 ≤ 1000000) (hfit : off + s.size ≤ dk.dur.length) (k1 : Below w.heap.size w W1)
    (hgr : W1.grownBy W2 pl.ownBlock) (hown : W2.ownsRow B 100 2 pl' (dk.pend.length + 1) (pcells dk.pend ++ [.int .i64 (off : Int), .string s])) :
    RAt (W2.setCell ⟨r, 1, none⟩ pl') B r { dk with pend := dk.pend ++ [(off, s)], vis := splice dk.vis off (bl s) } gs cs pl' ∧ ROff B r w (W2.setCell ⟨r, 1, none⟩ pl') := by
  have h1 := h.keep k1
  have hkeep : ∀ {k : Nat} {cs : Array Value} {t : TypeId} {f : Nat × Nat}, W1.heap[k]? = some (.cells cs t f) → t ≠ 100 → W2.heap[k]? = some (.cells cs t f) := by
    intro k cs t f hk ht
    refine (hgr.block k (Array.getElem?_eq_some_iff.1 hk).1 (fun e => ?_)).trans hk
    obtain ⟨cs2, hc2⟩ := own_block h1.pend e.symm
    exact cells_ne hk hc2 ht rfl
  have hb := hkeep h1.blk (by decide)
  have hsb := set_blk hb (j := 1) pl'
  have bt := But.setCell r 1 W2 pl'
  refine ⟨{ blk := hsb, sure := ?_, pend := ?_, hr := h.hr, vis := ?_, lt := h.lt, pos := h.pos, small := h.small, fit := ?_, left := h.left, few := ?_ }, ?_⟩
  · refine own_keep (w := W2) (own_keep (w := W1) h1.sure fun g hg => ?_) fun g hg => ?_
    · obtain ⟨cs2, hc2⟩ := own_block h1.sure hg
      rw [hc2]
      exact hkeep hc2 (by decide)
    · obtain ⟨cs2, hc2⟩ := own_block h1.sure hg
      have hc3 := hkeep hc2 (by decide)
      exact bt.block _ (Array.getElem?_eq_some_iff.1 hc3).1 (cells_ne hc3 hb (by decide))
  · rw [show ({ dk with pend := dk.pend ++ [(off, s)], vis := splice dk.vis off (bl s) } : Dk).pend.length = dk.pend.length + 1 by simp, show pcells ({ dk with pend := dk.pend ++ [(off, s)], vis := splice dk.vis off (bl s) } : Dk).pend = pcells dk.pend ++ [.int .i64 (off : Int), .string s] from pcells_snoc dk.pend (off, s)]
    refine own_keep hown fun g hg => ?_
    obtain ⟨cs2, hc2⟩ := own_block hown hg
    exact bt.block _ (Array.getElem?_eq_some_iff.1 hc2).1 (cells_ne hc2 hb (by decide))
  · show splice dk.vis off (bl s) = putL dk.dur (dk.pend ++ [(off, s)])
    rw [putL_snoc, h.vis]
  · intro p hp
    rcases List.mem_append.1 hp with hp | hp
    · exact h.fit p hp
    · rw [List.mem_singleton] at hp
      subst hp
      exact hfit
  · show (dk.pend ++ [(off, s)]).length ≤ 1000000
    rw [List.length_append]
    exact hf
  · exact ((ROff.of_below k1).trans (ROff.of_grown hgr h1.pend)).trans (ROff.of_but bt)
set_option maxRecDepth 100000 in
set_option maxHeartbeats 4000000 in
theorem refwrite_calls {w : World} {B r : Nat} {Z : Nat → Prop} {dk : Dk} (h : RefAt w B r Z dk) (off : Int) (s : ByteArray) (hf : dk.pend.length + 1 ≤ 1000000) (hoff : -9223372036854775808 ≤ off ∧ off ≤ 9223372036854775807) (hss : s.size ≤ 4194304) :
    Calls Tryz.prog 16 #[.pointer (some ⟨r, 0, none⟩), .int .i64 off, .string s] w fun e w' => e = .returned (.int .i64 (dk.write off s).2) ∧ RefAt w' B r Z (dk.write off s).1 ∧ ROff B r w w' := by
  obtain ⟨gs, cs, pl, h, hz⟩ := h
  have c0 := h.cell0
  have c1 := h.cell1
  have c2 := h.cell2
  have c3 := h.cell3
  have hsm := h.small
  cases ho : dk.off with
  | true =>
    have e : dk.write off s = (dk, 281) := by unfold Dk.write; rw [if_pos ho]
    rw [e]
    rw [ho] at c2
    go_enter Tryz.func16, Tryz.ntmps16
    go_wp2_with fail
    go_ret
    exact ⟨rfl, ⟨gs, cs, pl, h, hz⟩, ROff.refl _ _ _⟩
  | false =>
    rw [ho] at c2
    obtain ⟨n, hn⟩ : ∃ n, dk.dur.length = n := ⟨_, rfl⟩
    rw [hn] at c0 hsm
    by_cases hin : dk.inside off s.size = true
    · have e : dk.write off s = (Dk.used { dk with pend := dk.pend ++ [(off.toNat, s)], vis := splice dk.vis off.toNat (bl s) }, 0) := by unfold Dk.write; rw [if_neg (by rw [ho]; decide), if_pos hin]
      rw [e]
      unfold Dk.inside at hin
      simp only [Bool.and_eq_true, decide_eq_true_eq] at hin
      obtain ⟨⟨⟨i1, _⟩, i2⟩, i3⟩ := hin
      obtain ⟨o, rfl⟩ : ∃ o : Nat, off = (o : Int) := ⟨off.toNat, by omega⟩
      rw [hn] at i2 i3
      rw [Int.toNat_natCast]
      have x1 : decide ((n : Int) < (o : Int)) = false := decide_eq_false (by omega)
      have x2 : ((n : Int) < (o : Int)) = False := eq_false (by omega)
      have x3 : (n < o) = False := eq_false (by omega)
      have hw : IntKind.i64.wrap ((n : Int) - (o : Int)) = ((n - o : Nat) : Int) := by rw [IntKind.wrap_i64]; omega
      have x4 : decide (((n - o : Nat) : Int) < (s.size : Int)) = false := decide_eq_false (by omega)
      have x5 : (((n - o : Nat) : Int) < (s.size : Int)) = False := eq_false (by omega)
      have x6 : (n - o < s.size) = False := eq_false (by omega)
      obtain ⟨i0, hi0, hz0, hz1, hz2⟩ := info_parts infoC
      have k1 := below_alloc (Below.refl w.heap.size w) (.cells #[.int .i64 (o : Int), .string s] 100)
      have h1 := h.keep k1
      have N2 := World.news_of_block (cs := #[.int .i64 (o : Int), .string s]) (t := 100) (fr := (0, 0)) (heap_alloc_new w (.cells #[.int .i64 (o : Int), .string s] 100))
      have hB : B ≤ (w.alloc (.cells #[.int .i64 (o : Int), .string s] 100)).heap.size := by have := h.hr; have := h.lt_r; simp; omega
      have c1a := h1.cell1
      go_enter Tryz.func16, Tryz.ntmps16
      go_upto_region 6 with (at_builtin; refine wpList_append_own (P := Tryz.prog) _ rfl (.tmp 38) (.tmp 42) 65 rfl B 100 i0 _ 2 24 Tryz.underlying65 hi0 hz0 hz1 hz2 rfl (by decide) pl _ _ rfl h1.pend ⟨w.heap.size, 0, none⟩ 1 1 [.int .i64 (o : Int), .string s] rfl rfl N2 (by intro u hu; simp at hu; rcases hu with rfl | rfl <;> rfl) (by unfold maxLen; omega) (by omega) hB ?_
                             intro v0 W2 hown hgr _
                             obtain ⟨g, cap, hv⟩ : ∃ g cap, v0 = .slice (some ⟨g, 0, none⟩) (dk.pend.length + 1) cap := by
                               rcases id hown.2 with ⟨_, h0⟩ | ⟨g, cap, cur, hv, _, _, _⟩
                               · exact absurd h0 (by omega)
                               · exact ⟨g, cap, hv⟩
                             subst hv
                             have hq : some r ≠ pl.ownBlock := fun e => by obtain ⟨cs2, hc2⟩ := own_block h.pend e.symm; exact cells_ne h.blk hc2 (by decide) rfl
                             have hb2 := (hgr.block r (Nat.lt_of_lt_of_le h.lt_r k1.size) hq).trans h1.blk
                             have f1 : W2.frozen? ⟨r, 1, none⟩ = false := frozen_of hb2 1
                             have c1b : W2.cell? ⟨r, 1, none⟩ = some pl := by simp [World.cell?, hb2])
      obtain ⟨v', hv'⟩ : ∃ v', v' = (Value.slice (some ⟨g, 0, none⟩) (dk.pend.length + 1) cap) := ⟨_, rfl⟩
      rw [← hv'] at hown ⊢
      clear hv'
      obtain ⟨P1, P2⟩ := h.pended hf (show o + s.size ≤ dk.dur.length by omega) k1 hgr hown
      refine wp_world (fun W => RAt W B r { dk with pend := dk.pend ++ [(o, s)], vis := splice dk.vis o (bl s) } gs cs v' ∧ ROff B r w W) ⟨P1, P2⟩ ?_
      clear P1 P2 c1b f1 hb2 hq hgr hown c1a hB N2 h1 k1 c0 c1 c2 c3
      rintro W3 ⟨h3, o3⟩
      have c2 := h3.cell2
      have c3 := h3.cell3
      have f2 := h3.frozen 2
      have f3 := h3.frozen 3
      have hle := h.left
      rw [show ({ dk with pend := dk.pend ++ [(o, s)], vis := splice dk.vis o (bl s) } : Dk).left = dk.left from rfl] at c3
      rw [show ({ dk with pend := dk.pend ++ [(o, s)], vis := splice dk.vis o (bl s) } : Dk).off = false from ho] at c2
      by_cases hl : dk.left = 0
      · have hU : Dk.used ({ dk with pend := dk.pend ++ [(o, s)], vis := splice dk.vis o (bl s) } : Dk) = ({ dk with pend := dk.pend ++ [(o, s)], vis := splice dk.vis o (bl s) } : Dk) := if_pos (show ({ dk with pend := dk.pend ++ [(o, s)], vis := splice dk.vis o (bl s) } : Dk).left = 0 from hl)
        have y1 : decide ((0 : Int) < (dk.left : Int)) = false := decide_eq_false (by omega)
        have y2 : ((0 : Int) < (dk.left : Int)) = False := eq_false (by omega)
        have y3 : (0 < dk.left) = False := eq_false (by omega)
        go_wp2_with fail
        go_ret
        rw [hU]
        exact ⟨rfl, ⟨gs, cs, v', h3, hz⟩, o3⟩
      · have hU : Dk.used ({ dk with pend := dk.pend ++ [(o, s)], vis := splice dk.vis o (bl s) } : Dk) = { { dk with pend := dk.pend ++ [(o, s)], vis := splice dk.vis o (bl s) } with left := dk.left - 1, off := decide (dk.left = 1) } := if_neg (show ¬ ({ dk with pend := dk.pend ++ [(o, s)], vis := splice dk.vis o (bl s) } : Dk).left = 0 from hl)
        have y1 : decide ((0 : Int) < (dk.left : Int)) = true := decide_eq_true (by omega)
        have y2 : ((0 : Int) < (dk.left : Int)) = True := eq_true (by omega)
        have y3 : (0 < dk.left) = True := eq_true (by omega)
        have hw2 : IntKind.i64.wrap ((dk.left : Int) - 1) = ((dk.left - 1 : Nat) : Int) := by rw [IntKind.wrap_i64]; omega
        have S1 := set_blk h3.blk (j := 3) (.int .i64 ((dk.left - 1 : Nat) : Int))
        by_cases hl1 : dk.left = 1
        · have z1 : (((dk.left - 1 : Nat) : Int) == 0) = true := by rw [hl1]; rfl
          have z2 : decide (((dk.left - 1 : Nat) : Int) = 0) = true := decide_eq_true (by omega)
          have z3 : (((dk.left - 1 : Nat) : Int) = 0) = True := eq_true (by omega)
          have S2 := set_blk S1 (j := 2) (.bool true)
          have Bt := (But.setCell r 3 W3 (.int .i64 ((dk.left - 1 : Nat) : Int))).trans (But.setCell r 2 _ (.bool true))
          go_wp2_with fail
          go_ret
          have := h3.re Bt true (dk.left - 1) (by omega) S2
          rw [show decide (dk.left = 1) = true from decide_eq_true hl1] at hU
          rw [← hU] at this
          have hO := ROff.of_but (B := B) Bt
          simp only [ho, hl1, Nat.sub_self, Int.ofNat_zero, Int.natCast_zero] at this hO
          exact ⟨rfl, ⟨gs, cs, v', this, hz⟩, o3.trans hO⟩
        · have z1 : (((dk.left - 1 : Nat) : Int) == 0) = false := by simp; omega
          have z2 : decide (((dk.left - 1 : Nat) : Int) = 0) = false := decide_eq_false (by omega)
          have z3 : (((dk.left - 1 : Nat) : Int) = 0) = False := eq_false (by omega)
          have Bt := But.setCell r 3 W3 (.int .i64 ((dk.left - 1 : Nat) : Int))
          go_wp2_with fail
          go_ret
          have := h3.re Bt false (dk.left - 1) (by omega) (by rw [← ho]; exact S1)
          rw [show decide (dk.left = 1) = false from decide_eq_false hl1] at hU
          rw [← hU] at this
          simp only [ho] at this
          exact ⟨rfl, ⟨gs, cs, v', this, hz⟩, o3.trans (ROff.of_but Bt)⟩
    · have e : dk.write off s = (dk, 280) := by unfold Dk.write; rw [if_neg (by rw [ho]; decide), if_neg hin]
      rw [e]
      have hin' : off < 0 ∨ (n : Int) < off ∨ (n : Int) - off < (s.size : Int) := by
        unfold Dk.inside at hin
        simp only [Bool.and_eq_true, decide_eq_true_eq] at hin
        omega
      by_cases x0 : off < 0
      · have y1 : decide (off < 0) = true := decide_eq_true x0
        have y2 : (off < 0) = True := eq_true x0
        go_enter Tryz.func16, Tryz.ntmps16
        go_wp2_with fail
        go_ret
        exact ⟨rfl, ⟨gs, cs, pl, h, hz⟩, ROff.refl _ _ _⟩
      · obtain ⟨o, rfl⟩ : ∃ o : Nat, off = (o : Int) := ⟨off.toNat, by omega⟩
        by_cases x1 : (n : Int) < (o : Int)
        · have y1 : decide ((n : Int) < (o : Int)) = true := decide_eq_true x1
          have y2 : ((n : Int) < (o : Int)) = True := eq_true x1
          have y3 : (n < o) = True := eq_true (by omega)
          go_enter Tryz.func16, Tryz.ntmps16
          go_wp2_with fail
          go_ret
          exact ⟨rfl, ⟨gs, cs, pl, h, hz⟩, ROff.refl _ _ _⟩
        · have y1 : decide ((n : Int) < (o : Int)) = false := decide_eq_false x1
          have y2 : ((n : Int) < (o : Int)) = False := eq_false x1
          have y3 : (n < o) = False := eq_false (by omega)
          have hw : IntKind.i64.wrap ((n : Int) - (o : Int)) = ((n - o : Nat) : Int) := by rw [IntKind.wrap_i64]; omega
          have x4 : decide (((n - o : Nat) : Int) < (s.size : Int)) = true := decide_eq_true (by omega)
          have x5 : (((n - o : Nat) : Int) < (s.size : Int)) = True := eq_true (by omega)
          have x6 : (n - o < s.size) = True := eq_true (by omega)
          go_enter Tryz.func16, Tryz.ntmps16
          go_wp2_with fail
          go_ret
          exact ⟨rfl, ⟨gs, cs, pl, h, hz⟩, ROff.refl _ _ _⟩
open Go Go.RowKit Go.Shelf Go.Proofs.YtniegajdmbepbaaGreatDoorW.PrintWords Go.Proofs.YtniegajdmbepbaaGreatDoorW.PrintMore
theorem RAt.vislen {w : World} {B r : Nat} {dk : Dk} {gs cs : Nat} {pl : Value} (h : RAt w B r dk gs cs pl) : dk.vis.length = dk.dur.length ∧ ∀ b ∈ dk.vis, b < 256 := by
  rw [h.vis]
  exact putL_ok dk.pend dk.dur h.fit h.lt
set_option maxRecDepth 100000 in
set_option maxHeartbeats 4000000 in
theorem refsync_calls {w : World} {B r : Nat} {Z : Nat → Prop} {dk : Dk} (h : RefAt w B r Z dk) (hZ : ∀ k, Z k → k < w.heap.size) :
    Calls Tryz.prog 45 #[.pointer (some ⟨r, 0, none⟩)] w fun e w' => e = .returned (.int .i64 dk.sync.2) ∧ RefAt w' B r Z dk.sync.1 ∧ ROff B r w w' := by
  have hV := visible_calls h
  obtain ⟨gs, cs, pl, h, hz⟩ := h
  have c2 := h.cell2
  cases ho : dk.off with
  | true =>
    have e : dk.sync = (dk, 281) := by unfold Dk.sync; rw [if_pos ho]
    rw [e]
    rw [ho] at c2
    go_enter Tryz.func45, Tryz.ntmps45
    go_wp2_with fail
    go_ret
    exact ⟨rfl, ⟨gs, cs, pl, h, hz⟩, ROff.refl _ _ _⟩
  | false =>
    have e : dk.sync = ({ dk with dur := dk.vis, pend := [] }, 0) := by unfold Dk.sync; rw [if_neg (by rw [ho]; decide)]
    rw [e]
    rw [ho] at c2
    go_enter Tryz.func45, Tryz.ntmps45
    go_wp2_with (go_at_call 23; refine hV.mono ?_; rintro e1 w1 ⟨gb, cb, rfl, hown, hb⟩
                 have h1 := h.keep hb
                 have c0 := h1.cell0
                 have c1 := h1.cell1
                 have f0 := h1.frozen 0
                 have f1 := h1.frozen 1
                 have S1 := set_blk h1.blk (j := 0) (.slice (some ⟨gb, 0, none⟩) dk.dur.length cb)
                 have S2 := set_blk S1 (j := 1) (.slice none 0 0)
                 have Bt := (But.setCell r 0 w1 (.slice (some ⟨gb, 0, none⟩) dk.dur.length cb)).trans (But.setCell r 1 _ (.slice none 0 0)))
    go_ret
    have hvl := h.vislen
    have hgb := hown.lt gb rfl
    refine ⟨rfl, ⟨gb, cb, .slice none 0 0, ?_, fun hz2 => ?_⟩, (ROff.of_below hb).trans (ROff.of_but Bt)⟩
    · exact { blk := by
                have := S2
                rw [ho] at this
                show _ = some (Obj.cells #[.slice (some ⟨gb, 0, none⟩) dk.vis.length cb, _, .bool dk.off, _] _ _)
                rw [hvl.1, ho]
                exact this
              sure := by
                show World.ownsRow _ B 5 1 (.slice (some ⟨gb, 0, none⟩) dk.vis.length cb) dk.vis.length (bv dk.vis)
                rw [hvl.1]
                obtain ⟨cs2, hc2⟩ := own_block hown rfl
                have hh : w1.ownsRow B 5 1 (.slice (some ⟨gb, 0, none⟩) dk.dur.length cb) dk.dur.length (bv dk.vis) := by
                  obtain ⟨q1, q2⟩ := hown
                  refine ⟨q1, ?_⟩
                  rcases q2 with q2 | ⟨g, cap, cur, hv, hg, rest⟩
                  · exact .inl q2
                  · exact .inr ⟨g, cap, cur, hv, Nat.le_trans (Nat.le_trans h.hr (Nat.le_of_lt h.lt_r)) hg, rest⟩
                exact own_keep hh fun g hg => by
                  obtain ⟨cs3, hc3⟩ := own_block hh hg
                  exact Bt.block _ (Array.getElem?_eq_some_iff.1 hc3).1 (cells_ne hc3 h1.blk (by decide))
              pend := World.ownsRow_nil _ _ _ _
              hr := h.hr, vis := rfl, lt := hvl.2, pos := by show 1 ≤ dk.vis.length; rw [hvl.1]; exact h.pos, small := by show dk.vis.length ≤ _; rw [hvl.1]; exact h.small
              fit := fun p hp => by cases hp
              left := h.left, few := Nat.zero_le _ }
    · have := hZ _ hz2; omega
set_option maxRecDepth 100000 in
set_option maxHeartbeats 4000000 in
theorem refread_calls {w : World} {B r : Nat} {Z : Nat → Prop} {dk : Dk} (h : RefAt w B r Z dk) :
    Calls Tryz.prog 74 #[.pointer (some ⟨r, 0, none⟩), .int .i64 0, .int .i64 (dk.dur.length : Int)] w fun e w' =>
      e = .returned (.tuple #[.string (if dk.off = true then ⟨#[]⟩ else ofB dk.vis), .int .i64 (if dk.off = true then 281 else 0)]) ∧ Below w.heap.size w w' := by
  have hV := visible_calls h
  obtain ⟨gs, cs, pl, h, hz⟩ := h
  have c2 := h.cell2
  have c0 := h.cell0
  have hvl := h.vislen
  have hsm := h.small
  obtain ⟨n, hn⟩ : ∃ n, dk.dur.length = n := ⟨_, rfl⟩
  rw [hn] at c0 hsm hvl hV ⊢
  cases ho : dk.off with
  | true =>
    rw [ho] at c2
    go_enter Tryz.func74, Tryz.ntmps74
    go_wp2_with fail
    go_ret2
    exact ⟨rfl, Below.refl _ _⟩
  | false =>
    rw [ho] at c2
    rw [if_neg (by decide), if_neg (by decide)]
    have x1 : decide ((n : Int) < 0) = false := decide_eq_false (by omega)
    have x2 : ((n : Int) < 0) = False := eq_false (by omega)
    have hw : IntKind.i64.wrap ((n : Int) - 0) = (n : Int) := by rw [IntKind.wrap_i64]; omega
    go_enter Tryz.func74, Tryz.ntmps74
    have hcc : ∀ w1 : World, ∀ gb cb : Nat, w1.ownsRow w.heap.size 5 1 (.slice (some ⟨gb, 0, none⟩) n cb) n (bv dk.vis) → ∀ i, i < n → w1.cell? ⟨gb, 0 + i, none⟩ = some (.int .u8 ((dk.vis.map fun (b : Nat) => (b : Int)).getD i 0)) := by
      intro w1 gb cb hown i hi
      have := hown.cells (g := gb) rfl i (.int .u8 ((dk.vis[i]'(by omega) : Nat) : Int)) (by simp [bv, hvl.1, hi])
      rw [Nat.zero_add]
      cases i <;> simpa [Addr.add, hvl.1, hi] using this
    have hcv := fun (w1 : World) (gb cb : Nat) (hown : w1.ownsRow w.heap.size 5 1 (.slice (some ⟨gb, 0, none⟩) n cb) n (bv dk.vis)) => run_convert_bytes_arg w1 39 5 Tryz.underlying39 Tryz.underlying5 gb 0 n cb (dk.vis.map fun (b : Nat) => (b : Int)) (by rw [List.length_map, hvl.1]) (hcc w1 gb cb hown) 9 Tryz.underlying9
    simp only [str_ofB] at hcv
    go_wp2_with (go_at_call 23; refine hV.mono ?_; rintro e1 w1 ⟨gb, cb, rfl, hown, hb⟩; have hcv1 := hcv w1 gb cb hown
                 have hcb : n ≤ cb := by
                   rcases id hown.2 with ⟨_, h0⟩ | ⟨g, cap, cur, hv, _, _, hle, _⟩
                   · omega
                   · injection hv with _ _ e3; omega
                 have y1 : decide ((n : Int) ≤ (cb : Int)) = true := decide_eq_true (by omega)
                 have y2 : ((n : Int) ≤ (cb : Int)) = True := eq_true (by omega)
                 have y3 : ((cb : Int) < (n : Int)) = False := eq_false (by omega)
                 have y4 : (cb < n) = False := eq_false (by omega))
    go_ret2
    exact ⟨rfl, hb⟩
open Go Go.RowKit Go.Shelf Go.Proofs.YtniegajdmbepbaaGreatDoorW.PrintWords Go.Proofs.YtniegajdmbepbaaGreatDoorW.PrintMore Go.Proofs.YtniegajdmbepbaaGreatDoor.Pl Go.Proofs.YtniegajdmbepbaaGreatDoor.Pr
open Go Go.RowKit Go.Shelf Go.Proofs.YtniegajdmbepbaaGreatDoorW.PrintWords Go.Proofs.YtniegajdmbepbaaGreatDoorW.PrintMore
theorem spot_none {w : World} {p : Addr} {u : Value} (h : w.cell? p = some u) : p.spot = none := by
  unfold World.cell? at h
  split at h
  · split at h
    · cases h
    · rename_i hh
      simpa using hh
  · cases h
theorem ints_C {w : World} {A : Option Addr} {n : Nat} {xs : List Int} (h : Kd.C (Kd.int .i64) w A n xs) (hn : xs.length = n) (hw : 0 < w.heap.size) : ∃ bk o, (0 < n → A = some ⟨bk, o, none⟩) ∧ bk < w.heap.size ∧ intR xs bk o w := by
  by_cases h0 : 0 < n
  · obtain ⟨ad, cs, rfl, hcl, hK, hcell⟩ := Kd.C_get h 0 0 (by omega) (by omega)
    have hcs : cs = [.int .i64 (xs.getD 0 0)] := hK
    have hc0 := hcell 0 _ (by rw [hcs]; rfl)
    have e0 : ad.add ((Int.toNat 0) * (Kd.int IntKind.i64).sz + 0) = ad := rfl
    rw [e0] at hc0
    have hs := spot_none hc0
    obtain ⟨b, o, u⟩ := ad
    simp only at hs
    subst hs
    refine ⟨b, o, fun _ => rfl, ?_, ?_⟩
    · unfold World.cell? at hc0
      cases hb : w.heap[b]? with
      | none => rw [hb] at hc0; cases hc0
      | some o => exact (Array.getElem?_eq_some_iff.1 hb).1
    · intro j x hx
      have hj := (List.getElem?_eq_some_iff.1 hx).1
      obtain ⟨ad2, cs2, he, hcl2, hK2, hcell2⟩ := Kd.C_get h 0 (j : Int) (by omega) (by omega)
      injection he with he
      subst he
      rw [Int.toNat_natCast] at hK2 hcell2
      have hcs2 : cs2 = [.int .i64 (xs.getD j 0)] := hK2
      have hc2 := hcell2 0 _ (by rw [hcs2]; rfl)
      rw [show (Kd.int IntKind.i64).sz = 1 from rfl, Nat.mul_one, Nat.add_zero] at hc2
      have hg : xs.getD j 0 = x := by simp [List.getD, hx]
      rw [hg] at hc2
      rw [← hc2]
      unfold Addr.add
      split
      · rename_i hz; subst hz; rfl
      · rfl
  · have : xs = [] := List.eq_nil_of_length_eq_zero (by omega)
    subst this
    exact ⟨0, 0, fun hh => absurd hh h0, hw, fun j x hx => by simp at hx⟩
end Go.Proofs.YtniegajdmbepbaaGreatDoor.Jm
