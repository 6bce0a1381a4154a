/- A journal's Append, by pointers: what is known in its loop. Condition: none. A journal's Append, by pointers: laws for its walk. Condition: none. A journal's Append, by pointers: the walk. Condition: none. A journal on a disk with power, whose contents agree: what Append and Open do to it. Condition: none. A journal on a disk with power: appends that fit, and that do not; Open on nil. Condition: none. The law's fixed examples hold. Condition: none. The small functions of layer 29's laws: size, pick, few, same, content; Append on nil. Condition: none. A journal that is fine: what any group's Append leaves of it. Condition: at most 6 records of at most 100 bytes. -/
import Derived.Test.YtniegajdmbepbaaGreatDoorKJournalMatchesReference24
import Derived.Shelf.Strings.BuilderK
import Derived.Test.YtniegajdmbepbaaGreatDoorKJournalMatchesReference14
set_option linter.unusedSimpArgs false
set_option linter.unusedVariables false
namespace Go.Proofs.YtniegajdmbepbaaGreatDoor.Jm
open Go Go.RowKit Go.Proofs.YtniegajdmbepbaaGreatDoorW.PrintWords Go.Proofs.YtniegajdmbepbaaGreatDoorW.PrintMore
theorem ofB_append (a b : List Nat) : ofB (a ++ b) = ofB a ++ ofB b := by
 apply ByteArray.ext
 apply Array.toList_inj.1
 rw [ByteArray.data_append, Array.toList_append]
 simp [ofB]
theorem write_string (B b : Nat) (bs : List Value) (s : ByteArray) (w : World) (h : Lib.IsBuilderF 78 5 B b bs w) (hlen : bs.length + s.size ≤ 140737488355328) (hBw : B ≤ w.heap.size) :
  Calls Tryz.prog 37 #[.pointer (some ⟨b, 0, none⟩), .string s] w fun e w' => e = .returned (.tuple #[.int .i64 s.size, .nilIface]) ∧ Lib.IsBuilderF 78 5 B b (bs ++ Lib.strCells s) w' ∧ Below B w w' ∧ Lib.OthersKept 5 (some b) w w' := by
 refine (Any.Builder_WriteString_k Tryz.lays166 Tryz.Builder_Extra_166 B b bs s w h hlen hBw).mono ?_
 rintro e w' ⟨he, hb, hl, ho⟩
 exact ⟨he, .inr hb, hl, ho⟩
theorem bld_string (B b : Nat) (l : List UInt8) (w : World) (h : Lib.IsBuilderF 78 5 B b (Lib.byteCells l) w) (hBw : B ≤ w.heap.size) :
  Calls Tryz.prog 39 #[.pointer (some ⟨b, 0, none⟩)] w fun e w' => e = .returned (.string ⟨l.toArray⟩) ∧ Below B w w' ∧ Lib.OthersKept 5 (some b) w w' := by
 refine (Any.Builder_String_any_k Tryz.lays169 Tryz.Builder_Extra_169 B b l w h hBw).mono ?_
 rintro e w' ⟨he, hb, hl, ho⟩
 exact ⟨he, hl, ho⟩
theorem bld_oft {base q b : Nat} {bs : List Value} {w W : World} (h : Lib.IsBuilderF 78 5 base b bs w) (o : Oft base q w W) {cs : Array Value} {f : Nat × Nat} (hq : w.heap[q]? = some (.cells cs 72 f)) :
  Lib.IsBuilderF 78 5 base b bs W := by
 have key : ∀ p, Lib.BuilderAtF 78 5 base b p bs w → Lib.BuilderAtF 78 5 base b p bs W := by
  rintro p ⟨hB, v, hb, hown, hne⟩
  refine ⟨hB, v, o.block _ _ hb (.inr ⟨cells_ne hb hq (by decide), fun h => absurd (show (78 : Nat) = 9 from h) (by decide)⟩), ⟨hown.1, ?_⟩, hne⟩
  rcases hown.2 with hn | ⟨g, cap, cur, fz, hv, hg, hgg, r⟩
  ·exact .inl hn
  ·exact .inr ⟨g, cap, cur, fz, hv, hg, o.block _ _ hgg (.inr ⟨cells_ne hgg hq (by decide), fun h => absurd (show (5 : Nat) = 9 from h) (by decide)⟩), r⟩
 exact h.elim (fun x => .inl (key _ x)) (fun x => .inr (key _ x))
theorem bld_block {base b : Nat} {bs : List Value} {w : World} (h : Lib.IsBuilderF 78 5 base b bs w) : ∃ cs, w.heap[b]? = some (.cells cs 78 (0, 0)) := by
 rcases h with ⟨_, v, hb, _⟩ | ⟨_, v, hb, _⟩ <;> exact ⟨_, hb⟩
theorem TAt.oth {w W : World} {base p : Nat} {rest : List Value} {rs : List ByteArray} {head : ByteArray} {size : Nat} {rv : Value} (h : TAt w base p 72 rest rs head size rv) {b : Nat} (o : Lib.OthersKept 5 (some b) w W)
  (hs : w.heap.size ≤ W.heap.size) {cs : Array Value} (hb : w.heap[b]? = some (.cells cs 78 (0, 0))) : TAt W base p 72 rest rs head size rv := by
 refine ⟨o _ _ h.blk (fun e => cells_ne h.blk hb (by decide) (Option.some.inj e)) (fun c fz e => by simp at e), ?_, h.ne, h.hp, Nat.le_trans h.hs hs⟩
 refine own_keep h.own fun g hg => ?_
 obtain ⟨cs', hc⟩ := own_block h.own hg
 rw [hc]
 exact o _ _ hc (fun e => cells_ne hc hb (by decide) (Option.some.inj e)) (fun c fz e => by simp at e)
structure ApI (w : World) (base q b : Nat) (jr : Jr) (l : List ByteArray) (i : Nat) (wr : World) : Prop where
 tape : TapeAt wr base q 72 [] (jr.records ++ l.take i) (headOf chF jr.head (l.take i)) (jr.size + (stored chF jr.head (l.take i)).length)
 bld : Lib.IsBuilderF 78 5 base b (Lib.byteCells (ofB (stored chF jr.head (l.take i))).data.toList) wr
 bel : Below base w wr
theorem stored_snoc (l : List ByteArray) (h r : ByteArray) : stored chF h (l ++ [r]) = stored chF h l ++ recB chF (headOf chF h l) r := by
 rw [stored_append]
 show stored chF h l ++ (recB chF (headOf chF h l) r ++ []) = _
 rw [List.append_nil]
theorem headOf_snoc (l : List ByteArray) (h r : ByteArray) : headOf chF h (l ++ [r]) = chF (headOf chF h l) r := by
 unfold headOf
 rw [List.foldl_append]
 rfl
def Strs (w : World) (v : Value) (l : List ByteArray) : Prop := ∃ A c, v = .slice A l.length c ∧ (l = [] ∨ ∃ b o, A = some ⟨b, o, none⟩ ∧ b < w.heap.size ∧ ∀ (j : Nat) s, l[j]? = some s → w.cell? ⟨b, o + j, none⟩ = some (.string s))
theorem islong_gives (w : World) (s : ByteArray) : FnGives Tryz.prog 34 #[] #[.string s] (.bool (decide (65536 < s.size))) w := by
 unfold FnGives
 show Calls Tryz.prog 34 #[.string s] w _
 have hc : decide ((65536 : Int) < (s.size : Int)) = decide (65536 < s.size) := by
  by_cases h : 65536 < s.size
  ·rw [decide_eq_true h, decide_eq_true (by omega)]
  ·rw [decide_eq_false h, decide_eq_false (by omega)]
 go_enter Tryz.func34, Tryz.ntmps34
 go_wp2
 go_ret
 exact ⟨by first | rfl | (rw [← hc]; rfl) | simp, 0, rfl⟩
theorem contains_calls {w : World} {v : Value} {l : List ByteArray} (h : Strs w v l) (hn : l.length ≤ 1000000) :
  Calls Tryz.prog 35 #[v, .func (.func 34) #[] #[]] w fun e w' => e = .returned (.bool (l.any fun s => decide (65536 < s.size))) ∧ Below w.heap.size w w' := by
 obtain ⟨A, c, rfl, rfl | ⟨b, o, rfl, hb, hc⟩⟩ := h
 ·refine (Tryz.slices_ContainsFunc_empty (α := ByteArray) A c (.func (.func 34) #[] #[]) w).mono ?_
  rintro e w' ⟨rfl, rfl⟩
  exact ⟨rfl, Below.refl _ _⟩
 ·refine (Tryz.slices_ContainsFunc (α := ByteArray) Value.string (fun s => decide (65536 < s.size)) 34 #[] ?_ b o l.length c l w (fun W x _ => islong_gives W x) (Nat.le_refl _) (by omega) ?_).mono ?_
  ·intro args W
   simp [go_sem]
  ·intro j hj
   rw [hc j _ (List.getElem?_eq_getElem hj)]
   congr 2
   exact (getElem!_pos l j hj).symm
  ·rintro e w' ⟨rfl, q, rfl⟩
   rw [List.take_length]
   exact ⟨rfl, (Drawn0.mk ⟨q, rfl⟩).below⟩
open Go Go.RowKit Go.Proofs.YtniegajdmbepbaaGreatDoorW.PrintWords Go.Proofs.YtniegajdmbepbaaGreatDoorW.PrintMore
structure Oj (D : Dsk) (j : Nat) (w W : World) : Prop where
 os : W.os = w.os
 tape : W.tape = w.tape
 output : W.output = w.output
 size : w.heap.size ≤ W.heap.size
 block : ∀ k o, w.heap[k]? = some o → (k < D.B ∨ (k ≠ D.d ∧ k ≠ D.g1 ∧ k ≠ D.g2 ∧ ¬ isW o ∧ k ≠ j)) → W.heap[k]? = some o
theorem Oj.refl (D : Dsk) (j : Nat) (w : World) : Oj D j w w := ⟨rfl, rfl, rfl, Nat.le_refl _, fun _ _ h _ => h⟩
theorem Oj.trans {D : Dsk} {j : Nat} {a b c : World} (h : Oj D j a b) (k : Oj D j b c) : Oj D j a c :=
 ⟨k.os.trans h.os, k.tape.trans h.tape, k.output.trans h.output, Nat.le_trans h.size k.size, fun i o hi hc => k.block i o (h.block i o hi hc) hc⟩
theorem Oj.of_off {D : Dsk} {j : Nat} {w W : World} (h : Off D w W) : Oj D j w W :=
 ⟨h.os, h.tape, h.output, h.size, fun k o hk hc => h.block k o hk (hc.imp id fun x => ⟨x.1, x.2.1, x.2.2.1, x.2.2.2.1⟩)⟩
theorem Oj.of_but {D : Dsk} {j : Nat} {w W : World} (h : But j w W) (hj : D.B ≤ j) : Oj D j w W :=
 ⟨h.os, h.tape, h.output, h.size, fun k o hk hc => (h.block k (Array.getElem?_eq_some_iff.1 hk).1 (by rcases hc with hc | hc; omega; exact hc.2.2.2.2)).trans hk⟩
theorem Oj.below {D : Dsk} {j : Nat} {w W : World} (h : Oj D j w W) (hB : D.B ≤ w.heap.size) : Below D.B w W := by
 refine ⟨h.os, h.tape, h.output, h.size, fun k hk => ?_⟩
 obtain ⟨o, ho⟩ : ∃ o, w.heap[k]? = some o := ⟨_, Array.getElem?_eq_getElem (by omega)⟩
 rw [ho]
 exact h.block k o ho (Or.inl hk)
theorem own_mono {w : World} {b b' : Nat} {e : TypeId} {size : Nat} {v : Value} {n : Nat} {xs : List Value} (h : w.ownsRow b e size v n xs) (hb : b' ≤ b) : w.ownsRow b' e size v n xs :=
 ⟨h.1, h.2.imp id fun ⟨g, cap, cur, hv, hg, r⟩ => ⟨g, cap, cur, hv, Nat.le_trans hb hg, r⟩⟩
theorem Strs.keep {w W : World} {v : Value} {l : List ByteArray} (h : Strs w v l) (hb : Below w.heap.size w W) : Strs W v l := by
 obtain ⟨A, c, hv, hl⟩ := h
 refine ⟨A, c, hv, hl.imp id ?_⟩
 rintro ⟨b, o, hA, hlt, hc⟩
 exact ⟨b, o, hA, Nat.lt_of_lt_of_le hlt hb.size, fun j s hs => (World.cell?_of_block (w := w) (hb.block b hlt)).trans (hc j s hs)⟩
theorem appendM_broken (d : Dk) (j : Jr) (l : List ByteArray) (h : j.broken = true) : appendM chF d j l = (d, j, 290) := by unfold appendM; rw [if_pos (.inl h)]
theorem appendM_long (d : Dk) (j : Jr) (l : List ByteArray) (h : l.any (fun s => decide (65536 < s.size)) = true) : appendM chF d j l = (d, j, 290) := by unfold appendM; rw [if_pos (.inr h)]
theorem appendM_full (d : Dk) (j : Jr) (l : List ByteArray) (h : j.broken = false) (hl : l.any (fun s => decide (65536 < s.size)) = false) (hf : d.dur.length < j.size + (stored chF j.head l).length) : appendM chF d j l = (d, j, 291) := by
 unfold appendM; rw [if_neg (by rw [h, hl]; simp)]; dsimp only; rw [if_pos hf]
theorem appendM_none (d : Dk) (j : Jr) (l : List ByteArray) (h : j.broken = false) (hl : l.any (fun s => decide (65536 < s.size)) = false) (hf : ¬ d.dur.length < j.size + (stored chF j.head l).length) (hs : stored chF j.head l = []) : appendM chF d j l = (d, j, 0) := by
 unfold appendM; rw [if_neg (by rw [h, hl]; simp)]; dsimp only; rw [if_neg hf, if_pos hs]
theorem appendM_write (d : Dk) (j : Jr) (l : List ByteArray) (h : j.broken = false) (hl : l.any (fun s => decide (65536 < s.size)) = false) (hf : ¬ d.dur.length < j.size + (stored chF j.head l).length) (hs : stored chF j.head l ≠ []) (R : Dk × Int)
  (hR : runC d [.wr (j.size + 1) (ofB (stored chF j.head l).tail), .sy, .wr j.size (ofB ((stored chF j.head l).take 1)), .sy] = R) :
  appendM chF d j l = if R.2 = 0 then (R.1, ⟨j.records ++ l, headOf chF j.head l, j.size + (stored chF j.head l).length, false⟩, 0) else (R.1, { j with broken := true }, R.2) := by
 unfold appendM; rw [if_neg (by rw [h, hl]; simp)]; dsimp only; rw [if_neg hf, if_neg hs]
 obtain ⟨x, hx⟩ : ∃ x, ofB (stored chF j.head l).tail = x := ⟨_, rfl⟩
 obtain ⟨y, hy⟩ : ∃ y, ofB ((stored chF j.head l).take 1) = y := ⟨_, rfl⟩
 rw [hx, hy] at hR
 rw [hx, hy]
 have c1 : ((j.size : Int) + 1) = ((j.size + 1 : Nat) : Int) := rfl
 rw [c1]
 have r1 : ∀ d1 : Dk, runC d1 [.sy] = if d1.sync.2 = 0 then (d1.sync.1, 0) else d1.sync := fun _ => rfl
 have r2 : ∀ d1 : Dk, runC d1 [.wr j.size y, .sy] = if (d1.write (j.size : Int) y).2 = 0 then runC (d1.write (j.size : Int) y).1 [.sy] else d1.write (j.size : Int) y := fun _ => rfl
 have r3 : ∀ d1 : Dk, runC d1 [.sy, .wr j.size y, .sy] = if d1.sync.2 = 0 then runC d1.sync.1 [.wr j.size y, .sy] else d1.sync := fun _ => rfl
 have r4 : runC d [.wr (j.size + 1) x, .sy, .wr j.size y, .sy] = if (d.write ((j.size + 1 : Nat) : Int) x).2 = 0 then runC (d.write ((j.size + 1 : Nat) : Int) x).1 [.sy, .wr j.size y, .sy] else d.write ((j.size + 1 : Nat) : Int) x := rfl
 rw [r4] at hR
 by_cases h1 : (d.write ((j.size + 1 : Nat) : Int) x).2 = 0
 ·rw [if_neg (fun k => k h1)]
  rw [if_pos h1, r3] at hR
  by_cases h2 : (d.write ((j.size + 1 : Nat) : Int) x).1.sync.2 = 0
  ·rw [if_neg (fun k => k h2)]
   rw [if_pos h2, r2] at hR
   by_cases h3 : ((d.write ((j.size + 1 : Nat) : Int) x).1.sync.1.write (j.size : Int) y).2 = 0
   ·rw [if_neg (fun k => k h3)]
    rw [if_pos h3, r1] at hR
    by_cases h4 : ((d.write ((j.size + 1 : Nat) : Int) x).1.sync.1.write (j.size : Int) y).1.sync.2 = 0
    ·rw [if_neg (fun k => k h4)]
     rw [if_pos h4] at hR
     rw [← hR, if_pos rfl]
    ·rw [if_pos h4]
     rw [if_neg h4] at hR
     rw [← hR, if_neg h4]
   ·rw [if_pos h3]
    rw [if_neg h3] at hR
    rw [← hR, if_neg h3]
  ·rw [if_pos h2]
   rw [if_neg h2] at hR
   rw [← hR, if_neg h2]
 ·rw [if_pos h1]
  rw [if_neg h1] at hR
  rw [← hR, if_neg h1]
theorem stored_take_le (l : List ByteArray) (h : ByteArray) (i : Nat) : (stored chF h (l.take i)).length ≤ (stored chF h l).length := by
 have e : stored chF h l = stored chF h (l.take i) ++ stored chF (headOf chF h (l.take i)) (l.drop i) := by
  rw [← stored_append, List.take_append_drop]
 rw [e, List.length_append]
 omega
theorem extract_tail (L : List Nat) (hL : ∀ b ∈ L, b < 256) : (ofB L).extract 1 (ofB L).size = ofB L.tail := by
 apply bl_inj
 rw [bl_extract, bl_ofB hL, bl_ofB (fun b hb => hL b (List.mem_of_mem_tail hb)), size_ofB hL, List.take_length]
 exact List.drop_one
theorem extract_head (L : List Nat) (hL : ∀ b ∈ L, b < 256) : (ofB L).extract 0 1 = ofB (L.take 1) := by
 apply bl_inj
 rw [bl_extract, bl_ofB hL, bl_ofB (fun b hb => hL b (List.mem_of_mem_take hb)), List.drop_zero]
theorem TAt.three {w : World} {base p : Nat} {T : TypeId} {rest : List Value} {rs : List ByteArray} {head : ByteArray} {size : Nat} {rv : Value} (h : TAt w base p T rest rs head size rv) (rv' : Value) (head' : ByteArray) (size' : Nat) :
  ((((w.setCell ⟨p, 0, none⟩ rv').setCell ⟨p, 1, none⟩ (.string head')).setCell ⟨p, 2, none⟩ (.int .i64 (size' : Int)))).heap[p]? = some (.cells (rv' :: .string head' :: .int .i64 (size' : Int) :: rest).toArray T (0, 0)) ∧
   But p w (((w.setCell ⟨p, 0, none⟩ rv').setCell ⟨p, 1, none⟩ (.string head')).setCell ⟨p, 2, none⟩ (.int .i64 (size' : Int))) := by
 have s1 := set_blk h.blk (j := 0) rv'
 have s2 := set_blk s1 (j := 1) (.string head')
 have s3 := set_blk s2 (j := 2) (.int .i64 (size' : Int))
 exact ⟨by simpa using s3, ((But.setCell p 0 w rv').trans (But.setCell p 1 _ _)).trans (But.setCell p 2 _ _)⟩
open Go Go.RowKit Go.Proofs.YtniegajdmbepbaaGreatDoorW.PrintWords Go.Proofs.YtniegajdmbepbaaGreatDoorW.PrintMore Go.Proofs.YtniegajdmbepbaaGreatDoor.WPure
theorem DAt.beside {w W : World} {D : Dsk} {dk : Dk} {pv : Value} (h : DAt w D dk pv) {j : Nat} (hb : But j w W) {cs : Array Value} {t : TypeId} {f : Nat × Nat} (hq : w.heap[j]? = some (.cells cs t f)) (h1 : t ≠ 97) (h2 : t ≠ 5) (h3 : t ≠ 92) : DAt W D dk pv :=
  { blk := (hb.block _ h.lt_d (cells_ne h.blk hq (Ne.symm h1))).trans h.blk
    dur := h.dur.keep (hb.block _ h.dur.lt (cells_ne h.dur hq (Ne.symm h2)))
    vis := h.vis.keep (hb.block _ h.vis.lt (cells_ne h.vis hq (Ne.symm h2)))
    pend := own_keep h.pend fun g hg => by
      obtain ⟨cs', hc⟩ := own_block h.pend hg
      exact hb.block _ (h.pend.lt g hg).2 (cells_ne hc hq (Ne.symm h3))
    len := h.len, hd := h.hd, h1 := h.h1, h2 := h.h2, ne := h.ne, lt := h.lt, small := h.small, left := h.left, few := h.few }
set_option maxRecDepth 100000 in
set_option maxHeartbeats 8000000 in
theorem append_calls {w : World} {B j : Nat} {D : Dsk} {jr : Jr} {dk : Dk} {v : Value} {l : List ByteArray} (hj : JrAt w B j D jr) (hd : DiskAt w D dk) (hl : Strs w v l) (hA : Sha.Amb w) (hh : jr.head.size = 32) (hsz : jr.size ≤ 4194304) (hrs : jr.records.length ≤ 1000000)
    (hn : l.length ≤ 1000) (hbt : (stored chF jr.head l).length ≤ 1000000000) (hf : dk.pend.length + 4 ≤ 1099511627776) (hjB : D.B ≤ j) :
    Calls Tryz.prog 10 #[.pointer (some ⟨j, 0, none⟩), v] w fun e w' =>
      e = .returned (.int .i64 (appendM chF dk jr l).2.2) ∧ DiskAt w' D (appendM chF dk jr l).1 ∧ JrAt w' B j D (appendM chF dk jr l).2.1 ∧ Oj D j w w' := by
  obtain ⟨rv, hj⟩ := hj
  obtain ⟨ao, c, rfl⟩ := own_form hj.tape.own
  have c4 : w.cell? ⟨j, 4, none⟩ = some (.bool jr.broken) := by simp [World.cell?, hj.tape.blk]
  cases hb : jr.broken with
  | true =>
    rw [appendM_broken dk jr l hb]
    rw [hb] at c4
    go_enter Tryz.func10, Tryz.ntmps10
    go_wp2_with fail
    go_ret
    exact ⟨rfl, hd, ⟨_, hj⟩, Oj.refl _ _ _⟩
  | false =>
    have hC := contains_calls hl (by omega)
    rw [hb] at c4
    cases hlong : l.any (fun s => decide (65536 < s.size)) with
    | true =>
      rw [appendM_long dk jr l hlong]
      rw [hlong] at hC
      go_enter Tryz.func10, Tryz.ntmps10
      go_wp2_with (go_at_call 35; refine hC.mono ?_; rintro e w2 ⟨rfl, b2⟩)
      go_ret
      exact ⟨rfl, hd.keep b2, ⟨_, ⟨hj.tape.keep b2⟩⟩, Oj.of_off (Off.of_below b2)⟩
    | false =>
      rw [hlong] at hC
      obtain ⟨G, hG⟩ : ∃ G, appendM chF dk jr l = G := ⟨_, rfl⟩
      rw [hG]
      have hGH := Hid.mk' hG
      clear hG
      go_enter Tryz.func10, Tryz.ntmps10
      go_upto_region 6 with (go_at_call 35; refine hC.mono ?_; rintro e w2 ⟨rfl, b2⟩)
      have hj2 := hj.tape.keep b2
      have hd2 := hd.keep b2
      have hl2 := hl.keep b2
      have hA2 := hA.below_block b2
      have c0 := hj2.cell0
      have c1 := hj2.cell1
      have c2 := hj2.cell2
      go_upto_region 7 with (fail)
      refine wp_world (fun W => W.heap[w2.heap.size]? = some (.cells #[.slice ao jr.records.length c, .string jr.head, .int .i64 (jr.size : Int)] 72 (0, 0)) ∧ Below w2.heap.size w2 W ∧ w2.heap.size < W.heap.size) ⟨heap_alloc_new .., below_alloc (Below.refl _ _) _, by simp⟩ ?_
      rintro W7 ⟨q7, b7, s7⟩
      clear c0 c1 c2
      obtain ⟨base, hbase⟩ : ∃ base, w2.heap.size = base := ⟨_, rfl⟩
      rw [hbase] at q7 b7 s7
      have d0 : W7.cell? ⟨base, 0, none⟩ = some (.slice ao jr.records.length c) := by simp [World.cell?, q7]
      have hown7 := own_keep (W := W7) hj2.own fun g hg => b7.block g (by rw [← hbase]; exact (hj2.own.lt g hg).2)
      have hcl := clone_calls hown7 (by omega)
      rw [hbase]
      go_upto_region 8 with (go_at_call 36; refine hcl.mono ?_; rintro e w8 ⟨rv8, rfl, h8, b8⟩
                             have q8 := (b8.block _ s7).trans q7
                             have f8 := frozen_of q8 0
                             have e0 : w8.cell? ⟨base, 0, none⟩ = some (.slice ao jr.records.length c) := by simp [World.cell?, q8]
                             obtain ⟨ao8, c8, rfl⟩ := own_form h8)
      have T8 : TAt (w8.setCell ⟨base, 0, none⟩ (.slice ao8 jr.records.length c8)) base base 72 [] jr.records jr.head jr.size (.slice ao8 jr.records.length c8) ∧ Below base w2 (w8.setCell ⟨base, 0, none⟩ (.slice ao8 jr.records.length c8)) := by
        have hc := But.setCell base 0 w8 (.slice ao8 jr.records.length c8)
        have h0 := set_blk q8 (j := 0) (.slice ao8 jr.records.length c8)
        have hb2 : Below base w2 w8 := b7.trans (b8.mono (by omega))
        refine ⟨⟨by simpa using h0, own_keep (own_mono h8 (by omega)) fun g hg => ?_, by decide, Nat.le_refl _, by have := hc.size; have := b8.size; omega⟩, hb2.setCell (Nat.le_refl _) _⟩
        obtain ⟨cs, hcs⟩ := own_block h8 hg
        exact hc.block _ (h8.lt g hg).2 (cells_ne hcs q8 (by decide))
      refine wp_world (fun W => TAt W base base 72 [] jr.records jr.head jr.size (.slice ao8 jr.records.length c8) ∧ Below base w2 W) T8 ?_
      clear T8 q8 f8 e0 h8 b8 hcl hown7 d0 q7 s7 b7
      rintro W8 ⟨H8, B8⟩
      have hbase2 : base ≤ w2.heap.size := by omega
      obtain ⟨b, hbb⟩ : ∃ b, W8.heap.size = b := ⟨_, rfl⟩
      have b9 := below_alloc (Below.refl W8.heap.size W8) (.cells #[.pointer none, .slice none 0 0] 78)
      have q9 := heap_alloc_new W8 (.cells #[.pointer none, .slice none 0 0] 78)
      have hA0 : ApI w2 base base b jr l 0 (W8.alloc (.cells #[.pointer none, .slice none 0 0] 78)) := by
        rw [hbb] at q9
        refine ⟨⟨.slice ao8 jr.records.length c8, ?_⟩, .inl ⟨by have := H8.lt; omega, .slice none 0 0, q9, World.ownsRowF_nil (W8.alloc (.cells #[.pointer none, .slice none 0 0] 78)) base 5 1, by simp [Value.ownBlock]⟩, B8.trans (b9.mono (by have := H8.hs; omega))⟩
        have := H8.keep b9
        rw [List.take_zero, List.append_nil]
        exact this
      clear q9 b9
      obtain ⟨A, cl, rfl, hlA⟩ := hl2
      go_wp2_with fail
      go_loopw [33] (fun v wr => ∃ i : Nat, v = .int .i64 (i : Int) ∧ i ≤ l.length ∧ ApI w2 base base b jr l i wr) (fun v _ => l.length - (intOf v).toNat)
      case atStart => exact ⟨0, rfl, Nat.zero_le _, hA0⟩
      case round =>
        obtain ⟨i, rfl, hi, I⟩ := hrel
        by_cases h1 : i < l.length
        · have x1 : decide ((i : Int) < (l.length : Int)) = true := decide_eq_true (by omega)
          have x2 : ((i : Int) < (l.length : Int)) = True := eq_true (by omega)
          obtain ⟨s, hs⟩ : ∃ s, l[i]? = some s := ⟨_, List.getElem?_eq_getElem h1⟩
          rcases hlA with h0 | ⟨bl', ol, rfl, hbl, hcl⟩
          · rw [h0] at h1; exact absurd h1 (Nat.not_lt_zero _)
          have hcs : wr.cell? ⟨bl', ol + i, none⟩ = some (.string s) := by
            rw [← hcl i s hs]
            exact World.cell?_of_block (w := w2) (I.bel.block bl' (by omega))
          have hss : s.size ≤ 65536 := by
            have := List.any_eq_false.1 hlong s (List.mem_of_getElem? hs)
            simpa using this
          have htk : l.take (i + 1) = l.take i ++ [s] := by rw [List.take_add_one, hs]; rfl
          have hle := stored_take_le l jr.head i
          have hAr : Sha.Amb wr := by
            obtain ⟨t, fr, ha⟩ := hA2
            exact ⟨t, fr, (I.bel.block _ (by have := (Array.getElem?_eq_some_iff.1 ha).1; omega)).trans ha⟩
          have hlen : (jr.records ++ l.take i).length ≤ 1001000 := by rw [List.length_append, List.length_take]; omega
          have hadd := tape_add_calls I.tape s hss (headOf_size jr.head hh _) (by omega) (by omega) hAr
          obtain ⟨O, hO⟩ : ∃ O, ofB (recB chF (headOf chF jr.head (l.take i)) s) = O := ⟨_, rfl⟩
          have hOs : O.size ≤ 140000 := by
            have hlt : ∀ b ∈ recB chF (headOf chF jr.head (l.take i)) s, b < 256 := fun b hb => stored_lt chF [s] _ b (by show b ∈ recB chF _ s ++ []; rw [List.append_nil]; exact hb)
            rw [← hO, size_ofB hlt, recB_length chF chF_size]
            unfold encS
            rw [List.length_append, bl_length]
            have := Code.enc_len (n := (s.size : Int)) (by unfold Code.maxInt; omega) (by unfold Code.maxInt; omega)
            omega
          have hn1 : IntKind.i64.wrap ((i : Int) + 1) = ((i + 1 : Nat) : Int) := by rw [IntKind.wrap_i64]; omega
          have hbc : (Lib.byteCells (ofB (stored chF jr.head (l.take i))).data.toList).length + O.size ≤ 140737488355328 := by
            have e1 : (Lib.byteCells (ofB (stored chF jr.head (l.take i))).data.toList).length = (ofB (stored chF jr.head (l.take i))).size := by simp [Lib.byteCells]
            rw [e1, size_ofB (stored_lt chF _ _)]
            omega
          have hnext : ∀ wa wb, TapeAt wa base base 72 [] (jr.records ++ l.take i ++ [s]) (chF (headOf chF jr.head (l.take i)) s) (jr.size + (stored chF jr.head (l.take i)).length + (recB chF (headOf chF jr.head (l.take i)) s).length) → Oft base base wr wa →
              Lib.IsBuilderF 78 5 base b (Lib.byteCells (ofB (stored chF jr.head (l.take i))).data.toList ++ Lib.strCells O) wb → Below base wa wb → Lib.OthersKept 5 (some b) wa wb →
              Lib.IsBuilderF 78 5 base b (Lib.byteCells (ofB (stored chF jr.head (l.take i))).data.toList) wa → ApI w2 base base b jr l (i + 1) wb := by
            rintro wa wb ⟨rvn, hta⟩ hoft hbld hbel hoth hbla
            refine ⟨⟨rvn, ?_⟩, ?_, (I.bel.trans (hoft.below (Nat.le_trans hbase2 I.bel.size))).trans hbel⟩
            · obtain ⟨cs, hcs2⟩ := bld_block hbla
              rw [htk, headOf_snoc, stored_snoc, List.length_append, ← List.append_assoc, ← Nat.add_assoc]
              exact hta.oth hoth hbel.size hcs2
            · rw [htk, stored_snoc, ofB_append, hO]
              have : (ofB (stored chF jr.head (l.take i)) ++ O).data.toList = (ofB (stored chF jr.head (l.take i))).data.toList ++ O.data.toList := by rw [ByteArray.data_append, Array.toList_append]
              rw [this, Lib.byteCells_append]
              exact hbld
          rw [hO] at hadd
          have hNx : Hid (∀ wa wb, TapeAt wa base base 72 [] (jr.records ++ l.take i ++ [s]) (chF (headOf chF jr.head (l.take i)) s) (jr.size + (stored chF jr.head (l.take i)).length + (recB chF (headOf chF jr.head (l.take i)) s).length) → Oft base base wr wa →
              Lib.IsBuilderF 78 5 base b (Lib.byteCells (ofB (stored chF jr.head (l.take i))).data.toList ++ Lib.strCells O) wb → Below base wa wb → Lib.OthersKept 5 (some b) wa wb →
              Lib.IsBuilderF 78 5 base b (Lib.byteCells (ofB (stored chF jr.head (l.take i))).data.toList) wa → ApI w2 base base b jr l (i + 1) wb) := hnext
          clear hnext hO htk hle hlen hs
          obtain ⟨rvt, htt⟩ := I.tape
          have hqb := htt.blk
          clear htt
          go_wp2_with (first
            | (go_at_call 38; refine hadd.mono ?_; rintro e wa ⟨rfl, hta, hoa⟩
               have hbla := bld_oft I.bld hoa hqb
               have hsa : base ≤ wa.heap.size := Nat.le_trans (Nat.le_trans hbase2 I.bel.size) hoa.size)
            | (go_at_call 37; refine (write_string base b _ O _ hbla hbc hsa).mono ?_; rintro e wb ⟨rfl, hbld, hbel, hoth⟩))
          have I2 := hNx.out wa wb hta hoa hbld hbel hoth hbla
          go_roundw
          case rel => exact ⟨i + 1, rfl, by omega, I2⟩
          case measure => simp [intOf]; omega
        · have x1 : decide ((i : Int) < (l.length : Int)) = false := decide_eq_false (by omega)
          have x2 : ((i : Int) < (l.length : Int)) = False := eq_false (by omega)
          have hie : i = l.length := by omega
          have hIb := I.bel
          have hIt := I.tape
          have hIs := I.bld
          rw [hie, List.take_length] at hIt hIs
          obtain ⟨S, hS⟩ : ∃ S, stored chF jr.head l = S := ⟨_, rfl⟩
          have hSlt : ∀ b ∈ S, b < 256 := by rw [← hS]; exact stored_lt chF _ _
          rw [hS] at hIt hIs hbt
          obtain ⟨s, hs⟩ : ∃ s, ofB S = s := ⟨_, rfl⟩
          have hss : s.size = S.length := by rw [← hs]; exact size_ofB hSlt
          rw [hs] at hIs
          have hst := bld_string base b s.data.toList wr hIs (Nat.le_trans hbase2 hIb.size)
          rw [show (⟨s.data.toList.toArray⟩ : ByteArray) = s from by cases s; simp] at hst
          obtain ⟨csb, hcsb⟩ := bld_block hIs
          have keepAll : ∀ W, Below base wr W → Lib.OthersKept 5 (some b) wr W → Below w2.heap.size w2 W ∧ TapeAt W base base 72 [] (jr.records ++ l) (headOf chF jr.head l) (jr.size + S.length) := by
            intro W hW hO
            obtain ⟨rvt, htt⟩ := hIt
            exact ⟨by rw [hbase]; exact hIb.trans hW, rvt, htt.oth hO hW.size hcsb⟩
          have hsm : dk.dur.length ≤ 4194304 := let ⟨_, hd⟩ := hd; hd.small
          have hKA := Hid.mk' keepAll
          clear keepAll hIt hIs hIb I hlA
          by_cases hfull : dk.dur.length < jr.size + S.length
          · have y1 : decide ((dk.dur.length : Int) - (jr.size : Int) < (s.size : Int)) = true := decide_eq_true (by omega)
            have y2 : ((dk.dur.length : Int) - (jr.size : Int) < (s.size : Int)) = True := eq_true (by omega)
            go_wp2_with (first
              | (go_at_call 39; refine hst.mono ?_; rintro e wc ⟨rfl, hbc, hoc⟩
                 obtain ⟨k1, k2⟩ := hKA.out wc hbc hoc
                 have hroom := room_calls (jr := jr) ⟨_, ⟨hj2.keep k1⟩⟩ (hd2.keep k1) (by omega))
              | (go_at_call 20; refine hroom.mono ?_; rintro e wd ⟨rfl, hbd⟩))
            go_ret
            have hG := hGH.out
            rw [appendM_full dk jr l hb hlong (by rw [hS]; exact hfull)] at hG
            rw [← hG]
            have hall := k1.trans (hbd.mono (by have := k1.size; exact this))
            exact ⟨rfl, hd2.keep hall, ⟨_, ⟨hj2.keep hall⟩⟩, Oj.of_off ((Off.of_below b2).then hall)⟩
          · have y1 : decide ((dk.dur.length : Int) - (jr.size : Int) < (s.size : Int)) = false := decide_eq_false (by omega)
            have y2 : ((dk.dur.length : Int) - (jr.size : Int) < (s.size : Int)) = False := eq_false (by omega)
            by_cases hS0 : S = []
            · have hse : s = ⟨#[]⟩ := by rw [← hs, hS0]; rfl
              subst hse
              go_wp2_with (first
                | (go_at_call 39; refine hst.mono ?_; rintro e wc ⟨rfl, hbc, hoc⟩
                   obtain ⟨k1, k2⟩ := hKA.out wc hbc hoc
                   have hroom := room_calls (jr := jr) ⟨_, ⟨hj2.keep k1⟩⟩ (hd2.keep k1) (by omega))
                | (go_at_call 20; refine hroom.mono ?_; rintro e wd ⟨rfl, hbd⟩))
              go_ret
              have hG := hGH.out
              rw [appendM_none dk jr l hb hlong (by rw [hS]; exact hfull) (by rw [hS]; exact hS0)] at hG
              rw [← hG]
              have hall := k1.trans (hbd.mono (by have := k1.size; exact this))
              exact ⟨rfl, hd2.keep hall, ⟨_, ⟨hj2.keep hall⟩⟩, Oj.of_off ((Off.of_below b2).then hall)⟩
            · have hsn : s ≠ ⟨#[]⟩ := by
                intro e
                apply hS0
                have := congrArg ByteArray.size e
                rw [hss] at this
                exact List.eq_nil_of_length_eq_zero this
              have y3 : s.toList.isEmpty = false := by
                cases hl : s.toList with
                | nil => exact absurd (nl_toList.1 (hl.trans (show ([] : List UInt8) = (⟨#[]⟩ : ByteArray).toList from by kernel_rfl))) hsn
                | cons x l => rfl
              have hS1 : 1 ≤ S.length := by cases S with | nil => exact absurd rfl hS0 | cons a b => simp
              have z1 : ((1 : Int) ≤ (s.size : Int)) = True := eq_true (by omega)
              have z2 : 1 ≤ s.size := by omega
              have hw1 : IntKind.i64.wrap ((jr.size : Int) + 1) = ((jr.size + 1 : Nat) : Int) := by rw [IntKind.wrap_i64]; omega
              obtain ⟨R, hR⟩ : ∃ R, runC dk [.wr (jr.size + 1) (s.extract 1 s.size), .sy, .wr jr.size (s.extract 0 1), .sy] = R := ⟨_, rfl⟩
              have hR' := hR
              rw [← hs, extract_tail S hSlt, extract_head S hSlt, ← hS] at hR'
              have hG := appendM_write dk jr l hb hlong (by rw [hS]; exact hfull) (by rw [hS]; exact hS0) R hR'
              rw [hGH.out, hS] at hG
              have hGW := Hid.mk' hG
              clear hG hR' hGH hs hss hS hSlt hS0 hsn
              have hj3 := hj2
              rw [hb] at hj3
              go_upto_region 19 with (first
                | (go_at_call 39; refine hst.mono ?_; rintro e wc ⟨rfl, hbc, hoc⟩
                   obtain ⟨k1, k2⟩ := hKA.out wc hbc hoc
                   have hroom := room_calls (jr := jr) ⟨_, ⟨hj2.keep k1⟩⟩ (hd2.keep k1) (by omega))
                | (go_at_call 20; refine hroom.mono ?_; rintro e wd ⟨rfl, hbd⟩))
              have hall := k1.trans (hbd.mono (by have := k1.size; exact this))
              obtain ⟨rvt, k3⟩ := k2
              have k4 := k3.keep hbd
              have hdd := hd2.keep hall
              have hjd := hj3.keep hall
              obtain ⟨at', ct', rfl⟩ := own_form k4.own
              clear y1 y2 x1 x2
              refine Sha.norm_wp ?_
              refine japp_r19 _ wd wd _ _ _ _ _ _ _ _ _ _ _ _ _ _ _ _ _ _ _ _ _ _ _ _ _ _ _ _ _ _ _ _ _ _ _ _ _ _ _ _ _ _ _ _ _ _ _ _ _ _ _ _ _ _ _ _ _ _ _ _ _ _ _ _ _ _ _ _ _ _ _ _ _ _ _ _ _ _ _ _ _ _ _ _ _ _ _ _ _ _ D dk j jr.size (jr.size + 1) s (jr.head, B, .slice ao jr.records.length c) jr.records hw1 hf z1 z2 ⟨⟨hjd⟩, hdd, Off.refl _ _⟩ ?_
              intro z51 z52 z53 z54 z55 z56 z57 z58 z59 z60 z61 z62 z63 z64 z65 z66 z67 z68 z69 z70 z71 z72 z73 z74 z75 z76 z77 z78 z79 z80 z81 W' hdW hjW hoW
              rw [hR] at hdW
              rw [hR]
              have k5 := k4.off hoW hdd (by decide) (by decide) (by decide)
              obtain ⟨rvj, hjW⟩ := hjW
              have m0 := hjW.cell0
              have m1 := hjW.cell1
              have m2 := hjW.cell2
              have m4 : W'.cell? ⟨j, 4, none⟩ = some (.bool false) := by simp [World.cell?, hjW.blk]
              have f0 := frozen_of hjW.blk 0
              have f1 := frozen_of hjW.blk 1
              have f2 := frozen_of hjW.blk 2
              have f4 := frozen_of hjW.blk 4
              have n0 := k5.cell0
              have n1 := k5.cell1
              have n2 := k5.cell2
              have hOW : Oj D j w W' := Oj.of_off (((Off.of_below b2).then hall).trans hoW)
              have hBj : B ≤ base := by have := hj2.lt; have := hj2.hp; omega
              by_cases hR0 : R.2 = 0
              · have hG2 := hGW.out
                rw [if_pos hR0] at hG2
                clear hGW
                obtain ⟨E, hE⟩ : ∃ E, R.2 = E := ⟨_, rfl⟩
                rw [hE] at hR0 ⊢
                subst hR0
                have h3 := hjW.three (.slice at' (jr.records ++ l).length ct') (headOf chF jr.head l) (jr.size + S.length)
                go_wp2_with fail
                go_ret
                have e1 : ((jr.size : Int) + (S.length : Int)) = ((jr.size + S.length : Nat) : Int) := rfl
                have e2 : jr.records.length + l.length = (jr.records ++ l).length := (List.length_append).symm
                rw [e1, e2]
                obtain ⟨pv, hdW⟩ := hdW
                refine ⟨rfl, ⟨pv, hdW.beside h3.2 hjW.blk (by decide) (by decide) (by decide)⟩, ⟨_, ⟨⟨h3.1, ?_, by decide, hjW.hp, Nat.le_trans hjW.hs h3.2.size⟩⟩⟩, hOW.trans (Oj.of_but h3.2 hjB)⟩
                exact own_keep (own_mono k5.own hBj) fun g hg => by
                  obtain ⟨cs', hc⟩ := own_block k5.own hg
                  exact h3.2.block _ (k5.own.lt g hg).2 (cells_ne hc hjW.blk (by decide))
              · have hG2 := hGW.out
                rw [if_neg hR0] at hG2
                clear hGW
                obtain ⟨E, hE⟩ : ∃ E, R.2 = E := ⟨_, rfl⟩
                rw [hE] at hR0 ⊢
                have u1 : (E != 0) = true := bne_iff_ne.mpr hR0
                have u2 : (E = 0) = False := eq_false hR0
                go_wp2_with fail
                go_ret
                obtain ⟨pv, hdW⟩ := hdW
                have hbj := But.setCell j 4 W' (.bool true)
                have hbk := set_blk hjW.blk (j := 4) (.bool true)
                refine ⟨rfl, ⟨pv, hdW.beside hbj hjW.blk (by decide) (by decide) (by decide)⟩, ⟨rvj, ⟨⟨by simpa using hbk, ?_, by decide, hjW.hp, Nat.le_trans hjW.hs hbj.size⟩⟩⟩, hOW.trans (Oj.of_but hbj hjB)⟩
                exact own_keep hjW.own fun g hg => by
                  obtain ⟨cs', hc⟩ := own_block hjW.own hg
                  exact hbj.block _ (hjW.own.lt g hg).2 (cells_ne hc hjW.blk (by decide))
open Go Go.RowKit Go.Proofs.YtniegajdmbepbaaGreatDoorW.PrintWords Go.Proofs.YtniegajdmbepbaaGreatDoorW.PrintMore
structure Ambs (a : Addr) (D : Dsk) (w : World) : Prop where
 amb : Sha.Amb w
 ambE : AmbE a w
 g1 : 3 < D.B
 g2 : 0 < D.B
theorem Ambs.keep {a : Addr} {D : Dsk} {w W : World} (h : Ambs a D w) (hb : Below D.B w W) : Ambs a D W :=
 ⟨let ⟨t, fr, ha⟩ := h.amb; ⟨t, fr, (hb.block _ h.g1).trans ha⟩, h.ambE.keep (hb.block _ h.g2), h.g1, h.g2⟩
structure Good (w : World) (B j : Nat) (D : Dsk) (dk : Dk) (jr : Jr) (m N : Nat) : Prop where
 disk : DiskAt w D dk
 jour : JrAt w B j D jr
 fine : Fine chF z32 dk jr m
 tot : jr.size + m = N
 small : N ≤ 1000000
 hj : D.B ≤ j
theorem DiskAt.sizeB {w : World} {D : Dsk} {dk : Dk} (h : DiskAt w D dk) : D.B ≤ w.heap.size := let ⟨_, h⟩ := h; h.size
theorem Good.dur {w : World} {B j : Nat} {D : Dsk} {dk : Dk} {jr : Jr} {m N : Nat} (h : Good w B j D dk jr m N) : dk.dur.length = N := by
 rw [h.fine.dur, List.length_append, zeros_length, ← h.fine.size, h.tot]
theorem rec_le (rs : List ByteArray) : ∀ h : ByteArray, rs.length ≤ (stored chF h rs).length := by
 induction rs with
 | nil => intro h; exact Nat.le_refl _
 | cons r rs ih =>
  intro h
  show rs.length + 1 ≤ (recB chF h r ++ stored chF (chF h r) rs).length
  rw [List.length_append, recB_length chF chF_size]
  have := ih (chF h r)
  omega
theorem stored_bound (M : Nat) (hM : M ≤ 4000000000000000000) : ∀ (l : List ByteArray) (h : ByteArray), (∀ s ∈ l, s.size ≤ M) → (stored chF h l).length ≤ l.length * (M + 42)
 | [], h, _ => Nat.zero_le _
 | s :: l, h, hs => by
  show (recB chF h s ++ stored chF (chF h s) l).length ≤ (l.length + 1) * (M + 42)
  rw [List.length_append, recB_length chF chF_size]
  have h1 := stored_bound M hM l (chF h s) fun x hx => hs x (List.mem_cons_of_mem _ hx)
  have h2 : (encS s).length ≤ M + 9 := by
   unfold encS
   rw [List.length_append, bl_length]
   have := hs s List.mem_cons_self
   have := Code.enc_len (n := (s.size : Int)) (by unfold Code.maxInt; omega) (by unfold Code.maxInt; omega)
   omega
  rw [Nat.add_mul]
  omega
theorem Good.append {w : World} {B j : Nat} {D : Dsk} {dk : Dk} {jr : Jr} {m N : Nat} {a : Addr} (h : Good w B j D dk jr m N) (ha : Ambs a D w) {v : Value} {l : List ByteArray} (hl : Strs w v l) (hn : l.length ≤ 1000) (M : Nat) (hM : M ≤ 900000) (hs : ∀ s ∈ l, s.size ≤ M) :
  Calls Tryz.prog 10 #[.pointer (some ⟨j, 0, none⟩), v] w fun e w' =>
   e = .returned (.int .i64 (appendM chF dk jr l).2.2) ∧ DiskAt w' D (appendM chF dk jr l).1 ∧ JrAt w' B j D (appendM chF dk jr l).2.1 ∧ Oj D j w w' ∧ Ambs a D w' ∧ Below D.B w w' := by
 have hh : jr.head.size = 32 := by rw [h.fine.head]; exact headOf_size z32 z32_size _
 have hsz : jr.size ≤ N := by have := h.tot; omega
 have hrs : jr.records.length ≤ N := by have := rec_le jr.records z32; rw [← h.fine.size] at this; omega
 have hb := stored_bound M (by omega) l jr.head hs
 have hb2 : l.length * (M + 42) ≤ 1000 * (M + 42) := Nat.mul_le_mul_right _ hn
 have hsm := h.small
 refine (append_calls h.jour h.disk hl ha.amb hh (by omega) (by omega) hn (by omega) (by rw [h.fine.pend]; decide) h.hj).mono ?_
 rintro e w' ⟨he, hd, hj, ho⟩
 have hbl := ho.below h.disk.sizeB
 exact ⟨he, hd, hj, ho, ha.keep hbl, hbl⟩
theorem Good.open {w : World} {B j : Nat} {D : Dsk} {dk : Dk} {jr : Jr} {m N : Nat} {a : Addr} (h : Good w B j D dk jr m N) (ha : Ambs a D w) :
  Calls Tryz.prog 25 #[.pointer (some ⟨D.d, 0, none⟩)] w fun e w' => ∃ j2, e = .returned (.tuple #[.pointer (some ⟨j2, 0, none⟩), .int .i64 0]) ∧ Good w' w.heap.size j2 D dk jr m N ∧ JrAt w' B j D jr ∧ Off D w w' ∧ Ambs a D w' ∧ Below D.B w w' := by
 have ho : openM chF z32 dk = (dk, some ⟨jr.records, headOf chF z32 jr.records, (stored chF z32 jr.records).length, false⟩, 0) := by
  have h1 := open_any chF z32 chF_size jr.records (zeros m) dk.left h.fine.small (zeros_head m) (.inr (zeros_all m))
  rw [zeros_length, ← h.fine.eq] at h1
  exact h1
 have hjr : (⟨jr.records, headOf chF z32 jr.records, (stored chF z32 jr.records).length, false⟩ : Jr) = jr := by
  have := h.fine.head; have := h.fine.size; have := h.fine.ok
  cases jr; simp_all
 rw [hjr] at ho
 refine (jopen_calls h.disk a ha.amb ha.ambE (by rw [h.fine.pend]; decide)).mono ?_
 rw [ho]
 rintro e w' ⟨hd, hof, j2, rfl, hj2⟩
 have hbl := hof.below h.disk.sizeB
 refine ⟨j2, rfl, ⟨hd, hj2, h.fine, h.tot, h.small, ?_⟩, h.jour.off hof h.disk, hof, ha.keep hbl, hbl⟩
 obtain ⟨rv, hj2⟩ := hj2
 exact Nat.le_trans h.disk.sizeB hj2.tape.hp
theorem open_new {w : World} {D : Dsk} {N : Nat} {a : Addr} (h : DiskAt w D (newDk N)) (hN : N ≤ 1000000) (ha : Ambs a D w) :
  Calls Tryz.prog 25 #[.pointer (some ⟨D.d, 0, none⟩)] w fun e w' => ∃ j2, e = .returned (.tuple #[.pointer (some ⟨j2, 0, none⟩), .int .i64 0]) ∧ Good w' w.heap.size j2 D (newDk N) ⟨[], z32, 0, false⟩ N N ∧ Off D w w' ∧ Ambs a D w' ∧ Below D.B w w' := by
 have ho : openM chF z32 (newDk N) = (newDk N, some ⟨[], z32, 0, false⟩, 0) := by
  have h1 := open_any chF z32 chF_size [] (zeros N) 0 (fun r hr => by cases hr) (zeros_head N) (.inl rfl)
  rw [zeros_length] at h1
  exact h1
 refine (jopen_calls h a ha.amb ha.ambE (by show 0 + 2 ≤ _; omega)).mono ?_
 rw [ho]
 rintro e w' ⟨hd, hof, j2, rfl, hj2⟩
 have hbl := hof.below h.sizeB
 refine ⟨j2, rfl, ⟨hd, hj2, ⟨rfl, rfl, rfl, rfl, rfl, rfl, rfl, fun r hr => by cases hr⟩, Nat.zero_add N, hN, ?_⟩, hof, ha.keep hbl, hbl⟩
 obtain ⟨rv, hj2⟩ := hj2
 exact Nat.le_trans h.sizeB hj2.tape.hp
open Go Go.RowKit Go.Proofs.YtniegajdmbepbaaGreatDoorW.PrintWords Go.Proofs.YtniegajdmbepbaaGreatDoorW.PrintMore
theorem Good.keep {w W : World} {B j : Nat} {D : Dsk} {dk : Dk} {jr : Jr} {m N : Nat} (h : Good w B j D dk jr m N) (k : Below w.heap.size w W) : Good W B j D dk jr m N :=
 ⟨h.disk.keep k, h.jour.keep k, h.fine, h.tot, h.small, h.hj⟩
theorem Ambs.keep' {a : Addr} {D : Dsk} {w W : World} (h : Ambs a D w) (k : Below w.heap.size w W) : Ambs a D W :=
 ⟨h.amb.below_block k, h.ambE.keep (k.block _ (Array.getElem?_eq_some_iff.1 h.ambE.choose_spec.choose_spec).1), h.g1, h.g2⟩
theorem stored_len : ∀ (l : List ByteArray) (h : ByteArray), (stored chF h l).length = (l.map fun r => (encS r).length + 33).sum
 | [], h => rfl
 | r :: l, h => by
  show (recB chF h r ++ stored chF (chF h r) l).length = ((encS r).length + 33) + (l.map fun r => (encS r).length + 33).sum
  rw [List.length_append, recB_length chF chF_size, stored_len l]
theorem Good.app_ok {w : World} {B j : Nat} {D : Dsk} {dk : Dk} {jr : Jr} {m N : Nat} {a : Addr} (h : Good w B j D dk jr m N) (hleft : dk.left = 0) (ha : Ambs a D w) {v : Value} {l : List ByteArray} (hl : Strs w v l) (hn : l.length ≤ 1000) (hs : ∀ s ∈ l, s.size ≤ 65536) (L : Nat)
  (hL : (stored chF jr.head l).length = L) (hm : L ≤ m) :
  Calls Tryz.prog 10 #[.pointer (some ⟨j, 0, none⟩), v] w fun e w' => ∃ dk' jr', e = .returned (.int .i64 0) ∧ Good w' B j D dk' jr' (m - L) N ∧ jr'.records = jr.records ++ l ∧ dk'.left = 0 ∧ Oj D j w w' ∧ Ambs a D w' ∧ Below D.B w w' := by
 refine (h.append ha hl hn 65536 (by omega) hs).mono ?_
 obtain ⟨d', j', e', hap, hc⟩ := append_any chF z32 dk jr m l h.fine
 rw [hap]
 rintro e w' ⟨he, hd, hj, ho, ha2, hb⟩
 rcases hc with ⟨_, _, _, s, hsl, hss⟩ | ⟨_, _, _, _, hf⟩ | ⟨_, hle, he0, hfi, hrec, hl0⟩ | ⟨_, _, _, hne⟩
 ·have := hs s hsl; omega
 ·omega
 ·rw [hL] at hfi
  refine ⟨d', j', by rw [he]; show Ending.returned (Value.int IntKind.i64 e') = _; rw [he0], ⟨hd, hj, hfi, ?_, h.small, h.hj⟩, hrec, hl0 hleft, ho, ha2, hb⟩
  have e1 := hfi.size
  rw [hrec, stored_append, List.length_append, ← h.fine.size, ← h.fine.head, hL] at e1
  have := h.tot
  omega
 ·exact absurd hleft hne
theorem Good.app_full {w : World} {B j : Nat} {D : Dsk} {dk : Dk} {jr : Jr} {m N : Nat} {a : Addr} (h : Good w B j D dk jr m N) (hleft : dk.left = 0) (ha : Ambs a D w) {v : Value} {l : List ByteArray} (hl : Strs w v l) (hn : l.length ≤ 1000) (hs : ∀ s ∈ l, s.size ≤ 65536)
  (hm : m < (stored chF jr.head l).length) :
  Calls Tryz.prog 10 #[.pointer (some ⟨j, 0, none⟩), v] w fun e w' => e = .returned (.int .i64 291) ∧ Good w' B j D dk jr m N ∧ Oj D j w w' ∧ Ambs a D w' ∧ Below D.B w w' := by
 refine (h.append ha hl hn 65536 (by omega) hs).mono ?_
 obtain ⟨d', j', e', hap, hc⟩ := append_any chF z32 dk jr m l h.fine
 rw [hap]
 rintro e w' ⟨he, hd, hj, ho, ha2, hb⟩
 rcases hc with ⟨_, _, _, s, hsl, hss⟩ | ⟨_, he0, hd0, hj0, hf⟩ | ⟨_, hle, _⟩ | ⟨_, _, _, hne⟩
 ·have := hs s hsl; omega
 ·subst hd0
  subst hj0
  exact ⟨by rw [he]; show Ending.returned (Value.int IntKind.i64 e') = _; rw [he0], ⟨hd, hj, h.fine, h.tot, h.small, h.hj⟩, ho, ha2, hb⟩
 ·omega
 ·exact absurd hleft hne
theorem jopen_nil (w : World) : Calls Tryz.prog 25 #[.pointer none] w fun e w' => e = .returned (.tuple #[.pointer none, .int .i64 1]) ∧ w' = w := by
 go_enter Tryz.func25, Tryz.ntmps25
 go_wp2_with fail
 go_ret2
 exact ⟨rfl, rfl⟩
theorem strs_new (w : World) (l : List ByteArray) (t : TypeId) : Strs (w.alloc (.cells (l.map Value.string).toArray t)) (.slice (some ⟨w.heap.size, 0, none⟩) l.length l.length) l :=
 ⟨_, _, rfl, .inr ⟨_, _, rfl, by simp, fun j s hs => by
  have hn := heap_alloc_new w (.cells (l.map Value.string).toArray t)
  simp only [World.cell?, hn, Nat.zero_add]
  simp [hs]⟩⟩
theorem openM_two (dk : Dk) (h : dk.off = false) (t : List Nat) (hv : dk.vis = 2 :: t) : openM chF z32 dk = (dk, none, 292) := by
 refine openM_bad dk h ?_
 rw [hv]
 exact parse_bad _ _ _ _ (by decide) (by decide)
theorem write_two (dk : Dk) (n : Nat) (h : dk.off = false) (hl : dk.left = 0) (hd : dk.dur.length = n + 1) (hv : dk.vis.length = n + 1) (hp : dk.pend = []) :
  ∃ d t, dk.write 0 ⟨#[2]⟩ = (d, 0) ∧ d.off = false ∧ d.dur.length = n + 1 ∧ d.vis = 2 :: t ∧ d.pend.length = 1 ∧ d.left = 0 := by
 cases dk with
 | mk off left dur vis pend =>
  simp only at h hl hd hv hp
  subst h hl hp
  have h1 := write_in 0 dur vis [] 0 ⟨#[2]⟩ (by rw [hd]; show 0 + 1 ≤ n + 1; omega)
  refine ⟨⟨false, 0, dur, splice vis 0 (bl ⟨#[2]⟩), [(0, ⟨#[2]⟩)]⟩, vis.drop 1, h1, rfl, hd, rfl, rfl, rfl⟩
theorem Good.vis {w : World} {B j : Nat} {D : Dsk} {dk : Dk} {jr : Jr} {m N : Nat} (h : Good w B j D dk jr m N) : dk.vis.length = N := by
 rw [h.fine.vis, List.length_append, zeros_length, ← h.fine.size, h.tot]
theorem own_head {w : World} {base : Nat} {v : Value} {x : Value} {n : Nat} {xs : List Value} (h : w.ownsRow base 9 1 v (n + 1) (x :: xs)) : ∃ g c, v = .slice (some ⟨g, 0, none⟩) (n + 1) c ∧ w.cell? ⟨g, 0, none⟩ = some x := by
 rcases h.2 with ⟨_, h0⟩ | ⟨g, cap, cur, rfl, hb, hg, r⟩
 ·cases h0
 ·have := h.cells (g := g) rfl 0 x rfl
  exact ⟨g, cap, rfl, this⟩
open Go Go.RowKit Go.Proofs.YtniegajdmbepbaaGreatDoorW.PrintWords Go.Proofs.YtniegajdmbepbaaGreatDoorW.PrintMore
theorem len_ab : (([(⟨#[97, 98]⟩ : ByteArray), (⟨#[]⟩ : ByteArray)]).map fun r => (encS r).length + 33).sum = 70 := by
 have h2 : Code.enc 2 = [4] := by decide +kernel
 have h0 : Code.enc 0 = [0] := by decide +kernel
 have e2 : (encS (⟨#[97, 98]⟩ : ByteArray)).length = 3 := by
  unfold encS
  rw [show ((⟨#[97, 98]⟩ : ByteArray).size : Int) = 2 from rfl, h2]
  rfl
 have e0 : (encS (⟨#[]⟩ : ByteArray)).length = 1 := by
  unfold encS
  rw [show ((⟨#[]⟩ : ByteArray).size : Int) = 0 from rfl, h0]
  rfl
 simp [e2, e0]
theorem len_z (n k : Nat) (hk : (Code.enc (n : Int)).length = k) : (([ofB (zeros n)]).map fun r => (encS r).length + 33).sum = k + n + 33 := by
 have hs : (ofB (zeros n)).size = n := by rw [size_ofB (zeros_lt n), zeros_length]
 have : (encS (ofB (zeros n))).length = k + n := by
  unfold encS
  rw [List.length_append, bl_length, hs, hk]
 simp [this]
theorem Good.room {w : World} {B j : Nat} {D : Dsk} {dk : Dk} {jr : Jr} {m N : Nat} (h : Good w B j D dk jr m N) :
  Calls Tryz.prog 20 #[.pointer (some ⟨j, 0, none⟩)] w fun e w' => e = .returned (.int .i64 (m : Int)) ∧ Below w.heap.size w w' := by
 have := h.tot
 have := h.small
 refine (room_calls h.jour h.disk (by omega)).mono ?_
 rintro e w' ⟨rfl, hb⟩
 rw [h.dur]
 exact ⟨by congr 2; omega, hb⟩
theorem Good.recs {w : World} {B j : Nat} {D : Dsk} {dk : Dk} {jr : Jr} {m N : Nat} (h : Good w B j D dk jr m N) (rs : List ByteArray) (hrs : jr.records = rs) :
  Calls Tryz.prog 19 #[.pointer (some ⟨j, 0, none⟩)] w fun e w' => ∃ ao c, e = .returned (.slice ao rs.length c) ∧ w'.ownsRow w.heap.size 9 1 (.slice ao rs.length c) rs.length (rs.map Value.string) ∧ Below w.heap.size w w' := by
 have h1 := rec_le jr.records z32
 rw [← h.fine.size] at h1
 have := h.tot
 have := h.small
 subst hrs
 refine (records_calls h.jour (by omega)).mono ?_
 rintro e w' ⟨v', rfl, ho, hb⟩
 obtain ⟨ao, c, rfl⟩ := own_form ho
 exact ⟨ao, c, rfl, ho, hb⟩
set_option maxRecDepth 100000 in
set_option maxHeartbeats 8000000 in
theorem sane_calls (w : World) (a : Addr) (hA : Sha.Amb w) (hE : AmbE a w) :
  Calls Tryz.prog 8 #[] w fun e w' => e = .returned (.bool true) ∧ Below w.heap.size w w' := by
 have hN : Calls Tryz.prog 24 #[.int .i64 200] w fun e w' => ∃ D : Dsk, e = .returned (.tuple #[.pointer (some ⟨D.d, 0, none⟩), .int .i64 0]) ∧ DiskAt w' D (newDk 200) ∧ Below w.heap.size w w' ∧ D.B = w.heap.size := new_calls w 200 (by omega) (by omega)
 have g1 : 3 < w.heap.size := (Array.getElem?_eq_some_iff.1 hA.choose_spec.choose_spec).1
 have g2 : 0 < w.heap.size := (Array.getElem?_eq_some_iff.1 hE.choose_spec.choose_spec).1
 go_enter Tryz.func8, Tryz.ntmps8
 go_upto_region 2 with (go_at_call 24; refine hN.mono ?_; rintro e w1 ⟨D, rfl, hd1, b1, hDB⟩)
 have a1 : Ambs a D w1 := ⟨hA.below_block b1, hE.keep (b1.block _ g2), by omega, by omega⟩
 go_upto_region 3 with (go_at_call 25; refine (open_new hd1 (by omega) a1).mono ?_; rintro e w2 ⟨j, rfl, h2, o2, a2, b2⟩)
 go_upto_region 5 with (first
  | (go_at_call 19; refine (h2.recs [] rfl).mono ?_; rintro e w3 ⟨ao3, c3, rfl, h3, b3⟩)
  | (go_at_call 20; refine (h2.keep b3).room.mono ?_; rintro e w4 ⟨rfl, b4⟩))
 have hgl : ∀ {W W' : World}, Below W.heap.size W W' → W.heap.size ≤ W'.heap.size := fun h => h.size
 refine wp_world (fun W => Good W w1.heap.size j D (newDk 200) ⟨[], z32, 0, false⟩ 200 200 ∧ Ambs a D W ∧ Below w.heap.size w W) ⟨(h2.keep b3).keep b4, (a2.keep' b3).keep' b4, by
  have b02 : Below w.heap.size w w2 := by rw [← hDB] at b1 ⊢; exact b1.trans b2
  have k2 := b02.size
  have k3 := b3.size
  exact (b02.trans (b3.mono k2)).trans (b4.mono (Nat.le_trans k2 k3))⟩ ?_
 clear b4 b3 h3 b2 o2 h2 a2 hN
 rintro W5 ⟨h5, a5, b5⟩
 have hS5 := strs_new W5 [(⟨#[97, 98]⟩ : ByteArray), ⟨#[]⟩] 9
 have k5 := below_alloc (Below.refl W5.heap.size W5) (.cells #[.string ⟨#[97, 98]⟩, .string ⟨#[]⟩] 9)
 have hap1 := (h5.keep k5).app_ok rfl (a5.keep' k5) hS5 (by simp) (by intro s hs; simp at hs; rcases hs with rfl | rfl <;> decide) 70 ((stored_len _ _).trans len_ab) (by omega)
 go_upto_region 6 with (go_at_call 10; refine hap1.mono ?_; rintro e w6 ⟨dk6, jr6, rfl, h6, r6, l6, o6, a6, b6⟩)
 have hBw : D.B ≤ w.heap.size := by omega
 refine wp_world (fun W => Good W w1.heap.size j D dk6 jr6 130 200 ∧ Ambs a D W ∧ Below w.heap.size w W) ⟨h6, a6, by rw [← hDB] at b5 ⊢; exact (b5.trans (k5.mono (by have := b5.size; omega))).trans b6⟩ ?_
 clear b6 o6 h6 a6 hap1 k5 hS5 b5 a5 h5
 rintro W6 ⟨h6, a6, b6⟩
 have hmk96 : ∀ w, (Instr.makeSlice 39 (.int .i64 96) (.int .i64 96)).run Tryz.prog w = .ok (.slice (some ⟨w.heap.size, 0, none⟩) 96 96) (w.alloc (.cells (bv (zeros 96)).toArray 5)) := run_make_bytes 96 (by omega)
 have hmk95 : ∀ w, (Instr.makeSlice 39 (.int .i64 95) (.int .i64 95)).run Tryz.prog w = .ok (.slice (some ⟨w.heap.size, 0, none⟩) 95 95) (w.alloc (.cells (bv (zeros 95)).toArray 5)) := run_make_bytes 95 (by omega)
 have e96 : (Code.enc ((96 : Nat) : Int)).length = 2 := by decide +kernel
 have e95 : (Code.enc ((95 : Nat) : Int)).length = 2 := by decide +kernel
 have l96 := len_z 96 2 e96
 have l95 := len_z 95 2 e95
 have z96 : (ofB (zeros 96)).size = 96 := by rw [size_ofB (zeros_lt 96), zeros_length]
 have z95 : (ofB (zeros 95)).size = 95 := by rw [size_ofB (zeros_lt 95), zeros_length]
 have cv96 := fun W => conv_zeros 96 W
 have cv95 := fun W => conv_zeros 95 W
 generalize ofB (zeros 96) = Z96 at l96 z96 cv96
 generalize ofB (zeros 95) = Z95 at l95 z95 cv95
 have hcv96 := cv96 W6
 have sz6 : ∀ (W : World) (X : Obj), (W.alloc X).heap.size = W.heap.size + 1 := fun W X => by simp
 have k6 := below_alloc (Below.refl W6.heap.size W6) (.cells (bv (zeros 96)).toArray 5)
 have hS6 := strs_new (W6.alloc (.cells (bv (zeros 96)).toArray 5)) [Z96] 9
 have k6' := below_alloc (Below.refl (W6.alloc (.cells (bv (zeros 96)).toArray 5)).heap.size (W6.alloc (.cells (bv (zeros 96)).toArray 5))) (.cells #[.string Z96] 9)
 have hap2 := ((h6.keep k6).keep k6').app_full l6 ((a6.keep' k6).keep' k6') hS6 (by simp) (by intro s hs; simp at hs; subst hs; omega) (by rw [stored_len, l96]; omega)
 rw [sz6] at hap2
 have B6 : Below w.heap.size w ((W6.alloc (.cells (bv (zeros 96)).toArray 5)).alloc (.cells #[.string Z96] 9)) := (b6.trans (k6.mono b6.size)).trans (k6'.mono (by rw [sz6]; have := b6.size; omega))
 clear l96 e96 z96 cv96
 go_upto_region 7 with (go_at_call 10; refine hap2.mono ?_; rintro e w7 ⟨rfl, h7, o7, a7, b7⟩)
 have B7 : Below w.heap.size w w7 := by rw [← hDB] at B6 ⊢; exact B6.trans b7
 go_upto_region 8 with (go_at_call 20; refine h7.room.mono ?_; rintro e w8 ⟨rfl, b8⟩)
 refine wp_world (fun W => Good W w1.heap.size j D dk6 jr6 130 200 ∧ Ambs a D W ∧ Below w.heap.size w W) ⟨h7.keep b8, a7.keep' b8, B7.trans (b8.mono B7.size)⟩ ?_
 clear b8 B7 b7 o7 h7 a7 B6 hap2 k6' hS6 k6 hcv96 h6 a6 b6 hmk96
 rintro W8 ⟨h8, a8, b8⟩
 have hcv95 := cv95 W8
 have k8 := below_alloc (Below.refl W8.heap.size W8) (.cells (bv (zeros 95)).toArray 5)
 have hS8 := strs_new (W8.alloc (.cells (bv (zeros 95)).toArray 5)) [Z95] 9
 have k8' := below_alloc (Below.refl (W8.alloc (.cells (bv (zeros 95)).toArray 5)).heap.size (W8.alloc (.cells (bv (zeros 95)).toArray 5))) (.cells #[.string Z95] 9)
 have hap3 := ((h8.keep k8).keep k8').app_ok l6 ((a8.keep' k8).keep' k8') hS8 (by simp) (by intro s hs; simp at hs; subst hs; omega) 130 (by rw [stored_len, l95]) (by omega)
 rw [sz6] at hap3
 have B8 : Below w.heap.size w ((W8.alloc (.cells (bv (zeros 95)).toArray 5)).alloc (.cells #[.string Z95] 9)) := (b8.trans (k8.mono b8.size)).trans (k8'.mono (by rw [sz6]; have := b8.size; omega))
 clear l95 e95 z95 cv95
 go_upto_region 9 with (go_at_call 10; refine hap3.mono ?_; rintro e w9 ⟨dk9, jr9, rfl, h9, r9, l9, o9, a9, b9⟩)
 have B9 : Below w.heap.size w w9 := by rw [← hDB] at B8 ⊢; exact B8.trans b9
 go_upto_region 10 with (go_at_call 25; refine (h9.open a9).mono ?_; rintro e w10 ⟨j2, rfl, h10, hj10, o10, a10, b10⟩)
 have B10 : Below w.heap.size w w10 := by rw [← hDB] at B9 ⊢; exact B9.trans b10
 refine wp_world (fun W => Good W w9.heap.size j2 D dk9 jr9 0 200 ∧ JrAt W w1.heap.size j D jr9 ∧ Ambs a D W ∧ Below w.heap.size w W) ⟨h10, hj10, a10, B10⟩ ?_
 clear B10 B9 B8 hap3 k8' hS8 k8 hcv95 h8 a8 b8 hmk95 h10 hj10 a10 b10 o10 h9 o9 a9 b9
 rintro W10 ⟨h10, hj10, a10, b10⟩
 obtain ⟨d12, t12, hw12, hof12, hdu12, hv12, hp12, hl12⟩ := write_two dk9 199 h10.fine.on l9 h10.dur h10.vis h10.fine.pend
 have hwr := write_calls h10.disk 0 ⟨#[2]⟩ (by rw [h10.fine.pend]; decide)
 rw [hw12] at hwr
 go_upto_region 13 with (go_at_call 13; refine hwr.mono ?_; rintro e w12 ⟨rfl, hd12, o12⟩)
 have hBw10 : D.B ≤ W10.heap.size := Nat.le_trans hBw b10.size
 have a12 := a10.keep (o12.below hBw10)
 have hop13 := jopen_calls hd12 a a12.amb a12.ambE (by rw [hp12]; decide)
 rw [openM_two d12 hof12 t12 hv12] at hop13
 go_upto_region 14 with (go_at_call 25; refine hop13.mono ?_; rintro e w13 ⟨hd13, o13, rfl⟩)
 have hj13 := (hj10.off o12 h10.disk).off o13 hd12
 have hk13 := (h10.jour.off o12 h10.disk).off o13 hd12
 have b13 : Below w.heap.size w w13 := by rw [← hDB] at b10 ⊢; exact (b10.trans (o12.below hBw10)).trans (o13.below (Nat.le_trans hBw10 o12.size))
 go_upto_region 15 with (go_at_call 25; refine (jopen_nil w13).mono ?_; rintro e w14 ⟨rfl, rfl⟩)
 have hR := room_calls hj13 hd13 (by have := h10.tot; omega)
 have hz : ((d12.dur.length : Int) - (jr9.size : Int)) = 0 := by have := h10.tot; omega
 rw [hz] at hR
 have hrr : jr9.records = [⟨#[97, 98]⟩, ⟨#[]⟩, Z95] := by rw [r9, r6]; rfl
 have hlen : jr9.records.length = 3 := by rw [hrr]; rfl
 have hrc : ∀ W, Below w14.heap.size w14 W → Calls Tryz.prog 19 #[.pointer (some ⟨j2, 0, none⟩)] W fun e w' => ∃ g c, e = .returned (.slice (some ⟨g, 0, none⟩) 3 c) ∧ w'.cell? ⟨g, 0, none⟩ = some (.string ⟨#[97, 98]⟩) ∧ Below W.heap.size W w' := by
  intro W hW
  refine (records_calls (hk13.keep hW) (by omega)).mono ?_
  rintro e w' ⟨v', rfl, ho, hb⟩
  rw [hrr] at ho
  obtain ⟨g, c, rfl, hc⟩ := own_head ho
  exact ⟨g, c, rfl, hc, hb⟩
 clear hk13 hj13 hrr r9 r6
 go_wp2_with (first
  | (go_at_call 20; refine hR.mono ?_; rintro e w15 ⟨rfl, b15⟩)
  | (go_at_call 19; refine (hrc _ b15).mono ?_; rintro e w16 ⟨g16, c16, rfl, hc16, b16⟩)
  | (go_at_call 19; refine (hrc _ (b15.trans (b16.mono b15.size))).mono ?_; rintro e w17 ⟨g17, c17, rfl, hc17, b17⟩))
 go_ret
 refine ⟨rfl, ?_⟩
 have c15 := b15.size
 have c16 := b16.size
 have c13 := b13.size
 exact (b13.trans (b15.mono c13)).trans ((b16.trans (b17.mono c16)).mono (Nat.le_trans c13 c15))
open Go Go.RowKit Go.Proofs.YtniegajdmbepbaaGreatDoorW.PrintWords Go.Proofs.YtniegajdmbepbaaGreatDoorW.PrintMore Go.Proofs.YtniegajdmbepbaaGreatDoor.Pl
theorem w64 (n : Int) (h : -9223372036854775808 ≤ n ∧ n ≤ 9223372036854775807) : wrap64 n = n := by unfold wrap64; omega
theorem tmod_range (a : Int) (n : Int) (h0 : 0 ≤ a) (hn : 0 < n) : 0 ≤ Int.tmod a n ∧ Int.tmod a n < n := by
 rw [Int.tmod_eq_emod_of_nonneg h0]
 exact ⟨Int.emod_nonneg _ (by omega), Int.emod_lt_of_pos _ hn⟩
theorem pick_f (a n : Int) (h1 : -9223372036854775808 ≤ a) (h2 : a ≤ 9223372036854775807) (hn : 0 < n) : ∃ k : Nat, clearwaylaw29_pick.f a n = some (k : Int) ∧ (k : Int) < n := by
 unfold clearwaylaw29_pick.f
 by_cases h : a < 0
 ·rw [if_pos h, if_neg (by omega)]
  have e : wrap64 (-(wrap64 (a + 1))) = -(a + 1) := by
   rw [w64 (a + 1) (by omega), w64 _ (by omega)]
  rw [e]
  obtain ⟨g1, g2⟩ := tmod_range (-(a + 1)) n (by omega) hn
  exact ⟨(Int.tmod (-(a + 1)) n).toNat, by rw [Int.toNat_of_nonneg g1], by rw [Int.toNat_of_nonneg g1]; exact g2⟩
 ·rw [if_neg h, if_neg (by omega)]
  obtain ⟨g1, g2⟩ := tmod_range a n (by omega) hn
  exact ⟨(Int.tmod a n).toNat, by rw [Int.toNat_of_nonneg g1], by rw [Int.toNat_of_nonneg g1]; exact g2⟩
theorem size_f (a : Int) (h1 : -9223372036854775808 ≤ a) (h2 : a ≤ 9223372036854775807) : ∃ N : Nat, clearwaylaw29_size.f a = some (N : Int) ∧ 1 ≤ N ∧ N ≤ 1500 := by
 obtain ⟨k, hk, hlt⟩ := pick_f a 1500 h1 h2 (by decide)
 refine ⟨k + 1, ?_, by omega, by omega⟩
 unfold clearwaylaw29_size.f
 rw [hk, Option.bind_some, w64 _ (by omega)]
 congr 1
 omega
theorem lawsize_calls (w : World) (a : Int) (N : Nat) (h : clearwaylaw29_size.f a = some (N : Int)) :
  Calls Tryz.prog 15 #[.int .i64 a] w fun e w' => e = .returned (.int .i64 (N : Int)) ∧ Below w.heap.size w w' :=
 (clearwaylaw29_size.calls a N w h).mono fun e w' ⟨h1, h2⟩ => ⟨h1, h2.below⟩
def cut100 (s : ByteArray) : ByteArray := s.extract 0 (min s.size 100)
def fewF (l : List ByteArray) : List ByteArray := (l.take 6).map cut100
theorem cut100_size (s : ByteArray) : (cut100 s).size ≤ 100 := by unfold cut100; rw [ByteArray.size_extract]; omega
theorem fewF_length (l : List ByteArray) : (fewF l).length ≤ 6 := by unfold fewF; rw [List.length_map, List.length_take]; omega
theorem fewF_size (l : List ByteArray) : ∀ s ∈ fewF l, s.size ≤ 100 := by
 intro s hs
 obtain ⟨x, _, rfl⟩ := List.mem_map.1 hs
 exact cut100_size x
theorem few_l0 (l : List ByteArray) : ∀ (k i : Nat) (acc : List ByteArray), i + k = 6 → acc.length = i → clearwaylaw29_few.l0 (k + 1) l acc (i : Int) = some (acc ++ ((l.take 6).drop i).map cut100) := by
 intro k
 induction k with
 | zero =>
  intro i acc hi ha
  rw [clearwaylaw29_few.l0]
  have hd : (l.take 6).drop i = [] := List.drop_eq_nil_of_le (by rw [List.length_take]; omega)
  rw [hd, List.map_nil, List.append_nil]
  by_cases h1 : (i : Int) < (l.length : Int)
  ·rw [if_pos h1, if_neg (by omega)]
  ·rw [if_neg h1]
 | succ k ih =>
  intro i acc hi ha
  rw [clearwaylaw29_few.l0]
  by_cases h1 : (i : Int) < (l.length : Int)
  ·have hl : i < l.length := by omega
   have hr : rdOf ByteArray.empty l (i : Int) = l[i] := by
    unfold rdOf
    rw [Int.toNat_natCast, List.getD_eq_getElem?_getD, List.getElem?_eq_getElem hl, Option.getD_some]
   have hm : mn ((l[i]).size : Int) 100 = ((min (l[i]).size 100 : Nat) : Int) := by
    unfold mn
    split <;> omega
   rw [if_pos h1, if_pos (by omega), if_pos (by omega), hr, hm, if_pos (by omega), if_pos (by omega), if_pos (by omega), w64 _ (by omega), Int.toNat_natCast]
   rw [show ((i : Int) + 1) = ((i + 1 : Nat) : Int) from rfl, ih (i + 1) _ (by omega) (by rw [List.length_append, ha]; rfl)]
   have hd : (l.take 6).drop i = l[i] :: (l.take 6).drop (i + 1) := by
    have h6 : i < (l.take 6).length := by rw [List.length_take]; omega
    rw [List.drop_eq_getElem_cons h6, List.getElem_take]
   rw [hd, List.map_cons, List.append_assoc]
   rfl
  ·have hd : (l.take 6).drop i = [] := List.drop_eq_nil_of_le (by rw [List.length_take]; omega)
   rw [if_neg h1, hd, List.map_nil, List.append_nil]
theorem few_f (l : List ByteArray) : clearwaylaw29_few.f 7 l = some (fewF l) := by
 have := few_l0 l 6 0 [] rfl rfl
 exact this
theorem strs_R {w : World} {base : Nat} {ok : Nat → Prop} {v : Value} {l : List ByteArray} (h : Kd.R Kd.string 9 w base ok v l) : Strs w v l := by
 have h1 := Kd.own_of_R h
 obtain ⟨ao, c, rfl⟩ := own_form h1
 refine ⟨ao, c, rfl, ?_⟩
 rcases h1.2 with ⟨_, h0⟩ | ⟨g, cap, cur, he, hb, hg, r⟩
 ·exact .inl (List.eq_nil_of_length_eq_zero h0)
 ·injection he with e1 e2 e3
  refine .inr ⟨g, 0, e1, (Array.getElem?_eq_some_iff.1 hg).1, fun j s hs => ?_⟩
  subst e1
  have := h1.cells (g := g) rfl j (.string s) (by unfold encs; rw [List.getElem?_map, hs]; rfl)
  rw [Nat.zero_add]
  cases j <;> simpa [Addr.add] using this
theorem few_calls (w : World) (A : Option Addr) (c : Nat) (l : List ByteArray) (h : Kd.C Kd.string w A l.length l) (hc : l.length ≤ c) :
  Calls Tryz.prog 11 #[.slice A l.length c] w fun e w' => ∃ v, e = .returned v ∧ Kd.R Kd.string 9 w' w.heap.size (fun _ => True) v (fewF l) ∧ Strs w' v (fewF l) ∧ Below w.heap.size w w' := by
 refine (clearwaylaw29_few.calls 7 A c l _ w h hc (few_f l)).mono ?_
 rintro e w' ⟨v, rfl, hr, hb⟩
 exact ⟨v, rfl, hr, strs_R hr, hb⟩
theorem own_C {w : World} {base : Nat} {v : Value} {l : List ByteArray} (h : w.ownsRow base 9 1 v l.length (l.map Value.string)) : ∃ A c, v = .slice A l.length c ∧ l.length ≤ c ∧ Kd.C Kd.string w A l.length l :=
 Kd.R_reads (Kd.R_of_own (h1 := fun _ => rfl) (ok := fun _ => True) h (fun _ _ => trivial))
set_option maxRecDepth 100000 in
theorem content_calls {w : World} {D : Dsk} {dk : Dk} (h : DiskAt w D dk) (ho : dk.off = false) :
  Calls Tryz.prog 22 #[.pointer (some ⟨D.d, 0, none⟩)] w fun e w' => e = .returned (.string (ofB dk.vis)) ∧ w' = w := by
 have hS := size_calls h
 have hR := read_calls h
 rw [ho, if_neg (by decide), if_neg (by decide)] at hR
 go_enter Tryz.func22, Tryz.ntmps22
 go_wp2_with (first
  | (go_at_call 51; refine hS.mono ?_; rintro e w1 ⟨rfl, rfl⟩)
  | (go_at_call 52; refine hR.mono ?_; rintro e w2 ⟨rfl, rfl⟩))
 go_ret
 exact ⟨rfl, rfl⟩
set_option maxRecDepth 100000 in
theorem append_nil (w : World) (v : Value) {l : List ByteArray} (hv : Strs w v l) : Calls Tryz.prog 10 #[.pointer none, v] w fun e w' => e = .returned (.int .i64 1) ∧ Below w.heap.size w w' := by
 obtain ⟨A, c, rfl, _⟩ := hv
 go_enter Tryz.func10, Tryz.ntmps10
 go_wp2_with fail
 go_ret
 exact ⟨rfl, Below.refl _ _⟩
open Go Go.RowKit Go.Proofs.YtniegajdmbepbaaGreatDoorW.PrintWords Go.Proofs.YtniegajdmbepbaaGreatDoorW.PrintMore Go.Proofs.YtniegajdmbepbaaGreatDoor.Pl
theorem own_below {w W : World} {base n : Nat} {v : Value} {xs : List Value} (h : w.ownsRow base 9 1 v n xs) (k : Below w.heap.size w W) : W.ownsRow base 9 1 v n xs :=
  own_keep h fun g hg => k.block g (h.lt g hg).2
end Go.Proofs.YtniegajdmbepbaaGreatDoor.Jm
