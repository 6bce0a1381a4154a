/- The reference's journal: the walk of Append. Condition: at most 6 records of at most 100 bytes. The journal and its reference, each on its disk: the two side by side; world.open. Condition: fewer than 1,000,000 changes. The journal and its reference: world.open opens both. Condition: fewer than 1,000,000 changes. The journal and its reference: begin makes both. Condition: the size's number is one of 64 bits. JournalOpensAnything: the regions whose order is open. Condition: none. The journal and its reference between two calls: what each call does to the state of both. Condition: none. JournalOpensAnything: the law's function returns true. Condition: none. -/
import Derived.Test.YtniegajdmbepbaaGreatDoorKJournalOpensAnything35
import Derived.Deep.LoopGhost
import Derived.Lib.Hide
namespace Go.Proofs.YtniegajdmbepbaaGreatDoor.Sx36
open Go Go.RowKit Go.Proofs.YtniegajdmbepbaaGreatDoorW.PrintWords Go.Proofs.YtniegajdmbepbaaGreatDoorW.PrintLast
def b (n k : Nat) : Array Bool := ((List.range n).map fun i => k.testBit i).toArray
theorem p {P : Program} {ops : Array Oper} {Q : Exit → Act → World → Prop} {md : Region.Mode} {S : World → Prop} {ds : List Nat} {i : Nat} {N : Option Tmp} {oi : Oper} {v : Value} {fuel : Nat} {l : Array Bool} {a : Act} {w : World} {T : Bool × List (List Nat × List Nat)} (hT : rtab md ops = T) (l' : Array Bool)
    {a' : Act} (h : wpAnyLast P md ops Q S ds fuel l' a' w) (hi : ops[i]? = some oi := by rfl) (hN : oi.dst = N := by rfl) (hc : anyT T l.toList l'.toList i = true := by kernel_rfl)
    (hQ : ∀ c a w, Q (.panic c) (a.put oi.dst v) w → Q (.panic c) a w := by exact fun _ _ _ h => h) (hy : Yields P ops oi v a := by (refine Or.inl ⟨by rfl, ?_⟩; intro w'; go_simp; with_reducible rfl)) (ha : a.put N v = a' := by (simp only [Act.put, List.setIfInBounds_toArray, List.set_cons_zero, List.set_cons_succ, i64_w, i32_w]; rfl)) :
    wpAnyLast P md ops Q S ds (fuel + 1) l a w := pure_ l' hi hN (any_of hT hc) hQ hy ha h
end Go.Proofs.YtniegajdmbepbaaGreatDoor.Sx36
open Go.Proofs.YtniegajdmbepbaaGreatDoor
set_option linter.unusedVariables false
set_option linter.unusedSimpArgs false
namespace Go.Proofs.YtniegajdmbepbaaGreatDoor.Jm
open Go Go.RowKit Go.Shelf Go.Proofs.YtniegajdmbepbaaGreatDoorW.PrintWords Go.Proofs.YtniegajdmbepbaaGreatDoorW.PrintMore Go.Proofs.YtniegajdmbepbaaGreatDoor.Pr Go.Proofs.YtniegajdmbepbaaGreatDoor.WPure

theorem KAt.setAll {w : World} {B b q r n : Nat} {rs rs' : List ByteArray} {br : Bool} {lv lv' : Value} (h : KAt w B q r rs n br lv) (hb : B ≤ b) (hown : w.ownsRow b 9 1 lv' rs'.length (rs'.map Value.string)) : KAt (w.setCell ⟨q, 1, none⟩ lv') B q r rs' n br lv' := by
  have hc := But.setCell q 1 w lv'
  have h2 := set_blk h.blk (j := 1) lv'
  refine ⟨by simpa using h2, ?_, h.hq, h.hr⟩
  exact own_keep (own_mono hown hb) fun g hg => by
    obtain ⟨cs, hcs⟩ := own_block hown hg
    exact hc.block _ (hown.lt g hg).2 (cells_ne hcs h.blk (by decide))
theorem stored_ge : ∀ (l : List ByteArray) (h : ByteArray), l.length ≤ (stored chF h l).length
  | [], h => Nat.le_refl _
  | r :: rs, h => by
    show rs.length + 1 ≤ (recB chF h r ++ stored chF (chF h r) rs).length
    have := stored_ge rs (chF h r)
    rw [List.length_append, recB_length chF chF_size]
    omega
set_option maxRecDepth 100000 in
set_option maxHeartbeats 16000000 in
theorem refappend_calls {w : World} {Bj B q r bl0 : Nat} {Z : Nat → Prop} {dk : Dk} {jr : Jr} {v : Value} {l : List ByteArray} (hj : RefJ w Bj q r jr) (hd : RefAt w B r Z dk) (hl : w.ownsRow bl0 9 1 v l.length (l.map Value.string))
    (hsz : jr.size ≤ 1000000) (hn : l.length ≤ 6) (hs : ∀ s ∈ l, s.size ≤ 100) (hf : dk.pend.length + 4 ≤ 1000000) (hZ : ∀ k, Z k → k < w.heap.size) :
    Calls Tryz.prog 12 #[.pointer (some ⟨q, 0, none⟩), v] w fun e w' =>
      e = .returned (.int .i64 (appendM chF dk jr l).2.2) ∧ RefAt w' B r Z (appendM chF dk jr l).1 ∧ RefJ w' Bj q r (appendM chF dk jr l).2.1 ∧ Rj B r q w w' := by
  obtain ⟨⟨lv, hk⟩, hjh, hjs, hjl⟩ := hj
  have c3 := hk.cell3
  cases hbr : jr.broken with
  | true =>
    rw [appendM_broken dk jr l hbr]
    rw [hbr] at c3
    go_enter Tryz.func12, Tryz.ntmps12
    go_wp2_with fail
    go_ret
    exact ⟨rfl, hd, ⟨⟨lv, hk⟩, hjh, hjs, hjl⟩, Rj.refl _ _ _ _⟩
  | false =>
    rw [hbr] at c3
    have hlong : l.any (fun s => decide (65536 < s.size)) = false := by
      rw [List.any_eq_false]
      intro s hs'
      have := hs s hs'
      simp
      omega
    have hrl : jr.records.length ≤ 1000000 := by omega
    obtain ⟨A, ca, hlv, hca, hC⟩ := own_C hk.own
    have hH := fun W (hb : Below w.heap.size w W) => Dm.clearwayref02_Head.calls (70001 + jr.records.length) A ca jr.records (headOf chF z32 jr.records) W (by obtain ⟨A2, c2, e2, h3, h4⟩ := own_C (own_below hk.own hb); rw [hlv] at e2; injection e2 with e3 _ _; rw [e3]; exact h4) hca (rhead_f jr.records hjs hrl)
    have c1 := hk.cell1
    rw [hlv] at c1
    have hhd : jr.head.size = 32 := by rw [hjh]; exact headOf_size z32 z32_size _
    have hbd := fun i => stored_bound 100 (by decide) (l.take i) jr.head (fun s hs' => hs s (List.mem_of_mem_take hs'))
    have hlt := fun i => stored_lt chF (l.take i) jr.head
    obtain ⟨ao, cc, rfl⟩ := own_form hl
    rw [← hjh] at hH
    have hH0 := hH w (Below.refl _ _)
    clear hH hC hlv
    go_enter Tryz.func12, Tryz.ntmps12
    go_wp2_with (go_at_call 43; refine hH0.mono ?_; rintro e w1 ⟨rfl, hb1⟩)
    go_loopg [5, 6, 7, 8, 9] (l.length) (fun k v5 v6 v7 v8 v9 wr => ∃ i : Nat, v5 = .string (ofB (stored chF jr.head (l.take i))) ∧ v6 = .string (headOf chF jr.head (l.take i)) ∧ v7 = .int .i64 (i : Int) ∧ i + k = l.length ∧ Below w.heap.size w wr)
    case atStart => exact ⟨0, rfl, by rw [hjh]; rfl, rfl, Nat.zero_add _, hb1⟩
    case round =>
      obtain ⟨i, rfl, rfl, rfl, hik, bI⟩ := hrel
      clear hH0 hb1 c3 c1
      by_cases hi : i < l.length
      · have x1 : ((i : Int) < (l.length : Int)) = True := eq_true (by omega)
        have x2 : decide ((i : Int) < (l.length : Int)) = true := decide_eq_true (by omega)
        have x3 : (i < l.length) = True := eq_true hi
        have hn1 : IntKind.i64.wrap ((i : Int) + 1) = ((i + 1 : Nat) : Int) := by rw [IntKind.wrap_i64]; omega
        obtain ⟨x, hx⟩ : ∃ x, l[i]? = some x := ⟨_, List.getElem?_eq_getElem hi⟩
        have hxs := hs x (List.mem_of_getElem? hx)
        have hlr := own_below hl bI
        rcases id hlr.2 with ⟨_, h0⟩ | ⟨g, cap, cur, hv, hg0, hgh, _⟩
        · omega
        injection hv with e1 _ e3
        subst e1
        subst e3
        have hcx : wr.cell? ⟨g, i, none⟩ = some (.string x) := by
          have := hlr.cells (g := g) rfl i (.string x) (by rw [List.getElem?_map, hx]; rfl)
          cases i <;> simpa [Addr.add] using this
        have htk : l.take (i + 1) = l.take i ++ [x] := by rw [List.take_add_one, hx]; rfl
        have hO1 : stored chF jr.head (l.take (i + 1)) = stored chF jr.head (l.take i) ++ recB chF (headOf chF jr.head (l.take i)) x := by
          rw [htk, stored_append]
          show _ ++ (recB chF _ x ++ []) = _
          rw [List.append_nil]
        have hH1 : headOf chF jr.head (l.take (i + 1)) = chF (headOf chF jr.head (l.take i)) x := by rw [htk]; unfold headOf; rw [List.foldl_append]; rfl
        have hl1 := hlt (i + 1)
        have hl0 := hlt i
        rw [hO1] at hl1
        have hl2 : ∀ b ∈ recB chF (headOf chF jr.head (l.take i)) x, b < 256 := fun b hb => hl1 b (List.mem_append_right _ hb)
        have hO2 : ofB (stored chF jr.head (l.take (i + 1))) = ofB (stored chF jr.head (l.take i)) ++ ofB (recB chF (headOf chF jr.head (l.take i)) x) := by
          apply bl_inj
          rw [bl_append, bl_ofB (by rw [hO1]; exact hl1), bl_ofB hl0, bl_ofB hl2, hO1]
        have hSt := fun W => Rw.clearwayref29_Stored.calls 70000 (headOf chF jr.head (l.take i)) x _ _ W (rstored_f (headOf chF jr.head (l.take i)) x (headOf_size _ hhd _) (by omega))
        have b0 := hbd i
        have b1 := hbd (i + 1)
        have t0 : (l.take i).length ≤ 6 := by rw [List.length_take]; omega
        have t1 : (l.take (i + 1)).length ≤ 6 := by rw [List.length_take]; omega
        have s0 : (ofB (stored chF jr.head (l.take i))).size ≤ 2000 := by rw [size_ofB hl0]; omega
        have s1 : (ofB (recB chF (headOf chF jr.head (l.take i)) x)).size ≤ 2000 := by
          rw [hO1, List.length_append] at b1
          rw [size_ofB hl2]
          omega
        obtain ⟨Y, hY⟩ : ∃ Y, ofB (recB chF (headOf chF jr.head (l.take i)) x) = Y := ⟨_, rfl⟩
        obtain ⟨hh1, e1⟩ : ∃ h, chF (headOf chF jr.head (l.take i)) x = h := ⟨_, rfl⟩
        obtain ⟨hh0, e0⟩ : ∃ h, headOf chF jr.head (l.take i) = h := ⟨_, rfl⟩
        obtain ⟨out0, eo⟩ : ∃ o, ofB (stored chF jr.head (l.take i)) = o := ⟨_, rfl⟩
        rw [hY, e1, e0] at hSt
        rw [hY] at hO2 s1
        rw [e1] at hH1
        rw [eo] at hO2 s0
        rw [e0, eo]
        have HO := Lib.hid hO2
        have HH := Lib.hid hH1
        clear hO2 hH1 hl2 hl1 hl0 hO1 b0 b1 t0 t1 htk hY e1 e0 eo hx hs hlt hbd hlong hjh hjs hhd
        have cc : (9223372036854775807 < out0.size + Y.size) = False := eq_false (by omega)
        have cs : (65536 < x.size) = False := eq_false (by omega)
        have cs2 : decide ((65536 : Int) < (x.size : Int)) = false := decide_eq_false (by omega)
        go_wp2_with (go_at_call 44; refine (hSt _).mono ?_; rintro e w3 ⟨rfl, hb3⟩)
        go_roundg (l.length - (i + 1))
        case measure => omega
        case rel => exact ⟨i + 1, by rw [HO.out], by rw [HH.out], rfl, by omega, bI.trans (hb3.mono bI.size)⟩
      · have hie : i = l.length := by omega
        subst hie
        rw [List.take_length]
        have x1 : ((l.length : Int) < (l.length : Int)) = False := eq_false (by omega)
        have x2 : decide ((l.length : Int) < (l.length : Int)) = false := decide_eq_false (by omega)
        have hkw := hk.keep bI
        have hdw := hd.keep bI
        have hsm : dk.dur.length ≤ 4194304 := let ⟨_, _, _, h, _⟩ := hd; h.small
        have hroom := refroom_calls hkw hdw (by omega)
        obtain ⟨S, hS⟩ : ∃ S, stored chF jr.head l = S := ⟨_, rfl⟩
        have hSge : l.length ≤ S.length := by rw [← hS]; exact stored_ge l jr.head
        have hSlt : ∀ b ∈ S, b < 256 := by rw [← hS]; exact stored_lt chF _ _
        have hSl : S.length ≤ 2000 := by have := hbd l.length; rw [List.take_length, hS] at this; omega
        obtain ⟨out, ho⟩ : ∃ out, ofB S = out := ⟨_, rfl⟩
        have hos : out.size = S.length := by rw [← ho]; exact size_ofB hSlt
        have hosA : out.size ≤ S.length := by omega
        have hosB : S.length ≤ out.size := by omega
        clear hos
        have hfull := appendM_full dk jr l hbr hlong
        have hnone := appendM_none dk jr l hbr hlong
        have hwr := appendM_write dk jr l hbr hlong
        rw [hS] at hfull hnone hwr
        rw [hS, ho]
        have HF := Lib.hid hfull
        have HN := Lib.hid hnone
        have HW := Lib.hid hwr
        clear hfull hnone hwr hbd hlt hlong hhd
        have hq0 : q < wr.heap.size := hkw.lt
        by_cases hfl : dk.dur.length < jr.size + S.length
        · have y1 : decide ((dk.dur.length : Int) - (jr.size : Int) < (out.size : Int)) = true := decide_eq_true (by omega)
          have y2 : ((dk.dur.length : Int) - (jr.size : Int) < (out.size : Int)) = True := eq_true (by omega)
          clear hS ho
          go_wp2_with (go_at_call 21; refine hroom.mono ?_; rintro e w5 ⟨rfl, hb5⟩)
          go_ret
          rw [HF.out hfl]
          exact ⟨rfl, hdw.keep hb5, ⟨⟨lv, hkw.keep hb5⟩, hjh, hjs, hjl⟩, (Rj.of_roff (ROff.of_below bI)).trans (Rj.of_roff (ROff.of_below hb5))⟩
        · have y1 : decide ((dk.dur.length : Int) - (jr.size : Int) < (out.size : Int)) = false := decide_eq_false (by omega)
          have y2 : ((dk.dur.length : Int) - (jr.size : Int) < (out.size : Int)) = False := eq_false (by omega)
          by_cases hSn : S = []
          · have ho0 : out = ⟨#[]⟩ := by rw [← ho, hSn]; rfl
            subst ho0
            clear hS ho
            go_wp2_with (go_at_call 21; refine hroom.mono ?_; rintro e w5 ⟨rfl, hb5⟩)
            all_goals
              go_ret
              rw [HN.out hfl hSn]
              exact ⟨rfl, hdw.keep hb5, ⟨⟨lv, hkw.keep hb5⟩, hjh, hjs, hjl⟩, (Rj.of_roff (ROff.of_below bI)).trans (Rj.of_roff (ROff.of_below hb5))⟩
          · have hpos : 1 ≤ S.length := by cases S with | nil => exact absurd rfl hSn | cons a b => simp
            have hne : out.toList ≠ [] := by
              intro h
              have h2 := nl_toList (s := out) (t := ⟨#[]⟩) |>.1 (by rw [h, ByteArray.toList, ByteArray.toList.loop, if_neg (by decide)]; rfl)
              rw [h2] at hosB
              have : (⟨#[]⟩ : ByteArray).size = 0 := rfl
              omega
            have z1 : (out.toList = []) = False := eq_false hne
            have z2 : out.toList.isEmpty = false := by rw [Bool.eq_false_iff]; intro h; exact hne (List.isEmpty_iff.1 h)
            have z3 : (!out.toList.isEmpty) = true := by rw [z2]; rfl
            have z4 : (out.toList == []) = false := beq_eq_false_iff_ne.mpr hne
            obtain ⟨hx1, hx2⟩ := ofB_extract_one S hSlt
            rw [ho] at hx1 hx2
            obtain ⟨ot, hot⟩ : ∃ ot, ofB S.tail = ot := ⟨_, rfl⟩
            obtain ⟨oh, hoh⟩ : ∃ oh, ofB (S.take 1) = oh := ⟨_, rfl⟩
            have hots : ot.size ≤ 2000 := by rw [← hot, size_ofB (fun b hb => hSlt b (List.mem_of_mem_tail hb)), List.length_tail]; omega
            have hohs : oh.size ≤ 2000 := by rw [← hoh, size_ofB (fun b hb => hSlt b (List.mem_of_mem_take hb)), List.length_take]; omega
            rw [hot] at hx1
            rw [hoh] at hx2
            obtain ⟨D1, hD1⟩ : ∃ D, dk.write ((jr.size + 1 : Nat) : Int) ot = D := ⟨_, rfl⟩
            obtain ⟨d1, e1⟩ := D1
            obtain ⟨D2, hD2⟩ : ∃ D, d1.sync = D := ⟨_, rfl⟩
            obtain ⟨d2, e2⟩ := D2
            obtain ⟨D3, hD3⟩ : ∃ D, d2.write (jr.size : Int) oh = D := ⟨_, rfl⟩
            obtain ⟨d3, e3⟩ := D3
            obtain ⟨D4, hD4⟩ : ∃ D, d3.sync = D := ⟨_, rfl⟩
            obtain ⟨d4, e4⟩ := D4
            have hrun := run4 dk d1 d2 d3 d4 (jr.size + 1) jr.size ot oh e1 e2 e3 e4 hD1 hD2 hD3 hD4
            rw [← hot, ← hoh] at hrun
            have hR := HW.out hfl hSn _ hrun
            have p1 := write_pend hD1
            have p2 := sync_pend hD2
            have p3 := write_pend hD3
            have HR := Lib.hid hR
            clear hR hrun HF HN HW hot hoh hS ho hfl
            have hkc := fun (W : World) (hb : Below wr.heap.size wr W) => hkw.keep hb
            have ho1 : ((1 : Int) ≤ (out.size : Int)) = True := eq_true (by omega)
            have ho2 : (1 ≤ out.size) = True := eq_true (by omega)
            go_wp2_with (go_at_call 21; refine hroom.mono ?_; rintro e w5 ⟨rfl, hb5⟩)
            have hk5 := hkw.keep hb5
            have hd5 := hdw.keep hb5
            have O5 : Rj B r q w w5 := (Rj.of_roff (ROff.of_below bI)).trans (Rj.of_roff (ROff.of_below hb5))
            have hl5 := own_below (own_below hl bI) hb5
            have hZ5 : ∀ k, Z k → k < w5.heap.size := fun k hk => Nat.lt_of_lt_of_le (hZ k hk) (Nat.le_trans bI.size hb5.size)
            have hB5 : Bj ≤ w5.heap.size := Nat.le_trans hk5.hq (Nat.le_of_lt hk5.lt)
            clear hkw hdw hroom hkc hb5 bI z1 z2 z3 z4 y1 y2 hq0 hne x1 x2 hd hk hl hZ hSn
            refine Sha.norm_wp ?_
            refine rap_r17 _ w5 w5 _ _ _ _ _ _ _ _ _ _ _ _ _ _ _ _ _ _ _ _ _ _ _ _ _ _ _ _ _ _ _ _ _ _ _ _ _ _ _ _ _ _ _ _ _ _ _ _ _ _ _ _ _ _ _ _ _ _ _ _ _ _ _ _ _ _ _ _ _ _ _ _ _ _ _ _ _ _ _ _ _ _ _ _ _ _ _ _ _ _ _ _ _ _ _ _ _ _ _ _ _ _ _ _ _ _ _ _ _ _ _ _ _ _ _ _ _ _ q r jr.size (jr.size + 1) e1 out (fun W' => RefAt W' B r Z d1 ∧ ROff B r w5 W') hk5.lt hk5.cell0 hk5.cell2 (by rw [IntKind.wrap_i64]; omega) (by unfold wrap64; omega) ho1 ho2
              (fun V hV => by
                have := refwrite_calls (hd5.keep hV) ((jr.size + 1 : Nat) : Int) ot (by omega) (by omega) (by omega)
                rw [hD1] at this
                rw [hx1]
                exact this.mono (fun e w' h => ⟨h.1, h.2.1, (ROff.of_below hV).trans h.2.2⟩)) (Below.refl _ _) ?_
            intro z53 z54 z55 z56 z57 z58 z59 z60 z61 z62 z63 z64 W1 ⟨hd1, o1⟩
            have hk1 := hk5.roff o1
            have hl1 := own_roff hl5 o1 hd5
            have O1 := O5.trans (Rj.of_roff o1)
            have hZ1 : ∀ k, Z k → k < W1.heap.size := fun k hk => Nat.lt_of_lt_of_le (hZ5 k hk) o1.size
            clear hl5 O5 hZ5 hD1 hd5 hk5 o1
            have c1 := hk1.cell0
            have c3 := hk1.cell3
            have f3 := hk1.frozen 3
            by_cases h1 : e1 = 0
            · subst h1
              have hS1 := refsync_calls hd1 hZ1
              rw [hD2] at hS1
              go_upto_region 20 with (go_at_call 45; refine hS1.mono ?_; rintro e W2 ⟨rfl, hd2, o2⟩)
              have hk2 := hk1.roff o2
              have hl2 := own_roff hl1 o2 hd1
              have O2 := O1.trans (Rj.of_roff o2)
              have hZ2 : ∀ k, Z k → k < W2.heap.size := fun k hk => Nat.lt_of_lt_of_le (hZ1 k hk) o2.size
              clear hl1 O1 hZ1 hD2 hd1 hk1 o2 hS1 c1 c3 f3
              have c1 := hk2.cell0
              have c3 := hk2.cell3
              have f3 := hk2.frozen 3
              by_cases h2 : e2 = 0
              · subst h2
                go_upto_region 21 with (fail)
                refine Sha.norm_wp ?_
                refine rap_r21 _ W2 W2 _ _ _ _ _ _ _ _ _ _ _ _ _ _ _ _ _ _ _ _ _ _ _ _ _ _ _ _ _ _ _ _ _ _ _ _ _ _ _ _ _ _ _ _ _ _ _ _ _ _ _ _ _ _ _ _ _ _ _ _ _ _ _ _ _ _ _ _ _ _ _ _ _ _ _ _ _ _ _ _ _ _ _ _ _ _ _ _ _ _ _ _ _ _ _ _ _ _ _ _ _ _ _ _ _ _ _ _ _ _ _ _ _ _ _ _ _ _ q r jr.size (jr.size + 1) e3 out (fun W' => RefAt W' B r Z d3 ∧ ROff B r W2 W') hk2.lt hk2.cell0 hk2.cell2 (by rw [IntKind.wrap_i64]; omega) (by unfold wrap64; omega) ho1 ho2
                  (fun V hV => by
                    have := refwrite_calls (hd2.keep hV) (jr.size : Int) oh (by omega) (by omega) (by omega)
                    rw [hD3] at this
                    rw [hx2]
                    exact this.mono (fun e w' h => ⟨h.1, h.2.1, (ROff.of_below hV).trans h.2.2⟩)) (Below.refl _ _) ?_
                intro z74 z75 z76 z77 z78 z79 z80 z81 z82 z83 z84 W3 ⟨hd3, o3⟩
                have hk3 := hk2.roff o3
                have hl3 := own_roff hl2 o3 hd2
                have O3 := O2.trans (Rj.of_roff o3)
                have hZ3 : ∀ k, Z k → k < W3.heap.size := fun k hk => Nat.lt_of_lt_of_le (hZ2 k hk) o3.size
                clear hl2 O2 hZ2 hD3 hd2 hk2 o3 c1 c3 f3
                have c1 := hk3.cell0
                have c3 := hk3.cell3
                have f3 := hk3.frozen 3
                by_cases h3 : e3 = 0
                · subst h3
                  have hS3 := refsync_calls hd3 hZ3
                  rw [hD4] at hS3
                  go_upto_region 24 with (go_at_call 45; refine hS3.mono ?_; rintro e W4 ⟨rfl, hd4, o4⟩)
                  have hk4 := hk3.roff o4
                  have hl4 := own_roff hl3 o4 hd3
                  have O4 := O3.trans (Rj.of_roff o4)
                  clear hl3 O3 hZ3 hD4 hd3 hk3 o4 hS3 c1 c3 f3
                  have c1 := hk4.cell1
                  have c2 := hk4.cell2
                  have c3 := hk4.cell3
                  have f3 := hk4.frozen 3
                  by_cases h4 : e4 = 0
                  · subst h4
                    have hHR := HR.out
                    simp only [if_true] at hHR
                    have hsum : IntKind.i64.wrap ((jr.size : Int) + (out.size : Int)) = ((jr.size + S.length : Nat) : Int) := by rw [IntKind.wrap_i64]; omega
                    have hB4 : Bj ≤ W4.heap.size := Nat.le_trans hk4.hq (Nat.le_of_lt hk4.lt)
                    have HX := Lib.hid hHR
                    clear hHR HR f3 c3
                    obtain ⟨lA, lc, rfl⟩ := own_form hk4.own
                    go_wp2_with (first
                      | (at_builtin; refine wpl_appL rfl (.tmp 105) (.tmp 106) rfl W4.heap.size bl0 (.slice vA jr.records.length vc) (.slice ao l.length cc) jr.records l rfl ha rfl (own_below hl4 ba) (by omega) ba.size ?_
                         intro vb W6 hb6 bb
                         obtain ⟨bA, bc, rfl⟩ := own_form hb6
                         have bw := ba.trans bb
                         have hk6 := hk4.keep bw
                         have c1b := hk6.cell1
                         have f1 := hk6.frozen 1
                         have c2b := hk6.cell2
                         have f2 := hk6.frozen 2)
                      | (at_builtin; refine wpl_appL rfl (.tmp 98) (.tmp 102) rfl W4.heap.size Bj (.slice none 0 0) (.slice lA jr.records.length lc) [] jr.records rfl (World.ownsRow_nil _ _ _ _) rfl hk4.own (by rw [List.length_nil]; omega) (Nat.le_refl _) ?_
                         intro va W5 ha ba
                         rw [List.nil_append] at ha
                         have c1a := (hk4.keep ba).cell1
                         obtain ⟨vA, vc, rfl⟩ := own_form ha))
                    go_ret
                    have T1 := But.setCell q 1 W6 (.slice bA (jr.records ++ l).length bc)
                    have hk7 := hk6.setAll hB4 hb6
                    have T2 := But.setCell q 2 (W6.setCell ⟨q, 1, none⟩ (.slice bA (jr.records ++ l).length bc)) (.int .i64 ((jr.size + S.length : Nat) : Int))
                    have hk8 := hk7.setEnd (jr.size + S.length)
                    rw [hbr] at hk8
                    simp only [List.length_append, Int.natCast_add] at T1 T2 hk7 hk8
                    rw [HX.out]
                    refine ⟨rfl, ((hd4.keep bw).beside T1 hk6.blk).beside T2 hk7.blk, ⟨⟨_, hk8⟩, ?_, ?_, ?_⟩, ((O4.trans (Rj.of_roff (ROff.of_below bw))).trans (Rj.of_but T1)).trans (Rj.of_but T2)⟩
                    · show headOf chF jr.head l = headOf chF z32 (jr.records ++ l)
                      rw [hjh]
                      unfold headOf
                      rw [List.foldl_append]
                    · intro s hs'
                      rcases List.mem_append.1 hs' with h | h
                      · exact hjs s h
                      · have := hs s h
                        omega
                    · show (jr.records ++ l).length ≤ jr.size + S.length
                      rw [List.length_append]
                      omega
                  · have j1 : (e4 == 0) = false := beq_eq_false_iff_ne.mpr h4
                    have j2 : (e4 != 0) = true := bne_iff_ne.mpr h4
                    have j3 : (e4 = 0) = False := eq_false h4
                    have hHR := HR.out
                    simp only [if_true, j3, if_false] at hHR
                    have HX := Lib.hid hHR
                    clear hHR HR h4
                    go_wp2_with fail
                    go_ret
                    have T1 := But.setCell q 3 W4 (.bool true)
                    rw [HX.out]
                    exact ⟨rfl, hd4.beside T1 hk4.blk, ⟨⟨lv, hk4.setBroken true⟩, hjh, hjs, hjl⟩, O4.trans (Rj.of_but T1)⟩
                · have j1 : (e3 == 0) = false := beq_eq_false_iff_ne.mpr h3
                  have j2 : (e3 != 0) = true := bne_iff_ne.mpr h3
                  have j3 : (e3 = 0) = False := eq_false h3
                  have hHR := HR.out
                  simp only [if_true, j3, if_false] at hHR
                  have HX := Lib.hid hHR
                  clear hHR HR h3
                  go_wp2_with fail
                  go_ret
                  have T1 := But.setCell q 3 W3 (.bool true)
                  rw [HX.out]
                  exact ⟨rfl, hd3.beside T1 hk3.blk, ⟨⟨lv, hk3.setBroken true⟩, hjh, hjs, hjl⟩, O3.trans (Rj.of_but T1)⟩
              · have j1 : (e2 == 0) = false := beq_eq_false_iff_ne.mpr h2
                have j2 : (e2 != 0) = true := bne_iff_ne.mpr h2
                have j3 : (e2 = 0) = False := eq_false h2
                have hHR := HR.out
                simp only [if_true, j3, if_false] at hHR
                have HX := Lib.hid hHR
                clear hHR HR h2
                go_wp2_with fail
                go_ret
                have T1 := But.setCell q 3 W2 (.bool true)
                rw [HX.out]
                exact ⟨rfl, hd2.beside T1 hk2.blk, ⟨⟨lv, hk2.setBroken true⟩, hjh, hjs, hjl⟩, O2.trans (Rj.of_but T1)⟩
            · have j1 : (e1 == 0) = false := beq_eq_false_iff_ne.mpr h1
              have j2 : (e1 != 0) = true := bne_iff_ne.mpr h1
              have j3 : (e1 = 0) = False := eq_false h1
              have hHR := HR.out
              simp only [if_true, j3, if_false] at hHR
              have HX := Lib.hid hHR
              clear hHR HR h1
              go_wp2_with fail
              go_ret
              have T1 := But.setCell q 3 W1 (.bool true)
              rw [HX.out]
              exact ⟨rfl, hd1.beside T1 hk1.blk, ⟨⟨lv, hk1.setBroken true⟩, hjh, hjs, hjl⟩, O1.trans (Rj.of_but T1)⟩
end Go.Proofs.YtniegajdmbepbaaGreatDoor.Jm

set_option linter.unusedVariables false
set_option linter.unusedSimpArgs false
namespace Go.Proofs.YtniegajdmbepbaaGreatDoor.Jm
open Go Go.RowKit Go.Shelf Go.Proofs.YtniegajdmbepbaaGreatDoorW.PrintWords Go.Proofs.YtniegajdmbepbaaGreatDoorW.PrintMore Go.Proofs.YtniegajdmbepbaaGreatDoor.Pr Go.Proofs.YtniegajdmbepbaaGreatDoor.WPure

/-- Blocks of some types stay. -/
def KT (P : TypeId → Prop) (w W : World) : Prop := ∀ (k : Nat) (cs : Array Value) (t : TypeId) (f : Nat × Nat), w.heap[k]? = some (.cells cs t f) → P t → W.heap[k]? = some (.cells cs t f)
theorem KT.own {P : TypeId → Prop} {w W : World} (h : KT P w W) {base size n : Nat} {e : TypeId} {v : Value} {xs : List Value} (ho : w.ownsRow base e size v n xs) (he : P e) : W.ownsRow base e size v n xs :=
 own_keep ho fun g hg => by
  obtain ⟨cs, hc⟩ := own_block ho hg
  rw [hc]
  exact h _ _ _ _ hc he
theorem KT.mono {P Q : TypeId → Prop} {w W : World} (h : KT P w W) (hq : ∀ t, Q t → P t) : KT Q w W := fun k cs t f hk ht => h k cs t f hk (hq t ht)
theorem KT.trans {P : TypeId → Prop} {a b c : World} (h : KT P a b) (k : KT P b c) : KT P a c := fun i cs t f hi ht => k i cs t f (h i cs t f hi ht) ht
theorem KT.of_below {P : TypeId → Prop} {w W : World} (h : Below w.heap.size w W) : KT P w W := fun k cs t f hk _ => (h.block k (Array.getElem?_eq_some_iff.1 hk).1).trans hk
/-- All types but that of a block that is written. -/
theorem KT.of_but {g : Nat} {w W : World} (h : But g w W) {cs : Array Value} {t : TypeId} {f : Nat × Nat} (hg : w.heap[g]? = some (.cells cs t f)) : KT (· ≠ t) w W :=
 fun k ds u f' hk hu => (h.block k (Array.getElem?_eq_some_iff.1 hk).1 (cells_ne hk hg hu)).trans hk
theorem DiskAt.kt {P : TypeId → Prop} {w W : World} {D : Dsk} {dk : Dk} (h : DiskAt w D dk) (k : KT P w W) (h1 : P 97) (h2 : P 5) (h3 : P 92) : DiskAt W D dk := by
 obtain ⟨pv, h⟩ := h
 exact ⟨pv, ⟨k _ _ _ _ h.blk h1, k _ _ _ _ h.dur h2, k _ _ _ _ h.vis h2, k.own h.pend h3, h.len, h.hd, h.h1, h.h2, h.ne, h.lt, h.small, h.left, h.few⟩⟩
theorem JrAt.kt {P : TypeId → Prop} {w W : World} {B j : Nat} {D : Dsk} {jr : Jr} (h : JrAt w B j D jr) (k : KT P w W) (hs : w.heap.size ≤ W.heap.size) (h1 : P 74) (h2 : P 9) : JrAt W B j D jr := by
 obtain ⟨rv, h⟩ := h
 exact ⟨rv, ⟨⟨k _ _ _ _ h.tape.blk h1, k.own h.tape.own h2, h.tape.ne, h.tape.hp, Nat.le_trans h.tape.hs hs⟩⟩⟩
theorem RefJ.kt {P : TypeId → Prop} {w W : World} {B q r : Nat} {jr : Jr} (h : RefJ w B q r jr) (k : KT P w W) (h1 : P 43) (h2 : P 9) : RefJ W B q r jr := by
 obtain ⟨⟨lv, h⟩, h4⟩ := h
 exact ⟨⟨lv, ⟨k _ _ _ _ h.blk h1, k.own h.own h2, h.hq, h.hr⟩⟩, h4⟩
/-- The blocks of a disk's bytes. -/
def Zd (D : Dsk) (k : Nat) : Prop := k = D.g1 ∨ k = D.g2
theorem RefAt.kt {P : TypeId → Prop} {w W : World} {B r : Nat} {D : Dsk} {dk : Dk} (h : RefAt w B r (Zd D) dk) (k : KT P w W) (h1 : P 67) (h2 : P 100)
  (hu : ∀ k cs f, w.heap[k]? = some (.cells cs 5 f) → ¬ Zd D k → W.heap[k]? = some (.cells cs 5 f)) : RefAt W B r (Zd D) dk := by
 obtain ⟨gs, cs, pl, h, hz⟩ := h
 refine ⟨gs, cs, pl, ⟨k _ _ _ _ h.blk h1, ?_, k.own h.pend h2, h.hr, h.vis, h.lt, h.pos, h.small, h.fit, h.left, h.few⟩, hz⟩
 refine own_keep h.sure fun g hg => ?_
 have : gs = g := by simpa [Value.ownBlock] using hg
 subst this
 obtain ⟨ds, hc⟩ := own_block h.sure hg
 rw [hc]
 exact hu _ _ _ hc hz
theorem RefAt.ktu {P : TypeId → Prop} {w W : World} {B r : Nat} {D : Dsk} {dk : Dk} (h : RefAt w B r (Zd D) dk) (k : KT P w W) (h1 : P 67) (h2 : P 100) (h3 : P 5) : RefAt W B r (Zd D) dk :=
 h.kt k h1 h2 fun i cs f hi _ => k i cs _ f hi h3
theorem DiskAt.zlt {w : World} {D : Dsk} {dk : Dk} (h : DiskAt w D dk) : ∀ k, Zd D k → k < w.heap.size := by
 obtain ⟨pv, h⟩ := h
 rintro k (rfl | rfl)
 ·exact h.dur.lt
 ·exact h.vis.lt
/-- What the types of the program's disk and journal are. -/
def Pd (t : TypeId) : Prop := t ≠ 97 ∧ t ≠ 5 ∧ t ≠ 92 ∧ t ≠ 74
def Pr' (t : TypeId) : Prop := t ≠ 67 ∧ t ≠ 43 ∧ t ≠ 100
instance (t : TypeId) : Decidable (Pd t) := by unfold Pd; infer_instance
instance (t : TypeId) : Decidable (Pr' t) := by unfold Pr'; infer_instance
theorem Off.kt {D : Dsk} {w W : World} {dk : Dk} (o : Off D w W) (h : DiskAt w D dk) : KT Pd w W ∧ ∀ k cs f, w.heap[k]? = some (.cells cs 5 f) → ¬ Zd D k → W.heap[k]? = some (.cells cs 5 f) := by
 obtain ⟨pv, h⟩ := h
 refine ⟨fun k cs t f hk ⟨h1, h2, h3, _⟩ => o.block k _ hk (.inr ⟨cells_ne hk h.blk h1, cells_ne hk h.dur h2, cells_ne hk h.vis h2, h3⟩), fun k cs f hk hz => o.block k _ hk (.inr ⟨cells_ne hk h.blk (by decide), fun e => hz (.inl e), fun e => hz (.inr e), ?_⟩)⟩
 show ¬ (_ : Nat) = _
 decide
theorem Oj.kt {D : Dsk} {j B : Nat} {w W : World} {dk : Dk} {jr : Jr} (o : Oj D j w W) (h : DiskAt w D dk) (hj : JrAt w B j D jr) : KT Pd w W ∧ ∀ k cs f, w.heap[k]? = some (.cells cs 5 f) → ¬ Zd D k → W.heap[k]? = some (.cells cs 5 f) := by
 obtain ⟨pv, h⟩ := h
 obtain ⟨rv, hj⟩ := hj
 have hb := hj.tape.blk
 refine ⟨fun k cs t f hk ⟨h1, h2, h3, h4⟩ => o.block k _ hk (.inr ⟨cells_ne hk h.blk h1, cells_ne hk h.dur h2, cells_ne hk h.vis h2, h3, cells_ne hk hb h4⟩), fun k cs f hk hz => o.block k _ hk (.inr ⟨cells_ne hk h.blk (by decide), fun e => hz (.inl e), fun e => hz (.inr e), ?_, cells_ne hk hb (by decide)⟩)⟩
 show ¬ (_ : Nat) = _
 decide
theorem ROff.kt {B r : Nat} {Z : Nat → Prop} {w W : World} {dk : Dk} (o : ROff B r w W) (h : RefAt w B r Z dk) : KT Pr' w W := by
 obtain ⟨gs, cs, pl, h, _⟩ := h
 exact fun k cs t f hk ⟨h1, h2, h3⟩ => o.block k _ hk (cells_ne hk h.blk h1) (.inr h3)
theorem Rj.kt {B Bq r q : Nat} {Z : Nat → Prop} {w W : World} {dk : Dk} {jr : Jr} (o : Rj B r q w W) (h : RefAt w B r Z dk) (hq : RefJ w Bq q r jr) : KT Pr' w W := by
 obtain ⟨gs, cs, pl, h, _⟩ := h
 obtain ⟨⟨lv, hk⟩, _⟩ := hq
 have hb := hk.blk
 exact fun k cs t f hk ⟨h1, h2, h3⟩ => o.block k _ hk (cells_ne hk h.blk h1) (cells_ne hk hb h2) (.inr h3)
/-- What lies below a number of blocks stays. -/
theorem ROff.below {B r b : Nat} {w W : World} (o : ROff B r w W) (hb : b ≤ B) (hr : B ≤ r) (hw : b ≤ w.heap.size) : Below b w W := by
 refine ⟨o.os, o.tape, o.output, o.size, fun k hk => ?_⟩
 obtain ⟨x, hx⟩ : ∃ x, w.heap[k]? = some x := ⟨_, Array.getElem?_eq_getElem (by omega)⟩
 rw [hx]
 exact o.block k x hx (by omega) (.inl (by omega))
theorem Rj.below {B r q b : Nat} {w W : World} (o : Rj B r q w W) (hb : b ≤ B) (hr : B ≤ r) (hq : b ≤ q) (hw : b ≤ w.heap.size) : Below b w W := by
 refine ⟨o.os, o.tape, o.output, o.size, fun k hk => ?_⟩
 obtain ⟨x, hx⟩ : ∃ x, w.heap[k]? = some x := ⟨_, Array.getElem?_eq_getElem (by omega)⟩
 rw [hx]
 exact o.block k x hx (by omega) (by omega) (.inl (by omega))
theorem Off.belowB {D : Dsk} {b : Nat} {w W : World} (o : Off D w W) (hb : b ≤ D.B) (hw : D.B ≤ w.heap.size) : Below b w W := (o.below hw).mono hb
theorem Oj.belowB {D : Dsk} {j b : Nat} {w W : World} (o : Oj D j w W) (hb : b ≤ D.B) (hw : D.B ≤ w.heap.size) : Below b w W := by
 refine ⟨o.os, o.tape, o.output, o.size, fun k hk => ?_⟩
 obtain ⟨x, hx⟩ : ∃ x, w.heap[k]? = some x := ⟨_, Array.getElem?_eq_getElem (by omega)⟩
 rw [hx]
 exact o.block k x hx (.inl (by omega))
/-- Both disks, and the block of the two. -/
structure Two (b : Nat) (w : World) (wb : Nat) (D : Dsk) (r Br : Nat) (dk : Dk) (jp kp : Value) : Prop where
 tw : w.heap[wb]? = some (.cells #[.pointer (some ⟨D.d, 0, none⟩), jp, .pointer (some ⟨r, 0, none⟩), kp] 32 (0, 0))
 d1 : DiskAt w D dk
 d2 : RefAt w Br r (Zd D) dk
 hb1 : b ≤ D.B
 hb2 : b ≤ Br
 hwb : b ≤ wb
/-- Both journals: none, or one each, with the same records. -/
def Jo (b : Nat) (w : World) (D : Dsk) (r : Nat) : Option Jr → Value → Value → Prop
 | none, jp, kp => jp = .pointer none ∧ kp = .pointer none
 | some jr, jp, kp => ∃ j q B Bq, jp = .pointer (some ⟨j, 0, none⟩) ∧ kp = .pointer (some ⟨q, 0, none⟩) ∧ JrAt w B j D jr ∧ RefJ w Bq q r jr ∧ D.B ≤ B ∧ b ≤ Bq
theorem Two.lt {b : Nat} {w : World} {wb : Nat} {D : Dsk} {r Br : Nat} {dk : Dk} {jp kp : Value} (h : Two b w wb D r Br dk jp kp) : wb < w.heap.size := (Array.getElem?_eq_some_iff.1 h.tw).1
theorem Two.bs {b : Nat} {w : World} {wb : Nat} {D : Dsk} {r Br : Nat} {dk : Dk} {jp kp : Value} (h : Two b w wb D r Br dk jp kp) : b ≤ w.heap.size := Nat.le_trans h.hwb (Nat.le_of_lt h.lt)
theorem Two.keep {b : Nat} {w W : World} {wb : Nat} {D : Dsk} {r Br : Nat} {dk : Dk} {jp kp : Value} (h : Two b w wb D r Br dk jp kp) (k : Below w.heap.size w W) : Two b W wb D r Br dk jp kp :=
 ⟨(k.block _ h.lt).trans h.tw, h.d1.keep k, h.d2.keep k, h.hb1, h.hb2, h.hwb⟩
theorem Jo.kt {b : Nat} {P : TypeId → Prop} {w W : World} {D : Dsk} {r : Nat} {oj : Option Jr} {jp kp : Value} (h : Jo b w D r oj jp kp) (k : KT P w W) (hs : w.heap.size ≤ W.heap.size) (h1 : P 74) (h2 : P 9) (h3 : P 43) : Jo b W D r oj jp kp := by
 cases oj with
 | none => exact h
 | some jr =>
  obtain ⟨j, q, B, Bq, e1, e2, a, c, e⟩ := h
  exact ⟨j, q, B, Bq, e1, e2, a.kt k hs h1 h2, c.kt k h3 h2, e⟩
theorem openM_code (dk : Dk) : ((openM chF z32 dk).2.1 = none → (openM chF z32 dk).2.2 ≠ 0) := by
 cases ho : dk.off with
 | true => rw [openM_off dk ho]; intro _ h; cases h
 | false =>
  cases hp : parse chF (dk.vis.length + 1) z32 dk.vis with
  | none => rw [openM_bad dk ho hp]; intro _ h; cases h
  | some q =>
   obtain ⟨rs, n⟩ := q
   by_cases hz : (dk.vis.drop n).all (· == 0) = true
   ·rw [openM_clean dk ho rs n hp hz]; intro h; cases h
   ·rw [openM_wipe dk ho rs n hp hz]
    split
    ·intro h; cases h
    ·intro _ h; exact absurd h ‹_›
end Go.Proofs.YtniegajdmbepbaaGreatDoor.Jm

set_option linter.unusedVariables false
set_option linter.unusedSimpArgs false
namespace Go.Proofs.YtniegajdmbepbaaGreatDoor.Jm
open Go Go.RowKit Go.Shelf Go.Proofs.YtniegajdmbepbaaGreatDoorW.PrintWords Go.Proofs.YtniegajdmbepbaaGreatDoorW.PrintMore Go.Proofs.YtniegajdmbepbaaGreatDoor.Pr Go.Proofs.YtniegajdmbepbaaGreatDoor.WPure

theorem blk_cells {w : World} {g : Nat} {cs : Array Value} {t : TypeId} (h : w.heap[g]? = some (.cells cs t (0, 0))) : (∀ i, w.cell? ⟨g, i, none⟩ = cs[i]?) ∧ ∀ i, w.frozen? ⟨g, i, none⟩ = false :=
  ⟨fun i => cell_of_row w g i cs t (0, 0) h, fun i => frozen_of h i⟩
theorem Two.set {b : Nat} {w w2 : World} {wb : Nat} {D : Dsk} {r Br : Nat} {dk dk' : Dk} {jp kp jp' kp' : Value} (h : Two b w wb D r Br dk jp kp) (ht : w2.heap[wb]? = some (.cells #[.pointer (some ⟨D.d, 0, none⟩), jp, .pointer (some ⟨r, 0, none⟩), kp] 32 (0, 0)))
    (d1 : DiskAt w2 D dk') (d2 : RefAt w2 Br r (Zd D) dk') : Two b ((w2.setCell ⟨wb, 1, none⟩ jp').setCell ⟨wb, 3, none⟩ kp') wb D r Br dk' jp' kp' ∧ KT (· ≠ 32) w2 ((w2.setCell ⟨wb, 1, none⟩ jp').setCell ⟨wb, 3, none⟩ kp') ∧ But wb w2 ((w2.setCell ⟨wb, 1, none⟩ jp').setCell ⟨wb, 3, none⟩ kp') := by
  have S1 := set_blk ht (j := 1) jp'
  have S2 := set_blk S1 (j := 3) kp'
  have Bt := (But.setCell wb 1 w2 jp').trans (But.setCell wb 3 _ kp')
  have K := KT.of_but Bt ht
  exact ⟨⟨by simpa using S2, d1.kt K (by decide) (by decide) (by decide), d2.ktu K (by decide) (by decide) (by decide), h.hb1, h.hb2, h.hwb⟩, K, Bt⟩
set_option maxRecDepth 100000 in
set_option maxHeartbeats 8000000 in
theorem wopen_calls {b : Nat} {w : World} {wb : Nat} {D : Dsk} {r Br : Nat} {dk : Dk} {jp kp : Value} (h : Two b w wb D r Br dk jp kp) (a : Addr) (hA : Sha.Amb w) (hE : AmbE a w) (hf : dk.pend.length + 2 ≤ 1000000) (hjp : ∃ p, jp = .pointer p) (hkp : ∃ p, kp = .pointer p) :
    Calls Tryz.prog 17 #[.pointer (some ⟨wb, 0, none⟩)] w fun e w' => e = .returned (.bool true) ∧ ∃ jp' kp', Two b w' wb D r Br (openM chF z32 dk).1 jp' kp' ∧ Jo b w' D r (openM chF z32 dk).2.1 jp' kp' ∧ Below b w w' := by
  obtain ⟨O, hO⟩ : ∃ O, openM chF z32 dk = O := ⟨_, rfl⟩
  obtain ⟨dk', oj, c⟩ := O
  have J := jopen_calls h.d1 a hA hE (by omega)
  have hc := openM_code dk
  rw [hO] at J hc ⊢
  dsimp only at J hc ⊢
  obtain ⟨p1, rfl⟩ := hjp
  obtain ⟨p2, rfl⟩ := hkp
  have c0 := (blk_cells h.tw).1 0
  have hwz : D.B ≤ w.heap.size := h.d1.sizeB
  have hbr : Br ≤ r := let ⟨_, _, _, q, _⟩ := h.d2; q.hr
  have K := fun (w1 w2 : World) (o1 : Off D w w1) (d1 : DiskAt w1 D dk') (o2 : ROff Br r w1 w2) (d2 : RefAt w1 Br r (Zd D) dk) =>
    (show (w1.heap[wb]? = some (.cells #[.pointer (some ⟨D.d, 0, none⟩), .pointer p1, .pointer (some ⟨r, 0, none⟩), .pointer p2] 32 (0, 0))) ∧ w2.heap[wb]? = some (.cells #[.pointer (some ⟨D.d, 0, none⟩), .pointer p1, .pointer (some ⟨r, 0, none⟩), .pointer p2] 32 (0, 0)) ∧ DiskAt w2 D dk' ∧ Below b w w2 from
      let t1 := (o1.kt h.d1).1 _ _ _ _ h.tw (by decide)
      let k2 := o2.kt d2
      ⟨t1, k2 _ _ _ _ t1 (by decide), d1.kt k2 (by decide) (by decide) (by decide), (o1.belowB h.hb1 hwz).trans (o2.below h.hb2 hbr (Nat.le_trans h.bs o1.size))⟩)
  have R := fun (w1 : World) (o1 : Off D w w1) => (show RefAt w1 Br r (Zd D) dk from h.d2.kt (o1.kt h.d1).1 (by decide) (by decide) (o1.kt h.d1).2)
  have Z := fun (w1 : World) (o1 : Off D w w1) => (show ∀ k, Zd D k → k < w1.heap.size from fun k hk => Nat.lt_of_lt_of_le (h.d1.zlt k hk) o1.size)
  have T1 := fun (w1 : World) (o1 : Off D w w1) => (show (w1.heap[wb]? = some (.cells #[.pointer (some ⟨D.d, 0, none⟩), .pointer p1, .pointer (some ⟨r, 0, none⟩), .pointer p2] 32 (0, 0))) from (o1.kt h.d1).1 _ _ _ _ h.tw (by decide))
  have KH := Lib.hid K
  have RH := Lib.hid R
  have ZH := Lib.hid Z
  have TH := Lib.hid T1
  clear K R Z T1
  cases oj with
  | none =>
    have hcn := hc rfl
    have j1 : (c == 0) = false := beq_eq_false_iff_ne.mpr hcn
    have j2 : (c != 0) = true := bne_iff_ne.mpr hcn
    clear hcn hc
    go_enter Tryz.func17, Tryz.ntmps17
    go_wp2_with (first
      | (go_at_call 50; refine (refopen_calls (RH.out w1 o1) (ZH.out w1 o1) (by omega)).mono ?_; rw [hO]; rintro e w2 ⟨hd2, o2, hr2⟩
         obtain rfl : e = .returned (.tuple #[.pointer none, .int .i64 c]) := hr2
         have KK := KH.out w1 w2 o1 hd1 o2 (RH.out w1 o1)
         have c21 := (blk_cells KK.2.1).1 1
         have c23 := (blk_cells KK.2.1).1 3
         have f21 := (blk_cells KK.2.1).2 1
         have f23 := (blk_cells KK.2.1).2 3
         have KX := Lib.hid KK
         clear KK)
      | (go_at_call 25; refine J.mono ?_; rintro e w1 ⟨hd1, o1, hr1⟩
         obtain rfl : e = .returned (.tuple #[.pointer none, .int .i64 c]) := hr1
         have c12 := (blk_cells (TH.out w1 o1)).1 2))
    go_ret
    obtain ⟨k1, k2, k3, k4⟩ := KX.out
    obtain ⟨s1, s2, s3⟩ := h.set (jp' := .pointer none) (kp' := .pointer none) k2 k3 hd2
    exact ⟨by simp, _, _, s1, ⟨rfl, rfl⟩, k4.trans ⟨s3.os, s3.tape, s3.output, s3.size, fun k hk => s3.block k (Nat.lt_of_lt_of_le hk (Nat.le_trans h.bs k4.size)) (by have := h.hwb; omega)⟩⟩
  | some jr =>
    clear hc
    go_enter Tryz.func17, Tryz.ntmps17
    go_wp2_with (first
      | (go_at_call 50; refine (refopen_calls (RH.out w1 o1) (ZH.out w1 o1) (by omega)).mono ?_; rw [hO]; rintro e w2 ⟨hd2, o2, hr2⟩
         obtain ⟨q, he2, hq⟩ : ∃ q, e = .returned (.tuple #[.pointer (some ⟨q, 0, none⟩), .int .i64 0]) ∧ RefJ w2 w1.heap.size q r jr := hr2
         subst he2
         have KK := KH.out w1 w2 o1 hd1 o2 (RH.out w1 o1)
         have c21 := (blk_cells KK.2.1).1 1
         have c23 := (blk_cells KK.2.1).1 3
         have f21 := (blk_cells KK.2.1).2 1
         have f23 := (blk_cells KK.2.1).2 3
         have KX := Lib.hid KK
         clear KK)
      | (go_at_call 25; refine J.mono ?_; rintro e w1 ⟨hd1, o1, hr1⟩
         obtain ⟨j, he1, hj⟩ : ∃ j, e = .returned (.tuple #[.pointer (some ⟨j, 0, none⟩), .int .i64 0]) ∧ JrAt w1 w.heap.size j D jr := hr1
         subst he1
         have c12 := (blk_cells (TH.out w1 o1)).1 2))
    go_ret
    obtain ⟨k1, k2, k3, k4⟩ := KX.out
    obtain ⟨s1, s2, s3⟩ := h.set (jp' := .pointer (some ⟨j, 0, none⟩)) (kp' := .pointer (some ⟨q, 0, none⟩)) k2 k3 hd2
    refine ⟨by simp, _, _, s1, ⟨j, q, w.heap.size, w1.heap.size, rfl, rfl, ?_, ?_, hwz, Nat.le_trans h.bs o1.size⟩, k4.trans ⟨s3.os, s3.tape, s3.output, s3.size, fun k hk => s3.block k (Nat.lt_of_lt_of_le hk (Nat.le_trans h.bs k4.size)) (by have := h.hwb; omega)⟩⟩
    · exact (hj.kt (o2.kt (RH.out w1 o1)) o2.size (by decide) (by decide)).kt s2 s3.size (by decide) (by decide)
    · exact hq.kt s2 (by decide) (by decide)
end Go.Proofs.YtniegajdmbepbaaGreatDoor.Jm

set_option linter.unusedVariables false
set_option linter.unusedSimpArgs false
namespace Go.Proofs.YtniegajdmbepbaaGreatDoor.Jm
open Go Go.RowKit Go.Shelf Go.Proofs.YtniegajdmbepbaaGreatDoorW.PrintWords Go.Proofs.YtniegajdmbepbaaGreatDoorW.PrintMore Go.Proofs.YtniegajdmbepbaaGreatDoor.Pr Go.Proofs.YtniegajdmbepbaaGreatDoor.Pl Go.Proofs.YtniegajdmbepbaaGreatDoor.WPure

theorem openM_new (N : Nat) : openM chF z32 (newDk N) = (newDk N, some ⟨[], z32, 0, false⟩, 0) := by
  have hp : parse chF ((newDk N).vis.length + 1) z32 (newDk N).vis = some ([], 0) := parse_end _ _ _ (by omega) (by
    cases N with
    | zero => exact .inl rfl
    | succ n => exact .inr rfl)
  rw [openM_clean (newDk N) rfl [] 0 hp (by rw [List.drop_zero]; exact zeros_all N)]
  rfl
set_option maxRecDepth 100000 in
set_option maxHeartbeats 8000000 in
theorem begin_calls (w : World) (n : Int) (N : Nat) (hN : clearwaylaw29_size.f n = some (N : Int)) (h1 : 1 ≤ N) (h2 : N ≤ 1500) (a : Addr) (hA : Sha.Amb w) (hE : AmbE a w) :
    Calls Tryz.prog 9 #[.int .i64 n] w fun e w' => ∃ wb D r Br jp kp, e = .returned (.tuple #[.pointer (some ⟨wb, 0, none⟩), .bool true]) ∧ Two w.heap.size w' wb D r Br (newDk N) jp kp ∧ Jo w.heap.size w' D r (some ⟨[], z32, 0, false⟩) jp kp ∧ Below w.heap.size w w' := by
  go_enter Tryz.func9, Tryz.ntmps9
  go_upto_region 3 with (first
    | (go_at_call 33; refine (refnew_calls w3 N h1 (by omega) (Zd D) hz3).mono ?_; rintro e w4 ⟨r, rfl, hr4, b4⟩)
    | (go_at_call 15; refine (lawsize_calls w2 n N hN).mono ?_; rintro e w3 ⟨rfl, b3⟩
       have hz3 : ∀ k, Zd D k → k < w3.heap.size := (hd2.keep b3).zlt)
    | (go_at_call 24; refine (new_calls w1 N h1 (by omega)).mono ?_; rintro e w2 ⟨D, rfl, hd2, b2, hDB⟩)
    | (go_at_call 15; refine (lawsize_calls _ n N hN).mono ?_; rintro e w1 ⟨rfl, b1⟩))
  have B3 : Below w.heap.size w w3 := (b1.trans (b2.mono b1.size)).trans (b3.mono (Nat.le_trans b1.size b2.size))
  have B4 : Below w.heap.size w w4 := B3.trans (b4.mono B3.size)
  have T0 : ∀ W, Below w4.heap.size w4 W → W.heap[w4.heap.size]? = some (.cells #[.pointer (some ⟨D.d, 0, none⟩), .pointer none, .pointer (some ⟨r, 0, none⟩), .pointer none] 32 (0, 0)) →
      Two w.heap.size W w4.heap.size D r w3.heap.size (newDk N) (.pointer none) (.pointer none) := fun W hW ht =>
    ⟨ht, ((hd2.keep b3).keep b4).keep hW, hr4.keep hW, by rw [hDB]; exact b1.size, B3.size, B4.size⟩
  have b5 := below_alloc (Below.refl w4.heap.size w4) (.cells #[.pointer (some ⟨D.d, 0, none⟩), .pointer none, .pointer (some ⟨r, 0, none⟩), .pointer none] 32)
  have t5 := heap_alloc_new w4 (.cells #[.pointer (some ⟨D.d, 0, none⟩), .pointer none, .pointer (some ⟨r, 0, none⟩), .pointer none] 32)
  have T5 := T0 _ b5 t5
  have B5 : Below w.heap.size w _ := B4.trans (b5.mono B4.size)
  have hO := wopen_calls T5 a (hA.below_block B5) (hE.keep (B5.block _ (Array.getElem?_eq_some_iff.1 hE.choose_spec.choose_spec).1)) (by show 0 + 2 ≤ 1000000; omega) ⟨_, rfl⟩ ⟨_, rfl⟩
  rw [openM_new] at hO
  clear T5 T0 t5 hr4 hd2 hz3 b1 b2 b3
  go_wp2_with (go_at_call 17; refine hO.mono ?_; rintro e w6 ⟨rfl, jp, kp, hT, hJ, b6⟩)
  go_ret2
  exact ⟨_, D, r, _, jp, kp, rfl, hT, hJ, B5.trans b6⟩
end Go.Proofs.YtniegajdmbepbaaGreatDoor.Jm

set_option linter.unusedVariables false
set_option linter.unusedSimpArgs false
namespace Go.Proofs.YtniegajdmbepbaaGreatDoor.Jm
open Go Go.RowKit Go.Shelf Go.Proofs.YtniegajdmbepbaaGreatDoor.Rf Go.Proofs.YtniegajdmbepbaaGreatDoorW.PrintWords Go.Proofs.YtniegajdmbepbaaGreatDoorW.PrintLast Go.Proofs.YtniegajdmbepbaaGreatDoorW.PrintMore Go.Proofs.YtniegajdmbepbaaGreatDoor.Sha

theorem heapNew {P : World → Prop} {V : World} {cs : Array Value} {t : TypeId} (h : P (V.alloc (.cells cs t))) : (V.alloc (.cells cs t)).heap[V.heap.size]? = some (.cells cs t (0, 0)) := heap_alloc_new ..
theorem conv_byte (n : Nat) (hn : n < 256) {W : World} {g : Nat} (hg : W.heap[g]? = some (.cells #[.int .u8 (n : Int)] 5 (0, 0))) : (convert 39 9 (.slice (some ⟨g, 0, none⟩) 1 1)).run Tryz.prog W = .ok (.string (ofB [n])) W := by
 have h := run_convert_bytes_arg (P := Tryz.prog) W 39 5 Tryz.underlying39 Tryz.underlying5 g 0 1 1 ([n].map fun (b : Nat) => (b : Int)) (by simp) (fun i hi => by
  obtain rfl : i = 0 := by omega
  simp only [World.cell?, hg, Nat.zero_add]
  simp) 9 Tryz.underlying9
 rw [h, str_ofB]
def oa_r6S (wb : Nat) (d : Nat) (j : Nat) (r : Nat) (q : Nat) (V_ : World) : Prop := V_.cell? ⟨wb, 0, none⟩ = some (.pointer (some ⟨d, 0, none⟩)) ∧ V_.cell? ⟨wb, 1, none⟩ = some (.pointer (some ⟨j, 0, none⟩)) ∧ V_.cell? ⟨wb, 2, none⟩ = some (.pointer (some ⟨r, 0, none⟩)) ∧ V_.cell? ⟨wb, 3, none⟩ = some (.pointer (some ⟨q, 0, none⟩))
def oaT.T6 : Bool × List (List Nat × List Nat) := (true, [([], []), ([0], [0]), ([1], [1]), ([2], [2]), ([3], [3]), ([4], [4]), ([5], [5]), ([6, 5], [5, 6]), ([7, 5], [5, 7]), ([8, 5], [5, 8]), ([5], [5]), ([10, 5, 5], [5, 10]), ([9, 11, 11, 5], [5, 9, 11]), ([5], [5]), ([13, 5], [5, 13]), ([14, 5], [5, 14]), ([15, 5], [5, 15]), ([5], [5]), ([17, 12, 5], [5, 17]), ([16, 18, 18, 5], [5, 16, 18]), ([12, 19, 5], [5, 12, 19]), ([5, 20], [5, 20])])
def oaT.B6 : List Nat := [0, 1, 3, 7, 15, 31, 63, 127, 255, 511, 63, 1087, 4095, 63, 8255, 24639, 57407, 63, 139263, 524287, 1048575, 2097151]
theorem oaT.tab6 : rtab .any (opsOf Tryz.f3 6) = oaT.T6 := by kernel_rfl
theorem oaT.bits6 : waitsOk oaT.T6.2 oaT.B6 = true := by kernel_rfl
noncomputable def oaR6 : Code := ((Tryz.f3.body.bind (regionOf 6)).getD .skip)
set_option maxHeartbeats 8000000 in
set_option maxRecDepth 100000 in
theorem oa_r6 (R : Act → World → Prop) (W : World) (v0 v1 v3 v4 v5 v6 v7 v8 v9 v10 v11 v13 v14 v15 v16 v17 v18 v19 v20 v21 v22 v23 v24 v25 v26 v27 v28 v29 v30 v31 v32 v33 v34 v35 v36 v37 v38 v39 v40 v41 v42 v43 v44 v45 v46 v47 v48 v49 v50 v51 v52 v53 v54 v55 v56 v57 v58 v59 v60 v61 v62 v63 v64 v65 v66 v67 v68 v69 v70 v71 v72 v73 v74 v75 v76 v77 v78 v79 v80 v81 v82 v83 v84 v85 v86 v87 v88 v89 v90 v91 v92 v93 v94 v95 v96 v97 v98 v99 v100 v101 v102 v103 v104 v105 v106 v107 v108 v109 v110 v111 v112 v113 v114 v115 v116 v117 v118 v119 v120 v121 v122 v123 v124 v125 v126 v127 v128 v129 v130 v131 v132 v133 v134 v135 v136 v137 v138 v139 v140 v141 v142 v143 v144 v145 v146 v147 v148 v149 v150 : Value) (wb d j r q : Nat) (l : Value) (x1 x2 : Int) (P0 : World → Prop) (P11 : Value → World → Prop) (P12 : World → Prop) (P18 : Value → World → Prop) (P19 : World → Prop)
  
  (hP0 : P0 W.drew)
  (hS0 : ∀ V, P0 V → oa_r6S wb d j r q V)
  (hc11 : ∀ V, P0 V → Calls Tryz.prog 11 #[l] V fun e w' => ∃ u1, e = .returned u1 ∧ P11 u1 w')
  (hS11 : ∀ V u1, P11 u1 V → oa_r6S wb d j r q V)
  (hc12 : ∀ V u1, P11 u1 V → Calls Tryz.prog 10 #[.pointer (some ⟨j, 0, none⟩), u1] V fun e w' => e = .returned (.int .i64 x1) ∧ P12 w')
  (hS12 : ∀ V, P12 V → oa_r6S wb d j r q V)
  (hc18 : ∀ V, P12 V → Calls Tryz.prog 11 #[l] V fun e w' => ∃ u2, e = .returned u2 ∧ P18 u2 w')
  (hS18 : ∀ V u2, P18 u2 V → oa_r6S wb d j r q V)
  (hc19 : ∀ V u2, P18 u2 V → Calls Tryz.prog 12 #[.pointer (some ⟨q, 0, none⟩), u2] V fun e w' => e = .returned (.int .i64 x2) ∧ P19 w')
  (hS19 : ∀ V, P19 V → oa_r6S wb d j r q V)
  (hQ : ∀ (z26 z27 z28 z29 z30 z31 z32 z33 z34 z35 z36 z37 z38 z39 z40 z41 z42 z43 z44 z45 z46 : Value) (W' : World), P19 W' → R ⟨#[v0, v1, l, v3, v4, v5, v6, v7, v8, v9, v10, v11, Value.pointer (some ⟨wb, 0, none⟩), v13, v14, v15, v16, v17, v18, v19, v20, v21, v22, v23, v24, v25, z26, z27, z28, z29, z30, z31, z32, z33, z34, z35, z36, z37, z38, z39, z40, z41, z42, z43, z44, z45, z46, Value.bool (x1 != x2), v48, v49, v50, v51, v52, v53, v54, v55, v56, v57, v58, v59, v60, v61, v62, v63, v64, v65, v66, v67, v68, v69, v70, v71, v72, v73, v74, v75, v76, v77, v78, v79, v80, v81, v82, v83, v84, v85, v86, v87, v88, v89, v90, v91, v92, v93, v94, v95, v96, v97, v98, v99, v100, v101, v102, v103, v104, v105, v106, v107, v108, v109, v110, v111, v112, v113, v114, v115, v116, v117, v118, v119, v120, v121, v122, v123, v124, v125, v126, v127, v128, v129, v130, v131, v132, v133, v134, v135, v136, v137, v138, v139, v140, v141, v142, v143, v144, v145, v146, v147, v148, v149, v150], []⟩ W') :
  oaR6.wp Tryz.prog (Norm R) ⟨#[v0, v1, l, v3, v4, v5, v6, v7, v8, v9, v10, v11, Value.pointer (some ⟨wb, 0, none⟩), v13, v14, v15, v16, v17, v18, v19, v20, v21, v22, v23, v24, v25, v26, v27, v28, v29, v30, v31, v32, v33, v34, v35, v36, v37, v38, v39, v40, v41, v42, v43, v44, v45, v46, v47, v48, v49, v50, v51, v52, v53, v54, v55, v56, v57, v58, v59, v60, v61, v62, v63, v64, v65, v66, v67, v68, v69, v70, v71, v72, v73, v74, v75, v76, v77, v78, v79, v80, v81, v82, v83, v84, v85, v86, v87, v88, v89, v90, v91, v92, v93, v94, v95, v96, v97, v98, v99, v100, v101, v102, v103, v104, v105, v106, v107, v108, v109, v110, v111, v112, v113, v114, v115, v116, v117, v118, v119, v120, v121, v122, v123, v124, v125, v126, v127, v128, v129, v130, v131, v132, v133, v134, v135, v136, v137, v138, v139, v140, v141, v142, v143, v144, v145, v146, v147, v148, v149, v150], []⟩ W := by
 unfold oaR6
 conv => arg 2; whnf
 refine start_ (n := 22) (S := (oa_r6S wb d j r q)) (ds := []) (Sx36.b 22 0) (by kernel_rfl) rfl rfl (hS0 _ hP0) (fun hHeld => ?_); refine with_tabW oaT.tab6 oaT.bits6 (fun HT_ HW_ => ?_)
 have hP0_ := hP0
 clear hP0
 generalize W.drew = w0_ at hHeld hP0_ ⊢
 refine Sx36.p (i := 0) (N := some 26) HT_.out (Sx36.b 22 1) ?_
 refine Sx36.p (i := 1) (N := some 27) HT_.out (Sx36.b 22 3) ?_
 refine Sx36.p (i := 2) (N := some 28) HT_.out (Sx36.b 22 7) ?_
 refine take_ (i := 3) (N := some 29) (v := ?_) (a' := ?_) (Sx36.b 22 15) rfl rfl (take_ofW HT_.out HW_.out (by kernel_rfl)) (fun _ _ _ h => h) (Or.inl ⟨by rfl, ?_⟩) hHeld ?_ ?_
 rotate_left
 ·intro w' hS_
  obtain ⟨q0, q1, q2, q3⟩ := hS_
  go_simp
  with_reducible rfl
 rotate_left
 ·simp only [Act.put, List.setIfInBounds_toArray, List.set_cons_zero, List.set_cons_succ, i64_w, i32_w]
  rfl
 refine Sx36.p (i := 4) (N := some 30) HT_.out (Sx36.b 22 31) ?_
 refine Sx36.p (i := 5) (N := some 31) HT_.out (Sx36.b 22 63) ?_
 refine Sx36.p (i := 6) (N := some 32) HT_.out (Sx36.b 22 127) ?_
 refine Sx36.p (i := 7) (N := some 33) HT_.out (Sx36.b 22 255) ?_
 refine Sx36.p (i := 8) (N := some 34) HT_.out (Sx36.b 22 511) ?_
 refine Sx36.p (i := 10) (N := some 36) HT_.out (Sx36.b 22 1535) ?_
 refine Sx36.p (i := 13) (N := some 39) HT_.out (Sx36.b 22 9727) ?_
 refine Sx36.p (i := 14) (N := some 40) HT_.out (Sx36.b 22 26111) ?_
 refine Sx36.p (i := 15) (N := some 41) HT_.out (Sx36.b 22 58879) ?_
 refine Sx36.p (i := 17) (N := some 43) HT_.out (Sx36.b 22 189951) ?_
 refine take_ (i := 9) (N := some 35) (v := ?_) (a' := ?_) (Sx36.b 22 190463) rfl rfl (take_ofW HT_.out HW_.out (by kernel_rfl)) (fun _ _ _ h => h) (Or.inl ⟨by rfl, ?_⟩) hHeld ?_ ?_
 rotate_left
 ·intro w' hS_
  obtain ⟨q0, q1, q2, q3⟩ := hS_
  go_simp
  with_reducible rfl
 rotate_left
 ·simp only [Act.put, List.setIfInBounds_toArray, List.set_cons_zero, List.set_cons_succ, i64_w, i32_w]
  rfl
 refine take_ (i := 16) (N := some 42) (v := ?_) (a' := ?_) (Sx36.b 22 255999) rfl rfl (take_ofW HT_.out HW_.out (by kernel_rfl)) (fun _ _ _ h => h) (Or.inl ⟨by rfl, ?_⟩) hHeld ?_ ?_
 rotate_left
 ·intro w' hS_
  obtain ⟨q0, q1, q2, q3⟩ := hS_
  go_simp
  with_reducible rfl
 rotate_left
 ·simp only [Act.put, List.setIfInBounds_toArray, List.set_cons_zero, List.set_cons_succ, i64_w, i32_w]
  rfl
 refine one_ (i := 11) (N := some 37) (Sx36.b 22 258047) rfl rfl (one_of HT_.out (by kernel_rfl)) (by decide) (fun K hK => ?_)
 refine goes_ Tryz.func11 (by kernel_rfl) rfl #[l] (by rfl) rfl rfl (by (try simp only [List.map_toArray, List.map_cons, List.map_nil]); first | done | rfl) ?_
 refine (hc11 _ hP0_).mono ?_
 rintro e wc11_ ⟨u1, rfl, hp11_⟩
 refine ⟨_, rfl, ?_⟩
 refine hK.out _ _ (hS11 _ u1 hp11_) (fun hHeld => ?_)
 clear hK K
 refine norm_ (a' := ?_) ?_ ?_
 rotate_left
 ·show Act.put _ (some 37) _ = _
  simp only [Act.put, List.setIfInBounds_toArray, List.set_cons_zero, List.set_cons_succ, i64_w, i32_w]
  rfl
 refine one_ (i := 12) (N := some 38) (Sx36.b 22 262143) rfl rfl (one_of HT_.out (by kernel_rfl)) (by decide) (fun K hK => ?_)
 refine goes_ Tryz.func10 (by kernel_rfl) rfl #[.pointer (some ⟨j, 0, none⟩), u1] (by rfl) rfl rfl (by (try simp only [List.map_toArray, List.map_cons, List.map_nil]); first | done | rfl) ?_
 refine (hc12 _ u1 hp11_).mono ?_
 rintro e wc12_ ⟨rfl, hp12_⟩
 refine ⟨_, rfl, ?_⟩
 refine hK.out _ _ (hS12 _ hp12_) (fun hHeld => ?_)
 clear hK K
 refine norm_ (a' := ?_) ?_ ?_
 rotate_left
 ·show Act.put _ (some 38) _ = _
  simp only [Act.put, List.setIfInBounds_toArray, List.set_cons_zero, List.set_cons_succ, i64_w, i32_w]
  rfl
 refine one_ (i := 18) (N := some 44) (Sx36.b 22 524287) rfl rfl (one_of HT_.out (by kernel_rfl)) (by decide) (fun K hK => ?_)
 refine goes_ Tryz.func11 (by kernel_rfl) rfl #[l] (by rfl) rfl rfl (by (try simp only [List.map_toArray, List.map_cons, List.map_nil]); first | done | rfl) ?_
 refine (hc18 _ hp12_).mono ?_
 rintro e wc18_ ⟨u2, rfl, hp18_⟩
 refine ⟨_, rfl, ?_⟩
 refine hK.out _ _ (hS18 _ u2 hp18_) (fun hHeld => ?_)
 clear hK K
 refine norm_ (a' := ?_) ?_ ?_
 rotate_left
 ·show Act.put _ (some 44) _ = _
  simp only [Act.put, List.setIfInBounds_toArray, List.set_cons_zero, List.set_cons_succ, i64_w, i32_w]
  rfl
 refine one_ (i := 19) (N := some 45) (Sx36.b 22 1048575) rfl rfl (one_of HT_.out (by kernel_rfl)) (by decide) (fun K hK => ?_)
 refine goes_ Tryz.func12 (by kernel_rfl) rfl #[.pointer (some ⟨q, 0, none⟩), u2] (by rfl) rfl rfl (by (try simp only [List.map_toArray, List.map_cons, List.map_nil]); first | done | rfl) ?_
 refine (hc19 _ u2 hp18_).mono ?_
 rintro e wc19_ ⟨rfl, hp19_⟩
 refine ⟨_, rfl, ?_⟩
 refine hK.out _ _ (hS19 _ hp19_) (fun hHeld => ?_)
 clear hK K
 refine norm_ (a' := ?_) ?_ ?_
 rotate_left
 ·show Act.put _ (some 45) _ = _
  simp only [Act.put, List.setIfInBounds_toArray, List.set_cons_zero, List.set_cons_succ, i64_w, i32_w]
  rfl
 refine Sx36.p (i := 20) (N := some 46) HT_.out (Sx36.b 22 2097151) ?_
 refine Sx36.p (i := 21) (N := some 47) HT_.out (Sx36.b 22 4194303) ?_
 refine done_ (done_of HT_.out (by kernel_rfl)) ?_
 exact hQ _ _ _ _ _ _ _ _ _ _ _ _ _ _ _ _ _ _ _ _ _ _ hp19_
def oa_r8S (wb : Nat) (d : Nat) (r : Nat) (V_ : World) : Prop := V_.cell? ⟨wb, 0, none⟩ = some (.pointer (some ⟨d, 0, none⟩)) ∧ V_.cell? ⟨wb, 2, none⟩ = some (.pointer (some ⟨r, 0, none⟩))
def oaT.T8 : Bool × List (List Nat × List Nat) := (true, [([], []), ([0], [0]), ([1], [1]), ([2], [2]), ([], []), ([], []), ([5], [5]), ([4, 6, 6], [4, 6]), ([], []), ([8], [8]), ([9], [9]), ([3, 7, 10, 7], [3, 7, 10])])
def oaT.B8 : List Nat := [0, 1, 3, 7, 0, 0, 32, 112, 0, 256, 768, 2047]
theorem oaT.tab8 : rtab .any (opsOf Tryz.f3 8) = oaT.T8 := by kernel_rfl
theorem oaT.bits8 : waitsOk oaT.T8.2 oaT.B8 = true := by kernel_rfl
noncomputable def oaR8 : Code := ((Tryz.f3.body.bind (regionOf 8)).getD .skip)
set_option maxHeartbeats 8000000 in
set_option maxRecDepth 100000 in
theorem oa_r8 (R : Act → World → Prop) (W : World) (v1 v2 v5 v6 v7 v8 v9 v10 v11 v13 v14 v15 v16 v17 v18 v19 v20 v21 v22 v23 v24 v25 v26 v27 v28 v29 v30 v31 v32 v33 v34 v35 v36 v37 v38 v39 v40 v41 v42 v43 v44 v45 v46 v47 v48 v49 v50 v51 v52 v53 v54 v55 v56 v57 v58 v59 v60 v61 v62 v63 v64 v65 v66 v67 v68 v69 v70 v71 v72 v73 v74 v75 v76 v77 v78 v79 v80 v81 v82 v83 v84 v85 v86 v87 v88 v89 v90 v91 v92 v93 v94 v95 v96 v97 v98 v99 v100 v101 v102 v103 v104 v105 v106 v107 v108 v109 v110 v111 v112 v113 v114 v115 v116 v117 v118 v119 v120 v121 v122 v123 v124 v125 v126 v127 v128 v129 v130 v131 v132 v133 v134 v135 v136 v137 v138 v139 v140 v141 v142 v143 v144 v145 v146 v147 v148 v149 v150 : Value) (wb d r N k c : Nat) (n at_ x : Int) (P0 P11 : World → Prop)
  (hcn : c < 256) (hD : ∀ V V', Drawn0 V V' → P0 V → P0 V') (hA : ∀ V o, P0 V → P0 (V.alloc o))
  (hc6 : ∀ V, Calls Tryz.prog 15 #[.int .i64 n] V fun e w' => e = .returned (.int .i64 (N : Int)) ∧ Drawn0 V w') (hc7 : ∀ V, Calls Tryz.prog 14 #[.int .i64 at_, .int .i64 (N : Int)] V fun e w' => e = .returned (.int .i64 (k : Int)) ∧ Drawn0 V w')
  (hc11 : ∀ V, P0 V → Calls Tryz.prog 13 #[.pointer (some ⟨d, 0, none⟩), .int .i64 (k : Int), .string (ofB [c])] V fun e w' => e = .returned (.int .i64 x) ∧ P11 w') (hS11 : ∀ V, P11 V → oa_r8S wb d r V)
  (hP0 : P0 W.drew)
  (hS0 : ∀ V, P0 V → oa_r8S wb d r V)
  (hQ : ∀ (z48 z49 z50 z51 z52 z53 z54 z55 z56 z57 z58 : Value) (W' : World), P11 W' → R ⟨#[Value.int .i64 n, v1, v2, Value.int .i64 at_, Value.int .u8 (c : Int), v5, v6, v7, v8, v9, v10, v11, Value.pointer (some ⟨wb, 0, none⟩), v13, v14, v15, v16, v17, v18, v19, v20, v21, v22, v23, v24, v25, v26, v27, v28, v29, v30, v31, v32, v33, v34, v35, v36, v37, v38, v39, v40, v41, v42, v43, v44, v45, v46, v47, z48, z49, z50, z51, z52, z53, z54, z55, z56, z57, z58, Value.int .i64 x, v60, v61, v62, v63, v64, v65, v66, v67, v68, v69, v70, v71, v72, v73, v74, v75, v76, v77, v78, v79, v80, v81, v82, v83, v84, v85, v86, v87, v88, v89, v90, v91, v92, v93, v94, v95, v96, v97, v98, v99, v100, v101, v102, v103, v104, v105, v106, v107, v108, v109, v110, v111, v112, v113, v114, v115, v116, v117, v118, v119, v120, v121, v122, v123, v124, v125, v126, v127, v128, v129, v130, v131, v132, v133, v134, v135, v136, v137, v138, v139, v140, v141, v142, v143, v144, v145, v146, v147, v148, v149, v150], []⟩ W') :
  oaR8.wp Tryz.prog (Norm R) ⟨#[Value.int .i64 n, v1, v2, Value.int .i64 at_, Value.int .u8 (c : Int), v5, v6, v7, v8, v9, v10, v11, Value.pointer (some ⟨wb, 0, none⟩), v13, v14, v15, v16, v17, v18, v19, v20, v21, v22, v23, v24, v25, v26, v27, v28, v29, v30, v31, v32, v33, v34, v35, v36, v37, v38, v39, v40, v41, v42, v43, v44, v45, v46, v47, v48, v49, v50, v51, v52, v53, v54, v55, v56, v57, v58, v59, v60, v61, v62, v63, v64, v65, v66, v67, v68, v69, v70, v71, v72, v73, v74, v75, v76, v77, v78, v79, v80, v81, v82, v83, v84, v85, v86, v87, v88, v89, v90, v91, v92, v93, v94, v95, v96, v97, v98, v99, v100, v101, v102, v103, v104, v105, v106, v107, v108, v109, v110, v111, v112, v113, v114, v115, v116, v117, v118, v119, v120, v121, v122, v123, v124, v125, v126, v127, v128, v129, v130, v131, v132, v133, v134, v135, v136, v137, v138, v139, v140, v141, v142, v143, v144, v145, v146, v147, v148, v149, v150], []⟩ W := by
 unfold oaR8
 conv => arg 2; whnf
 refine start_ (n := 12) (S := (oa_r8S wb d r)) (ds := []) (Sx36.b 12 0) (by kernel_rfl) rfl rfl (hS0 _ hP0) (fun hHeld => ?_); refine with_tabW oaT.tab8 oaT.bits8 (fun HT_ HW_ => ?_)
 have hP0_ := hP0
 clear hP0
 generalize W.drew = w0_ at hHeld hP0_ ⊢
 refine Sx36.p (i := 0) (N := some 48) HT_.out (Sx36.b 12 1) ?_
 refine Sx36.p (i := 1) (N := some 49) HT_.out (Sx36.b 12 3) ?_
 refine Sx36.p (i := 2) (N := some 50) HT_.out (Sx36.b 12 7) ?_
 refine Sx36.p (i := 4) (N := some 52) HT_.out (Sx36.b 12 23) ?_
 refine Sx36.p (i := 5) (N := some 53) HT_.out (Sx36.b 12 55) ?_
 refine Sx36.p (i := 8) (N := some 56) HT_.out (Sx36.b 12 311) ?_
 refine take_ (i := 3) (N := some 51) (v := ?_) (a' := ?_) (Sx36.b 12 319) rfl rfl (take_ofW HT_.out HW_.out (by kernel_rfl)) (fun _ _ _ h => h) (Or.inl ⟨by rfl, ?_⟩) hHeld ?_ ?_
 rotate_left
 ·intro w' hS_
  obtain ⟨q0, q2⟩ := hS_
  go_simp
  with_reducible rfl
 rotate_left
 ·simp only [Act.put, List.setIfInBounds_toArray, List.set_cons_zero, List.set_cons_succ, i64_w, i32_w]
  rfl
 refine two_ (i := 6) (j := 9) (Ni := some 54) (Nj := some 57) (Sx36.b 12 383) (Sx36.b 12 831) rfl rfl rfl rfl (two_of HT_.out (by kernel_rfl)) (by decide) (by decide) (fun K hK => ?_) (fun K hK => ?_)
 ·skip
  refine goes_ Tryz.func15 (by kernel_rfl) rfl #[.int .i64 n] (by rfl) rfl rfl (by (try simp only [List.map_toArray, List.map_cons, List.map_nil]); first | done | rfl) ?_
  refine (hc6 _).mono ?_
  rintro e wq54_ ⟨rfl, hd_⟩
  refine ⟨_, rfl, ?_⟩
  refine hK.out _ _ (hS0 _ (hD _ _ hd_ hP0_)) (fun hHeld => ?_)
  have hP0_ := hD _ _ hd_ hP0_
  try (have hg_ := blk_below hg_ hd_.below)
  clear hK K hd_
  refine norm_ (a' := ?_) ?_ ?_
  rotate_left
  ·show Act.put _ (some 54) _ = _
   simp only [Act.put, List.setIfInBounds_toArray, List.set_cons_zero, List.set_cons_succ, i64_w, i32_w]
   rfl
  refine two_ (i := 7) (j := 9) (Ni := some 55) (Nj := some 57) (Sx36.b 12 511) (Sx36.b 12 895) rfl rfl rfl rfl (two_of HT_.out (by kernel_rfl)) (by decide) (by decide) (fun K hK => ?_) (fun K hK => ?_)
  ·skip
   refine goes_ Tryz.func14 (by kernel_rfl) rfl #[.int .i64 at_, .int .i64 (N : Int)] (by rfl) rfl rfl (by (try simp only [List.map_toArray, List.map_cons, List.map_nil]); first | done | rfl) ?_
   refine (hc7 _).mono ?_
   rintro e wq55_ ⟨rfl, hd_⟩
   refine ⟨_, rfl, ?_⟩
   refine hK.out _ _ (hS0 _ (hD _ _ hd_ hP0_)) (fun hHeld => ?_)
   have hP0_ := hD _ _ hd_ hP0_
   try (have hg_ := blk_below hg_ hd_.below)
   clear hK K hd_
   refine norm_ (a' := ?_) ?_ ?_
   rotate_left
   ·show Act.put _ (some 55) _ = _
    simp only [Act.put, List.setIfInBounds_toArray, List.set_cons_zero, List.set_cons_succ, i64_w, i32_w]
    rfl
   refine one_ (i := 9) (N := some 57) (Sx36.b 12 1023) rfl rfl (one_of HT_.out (by kernel_rfl)) (by decide) (fun K hK => ?_)
   go_simp
   refine hK.out _ _ (hS0 _ (hA _ _ hP0_)) (fun hHeld => ?_)
   have hP0_ := hA _ (.cells #[.int .u8 (c : Int)] 5) hP0_
   have hg_ := heapNew (P := P0) hP0_
   clear hK K
   refine one_ (i := 10) (N := some 58) (Sx36.b 12 2047) rfl rfl (one_of HT_.out (by kernel_rfl)) (by decide) (fun K hK => ?_)
   have hcv_ := conv_byte c hcn hg_
   go_simp
   refine hK.out _ _ hHeld (fun hHeld => ?_)
   clear hK K
   refine one_ (i := 11) (N := some 59) (Sx36.b 12 4095) rfl rfl (one_of HT_.out (by kernel_rfl)) (by decide) (fun K hK => ?_)
   refine goes_ Tryz.func13 (by kernel_rfl) rfl #[.pointer (some ⟨d, 0, none⟩), .int .i64 (k : Int), .string (ofB [c])] (by rfl) rfl rfl (by (try simp only [List.map_toArray, List.map_cons, List.map_nil]); first | done | rfl) ?_
   refine (hc11 _ hP0_).mono ?_
   rintro e wc_ ⟨rfl, hp_⟩
   refine ⟨_, rfl, ?_⟩
   refine hK.out _ _ (hS11 _ hp_) (fun hHeld => ?_)
   clear hK K
   refine norm_ (a' := ?_) ?_ ?_
   rotate_left
   ·show Act.put _ (some 59) _ = _
    simp only [Act.put, List.setIfInBounds_toArray, List.set_cons_zero, List.set_cons_succ, i64_w, i32_w]
    rfl
   refine done_ (done_of HT_.out (by kernel_rfl)) ?_
   exact hQ _ _ _ _ _ _ _ _ _ _ _ _ hp_
  ·skip
   go_simp
   refine hK.out _ _ (hS0 _ (hA _ _ hP0_)) (fun hHeld => ?_)
   have hP0_ := hA _ (.cells #[.int .u8 (c : Int)] 5) hP0_
   have hg_ := heapNew (P := P0) hP0_
   clear hK K
   refine two_ (i := 7) (j := 10) (Ni := some 55) (Nj := some 58) (Sx36.b 12 1023) (Sx36.b 12 1919) rfl rfl rfl rfl (two_of HT_.out (by kernel_rfl)) (by decide) (by decide) (fun K hK => ?_) (fun K hK => ?_)
   ·skip
    refine goes_ Tryz.func14 (by kernel_rfl) rfl #[.int .i64 at_, .int .i64 (N : Int)] (by rfl) rfl rfl (by (try simp only [List.map_toArray, List.map_cons, List.map_nil]); first | done | rfl) ?_
    refine (hc7 _).mono ?_
    rintro e wq55_ ⟨rfl, hd_⟩
    refine ⟨_, rfl, ?_⟩
    refine hK.out _ _ (hS0 _ (hD _ _ hd_ hP0_)) (fun hHeld => ?_)
    have hP0_ := hD _ _ hd_ hP0_
    try (have hg_ := blk_below hg_ hd_.below)
    clear hK K hd_
    refine norm_ (a' := ?_) ?_ ?_
    rotate_left
    ·show Act.put _ (some 55) _ = _
     simp only [Act.put, List.setIfInBounds_toArray, List.set_cons_zero, List.set_cons_succ, i64_w, i32_w]
     rfl
    refine one_ (i := 10) (N := some 58) (Sx36.b 12 2047) rfl rfl (one_of HT_.out (by kernel_rfl)) (by decide) (fun K hK => ?_)
    have hcv_ := conv_byte c hcn hg_
    go_simp
    refine hK.out _ _ hHeld (fun hHeld => ?_)
    clear hK K
    refine one_ (i := 11) (N := some 59) (Sx36.b 12 4095) rfl rfl (one_of HT_.out (by kernel_rfl)) (by decide) (fun K hK => ?_)
    refine goes_ Tryz.func13 (by kernel_rfl) rfl #[.pointer (some ⟨d, 0, none⟩), .int .i64 (k : Int), .string (ofB [c])] (by rfl) rfl rfl (by (try simp only [List.map_toArray, List.map_cons, List.map_nil]); first | done | rfl) ?_
    refine (hc11 _ hP0_).mono ?_
    rintro e wc_ ⟨rfl, hp_⟩
    refine ⟨_, rfl, ?_⟩
    refine hK.out _ _ (hS11 _ hp_) (fun hHeld => ?_)
    clear hK K
    refine norm_ (a' := ?_) ?_ ?_
    rotate_left
    ·show Act.put _ (some 59) _ = _
     simp only [Act.put, List.setIfInBounds_toArray, List.set_cons_zero, List.set_cons_succ, i64_w, i32_w]
     rfl
    refine done_ (done_of HT_.out (by kernel_rfl)) ?_
    exact hQ _ _ _ _ _ _ _ _ _ _ _ _ hp_
   ·skip
    have hcv_ := conv_byte c hcn hg_
    go_simp
    refine hK.out _ _ hHeld (fun hHeld => ?_)
    clear hK K
    refine one_ (i := 7) (N := some 55) (Sx36.b 12 2047) rfl rfl (one_of HT_.out (by kernel_rfl)) (by decide) (fun K hK => ?_)
    refine goes_ Tryz.func14 (by kernel_rfl) rfl #[.int .i64 at_, .int .i64 (N : Int)] (by rfl) rfl rfl (by (try simp only [List.map_toArray, List.map_cons, List.map_nil]); first | done | rfl) ?_
    refine (hc7 _).mono ?_
    rintro e wq55_ ⟨rfl, hd_⟩
    refine ⟨_, rfl, ?_⟩
    refine hK.out _ _ (hS0 _ (hD _ _ hd_ hP0_)) (fun hHeld => ?_)
    have hP0_ := hD _ _ hd_ hP0_
    try (have hg_ := blk_below hg_ hd_.below)
    clear hK K hd_
    refine norm_ (a' := ?_) ?_ ?_
    rotate_left
    ·show Act.put _ (some 55) _ = _
     simp only [Act.put, List.setIfInBounds_toArray, List.set_cons_zero, List.set_cons_succ, i64_w, i32_w]
     rfl
    refine one_ (i := 11) (N := some 59) (Sx36.b 12 4095) rfl rfl (one_of HT_.out (by kernel_rfl)) (by decide) (fun K hK => ?_)
    refine goes_ Tryz.func13 (by kernel_rfl) rfl #[.pointer (some ⟨d, 0, none⟩), .int .i64 (k : Int), .string (ofB [c])] (by rfl) rfl rfl (by (try simp only [List.map_toArray, List.map_cons, List.map_nil]); first | done | rfl) ?_
    refine (hc11 _ hP0_).mono ?_
    rintro e wc_ ⟨rfl, hp_⟩
    refine ⟨_, rfl, ?_⟩
    refine hK.out _ _ (hS11 _ hp_) (fun hHeld => ?_)
    clear hK K
    refine norm_ (a' := ?_) ?_ ?_
    rotate_left
    ·show Act.put _ (some 59) _ = _
     simp only [Act.put, List.setIfInBounds_toArray, List.set_cons_zero, List.set_cons_succ, i64_w, i32_w]
     rfl
    refine done_ (done_of HT_.out (by kernel_rfl)) ?_
    exact hQ _ _ _ _ _ _ _ _ _ _ _ _ hp_
 ·skip
  go_simp
  refine hK.out _ _ (hS0 _ (hA _ _ hP0_)) (fun hHeld => ?_)
  have hP0_ := hA _ (.cells #[.int .u8 (c : Int)] 5) hP0_
  have hg_ := heapNew (P := P0) hP0_
  clear hK K
  refine two_ (i := 6) (j := 10) (Ni := some 54) (Nj := some 58) (Sx36.b 12 895) (Sx36.b 12 1855) rfl rfl rfl rfl (two_of HT_.out (by kernel_rfl)) (by decide) (by decide) (fun K hK => ?_) (fun K hK => ?_)
  ·skip
   refine goes_ Tryz.func15 (by kernel_rfl) rfl #[.int .i64 n] (by rfl) rfl rfl (by (try simp only [List.map_toArray, List.map_cons, List.map_nil]); first | done | rfl) ?_
   refine (hc6 _).mono ?_
   rintro e wq54_ ⟨rfl, hd_⟩
   refine ⟨_, rfl, ?_⟩
   refine hK.out _ _ (hS0 _ (hD _ _ hd_ hP0_)) (fun hHeld => ?_)
   have hP0_ := hD _ _ hd_ hP0_
   try (have hg_ := blk_below hg_ hd_.below)
   clear hK K hd_
   refine norm_ (a' := ?_) ?_ ?_
   rotate_left
   ·show Act.put _ (some 54) _ = _
    simp only [Act.put, List.setIfInBounds_toArray, List.set_cons_zero, List.set_cons_succ, i64_w, i32_w]
    rfl
   refine two_ (i := 7) (j := 10) (Ni := some 55) (Nj := some 58) (Sx36.b 12 1023) (Sx36.b 12 1919) rfl rfl rfl rfl (two_of HT_.out (by kernel_rfl)) (by decide) (by decide) (fun K hK => ?_) (fun K hK => ?_)
   ·skip
    refine goes_ Tryz.func14 (by kernel_rfl) rfl #[.int .i64 at_, .int .i64 (N : Int)] (by rfl) rfl rfl (by (try simp only [List.map_toArray, List.map_cons, List.map_nil]); first | done | rfl) ?_
    refine (hc7 _).mono ?_
    rintro e wq55_ ⟨rfl, hd_⟩
    refine ⟨_, rfl, ?_⟩
    refine hK.out _ _ (hS0 _ (hD _ _ hd_ hP0_)) (fun hHeld => ?_)
    have hP0_ := hD _ _ hd_ hP0_
    try (have hg_ := blk_below hg_ hd_.below)
    clear hK K hd_
    refine norm_ (a' := ?_) ?_ ?_
    rotate_left
    ·show Act.put _ (some 55) _ = _
     simp only [Act.put, List.setIfInBounds_toArray, List.set_cons_zero, List.set_cons_succ, i64_w, i32_w]
     rfl
    refine one_ (i := 10) (N := some 58) (Sx36.b 12 2047) rfl rfl (one_of HT_.out (by kernel_rfl)) (by decide) (fun K hK => ?_)
    have hcv_ := conv_byte c hcn hg_
    go_simp
    refine hK.out _ _ hHeld (fun hHeld => ?_)
    clear hK K
    refine one_ (i := 11) (N := some 59) (Sx36.b 12 4095) rfl rfl (one_of HT_.out (by kernel_rfl)) (by decide) (fun K hK => ?_)
    refine goes_ Tryz.func13 (by kernel_rfl) rfl #[.pointer (some ⟨d, 0, none⟩), .int .i64 (k : Int), .string (ofB [c])] (by rfl) rfl rfl (by (try simp only [List.map_toArray, List.map_cons, List.map_nil]); first | done | rfl) ?_
    refine (hc11 _ hP0_).mono ?_
    rintro e wc_ ⟨rfl, hp_⟩
    refine ⟨_, rfl, ?_⟩
    refine hK.out _ _ (hS11 _ hp_) (fun hHeld => ?_)
    clear hK K
    refine norm_ (a' := ?_) ?_ ?_
    rotate_left
    ·show Act.put _ (some 59) _ = _
     simp only [Act.put, List.setIfInBounds_toArray, List.set_cons_zero, List.set_cons_succ, i64_w, i32_w]
     rfl
    refine done_ (done_of HT_.out (by kernel_rfl)) ?_
    exact hQ _ _ _ _ _ _ _ _ _ _ _ _ hp_
   ·skip
    have hcv_ := conv_byte c hcn hg_
    go_simp
    refine hK.out _ _ hHeld (fun hHeld => ?_)
    clear hK K
    refine one_ (i := 7) (N := some 55) (Sx36.b 12 2047) rfl rfl (one_of HT_.out (by kernel_rfl)) (by decide) (fun K hK => ?_)
    refine goes_ Tryz.func14 (by kernel_rfl) rfl #[.int .i64 at_, .int .i64 (N : Int)] (by rfl) rfl rfl (by (try simp only [List.map_toArray, List.map_cons, List.map_nil]); first | done | rfl) ?_
    refine (hc7 _).mono ?_
    rintro e wq55_ ⟨rfl, hd_⟩
    refine ⟨_, rfl, ?_⟩
    refine hK.out _ _ (hS0 _ (hD _ _ hd_ hP0_)) (fun hHeld => ?_)
    have hP0_ := hD _ _ hd_ hP0_
    try (have hg_ := blk_below hg_ hd_.below)
    clear hK K hd_
    refine norm_ (a' := ?_) ?_ ?_
    rotate_left
    ·show Act.put _ (some 55) _ = _
     simp only [Act.put, List.setIfInBounds_toArray, List.set_cons_zero, List.set_cons_succ, i64_w, i32_w]
     rfl
    refine one_ (i := 11) (N := some 59) (Sx36.b 12 4095) rfl rfl (one_of HT_.out (by kernel_rfl)) (by decide) (fun K hK => ?_)
    refine goes_ Tryz.func13 (by kernel_rfl) rfl #[.pointer (some ⟨d, 0, none⟩), .int .i64 (k : Int), .string (ofB [c])] (by rfl) rfl rfl (by (try simp only [List.map_toArray, List.map_cons, List.map_nil]); first | done | rfl) ?_
    refine (hc11 _ hP0_).mono ?_
    rintro e wc_ ⟨rfl, hp_⟩
    refine ⟨_, rfl, ?_⟩
    refine hK.out _ _ (hS11 _ hp_) (fun hHeld => ?_)
    clear hK K
    refine norm_ (a' := ?_) ?_ ?_
    rotate_left
    ·show Act.put _ (some 59) _ = _
     simp only [Act.put, List.setIfInBounds_toArray, List.set_cons_zero, List.set_cons_succ, i64_w, i32_w]
     rfl
    refine done_ (done_of HT_.out (by kernel_rfl)) ?_
    exact hQ _ _ _ _ _ _ _ _ _ _ _ _ hp_
  ·skip
   have hcv_ := conv_byte c hcn hg_
   go_simp
   refine hK.out _ _ hHeld (fun hHeld => ?_)
   clear hK K
   refine one_ (i := 6) (N := some 54) (Sx36.b 12 1919) rfl rfl (one_of HT_.out (by kernel_rfl)) (by decide) (fun K hK => ?_)
   refine goes_ Tryz.func15 (by kernel_rfl) rfl #[.int .i64 n] (by rfl) rfl rfl (by (try simp only [List.map_toArray, List.map_cons, List.map_nil]); first | done | rfl) ?_
   refine (hc6 _).mono ?_
   rintro e wq54_ ⟨rfl, hd_⟩
   refine ⟨_, rfl, ?_⟩
   refine hK.out _ _ (hS0 _ (hD _ _ hd_ hP0_)) (fun hHeld => ?_)
   have hP0_ := hD _ _ hd_ hP0_
   try (have hg_ := blk_below hg_ hd_.below)
   clear hK K hd_
   refine norm_ (a' := ?_) ?_ ?_
   rotate_left
   ·show Act.put _ (some 54) _ = _
    simp only [Act.put, List.setIfInBounds_toArray, List.set_cons_zero, List.set_cons_succ, i64_w, i32_w]
    rfl
   refine one_ (i := 7) (N := some 55) (Sx36.b 12 2047) rfl rfl (one_of HT_.out (by kernel_rfl)) (by decide) (fun K hK => ?_)
   refine goes_ Tryz.func14 (by kernel_rfl) rfl #[.int .i64 at_, .int .i64 (N : Int)] (by rfl) rfl rfl (by (try simp only [List.map_toArray, List.map_cons, List.map_nil]); first | done | rfl) ?_
   refine (hc7 _).mono ?_
   rintro e wq55_ ⟨rfl, hd_⟩
   refine ⟨_, rfl, ?_⟩
   refine hK.out _ _ (hS0 _ (hD _ _ hd_ hP0_)) (fun hHeld => ?_)
   have hP0_ := hD _ _ hd_ hP0_
   try (have hg_ := blk_below hg_ hd_.below)
   clear hK K hd_
   refine norm_ (a' := ?_) ?_ ?_
   rotate_left
   ·show Act.put _ (some 55) _ = _
    simp only [Act.put, List.setIfInBounds_toArray, List.set_cons_zero, List.set_cons_succ, i64_w, i32_w]
    rfl
   refine one_ (i := 11) (N := some 59) (Sx36.b 12 4095) rfl rfl (one_of HT_.out (by kernel_rfl)) (by decide) (fun K hK => ?_)
   refine goes_ Tryz.func13 (by kernel_rfl) rfl #[.pointer (some ⟨d, 0, none⟩), .int .i64 (k : Int), .string (ofB [c])] (by rfl) rfl rfl (by (try simp only [List.map_toArray, List.map_cons, List.map_nil]); first | done | rfl) ?_
   refine (hc11 _ hP0_).mono ?_
   rintro e wc_ ⟨rfl, hp_⟩
   refine ⟨_, rfl, ?_⟩
   refine hK.out _ _ (hS11 _ hp_) (fun hHeld => ?_)
   clear hK K
   refine norm_ (a' := ?_) ?_ ?_
   rotate_left
   ·show Act.put _ (some 59) _ = _
    simp only [Act.put, List.setIfInBounds_toArray, List.set_cons_zero, List.set_cons_succ, i64_w, i32_w]
    rfl
   refine done_ (done_of HT_.out (by kernel_rfl)) ?_
   exact hQ _ _ _ _ _ _ _ _ _ _ _ _ hp_
def oa_r9S (wb : Nat) (d : Nat) (r : Nat) (V_ : World) : Prop := V_.cell? ⟨wb, 0, none⟩ = some (.pointer (some ⟨d, 0, none⟩)) ∧ V_.cell? ⟨wb, 2, none⟩ = some (.pointer (some ⟨r, 0, none⟩))
def oaT.T9 : Bool × List (List Nat × List Nat) := (true, [([], []), ([0], [0]), ([1], [1]), ([2], [2]), ([], []), ([], []), ([5], [5]), ([4, 6, 6], [4, 6]), ([], []), ([8], [8]), ([9], [9]), ([3, 7, 10, 7], [3, 7, 10])])
def oaT.B9 : List Nat := [0, 1, 3, 7, 0, 0, 32, 112, 0, 256, 768, 2047]
theorem oaT.tab9 : rtab .any (opsOf Tryz.f3 9) = oaT.T9 := by kernel_rfl
theorem oaT.bits9 : waitsOk oaT.T9.2 oaT.B9 = true := by kernel_rfl
noncomputable def oaR9 : Code := ((Tryz.f3.body.bind (regionOf 9)).getD .skip)
set_option maxHeartbeats 8000000 in
set_option maxRecDepth 100000 in
theorem oa_r9 (R : Act → World → Prop) (W : World) (v1 v2 v5 v6 v7 v8 v9 v10 v11 v13 v14 v15 v16 v17 v18 v19 v20 v21 v22 v23 v24 v25 v26 v27 v28 v29 v30 v31 v32 v33 v34 v35 v36 v37 v38 v39 v40 v41 v42 v43 v44 v45 v46 v47 v48 v49 v50 v51 v52 v53 v54 v55 v56 v57 v58 v59 v60 v61 v62 v63 v64 v65 v66 v67 v68 v69 v70 v71 v72 v73 v74 v75 v76 v77 v78 v79 v80 v81 v82 v83 v84 v85 v86 v87 v88 v89 v90 v91 v92 v93 v94 v95 v96 v97 v98 v99 v100 v101 v102 v103 v104 v105 v106 v107 v108 v109 v110 v111 v112 v113 v114 v115 v116 v117 v118 v119 v120 v121 v122 v123 v124 v125 v126 v127 v128 v129 v130 v131 v132 v133 v134 v135 v136 v137 v138 v139 v140 v141 v142 v143 v144 v145 v146 v147 v148 v149 v150 : Value) (wb d r N k c : Nat) (n at_ x : Int) (P0 P11 : World → Prop)
  (hcn : c < 256) (hD : ∀ V V', Drawn0 V V' → P0 V → P0 V') (hA : ∀ V o, P0 V → P0 (V.alloc o))
  (hc6 : ∀ V, Calls Tryz.prog 15 #[.int .i64 n] V fun e w' => e = .returned (.int .i64 (N : Int)) ∧ Drawn0 V w') (hc7 : ∀ V, Calls Tryz.prog 14 #[.int .i64 at_, .int .i64 (N : Int)] V fun e w' => e = .returned (.int .i64 (k : Int)) ∧ Drawn0 V w')
  (hc11 : ∀ V, P0 V → Calls Tryz.prog 16 #[.pointer (some ⟨r, 0, none⟩), .int .i64 (k : Int), .string (ofB [c])] V fun e w' => e = .returned (.int .i64 x) ∧ P11 w') (hS11 : ∀ V, P11 V → oa_r9S wb d r V)
  (hP0 : P0 W.drew)
  (hS0 : ∀ V, P0 V → oa_r9S wb d r V)
  (hQ : ∀ (z60 z61 z62 z63 z64 z65 z66 z67 z68 z69 z70 : Value) (W' : World), P11 W' → R ⟨#[Value.int .i64 n, v1, v2, Value.int .i64 at_, Value.int .u8 (c : Int), v5, v6, v7, v8, v9, v10, v11, Value.pointer (some ⟨wb, 0, none⟩), v13, v14, v15, v16, v17, v18, v19, v20, v21, v22, v23, v24, v25, v26, v27, v28, v29, v30, v31, v32, v33, v34, v35, v36, v37, v38, v39, v40, v41, v42, v43, v44, v45, v46, v47, v48, v49, v50, v51, v52, v53, v54, v55, v56, v57, v58, v59, z60, z61, z62, z63, z64, z65, z66, z67, z68, z69, z70, Value.int .i64 x, v72, v73, v74, v75, v76, v77, v78, v79, v80, v81, v82, v83, v84, v85, v86, v87, v88, v89, v90, v91, v92, v93, v94, v95, v96, v97, v98, v99, v100, v101, v102, v103, v104, v105, v106, v107, v108, v109, v110, v111, v112, v113, v114, v115, v116, v117, v118, v119, v120, v121, v122, v123, v124, v125, v126, v127, v128, v129, v130, v131, v132, v133, v134, v135, v136, v137, v138, v139, v140, v141, v142, v143, v144, v145, v146, v147, v148, v149, v150], []⟩ W') :
  oaR9.wp Tryz.prog (Norm R) ⟨#[Value.int .i64 n, v1, v2, Value.int .i64 at_, Value.int .u8 (c : Int), v5, v6, v7, v8, v9, v10, v11, Value.pointer (some ⟨wb, 0, none⟩), v13, v14, v15, v16, v17, v18, v19, v20, v21, v22, v23, v24, v25, v26, v27, v28, v29, v30, v31, v32, v33, v34, v35, v36, v37, v38, v39, v40, v41, v42, v43, v44, v45, v46, v47, v48, v49, v50, v51, v52, v53, v54, v55, v56, v57, v58, v59, v60, v61, v62, v63, v64, v65, v66, v67, v68, v69, v70, v71, v72, v73, v74, v75, v76, v77, v78, v79, v80, v81, v82, v83, v84, v85, v86, v87, v88, v89, v90, v91, v92, v93, v94, v95, v96, v97, v98, v99, v100, v101, v102, v103, v104, v105, v106, v107, v108, v109, v110, v111, v112, v113, v114, v115, v116, v117, v118, v119, v120, v121, v122, v123, v124, v125, v126, v127, v128, v129, v130, v131, v132, v133, v134, v135, v136, v137, v138, v139, v140, v141, v142, v143, v144, v145, v146, v147, v148, v149, v150], []⟩ W := by
 unfold oaR9
 conv => arg 2; whnf
 refine start_ (n := 12) (S := (oa_r9S wb d r)) (ds := []) (Sx36.b 12 0) (by kernel_rfl) rfl rfl (hS0 _ hP0) (fun hHeld => ?_); refine with_tabW oaT.tab9 oaT.bits9 (fun HT_ HW_ => ?_)
 have hP0_ := hP0
 clear hP0
 generalize W.drew = w0_ at hHeld hP0_ ⊢
 refine Sx36.p (i := 0) (N := some 60) HT_.out (Sx36.b 12 1) ?_
 refine Sx36.p (i := 1) (N := some 61) HT_.out (Sx36.b 12 3) ?_
 refine Sx36.p (i := 2) (N := some 62) HT_.out (Sx36.b 12 7) ?_
 refine Sx36.p (i := 4) (N := some 64) HT_.out (Sx36.b 12 23) ?_
 refine Sx36.p (i := 5) (N := some 65) HT_.out (Sx36.b 12 55) ?_
 refine Sx36.p (i := 8) (N := some 68) HT_.out (Sx36.b 12 311) ?_
 refine take_ (i := 3) (N := some 63) (v := ?_) (a' := ?_) (Sx36.b 12 319) rfl rfl (take_ofW HT_.out HW_.out (by kernel_rfl)) (fun _ _ _ h => h) (Or.inl ⟨by rfl, ?_⟩) hHeld ?_ ?_
 rotate_left
 ·intro w' hS_
  obtain ⟨q0, q2⟩ := hS_
  go_simp
  with_reducible rfl
 rotate_left
 ·simp only [Act.put, List.setIfInBounds_toArray, List.set_cons_zero, List.set_cons_succ, i64_w, i32_w]
  rfl
 refine two_ (i := 6) (j := 9) (Ni := some 66) (Nj := some 69) (Sx36.b 12 383) (Sx36.b 12 831) rfl rfl rfl rfl (two_of HT_.out (by kernel_rfl)) (by decide) (by decide) (fun K hK => ?_) (fun K hK => ?_)
 ·skip
  refine goes_ Tryz.func15 (by kernel_rfl) rfl #[.int .i64 n] (by rfl) rfl rfl (by (try simp only [List.map_toArray, List.map_cons, List.map_nil]); first | done | rfl) ?_
  refine (hc6 _).mono ?_
  rintro e wq66_ ⟨rfl, hd_⟩
  refine ⟨_, rfl, ?_⟩
  refine hK.out _ _ (hS0 _ (hD _ _ hd_ hP0_)) (fun hHeld => ?_)
  have hP0_ := hD _ _ hd_ hP0_
  try (have hg_ := blk_below hg_ hd_.below)
  clear hK K hd_
  refine norm_ (a' := ?_) ?_ ?_
  rotate_left
  ·show Act.put _ (some 66) _ = _
   simp only [Act.put, List.setIfInBounds_toArray, List.set_cons_zero, List.set_cons_succ, i64_w, i32_w]
   rfl
  refine two_ (i := 7) (j := 9) (Ni := some 67) (Nj := some 69) (Sx36.b 12 511) (Sx36.b 12 895) rfl rfl rfl rfl (two_of HT_.out (by kernel_rfl)) (by decide) (by decide) (fun K hK => ?_) (fun K hK => ?_)
  ·skip
   refine goes_ Tryz.func14 (by kernel_rfl) rfl #[.int .i64 at_, .int .i64 (N : Int)] (by rfl) rfl rfl (by (try simp only [List.map_toArray, List.map_cons, List.map_nil]); first | done | rfl) ?_
   refine (hc7 _).mono ?_
   rintro e wq67_ ⟨rfl, hd_⟩
   refine ⟨_, rfl, ?_⟩
   refine hK.out _ _ (hS0 _ (hD _ _ hd_ hP0_)) (fun hHeld => ?_)
   have hP0_ := hD _ _ hd_ hP0_
   try (have hg_ := blk_below hg_ hd_.below)
   clear hK K hd_
   refine norm_ (a' := ?_) ?_ ?_
   rotate_left
   ·show Act.put _ (some 67) _ = _
    simp only [Act.put, List.setIfInBounds_toArray, List.set_cons_zero, List.set_cons_succ, i64_w, i32_w]
    rfl
   refine one_ (i := 9) (N := some 69) (Sx36.b 12 1023) rfl rfl (one_of HT_.out (by kernel_rfl)) (by decide) (fun K hK => ?_)
   go_simp
   refine hK.out _ _ (hS0 _ (hA _ _ hP0_)) (fun hHeld => ?_)
   have hP0_ := hA _ (.cells #[.int .u8 (c : Int)] 5) hP0_
   have hg_ := heapNew (P := P0) hP0_
   clear hK K
   refine one_ (i := 10) (N := some 70) (Sx36.b 12 2047) rfl rfl (one_of HT_.out (by kernel_rfl)) (by decide) (fun K hK => ?_)
   have hcv_ := conv_byte c hcn hg_
   go_simp
   refine hK.out _ _ hHeld (fun hHeld => ?_)
   clear hK K
   refine one_ (i := 11) (N := some 71) (Sx36.b 12 4095) rfl rfl (one_of HT_.out (by kernel_rfl)) (by decide) (fun K hK => ?_)
   refine goes_ Tryz.func16 (by kernel_rfl) rfl #[.pointer (some ⟨r, 0, none⟩), .int .i64 (k : Int), .string (ofB [c])] (by rfl) rfl rfl (by (try simp only [List.map_toArray, List.map_cons, List.map_nil]); first | done | rfl) ?_
   refine (hc11 _ hP0_).mono ?_
   rintro e wc_ ⟨rfl, hp_⟩
   refine ⟨_, rfl, ?_⟩
   refine hK.out _ _ (hS11 _ hp_) (fun hHeld => ?_)
   clear hK K
   refine norm_ (a' := ?_) ?_ ?_
   rotate_left
   ·show Act.put _ (some 71) _ = _
    simp only [Act.put, List.setIfInBounds_toArray, List.set_cons_zero, List.set_cons_succ, i64_w, i32_w]
    rfl
   refine done_ (done_of HT_.out (by kernel_rfl)) ?_
   exact hQ _ _ _ _ _ _ _ _ _ _ _ _ hp_
  ·skip
   go_simp
   refine hK.out _ _ (hS0 _ (hA _ _ hP0_)) (fun hHeld => ?_)
   have hP0_ := hA _ (.cells #[.int .u8 (c : Int)] 5) hP0_
   have hg_ := heapNew (P := P0) hP0_
   clear hK K
   refine two_ (i := 7) (j := 10) (Ni := some 67) (Nj := some 70) (Sx36.b 12 1023) (Sx36.b 12 1919) rfl rfl rfl rfl (two_of HT_.out (by kernel_rfl)) (by decide) (by decide) (fun K hK => ?_) (fun K hK => ?_)
   ·skip
    refine goes_ Tryz.func14 (by kernel_rfl) rfl #[.int .i64 at_, .int .i64 (N : Int)] (by rfl) rfl rfl (by (try simp only [List.map_toArray, List.map_cons, List.map_nil]); first | done | rfl) ?_
    refine (hc7 _).mono ?_
    rintro e wq67_ ⟨rfl, hd_⟩
    refine ⟨_, rfl, ?_⟩
    refine hK.out _ _ (hS0 _ (hD _ _ hd_ hP0_)) (fun hHeld => ?_)
    have hP0_ := hD _ _ hd_ hP0_
    try (have hg_ := blk_below hg_ hd_.below)
    clear hK K hd_
    refine norm_ (a' := ?_) ?_ ?_
    rotate_left
    ·show Act.put _ (some 67) _ = _
     simp only [Act.put, List.setIfInBounds_toArray, List.set_cons_zero, List.set_cons_succ, i64_w, i32_w]
     rfl
    refine one_ (i := 10) (N := some 70) (Sx36.b 12 2047) rfl rfl (one_of HT_.out (by kernel_rfl)) (by decide) (fun K hK => ?_)
    have hcv_ := conv_byte c hcn hg_
    go_simp
    refine hK.out _ _ hHeld (fun hHeld => ?_)
    clear hK K
    refine one_ (i := 11) (N := some 71) (Sx36.b 12 4095) rfl rfl (one_of HT_.out (by kernel_rfl)) (by decide) (fun K hK => ?_)
    refine goes_ Tryz.func16 (by kernel_rfl) rfl #[.pointer (some ⟨r, 0, none⟩), .int .i64 (k : Int), .string (ofB [c])] (by rfl) rfl rfl (by (try simp only [List.map_toArray, List.map_cons, List.map_nil]); first | done | rfl) ?_
    refine (hc11 _ hP0_).mono ?_
    rintro e wc_ ⟨rfl, hp_⟩
    refine ⟨_, rfl, ?_⟩
    refine hK.out _ _ (hS11 _ hp_) (fun hHeld => ?_)
    clear hK K
    refine norm_ (a' := ?_) ?_ ?_
    rotate_left
    ·show Act.put _ (some 71) _ = _
     simp only [Act.put, List.setIfInBounds_toArray, List.set_cons_zero, List.set_cons_succ, i64_w, i32_w]
     rfl
    refine done_ (done_of HT_.out (by kernel_rfl)) ?_
    exact hQ _ _ _ _ _ _ _ _ _ _ _ _ hp_
   ·skip
    have hcv_ := conv_byte c hcn hg_
    go_simp
    refine hK.out _ _ hHeld (fun hHeld => ?_)
    clear hK K
    refine one_ (i := 7) (N := some 67) (Sx36.b 12 2047) rfl rfl (one_of HT_.out (by kernel_rfl)) (by decide) (fun K hK => ?_)
    refine goes_ Tryz.func14 (by kernel_rfl) rfl #[.int .i64 at_, .int .i64 (N : Int)] (by rfl) rfl rfl (by (try simp only [List.map_toArray, List.map_cons, List.map_nil]); first | done | rfl) ?_
    refine (hc7 _).mono ?_
    rintro e wq67_ ⟨rfl, hd_⟩
    refine ⟨_, rfl, ?_⟩
    refine hK.out _ _ (hS0 _ (hD _ _ hd_ hP0_)) (fun hHeld => ?_)
    have hP0_ := hD _ _ hd_ hP0_
    try (have hg_ := blk_below hg_ hd_.below)
    clear hK K hd_
    refine norm_ (a' := ?_) ?_ ?_
    rotate_left
    ·show Act.put _ (some 67) _ = _
     simp only [Act.put, List.setIfInBounds_toArray, List.set_cons_zero, List.set_cons_succ, i64_w, i32_w]
     rfl
    refine one_ (i := 11) (N := some 71) (Sx36.b 12 4095) rfl rfl (one_of HT_.out (by kernel_rfl)) (by decide) (fun K hK => ?_)
    refine goes_ Tryz.func16 (by kernel_rfl) rfl #[.pointer (some ⟨r, 0, none⟩), .int .i64 (k : Int), .string (ofB [c])] (by rfl) rfl rfl (by (try simp only [List.map_toArray, List.map_cons, List.map_nil]); first | done | rfl) ?_
    refine (hc11 _ hP0_).mono ?_
    rintro e wc_ ⟨rfl, hp_⟩
    refine ⟨_, rfl, ?_⟩
    refine hK.out _ _ (hS11 _ hp_) (fun hHeld => ?_)
    clear hK K
    refine norm_ (a' := ?_) ?_ ?_
    rotate_left
    ·show Act.put _ (some 71) _ = _
     simp only [Act.put, List.setIfInBounds_toArray, List.set_cons_zero, List.set_cons_succ, i64_w, i32_w]
     rfl
    refine done_ (done_of HT_.out (by kernel_rfl)) ?_
    exact hQ _ _ _ _ _ _ _ _ _ _ _ _ hp_
 ·skip
  go_simp
  refine hK.out _ _ (hS0 _ (hA _ _ hP0_)) (fun hHeld => ?_)
  have hP0_ := hA _ (.cells #[.int .u8 (c : Int)] 5) hP0_
  have hg_ := heapNew (P := P0) hP0_
  clear hK K
  refine two_ (i := 6) (j := 10) (Ni := some 66) (Nj := some 70) (Sx36.b 12 895) (Sx36.b 12 1855) rfl rfl rfl rfl (two_of HT_.out (by kernel_rfl)) (by decide) (by decide) (fun K hK => ?_) (fun K hK => ?_)
  ·skip
   refine goes_ Tryz.func15 (by kernel_rfl) rfl #[.int .i64 n] (by rfl) rfl rfl (by (try simp only [List.map_toArray, List.map_cons, List.map_nil]); first | done | rfl) ?_
   refine (hc6 _).mono ?_
   rintro e wq66_ ⟨rfl, hd_⟩
   refine ⟨_, rfl, ?_⟩
   refine hK.out _ _ (hS0 _ (hD _ _ hd_ hP0_)) (fun hHeld => ?_)
   have hP0_ := hD _ _ hd_ hP0_
   try (have hg_ := blk_below hg_ hd_.below)
   clear hK K hd_
   refine norm_ (a' := ?_) ?_ ?_
   rotate_left
   ·show Act.put _ (some 66) _ = _
    simp only [Act.put, List.setIfInBounds_toArray, List.set_cons_zero, List.set_cons_succ, i64_w, i32_w]
    rfl
   refine two_ (i := 7) (j := 10) (Ni := some 67) (Nj := some 70) (Sx36.b 12 1023) (Sx36.b 12 1919) rfl rfl rfl rfl (two_of HT_.out (by kernel_rfl)) (by decide) (by decide) (fun K hK => ?_) (fun K hK => ?_)
   ·skip
    refine goes_ Tryz.func14 (by kernel_rfl) rfl #[.int .i64 at_, .int .i64 (N : Int)] (by rfl) rfl rfl (by (try simp only [List.map_toArray, List.map_cons, List.map_nil]); first | done | rfl) ?_
    refine (hc7 _).mono ?_
    rintro e wq67_ ⟨rfl, hd_⟩
    refine ⟨_, rfl, ?_⟩
    refine hK.out _ _ (hS0 _ (hD _ _ hd_ hP0_)) (fun hHeld => ?_)
    have hP0_ := hD _ _ hd_ hP0_
    try (have hg_ := blk_below hg_ hd_.below)
    clear hK K hd_
    refine norm_ (a' := ?_) ?_ ?_
    rotate_left
    ·show Act.put _ (some 67) _ = _
     simp only [Act.put, List.setIfInBounds_toArray, List.set_cons_zero, List.set_cons_succ, i64_w, i32_w]
     rfl
    refine one_ (i := 10) (N := some 70) (Sx36.b 12 2047) rfl rfl (one_of HT_.out (by kernel_rfl)) (by decide) (fun K hK => ?_)
    have hcv_ := conv_byte c hcn hg_
    go_simp
    refine hK.out _ _ hHeld (fun hHeld => ?_)
    clear hK K
    refine one_ (i := 11) (N := some 71) (Sx36.b 12 4095) rfl rfl (one_of HT_.out (by kernel_rfl)) (by decide) (fun K hK => ?_)
    refine goes_ Tryz.func16 (by kernel_rfl) rfl #[.pointer (some ⟨r, 0, none⟩), .int .i64 (k : Int), .string (ofB [c])] (by rfl) rfl rfl (by (try simp only [List.map_toArray, List.map_cons, List.map_nil]); first | done | rfl) ?_
    refine (hc11 _ hP0_).mono ?_
    rintro e wc_ ⟨rfl, hp_⟩
    refine ⟨_, rfl, ?_⟩
    refine hK.out _ _ (hS11 _ hp_) (fun hHeld => ?_)
    clear hK K
    refine norm_ (a' := ?_) ?_ ?_
    rotate_left
    ·show Act.put _ (some 71) _ = _
     simp only [Act.put, List.setIfInBounds_toArray, List.set_cons_zero, List.set_cons_succ, i64_w, i32_w]
     rfl
    refine done_ (done_of HT_.out (by kernel_rfl)) ?_
    exact hQ _ _ _ _ _ _ _ _ _ _ _ _ hp_
   ·skip
    have hcv_ := conv_byte c hcn hg_
    go_simp
    refine hK.out _ _ hHeld (fun hHeld => ?_)
    clear hK K
    refine one_ (i := 7) (N := some 67) (Sx36.b 12 2047) rfl rfl (one_of HT_.out (by kernel_rfl)) (by decide) (fun K hK => ?_)
    refine goes_ Tryz.func14 (by kernel_rfl) rfl #[.int .i64 at_, .int .i64 (N : Int)] (by rfl) rfl rfl (by (try simp only [List.map_toArray, List.map_cons, List.map_nil]); first | done | rfl) ?_
    refine (hc7 _).mono ?_
    rintro e wq67_ ⟨rfl, hd_⟩
    refine ⟨_, rfl, ?_⟩
    refine hK.out _ _ (hS0 _ (hD _ _ hd_ hP0_)) (fun hHeld => ?_)
    have hP0_ := hD _ _ hd_ hP0_
    try (have hg_ := blk_below hg_ hd_.below)
    clear hK K hd_
    refine norm_ (a' := ?_) ?_ ?_
    rotate_left
    ·show Act.put _ (some 67) _ = _
     simp only [Act.put, List.setIfInBounds_toArray, List.set_cons_zero, List.set_cons_succ, i64_w, i32_w]
     rfl
    refine one_ (i := 11) (N := some 71) (Sx36.b 12 4095) rfl rfl (one_of HT_.out (by kernel_rfl)) (by decide) (fun K hK => ?_)
    refine goes_ Tryz.func16 (by kernel_rfl) rfl #[.pointer (some ⟨r, 0, none⟩), .int .i64 (k : Int), .string (ofB [c])] (by rfl) rfl rfl (by (try simp only [List.map_toArray, List.map_cons, List.map_nil]); first | done | rfl) ?_
    refine (hc11 _ hP0_).mono ?_
    rintro e wc_ ⟨rfl, hp_⟩
    refine ⟨_, rfl, ?_⟩
    refine hK.out _ _ (hS11 _ hp_) (fun hHeld => ?_)
    clear hK K
    refine norm_ (a' := ?_) ?_ ?_
    rotate_left
    ·show Act.put _ (some 71) _ = _
     simp only [Act.put, List.setIfInBounds_toArray, List.set_cons_zero, List.set_cons_succ, i64_w, i32_w]
     rfl
    refine done_ (done_of HT_.out (by kernel_rfl)) ?_
    exact hQ _ _ _ _ _ _ _ _ _ _ _ _ hp_
  ·skip
   have hcv_ := conv_byte c hcn hg_
   go_simp
   refine hK.out _ _ hHeld (fun hHeld => ?_)
   clear hK K
   refine one_ (i := 6) (N := some 66) (Sx36.b 12 1919) rfl rfl (one_of HT_.out (by kernel_rfl)) (by decide) (fun K hK => ?_)
   refine goes_ Tryz.func15 (by kernel_rfl) rfl #[.int .i64 n] (by rfl) rfl rfl (by (try simp only [List.map_toArray, List.map_cons, List.map_nil]); first | done | rfl) ?_
   refine (hc6 _).mono ?_
   rintro e wq66_ ⟨rfl, hd_⟩
   refine ⟨_, rfl, ?_⟩
   refine hK.out _ _ (hS0 _ (hD _ _ hd_ hP0_)) (fun hHeld => ?_)
   have hP0_ := hD _ _ hd_ hP0_
   try (have hg_ := blk_below hg_ hd_.below)
   clear hK K hd_
   refine norm_ (a' := ?_) ?_ ?_
   rotate_left
   ·show Act.put _ (some 66) _ = _
    simp only [Act.put, List.setIfInBounds_toArray, List.set_cons_zero, List.set_cons_succ, i64_w, i32_w]
    rfl
   refine one_ (i := 7) (N := some 67) (Sx36.b 12 2047) rfl rfl (one_of HT_.out (by kernel_rfl)) (by decide) (fun K hK => ?_)
   refine goes_ Tryz.func14 (by kernel_rfl) rfl #[.int .i64 at_, .int .i64 (N : Int)] (by rfl) rfl rfl (by (try simp only [List.map_toArray, List.map_cons, List.map_nil]); first | done | rfl) ?_
   refine (hc7 _).mono ?_
   rintro e wq67_ ⟨rfl, hd_⟩
   refine ⟨_, rfl, ?_⟩
   refine hK.out _ _ (hS0 _ (hD _ _ hd_ hP0_)) (fun hHeld => ?_)
   have hP0_ := hD _ _ hd_ hP0_
   try (have hg_ := blk_below hg_ hd_.below)
   clear hK K hd_
   refine norm_ (a' := ?_) ?_ ?_
   rotate_left
   ·show Act.put _ (some 67) _ = _
    simp only [Act.put, List.setIfInBounds_toArray, List.set_cons_zero, List.set_cons_succ, i64_w, i32_w]
    rfl
   refine one_ (i := 11) (N := some 71) (Sx36.b 12 4095) rfl rfl (one_of HT_.out (by kernel_rfl)) (by decide) (fun K hK => ?_)
   refine goes_ Tryz.func16 (by kernel_rfl) rfl #[.pointer (some ⟨r, 0, none⟩), .int .i64 (k : Int), .string (ofB [c])] (by rfl) rfl rfl (by (try simp only [List.map_toArray, List.map_cons, List.map_nil]); first | done | rfl) ?_
   refine (hc11 _ hP0_).mono ?_
   rintro e wc_ ⟨rfl, hp_⟩
   refine ⟨_, rfl, ?_⟩
   refine hK.out _ _ (hS11 _ hp_) (fun hHeld => ?_)
   clear hK K
   refine norm_ (a' := ?_) ?_ ?_
   rotate_left
   ·show Act.put _ (some 71) _ = _
    simp only [Act.put, List.setIfInBounds_toArray, List.set_cons_zero, List.set_cons_succ, i64_w, i32_w]
    rfl
   refine done_ (done_of HT_.out (by kernel_rfl)) ?_
   exact hQ _ _ _ _ _ _ _ _ _ _ _ _ hp_
end Go.Proofs.YtniegajdmbepbaaGreatDoor.Jm

set_option linter.unusedVariables false
set_option linter.unusedSimpArgs false
namespace Go.Proofs.YtniegajdmbepbaaGreatDoor.Jm
open Go Go.RowKit Go.Shelf Go.Proofs.YtniegajdmbepbaaGreatDoor.Rf Go.Proofs.YtniegajdmbepbaaGreatDoorW.PrintWords Go.Proofs.YtniegajdmbepbaaGreatDoorW.PrintLast Go.Proofs.YtniegajdmbepbaaGreatDoorW.PrintMore Go.Proofs.YtniegajdmbepbaaGreatDoor.Sha

def oa_r10S (wb : Nat) (d : Nat) (r : Nat) (V_ : World) : Prop := V_.cell? ⟨wb, 0, none⟩ = some (.pointer (some ⟨d, 0, none⟩)) ∧ V_.cell? ⟨wb, 2, none⟩ = some (.pointer (some ⟨r, 0, none⟩))
def oaT.T10 : Bool × List (List Nat × List Nat) := (true, [([], []), ([0], [0]), ([1], [1]), ([2], [2]), ([], []), ([], []), ([5], [5]), ([], []), ([7], [7]), ([6, 8], [6, 8]), ([4, 9], [4, 9]), ([3, 10, 8], [3, 10])])
def oaT.B10 : List Nat := [0, 1, 3, 7, 0, 0, 32, 0, 128, 480, 1008, 2047]
theorem oaT.tab10 : rtab .any (opsOf Tryz.f3 10) = oaT.T10 := by kernel_rfl
theorem oaT.bits10 : waitsOk oaT.T10.2 oaT.B10 = true := by kernel_rfl
noncomputable def oaR10 : Code := ((Tryz.f3.body.bind (regionOf 10)).getD .skip)
set_option maxHeartbeats 8000000 in
set_option maxRecDepth 100000 in
theorem oa_r10 (R : Act → World → Prop) (W : World) (v2 v3 v4 v5 v6 v7 v8 v9 v10 v11 v13 v14 v15 v16 v17 v18 v19 v20 v21 v22 v23 v24 v25 v26 v27 v28 v29 v30 v31 v32 v33 v34 v35 v36 v37 v38 v39 v40 v41 v42 v43 v44 v45 v46 v47 v48 v49 v50 v51 v52 v53 v54 v55 v56 v57 v58 v59 v60 v61 v62 v63 v64 v65 v66 v67 v68 v69 v70 v71 v72 v73 v74 v75 v76 v77 v78 v79 v80 v81 v82 v83 v84 v85 v86 v87 v88 v89 v90 v91 v92 v93 v94 v95 v96 v97 v98 v99 v100 v101 v102 v103 v104 v105 v106 v107 v108 v109 v110 v111 v112 v113 v114 v115 v116 v117 v118 v119 v120 v121 v122 v123 v124 v125 v126 v127 v128 v129 v130 v131 v132 v133 v134 v135 v136 v137 v138 v139 v140 v141 v142 v143 v144 v145 v146 v147 v148 v149 v150 : Value) (wb d r N m : Nat) (n x : Int) (s : ByteArray) (P0 : World → Prop) (P8 : World → Prop) (P11 : World → Prop)
  (hm : min (s.size : Int) (N : Int) = (m : Int)) (hm0 : ((m : Int) ≤ (s.size : Int)) = True) (hm1 : (m ≤ s.size) = True)
  (hP0 : P0 W.drew)
  (hS0 : ∀ V, P0 V → oa_r10S wb d r V)
  (hc8 : ∀ V, P0 V → Calls Tryz.prog 15 #[.int .i64 n] V fun e w' => e = .returned (.int .i64 (N : Int)) ∧ P8 w')
  (hS8 : ∀ V, P8 V → oa_r10S wb d r V)
  (hc11 : ∀ V, P8 V → Calls Tryz.prog 13 #[.pointer (some ⟨d, 0, none⟩), .int .i64 0, .string (s.extract 0 m)] V fun e w' => e = .returned (.int .i64 x) ∧ P11 w')
  (hS11 : ∀ V, P11 V → oa_r10S wb d r V)
  (hQ : ∀ (z72 z73 z74 z75 z76 z77 z78 z79 z80 z81 z82 : Value) (W' : World), P11 W' → R ⟨#[Value.int .i64 n, Value.string s, v2, v3, v4, v5, v6, v7, v8, v9, v10, v11, Value.pointer (some ⟨wb, 0, none⟩), v13, v14, v15, v16, v17, v18, v19, v20, v21, v22, v23, v24, v25, v26, v27, v28, v29, v30, v31, v32, v33, v34, v35, v36, v37, v38, v39, v40, v41, v42, v43, v44, v45, v46, v47, v48, v49, v50, v51, v52, v53, v54, v55, v56, v57, v58, v59, v60, v61, v62, v63, v64, v65, v66, v67, v68, v69, v70, v71, z72, z73, z74, z75, z76, z77, z78, z79, z80, z81, z82, Value.int .i64 x, v84, v85, v86, v87, v88, v89, v90, v91, v92, v93, v94, v95, v96, v97, v98, v99, v100, v101, v102, v103, v104, v105, v106, v107, v108, v109, v110, v111, v112, v113, v114, v115, v116, v117, v118, v119, v120, v121, v122, v123, v124, v125, v126, v127, v128, v129, v130, v131, v132, v133, v134, v135, v136, v137, v138, v139, v140, v141, v142, v143, v144, v145, v146, v147, v148, v149, v150], []⟩ W') :
  oaR10.wp Tryz.prog (Norm R) ⟨#[Value.int .i64 n, Value.string s, v2, v3, v4, v5, v6, v7, v8, v9, v10, v11, Value.pointer (some ⟨wb, 0, none⟩), v13, v14, v15, v16, v17, v18, v19, v20, v21, v22, v23, v24, v25, v26, v27, v28, v29, v30, v31, v32, v33, v34, v35, v36, v37, v38, v39, v40, v41, v42, v43, v44, v45, v46, v47, v48, v49, v50, v51, v52, v53, v54, v55, v56, v57, v58, v59, v60, v61, v62, v63, v64, v65, v66, v67, v68, v69, v70, v71, v72, v73, v74, v75, v76, v77, v78, v79, v80, v81, v82, v83, v84, v85, v86, v87, v88, v89, v90, v91, v92, v93, v94, v95, v96, v97, v98, v99, v100, v101, v102, v103, v104, v105, v106, v107, v108, v109, v110, v111, v112, v113, v114, v115, v116, v117, v118, v119, v120, v121, v122, v123, v124, v125, v126, v127, v128, v129, v130, v131, v132, v133, v134, v135, v136, v137, v138, v139, v140, v141, v142, v143, v144, v145, v146, v147, v148, v149, v150], []⟩ W := by
 unfold oaR10
 conv => arg 2; whnf
 refine start_ (n := 12) (S := (oa_r10S wb d r)) (ds := []) (Sx36.b 12 0) (by kernel_rfl) rfl rfl (hS0 _ hP0) (fun hHeld => ?_); refine with_tabW oaT.tab10 oaT.bits10 (fun HT_ HW_ => ?_)
 have hP0_ := hP0
 clear hP0
 generalize W.drew = w0_ at hHeld hP0_ ⊢
 refine Sx36.p (i := 0) (N := some 72) HT_.out (Sx36.b 12 1) ?_
 refine Sx36.p (i := 1) (N := some 73) HT_.out (Sx36.b 12 3) ?_
 refine Sx36.p (i := 2) (N := some 74) HT_.out (Sx36.b 12 7) ?_
 refine Sx36.p (i := 4) (N := some 76) HT_.out (Sx36.b 12 23) ?_
 refine Sx36.p (i := 5) (N := some 77) HT_.out (Sx36.b 12 55) ?_
 refine Sx36.p (i := 6) (N := some 78) HT_.out (Sx36.b 12 119) ?_
 refine Sx36.p (i := 7) (N := some 79) HT_.out (Sx36.b 12 247) ?_
 refine take_ (i := 3) (N := some 75) (v := ?_) (a' := ?_) (Sx36.b 12 255) rfl rfl (take_ofW HT_.out HW_.out (by kernel_rfl)) (fun _ _ _ h => h) (Or.inl ⟨by rfl, ?_⟩) hHeld ?_ ?_
 rotate_left
 ·intro w' hS_
  obtain ⟨q0, q2⟩ := hS_
  go_simp
  with_reducible rfl
 rotate_left
 ·simp only [Act.put, List.setIfInBounds_toArray, List.set_cons_zero, List.set_cons_succ, i64_w, i32_w]
  rfl
 refine one_ (i := 8) (N := some 80) (Sx36.b 12 511) rfl rfl (one_of HT_.out (by kernel_rfl)) (by decide) (fun K hK => ?_)
 refine goes_ Tryz.func15 (by kernel_rfl) rfl #[.int .i64 n] (by rfl) rfl rfl (by (try simp only [List.map_toArray, List.map_cons, List.map_nil]); first | done | rfl) ?_
 refine (hc8 _ hP0_).mono ?_
 rintro e wc8_ ⟨rfl, hp8_⟩
 refine ⟨_, rfl, ?_⟩
 refine hK.out _ _ (hS8 _ hp8_) (fun hHeld => ?_)
 clear hK K
 refine norm_ (a' := ?_) ?_ ?_
 rotate_left
 ·show Act.put _ (some 80) _ = _
  simp only [Act.put, List.setIfInBounds_toArray, List.set_cons_zero, List.set_cons_succ, i64_w, i32_w]
  rfl
 refine Sx36.p (i := 9) (N := some 81) HT_.out (Sx36.b 12 1023) ?_
 refine Sx36.p (i := 10) (N := some 82) HT_.out (Sx36.b 12 2047) ?_
 refine one_ (i := 11) (N := some 83) (Sx36.b 12 4095) rfl rfl (one_of HT_.out (by kernel_rfl)) (by decide) (fun K hK => ?_)
 refine goes_ Tryz.func13 (by kernel_rfl) rfl #[.pointer (some ⟨d, 0, none⟩), .int .i64 0, .string (s.extract 0 m)] (by rfl) rfl rfl (by (try simp only [List.map_toArray, List.map_cons, List.map_nil]); first | done | rfl) ?_
 refine (hc11 _ hp8_).mono ?_
 rintro e wc11_ ⟨rfl, hp11_⟩
 refine ⟨_, rfl, ?_⟩
 refine hK.out _ _ (hS11 _ hp11_) (fun hHeld => ?_)
 clear hK K
 refine norm_ (a' := ?_) ?_ ?_
 rotate_left
 ·show Act.put _ (some 83) _ = _
  simp only [Act.put, List.setIfInBounds_toArray, List.set_cons_zero, List.set_cons_succ, i64_w, i32_w]
  rfl
 refine done_ (done_of HT_.out (by kernel_rfl)) ?_
 exact hQ _ _ _ _ _ _ _ _ _ _ _ _ hp11_
def oa_r11S (wb : Nat) (d : Nat) (r : Nat) (V_ : World) : Prop := V_.cell? ⟨wb, 0, none⟩ = some (.pointer (some ⟨d, 0, none⟩)) ∧ V_.cell? ⟨wb, 2, none⟩ = some (.pointer (some ⟨r, 0, none⟩))
def oaT.T11 : Bool × List (List Nat × List Nat) := (true, [([], []), ([0], [0]), ([1], [1]), ([2], [2]), ([], []), ([], []), ([5], [5]), ([], []), ([7], [7]), ([6, 8], [6, 8]), ([4, 9], [4, 9]), ([3, 10, 8], [3, 10])])
def oaT.B11 : List Nat := [0, 1, 3, 7, 0, 0, 32, 0, 128, 480, 1008, 2047]
theorem oaT.tab11 : rtab .any (opsOf Tryz.f3 11) = oaT.T11 := by kernel_rfl
theorem oaT.bits11 : waitsOk oaT.T11.2 oaT.B11 = true := by kernel_rfl
noncomputable def oaR11 : Code := ((Tryz.f3.body.bind (regionOf 11)).getD .skip)
set_option maxHeartbeats 8000000 in
set_option maxRecDepth 100000 in
theorem oa_r11 (R : Act → World → Prop) (W : World) (v2 v3 v4 v5 v6 v7 v8 v9 v10 v11 v13 v14 v15 v16 v17 v18 v19 v20 v21 v22 v23 v24 v25 v26 v27 v28 v29 v30 v31 v32 v33 v34 v35 v36 v37 v38 v39 v40 v41 v42 v43 v44 v45 v46 v47 v48 v49 v50 v51 v52 v53 v54 v55 v56 v57 v58 v59 v60 v61 v62 v63 v64 v65 v66 v67 v68 v69 v70 v71 v72 v73 v74 v75 v76 v77 v78 v79 v80 v81 v82 v83 v84 v85 v86 v87 v88 v89 v90 v91 v92 v93 v94 v95 v96 v97 v98 v99 v100 v101 v102 v103 v104 v105 v106 v107 v108 v109 v110 v111 v112 v113 v114 v115 v116 v117 v118 v119 v120 v121 v122 v123 v124 v125 v126 v127 v128 v129 v130 v131 v132 v133 v134 v135 v136 v137 v138 v139 v140 v141 v142 v143 v144 v145 v146 v147 v148 v149 v150 : Value) (wb d r N m : Nat) (n x : Int) (s : ByteArray) (P0 : World → Prop) (P8 : World → Prop) (P11 : World → Prop)
  (hm : min (s.size : Int) (N : Int) = (m : Int)) (hm0 : ((m : Int) ≤ (s.size : Int)) = True) (hm1 : (m ≤ s.size) = True)
  (hP0 : P0 W.drew)
  (hS0 : ∀ V, P0 V → oa_r11S wb d r V)
  (hc8 : ∀ V, P0 V → Calls Tryz.prog 15 #[.int .i64 n] V fun e w' => e = .returned (.int .i64 (N : Int)) ∧ P8 w')
  (hS8 : ∀ V, P8 V → oa_r11S wb d r V)
  (hc11 : ∀ V, P8 V → Calls Tryz.prog 16 #[.pointer (some ⟨r, 0, none⟩), .int .i64 0, .string (s.extract 0 m)] V fun e w' => e = .returned (.int .i64 x) ∧ P11 w')
  (hS11 : ∀ V, P11 V → oa_r11S wb d r V)
  (hQ : ∀ (z84 z85 z86 z87 z88 z89 z90 z91 z92 z93 z94 : Value) (W' : World), P11 W' → R ⟨#[Value.int .i64 n, Value.string s, v2, v3, v4, v5, v6, v7, v8, v9, v10, v11, Value.pointer (some ⟨wb, 0, none⟩), v13, v14, v15, v16, v17, v18, v19, v20, v21, v22, v23, v24, v25, v26, v27, v28, v29, v30, v31, v32, v33, v34, v35, v36, v37, v38, v39, v40, v41, v42, v43, v44, v45, v46, v47, v48, v49, v50, v51, v52, v53, v54, v55, v56, v57, v58, v59, v60, v61, v62, v63, v64, v65, v66, v67, v68, v69, v70, v71, v72, v73, v74, v75, v76, v77, v78, v79, v80, v81, v82, v83, z84, z85, z86, z87, z88, z89, z90, z91, z92, z93, z94, Value.int .i64 x, v96, v97, v98, v99, v100, v101, v102, v103, v104, v105, v106, v107, v108, v109, v110, v111, v112, v113, v114, v115, v116, v117, v118, v119, v120, v121, v122, v123, v124, v125, v126, v127, v128, v129, v130, v131, v132, v133, v134, v135, v136, v137, v138, v139, v140, v141, v142, v143, v144, v145, v146, v147, v148, v149, v150], []⟩ W') :
  oaR11.wp Tryz.prog (Norm R) ⟨#[Value.int .i64 n, Value.string s, v2, v3, v4, v5, v6, v7, v8, v9, v10, v11, Value.pointer (some ⟨wb, 0, none⟩), v13, v14, v15, v16, v17, v18, v19, v20, v21, v22, v23, v24, v25, v26, v27, v28, v29, v30, v31, v32, v33, v34, v35, v36, v37, v38, v39, v40, v41, v42, v43, v44, v45, v46, v47, v48, v49, v50, v51, v52, v53, v54, v55, v56, v57, v58, v59, v60, v61, v62, v63, v64, v65, v66, v67, v68, v69, v70, v71, v72, v73, v74, v75, v76, v77, v78, v79, v80, v81, v82, v83, v84, v85, v86, v87, v88, v89, v90, v91, v92, v93, v94, v95, v96, v97, v98, v99, v100, v101, v102, v103, v104, v105, v106, v107, v108, v109, v110, v111, v112, v113, v114, v115, v116, v117, v118, v119, v120, v121, v122, v123, v124, v125, v126, v127, v128, v129, v130, v131, v132, v133, v134, v135, v136, v137, v138, v139, v140, v141, v142, v143, v144, v145, v146, v147, v148, v149, v150], []⟩ W := by
 unfold oaR11
 conv => arg 2; whnf
 refine start_ (n := 12) (S := (oa_r11S wb d r)) (ds := []) (Sx36.b 12 0) (by kernel_rfl) rfl rfl (hS0 _ hP0) (fun hHeld => ?_); refine with_tabW oaT.tab11 oaT.bits11 (fun HT_ HW_ => ?_)
 have hP0_ := hP0
 clear hP0
 generalize W.drew = w0_ at hHeld hP0_ ⊢
 refine Sx36.p (i := 0) (N := some 84) HT_.out (Sx36.b 12 1) ?_
 refine Sx36.p (i := 1) (N := some 85) HT_.out (Sx36.b 12 3) ?_
 refine Sx36.p (i := 2) (N := some 86) HT_.out (Sx36.b 12 7) ?_
 refine Sx36.p (i := 4) (N := some 88) HT_.out (Sx36.b 12 23) ?_
 refine Sx36.p (i := 5) (N := some 89) HT_.out (Sx36.b 12 55) ?_
 refine Sx36.p (i := 6) (N := some 90) HT_.out (Sx36.b 12 119) ?_
 refine Sx36.p (i := 7) (N := some 91) HT_.out (Sx36.b 12 247) ?_
 refine take_ (i := 3) (N := some 87) (v := ?_) (a' := ?_) (Sx36.b 12 255) rfl rfl (take_ofW HT_.out HW_.out (by kernel_rfl)) (fun _ _ _ h => h) (Or.inl ⟨by rfl, ?_⟩) hHeld ?_ ?_
 rotate_left
 ·intro w' hS_
  obtain ⟨q0, q2⟩ := hS_
  go_simp
  with_reducible rfl
 rotate_left
 ·simp only [Act.put, List.setIfInBounds_toArray, List.set_cons_zero, List.set_cons_succ, i64_w, i32_w]
  rfl
 refine one_ (i := 8) (N := some 92) (Sx36.b 12 511) rfl rfl (one_of HT_.out (by kernel_rfl)) (by decide) (fun K hK => ?_)
 refine goes_ Tryz.func15 (by kernel_rfl) rfl #[.int .i64 n] (by rfl) rfl rfl (by (try simp only [List.map_toArray, List.map_cons, List.map_nil]); first | done | rfl) ?_
 refine (hc8 _ hP0_).mono ?_
 rintro e wc8_ ⟨rfl, hp8_⟩
 refine ⟨_, rfl, ?_⟩
 refine hK.out _ _ (hS8 _ hp8_) (fun hHeld => ?_)
 clear hK K
 refine norm_ (a' := ?_) ?_ ?_
 rotate_left
 ·show Act.put _ (some 92) _ = _
  simp only [Act.put, List.setIfInBounds_toArray, List.set_cons_zero, List.set_cons_succ, i64_w, i32_w]
  rfl
 refine Sx36.p (i := 9) (N := some 93) HT_.out (Sx36.b 12 1023) ?_
 refine Sx36.p (i := 10) (N := some 94) HT_.out (Sx36.b 12 2047) ?_
 refine one_ (i := 11) (N := some 95) (Sx36.b 12 4095) rfl rfl (one_of HT_.out (by kernel_rfl)) (by decide) (fun K hK => ?_)
 refine goes_ Tryz.func16 (by kernel_rfl) rfl #[.pointer (some ⟨r, 0, none⟩), .int .i64 0, .string (s.extract 0 m)] (by rfl) rfl rfl (by (try simp only [List.map_toArray, List.map_cons, List.map_nil]); first | done | rfl) ?_
 refine (hc11 _ hp8_).mono ?_
 rintro e wc11_ ⟨rfl, hp11_⟩
 refine ⟨_, rfl, ?_⟩
 refine hK.out _ _ (hS11 _ hp11_) (fun hHeld => ?_)
 clear hK K
 refine norm_ (a' := ?_) ?_ ?_
 rotate_left
 ·show Act.put _ (some 95) _ = _
  simp only [Act.put, List.setIfInBounds_toArray, List.set_cons_zero, List.set_cons_succ, i64_w, i32_w]
  rfl
 refine done_ (done_of HT_.out (by kernel_rfl)) ?_
 exact hQ _ _ _ _ _ _ _ _ _ _ _ _ hp11_
end Go.Proofs.YtniegajdmbepbaaGreatDoor.Jm

set_option linter.unusedVariables false
set_option linter.unusedSimpArgs false
namespace Go.Proofs.YtniegajdmbepbaaGreatDoor.Jm
open Go Go.RowKit Go.Shelf Go.Proofs.YtniegajdmbepbaaGreatDoor.Rf Go.Proofs.YtniegajdmbepbaaGreatDoorW.PrintWords Go.Proofs.YtniegajdmbepbaaGreatDoorW.PrintLast Go.Proofs.YtniegajdmbepbaaGreatDoorW.PrintMore Go.Proofs.YtniegajdmbepbaaGreatDoor.Sha

def oa_r13nS (wb : Nat) (d : Nat) (V_ : World) : Prop := V_.cell? ⟨wb, 0, none⟩ = some (.pointer (some ⟨d, 0, none⟩)) ∧ V_.cell? ⟨wb, 1, none⟩ = some (.pointer none)
def oaT.T13 : Bool × List (List Nat × List Nat) := (true, [([], []), ([0], [0]), ([1], [1]), ([1, 2], [1, 2]), ([3, 1], [3]), ([4], [4]), ([5, 4], [4, 5]), ([6, 4], [4, 6]), ([7, 4], [4, 7]), ([8, 4], [4, 8]), ([9, 4, 4], [4, 9]), ([10], [10]), ([11, 10], [10, 11]), ([12, 10], [10, 12]), ([13, 10], [10, 13]), ([14, 10, 10], [10, 14]), ([10], [10]), ([16, 10], [10, 16]), ([17, 10], [10, 17]), ([18, 10], [10, 18]), ([19, 10], [10, 19]), ([20, 10], [10, 20]), ([21, 10], [10, 21]), ([15, 22, 15, 10], [10, 15, 22]), ([23, 23, 10], [10, 23]), ([24], [24]), ([25, 24], [24, 25]), ([26, 24], [24, 26]), ([27, 24], [24, 27]), ([28, 24, 24], [24, 28]), ([24], [24]), ([30, 24], [24, 30]), ([31, 24], [24, 31]), ([32, 24], [24, 32]), ([33, 29, 24], [24, 33]), ([29, 34, 24], [24, 29, 34]), ([24, 35, 10], [10, 24, 35]), ([36, 34, 10], [10, 36]), ([37], [37]), ([38, 37], [37, 38]), ([39, 37], [37, 39]), ([40, 37], [37, 40]), ([41, 37, 37], [37, 41]), ([37], [37]), ([43, 37], [37, 43]), ([44, 37], [37, 44]), ([45, 37], [37, 45]), ([46, 42, 37], [37, 46]), ([47, 37], [37, 47]), ([42, 48, 37], [37, 42, 48]), ([37, 49, 10], [10, 37, 49]), ([10, 50, 4], [4, 10, 50]), ([4, 51], [4, 51]), ([52, 47, 0, 1, 2, 3, 4, 5, 6, 7, 8, 9, 10, 11, 12, 13, 14, 15, 16, 17, 18, 19, 20, 21, 22, 23, 24, 25, 26, 27, 28, 29, 30, 31, 32, 33, 34, 35, 36, 37, 38, 39, 40, 41, 42, 43, 44, 45, 46, 47, 48, 49, 50, 51, 52], [52])])
def oaT.B13 : List Nat := [0, 1, 3, 7, 15, 31, 63, 127, 255, 511, 1023, 2047, 4095, 8191, 16383, 32767, 2047, 67583, 198655, 460799, 985087, 2033663, 4130815, 8388607, 16777215, 33554431, 67108863, 134217727, 268435455, 536870911, 33554431, 1107296255, 3254779903, 7549747199, 17179869183, 34359738367, 68719476735, 137438953471, 274877906943, 549755813887, 1099511627775, 2199023255551, 4398046511103, 274877906943, 9070970929151, 26663156973567, 61847529062399, 140737488355327, 281474976710655, 562949953421311, 1125899906842623, 2251799813685247, 4503599627370495, 9007199254740991]
theorem oaT.tab13 : rtab .any (opsOf Tryz.f3 13) = oaT.T13 := by kernel_rfl
theorem oaT.bits13 : waitsOk oaT.T13.2 oaT.B13 = true := by kernel_rfl
noncomputable def oaR13 : Code := ((Tryz.f3.body.bind (regionOf 13)).getD .skip)
set_option maxHeartbeats 8000000 in
set_option maxRecDepth 100000 in
theorem oa_r13n (R : Act → World → Prop) (W : World) (v0 v1 v2 v3 v4 v5 v6 v7 v8 v9 v10 v13 v15 v16 v17 v18 v19 v20 v21 v22 v23 v24 v25 v26 v27 v28 v29 v30 v31 v32 v33 v34 v35 v36 v37 v38 v39 v40 v41 v42 v43 v44 v45 v46 v47 v48 v49 v50 v51 v52 v53 v54 v55 v56 v57 v58 v59 v60 v61 v62 v63 v64 v65 v66 v67 v68 v69 v70 v71 v72 v73 v74 v75 v76 v77 v78 v79 v80 v81 v82 v83 v84 v85 v86 v87 v88 v89 v90 v91 v92 v93 v94 v95 v96 v97 v98 v99 v100 v101 v102 v103 v104 v105 v106 v107 v108 v109 v110 v111 v112 v113 v114 v115 v116 v117 v118 v119 v120 v121 v122 v123 v124 v125 v126 v127 v128 v129 v130 v131 v132 v133 v134 v135 v136 v137 v138 v139 v140 v141 v142 v143 v144 v145 v146 v147 v148 v149 v150 : Value) (wb d : Nat) (P0 : World → Prop)
  
  (hP0 : P0 W.drew)
  (hS0 : ∀ V, P0 V → oa_r13nS wb d V)
  (hQ : ∀ (z98 z99 z100 z101 z102 z103 z104 z105 z106 z107 z108 z109 z110 z111 z112 z113 z114 z115 z116 z117 z118 z119 z120 z121 z122 z123 z124 z125 z126 z127 z128 z129 z130 z131 z132 z133 z134 z135 z136 z137 z138 z139 z140 z141 z142 z143 z144 z145 z146 z147 z148 z149 z150 : Value) (W' : World), P0 W' → R ⟨#[v0, v1, v2, v3, v4, v5, v6, v7, v8, v9, Value.bool true, Value.bool true, Value.pointer (some ⟨wb, 0, none⟩), v13, Value.bool true, v15, v16, v17, v18, v19, v20, v21, v22, v23, v24, v25, v26, v27, v28, v29, v30, v31, v32, v33, v34, v35, v36, v37, v38, v39, v40, v41, v42, v43, v44, v45, v46, v47, v48, v49, v50, v51, v52, v53, v54, v55, v56, v57, v58, v59, v60, v61, v62, v63, v64, v65, v66, v67, v68, v69, v70, v71, v72, v73, v74, v75, v76, v77, v78, v79, v80, v81, v82, v83, v84, v85, v86, v87, v88, v89, v90, v91, v92, v93, v94, v95, v96, v97, z98, z99, z100, z101, z102, z103, z104, z105, z106, z107, z108, z109, z110, z111, z112, z113, z114, z115, z116, z117, z118, z119, z120, z121, z122, z123, z124, z125, z126, z127, z128, z129, z130, z131, z132, z133, z134, z135, z136, z137, z138, z139, z140, z141, z142, z143, z144, z145, z146, z147, z148, z149, z150], []⟩ W') :
  oaR13.wp Tryz.prog (Norm R) ⟨#[v0, v1, v2, v3, v4, v5, v6, v7, v8, v9, v10, Value.bool true, Value.pointer (some ⟨wb, 0, none⟩), v13, Value.bool true, v15, v16, v17, v18, v19, v20, v21, v22, v23, v24, v25, v26, v27, v28, v29, v30, v31, v32, v33, v34, v35, v36, v37, v38, v39, v40, v41, v42, v43, v44, v45, v46, v47, v48, v49, v50, v51, v52, v53, v54, v55, v56, v57, v58, v59, v60, v61, v62, v63, v64, v65, v66, v67, v68, v69, v70, v71, v72, v73, v74, v75, v76, v77, v78, v79, v80, v81, v82, v83, v84, v85, v86, v87, v88, v89, v90, v91, v92, v93, v94, v95, v96, v97, v98, v99, v100, v101, v102, v103, v104, v105, v106, v107, v108, v109, v110, v111, v112, v113, v114, v115, v116, v117, v118, v119, v120, v121, v122, v123, v124, v125, v126, v127, v128, v129, v130, v131, v132, v133, v134, v135, v136, v137, v138, v139, v140, v141, v142, v143, v144, v145, v146, v147, v148, v149, v150], []⟩ W := by
 unfold oaR13
 conv => arg 2; whnf
 refine start_ (n := 54) (S := (oa_r13nS wb d)) (ds := []) (Sx36.b 54 0) (by kernel_rfl) rfl rfl (hS0 _ hP0) (fun hHeld => ?_); refine with_tabW oaT.tab13 oaT.bits13 (fun HT_ HW_ => ?_)
 have hP0_ := hP0
 clear hP0
 generalize W.drew = w0_ at hHeld hP0_ ⊢
 refine Sx36.p (i := 0) (N := some 98) HT_.out (Sx36.b 54 1) ?_
 refine Sx36.p (i := 1) (N := some 99) HT_.out (Sx36.b 54 3) ?_
 refine Sx36.p (i := 2) (N := some 100) HT_.out (Sx36.b 54 7) ?_
 refine Sx36.p (i := 3) (N := some 101) HT_.out (Sx36.b 54 15) ?_
 refine Sx36.p (i := 4) (N := some 102) HT_.out (Sx36.b 54 31) ?_
 refine Sx36.p (i := 5) (N := some 103) HT_.out (Sx36.b 54 63) ?_
 refine Sx36.p (i := 6) (N := some 104) HT_.out (Sx36.b 54 127) ?_
 refine Sx36.p (i := 7) (N := some 105) HT_.out (Sx36.b 54 255) ?_
 refine take_ (i := 8) (N := some 106) (v := ?_) (a' := ?_) (Sx36.b 54 511) rfl rfl (take_ofW HT_.out HW_.out (by kernel_rfl)) (fun _ _ _ h => h) (Or.inl ⟨by rfl, ?_⟩) hHeld ?_ ?_
 rotate_left
 ·intro w' hS_
  obtain ⟨q0, q1⟩ := hS_
  go_simp
  with_reducible rfl
 rotate_left
 ·simp only [Act.put, List.setIfInBounds_toArray, List.set_cons_zero, List.set_cons_succ, i64_w, i32_w]
  rfl
 refine Sx36.p (i := 9) (N := some 107) HT_.out (Sx36.b 54 1023) ?_
 refine Sx36.p (i := 10) (N := some 108) HT_.out (Sx36.b 54 2047) ?_
 refine pure_ (i := 11) (N := some 109) (v := undef) (a' := ?_) (Sx36.b 54 4095) rfl rfl (any_of HT_.out (by kernel_rfl)) (fun _ _ _ h => h) (Or.inr ⟨by rfl, rfl⟩) ?_ ?_
 rotate_left
 ·simp only [Act.put, List.setIfInBounds_toArray, List.set_cons_zero, List.set_cons_succ, i64_w, i32_w]
  rfl
 refine pure_ (i := 12) (N := some 110) (v := undef) (a' := ?_) (Sx36.b 54 8191) rfl rfl (any_of HT_.out (by kernel_rfl)) (fun _ _ _ h => h) (Or.inr ⟨by rfl, rfl⟩) ?_ ?_
 rotate_left
 ·simp only [Act.put, List.setIfInBounds_toArray, List.set_cons_zero, List.set_cons_succ, i64_w, i32_w]
  rfl
 refine pure_ (i := 13) (N := some 111) (v := undef) (a' := ?_) (Sx36.b 54 16383) rfl rfl (any_of HT_.out (by kernel_rfl)) (fun _ _ _ h => h) (Or.inr ⟨by rfl, rfl⟩) ?_ ?_
 rotate_left
 ·simp only [Act.put, List.setIfInBounds_toArray, List.set_cons_zero, List.set_cons_succ, i64_w, i32_w]
  rfl
 refine pure_ (i := 14) (N := some 112) (v := undef) (a' := ?_) (Sx36.b 54 32767) rfl rfl (any_of HT_.out (by kernel_rfl)) (fun _ _ _ h => h) (Or.inr ⟨by rfl, rfl⟩) ?_ ?_
 rotate_left
 ·simp only [Act.put, List.setIfInBounds_toArray, List.set_cons_zero, List.set_cons_succ, i64_w, i32_w]
  rfl
 refine pure_ (i := 15) (N := some 113) (v := undef) (a' := ?_) (Sx36.b 54 65535) rfl rfl (any_of HT_.out (by kernel_rfl)) (fun _ _ _ h => h) (Or.inr ⟨by rfl, rfl⟩) ?_ ?_
 rotate_left
 ·simp only [Act.put, List.setIfInBounds_toArray, List.set_cons_zero, List.set_cons_succ, i64_w, i32_w]
  rfl
 refine pure_ (i := 16) (N := some 114) (v := undef) (a' := ?_) (Sx36.b 54 131071) rfl rfl (any_of HT_.out (by kernel_rfl)) (fun _ _ _ h => h) (Or.inr ⟨by rfl, rfl⟩) ?_ ?_
 rotate_left
 ·simp only [Act.put, List.setIfInBounds_toArray, List.set_cons_zero, List.set_cons_succ, i64_w, i32_w]
  rfl
 refine pure_ (i := 17) (N := some 115) (v := undef) (a' := ?_) (Sx36.b 54 262143) rfl rfl (any_of HT_.out (by kernel_rfl)) (fun _ _ _ h => h) (Or.inr ⟨by rfl, rfl⟩) ?_ ?_
 rotate_left
 ·simp only [Act.put, List.setIfInBounds_toArray, List.set_cons_zero, List.set_cons_succ, i64_w, i32_w]
  rfl
 refine pure_ (i := 18) (N := some 116) (v := undef) (a' := ?_) (Sx36.b 54 524287) rfl rfl (any_of HT_.out (by kernel_rfl)) (fun _ _ _ h => h) (Or.inr ⟨by rfl, rfl⟩) ?_ ?_
 rotate_left
 ·simp only [Act.put, List.setIfInBounds_toArray, List.set_cons_zero, List.set_cons_succ, i64_w, i32_w]
  rfl
 refine pure_ (i := 19) (N := some 117) (v := undef) (a' := ?_) (Sx36.b 54 1048575) rfl rfl (any_of HT_.out (by kernel_rfl)) (fun _ _ _ h => h) (Or.inr ⟨by rfl, rfl⟩) ?_ ?_
 rotate_left
 ·simp only [Act.put, List.setIfInBounds_toArray, List.set_cons_zero, List.set_cons_succ, i64_w, i32_w]
  rfl
 refine pure_ (i := 20) (N := some 118) (v := undef) (a' := ?_) (Sx36.b 54 2097151) rfl rfl (any_of HT_.out (by kernel_rfl)) (fun _ _ _ h => h) (Or.inr ⟨by rfl, rfl⟩) ?_ ?_
 rotate_left
 ·simp only [Act.put, List.setIfInBounds_toArray, List.set_cons_zero, List.set_cons_succ, i64_w, i32_w]
  rfl
 refine pure_ (i := 21) (N := some 119) (v := undef) (a' := ?_) (Sx36.b 54 4194303) rfl rfl (any_of HT_.out (by kernel_rfl)) (fun _ _ _ h => h) (Or.inr ⟨by rfl, rfl⟩) ?_ ?_
 rotate_left
 ·simp only [Act.put, List.setIfInBounds_toArray, List.set_cons_zero, List.set_cons_succ, i64_w, i32_w]
  rfl
 refine pure_ (i := 22) (N := some 120) (v := undef) (a' := ?_) (Sx36.b 54 8388607) rfl rfl (any_of HT_.out (by kernel_rfl)) (fun _ _ _ h => h) (Or.inr ⟨by rfl, rfl⟩) ?_ ?_
 rotate_left
 ·simp only [Act.put, List.setIfInBounds_toArray, List.set_cons_zero, List.set_cons_succ, i64_w, i32_w]
  rfl
 refine pure_ (i := 23) (N := some 121) (v := undef) (a' := ?_) (Sx36.b 54 16777215) rfl rfl (any_of HT_.out (by kernel_rfl)) (fun _ _ _ h => h) (Or.inr ⟨by rfl, rfl⟩) ?_ ?_
 rotate_left
 ·simp only [Act.put, List.setIfInBounds_toArray, List.set_cons_zero, List.set_cons_succ, i64_w, i32_w]
  rfl
 refine pure_ (i := 24) (N := some 122) (v := undef) (a' := ?_) (Sx36.b 54 33554431) rfl rfl (any_of HT_.out (by kernel_rfl)) (fun _ _ _ h => h) (Or.inr ⟨by rfl, rfl⟩) ?_ ?_
 rotate_left
 ·simp only [Act.put, List.setIfInBounds_toArray, List.set_cons_zero, List.set_cons_succ, i64_w, i32_w]
  rfl
 refine pure_ (i := 25) (N := some 123) (v := undef) (a' := ?_) (Sx36.b 54 67108863) rfl rfl (any_of HT_.out (by kernel_rfl)) (fun _ _ _ h => h) (Or.inr ⟨by rfl, rfl⟩) ?_ ?_
 rotate_left
 ·simp only [Act.put, List.setIfInBounds_toArray, List.set_cons_zero, List.set_cons_succ, i64_w, i32_w]
  rfl
 refine pure_ (i := 26) (N := some 124) (v := undef) (a' := ?_) (Sx36.b 54 134217727) rfl rfl (any_of HT_.out (by kernel_rfl)) (fun _ _ _ h => h) (Or.inr ⟨by rfl, rfl⟩) ?_ ?_
 rotate_left
 ·simp only [Act.put, List.setIfInBounds_toArray, List.set_cons_zero, List.set_cons_succ, i64_w, i32_w]
  rfl
 refine pure_ (i := 27) (N := some 125) (v := undef) (a' := ?_) (Sx36.b 54 268435455) rfl rfl (any_of HT_.out (by kernel_rfl)) (fun _ _ _ h => h) (Or.inr ⟨by rfl, rfl⟩) ?_ ?_
 rotate_left
 ·simp only [Act.put, List.setIfInBounds_toArray, List.set_cons_zero, List.set_cons_succ, i64_w, i32_w]
  rfl
 refine pure_ (i := 28) (N := some 126) (v := undef) (a' := ?_) (Sx36.b 54 536870911) rfl rfl (any_of HT_.out (by kernel_rfl)) (fun _ _ _ h => h) (Or.inr ⟨by rfl, rfl⟩) ?_ ?_
 rotate_left
 ·simp only [Act.put, List.setIfInBounds_toArray, List.set_cons_zero, List.set_cons_succ, i64_w, i32_w]
  rfl
 refine pure_ (i := 29) (N := some 127) (v := undef) (a' := ?_) (Sx36.b 54 1073741823) rfl rfl (any_of HT_.out (by kernel_rfl)) (fun _ _ _ h => h) (Or.inr ⟨by rfl, rfl⟩) ?_ ?_
 rotate_left
 ·simp only [Act.put, List.setIfInBounds_toArray, List.set_cons_zero, List.set_cons_succ, i64_w, i32_w]
  rfl
 refine pure_ (i := 30) (N := some 128) (v := undef) (a' := ?_) (Sx36.b 54 2147483647) rfl rfl (any_of HT_.out (by kernel_rfl)) (fun _ _ _ h => h) (Or.inr ⟨by rfl, rfl⟩) ?_ ?_
 rotate_left
 ·simp only [Act.put, List.setIfInBounds_toArray, List.set_cons_zero, List.set_cons_succ, i64_w, i32_w]
  rfl
 refine pure_ (i := 31) (N := some 129) (v := undef) (a' := ?_) (Sx36.b 54 4294967295) rfl rfl (any_of HT_.out (by kernel_rfl)) (fun _ _ _ h => h) (Or.inr ⟨by rfl, rfl⟩) ?_ ?_
 rotate_left
 ·simp only [Act.put, List.setIfInBounds_toArray, List.set_cons_zero, List.set_cons_succ, i64_w, i32_w]
  rfl
 refine pure_ (i := 32) (N := some 130) (v := undef) (a' := ?_) (Sx36.b 54 8589934591) rfl rfl (any_of HT_.out (by kernel_rfl)) (fun _ _ _ h => h) (Or.inr ⟨by rfl, rfl⟩) ?_ ?_
 rotate_left
 ·simp only [Act.put, List.setIfInBounds_toArray, List.set_cons_zero, List.set_cons_succ, i64_w, i32_w]
  rfl
 refine pure_ (i := 33) (N := some 131) (v := undef) (a' := ?_) (Sx36.b 54 17179869183) rfl rfl (any_of HT_.out (by kernel_rfl)) (fun _ _ _ h => h) (Or.inr ⟨by rfl, rfl⟩) ?_ ?_
 rotate_left
 ·simp only [Act.put, List.setIfInBounds_toArray, List.set_cons_zero, List.set_cons_succ, i64_w, i32_w]
  rfl
 refine pure_ (i := 34) (N := some 132) (v := undef) (a' := ?_) (Sx36.b 54 34359738367) rfl rfl (any_of HT_.out (by kernel_rfl)) (fun _ _ _ h => h) (Or.inr ⟨by rfl, rfl⟩) ?_ ?_
 rotate_left
 ·simp only [Act.put, List.setIfInBounds_toArray, List.set_cons_zero, List.set_cons_succ, i64_w, i32_w]
  rfl
 refine pure_ (i := 35) (N := some 133) (v := undef) (a' := ?_) (Sx36.b 54 68719476735) rfl rfl (any_of HT_.out (by kernel_rfl)) (fun _ _ _ h => h) (Or.inr ⟨by rfl, rfl⟩) ?_ ?_
 rotate_left
 ·simp only [Act.put, List.setIfInBounds_toArray, List.set_cons_zero, List.set_cons_succ, i64_w, i32_w]
  rfl
 refine pure_ (i := 36) (N := some 134) (v := undef) (a' := ?_) (Sx36.b 54 137438953471) rfl rfl (any_of HT_.out (by kernel_rfl)) (fun _ _ _ h => h) (Or.inr ⟨by rfl, rfl⟩) ?_ ?_
 rotate_left
 ·simp only [Act.put, List.setIfInBounds_toArray, List.set_cons_zero, List.set_cons_succ, i64_w, i32_w]
  rfl
 refine pure_ (i := 37) (N := some 135) (v := undef) (a' := ?_) (Sx36.b 54 274877906943) rfl rfl (any_of HT_.out (by kernel_rfl)) (fun _ _ _ h => h) (Or.inr ⟨by rfl, rfl⟩) ?_ ?_
 rotate_left
 ·simp only [Act.put, List.setIfInBounds_toArray, List.set_cons_zero, List.set_cons_succ, i64_w, i32_w]
  rfl
 refine pure_ (i := 38) (N := some 136) (v := undef) (a' := ?_) (Sx36.b 54 549755813887) rfl rfl (any_of HT_.out (by kernel_rfl)) (fun _ _ _ h => h) (Or.inr ⟨by rfl, rfl⟩) ?_ ?_
 rotate_left
 ·simp only [Act.put, List.setIfInBounds_toArray, List.set_cons_zero, List.set_cons_succ, i64_w, i32_w]
  rfl
 refine pure_ (i := 39) (N := some 137) (v := undef) (a' := ?_) (Sx36.b 54 1099511627775) rfl rfl (any_of HT_.out (by kernel_rfl)) (fun _ _ _ h => h) (Or.inr ⟨by rfl, rfl⟩) ?_ ?_
 rotate_left
 ·simp only [Act.put, List.setIfInBounds_toArray, List.set_cons_zero, List.set_cons_succ, i64_w, i32_w]
  rfl
 refine pure_ (i := 40) (N := some 138) (v := undef) (a' := ?_) (Sx36.b 54 2199023255551) rfl rfl (any_of HT_.out (by kernel_rfl)) (fun _ _ _ h => h) (Or.inr ⟨by rfl, rfl⟩) ?_ ?_
 rotate_left
 ·simp only [Act.put, List.setIfInBounds_toArray, List.set_cons_zero, List.set_cons_succ, i64_w, i32_w]
  rfl
 refine pure_ (i := 41) (N := some 139) (v := undef) (a' := ?_) (Sx36.b 54 4398046511103) rfl rfl (any_of HT_.out (by kernel_rfl)) (fun _ _ _ h => h) (Or.inr ⟨by rfl, rfl⟩) ?_ ?_
 rotate_left
 ·simp only [Act.put, List.setIfInBounds_toArray, List.set_cons_zero, List.set_cons_succ, i64_w, i32_w]
  rfl
 refine pure_ (i := 42) (N := some 140) (v := undef) (a' := ?_) (Sx36.b 54 8796093022207) rfl rfl (any_of HT_.out (by kernel_rfl)) (fun _ _ _ h => h) (Or.inr ⟨by rfl, rfl⟩) ?_ ?_
 rotate_left
 ·simp only [Act.put, List.setIfInBounds_toArray, List.set_cons_zero, List.set_cons_succ, i64_w, i32_w]
  rfl
 refine pure_ (i := 43) (N := some 141) (v := undef) (a' := ?_) (Sx36.b 54 17592186044415) rfl rfl (any_of HT_.out (by kernel_rfl)) (fun _ _ _ h => h) (Or.inr ⟨by rfl, rfl⟩) ?_ ?_
 rotate_left
 ·simp only [Act.put, List.setIfInBounds_toArray, List.set_cons_zero, List.set_cons_succ, i64_w, i32_w]
  rfl
 refine pure_ (i := 44) (N := some 142) (v := undef) (a' := ?_) (Sx36.b 54 35184372088831) rfl rfl (any_of HT_.out (by kernel_rfl)) (fun _ _ _ h => h) (Or.inr ⟨by rfl, rfl⟩) ?_ ?_
 rotate_left
 ·simp only [Act.put, List.setIfInBounds_toArray, List.set_cons_zero, List.set_cons_succ, i64_w, i32_w]
  rfl
 refine pure_ (i := 45) (N := some 143) (v := undef) (a' := ?_) (Sx36.b 54 70368744177663) rfl rfl (any_of HT_.out (by kernel_rfl)) (fun _ _ _ h => h) (Or.inr ⟨by rfl, rfl⟩) ?_ ?_
 rotate_left
 ·simp only [Act.put, List.setIfInBounds_toArray, List.set_cons_zero, List.set_cons_succ, i64_w, i32_w]
  rfl
 refine pure_ (i := 46) (N := some 144) (v := undef) (a' := ?_) (Sx36.b 54 140737488355327) rfl rfl (any_of HT_.out (by kernel_rfl)) (fun _ _ _ h => h) (Or.inr ⟨by rfl, rfl⟩) ?_ ?_
 rotate_left
 ·simp only [Act.put, List.setIfInBounds_toArray, List.set_cons_zero, List.set_cons_succ, i64_w, i32_w]
  rfl
 refine pure_ (i := 47) (N := some 145) (v := undef) (a' := ?_) (Sx36.b 54 281474976710655) rfl rfl (any_of HT_.out (by kernel_rfl)) (fun _ _ _ h => h) (Or.inr ⟨by rfl, rfl⟩) ?_ ?_
 rotate_left
 ·simp only [Act.put, List.setIfInBounds_toArray, List.set_cons_zero, List.set_cons_succ, i64_w, i32_w]
  rfl
 refine pure_ (i := 48) (N := some 146) (v := undef) (a' := ?_) (Sx36.b 54 562949953421311) rfl rfl (any_of HT_.out (by kernel_rfl)) (fun _ _ _ h => h) (Or.inr ⟨by rfl, rfl⟩) ?_ ?_
 rotate_left
 ·simp only [Act.put, List.setIfInBounds_toArray, List.set_cons_zero, List.set_cons_succ, i64_w, i32_w]
  rfl
 refine pure_ (i := 49) (N := some 147) (v := undef) (a' := ?_) (Sx36.b 54 1125899906842623) rfl rfl (any_of HT_.out (by kernel_rfl)) (fun _ _ _ h => h) (Or.inr ⟨by rfl, rfl⟩) ?_ ?_
 rotate_left
 ·simp only [Act.put, List.setIfInBounds_toArray, List.set_cons_zero, List.set_cons_succ, i64_w, i32_w]
  rfl
 refine pure_ (i := 50) (N := some 148) (v := undef) (a' := ?_) (Sx36.b 54 2251799813685247) rfl rfl (any_of HT_.out (by kernel_rfl)) (fun _ _ _ h => h) (Or.inr ⟨by rfl, rfl⟩) ?_ ?_
 rotate_left
 ·simp only [Act.put, List.setIfInBounds_toArray, List.set_cons_zero, List.set_cons_succ, i64_w, i32_w]
  rfl
 refine Sx36.p (i := 51) (N := some 149) HT_.out (Sx36.b 54 4503599627370495) ?_
 refine Sx36.p (i := 52) (N := some 150) HT_.out (Sx36.b 54 9007199254740991) ?_
 refine Sx36.p (i := 53) (N := some 10) HT_.out (Sx36.b 54 18014398509481983) ?_
 refine done_ (done_of HT_.out (by kernel_rfl)) ?_
 exact hQ _ _ _ _ _ _ _ _ _ _ _ _ _ _ _ _ _ _ _ _ _ _ _ _ _ _ _ _ _ _ _ _ _ _ _ _ _ _ _ _ _ _ _ _ _ _ _ _ _ _ _ _ _ _ hP0_
def oa_r13S (wb : Nat) (d : Nat) (j : Nat) (r : Nat) (q : Nat) (lv : Value) (V_ : World) : Prop := V_.cell? ⟨wb, 0, none⟩ = some (.pointer (some ⟨d, 0, none⟩)) ∧ V_.cell? ⟨wb, 1, none⟩ = some (.pointer (some ⟨j, 0, none⟩)) ∧ V_.cell? ⟨wb, 2, none⟩ = some (.pointer (some ⟨r, 0, none⟩)) ∧ V_.cell? ⟨wb, 3, none⟩ = some (.pointer (some ⟨q, 0, none⟩)) ∧ V_.cell? ⟨q, 1, none⟩ = some (lv)
set_option maxHeartbeats 8000000 in
set_option maxRecDepth 100000 in
theorem oa_r13 (R : Act → World → Prop) (W : World) (v0 v1 v2 v3 v4 v5 v6 v7 v8 v9 v10 v13 v15 v16 v17 v18 v19 v20 v21 v22 v23 v24 v25 v26 v27 v28 v29 v30 v31 v32 v33 v34 v35 v36 v37 v38 v39 v40 v41 v42 v43 v44 v45 v46 v47 v48 v49 v50 v51 v52 v53 v54 v55 v56 v57 v58 v59 v60 v61 v62 v63 v64 v65 v66 v67 v68 v69 v70 v71 v72 v73 v74 v75 v76 v77 v78 v79 v80 v81 v82 v83 v84 v85 v86 v87 v88 v89 v90 v91 v92 v93 v94 v95 v96 v97 v98 v99 v100 v101 v102 v103 v104 v105 v106 v107 v108 v109 v110 v111 v112 v113 v114 v115 v116 v117 v118 v119 v120 v121 v122 v123 v124 v125 v126 v127 v128 v129 v130 v131 v132 v133 v134 v135 v136 v137 v138 v139 v140 v141 v142 v143 v144 v145 v146 v147 v148 v149 v150 : Value) (wb d j r q : Nat) (lv : Value) (x : Int) (s : ByteArray) (P0 : World → Prop) (P15 : Value → World → Prop) (P23 : World → Prop) (P29 : World → Prop) (P34 : World → Prop) (P42 : World → Prop) (P47 : Value → World → Prop)
  (hcv : Aside0 (∀ V u2, P47 u2 V → (convert 39 9 u2).run Tryz.prog V = .ok (.string s) V))
  (hP0 : P0 W.drew)
  (hS0 : ∀ V, P0 V → oa_r13S wb d j r q lv V)
  (hc15 : ∀ V, P0 V → Calls Tryz.prog 19 #[.pointer (some ⟨j, 0, none⟩)] V fun e w' => ∃ u1, e = .returned u1 ∧ P15 u1 w')
  (hS15 : ∀ V u1, P15 u1 V → oa_r13S wb d j r q lv V)
  (hc23 : ∀ V u1, P15 u1 V → Calls Tryz.prog 18 #[u1, lv] V fun e w' => e = .returned (.bool true) ∧ P23 w')
  (hS23 : ∀ V, P23 V → oa_r13S wb d j r q lv V)
  (hc29 : ∀ V, P23 V → Calls Tryz.prog 20 #[.pointer (some ⟨j, 0, none⟩)] V fun e w' => e = .returned (.int .i64 x) ∧ P29 w')
  (hS29 : ∀ V, P29 V → oa_r13S wb d j r q lv V)
  (hc34 : ∀ V, P29 V → Calls Tryz.prog 21 #[.pointer (some ⟨q, 0, none⟩)] V fun e w' => e = .returned (.int .i64 x) ∧ P34 w')
  (hS34 : ∀ V, P34 V → oa_r13S wb d j r q lv V)
  (hc42 : ∀ V, P34 V → Calls Tryz.prog 22 #[.pointer (some ⟨d, 0, none⟩)] V fun e w' => e = .returned (.string s) ∧ P42 w')
  (hS42 : ∀ V, P42 V → oa_r13S wb d j r q lv V)
  (hc47 : ∀ V, P42 V → Calls Tryz.prog 23 #[.pointer (some ⟨r, 0, none⟩)] V fun e w' => ∃ u2, e = .returned u2 ∧ P47 u2 w')
  (hS47 : ∀ V u2, P47 u2 V → oa_r13S wb d j r q lv V)
  (hQ : ∀ (z98 z99 z100 z101 z102 z103 z104 z105 z106 z107 z108 z109 z110 z111 z112 z113 z114 z115 z116 z117 z118 z119 z120 z121 z122 z123 z124 z125 z126 z127 z128 z129 z130 z131 z132 z133 z134 z135 z136 z137 z138 z139 z140 z141 z142 z143 z144 z145 z146 z147 z148 z149 z150 : Value) (W' : World) (u2 : Value), P47 u2 W' → R ⟨#[v0, v1, v2, v3, v4, v5, v6, v7, v8, v9, Value.bool true, Value.bool true, Value.pointer (some ⟨wb, 0, none⟩), v13, Value.bool true, v15, v16, v17, v18, v19, v20, v21, v22, v23, v24, v25, v26, v27, v28, v29, v30, v31, v32, v33, v34, v35, v36, v37, v38, v39, v40, v41, v42, v43, v44, v45, v46, v47, v48, v49, v50, v51, v52, v53, v54, v55, v56, v57, v58, v59, v60, v61, v62, v63, v64, v65, v66, v67, v68, v69, v70, v71, v72, v73, v74, v75, v76, v77, v78, v79, v80, v81, v82, v83, v84, v85, v86, v87, v88, v89, v90, v91, v92, v93, v94, v95, v96, v97, z98, z99, z100, z101, z102, z103, z104, z105, z106, z107, z108, z109, z110, z111, z112, z113, z114, z115, z116, z117, z118, z119, z120, z121, z122, z123, z124, z125, z126, z127, z128, z129, z130, z131, z132, z133, z134, z135, z136, z137, z138, z139, z140, z141, z142, z143, z144, z145, z146, z147, z148, z149, z150], []⟩ W') :
  oaR13.wp Tryz.prog (Norm R) ⟨#[v0, v1, v2, v3, v4, v5, v6, v7, v8, v9, v10, Value.bool true, Value.pointer (some ⟨wb, 0, none⟩), v13, Value.bool true, v15, v16, v17, v18, v19, v20, v21, v22, v23, v24, v25, v26, v27, v28, v29, v30, v31, v32, v33, v34, v35, v36, v37, v38, v39, v40, v41, v42, v43, v44, v45, v46, v47, v48, v49, v50, v51, v52, v53, v54, v55, v56, v57, v58, v59, v60, v61, v62, v63, v64, v65, v66, v67, v68, v69, v70, v71, v72, v73, v74, v75, v76, v77, v78, v79, v80, v81, v82, v83, v84, v85, v86, v87, v88, v89, v90, v91, v92, v93, v94, v95, v96, v97, v98, v99, v100, v101, v102, v103, v104, v105, v106, v107, v108, v109, v110, v111, v112, v113, v114, v115, v116, v117, v118, v119, v120, v121, v122, v123, v124, v125, v126, v127, v128, v129, v130, v131, v132, v133, v134, v135, v136, v137, v138, v139, v140, v141, v142, v143, v144, v145, v146, v147, v148, v149, v150], []⟩ W := by
 unfold oaR13
 conv => arg 2; whnf
 refine start_ (n := 54) (S := (oa_r13S wb d j r q lv)) (ds := []) (Sx36.b 54 0) (by kernel_rfl) rfl rfl (hS0 _ hP0) (fun hHeld => ?_); refine with_tabW oaT.tab13 oaT.bits13 (fun HT_ HW_ => ?_)
 have hP0_ := hP0
 clear hP0
 generalize W.drew = w0_ at hHeld hP0_ ⊢
 refine Sx36.p (i := 0) (N := some 98) HT_.out (Sx36.b 54 1) ?_
 refine Sx36.p (i := 1) (N := some 99) HT_.out (Sx36.b 54 3) ?_
 refine Sx36.p (i := 2) (N := some 100) HT_.out (Sx36.b 54 7) ?_
 refine Sx36.p (i := 3) (N := some 101) HT_.out (Sx36.b 54 15) ?_
 refine Sx36.p (i := 4) (N := some 102) HT_.out (Sx36.b 54 31) ?_
 refine Sx36.p (i := 5) (N := some 103) HT_.out (Sx36.b 54 63) ?_
 refine Sx36.p (i := 6) (N := some 104) HT_.out (Sx36.b 54 127) ?_
 refine Sx36.p (i := 7) (N := some 105) HT_.out (Sx36.b 54 255) ?_
 refine take_ (i := 8) (N := some 106) (v := ?_) (a' := ?_) (Sx36.b 54 511) rfl rfl (take_ofW HT_.out HW_.out (by kernel_rfl)) (fun _ _ _ h => h) (Or.inl ⟨by rfl, ?_⟩) hHeld ?_ ?_
 rotate_left
 ·intro w' hS_
  obtain ⟨q0, q1, q2, q3, q4⟩ := hS_
  go_simp
  with_reducible rfl
 rotate_left
 ·simp only [Act.put, List.setIfInBounds_toArray, List.set_cons_zero, List.set_cons_succ, i64_w, i32_w]
  rfl
 refine Sx36.p (i := 9) (N := some 107) HT_.out (Sx36.b 54 1023) ?_
 refine Sx36.p (i := 10) (N := some 108) HT_.out (Sx36.b 54 2047) ?_
 refine Sx36.p (i := 11) (N := some 109) HT_.out (Sx36.b 54 4095) ?_
 refine Sx36.p (i := 12) (N := some 110) HT_.out (Sx36.b 54 8191) ?_
 refine Sx36.p (i := 13) (N := some 111) HT_.out (Sx36.b 54 16383) ?_
 refine Sx36.p (i := 16) (N := some 114) HT_.out (Sx36.b 54 81919) ?_
 refine Sx36.p (i := 17) (N := some 115) HT_.out (Sx36.b 54 212991) ?_
 refine Sx36.p (i := 18) (N := some 116) HT_.out (Sx36.b 54 475135) ?_
 refine take_ (i := 14) (N := some 112) (v := ?_) (a' := ?_) (Sx36.b 54 491519) rfl rfl (take_ofW HT_.out HW_.out (by kernel_rfl)) (fun _ _ _ h => h) (Or.inl ⟨by rfl, ?_⟩) hHeld ?_ ?_
 rotate_left
 ·intro w' hS_
  obtain ⟨q0, q1, q2, q3, q4⟩ := hS_
  go_simp
  with_reducible rfl
 rotate_left
 ·simp only [Act.put, List.setIfInBounds_toArray, List.set_cons_zero, List.set_cons_succ, i64_w, i32_w]
  rfl
 refine take_ (i := 19) (N := some 117) (v := ?_) (a' := ?_) (Sx36.b 54 1015807) rfl rfl (take_ofW HT_.out HW_.out (by kernel_rfl)) (fun _ _ _ h => h) (Or.inl ⟨by rfl, ?_⟩) hHeld ?_ ?_
 rotate_left
 ·intro w' hS_
  obtain ⟨q0, q1, q2, q3, q4⟩ := hS_
  go_simp
  with_reducible rfl
 rotate_left
 ·simp only [Act.put, List.setIfInBounds_toArray, List.set_cons_zero, List.set_cons_succ, i64_w, i32_w]
  rfl
 refine Sx36.p (i := 20) (N := some 118) HT_.out (Sx36.b 54 2064383) ?_
 refine Sx36.p (i := 21) (N := some 119) HT_.out (Sx36.b 54 4161535) ?_
 refine take_ (i := 22) (N := some 120) (v := ?_) (a' := ?_) (Sx36.b 54 8355839) rfl rfl (take_ofW HT_.out HW_.out (by kernel_rfl)) (fun _ _ _ h => h) (Or.inl ⟨by rfl, ?_⟩) hHeld ?_ ?_
 rotate_left
 ·intro w' hS_
  obtain ⟨q0, q1, q2, q3, q4⟩ := hS_
  go_simp
  with_reducible rfl
 rotate_left
 ·simp only [Act.put, List.setIfInBounds_toArray, List.set_cons_zero, List.set_cons_succ, i64_w, i32_w]
  rfl
 refine one_ (i := 15) (N := some 113) (Sx36.b 54 8388607) rfl rfl (one_of HT_.out (by kernel_rfl)) (by decide) (fun K hK => ?_)
 refine goes_ Tryz.func19 (by kernel_rfl) rfl #[.pointer (some ⟨j, 0, none⟩)] (by rfl) rfl rfl (by (try simp only [List.map_toArray, List.map_cons, List.map_nil]); first | done | rfl) ?_
 refine (hc15 _ hP0_).mono ?_
 rintro e wc15_ ⟨u1, rfl, hp15_⟩
 refine ⟨_, rfl, ?_⟩
 refine hK.out _ _ (hS15 _ u1 hp15_) (fun hHeld => ?_)
 clear hK K
 refine norm_ (a' := ?_) ?_ ?_
 rotate_left
 ·show Act.put _ (some 113) _ = _
  simp only [Act.put, List.setIfInBounds_toArray, List.set_cons_zero, List.set_cons_succ, i64_w, i32_w]
  rfl
 refine one_ (i := 23) (N := some 121) (Sx36.b 54 16777215) rfl rfl (one_of HT_.out (by kernel_rfl)) (by decide) (fun K hK => ?_)
 refine goes_ Tryz.func18 (by kernel_rfl) rfl #[u1, lv] (by rfl) rfl rfl (by (try simp only [List.map_toArray, List.map_cons, List.map_nil]); first | done | rfl) ?_
 refine (hc23 _ u1 hp15_).mono ?_
 rintro e wc23_ ⟨rfl, hp23_⟩
 refine ⟨_, rfl, ?_⟩
 refine hK.out _ _ (hS23 _ hp23_) (fun hHeld => ?_)
 clear hK K
 refine norm_ (a' := ?_) ?_ ?_
 rotate_left
 ·show Act.put _ (some 121) _ = _
  simp only [Act.put, List.setIfInBounds_toArray, List.set_cons_zero, List.set_cons_succ, i64_w, i32_w]
  rfl
 refine Sx36.p (i := 24) (N := some 122) HT_.out (Sx36.b 54 33554431) ?_
 refine Sx36.p (i := 25) (N := some 123) HT_.out (Sx36.b 54 67108863) ?_
 refine Sx36.p (i := 26) (N := some 124) HT_.out (Sx36.b 54 134217727) ?_
 refine Sx36.p (i := 27) (N := some 125) HT_.out (Sx36.b 54 268435455) ?_
 refine Sx36.p (i := 30) (N := some 128) HT_.out (Sx36.b 54 1342177279) ?_
 refine Sx36.p (i := 31) (N := some 129) HT_.out (Sx36.b 54 3489660927) ?_
 refine Sx36.p (i := 32) (N := some 130) HT_.out (Sx36.b 54 7784628223) ?_
 refine take_ (i := 28) (N := some 126) (v := ?_) (a' := ?_) (Sx36.b 54 8053063679) rfl rfl (take_ofW HT_.out HW_.out (by kernel_rfl)) (fun _ _ _ h => h) (Or.inl ⟨by rfl, ?_⟩) hHeld ?_ ?_
 rotate_left
 ·intro w' hS_
  obtain ⟨q0, q1, q2, q3, q4⟩ := hS_
  go_simp
  with_reducible rfl
 rotate_left
 ·simp only [Act.put, List.setIfInBounds_toArray, List.set_cons_zero, List.set_cons_succ, i64_w, i32_w]
  rfl
 refine take_ (i := 33) (N := some 131) (v := ?_) (a' := ?_) (Sx36.b 54 16642998271) rfl rfl (take_ofW HT_.out HW_.out (by kernel_rfl)) (fun _ _ _ h => h) (Or.inl ⟨by rfl, ?_⟩) hHeld ?_ ?_
 rotate_left
 ·intro w' hS_
  obtain ⟨q0, q1, q2, q3, q4⟩ := hS_
  go_simp
  with_reducible rfl
 rotate_left
 ·simp only [Act.put, List.setIfInBounds_toArray, List.set_cons_zero, List.set_cons_succ, i64_w, i32_w]
  rfl
 refine one_ (i := 29) (N := some 127) (Sx36.b 54 17179869183) rfl rfl (one_of HT_.out (by kernel_rfl)) (by decide) (fun K hK => ?_)
 refine goes_ Tryz.func20 (by kernel_rfl) rfl #[.pointer (some ⟨j, 0, none⟩)] (by rfl) rfl rfl (by (try simp only [List.map_toArray, List.map_cons, List.map_nil]); first | done | rfl) ?_
 refine (hc29 _ hp23_).mono ?_
 rintro e wc29_ ⟨rfl, hp29_⟩
 refine ⟨_, rfl, ?_⟩
 refine hK.out _ _ (hS29 _ hp29_) (fun hHeld => ?_)
 clear hK K
 refine norm_ (a' := ?_) ?_ ?_
 rotate_left
 ·show Act.put _ (some 127) _ = _
  simp only [Act.put, List.setIfInBounds_toArray, List.set_cons_zero, List.set_cons_succ, i64_w, i32_w]
  rfl
 refine one_ (i := 34) (N := some 132) (Sx36.b 54 34359738367) rfl rfl (one_of HT_.out (by kernel_rfl)) (by decide) (fun K hK => ?_)
 refine goes_ Tryz.func21 (by kernel_rfl) rfl #[.pointer (some ⟨q, 0, none⟩)] (by rfl) rfl rfl (by (try simp only [List.map_toArray, List.map_cons, List.map_nil]); first | done | rfl) ?_
 refine (hc34 _ hp29_).mono ?_
 rintro e wc34_ ⟨rfl, hp34_⟩
 refine ⟨_, rfl, ?_⟩
 refine hK.out _ _ (hS34 _ hp34_) (fun hHeld => ?_)
 clear hK K
 refine norm_ (a' := ?_) ?_ ?_
 rotate_left
 ·show Act.put _ (some 132) _ = _
  simp only [Act.put, List.setIfInBounds_toArray, List.set_cons_zero, List.set_cons_succ, i64_w, i32_w]
  rfl
 refine Sx36.p (i := 35) (N := some 133) HT_.out (Sx36.b 54 68719476735) ?_
 refine Sx36.p (i := 36) (N := some 134) HT_.out (Sx36.b 54 137438953471) ?_
 refine Sx36.p (i := 37) (N := some 135) HT_.out (Sx36.b 54 274877906943) ?_
 refine Sx36.p (i := 38) (N := some 136) HT_.out (Sx36.b 54 549755813887) ?_
 refine Sx36.p (i := 39) (N := some 137) HT_.out (Sx36.b 54 1099511627775) ?_
 refine Sx36.p (i := 40) (N := some 138) HT_.out (Sx36.b 54 2199023255551) ?_
 refine Sx36.p (i := 43) (N := some 141) HT_.out (Sx36.b 54 10995116277759) ?_
 refine Sx36.p (i := 44) (N := some 142) HT_.out (Sx36.b 54 28587302322175) ?_
 refine Sx36.p (i := 45) (N := some 143) HT_.out (Sx36.b 54 63771674411007) ?_
 refine take_ (i := 41) (N := some 139) (v := ?_) (a' := ?_) (Sx36.b 54 65970697666559) rfl rfl (take_ofW HT_.out HW_.out (by kernel_rfl)) (fun _ _ _ h => h) (Or.inl ⟨by rfl, ?_⟩) hHeld ?_ ?_
 rotate_left
 ·intro w' hS_
  obtain ⟨q0, q1, q2, q3, q4⟩ := hS_
  go_simp
  with_reducible rfl
 rotate_left
 ·simp only [Act.put, List.setIfInBounds_toArray, List.set_cons_zero, List.set_cons_succ, i64_w, i32_w]
  rfl
 refine take_ (i := 46) (N := some 144) (v := ?_) (a' := ?_) (Sx36.b 54 136339441844223) rfl rfl (take_ofW HT_.out HW_.out (by kernel_rfl)) (fun _ _ _ h => h) (Or.inl ⟨by rfl, ?_⟩) hHeld ?_ ?_
 rotate_left
 ·intro w' hS_
  obtain ⟨q0, q1, q2, q3, q4⟩ := hS_
  go_simp
  with_reducible rfl
 rotate_left
 ·simp only [Act.put, List.setIfInBounds_toArray, List.set_cons_zero, List.set_cons_succ, i64_w, i32_w]
  rfl
 refine one_ (i := 42) (N := some 140) (Sx36.b 54 140737488355327) rfl rfl (one_of HT_.out (by kernel_rfl)) (by decide) (fun K hK => ?_)
 refine goes_ Tryz.func22 (by kernel_rfl) rfl #[.pointer (some ⟨d, 0, none⟩)] (by rfl) rfl rfl (by (try simp only [List.map_toArray, List.map_cons, List.map_nil]); first | done | rfl) ?_
 refine (hc42 _ hp34_).mono ?_
 rintro e wc42_ ⟨rfl, hp42_⟩
 refine ⟨_, rfl, ?_⟩
 refine hK.out _ _ (hS42 _ hp42_) (fun hHeld => ?_)
 clear hK K
 refine norm_ (a' := ?_) ?_ ?_
 rotate_left
 ·show Act.put _ (some 140) _ = _
  simp only [Act.put, List.setIfInBounds_toArray, List.set_cons_zero, List.set_cons_succ, i64_w, i32_w]
  rfl
 refine one_ (i := 47) (N := some 145) (Sx36.b 54 281474976710655) rfl rfl (one_of HT_.out (by kernel_rfl)) (by decide) (fun K hK => ?_)
 refine goes_ Tryz.func23 (by kernel_rfl) rfl #[.pointer (some ⟨r, 0, none⟩)] (by rfl) rfl rfl (by (try simp only [List.map_toArray, List.map_cons, List.map_nil]); first | done | rfl) ?_
 refine (hc47 _ hp42_).mono ?_
 rintro e wc47_ ⟨u2, rfl, hp47_⟩
 refine ⟨_, rfl, ?_⟩
 refine hK.out _ _ (hS47 _ u2 hp47_) (fun hHeld => ?_)
 clear hK K
 refine norm_ (a' := ?_) ?_ ?_
 rotate_left
 ·show Act.put _ (some 145) _ = _
  simp only [Act.put, List.setIfInBounds_toArray, List.set_cons_zero, List.set_cons_succ, i64_w, i32_w]
  rfl
 refine one_ (i := 48) (N := some 146) (Sx36.b 54 562949953421311) rfl rfl (one_of HT_.out (by kernel_rfl)) (by decide) (fun K hK => ?_)
 have hcv_ := hcv.out _ _ hp47_
 go_simp
 refine hK.out _ _ hHeld (fun hHeld => ?_)
 clear hK K
 refine Sx36.p (i := 49) (N := some 147) HT_.out (Sx36.b 54 1125899906842623) ?_
 refine Sx36.p (i := 50) (N := some 148) HT_.out (Sx36.b 54 2251799813685247) ?_
 refine Sx36.p (i := 51) (N := some 149) HT_.out (Sx36.b 54 4503599627370495) ?_
 refine Sx36.p (i := 52) (N := some 150) HT_.out (Sx36.b 54 9007199254740991) ?_
 refine Sx36.p (i := 53) (N := some 10) HT_.out (Sx36.b 54 18014398509481983) ?_
 refine done_ (done_of HT_.out (by kernel_rfl)) ?_
 exact hQ _ _ _ _ _ _ _ _ _ _ _ _ _ _ _ _ _ _ _ _ _ _ _ _ _ _ _ _ _ _ _ _ _ _ _ _ _ _ _ _ _ _ _ _ _ _ _ _ _ _ _ _ _ _ u2 hp47_
end Go.Proofs.YtniegajdmbepbaaGreatDoor.Jm

set_option linter.unusedVariables false
set_option linter.unusedSimpArgs false
namespace Go.Proofs.YtniegajdmbepbaaGreatDoor.Jm
open Go Go.RowKit Go.Shelf Go.Proofs.YtniegajdmbepbaaGreatDoorW.PrintWords Go.Proofs.YtniegajdmbepbaaGreatDoorW.PrintMore Go.Proofs.YtniegajdmbepbaaGreatDoor.Pr Go.Proofs.YtniegajdmbepbaaGreatDoor.Pl Go.Proofs.YtniegajdmbepbaaGreatDoor.WPure

def J1 (V : World) (D : Dsk) : Option Jr → Value → Prop
 | none, jp => jp = .pointer none
 | some jr, jp => ∃ j B, jp = .pointer (some ⟨j, 0, none⟩) ∧ JrAt V B j D jr ∧ D.B ≤ B
def J2 (b : Nat) (V : World) (r : Nat) : Option Jr → Value → Prop
 | none, kp => kp = .pointer none
 | some jr, kp => ∃ q B, kp = .pointer (some ⟨q, 0, none⟩) ∧ RefJ V B q r jr ∧ b ≤ B
structure Mix (b : Nat) (w0 : World) (wb : Nat) (D : Dsk) (r Br : Nat) (jp kp : Value) (dk1 : Dk) (o1 : Option Jr) (dk2 : Dk) (o2 : Option Jr) (V : World) : Prop where
 tw : V.heap[wb]? = some (.cells #[.pointer (some ⟨D.d, 0, none⟩), jp, .pointer (some ⟨r, 0, none⟩), kp] 32 (0, 0))
 d1 : DiskAt V D dk1
 d2 : RefAt V Br r (Zd D) dk2
 j1 : J1 V D o1 jp
 j2 : J2 b V r o2 kp
 hb1 : b ≤ D.B
 hb2 : b ≤ Br
 hwb : b ≤ wb
 bel : Below b w0 V
section
variable {b : Nat} {w0 : World} {wb : Nat} {D : Dsk} {r Br : Nat} {jp kp : Value} {dk1 dk2 dk1' dk2' : Dk} {o1 o2 : Option Jr} {V V' : World}
theorem Mix.lt (h : Mix b w0 wb D r Br jp kp dk1 o1 dk2 o2 V) : wb < V.heap.size := (Array.getElem?_eq_some_iff.1 h.tw).1
theorem Mix.bs (h : Mix b w0 wb D r Br jp kp dk1 o1 dk2 o2 V) : b ≤ V.heap.size := Nat.le_trans h.hwb (Nat.le_of_lt h.lt)
theorem Mix.cells (h : Mix b w0 wb D r Br jp kp dk1 o1 dk2 o2 V) : V.cell? ⟨wb, 0, none⟩ = some (.pointer (some ⟨D.d, 0, none⟩)) ∧ V.cell? ⟨wb, 1, none⟩ = some jp ∧ V.cell? ⟨wb, 2, none⟩ = some (.pointer (some ⟨r, 0, none⟩)) ∧ V.cell? ⟨wb, 3, none⟩ = some kp :=
 ⟨(blk_cells h.tw).1 0, (blk_cells h.tw).1 1, (blk_cells h.tw).1 2, (blk_cells h.tw).1 3⟩
theorem J1.kt {P : TypeId → Prop} {o : Option Jr} (h : J1 V D o jp) (k : KT P V V') (hs : V.heap.size ≤ V'.heap.size) (h1 : P 74) (h2 : P 9) : J1 V' D o jp := by
 cases o with
 | none => exact h
 | some jr => obtain ⟨j, B, e, hj, hB⟩ := h; exact ⟨j, B, e, hj.kt k hs h1 h2, hB⟩
theorem J2.kt {P : TypeId → Prop} {o : Option Jr} (h : J2 b V r o kp) (k : KT P V V') (h1 : P 43) (h2 : P 9) : J2 b V' r o kp := by
 cases o with
 | none => exact h
 | some jr => obtain ⟨q, B, e, hj, hB⟩ := h; exact ⟨q, B, e, hj.kt k h1 h2, hB⟩
theorem Mix.keep (h : Mix b w0 wb D r Br jp kp dk1 o1 dk2 o2 V) (k : Below V.heap.size V V') : Mix b w0 wb D r Br jp kp dk1 o1 dk2 o2 V' :=
 ⟨(k.block _ h.lt).trans h.tw, h.d1.keep k, h.d2.keep k, h.j1.kt (P := fun _ => True) (KT.of_below k) k.size trivial trivial, h.j2.kt (P := fun _ => True) (KT.of_below k) trivial trivial, h.hb1, h.hb2, h.hwb, h.bel.trans (k.mono h.bs)⟩
/-- A call on the program's disk. -/
theorem Mix.off (h : Mix b w0 wb D r Br jp kp dk1 o1 dk2 o2 V) (o : Off D V V') (d : DiskAt V' D dk1') : Mix b w0 wb D r Br jp kp dk1' o1 dk2 o2 V' := by
 have K := o.kt h.d1
 refine ⟨K.1 _ _ _ _ h.tw (by decide), d, h.d2.kt K.1 (by decide) (by decide) K.2, ?_, h.j2.kt K.1 (by decide) (by decide), h.hb1, h.hb2, h.hwb, h.bel.trans (o.belowB h.hb1 h.d1.sizeB)⟩
 have := h.j1
 cases o1 with
 | none => exact this
 | some jr => obtain ⟨j, B, e, hj, hB⟩ := this; exact ⟨j, B, e, hj.off o h.d1, hB⟩
theorem Mix.roff (h : Mix b w0 wb D r Br jp kp dk1 o1 dk2 o2 V) (o : ROff Br r V V') (d : RefAt V' Br r (Zd D) dk2') : Mix b w0 wb D r Br jp kp dk1 o1 dk2' o2 V' := by
 have K := o.kt h.d2
 have hbr : Br ≤ r := let ⟨_, _, _, q, _⟩ := h.d2; q.hr
 refine ⟨K _ _ _ _ h.tw (by decide), h.d1.kt K (by decide) (by decide) (by decide), d, h.j1.kt K o.size (by decide) (by decide), ?_, h.hb1, h.hb2, h.hwb, h.bel.trans (o.below h.hb2 hbr h.bs)⟩
 have := h.j2
 cases o2 with
 | none => exact this
 | some jr => obtain ⟨q, B, e, ⟨⟨lv, hk⟩, h3⟩, hB⟩ := this; exact ⟨q, B, e, ⟨⟨lv, hk.roff o⟩, h3⟩, hB⟩
end
section
variable {b : Nat} {w0 : World} {wb : Nat} {D : Dsk} {r Br j q : Nat} {jp kp : Value} {dk1 dk2 : Dk} {jr1 jr2 : Jr} {o1 o2 : Option Jr} {V V' : World}
/-- What is known of the variables. -/
structure Gl (b : Nat) (w0 : World) (a : Addr) : Prop where
 amb : Sha.Amb w0
 err : AmbE a w0
 g1 : 3 < b
 g2 : 0 < b
theorem Gl.of {a : Addr} (g : Gl b w0 a) (h : Below b w0 V) : Sha.Amb V ∧ AmbE a V :=
 ⟨let ⟨t, fr, x⟩ := g.amb; ⟨t, fr, (h.block _ g.g1).trans x⟩, g.err.keep (h.block _ g.g2)⟩
theorem Mix.pappend {a : Addr} (g : Gl b w0 a) (h : Mix b w0 wb D r Br (.pointer (some ⟨j, 0, none⟩)) kp dk1 (some jr1) dk2 o2 V) {v : Value} {l : List ByteArray} (hl : Strs V v l) (hh : jr1.head.size = 32) (hsz : jr1.size ≤ 1000000) (hrs : jr1.records.length ≤ 1000000)
  (hn : l.length ≤ 6) (hs : ∀ s ∈ l, s.size ≤ 100) (hf : dk1.pend.length + 4 ≤ 1000000) :
  Calls Tryz.prog 10 #[.pointer (some ⟨j, 0, none⟩), v] V fun e w' => e = .returned (.int .i64 (appendM chF dk1 jr1 l).2.2) ∧ Mix b w0 wb D r Br (.pointer (some ⟨j, 0, none⟩)) kp (appendM chF dk1 jr1 l).1 (some (appendM chF dk1 jr1 l).2.1) dk2 o2 w' := by
 obtain ⟨j', B, e, hj, hB⟩ := h.j1
 injection e with e; injection e with e; injection e with e
 subst e
 have hbt := stored_bound 100 (by decide) l jr1.head hs
 refine (append_calls hj h.d1 hl (g.of h.bel).1 hh (by omega) hrs (by omega) (by omega) (by omega) (Nat.le_trans hB (by obtain ⟨rv, hj⟩ := hj; exact hj.tape.hp))).mono ?_
 rintro e w' ⟨rfl, hd, hj', o⟩
 have K := o.kt h.d1 hj
 exact ⟨rfl, K.1 _ _ _ _ h.tw (by decide), hd, h.d2.kt K.1 (by decide) (by decide) K.2, ⟨j, B, rfl, hj', hB⟩, h.j2.kt K.1 (by decide) (by decide), h.hb1, h.hb2, h.hwb, h.bel.trans (o.belowB h.hb1 h.d1.sizeB)⟩
theorem Mix.rappend (h : Mix b w0 wb D r Br jp (.pointer (some ⟨q, 0, none⟩)) dk1 o1 dk2 (some jr2) V) {v : Value} {b0 : Nat} {l : List ByteArray} (hl : V.ownsRow b0 9 1 v l.length (l.map Value.string)) (hsz : jr2.size ≤ 1000000)
  (hn : l.length ≤ 6) (hs : ∀ s ∈ l, s.size ≤ 100) (hf : dk2.pend.length + 4 ≤ 1000000) :
  Calls Tryz.prog 12 #[.pointer (some ⟨q, 0, none⟩), v] V fun e w' => e = .returned (.int .i64 (appendM chF dk2 jr2 l).2.2) ∧ Mix b w0 wb D r Br jp (.pointer (some ⟨q, 0, none⟩)) dk1 o1 (appendM chF dk2 jr2 l).1 (some (appendM chF dk2 jr2 l).2.1) w' := by
 obtain ⟨q', B, e, hj, hB⟩ := h.j2
 injection e with e; injection e with e; injection e with e
 subst e
 have hbr : Br ≤ r := let ⟨_, _, _, q, _⟩ := h.d2; q.hr
 have hq : b ≤ q := by obtain ⟨⟨lv, hk⟩, _⟩ := hj; exact Nat.le_trans hB hk.hq
 refine (refappend_calls hj h.d2 hl hsz hn hs hf h.d1.zlt).mono ?_
 rintro e w' ⟨rfl, hd, hj', o⟩
 have K := o.kt h.d2 hj
 exact ⟨rfl, K _ _ _ _ h.tw (by decide), h.d1.kt K (by decide) (by decide) (by decide), hd, h.j1.kt K o.size (by decide) (by decide), ⟨q, B, rfl, hj', hB⟩, h.hb1, h.hb2, h.hwb, h.bel.trans (o.below h.hb2 hbr hq h.bs)⟩
end
/-- From begin's and open's state to this one, and back. -/
theorem Mix.of_two {b : Nat} {w0 w : World} {wb : Nat} {D : Dsk} {r Br : Nat} {dk : Dk} {jp kp : Value} {o : Option Jr} (h : Two b w wb D r Br dk jp kp) (hj : Jo b w D r o jp kp) (hb : Below b w0 w) : Mix b w0 wb D r Br jp kp dk o dk o w := by
 refine ⟨h.tw, h.d1, h.d2, ?_, ?_, h.hb1, h.hb2, h.hwb, hb⟩
 ·cases o with
  | none => exact hj.1
  | some jr => obtain ⟨j, q, B, Bq, e1, e2, a, c, d, e⟩ := hj; exact ⟨j, B, e1, a, d⟩
 ·cases o with
  | none => exact hj.2
  | some jr => obtain ⟨j, q, B, Bq, e1, e2, a, c, d, e⟩ := hj; exact ⟨q, Bq, e2, c, e⟩
theorem Mix.two {b : Nat} {w0 w : World} {wb : Nat} {D : Dsk} {r Br : Nat} {dk : Dk} {jp kp : Value} {o1 o2 : Option Jr} (h : Mix b w0 wb D r Br jp kp dk o1 dk o2 w) : Two b w wb D r Br dk jp kp ∧ (∃ p, jp = .pointer p) ∧ ∃ p, kp = .pointer p := by
 refine ⟨⟨h.tw, h.d1, h.d2, h.hb1, h.hb2, h.hwb⟩, ?_, ?_⟩
 ·have := h.j1
  cases o1 with
  | none => exact ⟨_, this⟩
  | some jr => obtain ⟨j, B, e1, _⟩ := this; exact ⟨_, e1⟩
 ·have := h.j2
  cases o2 with
  | none => exact ⟨_, this⟩
  | some jr => obtain ⟨q, B, e1, _⟩ := this; exact ⟨_, e1⟩
theorem Mix.open_ {b : Nat} {w0 w : World} {wb : Nat} {D : Dsk} {r Br : Nat} {dk : Dk} {jp kp : Value} {o1 o2 : Option Jr} {a : Addr} (g : Gl b w0 a) (h : Mix b w0 wb D r Br jp kp dk o1 dk o2 w) (hf : dk.pend.length + 2 ≤ 1000000) :
  Calls Tryz.prog 17 #[.pointer (some ⟨wb, 0, none⟩)] w fun e w' => e = .returned (.bool true) ∧ ∃ jp' kp', Mix b w0 wb D r Br jp' kp' (openM chF z32 dk).1 (openM chF z32 dk).2.1 (openM chF z32 dk).1 (openM chF z32 dk).2.1 w' := by
 obtain ⟨t, hp, hk⟩ := h.two
 have ga := g.of h.bel
 refine (wopen_calls t a ga.1 ga.2 hf hp hk).mono ?_
 rintro e w' ⟨rfl, jp', kp', t', j', b'⟩
 exact ⟨rfl, jp', kp', Mix.of_two t' j' (h.bel.trans b')⟩
end Go.Proofs.YtniegajdmbepbaaGreatDoor.Jm

set_option linter.unusedVariables false
set_option linter.unusedSimpArgs false
namespace Go.Proofs.YtniegajdmbepbaaGreatDoor.Jm
open Go Go.RowKit Go.Proofs.YtniegajdmbepbaaGreatDoorW.PrintWords Go.Proofs.YtniegajdmbepbaaGreatDoorW.PrintMore Go.Proofs.YtniegajdmbepbaaGreatDoor.Pl Go.Proofs.YtniegajdmbepbaaGreatDoor.Pr Go.Proofs.YtniegajdmbepbaaGreatDoor.WPure

theorem append_pend (d : Dk) (j : Jr) (l : List ByteArray) : (appendM chF d j l).1.pend.length ≤ d.pend.length + 2 := by
 by_cases hb : j.broken = true
 ·rw [appendM_broken d j l hb]; exact Nat.le_add_right _ _
 ·have hb : j.broken = false := by simpa using hb
  by_cases hl : l.any (fun s => decide (65536 < s.size)) = true
  ·rw [appendM_long d j l hl]; exact Nat.le_add_right _ _
  ·have hl : l.any (fun s => decide (65536 < s.size)) = false := by simpa using hl
   by_cases hf : d.dur.length < j.size + (stored chF j.head l).length
   ·rw [appendM_full d j l hb hl hf]; exact Nat.le_add_right _ _
   ·by_cases hs : stored chF j.head l = []
    ·rw [appendM_none d j l hb hl hf hs]; exact Nat.le_add_right _ _
    ·obtain ⟨D1, hD1⟩ : ∃ D, d.write ((j.size + 1 : Nat) : Int) (ofB (stored chF j.head l).tail) = D := ⟨_, rfl⟩
     obtain ⟨d1, e1⟩ := D1
     obtain ⟨D2, hD2⟩ : ∃ D, d1.sync = D := ⟨_, rfl⟩
     obtain ⟨d2, e2⟩ := D2
     obtain ⟨D3, hD3⟩ : ∃ D, d2.write (j.size : Int) (ofB ((stored chF j.head l).take 1)) = D := ⟨_, rfl⟩
     obtain ⟨d3, e3⟩ := D3
     obtain ⟨D4, hD4⟩ : ∃ D, d3.sync = D := ⟨_, rfl⟩
     obtain ⟨d4, e4⟩ := D4
     rw [appendM_write d j l hb hl hf hs _ (run4 d d1 d2 d3 d4 (j.size + 1) j.size _ _ e1 e2 e3 e4 hD1 hD2 hD3 hD4)]
     have p1 := write_pend hD1
     have p2 := sync_pend hD2
     have p3 := write_pend hD3
     have p4 := sync_pend hD4
     split <;> (try dsimp only) <;> (repeat' split) <;> (try dsimp only) <;> omega
theorem dk_write_pend (d : Dk) (a : Int) (x : ByteArray) : (d.write a x).1.pend.length ≤ d.pend.length + 1 := write_pend (d := d) (a := a) (x := x) (e := (d.write a x).2) rfl
theorem same_l02 (l : List ByteArray) (hl : l.length ≤ 5000000) : ∀ k i : Nat, i + k = l.length → clearwaylaw29_same.l0 (k + 1) l l (i : Int) = some true := by
 intro k
 induction k with
 | zero =>
  intro i hi
  rw [clearwaylaw29_same.l0, if_neg (by omega)]
 | succ k ih =>
  intro i hi
  rw [clearwaylaw29_same.l0, if_pos (by omega), if_pos (by omega), if_pos (by omega), if_pos rfl, w64 _ (by omega)]
  exact ih (i + 1) (by omega)
theorem same_refl2 (l : List ByteArray) (hl : l.length ≤ 5000000) : clearwaylaw29_same.f (l.length + 1) l l = some true := by
 unfold clearwaylaw29_same.f
 rw [if_pos rfl]
 exact same_l02 l hl l.length 0 (by omega)
theorem same_calls2 (w : World) (b1 b2 : Nat) (v1 v2 : Value) (l : List ByteArray) (hl : l.length ≤ 5000000) (h1 : w.ownsRow b1 9 1 v1 l.length (l.map Value.string)) (h2 : w.ownsRow b2 9 1 v2 l.length (l.map Value.string)) :
  Calls Tryz.prog 18 #[v1, v2] w fun e w' => e = .returned (.bool true) ∧ Below w.heap.size w w' := by
 obtain ⟨A, c, rfl, hc, hr⟩ := own_C h1
 obtain ⟨A2, c2, rfl, hc2, hr2⟩ := own_C h2
 exact (clearwaylaw29_same.calls _ A c l A2 c2 l true w hr hc hr2 hc2 (same_refl2 l hl)).mono fun e w' ⟨h1, h2⟩ => ⟨h1, h2.below⟩
theorem sync_on2 {d d2 : Dk} (h : d.sync = (d2, 0)) : d2.off = false := by
 unfold Dk.sync at h
 split at h
 ·cases h
 ·rename_i ho
  cases h
  simpa using ho
theorem openM_facts (dk dk' : Dk) (jr : Jr) (c : Int) (hb : ∀ b ∈ dk.vis, b < 256) (h : openM chF z32 dk = (dk', some jr, c)) : dk'.off = false ∧ jr.size ≤ dk.vis.length := by
 cases ho : dk.off with
 | true => rw [openM_off dk ho] at h; cases h
 | false =>
  cases hp : parse chF (dk.vis.length + 1) z32 dk.vis with
  | none => rw [openM_bad dk ho hp] at h; cases h
  | some q =>
   obtain ⟨rs, n⟩ := q
   have hn := (parse_some chF _ _ _ _ _ hb (Nat.lt_succ_self _) hp).1
   by_cases hz : (dk.vis.drop n).all (· == 0) = true
   ·rw [openM_clean dk ho rs n hp hz] at h; cases h; exact ⟨ho, hn⟩
   ·rw [openM_wipe dk ho rs n hp hz] at h
    have r1 : ∀ d1 : Dk, runC d1 [.sy] = if d1.sync.2 = 0 then (d1.sync.1, 0) else d1.sync := fun _ => rfl
    have r2 : runC dk [.wr n (ofB (zeros (dk.vis.length - n))), .sy] = if (dk.write (n : Int) (ofB (zeros (dk.vis.length - n)))).2 = 0 then runC (dk.write (n : Int) (ofB (zeros (dk.vis.length - n)))).1 [.sy] else dk.write (n : Int) (ofB (zeros (dk.vis.length - n))) := rfl
    rw [r2, r1] at h
    by_cases h1 : (dk.write (n : Int) (ofB (zeros (dk.vis.length - n)))).2 = 0
    ·rw [if_pos h1] at h
     by_cases h2 : (dk.write (n : Int) (ofB (zeros (dk.vis.length - n)))).1.sync.2 = 0
     ·rw [if_pos h2, if_pos rfl] at h
      cases h
      exact ⟨sync_on2 (Prod.ext rfl h2), hn⟩
     ·rw [if_neg h2, if_neg h2] at h; cases h
    ·rw [if_neg h1, if_neg h1] at h; cases h
theorem cellsB {W V : World} {wb q : Nat} {a b c d lv : Value} (h : W.cell? ⟨wb, 0, none⟩ = some a ∧ W.cell? ⟨wb, 1, none⟩ = some b ∧ W.cell? ⟨wb, 2, none⟩ = some c ∧ W.cell? ⟨wb, 3, none⟩ = some d) (hq : W.cell? ⟨q, 1, none⟩ = some lv) (k : Below W.heap.size W V) :
  V.cell? ⟨wb, 0, none⟩ = some a ∧ V.cell? ⟨wb, 1, none⟩ = some b ∧ V.cell? ⟨wb, 2, none⟩ = some c ∧ V.cell? ⟨wb, 3, none⟩ = some d ∧ V.cell? ⟨q, 1, none⟩ = some lv :=
 have f : ∀ {p : Addr} {u : Value}, W.cell? p = some u → V.cell? p = some u := fun {p u} hp => (k.cell (World.block_lt_of_cell? W _ hp)).trans hp
 ⟨f h.1, f h.2.1, f h.2.2.1, f h.2.2.2, f hq⟩
theorem conv_row {V : World} {b gb n cb : Nat} {l : List Nat} (hl : l.length = n) (h : V.ownsRow b 5 1 (.slice (some ⟨gb, 0, none⟩) n cb) n (bv l)) : (convert 39 9 (.slice (some ⟨gb, 0, none⟩) n cb)).run Tryz.prog V = .ok (.string (ofB l)) V := by
 have hcv := run_convert_bytes_arg (P := Tryz.prog) V 39 5 Tryz.underlying39 Tryz.underlying5 gb 0 n cb (l.map fun (b : Nat) => (b : Int)) (by rw [List.length_map, hl]) (fun i hi => by
  have := h.cells (g := gb) rfl i (.int .u8 ((l[i]'(by omega) : Nat) : Int)) (by simp [bv, hl, hi])
  rw [Nat.zero_add]
  cases i <;> simpa [Addr.add, hl, hi] using this) 9 Tryz.underlying9
 rw [hcv, str_ofB]
set_option maxRecDepth 100000 in
set_option maxHeartbeats 16000000 in
theorem opens (w : World) (n : Int) (s : ByteArray) (A : Option Addr) (len cap : Nat) (z : List ByteArray) (at_ : Int) (c : Int) (hn : (Lit.int .i64 n).wf = true) (hsz : s.size ≤ 140737488351232)
  (hz : z.length = len ∧ len ≤ cap ∧ cap ≤ maxLen ∧ Kd.C Kd.string w A len z ∧ ∀ x ∈ z, x.size ≤ maxLen) (ha : (Lit.int .i64 at_).wf = true) (hc : (Lit.int .u8 c).wf = true) (hA : Sha.Amb w ∧ ∃ a, AmbE a w) :
  Calls Tryz.prog 3 #[.int .i64 n, .string s, .slice A len cap, .int .i64 at_, .int .u8 c] w fun e w' => e = .returned (.bool true) ∧ Below w.heap.size w w' := by
 obtain ⟨rfl, hcap, hmax, hC, _⟩ := hz
 obtain ⟨hA, a, hE⟩ := hA
 have g1 : 3 < w.heap.size := (Array.getElem?_eq_some_iff.1 hA.choose_spec.choose_spec).1
 have g2 : 0 < w.heap.size := (Array.getElem?_eq_some_iff.1 hE.choose_spec.choose_spec).1
 obtain ⟨hn1, hn2⟩ : -9223372036854775808 ≤ n ∧ n ≤ 9223372036854775807 := by simpa [Lit.wf, IntKind.min, IntKind.max, IntKind.signed, IntKind.bits] using hn
 obtain ⟨ha1, ha2⟩ : -9223372036854775808 ≤ at_ ∧ at_ ≤ 9223372036854775807 := by simpa [Lit.wf, IntKind.min, IntKind.max, IntKind.signed, IntKind.bits] using ha
 obtain ⟨hc1, hc2⟩ : 0 ≤ c ∧ c ≤ 255 := by simpa [Lit.wf, IntKind.min, IntKind.max, IntKind.signed, IntKind.bits] using hc
 obtain ⟨cn, rfl⟩ : ∃ m : Nat, c = (m : Int) := ⟨c.toNat, by omega⟩
 obtain ⟨N, hN, hN1, hN2⟩ := size_f n hn1 hn2
 obtain ⟨k, hk, hk2⟩ := pick_f at_ N ha1 ha2 (by omega)
 have hlen : z.length ≤ 9223372036854775807 := by unfold maxLen at hmax; omega
 have hss : s.size ≤ 9223372036854775807 := by omega
 have hFl := fewF_length z
 have hFs := fewF_size z
 have hSz := fun V => (clearwaylaw29_size.calls n N V hN)
 have hPk := fun V => (clearwaylaw29_pick.calls at_ (N : Int) (k : Int) V hk)
 go_enter Tryz.func3, Tryz.ntmps3
 go_upto_region 2 with (go_at_call 8; refine (sane_calls w a hA hE).mono ?_; rintro e w0 ⟨rfl, b0⟩)
 have hA0 := hA.below_block b0
 have hE0 : AmbE a w0 := hE.keep (b0.block _ g2)
 go_upto_region 5 with (go_at_call 9; refine (begin_calls w0 n N hN hN1 hN2 a hA0 hE0).mono ?_; rintro e w1 ⟨wb, D, r, Br, jp, kp, rfl, hT, hJ, b1⟩)
 have G : Gl w0.heap.size w0 a := ⟨hA0, hE0, Nat.lt_of_lt_of_le g1 b0.size, Nat.lt_of_lt_of_le g2 b0.size⟩
 have M := Mix.of_two hT hJ b1
 obtain ⟨j, B, hjp, _⟩ := M.j1
 obtain ⟨q, B2, hkp, _⟩ := M.j2
 subst hjp
 subst hkp
 have hC1 := Kd.C_below hC b0
 clear hT hJ hC
 have hbw : w.heap.size ≤ w0.heap.size := b0.size
 -- what follows the writes
 have fin : ∀ (V : World) (dk : Dk) (o1 o2 : Option Jr) (jp kp : Value), Mix w0.heap.size w0 wb D r Br jp kp dk o1 dk o2 V → Below w.heap.size w V := fun V dk o1 o2 jp kp M => b0.trans (M.bel.mono hbw)
 by_cases hl : 0 < z.length
 ·have x1 : ((0 : Int) < (z.length : Int)) = True := eq_true (by omega)
  have x2 : decide ((0 : Int) < (z.length : Int)) = true := decide_eq_true (by omega)
  have x3 : (0 < z.length) = True := eq_true hl
  go_upto_region 6 with (fail)
  obtain ⟨F, hF⟩ : ∃ F, fewF z = F := ⟨_, rfl⟩
  rw [hF] at hFl hFs
  obtain ⟨R1, hR1⟩ : ∃ R, appendM chF (newDk N) ⟨[], z32, 0, false⟩ F = R := ⟨_, rfl⟩
  have hpd : R1.1.pend.length ≤ 2 := by rw [← hR1]; exact append_pend (newDk N) _ F
  refine Sha.norm_wp ?_
  refine oa_r6 _ w1 _ _ _ _ _ _ _ _ _ _ _ _ _ _ _ _ _ _ _ _ _ _ _ _ _ _ _ _ _ _ _ _ _ _ _ _ _ _ _ _ _ _ _ _ _ _ _ _ _ _ _ _ _ _ _ _ _ _ _ _ _ _ _ _ _ _ _ _ _ _ _ _ _ _ _ _ _ _ _ _ _ _ _ _ _ _ _ _ _ _ _ _ _ _ _ _ _ _ _ _ _ _ _ _ _ _ _ _ _ _ _ _ _ _ _ _ _ _ _ _ _ _ _ _ _ _ _ _ _ _ _ _ _ _ _ _ _ _ _ _ _ _ _ _ _ _ _ _ _ wb D.d j r q (.slice A z.length cap) R1.2.2 R1.2.2
   (Mix w0.heap.size w0 wb D r Br (.pointer (some ⟨j, 0, none⟩)) (.pointer (some ⟨q, 0, none⟩)) (newDk N) (some ⟨[], z32, 0, false⟩) (newDk N) (some ⟨[], z32, 0, false⟩))
   (fun v V => Mix w0.heap.size w0 wb D r Br (.pointer (some ⟨j, 0, none⟩)) (.pointer (some ⟨q, 0, none⟩)) (newDk N) (some ⟨[], z32, 0, false⟩) (newDk N) (some ⟨[], z32, 0, false⟩) V ∧ Strs V v F)
   (Mix w0.heap.size w0 wb D r Br (.pointer (some ⟨j, 0, none⟩)) (.pointer (some ⟨q, 0, none⟩)) R1.1 (some R1.2.1) (newDk N) (some ⟨[], z32, 0, false⟩))
   (fun v V => Mix w0.heap.size w0 wb D r Br (.pointer (some ⟨j, 0, none⟩)) (.pointer (some ⟨q, 0, none⟩)) R1.1 (some R1.2.1) (newDk N) (some ⟨[], z32, 0, false⟩) V ∧ ∃ b0, V.ownsRow b0 9 1 v F.length (F.map Value.string))
   (Mix w0.heap.size w0 wb D r Br (.pointer (some ⟨j, 0, none⟩)) (.pointer (some ⟨q, 0, none⟩)) R1.1 (some R1.2.1) R1.1 (some R1.2.1))
   (M.keep (below_drew1 (Below.refl _ _))) (fun V h => h.cells)
   (fun V h => (few_calls V A cap z (Kd.C_below hC1 h.bel) hcap).mono fun e w' ⟨v, e1, _, e3, e4⟩ => ⟨v, e1, h.keep e4, by rw [← hF]; exact e3⟩) (fun V v h => h.1.cells)
   (fun V v h => by have := Mix.pappend G h.1 h.2 z32_size (by decide) (by decide) hFl hFs (by show 0 + 4 ≤ 1000000; omega); rw [hR1] at this; exact this) (fun V h => h.cells)
   (fun V h => (few_calls V A cap z (Kd.C_below hC1 h.bel) hcap).mono fun e w' ⟨v, e1, e2, e3, e4⟩ => ⟨v, e1, h.keep e4, _, by rw [← hF]; exact own_R e2⟩) (fun V v h => h.1.cells)
   (fun V v ⟨h, b0, ho⟩ => by have := Mix.rappend h ho (by decide) hFl hFs (by show 0 + 4 ≤ 1000000; omega); rw [hR1] at this; exact this) (fun V h => h.cells) ?_
  intro y26 y27 y28 y29 y30 y31 y32 y33 y34 y35 y36 y37 y38 y39 y40 y41 y42 y43 y44 y45 y46 W6 h6
  have hxx : (R1.2.2 != R1.2.2) = false := by simp
  clear M
  go_wp2_with fail
  obtain ⟨E2, hE2⟩ : ∃ E, R1.1.write (k : Int) (ofB [cn]) = E := ⟨_, rfl⟩
  have hp2 : E2.1.pend.length ≤ 3 := by rw [← hE2]; have := dk_write_pend R1.1 (k : Int) (ofB [cn]); omega
  have hcb : (ofB [cn]).size ≤ 4194304 := by rw [size_ofB (fun b hb => by rw [List.mem_singleton] at hb; omega)]; show 1 ≤ 4194304; omega
  refine Sha.norm_wp ?_
  refine oa_r8 _ W6 _ _ _ _ _ _ _ _ _ _ _ _ _ _ _ _ _ _ _ _ _ _ _ _ _ _ _ _ _ _ _ _ _ _ _ _ _ _ _ _ _ _ _ _ _ _ _ _ _ _ _ _ _ _ _ _ _ _ _ _ _ _ _ _ _ _ _ _ _ _ _ _ _ _ _ _ _ _ _ _ _ _ _ _ _ _ _ _ _ _ _ _ _ _ _ _ _ _ _ _ _ _ _ _ _ _ _ _ _ _ _ _ _ _ _ _ _ _ _ _ _ _ _ _ _ _ _ _ _ _ _ _ _ _ _ _ _ _ _ _ _ _ _ _ _ _ _ wb D.d r N k cn n at_ E2.2 (Mix w0.heap.size w0 wb D r Br (.pointer (some ⟨j, 0, none⟩)) (.pointer (some ⟨q, 0, none⟩)) R1.1 (some R1.2.1) R1.1 (some R1.2.1)) (Mix w0.heap.size w0 wb D r Br (.pointer (some ⟨j, 0, none⟩)) (.pointer (some ⟨q, 0, none⟩)) E2.1 (some R1.2.1) R1.1 (some R1.2.1)) (by omega) (fun V V' hd h => h.keep hd.below) (fun V o h => h.keep (below_alloc (Below.refl _ _) o)) hSz hPk
   (fun V h => by have := write_calls h.d1 (k : Int) (ofB [cn]) (by omega); rw [hE2] at this; exact this.mono fun e w' ⟨e1, d, o⟩ => ⟨e1, h.off o d⟩) (fun V h => ⟨h.cells.1, h.cells.2.2.1⟩) (h6.keep (below_drew1 (Below.refl _ _))) (fun V h => ⟨h.cells.1, h.cells.2.2.1⟩) ?_
  intro y48 y49 y50 y51 y52 y53 y54 y55 y56 y57 y58 W8 h8
  clear h6
  go_wp2_with fail
  refine Sha.norm_wp ?_
  refine oa_r9 _ W8 _ _ _ _ _ _ _ _ _ _ _ _ _ _ _ _ _ _ _ _ _ _ _ _ _ _ _ _ _ _ _ _ _ _ _ _ _ _ _ _ _ _ _ _ _ _ _ _ _ _ _ _ _ _ _ _ _ _ _ _ _ _ _ _ _ _ _ _ _ _ _ _ _ _ _ _ _ _ _ _ _ _ _ _ _ _ _ _ _ _ _ _ _ _ _ _ _ _ _ _ _ _ _ _ _ _ _ _ _ _ _ _ _ _ _ _ _ _ _ _ _ _ _ _ _ _ _ _ _ _ _ _ _ _ _ _ _ _ _ _ _ _ _ _ _ _ _ wb D.d r N k cn n at_ E2.2 (Mix w0.heap.size w0 wb D r Br (.pointer (some ⟨j, 0, none⟩)) (.pointer (some ⟨q, 0, none⟩)) E2.1 (some R1.2.1) R1.1 (some R1.2.1)) (Mix w0.heap.size w0 wb D r Br (.pointer (some ⟨j, 0, none⟩)) (.pointer (some ⟨q, 0, none⟩)) E2.1 (some R1.2.1) E2.1 (some R1.2.1)) (by omega) (fun V V' hd h => h.keep hd.below) (fun V o h => h.keep (below_alloc (Below.refl _ _) o)) hSz hPk
   (fun V h => by have := refwrite_calls h.d2 (k : Int) (ofB [cn]) (by omega) (by omega) hcb; rw [hE2] at this; exact this.mono fun e w' ⟨e1, d, o⟩ => ⟨e1, h.roff o d⟩) (fun V h => ⟨h.cells.1, h.cells.2.2.1⟩) (h8.keep (below_drew1 (Below.refl _ _))) (fun V h => ⟨h.cells.1, h.cells.2.2.1⟩) ?_
  intro y60 y61 y62 y63 y64 y65 y66 y67 y68 y69 y70 W9 h9
  clear h8
  obtain ⟨O, hO⟩ : ∃ O, openM chF z32 E2.1 = O := ⟨_, rfl⟩
  obtain ⟨dkO, oO, cO⟩ := O
  have hOp := Mix.open_ G h9 (by omega)
  have hvl : (E2.1).vis.length = (E2.1).dur.length ∧ ∀ b ∈ (E2.1).vis, b < 256 := by obtain ⟨_, _, _, h, _⟩ := h9.d2; exact h.vislen
  have hsm : (E2.1).dur.length ≤ 4194304 := by obtain ⟨_, h⟩ := h9.d1; exact h.small
  rw [hO] at hOp
  dsimp only at hOp
  have hOF := Lib.hid (fun jr => openM_facts _ dkO jr cO hvl.2)
  clear h9
  go_wp2_with (go_at_call 17; refine hOp.mono ?_; rintro e wO ⟨rfl, jp2, kp2, MO⟩)
  cases oO with
  | none =>
   obtain rfl : jp2 = .pointer none := MO.j1
   refine Sha.norm_wp ?_
   refine oa_r13n _ wO _ _ _ _ _ _ _ _ _ _ _ _ _ _ _ _ _ _ _ _ _ _ _ _ _ _ _ _ _ _ _ _ _ _ _ _ _ _ _ _ _ _ _ _ _ _ _ _ _ _ _ _ _ _ _ _ _ _ _ _ _ _ _ _ _ _ _ _ _ _ _ _ _ _ _ _ _ _ _ _ _ _ _ _ _ _ _ _ _ _ _ _ _ _ _ _ _ _ _ _ _ _ _ _ _ _ _ _ _ _ _ _ _ _ _ _ _ _ _ _ _ _ _ _ _ _ _ _ _ _ _ _ _ _ _ _ _ _ _ _ _ _ _ _ _ _ _ _ wb D.d (Mix w0.heap.size w0 wb D r Br (.pointer none) kp2 dkO none dkO none) (MO.keep (below_drew1 (Below.refl _ _))) (fun V h => ⟨h.cells.1, h.cells.2.1⟩) ?_
   intro y98 y99 y100 y101 y102 y103 y104 y105 y106 y107 y108 y109 y110 y111 y112 y113 y114 y115 y116 y117 y118 y119 y120 y121 y122 y123 y124 y125 y126 y127 y128 y129 y130 y131 y132 y133 y134 y135 y136 y137 y138 y139 y140 y141 y142 y143 y144 y145 y146 y147 y148 y149 y150 WF hF
   go_wp2_with fail
   go_ret
   exact ⟨rfl, fin WF dkO none none _ _ hF⟩
  | some jr =>
   obtain ⟨dOff, dSz⟩ := hOF.out jr hO
   obtain ⟨j2, B3, hjp, hJ2, hB3⟩ := MO.j1
   obtain ⟨q2, B4, hkp, hK2, hB4⟩ := MO.j2
   subst hjp
   subst hkp
   obtain ⟨⟨lv, hk2⟩, _, _, hln⟩ := hK2
   have hq1 := hk2.cell1
   have hcl := MO.cells
   have hlenO : dkO.vis.length = dkO.dur.length := by obtain ⟨_, _, _, h, _⟩ := MO.d2; exact h.vislen.1
   have hjs : jr.size ≤ 4194304 := by omega
   refine Sha.norm_wp ?_
   refine oa_r13 _ wO _ _ _ _ _ _ _ _ _ _ _ _ _ _ _ _ _ _ _ _ _ _ _ _ _ _ _ _ _ _ _ _ _ _ _ _ _ _ _ _ _ _ _ _ _ _ _ _ _ _ _ _ _ _ _ _ _ _ _ _ _ _ _ _ _ _ _ _ _ _ _ _ _ _ _ _ _ _ _ _ _ _ _ _ _ _ _ _ _ _ _ _ _ _ _ _ _ _ _ _ _ _ _ _ _ _ _ _ _ _ _ _ _ _ _ _ _ _ _ _ _ _ _ _ _ _ _ _ _ _ _ _ _ _ _ _ _ _ _ _ _ _ _ _ _ _ _ _ wb D.d j2 r q2 lv ((dkO.dur.length : Int) - (jr.size : Int)) (ofB dkO.vis) (Below wO.heap.size wO) (fun v V => Below wO.heap.size wO V ∧ ∃ b1, V.ownsRow b1 9 1 v jr.records.length (jr.records.map Value.string)) (Below wO.heap.size wO) (Below wO.heap.size wO) (Below wO.heap.size wO) (Below wO.heap.size wO)
    (fun v V => Below wO.heap.size wO V ∧ ∃ b1 gb cb, v = .slice (some ⟨gb, 0, none⟩) dkO.dur.length cb ∧ V.ownsRow b1 5 1 v dkO.dur.length (bv dkO.vis))
    ⟨fun V u ⟨_, b1, gb, cb, hu, ho⟩ => by subst hu; exact conv_row hlenO ho⟩
    (below_drew1 (Below.refl _ _)) (fun V h => cellsB hcl hq1 h)
    (fun V h => (records_calls (hJ2.keep h) (by omega)).mono fun e w' ⟨v, e1, ho, hb⟩ => ⟨v, e1, h.trans (hb.mono h.size), _, ho⟩) (fun V v h => cellsB hcl hq1 h.1)
    (fun V v ⟨h, b1, ho⟩ => (same_calls2 V b1 B4 v lv jr.records (by omega) ho (hk2.keep h).own).mono fun e w' ⟨e1, hb⟩ => ⟨e1, h.trans (hb.mono h.size)⟩) (fun V h => cellsB hcl hq1 h)
    (fun V h => (room_calls (hJ2.keep h) (MO.d1.keep h) (by omega)).mono fun e w' ⟨e1, hb⟩ => ⟨e1, h.trans (hb.mono h.size)⟩) (fun V h => cellsB hcl hq1 h)
    (fun V h => (refroom_calls (hk2.keep h) (MO.d2.keep h) (by omega)).mono fun e w' ⟨e1, hb⟩ => ⟨e1, h.trans (hb.mono h.size)⟩) (fun V h => cellsB hcl hq1 h)
    (fun V h => (content_calls (MO.d1.keep h) dOff).mono fun e w' ⟨e1, hw⟩ => ⟨e1, by rw [hw]; exact h⟩) (fun V h => cellsB hcl hq1 h)
    (fun V h => (visible_calls (MO.d2.keep h)).mono fun e w' ⟨gb, cb, e1, ho, hb⟩ => ⟨_, e1, h.trans (hb.mono h.size), _, gb, cb, rfl, ho⟩) (fun V v h => cellsB hcl hq1 h.1) ?_
   intro y98 y99 y100 y101 y102 y103 y104 y105 y106 y107 y108 y109 y110 y111 y112 y113 y114 y115 y116 y117 y118 y119 y120 y121 y122 y123 y124 y125 y126 y127 y128 y129 y130 y131 y132 y133 y134 y135 y136 y137 y138 y139 y140 y141 y142 y143 y144 y145 y146 y147 y148 y149 y150 WF uF hF
   go_wp2_with fail
   go_ret
   exact ⟨rfl, b0.trans ((MO.bel.trans (hF.1.mono MO.bs)).mono hbw)⟩
 ·have x1 : ((0 : Int) < (z.length : Int)) = False := eq_false (by omega)
  have x2 : decide ((0 : Int) < (z.length : Int)) = false := decide_eq_false (by omega)
  have x3 : (0 < z.length) = False := eq_false hl
  go_upto_region 10 with (fail)
  obtain ⟨m, hm⟩ : ∃ m, min s.size N = m := ⟨_, rfl⟩
  obtain ⟨E2, hE2⟩ : ∃ E, (newDk N).write (0 : Int) (s.extract 0 m) = E := ⟨_, rfl⟩
  have hp2 : E2.1.pend.length ≤ 3 := by rw [← hE2]; have := dk_write_pend (newDk N) (0 : Int) (s.extract 0 m); have h0 : (newDk N).pend.length = 0 := rfl; omega
  have hcb : (s.extract 0 m).size ≤ 4194304 := by rw [ByteArray.size_extract]; omega
  refine Sha.norm_wp ?_
  refine oa_r10 _ w1 _ _ _ _ _ _ _ _ _ _ _ _ _ _ _ _ _ _ _ _ _ _ _ _ _ _ _ _ _ _ _ _ _ _ _ _ _ _ _ _ _ _ _ _ _ _ _ _ _ _ _ _ _ _ _ _ _ _ _ _ _ _ _ _ _ _ _ _ _ _ _ _ _ _ _ _ _ _ _ _ _ _ _ _ _ _ _ _ _ _ _ _ _ _ _ _ _ _ _ _ _ _ _ _ _ _ _ _ _ _ _ _ _ _ _ _ _ _ _ _ _ _ _ _ _ _ _ _ _ _ _ _ _ _ _ _ _ _ _ _ _ _ _ _ _ _ _ _ wb D.d r N m n E2.2 s (Mix w0.heap.size w0 wb D r Br (.pointer (some ⟨j, 0, none⟩)) (.pointer (some ⟨q, 0, none⟩)) (newDk N) (some ⟨[], z32, 0, false⟩) (newDk N) (some ⟨[], z32, 0, false⟩)) (Mix w0.heap.size w0 wb D r Br (.pointer (some ⟨j, 0, none⟩)) (.pointer (some ⟨q, 0, none⟩)) (newDk N) (some ⟨[], z32, 0, false⟩) (newDk N) (some ⟨[], z32, 0, false⟩)) (Mix w0.heap.size w0 wb D r Br (.pointer (some ⟨j, 0, none⟩)) (.pointer (some ⟨q, 0, none⟩)) E2.1 (some ⟨[], z32, 0, false⟩) (newDk N) (some ⟨[], z32, 0, false⟩)) (by omega) (eq_true (by omega)) (eq_true (by omega)) (M.keep (below_drew1 (Below.refl _ _))) (fun V h => ⟨h.cells.1, h.cells.2.2.1⟩)
   (fun V h => (hSz V).mono fun e w' ⟨e1, hd⟩ => ⟨e1, h.keep hd.below⟩) (fun V h => ⟨h.cells.1, h.cells.2.2.1⟩)
   (fun V h => by have := write_calls h.d1 (0 : Int) (s.extract 0 m) (by show 0 + 1 ≤ 1099511627776; omega); rw [hE2] at this; exact this.mono fun e w' ⟨e1, d, o⟩ => ⟨e1, h.off o d⟩) (fun V h => ⟨h.cells.1, h.cells.2.2.1⟩) ?_
  intro y72 y73 y74 y75 y76 y77 y78 y79 y80 y81 y82 W8 h8
  clear M
  go_wp2_with fail
  refine Sha.norm_wp ?_
  refine oa_r11 _ W8 _ _ _ _ _ _ _ _ _ _ _ _ _ _ _ _ _ _ _ _ _ _ _ _ _ _ _ _ _ _ _ _ _ _ _ _ _ _ _ _ _ _ _ _ _ _ _ _ _ _ _ _ _ _ _ _ _ _ _ _ _ _ _ _ _ _ _ _ _ _ _ _ _ _ _ _ _ _ _ _ _ _ _ _ _ _ _ _ _ _ _ _ _ _ _ _ _ _ _ _ _ _ _ _ _ _ _ _ _ _ _ _ _ _ _ _ _ _ _ _ _ _ _ _ _ _ _ _ _ _ _ _ _ _ _ _ _ _ _ _ _ _ _ _ _ _ _ _ wb D.d r N m n E2.2 s (Mix w0.heap.size w0 wb D r Br (.pointer (some ⟨j, 0, none⟩)) (.pointer (some ⟨q, 0, none⟩)) E2.1 (some ⟨[], z32, 0, false⟩) (newDk N) (some ⟨[], z32, 0, false⟩)) (Mix w0.heap.size w0 wb D r Br (.pointer (some ⟨j, 0, none⟩)) (.pointer (some ⟨q, 0, none⟩)) E2.1 (some ⟨[], z32, 0, false⟩) (newDk N) (some ⟨[], z32, 0, false⟩)) (Mix w0.heap.size w0 wb D r Br (.pointer (some ⟨j, 0, none⟩)) (.pointer (some ⟨q, 0, none⟩)) E2.1 (some ⟨[], z32, 0, false⟩) E2.1 (some ⟨[], z32, 0, false⟩)) (by omega) (eq_true (by omega)) (eq_true (by omega)) (h8.keep (below_drew1 (Below.refl _ _))) (fun V h => ⟨h.cells.1, h.cells.2.2.1⟩)
   (fun V h => (hSz V).mono fun e w' ⟨e1, hd⟩ => ⟨e1, h.keep hd.below⟩) (fun V h => ⟨h.cells.1, h.cells.2.2.1⟩)
   (fun V h => by have := refwrite_calls h.d2 (0 : Int) (s.extract 0 m) (by show 0 + 1 ≤ 1000000; omega) (by omega) hcb; rw [hE2] at this; exact this.mono fun e w' ⟨e1, d, o⟩ => ⟨e1, h.roff o d⟩) (fun V h => ⟨h.cells.1, h.cells.2.2.1⟩) ?_
  intro y84 y85 y86 y87 y88 y89 y90 y91 y92 y93 y94 W9 h9
  clear h8
  obtain ⟨O, hO⟩ : ∃ O, openM chF z32 E2.1 = O := ⟨_, rfl⟩
  obtain ⟨dkO, oO, cO⟩ := O
  have hOp := Mix.open_ G h9 (by omega)
  have hvl : (E2.1).vis.length = (E2.1).dur.length ∧ ∀ b ∈ (E2.1).vis, b < 256 := by obtain ⟨_, _, _, h, _⟩ := h9.d2; exact h.vislen
  have hsm : (E2.1).dur.length ≤ 4194304 := by obtain ⟨_, h⟩ := h9.d1; exact h.small
  rw [hO] at hOp
  dsimp only at hOp
  have hOF := Lib.hid (fun jr => openM_facts _ dkO jr cO hvl.2)
  clear h9
  go_wp2_with (go_at_call 17; refine hOp.mono ?_; rintro e wO ⟨rfl, jp2, kp2, MO⟩)
  cases oO with
  | none =>
   obtain rfl : jp2 = .pointer none := MO.j1
   refine Sha.norm_wp ?_
   refine oa_r13n _ wO _ _ _ _ _ _ _ _ _ _ _ _ _ _ _ _ _ _ _ _ _ _ _ _ _ _ _ _ _ _ _ _ _ _ _ _ _ _ _ _ _ _ _ _ _ _ _ _ _ _ _ _ _ _ _ _ _ _ _ _ _ _ _ _ _ _ _ _ _ _ _ _ _ _ _ _ _ _ _ _ _ _ _ _ _ _ _ _ _ _ _ _ _ _ _ _ _ _ _ _ _ _ _ _ _ _ _ _ _ _ _ _ _ _ _ _ _ _ _ _ _ _ _ _ _ _ _ _ _ _ _ _ _ _ _ _ _ _ _ _ _ _ _ _ _ _ _ _ wb D.d (Mix w0.heap.size w0 wb D r Br (.pointer none) kp2 dkO none dkO none) (MO.keep (below_drew1 (Below.refl _ _))) (fun V h => ⟨h.cells.1, h.cells.2.1⟩) ?_
   intro y98 y99 y100 y101 y102 y103 y104 y105 y106 y107 y108 y109 y110 y111 y112 y113 y114 y115 y116 y117 y118 y119 y120 y121 y122 y123 y124 y125 y126 y127 y128 y129 y130 y131 y132 y133 y134 y135 y136 y137 y138 y139 y140 y141 y142 y143 y144 y145 y146 y147 y148 y149 y150 WF hF
   go_wp2_with fail
   go_ret
   exact ⟨rfl, fin WF dkO none none _ _ hF⟩
  | some jr =>
   obtain ⟨dOff, dSz⟩ := hOF.out jr hO
   obtain ⟨j2, B3, hjp, hJ2, hB3⟩ := MO.j1
   obtain ⟨q2, B4, hkp, hK2, hB4⟩ := MO.j2
   subst hjp
   subst hkp
   obtain ⟨⟨lv, hk2⟩, _, _, hln⟩ := hK2
   have hq1 := hk2.cell1
   have hcl := MO.cells
   have hlenO : dkO.vis.length = dkO.dur.length := by obtain ⟨_, _, _, h, _⟩ := MO.d2; exact h.vislen.1
   have hjs : jr.size ≤ 4194304 := by omega
   refine Sha.norm_wp ?_
   refine oa_r13 _ wO _ _ _ _ _ _ _ _ _ _ _ _ _ _ _ _ _ _ _ _ _ _ _ _ _ _ _ _ _ _ _ _ _ _ _ _ _ _ _ _ _ _ _ _ _ _ _ _ _ _ _ _ _ _ _ _ _ _ _ _ _ _ _ _ _ _ _ _ _ _ _ _ _ _ _ _ _ _ _ _ _ _ _ _ _ _ _ _ _ _ _ _ _ _ _ _ _ _ _ _ _ _ _ _ _ _ _ _ _ _ _ _ _ _ _ _ _ _ _ _ _ _ _ _ _ _ _ _ _ _ _ _ _ _ _ _ _ _ _ _ _ _ _ _ _ _ _ _ wb D.d j2 r q2 lv ((dkO.dur.length : Int) - (jr.size : Int)) (ofB dkO.vis) (Below wO.heap.size wO) (fun v V => Below wO.heap.size wO V ∧ ∃ b1, V.ownsRow b1 9 1 v jr.records.length (jr.records.map Value.string)) (Below wO.heap.size wO) (Below wO.heap.size wO) (Below wO.heap.size wO) (Below wO.heap.size wO)
    (fun v V => Below wO.heap.size wO V ∧ ∃ b1 gb cb, v = .slice (some ⟨gb, 0, none⟩) dkO.dur.length cb ∧ V.ownsRow b1 5 1 v dkO.dur.length (bv dkO.vis))
    ⟨fun V u ⟨_, b1, gb, cb, hu, ho⟩ => by subst hu; exact conv_row hlenO ho⟩
    (below_drew1 (Below.refl _ _)) (fun V h => cellsB hcl hq1 h)
    (fun V h => (records_calls (hJ2.keep h) (by omega)).mono fun e w' ⟨v, e1, ho, hb⟩ => ⟨v, e1, h.trans (hb.mono h.size), _, ho⟩) (fun V v h => cellsB hcl hq1 h.1)
    (fun V v ⟨h, b1, ho⟩ => (same_calls2 V b1 B4 v lv jr.records (by omega) ho (hk2.keep h).own).mono fun e w' ⟨e1, hb⟩ => ⟨e1, h.trans (hb.mono h.size)⟩) (fun V h => cellsB hcl hq1 h)
    (fun V h => (room_calls (hJ2.keep h) (MO.d1.keep h) (by omega)).mono fun e w' ⟨e1, hb⟩ => ⟨e1, h.trans (hb.mono h.size)⟩) (fun V h => cellsB hcl hq1 h)
    (fun V h => (refroom_calls (hk2.keep h) (MO.d2.keep h) (by omega)).mono fun e w' ⟨e1, hb⟩ => ⟨e1, h.trans (hb.mono h.size)⟩) (fun V h => cellsB hcl hq1 h)
    (fun V h => (content_calls (MO.d1.keep h) dOff).mono fun e w' ⟨e1, hw⟩ => ⟨e1, by rw [hw]; exact h⟩) (fun V h => cellsB hcl hq1 h)
    (fun V h => (visible_calls (MO.d2.keep h)).mono fun e w' ⟨gb, cb, e1, ho, hb⟩ => ⟨_, e1, h.trans (hb.mono h.size), _, gb, cb, rfl, ho⟩) (fun V v h => cellsB hcl hq1 h.1) ?_
   intro y98 y99 y100 y101 y102 y103 y104 y105 y106 y107 y108 y109 y110 y111 y112 y113 y114 y115 y116 y117 y118 y119 y120 y121 y122 y123 y124 y125 y126 y127 y128 y129 y130 y131 y132 y133 y134 y135 y136 y137 y138 y139 y140 y141 y142 y143 y144 y145 y146 y147 y148 y149 y150 WF uF hF
   go_wp2_with fail
   go_ret
   exact ⟨rfl, b0.trans ((MO.bel.trans (hF.1.mono MO.bs)).mono hbw)⟩
end Go.Proofs.YtniegajdmbepbaaGreatDoor.Jm

