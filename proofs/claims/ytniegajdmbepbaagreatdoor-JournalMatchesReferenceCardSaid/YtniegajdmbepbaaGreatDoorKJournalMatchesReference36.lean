/- The reference's journal: the walk of Append. Condition: at most 6 records of at most 100 bytes. The journal and its reference, each on its disk: the two side by side; world.open. Condition: fewer than 1,000,000 changes. The journal and its reference: world.open opens both. Condition: fewer than 1,000,000 changes. The journal and its reference: begin makes both. Condition: the size's number is one of 64 bits. JournalOpensAnything: the regions whose order is open. Condition: none. The journal and its reference between two calls: what each call does to the state of both. Condition: none. The reference's Crash: its region whose order is open. Condition: none. The reference's disk: has, and the writes that survive. Condition: at most 1,000,000 numbers. world.does: the regions whose order is open. Condition: none. JournalOpensAnything: the law's function returns true. Condition: none. The journal and its reference: world.does. Condition: lengths within bounds. -/
import Derived.Test.YtniegajdmbepbaaGreatDoorKJournalMatchesReference14
import Derived.Test.YtniegajdmbepbaaGreatDoorKJournalMatchesReference35
import Derived.Deep.LoopGhost
import Derived.Lib.Hide
import Derived.Test.YtniegajdmbepbaaGreatDoorKJournalMatchesReference28
set_option linter.unusedSimpArgs false
set_option linter.unusedVariables false
open Go.Proofs.YtniegajdmbepbaaGreatDoor
namespace Go.Proofs.YtniegajdmbepbaaGreatDoor.Jm
open Go Go.RowKit Go.Shelf Go.Proofs.YtniegajdmbepbaaGreatDoorW.PrintWords Go.Proofs.YtniegajdmbepbaaGreatDoorW.PrintMore Go.Proofs.YtniegajdmbepbaaGreatDoor.Pr Go.Proofs.YtniegajdmbepbaaGreatDoor.WPure
theorem KAt.setAll {w : World} {B b q r n : Nat} {rs rs' : List ByteArray} {br : Bool} {lv lv' : Value} (h : KAt w B q r rs n br lv) (hb : B ≤ b) (hown : w.ownsRow b 9 1 lv' rs'.length (rs'.map Value.string)) : KAt (w.setCell ⟨q, 1, none⟩ lv') B q r rs' n br lv' := by
  have hc := But.setCell q 1 w lv'
  have h2 := set_blk h.blk (j := 1) lv'
  refine ⟨by simpa using h2, ?_, h.hq, h.hr⟩
  exact own_keep (own_mono hown hb) fun g hg => by
    obtain ⟨cs, hcs⟩ := own_block hown hg
    exact hc.block _ (hown.lt g hg).2 (cells_ne hcs h.blk (by decide))
theorem stored_ge : ∀ (l : List ByteArray) (h : ByteArray), l.length ≤ (stored chF h l).length
  | [], h => Nat.le_refl _
  | r :: rs, h => by
    show rs.length + 1 ≤ (recB chF h r ++ stored chF (chF h r) rs).length
    have := stored_ge rs (chF h r)
    rw [List.length_append, recB_length chF chF_size]
    omega
set_option maxRecDepth 100000 in
set_option maxHeartbeats 16000000 in
theorem refappend_calls {w : World} {Bj B q r bl0 : Nat} {Z : Nat → Prop} {dk : Dk} {jr : Jr} {v : Value} {l : List ByteArray} (hj : RefJ w Bj q r jr) (hd : RefAt w B r Z dk) (hl : w.ownsRow bl0 9 1 v l.length (l.map Value.string))
    (hsz : jr.size ≤ 1000000) (hn : l.length ≤ 6) (hs : ∀ s ∈ l, s.size ≤ 100) (hf : dk.pend.length + 4 ≤ 1000000) (hZ : ∀ k, Z k → k < w.heap.size) :
    Calls Tryz.prog 12 #[.pointer (some ⟨q, 0, none⟩), v] w fun e w' =>
      e = .returned (.int .i64 (appendM chF dk jr l).2.2) ∧ RefAt w' B r Z (appendM chF dk jr l).1 ∧ RefJ w' Bj q r (appendM chF dk jr l).2.1 ∧ Rj B r q w w' := by
  obtain ⟨⟨lv, hk⟩, hjh, hjs, hjl⟩ := hj
  have c3 := hk.cell3
  cases hbr : jr.broken with
  | true =>
    rw [appendM_broken dk jr l hbr]
    rw [hbr] at c3
    go_enter Tryz.func12, Tryz.ntmps12
    go_wp2_with fail
    go_ret
    exact ⟨rfl, hd, ⟨⟨lv, hk⟩, hjh, hjs, hjl⟩, Rj.refl _ _ _ _⟩
  | false =>
    rw [hbr] at c3
    have hlong : l.any (fun s => decide (65536 < s.size)) = false := by
      rw [List.any_eq_false]
      intro s hs'
      have := hs s hs'
      simp
      omega
    have hrl : jr.records.length ≤ 1000000 := by omega
    obtain ⟨A, ca, hlv, hca, hC⟩ := own_C hk.own
    have hH := fun W (hb : Below w.heap.size w W) => Dm.clearwayref02_Head.calls (70001 + jr.records.length) A ca jr.records (headOf chF z32 jr.records) W (by obtain ⟨A2, c2, e2, h3, h4⟩ := own_C (own_below hk.own hb); rw [hlv] at e2; injection e2 with e3 _ _; rw [e3]; exact h4) hca (rhead_f jr.records hjs hrl)
    have c1 := hk.cell1
    rw [hlv] at c1
    have hhd : jr.head.size = 32 := by rw [hjh]; exact headOf_size z32 z32_size _
    have hbd := fun i => stored_bound 100 (by decide) (l.take i) jr.head (fun s hs' => hs s (List.mem_of_mem_take hs'))
    have hlt := fun i => stored_lt chF (l.take i) jr.head
    obtain ⟨ao, cc, rfl⟩ := own_form hl
    rw [← hjh] at hH
    have hH0 := hH w (Below.refl _ _)
    clear hH hC hlv
    go_enter Tryz.func12, Tryz.ntmps12
    go_wp2_with (go_at_call 43; refine hH0.mono ?_; rintro e w1 ⟨rfl, hb1⟩)
    go_loopg [5, 6, 7, 8, 9] (l.length) (fun k v5 v6 v7 v8 v9 wr => ∃ i : Nat, v5 = .string (ofB (stored chF jr.head (l.take i))) ∧ v6 = .string (headOf chF jr.head (l.take i)) ∧ v7 = .int .i64 (i : Int) ∧ i + k = l.length ∧ Below w.heap.size w wr)
    case atStart => exact ⟨0, rfl, by rw [hjh]; rfl, rfl, Nat.zero_add _, hb1⟩
    case round =>
      obtain ⟨i, rfl, rfl, rfl, hik, bI⟩ := hrel
      clear hH0 hb1 c3 c1
      by_cases hi : i < l.length
      · have x1 : ((i : Int) < (l.length : Int)) = True := eq_true (by omega)
        have x2 : decide ((i : Int) < (l.length : Int)) = true := decide_eq_true (by omega)
        have x3 : (i < l.length) = True := eq_true hi
        have hn1 : IntKind.i64.wrap ((i : Int) + 1) = ((i + 1 : Nat) : Int) := by rw [IntKind.wrap_i64]; omega
        obtain ⟨x, hx⟩ : ∃ x, l[i]? = some x := ⟨_, List.getElem?_eq_getElem hi⟩
        have hxs := hs x (List.mem_of_getElem? hx)
        have hlr := own_below hl bI
        rcases id hlr.2 with ⟨_, h0⟩ | ⟨g, cap, cur, hv, hg0, hgh, _⟩
        · omega
        injection hv with e1 _ e3
        subst e1
        subst e3
        have hcx : wr.cell? ⟨g, i, none⟩ = some (.string x) := by
          have := hlr.cells (g := g) rfl i (.string x) (by rw [List.getElem?_map, hx]; rfl)
          cases i <;> simpa [Addr.add] using this
        have htk : l.take (i + 1) = l.take i ++ [x] := by rw [List.take_add_one, hx]; rfl
        have hO1 : stored chF jr.head (l.take (i + 1)) = stored chF jr.head (l.take i) ++ recB chF (headOf chF jr.head (l.take i)) x := by
          rw [htk, stored_append]
          show _ ++ (recB chF _ x ++ []) = _
          rw [List.append_nil]
        have hH1 : headOf chF jr.head (l.take (i + 1)) = chF (headOf chF jr.head (l.take i)) x := by rw [htk]; unfold headOf; rw [List.foldl_append]; rfl
        have hl1 := hlt (i + 1)
        have hl0 := hlt i
        rw [hO1] at hl1
        have hl2 : ∀ b ∈ recB chF (headOf chF jr.head (l.take i)) x, b < 256 := fun b hb => hl1 b (List.mem_append_right _ hb)
        have hO2 : ofB (stored chF jr.head (l.take (i + 1))) = ofB (stored chF jr.head (l.take i)) ++ ofB (recB chF (headOf chF jr.head (l.take i)) x) := by
          apply bl_inj
          rw [bl_append, bl_ofB (by rw [hO1]; exact hl1), bl_ofB hl0, bl_ofB hl2, hO1]
        have hSt := fun W => Rw.clearwayref29_Stored.calls 70000 (headOf chF jr.head (l.take i)) x _ _ W (rstored_f (headOf chF jr.head (l.take i)) x (headOf_size _ hhd _) (by omega))
        have b0 := hbd i
        have b1 := hbd (i + 1)
        have t0 : (l.take i).length ≤ 6 := by rw [List.length_take]; omega
        have t1 : (l.take (i + 1)).length ≤ 6 := by rw [List.length_take]; omega
        have s0 : (ofB (stored chF jr.head (l.take i))).size ≤ 2000 := by rw [size_ofB hl0]; omega
        have s1 : (ofB (recB chF (headOf chF jr.head (l.take i)) x)).size ≤ 2000 := by
          rw [hO1, List.length_append] at b1
          rw [size_ofB hl2]
          omega
        obtain ⟨Y, hY⟩ : ∃ Y, ofB (recB chF (headOf chF jr.head (l.take i)) x) = Y := ⟨_, rfl⟩
        obtain ⟨hh1, e1⟩ : ∃ h, chF (headOf chF jr.head (l.take i)) x = h := ⟨_, rfl⟩
        obtain ⟨hh0, e0⟩ : ∃ h, headOf chF jr.head (l.take i) = h := ⟨_, rfl⟩
        obtain ⟨out0, eo⟩ : ∃ o, ofB (stored chF jr.head (l.take i)) = o := ⟨_, rfl⟩
        rw [hY, e1, e0] at hSt
        rw [hY] at hO2 s1
        rw [e1] at hH1
        rw [eo] at hO2 s0
        rw [e0, eo]
        have HO := Lib.hid hO2
        have HH := Lib.hid hH1
        clear hO2 hH1 hl2 hl1 hl0 hO1 b0 b1 t0 t1 htk hY e1 e0 eo hx hs hlt hbd hlong hjh hjs hhd
        have cc : (9223372036854775807 < out0.size + Y.size) = False := eq_false (by omega)
        have cs : (65536 < x.size) = False := eq_false (by omega)
        have cs2 : decide ((65536 : Int) < (x.size : Int)) = false := decide_eq_false (by omega)
        go_wp2_with (go_at_call 44; refine (hSt _).mono ?_; rintro e w3 ⟨rfl, hb3⟩)
        go_roundg (l.length - (i + 1))
        case measure => omega
        case rel => exact ⟨i + 1, by rw [HO.out], by rw [HH.out], rfl, by omega, bI.trans (hb3.mono bI.size)⟩
      · have hie : i = l.length := by omega
        subst hie
        rw [List.take_length]
        have x1 : ((l.length : Int) < (l.length : Int)) = False := eq_false (by omega)
        have x2 : decide ((l.length : Int) < (l.length : Int)) = false := decide_eq_false (by omega)
        have hkw := hk.keep bI
        have hdw := hd.keep bI
        have hsm : dk.dur.length ≤ 4194304 := let ⟨_, _, _, h, _⟩ := hd; h.small
        have hroom := refroom_calls hkw hdw (by omega)
        obtain ⟨S, hS⟩ : ∃ S, stored chF jr.head l = S := ⟨_, rfl⟩
        have hSge : l.length ≤ S.length := by rw [← hS]; exact stored_ge l jr.head
        have hSlt : ∀ b ∈ S, b < 256 := by rw [← hS]; exact stored_lt chF _ _
        have hSl : S.length ≤ 2000 := by have := hbd l.length; rw [List.take_length, hS] at this; omega
        obtain ⟨out, ho⟩ : ∃ out, ofB S = out := ⟨_, rfl⟩
        have hos : out.size = S.length := by rw [← ho]; exact size_ofB hSlt
        have hosA : out.size ≤ S.length := by omega
        have hosB : S.length ≤ out.size := by omega
        clear hos
        have hfull := appendM_full dk jr l hbr hlong
        have hnone := appendM_none dk jr l hbr hlong
        have hwr := appendM_write dk jr l hbr hlong
        rw [hS] at hfull hnone hwr
        rw [hS, ho]
        have HF := Lib.hid hfull
        have HN := Lib.hid hnone
        have HW := Lib.hid hwr
        clear hfull hnone hwr hbd hlt hlong hhd
        have hq0 : q < wr.heap.size := hkw.lt
        by_cases hfl : dk.dur.length < jr.size + S.length
        · have y1 : decide ((dk.dur.length : Int) - (jr.size : Int) < (out.size : Int)) = true := decide_eq_true (by omega)
          have y2 : ((dk.dur.length : Int) - (jr.size : Int) < (out.size : Int)) = True := eq_true (by omega)
          clear hS ho
          go_wp2_with (go_at_call 21; refine hroom.mono ?_; rintro e w5 ⟨rfl, hb5⟩)
          go_ret
          rw [HF.out hfl]
          exact ⟨rfl, hdw.keep hb5, ⟨⟨lv, hkw.keep hb5⟩, hjh, hjs, hjl⟩, (Rj.of_roff (ROff.of_below bI)).trans (Rj.of_roff (ROff.of_below hb5))⟩
        · have y1 : decide ((dk.dur.length : Int) - (jr.size : Int) < (out.size : Int)) = false := decide_eq_false (by omega)
          have y2 : ((dk.dur.length : Int) - (jr.size : Int) < (out.size : Int)) = False := eq_false (by omega)
          by_cases hSn : S = []
          · have ho0 : out = ⟨#[]⟩ := by rw [← ho, hSn]; rfl
            subst ho0
            clear hS ho
            go_wp2_with (go_at_call 21; refine hroom.mono ?_; rintro e w5 ⟨rfl, hb5⟩)
            all_goals
              go_ret
              rw [HN.out hfl hSn]
              exact ⟨rfl, hdw.keep hb5, ⟨⟨lv, hkw.keep hb5⟩, hjh, hjs, hjl⟩, (Rj.of_roff (ROff.of_below bI)).trans (Rj.of_roff (ROff.of_below hb5))⟩
          · have hpos : 1 ≤ S.length := by cases S with | nil => exact absurd rfl hSn | cons a b => simp
            have hne : out.toList ≠ [] := by
              intro h
              have h2 := nl_toList (s := out) (t := ⟨#[]⟩) |>.1 (by rw [h, ByteArray.toList, ByteArray.toList.loop, if_neg (by decide)]; rfl)
              rw [h2] at hosB
              have : (⟨#[]⟩ : ByteArray).size = 0 := rfl
              omega
            have z1 : (out.toList = []) = False := eq_false hne
            have z2 : out.toList.isEmpty = false := by rw [Bool.eq_false_iff]; intro h; exact hne (List.isEmpty_iff.1 h)
            have z3 : (!out.toList.isEmpty) = true := by rw [z2]; rfl
            have z4 : (out.toList == []) = false := beq_eq_false_iff_ne.mpr hne
            obtain ⟨hx1, hx2⟩ := ofB_extract_one S hSlt
            rw [ho] at hx1 hx2
            obtain ⟨ot, hot⟩ : ∃ ot, ofB S.tail = ot := ⟨_, rfl⟩
            obtain ⟨oh, hoh⟩ : ∃ oh, ofB (S.take 1) = oh := ⟨_, rfl⟩
            have hots : ot.size ≤ 2000 := by rw [← hot, size_ofB (fun b hb => hSlt b (List.mem_of_mem_tail hb)), List.length_tail]; omega
            have hohs : oh.size ≤ 2000 := by rw [← hoh, size_ofB (fun b hb => hSlt b (List.mem_of_mem_take hb)), List.length_take]; omega
            rw [hot] at hx1
            rw [hoh] at hx2
            obtain ⟨D1, hD1⟩ : ∃ D, dk.write ((jr.size + 1 : Nat) : Int) ot = D := ⟨_, rfl⟩
            obtain ⟨d1, e1⟩ := D1
            obtain ⟨D2, hD2⟩ : ∃ D, d1.sync = D := ⟨_, rfl⟩
            obtain ⟨d2, e2⟩ := D2
            obtain ⟨D3, hD3⟩ : ∃ D, d2.write (jr.size : Int) oh = D := ⟨_, rfl⟩
            obtain ⟨d3, e3⟩ := D3
            obtain ⟨D4, hD4⟩ : ∃ D, d3.sync = D := ⟨_, rfl⟩
            obtain ⟨d4, e4⟩ := D4
            have hrun := run4 dk d1 d2 d3 d4 (jr.size + 1) jr.size ot oh e1 e2 e3 e4 hD1 hD2 hD3 hD4
            rw [← hot, ← hoh] at hrun
            have hR := HW.out hfl hSn _ hrun
            have p1 := write_pend hD1
            have p2 := sync_pend hD2
            have p3 := write_pend hD3
            have HR := Lib.hid hR
            clear hR hrun HF HN HW hot hoh hS ho hfl
            have hkc := fun (W : World) (hb : Below wr.heap.size wr W) => hkw.keep hb
            have ho1 : ((1 : Int) ≤ (out.size : Int)) = True := eq_true (by omega)
            have ho2 : (1 ≤ out.size) = True := eq_true (by omega)
            go_wp2_with (go_at_call 21; refine hroom.mono ?_; rintro e w5 ⟨rfl, hb5⟩)
            have hk5 := hkw.keep hb5
            have hd5 := hdw.keep hb5
            have O5 : Rj B r q w w5 := (Rj.of_roff (ROff.of_below bI)).trans (Rj.of_roff (ROff.of_below hb5))
            have hl5 := own_below (own_below hl bI) hb5
            have hZ5 : ∀ k, Z k → k < w5.heap.size := fun k hk => Nat.lt_of_lt_of_le (hZ k hk) (Nat.le_trans bI.size hb5.size)
            have hB5 : Bj ≤ w5.heap.size := Nat.le_trans hk5.hq (Nat.le_of_lt hk5.lt)
            clear hkw hdw hroom hkc hb5 bI z1 z2 z3 z4 y1 y2 hq0 hne x1 x2 hd hk hl hZ hSn
            refine Sha.norm_wp ?_
            refine rap_r17 _ w5 w5 _ _ _ _ _ _ _ _ _ _ _ _ _ _ _ _ _ _ _ _ _ _ _ _ _ _ _ _ _ _ _ _ _ _ _ _ _ _ _ _ _ _ _ _ _ _ _ _ _ _ _ _ _ _ _ _ _ _ _ _ _ _ _ _ _ _ _ _ _ _ _ _ _ _ _ _ _ _ _ _ _ _ _ _ _ _ _ _ _ _ _ _ _ _ _ _ _ _ _ _ _ _ _ _ _ _ _ _ _ _ _ _ _ _ _ _ _ _ q r jr.size (jr.size + 1) e1 out (fun W' => RefAt W' B r Z d1 ∧ ROff B r w5 W') hk5.lt hk5.cell0 hk5.cell2 (by rw [IntKind.wrap_i64]; omega) (by unfold wrap64; omega) ho1 ho2
              (fun V hV => by
                have := refwrite_calls (hd5.keep hV) ((jr.size + 1 : Nat) : Int) ot (by omega) (by omega) (by omega)
                rw [hD1] at this
                rw [hx1]
                exact this.mono (fun e w' h => ⟨h.1, h.2.1, (ROff.of_below hV).trans h.2.2⟩)) (Below.refl _ _) ?_
            intro z53 z54 z55 z56 z57 z58 z59 z60 z61 z62 z63 z64 W1 ⟨hd1, o1⟩
            have hk1 := hk5.roff o1
            have hl1 := own_roff hl5 o1 hd5
            have O1 := O5.trans (Rj.of_roff o1)
            have hZ1 : ∀ k, Z k → k < W1.heap.size := fun k hk => Nat.lt_of_lt_of_le (hZ5 k hk) o1.size
            clear hl5 O5 hZ5 hD1 hd5 hk5 o1
            have c1 := hk1.cell0
            have c3 := hk1.cell3
            have f3 := hk1.frozen 3
            by_cases h1 : e1 = 0
            · subst h1
              have hS1 := refsync_calls hd1 hZ1
              rw [hD2] at hS1
              go_upto_region 20 with (go_at_call 45; refine hS1.mono ?_; rintro e W2 ⟨rfl, hd2, o2⟩)
              have hk2 := hk1.roff o2
              have hl2 := own_roff hl1 o2 hd1
              have O2 := O1.trans (Rj.of_roff o2)
              have hZ2 : ∀ k, Z k → k < W2.heap.size := fun k hk => Nat.lt_of_lt_of_le (hZ1 k hk) o2.size
              clear hl1 O1 hZ1 hD2 hd1 hk1 o2 hS1 c1 c3 f3
              have c1 := hk2.cell0
              have c3 := hk2.cell3
              have f3 := hk2.frozen 3
              by_cases h2 : e2 = 0
              · subst h2
                go_upto_region 21 with (fail)
                refine Sha.norm_wp ?_
                refine rap_r21 _ W2 W2 _ _ _ _ _ _ _ _ _ _ _ _ _ _ _ _ _ _ _ _ _ _ _ _ _ _ _ _ _ _ _ _ _ _ _ _ _ _ _ _ _ _ _ _ _ _ _ _ _ _ _ _ _ _ _ _ _ _ _ _ _ _ _ _ _ _ _ _ _ _ _ _ _ _ _ _ _ _ _ _ _ _ _ _ _ _ _ _ _ _ _ _ _ _ _ _ _ _ _ _ _ _ _ _ _ _ _ _ _ _ _ _ _ _ _ _ _ _ q r jr.size (jr.size + 1) e3 out (fun W' => RefAt W' B r Z d3 ∧ ROff B r W2 W') hk2.lt hk2.cell0 hk2.cell2 (by rw [IntKind.wrap_i64]; omega) (by unfold wrap64; omega) ho1 ho2
                  (fun V hV => by
                    have := refwrite_calls (hd2.keep hV) (jr.size : Int) oh (by omega) (by omega) (by omega)
                    rw [hD3] at this
                    rw [hx2]
                    exact this.mono (fun e w' h => ⟨h.1, h.2.1, (ROff.of_below hV).trans h.2.2⟩)) (Below.refl _ _) ?_
                intro z74 z75 z76 z77 z78 z79 z80 z81 z82 z83 z84 W3 ⟨hd3, o3⟩
                have hk3 := hk2.roff o3
                have hl3 := own_roff hl2 o3 hd2
                have O3 := O2.trans (Rj.of_roff o3)
                have hZ3 : ∀ k, Z k → k < W3.heap.size := fun k hk => Nat.lt_of_lt_of_le (hZ2 k hk) o3.size
                clear hl2 O2 hZ2 hD3 hd2 hk2 o3 c1 c3 f3
                have c1 := hk3.cell0
                have c3 := hk3.cell3
                have f3 := hk3.frozen 3
                by_cases h3 : e3 = 0
                · subst h3
                  have hS3 := refsync_calls hd3 hZ3
                  rw [hD4] at hS3
                  go_upto_region 24 with (go_at_call 45; refine hS3.mono ?_; rintro e W4 ⟨rfl, hd4, o4⟩)
                  have hk4 := hk3.roff o4
                  have hl4 := own_roff hl3 o4 hd3
                  have O4 := O3.trans (Rj.of_roff o4)
                  clear hl3 O3 hZ3 hD4 hd3 hk3 o4 hS3 c1 c3 f3
                  have c1 := hk4.cell1
                  have c2 := hk4.cell2
                  have c3 := hk4.cell3
                  have f3 := hk4.frozen 3
                  by_cases h4 : e4 = 0
                  · subst h4
                    have hHR := HR.out
                    simp only [if_true] at hHR
                    have hsum : IntKind.i64.wrap ((jr.size : Int) + (out.size : Int)) = ((jr.size + S.length : Nat) : Int) := by rw [IntKind.wrap_i64]; omega
                    have hB4 : Bj ≤ W4.heap.size := Nat.le_trans hk4.hq (Nat.le_of_lt hk4.lt)
                    have HX := Lib.hid hHR
                    clear hHR HR f3 c3
                    obtain ⟨lA, lc, rfl⟩ := own_form hk4.own
                    go_wp2_with (first
                      | (at_builtin; refine wpl_appL rfl (.tmp 105) (.tmp 106) rfl W4.heap.size bl0 (.slice vA jr.records.length vc) (.slice ao l.length cc) jr.records l rfl ha rfl (own_below hl4 ba) (by omega) ba.size ?_
                         intro vb W6 hb6 bb
                         obtain ⟨bA, bc, rfl⟩ := own_form hb6
                         have bw := ba.trans bb
                         have hk6 := hk4.keep bw
                         have c1b := hk6.cell1
                         have f1 := hk6.frozen 1
                         have c2b := hk6.cell2
                         have f2 := hk6.frozen 2)
                      | (at_builtin; refine wpl_appL rfl (.tmp 98) (.tmp 102) rfl W4.heap.size Bj (.slice none 0 0) (.slice lA jr.records.length lc) [] jr.records rfl (World.ownsRow_nil _ _ _ _) rfl hk4.own (by rw [List.length_nil]; omega) (Nat.le_refl _) ?_
                         intro va W5 ha ba
                         rw [List.nil_append] at ha
                         have c1a := (hk4.keep ba).cell1
                         obtain ⟨vA, vc, rfl⟩ := own_form ha))
                    go_ret
                    have T1 := But.setCell q 1 W6 (.slice bA (jr.records ++ l).length bc)
                    have hk7 := hk6.setAll hB4 hb6
                    have T2 := But.setCell q 2 (W6.setCell ⟨q, 1, none⟩ (.slice bA (jr.records ++ l).length bc)) (.int .i64 ((jr.size + S.length : Nat) : Int))
                    have hk8 := hk7.setEnd (jr.size + S.length)
                    rw [hbr] at hk8
                    simp only [List.length_append, Int.natCast_add] at T1 T2 hk7 hk8
                    rw [HX.out]
                    refine ⟨rfl, ((hd4.keep bw).beside T1 hk6.blk).beside T2 hk7.blk, ⟨⟨_, hk8⟩, ?_, ?_, ?_⟩, ((O4.trans (Rj.of_roff (ROff.of_below bw))).trans (Rj.of_but T1)).trans (Rj.of_but T2)⟩
                    · show headOf chF jr.head l = headOf chF z32 (jr.records ++ l)
                      rw [hjh]
                      unfold headOf
                      rw [List.foldl_append]
                    · intro s hs'
                      rcases List.mem_append.1 hs' with h | h
                      · exact hjs s h
                      · have := hs s h
                        omega
                    · show (jr.records ++ l).length ≤ jr.size + S.length
                      rw [List.length_append]
                      omega
                  · have j1 : (e4 == 0) = false := beq_eq_false_iff_ne.mpr h4
                    have j2 : (e4 != 0) = true := bne_iff_ne.mpr h4
                    have j3 : (e4 = 0) = False := eq_false h4
                    have hHR := HR.out
                    simp only [if_true, j3, if_false] at hHR
                    have HX := Lib.hid hHR
                    clear hHR HR h4
                    go_wp2_with fail
                    go_ret
                    have T1 := But.setCell q 3 W4 (.bool true)
                    rw [HX.out]
                    exact ⟨rfl, hd4.beside T1 hk4.blk, ⟨⟨lv, hk4.setBroken true⟩, hjh, hjs, hjl⟩, O4.trans (Rj.of_but T1)⟩
                · have j1 : (e3 == 0) = false := beq_eq_false_iff_ne.mpr h3
                  have j2 : (e3 != 0) = true := bne_iff_ne.mpr h3
                  have j3 : (e3 = 0) = False := eq_false h3
                  have hHR := HR.out
                  simp only [if_true, j3, if_false] at hHR
                  have HX := Lib.hid hHR
                  clear hHR HR h3
                  go_wp2_with fail
                  go_ret
                  have T1 := But.setCell q 3 W3 (.bool true)
                  rw [HX.out]
                  exact ⟨rfl, hd3.beside T1 hk3.blk, ⟨⟨lv, hk3.setBroken true⟩, hjh, hjs, hjl⟩, O3.trans (Rj.of_but T1)⟩
              · have j1 : (e2 == 0) = false := beq_eq_false_iff_ne.mpr h2
                have j2 : (e2 != 0) = true := bne_iff_ne.mpr h2
                have j3 : (e2 = 0) = False := eq_false h2
                have hHR := HR.out
                simp only [if_true, j3, if_false] at hHR
                have HX := Lib.hid hHR
                clear hHR HR h2
                go_wp2_with fail
                go_ret
                have T1 := But.setCell q 3 W2 (.bool true)
                rw [HX.out]
                exact ⟨rfl, hd2.beside T1 hk2.blk, ⟨⟨lv, hk2.setBroken true⟩, hjh, hjs, hjl⟩, O2.trans (Rj.of_but T1)⟩
            · have j1 : (e1 == 0) = false := beq_eq_false_iff_ne.mpr h1
              have j2 : (e1 != 0) = true := bne_iff_ne.mpr h1
              have j3 : (e1 = 0) = False := eq_false h1
              have hHR := HR.out
              simp only [if_true, j3, if_false] at hHR
              have HX := Lib.hid hHR
              clear hHR HR h1
              go_wp2_with fail
              go_ret
              have T1 := But.setCell q 3 W1 (.bool true)
              rw [HX.out]
              exact ⟨rfl, hd1.beside T1 hk1.blk, ⟨⟨lv, hk1.setBroken true⟩, hjh, hjs, hjl⟩, O1.trans (Rj.of_but T1)⟩
open Go Go.RowKit Go.Shelf Go.Proofs.YtniegajdmbepbaaGreatDoorW.PrintWords Go.Proofs.YtniegajdmbepbaaGreatDoorW.PrintMore Go.Proofs.YtniegajdmbepbaaGreatDoor.Pr Go.Proofs.YtniegajdmbepbaaGreatDoor.WPure
def KT (P : TypeId → Prop) (w W : World) : Prop := ∀ (k : Nat) (cs : Array Value) (t : TypeId) (f : Nat × Nat), w.heap[k]? = some (.cells cs t f) → P t → W.heap[k]? = some (.cells cs t f)
theorem KT.own {P : TypeId → Prop} {w W : World} (h : KT P w W) {base size n : Nat} {e : TypeId} {v : Value} {xs : List Value} (ho : w.ownsRow base e size v n xs) (he : P e) : W.ownsRow base e size v n xs :=
 own_keep ho fun g hg => by
  obtain ⟨cs, hc⟩ := own_block ho hg
  rw [hc]
  exact h _ _ _ _ hc he
theorem KT.mono {P Q : TypeId → Prop} {w W : World} (h : KT P w W) (hq : ∀ t, Q t → P t) : KT Q w W := fun k cs t f hk ht => h k cs t f hk (hq t ht)
theorem KT.trans {P : TypeId → Prop} {a b c : World} (h : KT P a b) (k : KT P b c) : KT P a c := fun i cs t f hi ht => k i cs t f (h i cs t f hi ht) ht
theorem KT.of_below {P : TypeId → Prop} {w W : World} (h : Below w.heap.size w W) : KT P w W := fun k cs t f hk _ => (h.block k (Array.getElem?_eq_some_iff.1 hk).1).trans hk
theorem KT.of_but {g : Nat} {w W : World} (h : But g w W) {cs : Array Value} {t : TypeId} {f : Nat × Nat} (hg : w.heap[g]? = some (.cells cs t f)) : KT (· ≠ t) w W :=
 fun k ds u f' hk hu => (h.block k (Array.getElem?_eq_some_iff.1 hk).1 (cells_ne hk hg hu)).trans hk
theorem DiskAt.kt {P : TypeId → Prop} {w W : World} {D : Dsk} {dk : Dk} (h : DiskAt w D dk) (k : KT P w W) (h1 : P 97) (h2 : P 5) (h3 : P 92) : DiskAt W D dk := by
 obtain ⟨pv, h⟩ := h
 exact ⟨pv, ⟨k _ _ _ _ h.blk h1, k _ _ _ _ h.dur h2, k _ _ _ _ h.vis h2, k.own h.pend h3, h.len, h.hd, h.h1, h.h2, h.ne, h.lt, h.small, h.left, h.few⟩⟩
theorem JrAt.kt {P : TypeId → Prop} {w W : World} {B j : Nat} {D : Dsk} {jr : Jr} (h : JrAt w B j D jr) (k : KT P w W) (hs : w.heap.size ≤ W.heap.size) (h1 : P 74) (h2 : P 9) : JrAt W B j D jr := by
 obtain ⟨rv, h⟩ := h
 exact ⟨rv, ⟨⟨k _ _ _ _ h.tape.blk h1, k.own h.tape.own h2, h.tape.ne, h.tape.hp, Nat.le_trans h.tape.hs hs⟩⟩⟩
theorem RefJ.kt {P : TypeId → Prop} {w W : World} {B q r : Nat} {jr : Jr} (h : RefJ w B q r jr) (k : KT P w W) (h1 : P 43) (h2 : P 9) : RefJ W B q r jr := by
 obtain ⟨⟨lv, h⟩, h4⟩ := h
 exact ⟨⟨lv, ⟨k _ _ _ _ h.blk h1, k.own h.own h2, h.hq, h.hr⟩⟩, h4⟩
def Zd (D : Dsk) (k : Nat) : Prop := k = D.g1 ∨ k = D.g2
theorem RefAt.kt {P : TypeId → Prop} {w W : World} {B r : Nat} {D : Dsk} {dk : Dk} (h : RefAt w B r (Zd D) dk) (k : KT P w W) (h1 : P 67) (h2 : P 100)
  (hu : ∀ k cs f, w.heap[k]? = some (.cells cs 5 f) → ¬ Zd D k → W.heap[k]? = some (.cells cs 5 f)) : RefAt W B r (Zd D) dk := by
 obtain ⟨gs, cs, pl, h, hz⟩ := h
 refine ⟨gs, cs, pl, ⟨k _ _ _ _ h.blk h1, ?_, k.own h.pend h2, h.hr, h.vis, h.lt, h.pos, h.small, h.fit, h.left, h.few⟩, hz⟩
 refine own_keep h.sure fun g hg => ?_
 have : gs = g := by simpa [Value.ownBlock] using hg
 subst this
 obtain ⟨ds, hc⟩ := own_block h.sure hg
 rw [hc]
 exact hu _ _ _ hc hz
theorem RefAt.ktu {P : TypeId → Prop} {w W : World} {B r : Nat} {D : Dsk} {dk : Dk} (h : RefAt w B r (Zd D) dk) (k : KT P w W) (h1 : P 67) (h2 : P 100) (h3 : P 5) : RefAt W B r (Zd D) dk :=
 h.kt k h1 h2 fun i cs f hi _ => k i cs _ f hi h3
theorem DiskAt.zlt {w : World} {D : Dsk} {dk : Dk} (h : DiskAt w D dk) : ∀ k, Zd D k → k < w.heap.size := by
 obtain ⟨pv, h⟩ := h
 rintro k (rfl | rfl)
 ·exact h.dur.lt
 ·exact h.vis.lt
def Pd (t : TypeId) : Prop := t ≠ 97 ∧ t ≠ 5 ∧ t ≠ 92 ∧ t ≠ 74
def Pr' (t : TypeId) : Prop := t ≠ 67 ∧ t ≠ 43 ∧ t ≠ 100
instance (t : TypeId) : Decidable (Pd t) := by unfold Pd; infer_instance
instance (t : TypeId) : Decidable (Pr' t) := by unfold Pr'; infer_instance
theorem Off.kt {D : Dsk} {w W : World} {dk : Dk} (o : Off D w W) (h : DiskAt w D dk) : KT Pd w W ∧ ∀ k cs f, w.heap[k]? = some (.cells cs 5 f) → ¬ Zd D k → W.heap[k]? = some (.cells cs 5 f) := by
 obtain ⟨pv, h⟩ := h
 refine ⟨fun k cs t f hk ⟨h1, h2, h3, _⟩ => o.block k _ hk (.inr ⟨cells_ne hk h.blk h1, cells_ne hk h.dur h2, cells_ne hk h.vis h2, h3⟩), fun k cs f hk hz => o.block k _ hk (.inr ⟨cells_ne hk h.blk (by decide), fun e => hz (.inl e), fun e => hz (.inr e), ?_⟩)⟩
 show ¬ (_ : Nat) = _
 decide
theorem Oj.kt {D : Dsk} {j B : Nat} {w W : World} {dk : Dk} {jr : Jr} (o : Oj D j w W) (h : DiskAt w D dk) (hj : JrAt w B j D jr) : KT Pd w W ∧ ∀ k cs f, w.heap[k]? = some (.cells cs 5 f) → ¬ Zd D k → W.heap[k]? = some (.cells cs 5 f) := by
 obtain ⟨pv, h⟩ := h
 obtain ⟨rv, hj⟩ := hj
 have hb := hj.tape.blk
 refine ⟨fun k cs t f hk ⟨h1, h2, h3, h4⟩ => o.block k _ hk (.inr ⟨cells_ne hk h.blk h1, cells_ne hk h.dur h2, cells_ne hk h.vis h2, h3, cells_ne hk hb h4⟩), fun k cs f hk hz => o.block k _ hk (.inr ⟨cells_ne hk h.blk (by decide), fun e => hz (.inl e), fun e => hz (.inr e), ?_, cells_ne hk hb (by decide)⟩)⟩
 show ¬ (_ : Nat) = _
 decide
theorem ROff.kt {B r : Nat} {Z : Nat → Prop} {w W : World} {dk : Dk} (o : ROff B r w W) (h : RefAt w B r Z dk) : KT Pr' w W := by
 obtain ⟨gs, cs, pl, h, _⟩ := h
 exact fun k cs t f hk ⟨h1, h2, h3⟩ => o.block k _ hk (cells_ne hk h.blk h1) (.inr h3)
theorem Rj.kt {B Bq r q : Nat} {Z : Nat → Prop} {w W : World} {dk : Dk} {jr : Jr} (o : Rj B r q w W) (h : RefAt w B r Z dk) (hq : RefJ w Bq q r jr) : KT Pr' w W := by
 obtain ⟨gs, cs, pl, h, _⟩ := h
 obtain ⟨⟨lv, hk⟩, _⟩ := hq
 have hb := hk.blk
 exact fun k cs t f hk ⟨h1, h2, h3⟩ => o.block k _ hk (cells_ne hk h.blk h1) (cells_ne hk hb h2) (.inr h3)
theorem ROff.below {B r b : Nat} {w W : World} (o : ROff B r w W) (hb : b ≤ B) (hr : B ≤ r) (hw : b ≤ w.heap.size) : Below b w W := by
 refine ⟨o.os, o.tape, o.output, o.size, fun k hk => ?_⟩
 obtain ⟨x, hx⟩ : ∃ x, w.heap[k]? = some x := ⟨_, Array.getElem?_eq_getElem (by omega)⟩
 rw [hx]
 exact o.block k x hx (by omega) (.inl (by omega))
theorem Rj.below {B r q b : Nat} {w W : World} (o : Rj B r q w W) (hb : b ≤ B) (hr : B ≤ r) (hq : b ≤ q) (hw : b ≤ w.heap.size) : Below b w W := by
 refine ⟨o.os, o.tape, o.output, o.size, fun k hk => ?_⟩
 obtain ⟨x, hx⟩ : ∃ x, w.heap[k]? = some x := ⟨_, Array.getElem?_eq_getElem (by omega)⟩
 rw [hx]
 exact o.block k x hx (by omega) (by omega) (.inl (by omega))
theorem Off.belowB {D : Dsk} {b : Nat} {w W : World} (o : Off D w W) (hb : b ≤ D.B) (hw : D.B ≤ w.heap.size) : Below b w W := (o.below hw).mono hb
theorem Oj.belowB {D : Dsk} {j b : Nat} {w W : World} (o : Oj D j w W) (hb : b ≤ D.B) (hw : D.B ≤ w.heap.size) : Below b w W := by
 refine ⟨o.os, o.tape, o.output, o.size, fun k hk => ?_⟩
 obtain ⟨x, hx⟩ : ∃ x, w.heap[k]? = some x := ⟨_, Array.getElem?_eq_getElem (by omega)⟩
 rw [hx]
 exact o.block k x hx (.inl (by omega))
structure Two (b : Nat) (w : World) (wb : Nat) (D : Dsk) (r Br : Nat) (dk : Dk) (jp kp : Value) : Prop where
 tw : w.heap[wb]? = some (.cells #[.pointer (some ⟨D.d, 0, none⟩), jp, .pointer (some ⟨r, 0, none⟩), kp] 32 (0, 0))
 d1 : DiskAt w D dk
 d2 : RefAt w Br r (Zd D) dk
 hb1 : b ≤ D.B
 hb2 : b ≤ Br
 hwb : b ≤ wb
def Jo (b : Nat) (w : World) (D : Dsk) (r : Nat) : Option Jr → Value → Value → Prop
 | none, jp, kp => jp = .pointer none ∧ kp = .pointer none
 | some jr, jp, kp => ∃ j q B Bq, jp = .pointer (some ⟨j, 0, none⟩) ∧ kp = .pointer (some ⟨q, 0, none⟩) ∧ JrAt w B j D jr ∧ RefJ w Bq q r jr ∧ D.B ≤ B ∧ b ≤ Bq
theorem Two.lt {b : Nat} {w : World} {wb : Nat} {D : Dsk} {r Br : Nat} {dk : Dk} {jp kp : Value} (h : Two b w wb D r Br dk jp kp) : wb < w.heap.size := (Array.getElem?_eq_some_iff.1 h.tw).1
theorem Two.bs {b : Nat} {w : World} {wb : Nat} {D : Dsk} {r Br : Nat} {dk : Dk} {jp kp : Value} (h : Two b w wb D r Br dk jp kp) : b ≤ w.heap.size := Nat.le_trans h.hwb (Nat.le_of_lt h.lt)
theorem Two.keep {b : Nat} {w W : World} {wb : Nat} {D : Dsk} {r Br : Nat} {dk : Dk} {jp kp : Value} (h : Two b w wb D r Br dk jp kp) (k : Below w.heap.size w W) : Two b W wb D r Br dk jp kp :=
 ⟨(k.block _ h.lt).trans h.tw, h.d1.keep k, h.d2.keep k, h.hb1, h.hb2, h.hwb⟩
theorem Jo.kt {b : Nat} {P : TypeId → Prop} {w W : World} {D : Dsk} {r : Nat} {oj : Option Jr} {jp kp : Value} (h : Jo b w D r oj jp kp) (k : KT P w W) (hs : w.heap.size ≤ W.heap.size) (h1 : P 74) (h2 : P 9) (h3 : P 43) : Jo b W D r oj jp kp := by
 cases oj with
 | none => exact h
 | some jr =>
  obtain ⟨j, q, B, Bq, e1, e2, a, c, e⟩ := h
  exact ⟨j, q, B, Bq, e1, e2, a.kt k hs h1 h2, c.kt k h3 h2, e⟩
theorem openM_code (dk : Dk) : ((openM chF z32 dk).2.1 = none → (openM chF z32 dk).2.2 ≠ 0) := by
 cases ho : dk.off with
 | true => rw [openM_off dk ho]; intro _ h; cases h
 | false =>
  cases hp : parse chF (dk.vis.length + 1) z32 dk.vis with
  | none => rw [openM_bad dk ho hp]; intro _ h; cases h
  | some q =>
   obtain ⟨rs, n⟩ := q
   by_cases hz : (dk.vis.drop n).all (· == 0) = true
   ·rw [openM_clean dk ho rs n hp hz]; intro h; cases h
   ·rw [openM_wipe dk ho rs n hp hz]
    split
    ·intro h; cases h
    ·intro _ h; exact absurd h ‹_›
open Go Go.RowKit Go.Shelf Go.Proofs.YtniegajdmbepbaaGreatDoorW.PrintWords Go.Proofs.YtniegajdmbepbaaGreatDoorW.PrintMore Go.Proofs.YtniegajdmbepbaaGreatDoor.Pr Go.Proofs.YtniegajdmbepbaaGreatDoor.WPure
theorem blk_cells {w : World} {g : Nat} {cs : Array Value} {t : TypeId} (h : w.heap[g]? = some (.cells cs t (0, 0))) : (∀ i, w.cell? ⟨g, i, none⟩ = cs[i]?) ∧ ∀ i, w.frozen? ⟨g, i, none⟩ = false :=
  ⟨fun i => cell_of_row w g i cs t (0, 0) h, fun i => frozen_of h i⟩
theorem Two.set {b : Nat} {w w2 : World} {wb : Nat} {D : Dsk} {r Br : Nat} {dk dk' : Dk} {jp kp jp' kp' : Value} (h : Two b w wb D r Br dk jp kp) (ht : w2.heap[wb]? = some (.cells #[.pointer (some ⟨D.d, 0, none⟩), jp, .pointer (some ⟨r, 0, none⟩), kp] 32 (0, 0)))
    (d1 : DiskAt w2 D dk') (d2 : RefAt w2 Br r (Zd D) dk') : Two b ((w2.setCell ⟨wb, 1, none⟩ jp').setCell ⟨wb, 3, none⟩ kp') wb D r Br dk' jp' kp' ∧ KT (· ≠ 32) w2 ((w2.setCell ⟨wb, 1, none⟩ jp').setCell ⟨wb, 3, none⟩ kp') ∧ But wb w2 ((w2.setCell ⟨wb, 1, none⟩ jp').setCell ⟨wb, 3, none⟩ kp') := by
  have S1 := set_blk ht (j := 1) jp'
  have S2 := set_blk S1 (j := 3) kp'
  have Bt := (But.setCell wb 1 w2 jp').trans (But.setCell wb 3 _ kp')
  have K := KT.of_but Bt ht
  exact ⟨⟨by simpa using S2, d1.kt K (by decide) (by decide) (by decide), d2.ktu K (by decide) (by decide) (by decide), h.hb1, h.hb2, h.hwb⟩, K, Bt⟩
set_option maxRecDepth 100000 in
set_option maxHeartbeats 8000000 in
theorem wopen_calls {b : Nat} {w : World} {wb : Nat} {D : Dsk} {r Br : Nat} {dk : Dk} {jp kp : Value} (h : Two b w wb D r Br dk jp kp) (a : Addr) (hA : Sha.Amb w) (hE : AmbE a w) (hf : dk.pend.length + 2 ≤ 1000000) (hjp : ∃ p, jp = .pointer p) (hkp : ∃ p, kp = .pointer p) :
    Calls Tryz.prog 17 #[.pointer (some ⟨wb, 0, none⟩)] w fun e w' => e = .returned (.bool true) ∧ ∃ jp' kp', Two b w' wb D r Br (openM chF z32 dk).1 jp' kp' ∧ Jo b w' D r (openM chF z32 dk).2.1 jp' kp' ∧ Below b w w' := by
  obtain ⟨O, hO⟩ : ∃ O, openM chF z32 dk = O := ⟨_, rfl⟩
  obtain ⟨dk', oj, c⟩ := O
  have J := jopen_calls h.d1 a hA hE (by omega)
  have hc := openM_code dk
  rw [hO] at J hc ⊢
  dsimp only at J hc ⊢
  obtain ⟨p1, rfl⟩ := hjp
  obtain ⟨p2, rfl⟩ := hkp
  have c0 := (blk_cells h.tw).1 0
  have hwz : D.B ≤ w.heap.size := h.d1.sizeB
  have hbr : Br ≤ r := let ⟨_, _, _, q, _⟩ := h.d2; q.hr
  have K := fun (w1 w2 : World) (o1 : Off D w w1) (d1 : DiskAt w1 D dk') (o2 : ROff Br r w1 w2) (d2 : RefAt w1 Br r (Zd D) dk) =>
    (show (w1.heap[wb]? = some (.cells #[.pointer (some ⟨D.d, 0, none⟩), .pointer p1, .pointer (some ⟨r, 0, none⟩), .pointer p2] 32 (0, 0))) ∧ w2.heap[wb]? = some (.cells #[.pointer (some ⟨D.d, 0, none⟩), .pointer p1, .pointer (some ⟨r, 0, none⟩), .pointer p2] 32 (0, 0)) ∧ DiskAt w2 D dk' ∧ Below b w w2 from
      let t1 := (o1.kt h.d1).1 _ _ _ _ h.tw (by decide)
      let k2 := o2.kt d2
      ⟨t1, k2 _ _ _ _ t1 (by decide), d1.kt k2 (by decide) (by decide) (by decide), (o1.belowB h.hb1 hwz).trans (o2.below h.hb2 hbr (Nat.le_trans h.bs o1.size))⟩)
  have R := fun (w1 : World) (o1 : Off D w w1) => (show RefAt w1 Br r (Zd D) dk from h.d2.kt (o1.kt h.d1).1 (by decide) (by decide) (o1.kt h.d1).2)
  have Z := fun (w1 : World) (o1 : Off D w w1) => (show ∀ k, Zd D k → k < w1.heap.size from fun k hk => Nat.lt_of_lt_of_le (h.d1.zlt k hk) o1.size)
  have T1 := fun (w1 : World) (o1 : Off D w w1) => (show (w1.heap[wb]? = some (.cells #[.pointer (some ⟨D.d, 0, none⟩), .pointer p1, .pointer (some ⟨r, 0, none⟩), .pointer p2] 32 (0, 0))) from (o1.kt h.d1).1 _ _ _ _ h.tw (by decide))
  have KH := Lib.hid K
  have RH := Lib.hid R
  have ZH := Lib.hid Z
  have TH := Lib.hid T1
  clear K R Z T1
  cases oj with
  | none =>
    have hcn := hc rfl
    have j1 : (c == 0) = false := beq_eq_false_iff_ne.mpr hcn
    have j2 : (c != 0) = true := bne_iff_ne.mpr hcn
    clear hcn hc
    go_enter Tryz.func17, Tryz.ntmps17
    go_wp2_with (first
      | (go_at_call 50; refine (refopen_calls (RH.out w1 o1) (ZH.out w1 o1) (by omega)).mono ?_; rw [hO]; rintro e w2 ⟨hd2, o2, hr2⟩
         obtain rfl : e = .returned (.tuple #[.pointer none, .int .i64 c]) := hr2
         have KK := KH.out w1 w2 o1 hd1 o2 (RH.out w1 o1)
         have c21 := (blk_cells KK.2.1).1 1
         have c23 := (blk_cells KK.2.1).1 3
         have f21 := (blk_cells KK.2.1).2 1
         have f23 := (blk_cells KK.2.1).2 3
         have KX := Lib.hid KK
         clear KK)
      | (go_at_call 25; refine J.mono ?_; rintro e w1 ⟨hd1, o1, hr1⟩
         obtain rfl : e = .returned (.tuple #[.pointer none, .int .i64 c]) := hr1
         have c12 := (blk_cells (TH.out w1 o1)).1 2))
    go_ret
    obtain ⟨k1, k2, k3, k4⟩ := KX.out
    obtain ⟨s1, s2, s3⟩ := h.set (jp' := .pointer none) (kp' := .pointer none) k2 k3 hd2
    exact ⟨by simp, _, _, s1, ⟨rfl, rfl⟩, k4.trans ⟨s3.os, s3.tape, s3.output, s3.size, fun k hk => s3.block k (Nat.lt_of_lt_of_le hk (Nat.le_trans h.bs k4.size)) (by have := h.hwb; omega)⟩⟩
  | some jr =>
    clear hc
    go_enter Tryz.func17, Tryz.ntmps17
    go_wp2_with (first
      | (go_at_call 50; refine (refopen_calls (RH.out w1 o1) (ZH.out w1 o1) (by omega)).mono ?_; rw [hO]; rintro e w2 ⟨hd2, o2, hr2⟩
         obtain ⟨q, he2, hq⟩ : ∃ q, e = .returned (.tuple #[.pointer (some ⟨q, 0, none⟩), .int .i64 0]) ∧ RefJ w2 w1.heap.size q r jr := hr2
         subst he2
         have KK := KH.out w1 w2 o1 hd1 o2 (RH.out w1 o1)
         have c21 := (blk_cells KK.2.1).1 1
         have c23 := (blk_cells KK.2.1).1 3
         have f21 := (blk_cells KK.2.1).2 1
         have f23 := (blk_cells KK.2.1).2 3
         have KX := Lib.hid KK
         clear KK)
      | (go_at_call 25; refine J.mono ?_; rintro e w1 ⟨hd1, o1, hr1⟩
         obtain ⟨j, he1, hj⟩ : ∃ j, e = .returned (.tuple #[.pointer (some ⟨j, 0, none⟩), .int .i64 0]) ∧ JrAt w1 w.heap.size j D jr := hr1
         subst he1
         have c12 := (blk_cells (TH.out w1 o1)).1 2))
    go_ret
    obtain ⟨k1, k2, k3, k4⟩ := KX.out
    obtain ⟨s1, s2, s3⟩ := h.set (jp' := .pointer (some ⟨j, 0, none⟩)) (kp' := .pointer (some ⟨q, 0, none⟩)) k2 k3 hd2
    refine ⟨by simp, _, _, s1, ⟨j, q, w.heap.size, w1.heap.size, rfl, rfl, ?_, ?_, hwz, Nat.le_trans h.bs o1.size⟩, k4.trans ⟨s3.os, s3.tape, s3.output, s3.size, fun k hk => s3.block k (Nat.lt_of_lt_of_le hk (Nat.le_trans h.bs k4.size)) (by have := h.hwb; omega)⟩⟩
    · exact (hj.kt (o2.kt (RH.out w1 o1)) o2.size (by decide) (by decide)).kt s2 s3.size (by decide) (by decide)
    · exact hq.kt s2 (by decide) (by decide)
open Go Go.RowKit Go.Shelf Go.Proofs.YtniegajdmbepbaaGreatDoorW.PrintWords Go.Proofs.YtniegajdmbepbaaGreatDoorW.PrintMore Go.Proofs.YtniegajdmbepbaaGreatDoor.Pr Go.Proofs.YtniegajdmbepbaaGreatDoor.Pl Go.Proofs.YtniegajdmbepbaaGreatDoor.WPure
theorem openM_new (N : Nat) : openM chF z32 (newDk N) = (newDk N, some ⟨[], z32, 0, false⟩, 0) := by
  have hp : parse chF ((newDk N).vis.length + 1) z32 (newDk N).vis = some ([], 0) := parse_end _ _ _ (by omega) (by
    cases N with
    | zero => exact .inl rfl
    | succ n => exact .inr rfl)
  rw [openM_clean (newDk N) rfl [] 0 hp (by rw [List.drop_zero]; exact zeros_all N)]
  rfl
set_option maxRecDepth 100000 in
set_option maxHeartbeats 8000000 in
theorem begin_calls (w : World) (n : Int) (N : Nat) (hN : clearwaylaw29_size.f n = some (N : Int)) (h1 : 1 ≤ N) (h2 : N ≤ 1500) (a : Addr) (hA : Sha.Amb w) (hE : AmbE a w) :
    Calls Tryz.prog 9 #[.int .i64 n] w fun e w' => ∃ wb D r Br jp kp, e = .returned (.tuple #[.pointer (some ⟨wb, 0, none⟩), .bool true]) ∧ Two w.heap.size w' wb D r Br (newDk N) jp kp ∧ Jo w.heap.size w' D r (some ⟨[], z32, 0, false⟩) jp kp ∧ Below w.heap.size w w' := by
  go_enter Tryz.func9, Tryz.ntmps9
  go_upto_region 3 with (first
    | (go_at_call 33; refine (refnew_calls w3 N h1 (by omega) (Zd D) hz3).mono ?_; rintro e w4 ⟨r, rfl, hr4, b4⟩)
    | (go_at_call 15; refine (lawsize_calls w2 n N hN).mono ?_; rintro e w3 ⟨rfl, b3⟩
       have hz3 : ∀ k, Zd D k → k < w3.heap.size := (hd2.keep b3).zlt)
    | (go_at_call 24; refine (new_calls w1 N h1 (by omega)).mono ?_; rintro e w2 ⟨D, rfl, hd2, b2, hDB⟩)
    | (go_at_call 15; refine (lawsize_calls _ n N hN).mono ?_; rintro e w1 ⟨rfl, b1⟩))
  have B3 : Below w.heap.size w w3 := (b1.trans (b2.mono b1.size)).trans (b3.mono (Nat.le_trans b1.size b2.size))
  have B4 : Below w.heap.size w w4 := B3.trans (b4.mono B3.size)
  have T0 : ∀ W, Below w4.heap.size w4 W → W.heap[w4.heap.size]? = some (.cells #[.pointer (some ⟨D.d, 0, none⟩), .pointer none, .pointer (some ⟨r, 0, none⟩), .pointer none] 32 (0, 0)) →
      Two w.heap.size W w4.heap.size D r w3.heap.size (newDk N) (.pointer none) (.pointer none) := fun W hW ht =>
    ⟨ht, ((hd2.keep b3).keep b4).keep hW, hr4.keep hW, by rw [hDB]; exact b1.size, B3.size, B4.size⟩
  have b5 := below_alloc (Below.refl w4.heap.size w4) (.cells #[.pointer (some ⟨D.d, 0, none⟩), .pointer none, .pointer (some ⟨r, 0, none⟩), .pointer none] 32)
  have t5 := heap_alloc_new w4 (.cells #[.pointer (some ⟨D.d, 0, none⟩), .pointer none, .pointer (some ⟨r, 0, none⟩), .pointer none] 32)
  have T5 := T0 _ b5 t5
  have B5 : Below w.heap.size w _ := B4.trans (b5.mono B4.size)
  have hO := wopen_calls T5 a (hA.below_block B5) (hE.keep (B5.block _ (Array.getElem?_eq_some_iff.1 hE.choose_spec.choose_spec).1)) (by show 0 + 2 ≤ 1000000; omega) ⟨_, rfl⟩ ⟨_, rfl⟩
  rw [openM_new] at hO
  clear T5 T0 t5 hr4 hd2 hz3 b1 b2 b3
  go_wp2_with (go_at_call 17; refine hO.mono ?_; rintro e w6 ⟨rfl, jp, kp, hT, hJ, b6⟩)
  go_ret2
  exact ⟨_, D, r, _, jp, kp, rfl, hT, hJ, B5.trans b6⟩
open Go Go.RowKit Go.Shelf Go.Proofs.YtniegajdmbepbaaGreatDoor.Rf Go.Proofs.YtniegajdmbepbaaGreatDoorW.PrintWords Go.Proofs.YtniegajdmbepbaaGreatDoorW.PrintLast Go.Proofs.YtniegajdmbepbaaGreatDoorW.PrintMore Go.Proofs.YtniegajdmbepbaaGreatDoor.Sha
def oaT.T8 : Bool × List (List Nat × List Nat) := (true, [([], []), ([0], [0]), ([1], [1]), ([2], [2]), ([], []), ([], []), ([5], [5]), ([4, 6, 6], [4, 6]), ([], []), ([8], [8]), ([9], [9]), ([3, 7, 10, 7], [3, 7, 10])])
def oaT.B8 : List Nat := [0, 1, 3, 7, 0, 0, 32, 112, 0, 256, 768, 2047]
theorem oaT.bits8 : waitsOk oaT.T8.2 oaT.B8 = true := by kernel_rfl
def oaT.T9 : Bool × List (List Nat × List Nat) := (true, [([], []), ([0], [0]), ([1], [1]), ([2], [2]), ([], []), ([], []), ([5], [5]), ([4, 6, 6], [4, 6]), ([], []), ([8], [8]), ([9], [9]), ([3, 7, 10, 7], [3, 7, 10])])
def oaT.B9 : List Nat := [0, 1, 3, 7, 0, 0, 32, 112, 0, 256, 768, 2047]
theorem oaT.tab9 : rtab .any (opsOf Tryz.f3 9) = oaT.T9 := by kernel_rfl
theorem oaT.bits9 : waitsOk oaT.T9.2 oaT.B9 = true := by kernel_rfl
open Go Go.RowKit Go.Shelf Go.Proofs.YtniegajdmbepbaaGreatDoor.Rf Go.Proofs.YtniegajdmbepbaaGreatDoorW.PrintWords Go.Proofs.YtniegajdmbepbaaGreatDoorW.PrintLast Go.Proofs.YtniegajdmbepbaaGreatDoorW.PrintMore Go.Proofs.YtniegajdmbepbaaGreatDoor.Sha
def oaT.T10 : Bool × List (List Nat × List Nat) := (true, [([], []), ([0], [0]), ([1], [1]), ([2], [2]), ([], []), ([], []), ([5], [5]), ([], []), ([7], [7]), ([6, 8], [6, 8]), ([4, 9], [4, 9]), ([3, 10, 8], [3, 10])])
def oaT.B10 : List Nat := [0, 1, 3, 7, 0, 0, 32, 0, 128, 480, 1008, 2047]
theorem oaT.tab10 : rtab .any (opsOf Tryz.f3 10) = oaT.T10 := by kernel_rfl
theorem oaT.bits10 : waitsOk oaT.T10.2 oaT.B10 = true := by kernel_rfl
def oaT.T11 : Bool × List (List Nat × List Nat) := (true, [([], []), ([0], [0]), ([1], [1]), ([2], [2]), ([], []), ([], []), ([5], [5]), ([], []), ([7], [7]), ([6, 8], [6, 8]), ([4, 9], [4, 9]), ([3, 10, 8], [3, 10])])
def oaT.B11 : List Nat := [0, 1, 3, 7, 0, 0, 32, 0, 128, 480, 1008, 2047]
theorem oaT.tab11 : rtab .any (opsOf Tryz.f3 11) = oaT.T11 := by kernel_rfl
theorem oaT.bits11 : waitsOk oaT.T11.2 oaT.B11 = true := by kernel_rfl
open Go Go.RowKit Go.Shelf Go.Proofs.YtniegajdmbepbaaGreatDoor.Rf Go.Proofs.YtniegajdmbepbaaGreatDoorW.PrintWords Go.Proofs.YtniegajdmbepbaaGreatDoorW.PrintLast Go.Proofs.YtniegajdmbepbaaGreatDoorW.PrintMore Go.Proofs.YtniegajdmbepbaaGreatDoor.Sha
def oaT.T13 : Bool × List (List Nat × List Nat) := (true, [([], []), ([0], [0]), ([1], [1]), ([1, 2], [1, 2]), ([3, 1], [3]), ([4], [4]), ([5, 4], [4, 5]), ([6, 4], [4, 6]), ([7, 4], [4, 7]), ([8, 4], [4, 8]), ([9, 4, 4], [4, 9]), ([10], [10]), ([11, 10], [10, 11]), ([12, 10], [10, 12]), ([13, 10], [10, 13]), ([14, 10, 10], [10, 14]), ([10], [10]), ([16, 10], [10, 16]), ([17, 10], [10, 17]), ([18, 10], [10, 18]), ([19, 10], [10, 19]), ([20, 10], [10, 20]), ([21, 10], [10, 21]), ([15, 22, 15, 10], [10, 15, 22]), ([23, 23, 10], [10, 23]), ([24], [24]), ([25, 24], [24, 25]), ([26, 24], [24, 26]), ([27, 24], [24, 27]), ([28, 24, 24], [24, 28]), ([24], [24]), ([30, 24], [24, 30]), ([31, 24], [24, 31]), ([32, 24], [24, 32]), ([33, 29, 24], [24, 33]), ([29, 34, 24], [24, 29, 34]), ([24, 35, 10], [10, 24, 35]), ([36, 34, 10], [10, 36]), ([37], [37]), ([38, 37], [37, 38]), ([39, 37], [37, 39]), ([40, 37], [37, 40]), ([41, 37, 37], [37, 41]), ([37], [37]), ([43, 37], [37, 43]), ([44, 37], [37, 44]), ([45, 37], [37, 45]), ([46, 42, 37], [37, 46]), ([47, 37], [37, 47]), ([42, 48, 37], [37, 42, 48]), ([37, 49, 10], [10, 37, 49]), ([10, 50, 4], [4, 10, 50]), ([4, 51], [4, 51]), ([52, 47, 0, 1, 2, 3, 4, 5, 6, 7, 8, 9, 10, 11, 12, 13, 14, 15, 16, 17, 18, 19, 20, 21, 22, 23, 24, 25, 26, 27, 28, 29, 30, 31, 32, 33, 34, 35, 36, 37, 38, 39, 40, 41, 42, 43, 44, 45, 46, 47, 48, 49, 50, 51, 52], [52])])
def oaT.B13 : List Nat := [0, 1, 3, 7, 15, 31, 63, 127, 255, 511, 1023, 2047, 4095, 8191, 16383, 32767, 2047, 67583, 198655, 460799, 985087, 2033663, 4130815, 8388607, 16777215, 33554431, 67108863, 134217727, 268435455, 536870911, 33554431, 1107296255, 3254779903, 7549747199, 17179869183, 34359738367, 68719476735, 137438953471, 274877906943, 549755813887, 1099511627775, 2199023255551, 4398046511103, 274877906943, 9070970929151, 26663156973567, 61847529062399, 140737488355327, 281474976710655, 562949953421311, 1125899906842623, 2251799813685247, 4503599627370495, 9007199254740991]
theorem oaT.tab13 : rtab .any (opsOf Tryz.f3 13) = oaT.T13 := by kernel_rfl
theorem oaT.bits13 : waitsOk oaT.T13.2 oaT.B13 = true := by kernel_rfl
open Go Go.RowKit Go.Shelf Go.Proofs.YtniegajdmbepbaaGreatDoorW.PrintWords Go.Proofs.YtniegajdmbepbaaGreatDoorW.PrintMore Go.Proofs.YtniegajdmbepbaaGreatDoor.Pr Go.Proofs.YtniegajdmbepbaaGreatDoor.Pl Go.Proofs.YtniegajdmbepbaaGreatDoor.WPure
def J1 (V : World) (D : Dsk) : Option Jr → Value → Prop
 | none, jp => jp = .pointer none
 | some jr, jp => ∃ j B, jp = .pointer (some ⟨j, 0, none⟩) ∧ JrAt V B j D jr ∧ D.B ≤ B
def J2 (b : Nat) (V : World) (r : Nat) : Option Jr → Value → Prop
 | none, kp => kp = .pointer none
 | some jr, kp => ∃ q B, kp = .pointer (some ⟨q, 0, none⟩) ∧ RefJ V B q r jr ∧ b ≤ B
structure Mix (b : Nat) (w0 : World) (wb : Nat) (D : Dsk) (r Br : Nat) (jp kp : Value) (dk1 : Dk) (o1 : Option Jr) (dk2 : Dk) (o2 : Option Jr) (V : World) : Prop where
 tw : V.heap[wb]? = some (.cells #[.pointer (some ⟨D.d, 0, none⟩), jp, .pointer (some ⟨r, 0, none⟩), kp] 32 (0, 0))
 d1 : DiskAt V D dk1
 d2 : RefAt V Br r (Zd D) dk2
 j1 : J1 V D o1 jp
 j2 : J2 b V r o2 kp
 hb1 : b ≤ D.B
 hb2 : b ≤ Br
 hwb : b ≤ wb
 bel : Below b w0 V
section
variable {b : Nat} {w0 : World} {wb : Nat} {D : Dsk} {r Br : Nat} {jp kp : Value} {dk1 dk2 dk1' dk2' : Dk} {o1 o2 : Option Jr} {V V' : World}
theorem Mix.lt (h : Mix b w0 wb D r Br jp kp dk1 o1 dk2 o2 V) : wb < V.heap.size := (Array.getElem?_eq_some_iff.1 h.tw).1
theorem Mix.bs (h : Mix b w0 wb D r Br jp kp dk1 o1 dk2 o2 V) : b ≤ V.heap.size := Nat.le_trans h.hwb (Nat.le_of_lt h.lt)
theorem Mix.cells (h : Mix b w0 wb D r Br jp kp dk1 o1 dk2 o2 V) : V.cell? ⟨wb, 0, none⟩ = some (.pointer (some ⟨D.d, 0, none⟩)) ∧ V.cell? ⟨wb, 1, none⟩ = some jp ∧ V.cell? ⟨wb, 2, none⟩ = some (.pointer (some ⟨r, 0, none⟩)) ∧ V.cell? ⟨wb, 3, none⟩ = some kp :=
 ⟨(blk_cells h.tw).1 0, (blk_cells h.tw).1 1, (blk_cells h.tw).1 2, (blk_cells h.tw).1 3⟩
theorem J1.kt {P : TypeId → Prop} {o : Option Jr} (h : J1 V D o jp) (k : KT P V V') (hs : V.heap.size ≤ V'.heap.size) (h1 : P 74) (h2 : P 9) : J1 V' D o jp := by
 cases o with
 | none => exact h
 | some jr => obtain ⟨j, B, e, hj, hB⟩ := h; exact ⟨j, B, e, hj.kt k hs h1 h2, hB⟩
theorem J2.kt {P : TypeId → Prop} {o : Option Jr} (h : J2 b V r o kp) (k : KT P V V') (h1 : P 43) (h2 : P 9) : J2 b V' r o kp := by
 cases o with
 | none => exact h
 | some jr => obtain ⟨q, B, e, hj, hB⟩ := h; exact ⟨q, B, e, hj.kt k h1 h2, hB⟩
theorem Mix.keep (h : Mix b w0 wb D r Br jp kp dk1 o1 dk2 o2 V) (k : Below V.heap.size V V') : Mix b w0 wb D r Br jp kp dk1 o1 dk2 o2 V' :=
 ⟨(k.block _ h.lt).trans h.tw, h.d1.keep k, h.d2.keep k, h.j1.kt (P := fun _ => True) (KT.of_below k) k.size trivial trivial, h.j2.kt (P := fun _ => True) (KT.of_below k) trivial trivial, h.hb1, h.hb2, h.hwb, h.bel.trans (k.mono h.bs)⟩
theorem Mix.off (h : Mix b w0 wb D r Br jp kp dk1 o1 dk2 o2 V) (o : Off D V V') (d : DiskAt V' D dk1') : Mix b w0 wb D r Br jp kp dk1' o1 dk2 o2 V' := by
 have K := o.kt h.d1
 refine ⟨K.1 _ _ _ _ h.tw (by decide), d, h.d2.kt K.1 (by decide) (by decide) K.2, ?_, h.j2.kt K.1 (by decide) (by decide), h.hb1, h.hb2, h.hwb, h.bel.trans (o.belowB h.hb1 h.d1.sizeB)⟩
 have := h.j1
 cases o1 with
 | none => exact this
 | some jr => obtain ⟨j, B, e, hj, hB⟩ := this; exact ⟨j, B, e, hj.off o h.d1, hB⟩
theorem Mix.roff (h : Mix b w0 wb D r Br jp kp dk1 o1 dk2 o2 V) (o : ROff Br r V V') (d : RefAt V' Br r (Zd D) dk2') : Mix b w0 wb D r Br jp kp dk1 o1 dk2' o2 V' := by
 have K := o.kt h.d2
 have hbr : Br ≤ r := let ⟨_, _, _, q, _⟩ := h.d2; q.hr
 refine ⟨K _ _ _ _ h.tw (by decide), h.d1.kt K (by decide) (by decide) (by decide), d, h.j1.kt K o.size (by decide) (by decide), ?_, h.hb1, h.hb2, h.hwb, h.bel.trans (o.below h.hb2 hbr h.bs)⟩
 have := h.j2
 cases o2 with
 | none => exact this
 | some jr => obtain ⟨q, B, e, ⟨⟨lv, hk⟩, h3⟩, hB⟩ := this; exact ⟨q, B, e, ⟨⟨lv, hk.roff o⟩, h3⟩, hB⟩
end
section
variable {b : Nat} {w0 : World} {wb : Nat} {D : Dsk} {r Br j q : Nat} {jp kp : Value} {dk1 dk2 : Dk} {jr1 jr2 : Jr} {o1 o2 : Option Jr} {V V' : World}
structure Gl (b : Nat) (w0 : World) (a : Addr) : Prop where
 amb : Sha.Amb w0
 err : AmbE a w0
 g1 : 3 < b
 g2 : 0 < b
theorem Gl.of {a : Addr} (g : Gl b w0 a) (h : Below b w0 V) : Sha.Amb V ∧ AmbE a V :=
 ⟨let ⟨t, fr, x⟩ := g.amb; ⟨t, fr, (h.block _ g.g1).trans x⟩, g.err.keep (h.block _ g.g2)⟩
end
theorem Mix.of_two {b : Nat} {w0 w : World} {wb : Nat} {D : Dsk} {r Br : Nat} {dk : Dk} {jp kp : Value} {o : Option Jr} (h : Two b w wb D r Br dk jp kp) (hj : Jo b w D r o jp kp) (hb : Below b w0 w) : Mix b w0 wb D r Br jp kp dk o dk o w := by
 refine ⟨h.tw, h.d1, h.d2, ?_, ?_, h.hb1, h.hb2, h.hwb, hb⟩
 ·cases o with
  | none => exact hj.1
  | some jr => obtain ⟨j, q, B, Bq, e1, e2, a, c, d, e⟩ := hj; exact ⟨j, B, e1, a, d⟩
 ·cases o with
  | none => exact hj.2
  | some jr => obtain ⟨j, q, B, Bq, e1, e2, a, c, d, e⟩ := hj; exact ⟨q, Bq, e2, c, e⟩
theorem Mix.two {b : Nat} {w0 w : World} {wb : Nat} {D : Dsk} {r Br : Nat} {dk : Dk} {jp kp : Value} {o1 o2 : Option Jr} (h : Mix b w0 wb D r Br jp kp dk o1 dk o2 w) : Two b w wb D r Br dk jp kp ∧ (∃ p, jp = .pointer p) ∧ ∃ p, kp = .pointer p := by
 refine ⟨⟨h.tw, h.d1, h.d2, h.hb1, h.hb2, h.hwb⟩, ?_, ?_⟩
 ·have := h.j1
  cases o1 with
  | none => exact ⟨_, this⟩
  | some jr => obtain ⟨j, B, e1, _⟩ := this; exact ⟨_, e1⟩
 ·have := h.j2
  cases o2 with
  | none => exact ⟨_, this⟩
  | some jr => obtain ⟨q, B, e1, _⟩ := this; exact ⟨_, e1⟩
theorem Mix.open_ {b : Nat} {w0 w : World} {wb : Nat} {D : Dsk} {r Br : Nat} {dk : Dk} {jp kp : Value} {o1 o2 : Option Jr} {a : Addr} (g : Gl b w0 a) (h : Mix b w0 wb D r Br jp kp dk o1 dk o2 w) (hf : dk.pend.length + 2 ≤ 1000000) :
  Calls Tryz.prog 17 #[.pointer (some ⟨wb, 0, none⟩)] w fun e w' => e = .returned (.bool true) ∧ ∃ jp' kp', Mix b w0 wb D r Br jp' kp' (openM chF z32 dk).1 (openM chF z32 dk).2.1 (openM chF z32 dk).1 (openM chF z32 dk).2.1 w' := by
 obtain ⟨t, hp, hk⟩ := h.two
 have ga := g.of h.bel
 refine (wopen_calls t a ga.1 ga.2 hf hp hk).mono ?_
 rintro e w' ⟨rfl, jp', kp', t', j', b'⟩
 exact ⟨rfl, jp', kp', Mix.of_two t' j' (h.bel.trans b')⟩
open Go Go.RowKit Go.Shelf Go.Proofs.YtniegajdmbepbaaGreatDoor.Rf Go.Proofs.YtniegajdmbepbaaGreatDoorW.PrintWords Go.Proofs.YtniegajdmbepbaaGreatDoorW.PrintLast Go.Proofs.YtniegajdmbepbaaGreatDoorW.PrintMore Go.Proofs.YtniegajdmbepbaaGreatDoor.Sha
def rcr_r12S (r : Nat) (g : Nat) (i : Nat) (gs : Nat) (n : Nat) (cs : Nat) (off : Nat) (V_ : World) : Prop := V_.cell? ⟨r, 0, none⟩ = some (.slice (some ⟨gs, 0, none⟩) n cs) ∧ V_.cell? ⟨g, i * 2, none⟩ = some (.int .i64 (off : Int))
def rcrT.T12 : Bool × List (List Nat × List Nat) := (true, [([], []), ([0], [0]), ([1], [1]), ([2], [2]), ([], []), ([], []), ([4, 5], [4, 5]), ([6], [6]), ([7], [7]), ([], []), ([3, 8, 9], [3, 8, 9])])
def rcrT.B12 : List Nat := [0, 1, 3, 7, 0, 0, 48, 112, 240, 0, 1023]
theorem rcrT.tab12 : rtab .any (opsOf Tryz.f67 12) = rcrT.T12 := by kernel_rfl
theorem rcrT.bits12 : waitsOk rcrT.T12.2 rcrT.B12 = true := by kernel_rfl
noncomputable def rcrR12 : Code := ((Tryz.f67.body.bind (regionOf 12)).getD .skip)
set_option maxHeartbeats 8000000 in
set_option maxRecDepth 100000 in
theorem rcr_r12 (R : Act → World → Prop) (W : World) (v1 v2 v3 v4 v5 v7 v10 v11 v12 v13 v14 v15 v16 v17 v18 v19 v20 v21 v22 v23 v24 v25 v26 v27 v28 v29 v30 v31 v32 v33 v34 v35 v36 v37 v38 v39 v40 v41 v42 v43 v44 v45 v46 v47 v48 v49 v50 v51 v52 v53 v54 v55 v56 v57 v58 v59 v60 v61 v62 v63 v64 v65 v66 v67 v68 v69 v70 v71 v72 v73 v74 v75 v76 v77 v78 v79 v80 : Value) (r g k cg i gs n cs off : Nat) (s : ByteArray) (P0 : World → Prop) (P10 : World → Prop)
  (hi1 : ((i : Int) < (k : Int)) = True) (hi2 : (i < k) = True)
  (hP0 : P0 W.drew)
  (hS0 : ∀ V, P0 V → rcr_r12S r g i gs n cs off V)
  (hc10 : ∀ V, P0 V → Calls Tryz.prog 53 #[.slice (some ⟨gs, 0, none⟩) n cs, .int .i64 (off : Int), .string s] V fun e w' => e = .returned (.tuple #[]) ∧ P10 w')
  (hS10 : ∀ V, P10 V → rcr_r12S r g i gs n cs off V)
  (hQ : ∀ (z61 z62 z63 z64 z65 z66 z67 z68 z69 z70 z71 : Value) (W' : World), P10 W' → R ⟨#[Value.pointer (some ⟨r, 0, none⟩), v1, v2, v3, v4, v5, Value.slice (some ⟨g, 0, none⟩) k cg, v7, Value.int .i64 (i : Int), Value.string s, v10, v11, v12, v13, v14, v15, v16, v17, v18, v19, v20, v21, v22, v23, v24, v25, v26, v27, v28, v29, v30, v31, v32, v33, v34, v35, v36, v37, v38, v39, v40, v41, v42, v43, v44, v45, v46, v47, v48, v49, v50, v51, v52, v53, v54, v55, v56, v57, v58, v59, v60, z61, z62, z63, z64, z65, z66, z67, z68, z69, z70, z71, v72, v73, v74, v75, v76, v77, v78, v79, v80], []⟩ W') :
  rcrR12.wp Tryz.prog (Norm R) ⟨#[Value.pointer (some ⟨r, 0, none⟩), v1, v2, v3, v4, v5, Value.slice (some ⟨g, 0, none⟩) k cg, v7, Value.int .i64 (i : Int), Value.string s, v10, v11, v12, v13, v14, v15, v16, v17, v18, v19, v20, v21, v22, v23, v24, v25, v26, v27, v28, v29, v30, v31, v32, v33, v34, v35, v36, v37, v38, v39, v40, v41, v42, v43, v44, v45, v46, v47, v48, v49, v50, v51, v52, v53, v54, v55, v56, v57, v58, v59, v60, v61, v62, v63, v64, v65, v66, v67, v68, v69, v70, v71, v72, v73, v74, v75, v76, v77, v78, v79, v80], []⟩ W := by
 unfold rcrR12
 conv => arg 2; whnf
 refine start_ (n := 11) (S := (rcr_r12S r g i gs n cs off)) (ds := []) (Sx14.b 11 0) (by kernel_rfl) rfl rfl (hS0 _ hP0) (fun hHeld => ?_); refine with_tabW rcrT.tab12 rcrT.bits12 (fun HT_ HW_ => ?_)
 have hP0_ := hP0
 clear hP0
 generalize W.drew = w0_ at hHeld hP0_ ⊢
 refine Sx14.p (i := 0) (N := some 61) HT_.out (Sx14.b 11 1) ?_
 refine Sx14.p (i := 1) (N := some 62) HT_.out (Sx14.b 11 3) ?_
 refine Sx14.p (i := 2) (N := some 63) HT_.out (Sx14.b 11 7) ?_
 refine Sx14.p (i := 4) (N := some 65) HT_.out (Sx14.b 11 23) ?_
 refine Sx14.p (i := 5) (N := some 66) HT_.out (Sx14.b 11 55) ?_
 refine Sx14.p (i := 6) (N := some 67) HT_.out (Sx14.b 11 119) ?_
 refine Sx14.p (i := 7) (N := some 68) HT_.out (Sx14.b 11 247) ?_
 refine Sx14.p (i := 9) (N := some 70) HT_.out (Sx14.b 11 759) ?_
 refine take_ (i := 3) (N := some 64) (v := ?_) (a' := ?_) (Sx14.b 11 767) rfl rfl (take_ofW HT_.out HW_.out (by kernel_rfl)) (fun _ _ _ h => h) (Or.inl ⟨by rfl, ?_⟩) hHeld ?_ ?_
 rotate_left
 ·intro w' hS_
  obtain ⟨q0, q1⟩ := hS_
  go_simp
  with_reducible rfl
 rotate_left
 ·simp only [Act.put, Sx14.u, Sx14.v, Sx14.w, i64_w, i32_w]
  rfl
 refine take_ (i := 8) (N := some 69) (v := ?_) (a' := ?_) (Sx14.b 11 1023) rfl rfl (take_ofW HT_.out HW_.out (by kernel_rfl)) (fun _ _ _ h => h) (Or.inl ⟨by rfl, ?_⟩) hHeld ?_ ?_
 rotate_left
 ·intro w' hS_
  obtain ⟨q0, q1⟩ := hS_
  go_simp
  with_reducible rfl
 rotate_left
 ·simp only [Act.put, Sx14.u, Sx14.v, Sx14.w, i64_w, i32_w]
  rfl
 refine one_ (i := 10) (N := some 71) (Sx14.b 11 2047) rfl rfl (one_of HT_.out (by kernel_rfl)) (by decide) (fun K hK => ?_)
 refine goes_ Tryz.func53 (by kernel_rfl) rfl #[.slice (some ⟨gs, 0, none⟩) n cs, .int .i64 (off : Int), .string s] (by rfl) rfl rfl (by (try simp only [List.map_toArray, List.map_cons, List.map_nil]); first | done | rfl) ?_
 refine (hc10 _ hP0_).mono ?_
 rintro e wc10_ ⟨rfl, hp10_⟩
 refine ⟨_, rfl, ?_⟩
 refine hK.out _ _ (hS10 _ hp10_) (fun hHeld => ?_)
 clear hK K
 refine norm_ (a' := ?_) ?_ ?_
 rotate_left
 ·show Act.put _ (some 71) _ = _
  simp only [Act.put, Sx14.u, Sx14.v, Sx14.w, i64_w, i32_w]
  rfl
 refine done_ (done_of HT_.out (by kernel_rfl)) ?_
 exact hQ _ _ _ _ _ _ _ _ _ _ _ _ hp10_
open Go Go.RowKit Go.Shelf Go.Proofs.YtniegajdmbepbaaGreatDoorW.PrintWords Go.Proofs.YtniegajdmbepbaaGreatDoorW.PrintMore Go.Proofs.YtniegajdmbepbaaGreatDoor.Pr Go.Proofs.YtniegajdmbepbaaGreatDoor.Pl Go.Proofs.YtniegajdmbepbaaGreatDoor.WPure
set_option maxRecDepth 100000 in
set_option maxHeartbeats 4000000 in
theorem refhas_calls (w : World) (A : Option Addr) (n c : Nat) (xs : List Int) (bk o : Nat) (hn : xs.length = n) (hs : n ≤ 1000000) (hA : 0 < n → A = some ⟨bk, o, none⟩) (hR : intR xs bk o w) (i : Int) (b : Bool) (hb : xs.contains i = b) :
    Calls Tryz.prog 93 #[.slice A n c, .int .i64 i] w fun e w' => e = .returned (.bool b) ∧ w' = w := by
  have HB := Lib.hid hb
  clear hb
  go_enter Tryz.func93, Tryz.ntmps93
  go_wp2_with fail
  go_loop [5] (fun v => ∃ j : Nat, v = .int .i64 (j : Int) ∧ j ≤ n ∧ ∀ m, m < j → xs[m]? ≠ some i) (fun v => n - (intOf v).toNat)
  case atStart => exact ⟨0, rfl, Nat.zero_le _, fun m hm => by omega⟩
  case round =>
    obtain ⟨j, rfl, hj, hm⟩ := hrel
    by_cases h1 : j < n
    · have x1 : ((j : Int) < (n : Int)) = True := eq_true (by omega)
      have x2 : decide ((j : Int) < (n : Int)) = true := decide_eq_true (by omega)
      have x3 : (j < n) = True := eq_true h1
      obtain ⟨x, hx⟩ : ∃ x, xs[j]? = some x := ⟨_, List.getElem?_eq_getElem (by omega)⟩
      have hc := hR j x hx
      have hn1 : IntKind.i64.wrap ((j : Int) + 1) = ((j + 1 : Nat) : Int) := by rw [IntKind.wrap_i64]; omega
      obtain rfl := hA (by omega)
      by_cases he : x = i
      · subst he
        have hcon : xs.contains x = true := by rw [List.contains_iff_mem]; exact List.mem_of_getElem? hx
        have HC := Lib.hid hcon
        clear hcon hm hR
        go_wp2_with fail
        go_ret
        have := HC.out.symm.trans HB.out
        subst this
        exact ⟨rfl, rfl⟩
      · have y1 : (x == i) = false := beq_eq_false_iff_ne.mpr he
        have HM := Lib.hid hm
        have HX := Lib.hid hx
        clear hm hx hR
        go_wp2_with fail
        go_round
        case rel => exact ⟨j + 1, by simp, by omega, fun m hmj e => by
          by_cases hmj2 : m = j
          · subst hmj2; rw [HX.out] at e; exact he (Option.some.inj e)
          · exact HM.out m (by omega) e⟩
        case measure => simp [intOf]; omega
    · have x1 : ((j : Int) < (n : Int)) = False := eq_false (by omega)
      have x2 : decide ((j : Int) < (n : Int)) = false := decide_eq_false (by omega)
      have hcon : xs.contains i = false := by
        rw [Bool.eq_false_iff]
        intro h
        rw [List.contains_iff_mem] at h
        obtain ⟨m, hm2, e⟩ := List.getElem_of_mem h
        exact hm m (by omega) (by rw [List.getElem?_eq_getElem hm2, e])
      have HC := Lib.hid hcon
      clear hcon hm hR
      go_wp2_with fail
      go_ret
      have := HC.out.symm.trans HB.out
      subst this
      exact ⟨rfl, rfl⟩
def pk (P : List (Nat × ByteArray)) (xs : List Int) (i : Nat) : List (Nat × ByteArray) := (Dk.order i xs).filterMap fun k => P[k]?
theorem pk_yes {P : List (Nat × ByteArray)} {xs : List Int} {i : Nat} {p : Nat × ByteArray} (h : xs.contains (i : Int) = true) (hp : P[i]? = some p) : pk P xs (i + 1) = pk P xs i ++ [p] := by
  unfold pk Dk.order
  rw [List.range_succ, List.filter_append, List.filterMap_append, List.filter_cons_of_pos (by exact h)]
  simp [hp]
theorem pk_no {P : List (Nat × ByteArray)} {xs : List Int} {i : Nat} (h : xs.contains (i : Int) = false) : pk P xs (i + 1) = pk P xs i := by
  unfold pk Dk.order
  rw [List.range_succ, List.filter_append, List.filterMap_append, List.filter_cons_of_neg (by rw [h]; decide)]
  simp
theorem pk_len (P : List (Nat × ByteArray)) (xs : List Int) (i : Nat) : (pk P xs i).length ≤ i := by
  unfold pk Dk.order
  exact Nat.le_trans (List.length_filterMap_le _ _) (Nat.le_trans (List.length_filter_le _ _) (by simp))
theorem pcells_snoc2 (P : List (Nat × ByteArray)) (p : Nat × ByteArray) : pcells (P ++ [p]) = pcells P ++ [.int .i64 (p.1 : Int), .string p.2] := by
  unfold pcells
  rw [List.flatMap_append]
  rfl
structure RG (B r g : Nat) (w W : World) : Prop where
  os : W.os = w.os
  tape : W.tape = w.tape
  output : W.output = w.output
  size : w.heap.size ≤ W.heap.size
  block : ∀ k o, w.heap[k]? = some o → k ≠ r → k ≠ g → (k < B ∨ ¬ isC o) → W.heap[k]? = some o
theorem RG.trans {B r g : Nat} {a b c : World} (h : RG B r g a b) (k : RG B r g b c) : RG B r g a c :=
  ⟨k.os.trans h.os, k.tape.trans h.tape, k.output.trans h.output, Nat.le_trans h.size k.size, fun i o hi hr hg hc => k.block i o (h.block i o hi hr hg hc) hr hg hc⟩
theorem RG.of_below {B r g : Nat} {w W : World} (h : Below w.heap.size w W) : RG B r g w W :=
  ⟨h.os, h.tape, h.output, h.size, fun k o hk _ _ _ => (h.block k (Array.getElem?_eq_some_iff.1 hk).1).trans hk⟩
theorem RG.of_but {B r g : Nat} {w W : World} (h : But g w W) : RG B r g w W :=
  ⟨h.os, h.tape, h.output, h.size, fun k o hk _ hg _ => (h.block k (Array.getElem?_eq_some_iff.1 hk).1 hg).trans hk⟩
theorem RG.of_butr {B r g : Nat} {w W : World} (h : But r w W) : RG B r g w W :=
  ⟨h.os, h.tape, h.output, h.size, fun k o hk hr _ _ => (h.block k (Array.getElem?_eq_some_iff.1 hk).1 hr).trans hk⟩
def duD (dk : Dk) (l : List Nat) : Dk := { dk with dur := l, vis := putL l dk.pend }
theorem RAt.dured {w V W : World} {B r gs cs : Nat} {dk : Dk} {pl : Value} {l l' : List Nat} (h : RAt w B r (duD dk l) gs cs pl) (hV : Below w.heap.size w V) (hl : l'.length = l.length) (hlt : ∀ x ∈ l', x < 256) (ho : W.ownsRow B 5 1 (.slice (some ⟨gs, 0, none⟩) l.length cs) l.length (bv l')) (hb : But gs V W) :
    RAt W B r (duD dk l') gs cs pl := by
  have k := h.keep hV
  obtain ⟨ds, hd⟩ := own_block k.sure (g := gs) rfl
  refine ⟨?_, ?_, ?_, k.hr, rfl, hlt, ?_, ?_, ?_, k.left, k.few⟩
  · have := (hb.block r k.lt_r (cells_ne k.blk hd (by decide))).trans k.blk
    show W.heap[r]? = some (.cells #[.slice (some ⟨gs, 0, none⟩) l'.length cs, _, _, _] _ _)
    rw [hl]
    exact this
  · show W.ownsRow B _ 1 (.slice (some ⟨gs, 0, none⟩) l'.length cs) l'.length (bv l')
    rw [hl]
    exact ho
  · exact own_keep k.pend fun g hg => by
      obtain ⟨cs2, hc⟩ := own_block k.pend hg
      exact hb.block g (k.pend.lt g hg).2 (cells_ne hc hd (by decide))
  · show 1 ≤ l'.length; rw [hl]; exact k.pos
  · show l'.length ≤ 4194304; rw [hl]; exact k.small
  · intro p hp; show p.1 + p.2.size ≤ l'.length; rw [hl]; exact k.fit p hp
theorem own_cell2 {w : World} {base g n cap : Nat} {e : TypeId} {xs : List Value} (h : w.ownsRow base e 2 (.slice (some ⟨g, 0, none⟩) n cap) n xs) {k : Nat} {u : Value} (hk : xs[k]? = some u) : w.cell? ⟨g, k, none⟩ = some u := by
  have := h.cells (g := g) rfl k u hk
  cases k <;> simpa [Addr.add] using this
theorem extract_all (s : ByteArray) (m : Nat) (h : s.size ≤ m) : s.extract 0 (min m s.size) = s := by
  apply bl_inj
  rw [bl_extract, List.drop_zero, List.take_of_length_le (by rw [bl_length]; omega)]
set_option maxRecDepth 100000 in
set_option maxHeartbeats 16000000 in
theorem refcrash_calls {w : World} {B r : Nat} {Z : Nat → Prop} {dk : Dk} (h : RefAt w B r Z dk) (bk o n c : Nat) (A : Option Addr) (xs : List Int) (hn : xs.length = n) (hs : n ≤ 1000000) (hA : 0 < n → A = some ⟨bk, o, none⟩) (hbk : bk < w.heap.size) (hR : intR xs bk o w)
    (torn : Int) (ht : -9223372036854775808 ≤ torn ∧ torn ≤ 9223372036854775807) :
    Calls Tryz.prog 67 #[.pointer (some ⟨r, 0, none⟩), .slice A n c, .int .i64 torn] w fun e w' => e = .returned (.tuple #[]) ∧ RefAt w' B r Z (dk.crash xs torn) ∧ ∃ gs, B ≤ gs ∧ ¬ Z gs ∧ (∃ ds f, w.heap[gs]? = some (.cells ds 5 f)) ∧ RG B r gs w w' := by
  obtain ⟨gs, cs, pl, h, hz⟩ := h
  obtain ⟨i0, hi0, hz0, hz1, hz2⟩ := info_parts infoC
  obtain ⟨N, hN⟩ : ∃ N, dk.pend.length = N := ⟨_, rfl⟩
  have hfew := h.few
  rw [hN] at hfew
  have c1 := h.cell1
  obtain ⟨pA, pc, hpl⟩ := own_form h.pend
  rw [hN] at hpl
  rw [hpl] at c1
  have hBw : B ≤ w.heap.size := Nat.le_trans h.hr (Nat.le_of_lt h.lt_r)
  go_enter Tryz.func67, Tryz.ntmps67
  go_wp2_with fail
  go_loopw [6, 7] (fun v6 v7 wr => ∃ i : Nat, v7 = .int .i64 (i : Int) ∧ i ≤ N ∧ wr.ownsRow w.heap.size 100 2 v6 (pk dk.pend xs i).length (pcells (pk dk.pend xs i)) ∧ Below w.heap.size w wr) (fun _ v _ => N - (intOf v).toNat)
  case atStart => exact ⟨0, rfl, Nat.zero_le _, World.ownsRow_nil _ _ _ _, Below.refl _ _⟩
  case round =>
    obtain ⟨i, rfl, hi, hown, hb⟩ := hrel
    have hk := h.keep hb
    have c1r := hk.cell1
    rw [hpl] at c1r
    clear c1
    by_cases h1 : i < N
    · have x1 : ((i : Int) < (N : Int)) = True := eq_true (by omega)
      have x2 : decide ((i : Int) < (N : Int)) = true := decide_eq_true (by omega)
      have x3 : (i < N) = True := eq_true h1
      have hn1 : IntKind.i64.wrap ((i : Int) + 1) = ((i + 1 : Nat) : Int) := by rw [IntKind.wrap_i64]; omega
      have hRr : intR xs bk o wr := hR.block (hb.block _ hbk)
      have hH := refhas_calls wr A n c xs bk o hn hs hA hRr (i : Int)
      obtain ⟨p, hp⟩ : ∃ p, dk.pend[i]? = some p := ⟨_, List.getElem?_eq_getElem (by omega)⟩
      cases hcon : xs.contains (i : Int) with
      | true =>
        have hH := hH true hcon
        have hpend := hk.pend
        rw [hN, hpl] at hpend
        obtain ⟨g, rfl⟩ : ∃ g, pA = some ⟨g, 0, none⟩ := by
          rcases id hpend.2 with ⟨_, h0⟩ | ⟨g, cap, cur, hv, _⟩
          · omega
          · injection hv with e; exact ⟨g, e⟩
        obtain ⟨pq0, pq1⟩ := pcells_get dk.pend i p hp
        have q0 := own_cell2 hpend pq0
        have q1 := own_cell2 hpend pq1
        have HY := Lib.hid (pk_yes (P := dk.pend) hcon hp)
        have hpk := pk_len dk.pend xs i
        obtain ⟨vA, vc, rfl⟩ := own_form hown
        have kA := below_alloc (Below.refl wr.heap.size wr) (.cells #[.int .i64 (p.1 : Int), .string p.2] 100)
        have hownA := hown.alloc (.cells #[.int .i64 (p.1 : Int), .string p.2] 100)
        have N2 := World.news_of_block (cs := #[.int .i64 (p.1 : Int), .string p.2]) (t := 100) (fr := (0, 0)) (heap_alloc_new wr (.cells #[.int .i64 (p.1 : Int), .string p.2] 100))
        have hB : w.heap.size ≤ (wr.alloc (.cells #[.int .i64 (p.1 : Int), .string p.2] 100)).heap.size := Nat.le_trans hb.size kA.size
        clear hcon hRr hpend pq0 pq1 hp
        generalize hPK : pk dk.pend xs i = PK at *
        go_wp2_with (first
          | (at_builtin; refine wpList_append_own (P := Tryz.prog) _ rfl (.tmp 22) (.tmp 30) 65 rfl w.heap.size 100 i0 _ 2 24 Tryz.underlying65 hi0 hz0 hz1 hz2 rfl (by decide) (.slice vA PK.length vc) _ _ rfl hownA ⟨wr.heap.size, 0, none⟩ 1 1 [.int .i64 (p.1 : Int), .string p.2] rfl rfl N2 (by intro u hu; simp at hu; rcases hu with rfl | rfl <;> rfl) (by unfold maxLen; omega) (by omega) hB ?_
             intro v0 W2 hown2 hgr _
             obtain ⟨g2, cap2, hv2⟩ : ∃ g2 cap2, v0 = .slice (some ⟨g2, 0, none⟩) (PK.length + 1) cap2 := by
               rcases id hown2.2 with ⟨_, h0⟩ | ⟨g2, cap2, cur, hv, _, _, _⟩
               · exact absurd h0 (by omega)
               · exact ⟨g2, cap2, hv⟩
             subst hv2)
          | (go_at_call 93; refine hH.mono ?_; rintro e w2 ⟨rfl, hw2⟩; obtain rfl : wr = w2 := hw2.symm))
        go_roundw
        case rel => exact ⟨i + 1, by simp, by omega, by rw [HY.out, pcells_snoc2, List.length_append]; exact hown2, (hb.trans (kA.mono hb.size)).grown hgr hB (fun k hk => own_base hownA k hk)⟩
        case measure => simp [intOf]; omega
      | false =>
        have hH := hH false hcon
        have HN := Lib.hid (pk_no (P := dk.pend) hcon)
        clear hcon hRr
        go_wp2_with (go_at_call 93; refine hH.mono ?_; rintro e w2 ⟨rfl, hw2⟩; obtain rfl : wr = w2 := hw2.symm)
        go_roundw
        case rel => exact ⟨i + 1, by simp, by omega, by rw [HN.out]; exact hown, hb⟩
        case measure => simp [intOf]; omega
    · have hiN : i = N := by omega
      subst hiN
      have x1 : ((i : Int) < (i : Int)) = False := eq_false (by omega)
      have x2 : decide ((i : Int) < (i : Int)) = false := decide_eq_false (by omega)
      obtain ⟨L, hL⟩ : ∃ L, pk dk.pend xs i = L := ⟨_, rfl⟩
      have hLl := pk_len dk.pend xs i
      rw [hL] at hown hLl
      obtain ⟨k, hk0⟩ : ∃ k, L.length = k := ⟨_, rfl⟩
      have hcr : dk.crash xs torn = { off := false, left := 0, dur := Dk.applyL torn dk.dur L [], vis := Dk.applyL torn dk.dur L [], pend := [] } := by
        unfold Dk.crash
        rw [hN]
        have : (Dk.order i xs).filterMap (fun j => dk.pend[j]?) = L := hL
        rw [this]
      have hL2 : ∀ p ∈ L, p.1 + p.2.size ≤ dk.dur.length := fun p hp => by
        rw [← hL] at hp
        unfold pk at hp
        rw [List.mem_filterMap] at hp
        obtain ⟨j, _, hj⟩ := hp
        exact h.fit p (List.mem_of_getElem? hj)
      have hlt0 := h.lt
      obtain ⟨st, hst⟩ : ∃ st : Nat → List Nat, st = fun i => if i < k then putL dk.dur (L.take i) else Dk.applyL torn dk.dur L [] := ⟨_, rfl⟩
      have st0 : st 0 = dk.dur := by
        rw [hst]
        by_cases h0 : 0 < k
        · simp [h0, putL]
        · have : L = [] := List.eq_nil_of_length_eq_zero (by omega)
          simp [h0, this, Dk.applyL]
      have st1 : ∀ i, i < k → ∃ p, L[i]? = some p ∧ (st i).length = dk.dur.length ∧ (∀ x ∈ st i, x < 256) ∧ p.1 + p.2.size ≤ dk.dur.length ∧ st (i + 1) = splice (st i) p.1 (bl (tornS (decide (i + 1 = k)) torn p.2)) := by
        intro i hi
        obtain ⟨p, hp⟩ : ∃ p, L[i]? = some p := ⟨_, List.getElem?_eq_getElem (by omega)⟩
        have hpm := hL2 p (List.mem_of_getElem? hp)
        obtain ⟨q1, q2⟩ := putL_ok (L.take i) dk.dur (fun q hq => hL2 q (List.mem_of_mem_take hq)) hlt0
        have hsi : st i = putL dk.dur (L.take i) := by rw [hst]; simp [hi]
        have htk : L.take (i + 1) = L.take i ++ [p] := by rw [List.take_add_one, hp]; rfl
        refine ⟨p, hp, by rw [hsi]; exact q1, by rw [hsi]; exact q2, hpm, ?_⟩
        rw [hsi]
        by_cases hl : i + 1 = k
        · have e : st (i + 1) = Dk.applyL torn dk.dur L [] := by rw [hst]; simp [hl]
          rw [e, decide_eq_true hl]
          have hLs : L = L.take i ++ [p] := by rw [← htk, List.take_of_length_le (by omega)]
          conv => lhs; rw [hLs]
          exact apply_snoc torn (L.take i) p dk.dur
        · have e : st (i + 1) = putL dk.dur (L.take (i + 1)) := by rw [hst]; simp [show i + 1 < k by omega]
          rw [e, htk, putL_snoc, decide_eq_false hl]
          unfold tornS
          rw [if_neg (by simp)]
      have stk : st k = Dk.applyL torn dk.dur L [] := by rw [hst]; simp
      have stl : ∀ i, i ≤ k → (st i).length = dk.dur.length ∧ ∀ x ∈ st i, x < 256 := by
        intro i
        induction i with
        | zero => intro _; rw [st0]; exact ⟨rfl, hlt0⟩
        | succ i ih =>
          intro hi
          obtain ⟨p, hp, s1, s2, s3, s4⟩ := st1 i (by omega)
          have hts := tornS_size (decide (i + 1 = k)) torn p.2
          rw [s4]
          exact ⟨by rw [splice_ok (by omega)]; exact s1, splice_lt s2 (bl_lt _)⟩
      clear hst
      obtain ⟨N0, hN0⟩ : ∃ N0, dk.dur.length = N0 := ⟨_, rfl⟩
      have hsm := h.small
      have hBg : B ≤ gs := own_base h.sure gs rfl
      have hgt : ∃ ds f, w.heap[gs]? = some (.cells ds 5 f) := let ⟨ds, hd⟩ := own_block h.sure (g := gs) rfl; ⟨ds, _, hd⟩
      have hR0 : RAt wr B r (duD dk (st 0)) gs cs pl := by
        rw [st0]
        have := hk
        have e : duD dk dk.dur = dk := by unfold duD; rw [← h.vis]
        rw [e]
        exact hk
      rw [hk0] at hown
      obtain ⟨vA, vc, rfl⟩ := own_form hown
      have STL := Lib.hid stl
      have ST1 := Lib.hid st1
      have HCR := Lib.hid hcr
      clear stl st1 hcr hL2 hL
      go_wp2_with fail
      go_loopw [8, 9] (fun v8 v9 wz => ∃ i2 : Nat, v8 = .int .i64 (i2 : Int) ∧ i2 ≤ k ∧ RAt wz B r (duD dk (st i2)) gs cs pl ∧ wz.ownsRow w.heap.size 100 2 (.slice vA k vc) k (pcells L) ∧ RG B r gs w wz) (fun v _ _ => k - (intOf v).toNat)
      case atStart => exact ⟨0, rfl, Nat.zero_le _, hR0, hown, RG.of_below hb⟩
      case round =>
        clear hown hR0 hb hk c1r
        obtain ⟨i2, rfl, hi2, h6, hown, o6⟩ := hrel
        by_cases h2 : i2 < k
        · have y1 : ((i2 : Int) < (k : Int)) = True := eq_true (by omega)
          have y2 : decide ((i2 : Int) < (k : Int)) = true := decide_eq_true (by omega)
          have y3 : (i2 < k) = True := eq_true h2
          have hn1 : IntKind.i64.wrap ((i2 : Int) + 1) = ((i2 + 1 : Nat) : Int) := by rw [IntKind.wrap_i64]; omega
          obtain ⟨p, hp, s1, s2, s3, s4⟩ := ST1.out i2 h2
          obtain ⟨s5, s6⟩ := STL.out (i2 + 1) (by omega)
          obtain ⟨g, rfl⟩ : ∃ g, vA = some ⟨g, 0, none⟩ := by
            rcases id hown.2 with ⟨_, h0⟩ | ⟨g, cap, cur, hv, _⟩
            · omega
            · injection hv with e; exact ⟨g, e⟩
          obtain ⟨pq0, pq1⟩ := pcells_get L i2 p hp
          have q0 := own_cell2 hown pq0
          have q1 := own_cell2 hown pq1
          have sl1 : (st i2).length = N0 := by rw [s1]; exact hN0
          have c0 : wr.cell? ⟨r, 0, none⟩ = some (.slice (some ⟨gs, 0, none⟩) N0 cs) := by have := h6.cell0; rw [show (duD dk (st i2)).dur.length = N0 from sl1] at this; exact this
          have sure6 : wr.ownsRow B 5 1 (.slice (some ⟨gs, 0, none⟩) N0 cs) N0 (bv (st i2)) := by have := h6.sure; rw [show (duD dk (st i2)).dur.length = N0 from sl1] at this; exact this
          have hgr : g < wr.heap.size := (hown.lt g rfl).2
          obtain ⟨dg, hdg⟩ := own_block hown (g := g) rfl
          obtain ⟨ds, hds⟩ := own_block sure6 (g := gs) rfl
          have at0 : ∀ V, Below wr.heap.size wr V → V.cell? ⟨r, 0, none⟩ = some (.slice (some ⟨gs, 0, none⟩) N0 cs) := fun V hV => (hV.cell (p := ⟨r, 0, none⟩) h6.lt_r).trans c0
          have at1 : ∀ V, Below wr.heap.size wr V → V.cell? ⟨g, i2 * 2, none⟩ = some (.int .i64 (p.1 : Int)) := fun V hV => (hV.cell (p := ⟨g, i2 * 2, none⟩) hgr).trans q0
          have sure0 : ∀ V, Below wr.heap.size wr V → V.ownsRow B 5 1 (.slice (some ⟨gs, 0, none⟩) N0 cs) N0 (bv (st i2)) := fun V hV => own_keep sure6 fun g hg => hV.block g (sure6.lt g hg).2
          have kc : ∀ (V0 V : World) (a j : Nat) (cs' : Array Value) (t' : TypeId) (v : Value), Below wr.heap.size wr V0 → But gs V0 V → wr.heap[a]? = some (.cells cs' t' (0, 0)) → t' ≠ 5 → V0.cell? ⟨a, j, none⟩ = some v → V.cell? ⟨a, j, none⟩ = some v := fun V0 V a j cs' t' v hV hbt ha ht hc => by
            have hl := (Array.getElem?_eq_some_iff.1 ha).1
            have := hbt.block a (Nat.lt_of_lt_of_le hl hV.size) (cells_ne ha hds ht)
            rw [World.cell?_of_block (w := V0) (by exact this)]
            exact hc
          have keep0 : ∀ V0 V, Below wr.heap.size wr V0 → But gs V0 V → V.cell? ⟨r, 0, none⟩ = some (.slice (some ⟨gs, 0, none⟩) N0 cs) := fun V0 V hV hbt => kc V0 V r 0 _ _ _ hV hbt h6.blk (by decide) (at0 V0 hV)
          have keep1 : ∀ V0 V, Below wr.heap.size wr V0 → But gs V0 V → V.cell? ⟨g, i2 * 2, none⟩ = some (.int .i64 (p.1 : Int)) := fun V0 V hV hbt => kc V0 V g _ _ _ _ hV hbt hdg (by decide) (at1 V0 hV)
          have stepH := Lib.hid (show ∀ s, s = tornS (decide (i2 + 1 = k)) torn p.2 → ∀ V0 W7, Below wr.heap.size wr V0 → W7.ownsRow B 5 1 (.slice (some ⟨gs, 0, none⟩) N0 cs) N0 (bv (splice (st i2) p.1 (bl s))) → But gs V0 W7 → RAt W7 B r (duD dk (st (i2 + 1))) gs cs pl ∧ W7.ownsRow w.heap.size 100 2 (.slice (some ⟨g, 0, none⟩) k vc) k (pcells L) ∧ RG B r gs w W7 from by
            rintro s rfl V0 W7 hV ho hbt
            rw [← s4] at ho
            refine ⟨h6.dured hV (by rw [s5, s1]) s6 (by rw [sl1]; exact ho) hbt, ?_, (o6.trans (RG.of_below hV)).trans (RG.of_but hbt)⟩
            have ho2 : V0.ownsRow w.heap.size 100 2 (.slice (some ⟨g, 0, none⟩) k vc) k (pcells L) := own_keep hown fun g hg => hV.block g (hown.lt g hg).2
            exact own_keep ho2 fun g2 hg2 => by
              have : g = g2 := by simpa [Value.ownBlock] using hg2
              subst this
              exact hbt.block g (Nat.lt_of_lt_of_le hgr hV.size) (cells_ne hdg hds (by decide)))
          have k1 : IntKind.i64.wrap ((k : Int) - 1) = ((k - 1 : Nat) : Int) := by rw [IntKind.wrap_i64]; omega
          clear kc s4 s5 s6 pq0 pq1 hp
          by_cases hla : i2 + 1 = k
          · have z1 : ((i2 : Int) == ((k - 1 : Nat) : Int)) = true := beq_iff_eq.mpr (by omega)
            have z2 : ((i2 : Int) = ((k - 1 : Nat) : Int)) = True := eq_true (by omega)
            by_cases htn : torn < 0
            · have w1 : decide ((0 : Int) ≤ torn) = false := decide_eq_false (by omega)
              have w2 : ((0 : Int) ≤ torn) = False := eq_false (by omega)
              have hts := Lib.hid (show p.2 = tornS (decide (i2 + 1 = k)) torn p.2 from by unfold tornS; rw [if_neg (by omega)])
              go_upto_region 12 with (fail)
              refine Sha.norm_wp ?_
              refine rcr_r12 _ wr _ _ _ _ _ _ _ _ _ _ _ _ _ _ _ _ _ _ _ _ _ _ _ _ _ _ _ _ _ _ _ _ _ _ _ _ _ _ _ _ _ _ _ _ _ _ _ _ _ _ _ _ _ _ _ _ _ _ _ _ _ _ _ _ _ _ _ _ _ _ _ _ _ _ _ _ _ r g k vc i2 gs N0 cs p.1 p.2 (fun V => Below wr.heap.size wr V) (fun V => ∃ V0, Below wr.heap.size wr V0 ∧ V.ownsRow B 5 1 (.slice (some ⟨gs, 0, none⟩) N0 cs) N0 (bv (splice (st i2) p.1 (bl p.2))) ∧ But gs V0 V) y1 y3
                (below_drew1 (Below.refl _ _)) (fun V hV => ⟨at0 V hV, at1 V hV⟩)
                (fun V hV => (apply_calls V B gs N0 cs p.1 p.2 (st i2) (sure0 V hV) sl1 (by omega) (by omega)).mono fun e w' ⟨e1, e2, e3⟩ => ⟨e1, V, hV, e2, e3⟩) (fun V ⟨V0, hV, ho, hbt⟩ => ⟨keep0 V0 V hV hbt, keep1 V0 V hV hbt⟩) ?_
              intro y61 y62 y63 y64 y65 y66 y67 y68 y69 y70 y71 W7 ⟨V0, hV, ho, hbt⟩
              have S7 := stepH.out p.2 (by exact hts.out) V0 W7 hV ho hbt
              clear stepH
              go_wp2_with fail
              go_roundw
              case rel => exact ⟨i2 + 1, (by first | (simp; done) | (congr 1; omega)), by omega, S7.1, S7.2.1, S7.2.2⟩
              case measure => simp [intOf]; omega
            · obtain ⟨m, rfl⟩ : ∃ m : Nat, torn = (m : Int) := ⟨torn.toNat, by omega⟩
              have w1 : decide ((0 : Int) ≤ (m : Int)) = true := decide_eq_true (by omega)
              have w2 : ((0 : Int) ≤ (m : Int)) = True := eq_true (by omega)
              by_cases hms : m < p.2.size
              · have u1 : decide ((m : Int) < (p.2.size : Int)) = true := decide_eq_true (by omega)
                have u2 : ((m : Int) < (p.2.size : Int)) = True := eq_true (by omega)
                have u3 : (m < p.2.size) = True := eq_true hms
                have u4 : ((m : Int) ≤ (p.2.size : Int)) = True := eq_true (by omega)
                have u5 : (m ≤ p.2.size) = True := eq_true (by omega)
                have hts := Lib.hid (show p.2.extract 0 m = tornS (decide (i2 + 1 = k)) (m : Int) p.2 from by unfold tornS; rw [if_pos ⟨decide_eq_true hla, by omega⟩, Int.toNat_natCast, Nat.min_eq_left (by omega)])
                have hsz : (p.2.extract 0 m).size ≤ p.2.size := by rw [ByteArray.size_extract]; omega
                go_upto_region 12 with (fail)
                refine Sha.norm_wp ?_
                refine rcr_r12 _ wr _ _ _ _ _ _ _ _ _ _ _ _ _ _ _ _ _ _ _ _ _ _ _ _ _ _ _ _ _ _ _ _ _ _ _ _ _ _ _ _ _ _ _ _ _ _ _ _ _ _ _ _ _ _ _ _ _ _ _ _ _ _ _ _ _ _ _ _ _ _ _ _ _ _ _ _ _ r g k vc i2 gs N0 cs p.1 (p.2.extract 0 m) (fun V => Below wr.heap.size wr V) (fun V => ∃ V0, Below wr.heap.size wr V0 ∧ V.ownsRow B 5 1 (.slice (some ⟨gs, 0, none⟩) N0 cs) N0 (bv (splice (st i2) p.1 (bl (p.2.extract 0 m)))) ∧ But gs V0 V) y1 y3
                  (below_drew1 (Below.refl _ _)) (fun V hV => ⟨at0 V hV, at1 V hV⟩)
                  (fun V hV => (apply_calls V B gs N0 cs p.1 (p.2.extract 0 m) (st i2) (sure0 V hV) sl1 (by omega) (by omega)).mono fun e w' ⟨e1, e2, e3⟩ => ⟨e1, V, hV, e2, e3⟩) (fun V ⟨V0, hV, ho, hbt⟩ => ⟨keep0 V0 V hV hbt, keep1 V0 V hV hbt⟩) ?_
                intro y61 y62 y63 y64 y65 y66 y67 y68 y69 y70 y71 W7 ⟨V0, hV, ho, hbt⟩
                have S7 := stepH.out (p.2.extract 0 m) (by exact hts.out) V0 W7 hV ho hbt
                clear stepH
                go_wp2_with fail
                go_roundw
                case rel => exact ⟨i2 + 1, (by first | (simp; done) | (congr 1; omega)), by omega, S7.1, S7.2.1, S7.2.2⟩
                case measure => simp [intOf]; omega
              · have u1 : decide ((m : Int) < (p.2.size : Int)) = false := decide_eq_false (by omega)
                have u2 : ((m : Int) < (p.2.size : Int)) = False := eq_false (by omega)
                have hts := Lib.hid (show p.2 = tornS (decide (i2 + 1 = k)) (m : Int) p.2 from by unfold tornS; rw [if_pos ⟨decide_eq_true hla, by omega⟩, Int.toNat_natCast, extract_all _ _ (by omega)])
                go_upto_region 12 with (fail)
                refine Sha.norm_wp ?_
                refine rcr_r12 _ wr _ _ _ _ _ _ _ _ _ _ _ _ _ _ _ _ _ _ _ _ _ _ _ _ _ _ _ _ _ _ _ _ _ _ _ _ _ _ _ _ _ _ _ _ _ _ _ _ _ _ _ _ _ _ _ _ _ _ _ _ _ _ _ _ _ _ _ _ _ _ _ _ _ _ _ _ _ r g k vc i2 gs N0 cs p.1 p.2 (fun V => Below wr.heap.size wr V) (fun V => ∃ V0, Below wr.heap.size wr V0 ∧ V.ownsRow B 5 1 (.slice (some ⟨gs, 0, none⟩) N0 cs) N0 (bv (splice (st i2) p.1 (bl p.2))) ∧ But gs V0 V) y1 y3
                  (below_drew1 (Below.refl _ _)) (fun V hV => ⟨at0 V hV, at1 V hV⟩)
                  (fun V hV => (apply_calls V B gs N0 cs p.1 p.2 (st i2) (sure0 V hV) sl1 (by omega) (by omega)).mono fun e w' ⟨e1, e2, e3⟩ => ⟨e1, V, hV, e2, e3⟩) (fun V ⟨V0, hV, ho, hbt⟩ => ⟨keep0 V0 V hV hbt, keep1 V0 V hV hbt⟩) ?_
                intro y61 y62 y63 y64 y65 y66 y67 y68 y69 y70 y71 W7 ⟨V0, hV, ho, hbt⟩
                have S7 := stepH.out p.2 (by exact hts.out) V0 W7 hV ho hbt
                clear stepH
                go_wp2_with fail
                go_roundw
                case rel => exact ⟨i2 + 1, (by first | (simp; done) | (congr 1; omega)), by omega, S7.1, S7.2.1, S7.2.2⟩
                case measure => simp [intOf]; omega
          · have z1 : ((i2 : Int) == ((k - 1 : Nat) : Int)) = false := beq_eq_false_iff_ne.mpr (by omega)
            have z2 : ((i2 : Int) = ((k - 1 : Nat) : Int)) = False := eq_false (by omega)
            have hts := Lib.hid (show p.2 = tornS (decide (i2 + 1 = k)) torn p.2 from by unfold tornS; rw [if_neg (fun h => hla (of_decide_eq_true h.1))])
            go_upto_region 12 with (fail)
            refine Sha.norm_wp ?_
            refine rcr_r12 _ wr _ _ _ _ _ _ _ _ _ _ _ _ _ _ _ _ _ _ _ _ _ _ _ _ _ _ _ _ _ _ _ _ _ _ _ _ _ _ _ _ _ _ _ _ _ _ _ _ _ _ _ _ _ _ _ _ _ _ _ _ _ _ _ _ _ _ _ _ _ _ _ _ _ _ _ _ _ r g k vc i2 gs N0 cs p.1 p.2 (fun V => Below wr.heap.size wr V) (fun V => ∃ V0, Below wr.heap.size wr V0 ∧ V.ownsRow B 5 1 (.slice (some ⟨gs, 0, none⟩) N0 cs) N0 (bv (splice (st i2) p.1 (bl p.2))) ∧ But gs V0 V) y1 y3
              (below_drew1 (Below.refl _ _)) (fun V hV => ⟨at0 V hV, at1 V hV⟩)
              (fun V hV => (apply_calls V B gs N0 cs p.1 p.2 (st i2) (sure0 V hV) sl1 (by omega) (by omega)).mono fun e w' ⟨e1, e2, e3⟩ => ⟨e1, V, hV, e2, e3⟩) (fun V ⟨V0, hV, ho, hbt⟩ => ⟨keep0 V0 V hV hbt, keep1 V0 V hV hbt⟩) ?_
            intro y61 y62 y63 y64 y65 y66 y67 y68 y69 y70 y71 W7 ⟨V0, hV, ho, hbt⟩
            have S7 := stepH.out p.2 (by exact hts.out) V0 W7 hV ho hbt
            clear stepH
            go_wp2_with fail
            go_roundw
            case rel => exact ⟨i2 + 1, (by first | (simp; done) | (congr 1; omega)), by omega, S7.1, S7.2.1, S7.2.2⟩
            case measure => simp [intOf]; omega
        · have hik : i2 = k := by omega
          subst hik
          have y1 : ((i2 : Int) < (i2 : Int)) = False := eq_false (by omega)
          have y2 : decide ((i2 : Int) < (i2 : Int)) = false := decide_eq_false (by omega)
          have c1 := h6.cell1
          have c2 := h6.cell2
          have c3 := h6.cell3
          have f1 := h6.frozen 1
          have f2 := h6.frozen 2
          have f3 := h6.frozen 3
          obtain ⟨e1, e2⟩ := STL.out i2 (Nat.le_refl _)
          go_wp2_with fail
          go_end0
          have S1 := set_blk h6.blk (j := 1) (.slice none 0 0)
          have S2 := set_blk S1 (j := 2) (.bool false)
          have S3 := set_blk S2 (j := 3) (.int .i64 0)
          have Bt := ((But.setCell r 1 wr (.slice none 0 0)).trans (But.setCell r 2 _ (.bool false))).trans (But.setCell r 3 _ (.int .i64 0))
          obtain ⟨ds, hds⟩ := own_block h6.sure (g := gs) rfl
          rw [HCR.out, ← stk]
          refine ⟨rfl, ⟨gs, cs, .slice none 0 0, ⟨by simpa [duD] using S3, ?_, World.ownsRow_nil _ _ _ _, h6.hr, rfl, e2, h6.pos, h6.small, (fun p hp => by cases hp), Nat.zero_le _, Nat.zero_le _⟩, hz⟩, gs, hBg, hz, hgt, o6.trans (RG.of_butr Bt)⟩
          exact own_keep h6.sure fun g2 hg2 => by
            have : gs = g2 := by simpa [Value.ownBlock] using hg2
            subst this
            exact Bt.block gs (h6.sure.lt gs rfl).2 (cells_ne hds h6.blk (by decide))
open Go Go.RowKit Go.Shelf Go.Proofs.YtniegajdmbepbaaGreatDoor.Rf Go.Proofs.YtniegajdmbepbaaGreatDoorW.PrintWords Go.Proofs.YtniegajdmbepbaaGreatDoorW.PrintLast Go.Proofs.YtniegajdmbepbaaGreatDoorW.PrintMore Go.Proofs.YtniegajdmbepbaaGreatDoor.Sha
def do_r3S (wb : Nat) (ob : Nat) (d : Nat) (r : Nat) (n : Int) (V_ : World) : Prop := V_.cell? ⟨wb, 0, none⟩ = some (.pointer (some ⟨d, 0, none⟩)) ∧ V_.cell? ⟨wb, 2, none⟩ = some (.pointer (some ⟨r, 0, none⟩)) ∧ V_.cell? ⟨ob, 2, none⟩ = some (.int .i64 n)
def doT.T3 : Bool × List (List Nat × List Nat) := (true, [([], []), ([0], [0]), ([1], [1]), ([2], [2]), ([], []), ([4], [4]), ([5], [5]), ([6], [6]), ([3, 7, 6], [3, 7]), ([], []), ([9], [9]), ([10], [10]), ([11], [11]), ([], []), ([13], [13]), ([14, 8], [14]), ([15], [15]), ([12, 16, 15], [12, 16]), ([8, 17], [8, 17]), ([18, 17, 0, 1, 2, 3, 4, 5, 6, 7, 8, 9, 10, 11, 12, 13, 14, 15, 16, 17, 18], [18])])
def doT.B3 : List Nat := [0, 1, 3, 7, 0, 16, 48, 112, 255, 0, 512, 1536, 3584, 0, 8192, 25087, 57855, 131071, 262143, 524287]
theorem doT.tab3 : rtab .any (opsOf Tryz.f31 3) = doT.T3 := by kernel_rfl
theorem doT.bits3 : waitsOk doT.T3.2 doT.B3 = true := by kernel_rfl
noncomputable def doR3 : Code := ((Tryz.f31.body.bind (regionOf 3)).getD .skip)
set_option maxHeartbeats 8000000 in
set_option maxRecDepth 100000 in
theorem do_r3 (R : Act → World → Prop) (W : World) (v1 v2 v4 v5 v6 v7 v8 v9 v10 v11 v12 v13 v14 v15 v16 v17 v18 v19 v20 v21 v22 v23 v24 v25 v26 v27 v28 v29 v30 v31 v32 v33 v34 v35 v36 v37 v38 v39 v40 v41 v42 v43 v44 v45 v46 v47 v48 v49 v50 v51 v52 v53 v54 v55 v56 v57 v58 v59 v60 v61 v62 v63 v64 v65 v66 v67 v68 v69 v70 v71 v72 v73 v74 v75 v76 v77 v78 v79 v80 v81 v82 v83 v84 v85 v86 v87 v88 v89 v90 v91 : Value) (wb ob d r k k1 : Nat) (n x : Int) (P0 : World → Prop) (P6 : World → Prop) (P8 : World → Prop) (P15 : World → Prop) (P17 : World → Prop)
  (hw : IntKind.i64.wrap (1 + (k : Int)) = (k1 : Int)) (hw2 : wrap64 (1 + (k : Int)) = (k1 : Int))
  (hP0 : P0 W.drew)
  (hS0 : ∀ V, P0 V → do_r3S wb ob d r n V)
  (hc6 : ∀ V, P0 V → Calls Tryz.prog 14 #[.int .i64 n, .int .i64 5] V fun e w' => e = .returned (.int .i64 (k : Int)) ∧ P6 w')
  (hS6 : ∀ V, P6 V → do_r3S wb ob d r n V)
  (hc8 : ∀ V, P6 V → Calls Tryz.prog 29 #[.pointer (some ⟨d, 0, none⟩), .int .i64 (k1 : Int)] V fun e w' => e = .returned (.int .i64 x) ∧ P8 w')
  (hS8 : ∀ V, P8 V → do_r3S wb ob d r n V)
  (hc15 : ∀ V, P8 V → Calls Tryz.prog 14 #[.int .i64 n, .int .i64 5] V fun e w' => e = .returned (.int .i64 (k : Int)) ∧ P15 w')
  (hS15 : ∀ V, P15 V → do_r3S wb ob d r n V)
  (hc17 : ∀ V, P15 V → Calls Tryz.prog 66 #[.pointer (some ⟨r, 0, none⟩), .int .i64 (k1 : Int)] V fun e w' => e = .returned (.int .i64 x) ∧ P17 w')
  (hS17 : ∀ V, P17 V → do_r3S wb ob d r n V)
  (hQ : ∀ (z11 z12 z13 z14 z15 z16 z17 z18 z19 z20 z21 z22 z23 z24 z25 z26 z27 z28 z29 : Value) (W' : World), P17 W' → R ⟨#[Value.pointer (some ⟨wb, 0, none⟩), v1, v2, Value.pointer (some ⟨ob, 0, none⟩), Value.bool true, v5, v6, v7, v8, v9, v10, z11, z12, z13, z14, z15, z16, z17, z18, z19, z20, z21, z22, z23, z24, z25, z26, z27, z28, z29, v30, v31, v32, v33, v34, v35, v36, v37, v38, v39, v40, v41, v42, v43, v44, v45, v46, v47, v48, v49, v50, v51, v52, v53, v54, v55, v56, v57, v58, v59, v60, v61, v62, v63, v64, v65, v66, v67, v68, v69, v70, v71, v72, v73, v74, v75, v76, v77, v78, v79, v80, v81, v82, v83, v84, v85, v86, v87, v88, v89, v90, v91], []⟩ W') :
  doR3.wp Tryz.prog (Norm R) ⟨#[Value.pointer (some ⟨wb, 0, none⟩), v1, v2, Value.pointer (some ⟨ob, 0, none⟩), v4, v5, v6, v7, v8, v9, v10, v11, v12, v13, v14, v15, v16, v17, v18, v19, v20, v21, v22, v23, v24, v25, v26, v27, v28, v29, v30, v31, v32, v33, v34, v35, v36, v37, v38, v39, v40, v41, v42, v43, v44, v45, v46, v47, v48, v49, v50, v51, v52, v53, v54, v55, v56, v57, v58, v59, v60, v61, v62, v63, v64, v65, v66, v67, v68, v69, v70, v71, v72, v73, v74, v75, v76, v77, v78, v79, v80, v81, v82, v83, v84, v85, v86, v87, v88, v89, v90, v91], []⟩ W := by
 unfold doR3
 conv => arg 2; whnf
 refine start_ (n := 20) (S := (do_r3S wb ob d r n)) (ds := []) (Sx14.b 20 0) (by kernel_rfl) rfl rfl (hS0 _ hP0) (fun hHeld => ?_); refine with_tabW doT.tab3 doT.bits3 (fun HT_ HW_ => ?_)
 have hP0_ := hP0
 clear hP0
 generalize W.drew = w0_ at hHeld hP0_ ⊢
 refine Sx14.p (i := 0) (N := some 11) HT_.out (Sx14.b 20 1) ?_
 refine Sx14.p (i := 1) (N := some 12) HT_.out (Sx14.b 20 3) ?_
 refine Sx14.p (i := 2) (N := some 13) HT_.out (Sx14.b 20 7) ?_
 refine Sx14.p (i := 4) (N := some 15) HT_.out (Sx14.b 20 23) ?_
 refine Sx14.p (i := 9) (N := some 20) HT_.out (Sx14.b 20 535) ?_
 refine Sx14.p (i := 10) (N := some 21) HT_.out (Sx14.b 20 1559) ?_
 refine Sx14.p (i := 11) (N := some 22) HT_.out (Sx14.b 20 3607) ?_
 refine Sx14.p (i := 13) (N := some 24) HT_.out (Sx14.b 20 11799) ?_
 refine take_ (i := 3) (N := some 14) (v := ?_) (a' := ?_) (Sx14.b 20 11807) rfl rfl (take_ofW HT_.out HW_.out (by kernel_rfl)) (fun _ _ _ h => h) (Or.inl ⟨by rfl, ?_⟩) hHeld ?_ ?_
 rotate_left
 ·intro w' hS_
  obtain ⟨q0, q2, p2⟩ := hS_
  go_simp
  with_reducible rfl
 rotate_left
 ·simp only [Act.put, Sx14.u, Sx14.v, Sx14.w, i64_w, i32_w]
  rfl
 refine take_ (i := 5) (N := some 16) (v := ?_) (a' := ?_) (Sx14.b 20 11839) rfl rfl (take_ofW HT_.out HW_.out (by kernel_rfl)) (fun _ _ _ h => h) (Or.inl ⟨by rfl, ?_⟩) hHeld ?_ ?_
 rotate_left
 ·intro w' hS_
  obtain ⟨q0, q2, p2⟩ := hS_
  go_simp
  with_reducible rfl
 rotate_left
 ·simp only [Act.put, Sx14.u, Sx14.v, Sx14.w, i64_w, i32_w]
  rfl
 refine take_ (i := 12) (N := some 23) (v := ?_) (a' := ?_) (Sx14.b 20 15935) rfl rfl (take_ofW HT_.out HW_.out (by kernel_rfl)) (fun _ _ _ h => h) (Or.inl ⟨by rfl, ?_⟩) hHeld ?_ ?_
 rotate_left
 ·intro w' hS_
  obtain ⟨q0, q2, p2⟩ := hS_
  go_simp
  with_reducible rfl
 rotate_left
 ·simp only [Act.put, Sx14.u, Sx14.v, Sx14.w, i64_w, i32_w]
  rfl
 refine take_ (i := 14) (N := some 25) (v := ?_) (a' := ?_) (Sx14.b 20 32319) rfl rfl (take_ofW HT_.out HW_.out (by kernel_rfl)) (fun _ _ _ h => h) (Or.inl ⟨by rfl, ?_⟩) hHeld ?_ ?_
 rotate_left
 ·intro w' hS_
  obtain ⟨q0, q2, p2⟩ := hS_
  go_simp
  with_reducible rfl
 rotate_left
 ·simp only [Act.put, Sx14.u, Sx14.v, Sx14.w, i64_w, i32_w]
  rfl
 refine one_ (i := 6) (N := some 17) (Sx14.b 20 32383) rfl rfl (one_of HT_.out (by kernel_rfl)) (by decide) (fun K hK => ?_)
 refine goes_ Tryz.func14 (by kernel_rfl) rfl #[.int .i64 n, .int .i64 5] (by rfl) rfl rfl (by (try simp only [List.map_toArray, List.map_cons, List.map_nil]); first | done | rfl) ?_
 refine (hc6 _ hP0_).mono ?_
 rintro e wc6_ ⟨rfl, hp6_⟩
 refine ⟨_, rfl, ?_⟩
 refine hK.out _ _ (hS6 _ hp6_) (fun hHeld => ?_)
 clear hK K
 refine norm_ (a' := ?_) ?_ ?_
 rotate_left
 ·show Act.put _ (some 17) _ = _
  simp only [Act.put, Sx14.u, Sx14.v, Sx14.w, i64_w, i32_w]
  rfl
 refine Sx14.p (i := 7) (N := some 18) HT_.out (Sx14.b 20 32511) ?_
 refine one_ (i := 8) (N := some 19) (Sx14.b 20 32767) rfl rfl (one_of HT_.out (by kernel_rfl)) (by decide) (fun K hK => ?_)
 refine goes_ Tryz.func29 (by kernel_rfl) rfl #[.pointer (some ⟨d, 0, none⟩), .int .i64 (k1 : Int)] (by rfl) rfl rfl (by (try simp only [List.map_toArray, List.map_cons, List.map_nil]); first | done | rfl) ?_
 refine (hc8 _ hp6_).mono ?_
 rintro e wc8_ ⟨rfl, hp8_⟩
 refine ⟨_, rfl, ?_⟩
 refine hK.out _ _ (hS8 _ hp8_) (fun hHeld => ?_)
 clear hK K
 refine norm_ (a' := ?_) ?_ ?_
 rotate_left
 ·show Act.put _ (some 19) _ = _
  simp only [Act.put, Sx14.u, Sx14.v, Sx14.w, i64_w, i32_w]
  rfl
 refine one_ (i := 15) (N := some 26) (Sx14.b 20 65535) rfl rfl (one_of HT_.out (by kernel_rfl)) (by decide) (fun K hK => ?_)
 refine goes_ Tryz.func14 (by kernel_rfl) rfl #[.int .i64 n, .int .i64 5] (by rfl) rfl rfl (by (try simp only [List.map_toArray, List.map_cons, List.map_nil]); first | done | rfl) ?_
 refine (hc15 _ hp8_).mono ?_
 rintro e wc15_ ⟨rfl, hp15_⟩
 refine ⟨_, rfl, ?_⟩
 refine hK.out _ _ (hS15 _ hp15_) (fun hHeld => ?_)
 clear hK K
 refine norm_ (a' := ?_) ?_ ?_
 rotate_left
 ·show Act.put _ (some 26) _ = _
  simp only [Act.put, Sx14.u, Sx14.v, Sx14.w, i64_w, i32_w]
  rfl
 refine Sx14.p (i := 16) (N := some 27) HT_.out (Sx14.b 20 131071) ?_
 refine one_ (i := 17) (N := some 28) (Sx14.b 20 262143) rfl rfl (one_of HT_.out (by kernel_rfl)) (by decide) (fun K hK => ?_)
 refine goes_ Tryz.func66 (by kernel_rfl) rfl #[.pointer (some ⟨r, 0, none⟩), .int .i64 (k1 : Int)] (by rfl) rfl rfl (by (try simp only [List.map_toArray, List.map_cons, List.map_nil]); first | done | rfl) ?_
 refine (hc17 _ hp15_).mono ?_
 rintro e wc17_ ⟨rfl, hp17_⟩
 refine ⟨_, rfl, ?_⟩
 refine hK.out _ _ (hS17 _ hp17_) (fun hHeld => ?_)
 clear hK K
 refine norm_ (a' := ?_) ?_ ?_
 rotate_left
 ·show Act.put _ (some 28) _ = _
  simp only [Act.put, Sx14.u, Sx14.v, Sx14.w, i64_w, i32_w]
  rfl
 refine Sx14.p (i := 18) (N := some 29) HT_.out (Sx14.b 20 524287) ?_
 refine Sx14.p (i := 19) (N := some 4) HT_.out (Sx14.b 20 1048575) ?_
 refine done_ (done_of HT_.out (by kernel_rfl)) ?_
 exact hQ _ _ _ _ _ _ _ _ _ _ _ _ _ _ _ _ _ _ _ _ hp17_
def do_r6S (wb : Nat) (ob : Nat) (d : Nat) (n : Int) (V_ : World) : Prop := V_.cell? ⟨wb, 0, none⟩ = some (.pointer (some ⟨d, 0, none⟩)) ∧ V_.cell? ⟨ob, 2, none⟩ = some (.int .i64 n)
def doT.T6 : Bool × List (List Nat × List Nat) := (true, [([], []), ([0], [0]), ([1], [1]), ([2], [2]), ([], []), ([], []), ([5], [5]), ([3, 4, 6], [3, 4, 6])])
def doT.B6 : List Nat := [0, 1, 3, 7, 0, 0, 32, 127]
theorem doT.tab6 : rtab .any (opsOf Tryz.f31 6) = doT.T6 := by kernel_rfl
theorem doT.bits6 : waitsOk doT.T6.2 doT.B6 = true := by kernel_rfl
noncomputable def doR6 : Code := ((Tryz.f31.body.bind (regionOf 6)).getD .skip)
set_option maxHeartbeats 8000000 in
set_option maxRecDepth 100000 in
theorem do_r6 (R : Act → World → Prop) (W : World) (v1 v2 v4 v6 v7 v8 v9 v10 v11 v12 v13 v14 v15 v16 v17 v18 v19 v20 v21 v22 v23 v24 v25 v26 v27 v28 v29 v30 v31 v32 v33 v34 v35 v36 v37 v38 v39 v40 v41 v42 v43 v44 v45 v46 v47 v48 v49 v50 v51 v52 v53 v54 v55 v56 v57 v58 v59 v60 v61 v62 v63 v64 v65 v66 v67 v68 v69 v70 v71 v72 v73 v74 v75 v76 v77 v78 v79 v80 v81 v82 v83 v84 v85 v86 v87 v88 v89 v90 v91 : Value) (wb ob d : Nat) (n : Int) (kv : Value) (P0 : World → Prop) (P7 : World → Prop)
  
  (hP0 : P0 W.drew)
  (hS0 : ∀ V, P0 V → do_r6S wb ob d n V)
  (hc7 : ∀ V, P0 V → Calls Tryz.prog 30 #[.pointer (some ⟨d, 0, none⟩), kv, .int .i64 n] V fun e w' => e = .returned (.int .i64 0) ∧ P7 w')
  (hS7 : ∀ V, P7 V → do_r6S wb ob d n V)
  (hQ : ∀ (z39 z40 z41 z42 z43 z44 z45 : Value) (W' : World), P7 W' → R ⟨#[Value.pointer (some ⟨wb, 0, none⟩), v1, v2, Value.pointer (some ⟨ob, 0, none⟩), v4, kv, v6, v7, v8, v9, v10, v11, v12, v13, v14, v15, v16, v17, v18, v19, v20, v21, v22, v23, v24, v25, v26, v27, v28, v29, v30, v31, v32, v33, v34, v35, v36, v37, v38, z39, z40, z41, z42, z43, z44, z45, Value.int .i64 0, v47, v48, v49, v50, v51, v52, v53, v54, v55, v56, v57, v58, v59, v60, v61, v62, v63, v64, v65, v66, v67, v68, v69, v70, v71, v72, v73, v74, v75, v76, v77, v78, v79, v80, v81, v82, v83, v84, v85, v86, v87, v88, v89, v90, v91], []⟩ W') :
  doR6.wp Tryz.prog (Norm R) ⟨#[Value.pointer (some ⟨wb, 0, none⟩), v1, v2, Value.pointer (some ⟨ob, 0, none⟩), v4, kv, v6, v7, v8, v9, v10, v11, v12, v13, v14, v15, v16, v17, v18, v19, v20, v21, v22, v23, v24, v25, v26, v27, v28, v29, v30, v31, v32, v33, v34, v35, v36, v37, v38, v39, v40, v41, v42, v43, v44, v45, v46, v47, v48, v49, v50, v51, v52, v53, v54, v55, v56, v57, v58, v59, v60, v61, v62, v63, v64, v65, v66, v67, v68, v69, v70, v71, v72, v73, v74, v75, v76, v77, v78, v79, v80, v81, v82, v83, v84, v85, v86, v87, v88, v89, v90, v91], []⟩ W := by
 unfold doR6
 conv => arg 2; whnf
 refine start_ (n := 8) (S := (do_r6S wb ob d n)) (ds := []) (Sx14.b 8 0) (by kernel_rfl) rfl rfl (hS0 _ hP0) (fun hHeld => ?_); refine with_tabW doT.tab6 doT.bits6 (fun HT_ HW_ => ?_)
 have hP0_ := hP0
 clear hP0
 generalize W.drew = w0_ at hHeld hP0_ ⊢
 refine Sx14.p (i := 0) (N := some 39) HT_.out (Sx14.b 8 1) ?_
 refine Sx14.p (i := 1) (N := some 40) HT_.out (Sx14.b 8 3) ?_
 refine Sx14.p (i := 2) (N := some 41) HT_.out (Sx14.b 8 7) ?_
 refine Sx14.p (i := 4) (N := some 43) HT_.out (Sx14.b 8 23) ?_
 refine Sx14.p (i := 5) (N := some 44) HT_.out (Sx14.b 8 55) ?_
 refine take_ (i := 3) (N := some 42) (v := ?_) (a' := ?_) (Sx14.b 8 63) rfl rfl (take_ofW HT_.out HW_.out (by kernel_rfl)) (fun _ _ _ h => h) (Or.inl ⟨by rfl, ?_⟩) hHeld ?_ ?_
 rotate_left
 ·intro w' hS_
  obtain ⟨q0, p2⟩ := hS_
  go_simp
  with_reducible rfl
 rotate_left
 ·simp only [Act.put, Sx14.u, Sx14.v, Sx14.w, i64_w, i32_w]
  rfl
 refine take_ (i := 6) (N := some 45) (v := ?_) (a' := ?_) (Sx14.b 8 127) rfl rfl (take_ofW HT_.out HW_.out (by kernel_rfl)) (fun _ _ _ h => h) (Or.inl ⟨by rfl, ?_⟩) hHeld ?_ ?_
 rotate_left
 ·intro w' hS_
  obtain ⟨q0, p2⟩ := hS_
  go_simp
  with_reducible rfl
 rotate_left
 ·simp only [Act.put, Sx14.u, Sx14.v, Sx14.w, i64_w, i32_w]
  rfl
 refine one_ (i := 7) (N := some 46) (Sx14.b 8 255) rfl rfl (one_of HT_.out (by kernel_rfl)) (by decide) (fun K hK => ?_)
 refine goes_ Tryz.func30 (by kernel_rfl) rfl #[.pointer (some ⟨d, 0, none⟩), kv, .int .i64 n] (by rfl) rfl rfl (by (try simp only [List.map_toArray, List.map_cons, List.map_nil]); first | done | rfl) ?_
 refine (hc7 _ hP0_).mono ?_
 rintro e wc7_ ⟨rfl, hp7_⟩
 refine ⟨_, rfl, ?_⟩
 refine hK.out _ _ (hS7 _ hp7_) (fun hHeld => ?_)
 clear hK K
 refine norm_ (a' := ?_) ?_ ?_
 rotate_left
 ·show Act.put _ (some 46) _ = _
  simp only [Act.put, Sx14.u, Sx14.v, Sx14.w, i64_w, i32_w]
  rfl
 refine done_ (done_of HT_.out (by kernel_rfl)) ?_
 exact hQ _ _ _ _ _ _ _ _ hp7_
def do_r7S (wb : Nat) (ob : Nat) (r : Nat) (n : Int) (V_ : World) : Prop := V_.cell? ⟨wb, 2, none⟩ = some (.pointer (some ⟨r, 0, none⟩)) ∧ V_.cell? ⟨ob, 2, none⟩ = some (.int .i64 n)
def doT.T7 : Bool × List (List Nat × List Nat) := (true, [([], []), ([0], [0]), ([1], [1]), ([2], [2]), ([], []), ([], []), ([5], [5]), ([3, 4, 6], [3, 4, 6])])
def doT.B7 : List Nat := [0, 1, 3, 7, 0, 0, 32, 127]
theorem doT.tab7 : rtab .any (opsOf Tryz.f31 7) = doT.T7 := by kernel_rfl
theorem doT.bits7 : waitsOk doT.T7.2 doT.B7 = true := by kernel_rfl
noncomputable def doR7 : Code := ((Tryz.f31.body.bind (regionOf 7)).getD .skip)
set_option maxHeartbeats 8000000 in
set_option maxRecDepth 100000 in
theorem do_r7 (R : Act → World → Prop) (W : World) (v1 v2 v4 v6 v7 v8 v9 v10 v11 v12 v13 v14 v15 v16 v17 v18 v19 v20 v21 v22 v23 v24 v25 v26 v27 v28 v29 v30 v31 v32 v33 v34 v35 v36 v37 v38 v39 v40 v41 v42 v43 v44 v45 v46 v47 v48 v49 v50 v51 v52 v53 v54 v55 v56 v57 v58 v59 v60 v61 v62 v63 v64 v65 v66 v67 v68 v69 v70 v71 v72 v73 v74 v75 v76 v77 v78 v79 v80 v81 v82 v83 v84 v85 v86 v87 v88 v89 v90 v91 : Value) (wb ob r : Nat) (n : Int) (kv : Value) (P0 : World → Prop) (P7 : World → Prop)
  
  (hP0 : P0 W.drew)
  (hS0 : ∀ V, P0 V → do_r7S wb ob r n V)
  (hc7 : ∀ V, P0 V → Calls Tryz.prog 67 #[.pointer (some ⟨r, 0, none⟩), kv, .int .i64 n] V fun e w' => e = .returned (.tuple #[]) ∧ P7 w')
  (hS7 : ∀ V, P7 V → do_r7S wb ob r n V)
  (hQ : ∀ (z47 z48 z49 z50 z51 z52 z53 z54 : Value) (W' : World), P7 W' → R ⟨#[Value.pointer (some ⟨wb, 0, none⟩), v1, v2, Value.pointer (some ⟨ob, 0, none⟩), v4, kv, v6, v7, v8, v9, v10, v11, v12, v13, v14, v15, v16, v17, v18, v19, v20, v21, v22, v23, v24, v25, v26, v27, v28, v29, v30, v31, v32, v33, v34, v35, v36, v37, v38, v39, v40, v41, v42, v43, v44, v45, v46, z47, z48, z49, z50, z51, z52, z53, z54, v55, v56, v57, v58, v59, v60, v61, v62, v63, v64, v65, v66, v67, v68, v69, v70, v71, v72, v73, v74, v75, v76, v77, v78, v79, v80, v81, v82, v83, v84, v85, v86, v87, v88, v89, v90, v91], []⟩ W') :
  doR7.wp Tryz.prog (Norm R) ⟨#[Value.pointer (some ⟨wb, 0, none⟩), v1, v2, Value.pointer (some ⟨ob, 0, none⟩), v4, kv, v6, v7, v8, v9, v10, v11, v12, v13, v14, v15, v16, v17, v18, v19, v20, v21, v22, v23, v24, v25, v26, v27, v28, v29, v30, v31, v32, v33, v34, v35, v36, v37, v38, v39, v40, v41, v42, v43, v44, v45, v46, v47, v48, v49, v50, v51, v52, v53, v54, v55, v56, v57, v58, v59, v60, v61, v62, v63, v64, v65, v66, v67, v68, v69, v70, v71, v72, v73, v74, v75, v76, v77, v78, v79, v80, v81, v82, v83, v84, v85, v86, v87, v88, v89, v90, v91], []⟩ W := by
 unfold doR7
 conv => arg 2; whnf
 refine start_ (n := 8) (S := (do_r7S wb ob r n)) (ds := []) (Sx14.b 8 0) (by kernel_rfl) rfl rfl (hS0 _ hP0) (fun hHeld => ?_); refine with_tabW doT.tab7 doT.bits7 (fun HT_ HW_ => ?_)
 have hP0_ := hP0
 clear hP0
 generalize W.drew = w0_ at hHeld hP0_ ⊢
 refine Sx14.p (i := 0) (N := some 47) HT_.out (Sx14.b 8 1) ?_
 refine Sx14.p (i := 1) (N := some 48) HT_.out (Sx14.b 8 3) ?_
 refine Sx14.p (i := 2) (N := some 49) HT_.out (Sx14.b 8 7) ?_
 refine Sx14.p (i := 4) (N := some 51) HT_.out (Sx14.b 8 23) ?_
 refine Sx14.p (i := 5) (N := some 52) HT_.out (Sx14.b 8 55) ?_
 refine take_ (i := 3) (N := some 50) (v := ?_) (a' := ?_) (Sx14.b 8 63) rfl rfl (take_ofW HT_.out HW_.out (by kernel_rfl)) (fun _ _ _ h => h) (Or.inl ⟨by rfl, ?_⟩) hHeld ?_ ?_
 rotate_left
 ·intro w' hS_
  obtain ⟨q2, p2⟩ := hS_
  go_simp
  with_reducible rfl
 rotate_left
 ·simp only [Act.put, Sx14.u, Sx14.v, Sx14.w, i64_w, i32_w]
  rfl
 refine take_ (i := 6) (N := some 53) (v := ?_) (a' := ?_) (Sx14.b 8 127) rfl rfl (take_ofW HT_.out HW_.out (by kernel_rfl)) (fun _ _ _ h => h) (Or.inl ⟨by rfl, ?_⟩) hHeld ?_ ?_
 rotate_left
 ·intro w' hS_
  obtain ⟨q2, p2⟩ := hS_
  go_simp
  with_reducible rfl
 rotate_left
 ·simp only [Act.put, Sx14.u, Sx14.v, Sx14.w, i64_w, i32_w]
  rfl
 refine one_ (i := 7) (N := some 54) (Sx14.b 8 255) rfl rfl (one_of HT_.out (by kernel_rfl)) (by decide) (fun K hK => ?_)
 refine goes_ Tryz.func67 (by kernel_rfl) rfl #[.pointer (some ⟨r, 0, none⟩), kv, .int .i64 n] (by rfl) rfl rfl (by (try simp only [List.map_toArray, List.map_cons, List.map_nil]); first | done | rfl) ?_
 refine (hc7 _ hP0_).mono ?_
 rintro e wc7_ ⟨rfl, hp7_⟩
 refine ⟨_, rfl, ?_⟩
 refine hK.out _ _ (hS7 _ hp7_) (fun hHeld => ?_)
 clear hK K
 refine norm_ (a' := ?_) ?_ ?_
 rotate_left
 ·show Act.put _ (some 54) _ = _
  simp only [Act.put, Sx14.u, Sx14.v, Sx14.w, i64_w, i32_w]
  rfl
 refine done_ (done_of HT_.out (by kernel_rfl)) ?_
 exact hQ _ _ _ _ _ _ _ _ _ hp7_
def do_r12S (wb : Nat) (ob : Nat) (lv : Value) (V_ : World) : Prop := V_.cell? ⟨wb, 1, none⟩ = some (.pointer none) ∧ V_.cell? ⟨ob, 1, none⟩ = some (lv)
def doT.T12 : Bool × List (List Nat × List Nat) := (true, [([], []), ([0], [0]), ([1], [1]), ([2], [2]), ([], []), ([4], [4]), ([5], [5]), ([3, 6, 6], [3, 6]), ([7], [7]), ([8, 7, 0, 1, 2, 3, 4, 5, 6, 7, 8], [8])])
def doT.B12 : List Nat := [0, 1, 3, 7, 0, 16, 48, 127, 255, 511]
theorem doT.tab12 : rtab .any (opsOf Tryz.f31 12) = doT.T12 := by kernel_rfl
theorem doT.bits12 : waitsOk doT.T12.2 doT.B12 = true := by kernel_rfl
noncomputable def doR12 : Code := ((Tryz.f31.body.bind (regionOf 12)).getD .skip)
set_option maxHeartbeats 8000000 in
set_option maxRecDepth 100000 in
theorem do_r12 (R : Act → World → Prop) (W : World) (v1 v2 v4 v5 v6 v7 v8 v9 v10 v11 v12 v13 v14 v15 v16 v17 v18 v19 v20 v21 v22 v23 v24 v25 v26 v27 v28 v29 v30 v31 v32 v33 v34 v35 v36 v37 v38 v39 v40 v41 v42 v43 v44 v45 v46 v47 v48 v49 v50 v51 v52 v53 v54 v55 v56 v57 v58 v59 v60 v61 v62 v63 v64 v65 v66 v67 v68 v69 v70 v71 v72 v73 v74 v75 v76 v77 v78 v79 v80 v81 v82 v83 v84 v85 v86 v87 v88 v89 v90 v91 : Value) (wb ob : Nat) (lv : Value) (P0 : World → Prop) (P6 : Value → World → Prop) (P7 : World → Prop)
  
  (hP0 : P0 W.drew)
  (hS0 : ∀ V, P0 V → do_r12S wb ob lv V)
  (hc6 : ∀ V, P0 V → Calls Tryz.prog 11 #[lv] V fun e w' => ∃ u1, e = .returned u1 ∧ P6 u1 w')
  (hS6 : ∀ V u1, P6 u1 V → do_r12S wb ob lv V)
  (hc7 : ∀ V u1, P6 u1 V → Calls Tryz.prog 10 #[.pointer none, u1] V fun e w' => e = .returned (.int .i64 1) ∧ P7 w')
  (hS7 : ∀ V, P7 V → do_r12S wb ob lv V)
  (hQ : ∀ (z66 z67 z68 z69 z70 z71 z72 z73 z74 : Value) (W' : World), P7 W' → R ⟨#[Value.pointer (some ⟨wb, 0, none⟩), v1, v2, Value.pointer (some ⟨ob, 0, none⟩), Value.bool true, v5, v6, v7, v8, v9, v10, v11, v12, v13, v14, v15, v16, v17, v18, v19, v20, v21, v22, v23, v24, v25, v26, v27, v28, v29, v30, v31, v32, v33, v34, v35, v36, v37, v38, v39, v40, v41, v42, v43, v44, v45, v46, v47, v48, v49, v50, v51, v52, v53, v54, v55, v56, v57, v58, v59, v60, v61, v62, v63, v64, v65, z66, z67, z68, z69, z70, z71, z72, z73, z74, v75, v76, v77, v78, v79, v80, v81, v82, v83, v84, v85, v86, v87, v88, v89, v90, v91], []⟩ W') :
  doR12.wp Tryz.prog (Norm R) ⟨#[Value.pointer (some ⟨wb, 0, none⟩), v1, v2, Value.pointer (some ⟨ob, 0, none⟩), v4, v5, v6, v7, v8, v9, v10, v11, v12, v13, v14, v15, v16, v17, v18, v19, v20, v21, v22, v23, v24, v25, v26, v27, v28, v29, v30, v31, v32, v33, v34, v35, v36, v37, v38, v39, v40, v41, v42, v43, v44, v45, v46, v47, v48, v49, v50, v51, v52, v53, v54, v55, v56, v57, v58, v59, v60, v61, v62, v63, v64, v65, v66, v67, v68, v69, v70, v71, v72, v73, v74, v75, v76, v77, v78, v79, v80, v81, v82, v83, v84, v85, v86, v87, v88, v89, v90, v91], []⟩ W := by
 unfold doR12
 conv => arg 2; whnf
 refine start_ (n := 10) (S := (do_r12S wb ob lv)) (ds := []) (Sx14.b 10 0) (by kernel_rfl) rfl rfl (hS0 _ hP0) (fun hHeld => ?_); refine with_tabW doT.tab12 doT.bits12 (fun HT_ HW_ => ?_)
 have hP0_ := hP0
 clear hP0
 generalize W.drew = w0_ at hHeld hP0_ ⊢
 refine Sx14.p (i := 0) (N := some 66) HT_.out (Sx14.b 10 1) ?_
 refine Sx14.p (i := 1) (N := some 67) HT_.out (Sx14.b 10 3) ?_
 refine Sx14.p (i := 2) (N := some 68) HT_.out (Sx14.b 10 7) ?_
 refine Sx14.p (i := 4) (N := some 70) HT_.out (Sx14.b 10 23) ?_
 refine take_ (i := 3) (N := some 69) (v := ?_) (a' := ?_) (Sx14.b 10 31) rfl rfl (take_ofW HT_.out HW_.out (by kernel_rfl)) (fun _ _ _ h => h) (Or.inl ⟨by rfl, ?_⟩) hHeld ?_ ?_
 rotate_left
 ·intro w' hS_
  obtain ⟨q1, p1⟩ := hS_
  go_simp
  with_reducible rfl
 rotate_left
 ·simp only [Act.put, Sx14.u, Sx14.v, Sx14.w, i64_w, i32_w]
  rfl
 refine take_ (i := 5) (N := some 71) (v := ?_) (a' := ?_) (Sx14.b 10 63) rfl rfl (take_ofW HT_.out HW_.out (by kernel_rfl)) (fun _ _ _ h => h) (Or.inl ⟨by rfl, ?_⟩) hHeld ?_ ?_
 rotate_left
 ·intro w' hS_
  obtain ⟨q1, p1⟩ := hS_
  go_simp
  with_reducible rfl
 rotate_left
 ·simp only [Act.put, Sx14.u, Sx14.v, Sx14.w, i64_w, i32_w]
  rfl
 refine one_ (i := 6) (N := some 72) (Sx14.b 10 127) rfl rfl (one_of HT_.out (by kernel_rfl)) (by decide) (fun K hK => ?_)
 refine goes_ Tryz.func11 (by kernel_rfl) rfl #[lv] (by rfl) rfl rfl (by (try simp only [List.map_toArray, List.map_cons, List.map_nil]); first | done | rfl) ?_
 refine (hc6 _ hP0_).mono ?_
 rintro e wc6_ ⟨u1, rfl, hp6_⟩
 refine ⟨_, rfl, ?_⟩
 refine hK.out _ _ (hS6 _ u1 hp6_) (fun hHeld => ?_)
 clear hK K
 refine norm_ (a' := ?_) ?_ ?_
 rotate_left
 ·show Act.put _ (some 72) _ = _
  simp only [Act.put, Sx14.u, Sx14.v, Sx14.w, i64_w, i32_w]
  rfl
 refine one_ (i := 7) (N := some 73) (Sx14.b 10 255) rfl rfl (one_of HT_.out (by kernel_rfl)) (by decide) (fun K hK => ?_)
 refine goes_ Tryz.func10 (by kernel_rfl) rfl #[.pointer none, u1] (by rfl) rfl rfl (by (try simp only [List.map_toArray, List.map_cons, List.map_nil]); first | done | rfl) ?_
 refine (hc7 _ u1 hp6_).mono ?_
 rintro e wc7_ ⟨rfl, hp7_⟩
 refine ⟨_, rfl, ?_⟩
 refine hK.out _ _ (hS7 _ hp7_) (fun hHeld => ?_)
 clear hK K
 refine norm_ (a' := ?_) ?_ ?_
 rotate_left
 ·show Act.put _ (some 73) _ = _
  simp only [Act.put, Sx14.u, Sx14.v, Sx14.w, i64_w, i32_w]
  rfl
 refine Sx14.p (i := 8) (N := some 74) HT_.out (Sx14.b 10 511) ?_
 refine Sx14.p (i := 9) (N := some 4) HT_.out (Sx14.b 10 1023) ?_
 refine done_ (done_of HT_.out (by kernel_rfl)) ?_
 exact hQ _ _ _ _ _ _ _ _ _ _ hp7_
def do_r13S (wb : Nat) (ob : Nat) (j : Nat) (q : Nat) (lv : Value) (V_ : World) : Prop := V_.cell? ⟨wb, 1, none⟩ = some (.pointer (some ⟨j, 0, none⟩)) ∧ V_.cell? ⟨wb, 3, none⟩ = some (.pointer (some ⟨q, 0, none⟩)) ∧ V_.cell? ⟨ob, 1, none⟩ = some (lv)
def doT.T13 : Bool × List (List Nat × List Nat) := (true, [([], []), ([0], [0]), ([1], [1]), ([2], [2]), ([], []), ([4], [4]), ([5], [5]), ([3, 6, 6], [3, 6]), ([], []), ([8], [8]), ([9], [9]), ([10], [10]), ([], []), ([12], [12]), ([13, 7], [13]), ([11, 14, 14], [11, 14]), ([7, 15], [7, 15]), ([16, 15, 0, 1, 2, 3, 4, 5, 6, 7, 8, 9, 10, 11, 12, 13, 14, 15, 16], [16])])
def doT.B13 : List Nat := [0, 1, 3, 7, 0, 16, 48, 127, 0, 256, 768, 1792, 0, 4096, 12543, 32767, 65535, 131071]
theorem doT.tab13 : rtab .any (opsOf Tryz.f31 13) = doT.T13 := by kernel_rfl
theorem doT.bits13 : waitsOk doT.T13.2 doT.B13 = true := by kernel_rfl
noncomputable def doR13 : Code := ((Tryz.f31.body.bind (regionOf 13)).getD .skip)
set_option maxHeartbeats 8000000 in
set_option maxRecDepth 100000 in
theorem do_r13 (R : Act → World → Prop) (W : World) (v1 v2 v4 v5 v6 v7 v8 v9 v10 v11 v12 v13 v14 v15 v16 v17 v18 v19 v20 v21 v22 v23 v24 v25 v26 v27 v28 v29 v30 v31 v32 v33 v34 v35 v36 v37 v38 v39 v40 v41 v42 v43 v44 v45 v46 v47 v48 v49 v50 v51 v52 v53 v54 v55 v56 v57 v58 v59 v60 v61 v62 v63 v64 v65 v66 v67 v68 v69 v70 v71 v72 v73 v74 v75 v76 v77 v78 v79 v80 v81 v82 v83 v84 v85 v86 v87 v88 v89 v90 v91 : Value) (wb ob j q : Nat) (lv : Value) (x : Int) (P0 : World → Prop) (P6 : Value → World → Prop) (P7 : World → Prop) (P14 : Value → World → Prop) (P15 : World → Prop)
  
  (hP0 : P0 W.drew)
  (hS0 : ∀ V, P0 V → do_r13S wb ob j q lv V)
  (hc6 : ∀ V, P0 V → Calls Tryz.prog 11 #[lv] V fun e w' => ∃ u1, e = .returned u1 ∧ P6 u1 w')
  (hS6 : ∀ V u1, P6 u1 V → do_r13S wb ob j q lv V)
  (hc7 : ∀ V u1, P6 u1 V → Calls Tryz.prog 10 #[.pointer (some ⟨j, 0, none⟩), u1] V fun e w' => e = .returned (.int .i64 x) ∧ P7 w')
  (hS7 : ∀ V, P7 V → do_r13S wb ob j q lv V)
  (hc14 : ∀ V, P7 V → Calls Tryz.prog 11 #[lv] V fun e w' => ∃ u2, e = .returned u2 ∧ P14 u2 w')
  (hS14 : ∀ V u2, P14 u2 V → do_r13S wb ob j q lv V)
  (hc15 : ∀ V u2, P14 u2 V → Calls Tryz.prog 12 #[.pointer (some ⟨q, 0, none⟩), u2] V fun e w' => e = .returned (.int .i64 x) ∧ P15 w')
  (hS15 : ∀ V, P15 V → do_r13S wb ob j q lv V)
  (hQ : ∀ (z75 z76 z77 z78 z79 z80 z81 z82 z83 z84 z85 z86 z87 z88 z89 z90 z91 : Value) (W' : World), P15 W' → R ⟨#[Value.pointer (some ⟨wb, 0, none⟩), v1, v2, Value.pointer (some ⟨ob, 0, none⟩), Value.bool true, v5, v6, v7, v8, v9, v10, v11, v12, v13, v14, v15, v16, v17, v18, v19, v20, v21, v22, v23, v24, v25, v26, v27, v28, v29, v30, v31, v32, v33, v34, v35, v36, v37, v38, v39, v40, v41, v42, v43, v44, v45, v46, v47, v48, v49, v50, v51, v52, v53, v54, v55, v56, v57, v58, v59, v60, v61, v62, v63, v64, v65, v66, v67, v68, v69, v70, v71, v72, v73, v74, z75, z76, z77, z78, z79, z80, z81, z82, z83, z84, z85, z86, z87, z88, z89, z90, z91], []⟩ W') :
  doR13.wp Tryz.prog (Norm R) ⟨#[Value.pointer (some ⟨wb, 0, none⟩), v1, v2, Value.pointer (some ⟨ob, 0, none⟩), v4, v5, v6, v7, v8, v9, v10, v11, v12, v13, v14, v15, v16, v17, v18, v19, v20, v21, v22, v23, v24, v25, v26, v27, v28, v29, v30, v31, v32, v33, v34, v35, v36, v37, v38, v39, v40, v41, v42, v43, v44, v45, v46, v47, v48, v49, v50, v51, v52, v53, v54, v55, v56, v57, v58, v59, v60, v61, v62, v63, v64, v65, v66, v67, v68, v69, v70, v71, v72, v73, v74, v75, v76, v77, v78, v79, v80, v81, v82, v83, v84, v85, v86, v87, v88, v89, v90, v91], []⟩ W := by
 unfold doR13
 conv => arg 2; whnf
 refine start_ (n := 18) (S := (do_r13S wb ob j q lv)) (ds := []) (Sx14.b 18 0) (by kernel_rfl) rfl rfl (hS0 _ hP0) (fun hHeld => ?_); refine with_tabW doT.tab13 doT.bits13 (fun HT_ HW_ => ?_)
 have hP0_ := hP0
 clear hP0
 generalize W.drew = w0_ at hHeld hP0_ ⊢
 refine Sx14.p (i := 0) (N := some 75) HT_.out (Sx14.b 18 1) ?_
 refine Sx14.p (i := 1) (N := some 76) HT_.out (Sx14.b 18 3) ?_
 refine Sx14.p (i := 2) (N := some 77) HT_.out (Sx14.b 18 7) ?_
 refine Sx14.p (i := 4) (N := some 79) HT_.out (Sx14.b 18 23) ?_
 refine Sx14.p (i := 8) (N := some 83) HT_.out (Sx14.b 18 279) ?_
 refine Sx14.p (i := 9) (N := some 84) HT_.out (Sx14.b 18 791) ?_
 refine Sx14.p (i := 10) (N := some 85) HT_.out (Sx14.b 18 1815) ?_
 refine Sx14.p (i := 12) (N := some 87) HT_.out (Sx14.b 18 5911) ?_
 refine take_ (i := 3) (N := some 78) (v := ?_) (a' := ?_) (Sx14.b 18 5919) rfl rfl (take_ofW HT_.out HW_.out (by kernel_rfl)) (fun _ _ _ h => h) (Or.inl ⟨by rfl, ?_⟩) hHeld ?_ ?_
 rotate_left
 ·intro w' hS_
  obtain ⟨q1, q3, p1⟩ := hS_
  go_simp
  with_reducible rfl
 rotate_left
 ·simp only [Act.put, Sx14.u, Sx14.v, Sx14.w, i64_w, i32_w]
  rfl
 refine take_ (i := 5) (N := some 80) (v := ?_) (a' := ?_) (Sx14.b 18 5951) rfl rfl (take_ofW HT_.out HW_.out (by kernel_rfl)) (fun _ _ _ h => h) (Or.inl ⟨by rfl, ?_⟩) hHeld ?_ ?_
 rotate_left
 ·intro w' hS_
  obtain ⟨q1, q3, p1⟩ := hS_
  go_simp
  with_reducible rfl
 rotate_left
 ·simp only [Act.put, Sx14.u, Sx14.v, Sx14.w, i64_w, i32_w]
  rfl
 refine take_ (i := 11) (N := some 86) (v := ?_) (a' := ?_) (Sx14.b 18 7999) rfl rfl (take_ofW HT_.out HW_.out (by kernel_rfl)) (fun _ _ _ h => h) (Or.inl ⟨by rfl, ?_⟩) hHeld ?_ ?_
 rotate_left
 ·intro w' hS_
  obtain ⟨q1, q3, p1⟩ := hS_
  go_simp
  with_reducible rfl
 rotate_left
 ·simp only [Act.put, Sx14.u, Sx14.v, Sx14.w, i64_w, i32_w]
  rfl
 refine take_ (i := 13) (N := some 88) (v := ?_) (a' := ?_) (Sx14.b 18 16191) rfl rfl (take_ofW HT_.out HW_.out (by kernel_rfl)) (fun _ _ _ h => h) (Or.inl ⟨by rfl, ?_⟩) hHeld ?_ ?_
 rotate_left
 ·intro w' hS_
  obtain ⟨q1, q3, p1⟩ := hS_
  go_simp
  with_reducible rfl
 rotate_left
 ·simp only [Act.put, Sx14.u, Sx14.v, Sx14.w, i64_w, i32_w]
  rfl
 refine one_ (i := 6) (N := some 81) (Sx14.b 18 16255) rfl rfl (one_of HT_.out (by kernel_rfl)) (by decide) (fun K hK => ?_)
 refine goes_ Tryz.func11 (by kernel_rfl) rfl #[lv] (by rfl) rfl rfl (by (try simp only [List.map_toArray, List.map_cons, List.map_nil]); first | done | rfl) ?_
 refine (hc6 _ hP0_).mono ?_
 rintro e wc6_ ⟨u1, rfl, hp6_⟩
 refine ⟨_, rfl, ?_⟩
 refine hK.out _ _ (hS6 _ u1 hp6_) (fun hHeld => ?_)
 clear hK K
 refine norm_ (a' := ?_) ?_ ?_
 rotate_left
 ·show Act.put _ (some 81) _ = _
  simp only [Act.put, Sx14.u, Sx14.v, Sx14.w, i64_w, i32_w]
  rfl
 refine one_ (i := 7) (N := some 82) (Sx14.b 18 16383) rfl rfl (one_of HT_.out (by kernel_rfl)) (by decide) (fun K hK => ?_)
 refine goes_ Tryz.func10 (by kernel_rfl) rfl #[.pointer (some ⟨j, 0, none⟩), u1] (by rfl) rfl rfl (by (try simp only [List.map_toArray, List.map_cons, List.map_nil]); first | done | rfl) ?_
 refine (hc7 _ u1 hp6_).mono ?_
 rintro e wc7_ ⟨rfl, hp7_⟩
 refine ⟨_, rfl, ?_⟩
 refine hK.out _ _ (hS7 _ hp7_) (fun hHeld => ?_)
 clear hK K
 refine norm_ (a' := ?_) ?_ ?_
 rotate_left
 ·show Act.put _ (some 82) _ = _
  simp only [Act.put, Sx14.u, Sx14.v, Sx14.w, i64_w, i32_w]
  rfl
 refine one_ (i := 14) (N := some 89) (Sx14.b 18 32767) rfl rfl (one_of HT_.out (by kernel_rfl)) (by decide) (fun K hK => ?_)
 refine goes_ Tryz.func11 (by kernel_rfl) rfl #[lv] (by rfl) rfl rfl (by (try simp only [List.map_toArray, List.map_cons, List.map_nil]); first | done | rfl) ?_
 refine (hc14 _ hp7_).mono ?_
 rintro e wc14_ ⟨u2, rfl, hp14_⟩
 refine ⟨_, rfl, ?_⟩
 refine hK.out _ _ (hS14 _ u2 hp14_) (fun hHeld => ?_)
 clear hK K
 refine norm_ (a' := ?_) ?_ ?_
 rotate_left
 ·show Act.put _ (some 89) _ = _
  simp only [Act.put, Sx14.u, Sx14.v, Sx14.w, i64_w, i32_w]
  rfl
 refine one_ (i := 15) (N := some 90) (Sx14.b 18 65535) rfl rfl (one_of HT_.out (by kernel_rfl)) (by decide) (fun K hK => ?_)
 refine goes_ Tryz.func12 (by kernel_rfl) rfl #[.pointer (some ⟨q, 0, none⟩), u2] (by rfl) rfl rfl (by (try simp only [List.map_toArray, List.map_cons, List.map_nil]); first | done | rfl) ?_
 refine (hc15 _ u2 hp14_).mono ?_
 rintro e wc15_ ⟨rfl, hp15_⟩
 refine ⟨_, rfl, ?_⟩
 refine hK.out _ _ (hS15 _ hp15_) (fun hHeld => ?_)
 clear hK K
 refine norm_ (a' := ?_) ?_ ?_
 rotate_left
 ·show Act.put _ (some 90) _ = _
  simp only [Act.put, Sx14.u, Sx14.v, Sx14.w, i64_w, i32_w]
  rfl
 refine Sx14.p (i := 16) (N := some 91) HT_.out (Sx14.b 18 131071) ?_
 refine Sx14.p (i := 17) (N := some 4) HT_.out (Sx14.b 18 262143) ?_
 refine done_ (done_of HT_.out (by kernel_rfl)) ?_
 exact hQ _ _ _ _ _ _ _ _ _ _ _ _ _ _ _ _ _ _ hp15_
open Go Go.RowKit Go.Proofs.YtniegajdmbepbaaGreatDoorW.PrintWords Go.Proofs.YtniegajdmbepbaaGreatDoorW.PrintMore Go.Proofs.YtniegajdmbepbaaGreatDoor.Pl Go.Proofs.YtniegajdmbepbaaGreatDoor.Pr Go.Proofs.YtniegajdmbepbaaGreatDoor.WPure
theorem append_pend (d : Dk) (j : Jr) (l : List ByteArray) : (appendM chF d j l).1.pend.length ≤ d.pend.length + 2 := by
 by_cases hb : j.broken = true
 ·rw [appendM_broken d j l hb]; exact Nat.le_add_right _ _
 ·have hb : j.broken = false := by simpa using hb
  by_cases hl : l.any (fun s => decide (65536 < s.size)) = true
  ·rw [appendM_long d j l hl]; exact Nat.le_add_right _ _
  ·have hl : l.any (fun s => decide (65536 < s.size)) = false := by simpa using hl
   by_cases hf : d.dur.length < j.size + (stored chF j.head l).length
   ·rw [appendM_full d j l hb hl hf]; exact Nat.le_add_right _ _
   ·by_cases hs : stored chF j.head l = []
    ·rw [appendM_none d j l hb hl hf hs]; exact Nat.le_add_right _ _
    ·obtain ⟨D1, hD1⟩ : ∃ D, d.write ((j.size + 1 : Nat) : Int) (ofB (stored chF j.head l).tail) = D := ⟨_, rfl⟩
     obtain ⟨d1, e1⟩ := D1
     obtain ⟨D2, hD2⟩ : ∃ D, d1.sync = D := ⟨_, rfl⟩
     obtain ⟨d2, e2⟩ := D2
     obtain ⟨D3, hD3⟩ : ∃ D, d2.write (j.size : Int) (ofB ((stored chF j.head l).take 1)) = D := ⟨_, rfl⟩
     obtain ⟨d3, e3⟩ := D3
     obtain ⟨D4, hD4⟩ : ∃ D, d3.sync = D := ⟨_, rfl⟩
     obtain ⟨d4, e4⟩ := D4
     rw [appendM_write d j l hb hl hf hs _ (run4 d d1 d2 d3 d4 (j.size + 1) j.size _ _ e1 e2 e3 e4 hD1 hD2 hD3 hD4)]
     have p1 := write_pend hD1
     have p2 := sync_pend hD2
     have p3 := write_pend hD3
     have p4 := sync_pend hD4
     split <;> (try dsimp only) <;> (repeat' split) <;> (try dsimp only) <;> omega
theorem same_l02 (l : List ByteArray) (hl : l.length ≤ 5000000) : ∀ k i : Nat, i + k = l.length → clearwaylaw29_same.l0 (k + 1) l l (i : Int) = some true := by
 intro k
 induction k with
 | zero =>
  intro i hi
  rw [clearwaylaw29_same.l0, if_neg (by omega)]
 | succ k ih =>
  intro i hi
  rw [clearwaylaw29_same.l0, if_pos (by omega), if_pos (by omega), if_pos (by omega), if_pos rfl, w64 _ (by omega)]
  exact ih (i + 1) (by omega)
theorem same_refl2 (l : List ByteArray) (hl : l.length ≤ 5000000) : clearwaylaw29_same.f (l.length + 1) l l = some true := by
 unfold clearwaylaw29_same.f
 rw [if_pos rfl]
 exact same_l02 l hl l.length 0 (by omega)
theorem same_calls2 (w : World) (b1 b2 : Nat) (v1 v2 : Value) (l : List ByteArray) (hl : l.length ≤ 5000000) (h1 : w.ownsRow b1 9 1 v1 l.length (l.map Value.string)) (h2 : w.ownsRow b2 9 1 v2 l.length (l.map Value.string)) :
  Calls Tryz.prog 18 #[v1, v2] w fun e w' => e = .returned (.bool true) ∧ Below w.heap.size w w' := by
 obtain ⟨A, c, rfl, hc, hr⟩ := own_C h1
 obtain ⟨A2, c2, rfl, hc2, hr2⟩ := own_C h2
 exact (clearwaylaw29_same.calls _ A c l A2 c2 l true w hr hc hr2 hc2 (same_refl2 l hl)).mono fun e w' ⟨h1, h2⟩ => ⟨h1, h2.below⟩
theorem sync_on2 {d d2 : Dk} (h : d.sync = (d2, 0)) : d2.off = false := by
 unfold Dk.sync at h
 split at h
 ·cases h
 ·rename_i ho
  cases h
  simpa using ho
theorem openM_facts (dk dk' : Dk) (jr : Jr) (c : Int) (hb : ∀ b ∈ dk.vis, b < 256) (h : openM chF z32 dk = (dk', some jr, c)) : dk'.off = false ∧ jr.size ≤ dk.vis.length := by
 cases ho : dk.off with
 | true => rw [openM_off dk ho] at h; cases h
 | false =>
  cases hp : parse chF (dk.vis.length + 1) z32 dk.vis with
  | none => rw [openM_bad dk ho hp] at h; cases h
  | some q =>
   obtain ⟨rs, n⟩ := q
   have hn := (parse_some chF _ _ _ _ _ hb (Nat.lt_succ_self _) hp).1
   by_cases hz : (dk.vis.drop n).all (· == 0) = true
   ·rw [openM_clean dk ho rs n hp hz] at h; cases h; exact ⟨ho, hn⟩
   ·rw [openM_wipe dk ho rs n hp hz] at h
    have r1 : ∀ d1 : Dk, runC d1 [.sy] = if d1.sync.2 = 0 then (d1.sync.1, 0) else d1.sync := fun _ => rfl
    have r2 : runC dk [.wr n (ofB (zeros (dk.vis.length - n))), .sy] = if (dk.write (n : Int) (ofB (zeros (dk.vis.length - n)))).2 = 0 then runC (dk.write (n : Int) (ofB (zeros (dk.vis.length - n)))).1 [.sy] else dk.write (n : Int) (ofB (zeros (dk.vis.length - n))) := rfl
    rw [r2, r1] at h
    by_cases h1 : (dk.write (n : Int) (ofB (zeros (dk.vis.length - n)))).2 = 0
    ·rw [if_pos h1] at h
     by_cases h2 : (dk.write (n : Int) (ofB (zeros (dk.vis.length - n)))).1.sync.2 = 0
     ·rw [if_pos h2, if_pos rfl] at h
      cases h
      exact ⟨sync_on2 (Prod.ext rfl h2), hn⟩
     ·rw [if_neg h2, if_neg h2] at h; cases h
    ·rw [if_neg h1, if_neg h1] at h; cases h
theorem conv_row {V : World} {b gb n cb : Nat} {l : List Nat} (hl : l.length = n) (h : V.ownsRow b 5 1 (.slice (some ⟨gb, 0, none⟩) n cb) n (bv l)) : (convert 39 9 (.slice (some ⟨gb, 0, none⟩) n cb)).run Tryz.prog V = .ok (.string (ofB l)) V := by
 have hcv := run_convert_bytes_arg (P := Tryz.prog) V 39 5 Tryz.underlying39 Tryz.underlying5 gb 0 n cb (l.map fun (b : Nat) => (b : Int)) (by rw [List.length_map, hl]) (fun i hi => by
  have := h.cells (g := gb) rfl i (.int .u8 ((l[i]'(by omega) : Nat) : Int)) (by simp [bv, hl, hi])
  rw [Nat.zero_add]
  cases i <;> simpa [Addr.add, hl, hi] using this) 9 Tryz.underlying9
 rw [hcv, str_ofB]
open Go Go.RowKit Go.Shelf Go.Proofs.YtniegajdmbepbaaGreatDoorW.PrintWords Go.Proofs.YtniegajdmbepbaaGreatDoorW.PrintMore Go.Proofs.YtniegajdmbepbaaGreatDoor.Pr Go.Proofs.YtniegajdmbepbaaGreatDoor.Pl Go.Proofs.YtniegajdmbepbaaGreatDoor.WPure
def Ln (N : Nat) (d : Dk) : Prop := d.dur.length = N ∧ d.vis.length = N
theorem used_ln {N : Nat} {d : Dk} (h : Ln N d) : Ln N d.used := by
 unfold Dk.used
 split
 ·exact h
 ·exact h
theorem write_ln {N : Nat} {d : Dk} (h : Ln N d) (a : Int) (x : ByteArray) : Ln N (d.write a x).1 := by
 unfold Dk.write
 split
 ·exact h
 ·split
  ·rename_i hi
   refine used_ln ⟨h.1, ?_⟩
   show (splice d.vis a.toNat (bl x)).length = N
   simp only [Dk.inside, Bool.and_eq_true, decide_eq_true_eq] at hi
   obtain ⟨⟨⟨i1, i2⟩, i3⟩, i4⟩ := hi
   rw [splice_length (by rw [bl_length, h.2, ← h.1]; omega)]
   exact h.2
  ·exact h
theorem sync_ln {N : Nat} {d : Dk} (h : Ln N d) : Ln N d.sync.1 := by
 unfold Dk.sync
 split
 ·exact h
 ·exact ⟨h.2, h.2⟩
theorem runC_ln {N : Nat} : ∀ (l : List Cmd) (d : Dk), Ln N d → Ln N (runC d l).1
 | [], d, h => h
 | c :: l, d, h => by
  have hc : Ln N (c.run d).1 := by cases c with | wr o s => exact write_ln h _ _ | sy => exact sync_ln h
  unfold runC
  split
  ·exact runC_ln l _ hc
  ·exact hc
theorem append_ln {N : Nat} {d : Dk} {j : Jr} (h : Ln N d) (hj : j.size ≤ N) (l : List ByteArray) : Ln N (appendM chF d j l).1 ∧ (appendM chF d j l).2.1.size ≤ N := by
 by_cases hb : j.broken = true
 ·rw [appendM_broken d j l hb]; exact ⟨h, hj⟩
 ·have hb : j.broken = false := by simpa using hb
  by_cases hl : l.any (fun s => decide (65536 < s.size)) = true
  ·rw [appendM_long d j l hl]; exact ⟨h, hj⟩
  ·have hl : l.any (fun s => decide (65536 < s.size)) = false := by simpa using hl
   by_cases hf : d.dur.length < j.size + (stored chF j.head l).length
   ·rw [appendM_full d j l hb hl hf]; exact ⟨h, hj⟩
   ·by_cases hs : stored chF j.head l = []
    ·rw [appendM_none d j l hb hl hf hs]; exact ⟨h, hj⟩
    ·rw [appendM_write d j l hb hl hf hs _ rfl]
     have hr := runC_ln [.wr (j.size + 1) (ofB (stored chF j.head l).tail), .sy, .wr j.size (ofB ((stored chF j.head l).take 1)), .sy] d h
     split
     ·exact ⟨hr, by show j.size + (stored chF j.head l).length ≤ N; rw [← h.1]; omega⟩
     ·exact ⟨hr, hj⟩
theorem open_ln {N : Nat} {d : Dk} (h : Ln N d) : Ln N (openM chF z32 d).1 := by
 cases ho : d.off with
 | true => rw [openM_off d ho]; exact h
 | false =>
  cases hp : parse chF (d.vis.length + 1) z32 d.vis with
  | none => rw [openM_bad d ho hp]; exact h
  | some q =>
   obtain ⟨rs, n⟩ := q
   by_cases hz : (d.vis.drop n).all (· == 0) = true
   ·rw [openM_clean d ho rs n hp hz]; exact h
   ·rw [openM_wipe d ho rs n hp hz]
    have hr := runC_ln [.wr n (ofB (zeros (d.vis.length - n))), .sy] d h
    split
    ·exact hr
    ·exact hr
theorem runC_pend : ∀ (l : List Cmd) (d : Dk), (runC d l).1.pend.length ≤ d.pend.length + l.length
 | [], d => Nat.le_refl _
 | c :: l, d => by
  have hc := cmd_pend d c
  unfold runC
  split
  ·have := runC_pend l (c.run d).1; simp only [List.length_cons]; omega
  ·simp only [List.length_cons]; omega
theorem open_pend (d : Dk) : (openM chF z32 d).1.pend.length ≤ d.pend.length + 2 := by
 cases ho : d.off with
 | true => rw [openM_off d ho]; exact Nat.le_add_right _ _
 | false =>
  cases hp : parse chF (d.vis.length + 1) z32 d.vis with
  | none => rw [openM_bad d ho hp]; exact Nat.le_add_right _ _
  | some q =>
   obtain ⟨rs, n⟩ := q
   by_cases hz : (d.vis.drop n).all (· == 0) = true
   ·rw [openM_clean d ho rs n hp hz]; exact Nat.le_add_right _ _
   ·rw [openM_wipe d ho rs n hp hz]
    have hr := runC_pend [.wr n (ofB (zeros (d.vis.length - n))), .sy] d
    split
    ·exact hr
    ·exact hr
theorem apply_len (torn : Int) : ∀ (L : List (Nat × ByteArray)) (b : List Nat), (∀ p ∈ L, p.1 + p.2.size ≤ b.length) → (Dk.applyL torn b L []).length = b.length
 | [], b, _ => rfl
 | [(off, s)], b, h => by
  have hs := h (off, s) List.mem_cons_self
  unfold Dk.applyL
  refine splice_length ?_
  split
  ·rw [List.length_take, bl_length]; simp only at hs; omega
  ·rw [bl_length]; exact hs
 | (off, s) :: q :: r, b, h => by
  have hs := h (off, s) List.mem_cons_self
  have e : (splice b off (bl s)).length = b.length := splice_length (by rw [bl_length]; exact hs)
  have := apply_len torn (q :: r) (splice b off (bl s)) (fun p hp => by rw [e]; exact h p (List.mem_cons_of_mem _ hp))
  rw [e] at this
  exact this
theorem crash_ln {N : Nat} {d : Dk} (h : Ln N d) (hf : ∀ p ∈ d.pend, p.1 + p.2.size ≤ d.dur.length) (keep : List Int) (torn : Int) : Ln N (d.crash keep torn) ∧ (d.crash keep torn).pend = [] := by
 have := apply_len torn ((Dk.order d.pend.length keep).filterMap fun i => d.pend[i]?) d.dur (fun p hp => by
  rw [List.mem_filterMap] at hp
  obtain ⟨i, _, hi⟩ := hp
  exact hf p (List.mem_of_getElem? hi))
 exact ⟨⟨this.trans h.1, this.trans h.1⟩, rfl⟩
structure Iv (N p : Nat) (dk : Dk) (o : Option Jr) : Prop where
 ln : Ln N dk
 pend : dk.pend.length ≤ p
 sz : ∀ jr, o = some jr → jr.size ≤ N
theorem Mix.pappendT {b : Nat} {w0 : World} {wb : Nat} {D : Dsk} {r Br j : Nat} {kp : Value} {dk1 dk2 : Dk} {jr1 : Jr} {o2 : Option Jr} {V : World} {a : Addr} (g : Gl b w0 a) (h : Mix b w0 wb D r Br (.pointer (some ⟨j, 0, none⟩)) kp dk1 (some jr1) dk2 o2 V) {v : Value} {l : List ByteArray} (hl : Strs V v l) (hh : jr1.head.size = 32) (hsz : jr1.size ≤ 1000000) (hrs : jr1.records.length ≤ 1000000)
  (hn : l.length ≤ 6) (hs : ∀ s ∈ l, s.size ≤ 100) (hf : dk1.pend.length + 4 ≤ 1000000) :
  Calls Tryz.prog 10 #[.pointer (some ⟨j, 0, none⟩), v] V fun e w' => e = .returned (.int .i64 (appendM chF dk1 jr1 l).2.2) ∧ Mix b w0 wb D r Br (.pointer (some ⟨j, 0, none⟩)) kp (appendM chF dk1 jr1 l).1 (some (appendM chF dk1 jr1 l).2.1) dk2 o2 w' ∧ KT Pd V w' := by
 obtain ⟨j', B, e, hj, hB⟩ := h.j1
 injection e with e; injection e with e; injection e with e
 subst e
 have hbt := stored_bound 100 (by decide) l jr1.head hs
 refine (append_calls hj h.d1 hl (g.of h.bel).1 hh (by omega) hrs (by omega) (by omega) (by omega) (Nat.le_trans hB (by obtain ⟨rv, hj⟩ := hj; exact hj.tape.hp))).mono ?_
 rintro e w' ⟨rfl, hd, hj', o⟩
 have K := o.kt h.d1 hj
 exact ⟨rfl, ⟨K.1 _ _ _ _ h.tw (by decide), hd, h.d2.kt K.1 (by decide) (by decide) K.2, ⟨j, B, rfl, hj', hB⟩, h.j2.kt K.1 (by decide) (by decide), h.hb1, h.hb2, h.hwb, h.bel.trans (o.belowB h.hb1 h.d1.sizeB)⟩, K.1⟩
theorem Mix.rappendT {b : Nat} {w0 : World} {wb : Nat} {D : Dsk} {r Br q : Nat} {jp : Value} {dk1 dk2 : Dk} {jr2 : Jr} {o1 : Option Jr} {V : World} (h : Mix b w0 wb D r Br jp (.pointer (some ⟨q, 0, none⟩)) dk1 o1 dk2 (some jr2) V) {v : Value} {b0 : Nat} {l : List ByteArray} (hl : V.ownsRow b0 9 1 v l.length (l.map Value.string)) (hsz : jr2.size ≤ 1000000)
  (hn : l.length ≤ 6) (hs : ∀ s ∈ l, s.size ≤ 100) (hf : dk2.pend.length + 4 ≤ 1000000) :
  Calls Tryz.prog 12 #[.pointer (some ⟨q, 0, none⟩), v] V fun e w' => e = .returned (.int .i64 (appendM chF dk2 jr2 l).2.2) ∧ Mix b w0 wb D r Br jp (.pointer (some ⟨q, 0, none⟩)) dk1 o1 (appendM chF dk2 jr2 l).1 (some (appendM chF dk2 jr2 l).2.1) w' ∧ KT Pr' V w' := by
 obtain ⟨q', B, e, hj, hB⟩ := h.j2
 injection e with e; injection e with e; injection e with e
 subst e
 have hbr : Br ≤ r := let ⟨_, _, _, q, _⟩ := h.d2; q.hr
 have hq : b ≤ q := by obtain ⟨⟨lv, hk⟩, _⟩ := hj; exact Nat.le_trans hB hk.hq
 refine (refappend_calls hj h.d2 hl hsz hn hs hf h.d1.zlt).mono ?_
 rintro e w' ⟨rfl, hd, hj', o⟩
 have K := o.kt h.d2 hj
 exact ⟨rfl, ⟨K _ _ _ _ h.tw (by decide), h.d1.kt K (by decide) (by decide) (by decide), hd, h.j1.kt K o.size (by decide) (by decide), ⟨q, B, rfl, hj', hB⟩, h.hb1, h.hb2, h.hwb, h.bel.trans (o.below h.hb2 hbr hq h.bs)⟩, K⟩
theorem Iv.cut {N p : Nat} {dk : Dk} {o : Option Jr} (h : Iv N p dk o) (n : Int) : Iv N (p + 2) (dk.cut n).1 o := by
 unfold Dk.cut
 split
 ·exact ⟨h.ln, Nat.le_add_right_of_le h.pend, h.sz⟩
 ·split
  ·exact ⟨h.ln, Nat.le_add_right_of_le h.pend, h.sz⟩
  ·exact ⟨h.ln, Nat.le_add_right_of_le h.pend, h.sz⟩
theorem Iv.openI {N p : Nat} {dk : Dk} {o : Option Jr} (h : Iv N p dk o) (hb : ∀ b ∈ dk.vis, b < 256) : Iv N (p + 2) (openM chF z32 dk).1 (openM chF z32 dk).2.1 := by
 refine ⟨open_ln h.ln, Nat.le_trans (open_pend dk) (Nat.add_le_add_right h.pend 2), fun jr hjr => ?_⟩
 obtain ⟨O, hO⟩ : ∃ O, openM chF z32 dk = O := ⟨_, rfl⟩
 obtain ⟨d, oj, c⟩ := O
 rw [hO] at hjr
 have hjr : oj = some jr := hjr
 subst hjr
 have := (openM_facts dk d jr c hb hO).2
 rw [h.ln.2] at this
 exact this
theorem Mix.rg {b : Nat} {w0 : World} {wb : Nat} {D : Dsk} {r Br : Nat} {jp kp : Value} {dk1 dk2 dk2' : Dk} {o1 o2 : Option Jr} {V V' : World} (h : Mix b w0 wb D r Br jp kp dk1 o1 dk2 o2 V) {gs : Nat} (hB : Br ≤ gs) (hz : ¬ Zd D gs) (hu : ∃ ds f, V.heap[gs]? = some (.cells ds 5 f)) (og : RG Br r gs V V') (d : RefAt V' Br r (Zd D) dk2') :
  Mix b w0 wb D r Br jp kp dk1 o1 dk2' o2 V' ∧ KT (fun t => t ≠ 67 ∧ t ≠ 100 ∧ t ≠ 5) V V' := by
 obtain ⟨ds, f, hu⟩ := hu
 obtain ⟨_, _, _, hr, _⟩ := h.d2
 have hbr := hr.hr
 have K : KT (fun t => t ≠ 67 ∧ t ≠ 100 ∧ t ≠ 5) V V' := fun k cs t f' hk ⟨h1, h2, h3⟩ => og.block k _ hk (cells_ne hk hr.blk h1) (cells_ne hk hu h3) (.inr h2)
 have KU : ∀ k cs f', V.heap[k]? = some (.cells cs 5 f') → Zd D k → V'.heap[k]? = some (.cells cs 5 f') := fun k cs f' hk hzk => og.block k _ hk (cells_ne hk hr.blk (by decide)) (fun e => hz (e ▸ hzk)) (.inr (by show ¬ (_ : Nat) = _; decide))
 refine ⟨⟨K _ _ _ _ h.tw (by decide), ?_, d, h.j1.kt K og.size (by decide) (by decide), h.j2.kt K (by decide) (by decide), h.hb1, h.hb2, h.hwb, h.bel.trans ?_⟩, K⟩
 ·obtain ⟨pv, q⟩ := h.d1
  exact ⟨pv, ⟨K _ _ _ _ q.blk (by decide), KU _ _ _ q.dur (.inl rfl), KU _ _ _ q.vis (.inr rfl), K.own q.pend (by decide), q.len, q.hd, q.h1, q.h2, q.ne, q.lt, q.small, q.left, q.few⟩⟩
 ·have h2 := h.hb2
  have hbs := h.bs
  refine ⟨og.os, og.tape, og.output, og.size, fun k hk => ?_⟩
  obtain ⟨x, hx⟩ : ∃ x, V.heap[k]? = some x := ⟨_, Array.getElem?_eq_getElem (by omega)⟩
  rw [hx]
  exact og.block k x hx (by omega) (by omega) (.inl (by omega))
set_option maxRecDepth 100000 in
set_option maxHeartbeats 16000000 in
theorem does_calls {w0 V : World} {wb : Nat} {D : Dsk} {r Br : Nat} {jp kp : Value} {dk : Dk} {o : Option Jr} {a : Addr} (G : Gl w0.heap.size w0 a) (M : Mix w0.heap.size w0 wb D r Br jp kp dk o dk o V) {N p : Nat} (I : Iv N p dk o) (hN : N ≤ 1500) (hp : p ≤ 1000)
  (kd nn : Int) (A1 A2 : Option Addr) (c1 c2 : Nat) (l : List ByteArray) (ks : List Int) (hk1 : -9223372036854775808 ≤ kd) (hk2 : kd ≤ 9223372036854775807) (hn1 : -9223372036854775808 ≤ nn) (hn2 : nn ≤ 9223372036854775807)
  (hC1 : Kd.C Kd.string w0 A1 l.length l) (hc1 : l.length ≤ c1) (hC2 : Kd.C (Kd.int .i64) w0 A2 ks.length ks) (hc2 : ks.length ≤ c2) :
  Calls Tryz.prog 31 #[.pointer (some ⟨wb, 0, none⟩), .agg #[.int .i64 kd, .slice A1 l.length c1, .int .i64 nn, .slice A2 ks.length c2]] V fun e w' =>
   e = .returned (.bool true) ∧ ∃ jp' kp' dk' o', Mix w0.heap.size w0 wb D r Br jp' kp' dk' o' dk' o' w' ∧ Iv N (p + 2) dk' o' := by
 obtain ⟨k8, hk8, hk8l⟩ := pick_f kd 8 hk1 hk2 (by decide)
 obtain ⟨k5, hk5, hk5l⟩ := pick_f nn 5 hn1 hn2 (by decide)
 have hP8 := fun V => (clearwaylaw29_pick.calls kd 8 (k8 : Int) V hk8)
 have hP5 := fun V => (clearwaylaw29_pick.calls nn 5 (k5 : Int) V hk5)
 have hFl := fewF_length l
 have hFs := fewF_size l
 have hIp := I.pend
 obtain ⟨OB, hOB⟩ : ∃ OB : Array Value, OB = #[.int .i64 kd, .slice A1 l.length c1, .int .i64 nn, .slice A2 ks.length c2] := ⟨_, rfl⟩
 obtain ⟨ob, hob⟩ : ∃ ob, V.heap.size = ob := ⟨_, rfl⟩
 have kA := below_alloc (Below.refl V.heap.size V) (.cells #[.int .i64 kd, .slice A1 l.length c1, .int .i64 nn, .slice A2 ks.length c2] 62)
 have tA := heap_alloc_new V (.cells #[.int .i64 kd, .slice A1 l.length c1, .int .i64 nn, .slice A2 ks.length c2] 62)
 have MA := M.keep kA
 have St : ∀ {jp kp : Value} {d1 d2 : Dk} {o1 o2 : Option Jr} {W : World}, Mix w0.heap.size w0 wb D r Br jp kp d1 o1 d2 o2 W → (W.heap[ob]? = some (.cells OB 62 (0, 0))) → W.cell? ⟨ob, 0, none⟩ = some (.int .i64 kd) ∧ W.cell? ⟨ob, 1, none⟩ = some (.slice A1 l.length c1) ∧ W.cell? ⟨ob, 2, none⟩ = some (.int .i64 nn) ∧ W.cell? ⟨ob, 3, none⟩ = some (.slice A2 ks.length c2) := by
  intro jp kp d1 d2 o1 o2 W _ h
  rw [hOB] at h
  exact ⟨(blk_cells h).1 0, (blk_cells h).1 1, (blk_cells h).1 2, (blk_cells h).1 3⟩
 go_enter Tryz.func31, Tryz.ntmps31
 go_upto_region 2 with (go_at_call 14; refine (hP8 _).mono ?_; rintro e V2 ⟨rfl, hd2⟩)
 have M2 := MA.keep hd2.below
 have t2 : V2.heap[ob]? = some (.cells OB 62 (0, 0)) := by rw [hOB, ← hob]; exact blk_below tA hd2.below
 try rw [hob]
 clear MA tA kA M hd2
 have Kb : ∀ {W W' : World}, (W.heap[ob]? = some (.cells OB 62 (0, 0))) → Below W.heap.size W W' → W'.heap[ob]? = some (.cells OB 62 (0, 0)) := fun h k => blk_below h k
 obtain ⟨q0, q1, q2, q3⟩ := St M2 t2
 by_cases h5 : k8 = 5
 ·subst h5
  obtain ⟨E, hE⟩ : ∃ E, dk.cut ((1 + k5 : Nat) : Int) = E := ⟨_, rfl⟩
  go_wp2_with fail
  refine Sha.norm_wp ?_
  refine do_r3 _ V2 _ _ _ _ _ _ _ _ _ _ _ _ _ _ _ _ _ _ _ _ _ _ _ _ _ _ _ _ _ _ _ _ _ _ _ _ _ _ _ _ _ _ _ _ _ _ _ _ _ _ _ _ _ _ _ _ _ _ _ _ _ _ _ _ _ _ _ _ _ _ _ _ _ _ _ _ _ _ _ _ _ _ _ _ _ _ _ _ _ _ wb ob D.d r k5 (1 + k5) nn E.2
   (fun W => Mix w0.heap.size w0 wb D r Br jp kp dk o dk o W ∧ W.heap[ob]? = some (.cells OB 62 (0, 0))) (fun W => Mix w0.heap.size w0 wb D r Br jp kp dk o dk o W ∧ W.heap[ob]? = some (.cells OB 62 (0, 0)))
   (fun W => Mix w0.heap.size w0 wb D r Br jp kp E.1 o dk o W ∧ W.heap[ob]? = some (.cells OB 62 (0, 0))) (fun W => Mix w0.heap.size w0 wb D r Br jp kp E.1 o dk o W ∧ W.heap[ob]? = some (.cells OB 62 (0, 0)))
   (fun W => Mix w0.heap.size w0 wb D r Br jp kp E.1 o E.1 o W ∧ W.heap[ob]? = some (.cells OB 62 (0, 0)))
   (by rw [IntKind.wrap_i64]; omega) (by unfold wrap64; omega) ⟨M2.keep (below_drew1 (Below.refl _ _)), Kb t2 (below_drew1 (Below.refl _ _))⟩ (fun W h => ⟨h.1.cells.1, h.1.cells.2.2.1, (St h.1 h.2).2.2.1⟩)
   (fun W h => (hP5 W).mono fun e w' ⟨e1, hd⟩ => ⟨e1, h.1.keep hd.below, Kb h.2 hd.below⟩) (fun W h => ⟨h.1.cells.1, h.1.cells.2.2.1, (St h.1 h.2).2.2.1⟩)
   (fun W h => by have := cut_calls h.1.d1 ((1 + k5 : Nat) : Int) (by omega); rw [hE] at this; exact this.mono fun e w' ⟨e1, d, of⟩ => ⟨e1, h.1.off of d, (of.kt h.1.d1).1 _ _ _ _ h.2 (by decide)⟩) (fun W h => ⟨h.1.cells.1, h.1.cells.2.2.1, (St h.1 h.2).2.2.1⟩)
   (fun W h => (hP5 W).mono fun e w' ⟨e1, hd⟩ => ⟨e1, h.1.keep hd.below, Kb h.2 hd.below⟩) (fun W h => ⟨h.1.cells.1, h.1.cells.2.2.1, (St h.1 h.2).2.2.1⟩)
   (fun W h => by have := refcut_calls h.1.d2 ((1 + k5 : Nat) : Int) (by omega); rw [hE] at this; exact this.mono fun e w' ⟨e1, d, of⟩ => ⟨e1, h.1.roff of d, of.kt h.1.d2 _ _ _ _ h.2 (by decide)⟩) (fun W h => ⟨h.1.cells.1, h.1.cells.2.2.1, (St h.1 h.2).2.2.1⟩) ?_
  intro y11 y12 y13 y14 y15 y16 y17 y18 y19 y20 y21 y22 y23 y24 y25 y26 y27 y28 y29 W hW
  go_wp2_with fail
  go_ret
  exact ⟨rfl, _, _, _, _, hW.1, by rw [← hE]; exact I.cut _⟩
 ·have e5 : ((k8 : Int) == 5) = false := beq_eq_false_iff_ne.mpr (by omega)
  have e5p : ((k8 : Int) = 5) = False := eq_false (by omega)
  by_cases h6 : k8 = 6
  ·subst h6
   obtain ⟨k2, hk2'⟩ : ∃ k2, min ks.length 20 = k2 := ⟨_, rfl⟩
   have hm1 : min (ks.length : Int) 20 = (k2 : Int) := by omega
   have hm2 : ((k2 : Int) ≤ (c2 : Int)) = True := eq_true (by omega)
   have hm3 : (k2 ≤ c2) = True := eq_true (by omega)
   obtain ⟨bk, o2, hb1, hb2, hb3⟩ := ints_C hC2 rfl (by have := G.g1; omega)
   have hR2 : intR (ks.take k2) bk o2 w0 := fun jj y hh => by
    rw [List.getElem?_take] at hh
    split at hh
    ·exact hb3 jj y hh
    ·cases hh
   have hxl : (ks.take k2).length = k2 := by rw [List.length_take]; omega
   obtain ⟨C, hC⟩ : ∃ C, dk.crash (ks.take k2) nn = C := ⟨_, rfl⟩
   have hra : (∀ b ∈ dk.dur, b < 256) ∧ (∀ p ∈ dk.pend, p.1 + p.2.size ≤ dk.dur.length) ∧ dk.pend.length ≤ 1000000 := by obtain ⟨_, _, _, h, _⟩ := M2.d2; exact ⟨h.lt, h.fit, h.few⟩
   have hcl := crash_ln I.ln hra.2.1 (ks.take k2) nn
   rw [hC] at hcl
   go_upto_region 6 with (fail)
   refine Sha.norm_wp ?_
   refine do_r6 _ V2 _ _ _ _ _ _ _ _ _ _ _ _ _ _ _ _ _ _ _ _ _ _ _ _ _ _ _ _ _ _ _ _ _ _ _ _ _ _ _ _ _ _ _ _ _ _ _ _ _ _ _ _ _ _ _ _ _ _ _ _ _ _ _ _ _ _ _ _ _ _ _ _ _ _ _ _ _ _ _ _ _ _ _ _ _ _ _ _ _ wb ob D.d nn (.slice A2 k2 c2)
    (fun W => Mix w0.heap.size w0 wb D r Br jp kp dk o dk o W ∧ W.heap[ob]? = some (.cells OB 62 (0, 0))) (fun W => Mix w0.heap.size w0 wb D r Br jp kp C o dk o W ∧ W.heap[ob]? = some (.cells OB 62 (0, 0)))
    ⟨M2.keep (below_drew1 (Below.refl _ _)), Kb t2 (below_drew1 (Below.refl _ _))⟩ (fun W h => ⟨h.1.cells.1, (St h.1 h.2).2.2.1⟩)
    (fun W h => by
     have := crash_calls h.1.d1 bk o2 k2 c2 A2 (ks.take k2) hxl (by omega) (fun hh => hb1 (by omega)) (Nat.lt_of_lt_of_le hb2 h.1.bel.size) (hR2.block (h.1.bel.block bk hb2)) nn ⟨hn1, hn2⟩ hra.1 hra.2.1 hra.2.2
     rw [hC] at this
     exact this.mono fun e w' ⟨e1, d, of⟩ => ⟨e1, h.1.off of d, (of.kt h.1.d1).1 _ _ _ _ h.2 (by decide)⟩) (fun W h => ⟨h.1.cells.1, (St h.1 h.2).2.2.1⟩) ?_
   intro y39 y40 y41 y42 y43 y44 y45 W6 hW6
   clear q0 q1 q2 q3 hm1 hm2 hm3
   go_wp2_with fail
   refine Sha.norm_wp ?_
   refine do_r7 _ W6 _ _ _ _ _ _ _ _ _ _ _ _ _ _ _ _ _ _ _ _ _ _ _ _ _ _ _ _ _ _ _ _ _ _ _ _ _ _ _ _ _ _ _ _ _ _ _ _ _ _ _ _ _ _ _ _ _ _ _ _ _ _ _ _ _ _ _ _ _ _ _ _ _ _ _ _ _ _ _ _ _ _ _ _ _ _ _ _ _ wb ob r nn (.slice A2 k2 c2)
    (fun W => Mix w0.heap.size w0 wb D r Br jp kp C o dk o W ∧ W.heap[ob]? = some (.cells OB 62 (0, 0))) (fun W => Mix w0.heap.size w0 wb D r Br jp kp C o C o W ∧ W.heap[ob]? = some (.cells OB 62 (0, 0)))
    ⟨hW6.1.keep (below_drew1 (Below.refl _ _)), Kb hW6.2 (below_drew1 (Below.refl _ _))⟩ (fun W h => ⟨h.1.cells.2.2.1, (St h.1 h.2).2.2.1⟩)
    (fun W h => by
     have := refcrash_calls h.1.d2 bk o2 k2 c2 A2 (ks.take k2) hxl (by omega) (fun hh => hb1 (by omega)) (Nat.lt_of_lt_of_le hb2 h.1.bel.size) (hR2.block (h.1.bel.block bk hb2)) nn ⟨hn1, hn2⟩
     rw [hC] at this
     exact this.mono fun e w' ⟨e1, d, gs, g1, g2, g3, og⟩ => ⟨e1, (h.1.rg g1 g2 g3 og d).1, (h.1.rg g1 g2 g3 og d).2 _ _ _ _ h.2 (by decide)⟩) (fun W h => ⟨h.1.cells.2.2.1, (St h.1 h.2).2.2.1⟩) ?_
   intro y47 y48 y49 y50 y51 y52 y53 y54 W7 hW7
   have hvl : ∀ b ∈ C.vis, b < 256 := by obtain ⟨_, _, _, h, _⟩ := hW7.1.d2; exact h.vislen.2
   have IC : Iv N p C o := ⟨hcl.1, by rw [hcl.2]; exact Nat.zero_le _, I.sz⟩
   have hO := Mix.open_ G hW7.1 (by rw [hcl.2]; decide)
   clear hW6 hcl
   go_wp2_with (go_at_call 17; refine hO.mono ?_; rintro e W ⟨rfl, jp', kp', hW⟩)
   go_ret
   exact ⟨rfl, _, _, _, _, hW, IC.openI hvl⟩
  ·have e6 : ((k8 : Int) == 6) = false := beq_eq_false_iff_ne.mpr (by omega)
   have e6p : ((k8 : Int) = 6) = False := eq_false (by omega)
   by_cases h7 : k8 = 7
   ·subst h7
    have hvl : ∀ b ∈ dk.vis, b < 256 := by obtain ⟨_, _, _, h, _⟩ := M2.d2; exact h.vislen.2
    have hO := Mix.open_ G M2 (by omega)
    go_wp2_with (go_at_call 17; refine hO.mono ?_; rintro e W ⟨rfl, jp', kp', hW⟩)
    go_ret
    exact ⟨rfl, _, _, _, _, hW, I.openI hvl⟩
   ·have e7 : ((k8 : Int) == 7) = false := beq_eq_false_iff_ne.mpr (by omega)
    have e7p : ((k8 : Int) = 7) = False := eq_false (by omega)
    have qc := M2.cells.2.1
    cases o with
    | none =>
     obtain rfl : jp = .pointer none := M2.j1
     go_upto_region 12 with (fail)
     refine Sha.norm_wp ?_
     refine do_r12 _ V2 _ _ _ _ _ _ _ _ _ _ _ _ _ _ _ _ _ _ _ _ _ _ _ _ _ _ _ _ _ _ _ _ _ _ _ _ _ _ _ _ _ _ _ _ _ _ _ _ _ _ _ _ _ _ _ _ _ _ _ _ _ _ _ _ _ _ _ _ _ _ _ _ _ _ _ _ _ _ _ _ _ _ _ _ _ _ _ _ _ _ wb ob (.slice A1 l.length c1)
      (fun W => Mix w0.heap.size w0 wb D r Br (.pointer none) kp dk none dk none W ∧ W.heap[ob]? = some (.cells OB 62 (0, 0)))
      (fun v W => Mix w0.heap.size w0 wb D r Br (.pointer none) kp dk none dk none W ∧ (W.heap[ob]? = some (.cells OB 62 (0, 0))) ∧ Strs W v (fewF l))
      (fun W => Mix w0.heap.size w0 wb D r Br (.pointer none) kp dk none dk none W ∧ W.heap[ob]? = some (.cells OB 62 (0, 0)))
      ⟨M2.keep (below_drew1 (Below.refl _ _)), Kb t2 (below_drew1 (Below.refl _ _))⟩ (fun W h => ⟨h.1.cells.2.1, (St h.1 h.2).2.1⟩)
      (fun W h => (few_calls W A1 c1 l (Kd.C_below hC1 h.1.bel) hc1).mono fun e w' ⟨v, e1, _, e3, e4⟩ => ⟨v, e1, h.1.keep e4, Kb h.2 e4, e3⟩) (fun W v h => ⟨h.1.cells.2.1, (St h.1 h.2.1).2.1⟩)
      (fun W v h => (append_nil W v h.2.2).mono fun e w' ⟨e1, hb⟩ => ⟨e1, h.1.keep hb, Kb h.2.1 hb⟩) (fun W h => ⟨h.1.cells.2.1, (St h.1 h.2).2.1⟩) ?_
     intro y66 y67 y68 y69 y70 y71 y72 y73 y74 W hW
     go_wp2_with fail
     go_ret
     exact ⟨rfl, _, _, _, _, hW.1, ⟨I.ln, Nat.le_add_right_of_le I.pend, I.sz⟩⟩
    | some jr =>
     obtain ⟨j, B, hjp, _⟩ := M2.j1
     obtain ⟨q, B2, hkp, hRJ, _⟩ := M2.j2
     subst hjp
     subst hkp
     have hhd : jr.head.size = 32 := by rw [hRJ.2.1]; exact headOf_size z32 z32_size _
     have hjs := I.sz jr rfl
     have hjl := hRJ.2.2.2
     obtain ⟨F, hF⟩ : ∃ F, fewF l = F := ⟨_, rfl⟩
     rw [hF] at hFl hFs
     obtain ⟨R1, hR1⟩ : ∃ R, appendM chF dk jr F = R := ⟨_, rfl⟩
     go_upto_region 13 with (fail)
     refine Sha.norm_wp ?_
     refine do_r13 _ V2 _ _ _ _ _ _ _ _ _ _ _ _ _ _ _ _ _ _ _ _ _ _ _ _ _ _ _ _ _ _ _ _ _ _ _ _ _ _ _ _ _ _ _ _ _ _ _ _ _ _ _ _ _ _ _ _ _ _ _ _ _ _ _ _ _ _ _ _ _ _ _ _ _ _ _ _ _ _ _ _ _ _ _ _ _ _ _ _ _ _ wb ob j q (.slice A1 l.length c1) R1.2.2
      (fun W => Mix w0.heap.size w0 wb D r Br (.pointer (some ⟨j, 0, none⟩)) (.pointer (some ⟨q, 0, none⟩)) dk (some jr) dk (some jr) W ∧ W.heap[ob]? = some (.cells OB 62 (0, 0)))
      (fun v W => Mix w0.heap.size w0 wb D r Br (.pointer (some ⟨j, 0, none⟩)) (.pointer (some ⟨q, 0, none⟩)) dk (some jr) dk (some jr) W ∧ (W.heap[ob]? = some (.cells OB 62 (0, 0))) ∧ Strs W v F)
      (fun W => Mix w0.heap.size w0 wb D r Br (.pointer (some ⟨j, 0, none⟩)) (.pointer (some ⟨q, 0, none⟩)) R1.1 (some R1.2.1) dk (some jr) W ∧ W.heap[ob]? = some (.cells OB 62 (0, 0)))
      (fun v W => Mix w0.heap.size w0 wb D r Br (.pointer (some ⟨j, 0, none⟩)) (.pointer (some ⟨q, 0, none⟩)) R1.1 (some R1.2.1) dk (some jr) W ∧ (W.heap[ob]? = some (.cells OB 62 (0, 0))) ∧ ∃ b0, W.ownsRow b0 9 1 v F.length (F.map Value.string))
      (fun W => Mix w0.heap.size w0 wb D r Br (.pointer (some ⟨j, 0, none⟩)) (.pointer (some ⟨q, 0, none⟩)) R1.1 (some R1.2.1) R1.1 (some R1.2.1) W ∧ W.heap[ob]? = some (.cells OB 62 (0, 0)))
      ⟨M2.keep (below_drew1 (Below.refl _ _)), Kb t2 (below_drew1 (Below.refl _ _))⟩ (fun W h => ⟨h.1.cells.2.1, h.1.cells.2.2.2, (St h.1 h.2).2.1⟩)
      (fun W h => (few_calls W A1 c1 l (Kd.C_below hC1 h.1.bel) hc1).mono fun e w' ⟨v, e1, _, e3, e4⟩ => ⟨v, e1, h.1.keep e4, Kb h.2 e4, by rw [← hF]; exact e3⟩) (fun W v h => ⟨h.1.cells.2.1, h.1.cells.2.2.2, (St h.1 h.2.1).2.1⟩)
      (fun W v h => by have := Mix.pappendT G h.1 h.2.2 hhd (by omega) (by omega) hFl hFs (by omega); rw [hR1] at this; exact this.mono fun e w' ⟨e1, m, k⟩ => ⟨e1, m, k _ _ _ _ h.2.1 (by decide)⟩) (fun W h => ⟨h.1.cells.2.1, h.1.cells.2.2.2, (St h.1 h.2).2.1⟩)
      (fun W h => (few_calls W A1 c1 l (Kd.C_below hC1 h.1.bel) hc1).mono fun e w' ⟨v, e1, e2, e3, e4⟩ => ⟨v, e1, h.1.keep e4, Kb h.2 e4, _, by rw [← hF]; exact own_R e2⟩) (fun W v h => ⟨h.1.cells.2.1, h.1.cells.2.2.2, (St h.1 h.2.1).2.1⟩)
      (fun W v ⟨h, h2, b0, ho⟩ => by have := Mix.rappendT h ho (by omega) hFl hFs (by omega); rw [hR1] at this; exact this.mono fun e w' ⟨e1, m, k⟩ => ⟨e1, m, k _ _ _ _ h2 (by decide)⟩) (fun W h => ⟨h.1.cells.2.1, h.1.cells.2.2.2, (St h.1 h.2).2.1⟩) ?_
     intro y75 y76 y77 y78 y79 y80 y81 y82 y83 y84 y85 y86 y87 y88 y89 y90 y91 W hW
     go_wp2_with fail
     go_ret
     have hap := append_ln I.ln hjs F
     have hapd := append_pend dk jr F
     rw [hR1] at hap hapd
     exact ⟨rfl, _, _, _, _, hW.1, ⟨hap.1, by omega, fun jr' h => by cases h; exact hap.2⟩⟩
end Go.Proofs.YtniegajdmbepbaaGreatDoor.Jm
