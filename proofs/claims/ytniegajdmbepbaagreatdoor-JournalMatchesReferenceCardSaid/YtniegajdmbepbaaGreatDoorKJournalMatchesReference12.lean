/- A disk's settle from the durable content to the visible one; the closure of Crash, and slices.DeleteFunc with it. Condition: the bytes are bytes. slices.DeleteFunc with Crash's closure. Condition: at most 1,000,000 ints. -/
import Derived.Test.YtniegajdmbepbaaGreatDoorKJournalMatchesReference8
import Derived.Test.YtniegajdmbepbaaGreatDoorKJournalMatchesReference11
import Derived.Shelf.GgSortFunc.Insertion
set_option linter.unusedSimpArgs false
set_option linter.unusedVariables false
namespace Go.Proofs.YtniegajdmbepbaaGreatDoor.Jm
open Go Go.RowKit Go.Shelf Go.Sort Go.Proofs.YtniegajdmbepbaaGreatDoorW.PrintWords Go.Proofs.YtniegajdmbepbaaGreatDoorW.PrintMore
set_option maxRecDepth 100000 in
set_option maxHeartbeats 2000000 in
theorem settle2_calls {w : World} {D : Dsk} {dk : Dk} (h : DiskAt w D dk) (hlt : ∀ b ∈ dk.dur, b < 256) :
    Calls Tryz.prog 65 #[.pointer (some ⟨D.d, 0, none⟩), .slice (some ⟨D.g1, 0, none⟩) dk.dur.length dk.dur.length, .slice (some ⟨D.g2, 0, none⟩) dk.dur.length dk.dur.length] w fun e w' =>
      e = .returned (.tuple #[]) ∧ DiskAt w' D { dk with vis := dk.dur, pend := [] } ∧ Off D w w' := by
  obtain ⟨pv, h⟩ := h
  obtain ⟨N, hN⟩ : ∃ N, dk.dur.length = N := ⟨_, rfl⟩
  have hN2 : dk.vis.length = N := h.len.trans hN
  have hd' : ∀ w1, w1 = w.setRow D.g2 (bv dk.dur).toArray → DAt w1 D { dk with vis := dk.dur } pv ∧ Off D w w1 := by
    rintro w1 rfl
    have hb := But.setRow D.g2 w (bv dk.dur).toArray
    refine ⟨?_, hb.off_2 h.h2⟩
    exact { blk := (hb.block _ h.lt_d (cells_ne h.blk h.vis (by decide))).trans h.blk
            vis := setRow_heap w D.g2 _ _ _ _ h.vis
            dur := h.dur.keep (hb.block _ h.dur.lt h.ne)
            pend := own_keep h.pend fun g hg => by
              obtain ⟨cs, hc⟩ := own_block h.pend hg
              exact hb.block _ (h.pend.lt g hg).2 (cells_ne hc h.vis (by decide))
            len := rfl, hd := h.hd, h1 := h.h1, h2 := h.h2, ne := h.ne, lt := hlt, small := h.small, left := h.left, few := h.few }
  have onec : ∀ i : Nat, ((#[Value.int .i64 0, Value.string ⟨#[]⟩] : Array Value)[i]!).oneCell' = true := by
    intro i
    match i with
    | 0 => rfl
    | 1 => rfl
    | i + 2 => rfl
  have fin : ∀ w1 w2 ys pv', DAt w1 D { dk with vis := dk.dur } pv → Off D w w1 → w2.ownsRow D.B 92 2 pv' 0 [] → w1.grownBy w2 pv.ownBlock → pv'.ownBlock = pv.ownBlock → ys = (w2.setCell ⟨D.d, 4, none⟩ pv') →
      DiskAt ys D { dk with vis := dk.dur, pend := [] } ∧ Off D w ys := by
    rintro w1 w2 ys pv' h1 o1 hy hgr he rfl
    have hb := grown_keep hgr h1.pend h1.blk (by decide)
    have hc := But.setCell D.d 4 w2 pv'
    have h2 := set_blk hb (j := 4) pv'
    have hg1 : w2.heap[D.g1]? = _ := grown_keep hgr h1.pend h1.dur (by decide)
    have hg2 : w2.heap[D.g2]? = _ := grown_keep hgr h1.pend h1.vis (by decide)
    refine ⟨⟨pv', ?_⟩, (o1.trans (Off.grown hgr h1.pend)).trans (hc.off_d h.hd)⟩
    exact { blk := h2, dur := (hc.block _ (Array.getElem?_eq_some_iff.1 hg1).1 (cells_ne hg1 hb (by decide))).trans hg1
            vis := (hc.block _ (Array.getElem?_eq_some_iff.1 hg2).1 (cells_ne hg2 hb (by decide))).trans hg2
            pend := own_keep hy fun g hg => by
              obtain ⟨cs, hcs⟩ := own_block hy hg
              exact hc.block _ (hy.lt g hg).2 (cells_ne hcs hb (by decide))
            len := rfl, hd := h.hd, h1 := h.h1, h2 := h.h2, ne := h.ne, lt := hlt, small := h1.small, left := h.left, few := Nat.zero_le _ }
  rw [hN]
  go_enter Tryz.func65, Tryz.ntmps65
  go_upto_region 0 with (fail)
  refine wp_region_list ?_
  repeat (fail_if_success (refine wpList_copy_all rfl (.tmp 6) (.tmp 7) 39 39 rfl 5 Tryz.underlying39 info8 D.g2 D.g1 N rfl rfl dk.vis dk.dur _ _ h.vis h.dur hN2 hN ?_)); go_step
  refine wpList_copy_all rfl (.tmp 6) (.tmp 7) 39 39 rfl 5 Tryz.underlying39 info8 D.g2 D.g1 N rfl rfl dk.vis dk.dur _ _ h.vis h.dur hN2 hN ?_
  intro w1 hw1
  obtain ⟨h1, o1⟩ := hd' w1 hw1
  clear hw1
  have c4 := h1.cell4
  repeat (fail_if_success (refine wpList_clear_own rfl (.tmp 12) 93 rfl D.B 92 _ 2 Tryz.underlying93 zero_w rfl onec pv _ _ rfl h1.pend ?_)); go_step
  refine wpList_clear_own rfl (.tmp 12) 93 rfl D.B 92 _ 2 Tryz.underlying93 zero_w rfl onec pv _ _ rfl h1.pend ?_
  intro w2 ys hy hgr
  have hb := grown_keep hgr h1.pend h1.blk (by decide)
  have f4 : w2.frozen? ⟨D.d, 4, none⟩ = false := frozen_of hb 4
  clear c4
  have c4 : w2.cell? ⟨D.d, 4, none⟩ = some pv := by simp [World.cell?, hb]
  clear hb
  rcases hy.2 with ⟨rfl, h0⟩ | ⟨gp, cap, cur, rfl, hb2, hg, hn, hcm, hcs, htake⟩
  · have S := fin w1 w2 _ (.slice none 0 0) h1 o1 (World.ownsRow_nil _ _ _ _) hgr rfl rfl
    clear fin hy hgr h0
    go_wp2
    go_end0
    exact ⟨rfl, S⟩
  · have S := fin w1 w2 _ (.slice (some ⟨gp, 0, none⟩) 0 cap) h1 o1 ⟨rfl, .inr ⟨gp, cap, cur, rfl, hb2, hg, Nat.zero_le _, hcm, hcs, by simp⟩⟩ hgr rfl rfl
    clear fin hy hgr hg
    go_wp2
    go_end0
    exact ⟨rfl, S⟩
def outP (n : Nat) (i : Int) : Bool := decide (i < 0) || decide ((n : Int) ≤ i)
theorem crash1_gives (n : Nat) (d Bx : Nat) (pv : Value) (x : Int) (W : World) (A : Option Addr) (c : Nat) (hp : pv = .slice A n c) (hc : W.cell? ⟨Bx, 0, none⟩ = some (.pointer (some ⟨d, 0, none⟩))) (h4 : W.cell? ⟨d, 4, none⟩ = some pv) :
    FnGives Tryz.prog 64 #[.pointer (some ⟨Bx, 0, none⟩)] #[.int .i64 x] (.bool (outP n x)) W := by
  subst hp
  show Calls Tryz.prog 64 #[.int .i64 x, .pointer (some ⟨Bx, 0, none⟩)] W _
  unfold outP
  go_enter Tryz.func64, Tryz.ntmps64
  go_wp2
  all_goals (go_ret; exact ⟨by simp_all, 0, rfl⟩)
open Go Go.RowKit Go.Shelf Go.Sort Go.Lib Go.Proofs.YtniegajdmbepbaaGreatDoorW.PrintWords Go.Proofs.YtniegajdmbepbaaGreatDoorW.PrintMore
theorem delete_none (A : Option Addr) (c : Nat) (f : Value) (w : World) : Calls Tryz.prog 63 #[.slice A 0 c, f] w fun e w' => e = .returned (.slice A 0 c) ∧ w' = w := by
 go_enter Tryz.func63, Tryz.ntmps63
 go_wp2_with (go_at_call 92; refine (Tryz.slices_IndexFunc_int_none (α := Int) A c f w).mono ?_; rintro e w' ⟨rfl, rfl⟩)
 go_ret
 exact ⟨rfl, rfl⟩
theorem delete_calls {W : World} {base n : Nat} {v : Value} {xs : List Int} (h : W.ownsRow base 3 1 v n (iv xs)) (hs : n ≤ 1000000) (m d Bx : Nat) (A : Option Addr) (c : Nat) (hB : Bx < base) (hd : d < base) (hbl : base ≤ W.heap.size)
  (hc : W.cell? ⟨Bx, 0, none⟩ = some (.pointer (some ⟨d, 0, none⟩))) (h4 : W.cell? ⟨d, 4, none⟩ = some (.slice A m c)) :
  Calls Tryz.prog 63 #[v, .func (.func 64) #[] #[.pointer (some ⟨Bx, 0, none⟩)]] W fun e w' => ∃ v', e = .returned v' ∧ w'.ownsRow base 3 1 v' (xs.filter fun x => !outP m x).length (iv (xs.filter fun x => !outP m x)) ∧ W.grownBy w' v.ownBlock := by
 obtain ⟨hl, ⟨rfl, h0⟩ | ⟨g, cap, cur, rfl, hg, hb, h1, h2, h3, h5⟩⟩ := own_parts h
 ·have hx : xs = [] := List.eq_nil_of_length_eq_zero (by omega)
  subst hx
  refine (delete_none none 0 _ W).mono ?_
  rintro e w' ⟨rfl, rfl⟩
  subst h0
  exact ⟨_, rfl, h, ⟨rfl, rfl, rfl, Nat.le_refl _, fun _ _ _ => rfl⟩⟩
 ·have hgl : g < W.heap.size := (Array.getElem?_eq_some_iff.1 hb).1
  have hH : Holds (Value.int .i64) W g 0 xs.toArray := holds_of_block_i hb (by rw [hl]; simpa [iv, encZ] using h5)
  have eg : ∀ args w, (callFunc 64 args).run Tryz.prog w = .ok (.enter 64 args) w := enters_of Tryz.func64 (by kernel_rfl) rfl
  have hp : PredAt Tryz.prog 64 #[.pointer (some ⟨Bx, 0, none⟩)] (Value.int .i64) (outP m) W := fun W' x hw => crash1_gives m d Bx _ x W' A c rfl ((hw.cell (p := ⟨Bx, 0, none⟩) (by show Bx < _; omega)).trans hc) ((hw.cell (p := ⟨d, 4, none⟩) (by show d < _; omega)).trans h4)
  have hpo : PredOver Tryz.prog 64 #[.pointer (some ⟨Bx, 0, none⟩)] (Value.int .i64) (outP m) g 0 xs.toArray.size W := fun q os dk x _ => by
   refine crash1_gives m d Bx _ x _ A c rfl ?_ ?_
   ·unfold sortWorld
    rw [cell?_grow _ _ _ (by show Bx < (putRow _ _ _ _ _).heap.size; rw [size_putRow]; show Bx < W.heap.size; omega), cell?_putRow_other _ _ g 0 _ _ (Or.inl (by show Bx ≠ g; omega))]
    exact hc
   ·unfold sortWorld
    rw [cell?_grow _ _ _ (by show d < (putRow _ _ _ _ _).heap.size; rw [size_putRow]; show d < W.heap.size; omega), cell?_putRow_other _ _ g 0 _ _ (Or.inl (by show d ≠ g; omega))]
    exact h4
  have hcon := Tryz.slices_DeleteFunc (Value.int .i64) (fun _ => rfl) (outP m) 64 #[.pointer (some ⟨Bx, 0, none⟩)] eg 0 Tryz.zeroValue3 g 0 cap xs.toArray W hp hpo hH (by simp; omega) (by simp; omega)
  obtain ⟨ys, hys⟩ : ∃ ys, (xs.filter fun x => !outP m x) = ys := ⟨_, rfl⟩
  have hyl : ys.length ≤ n := by rw [← hys, ← hl]; exact List.length_filter_le _ _
  rw [show xs.toArray.toList = xs from rfl, hys, show xs.toArray.size = n by simpa using hl] at hcon
  rw [hys]
  refine hcon.mono ?_
  rintro e w' ⟨rfl, q, rfl⟩
  have := own_put (w := W) (q := q) (os := #[]) (k := ys.length) (ys ++ List.replicate (n - ys.length) 0) hg hb h1 h2 h3 (by rw [List.length_append, List.length_replicate]; omega) hyl
  rw [List.take_left' rfl] at this
  have hg2 := put_grown (w := W) (g := g) (q := q) (os := #[]) (ys ++ List.replicate (n - ys.length) 0).toArray
  rw [grow_empty] at this hg2
  exact ⟨_, rfl, this, hg2⟩
end Go.Proofs.YtniegajdmbepbaaGreatDoor.Jm
