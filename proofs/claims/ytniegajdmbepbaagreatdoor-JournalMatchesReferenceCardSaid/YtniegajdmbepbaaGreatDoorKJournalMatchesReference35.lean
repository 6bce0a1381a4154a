/- The reference's journal, by pointers: what its blocks hold. Condition: none. The reference's journal: the walk of Open. Condition: fewer than 1,000,000 changes. The reference's Append and Room: their regions that draw. Condition: none. The reference's journal: Room, and laws for the walk of Append. Condition: none. -/
import Derived.Test.YtniegajdmbepbaaGreatDoorKJournalMatchesReference14
import Derived.Test.YtniegajdmbepbaaGreatDoorKJournalMatchesReference28
import Derived.Test.YtniegajdmbepbaaGreatDoorKJournalMatchesReference34
import Derived.Test.YtniegajdmbepbaaGreatDoorKJournalMatchesReference23
import Derived.Deep.LoopGhost
import Derived.Test.YtniegajdmbepbaaGreatDoorKJournalMatchesReference26
import Derived.Test.YtniegajdmbepbaaGreatDoorKJournalMatchesReference27
set_option linter.unusedSimpArgs false
set_option linter.unusedVariables false
open Go.Proofs.YtniegajdmbepbaaGreatDoor
namespace Go.Proofs.YtniegajdmbepbaaGreatDoor.Jm
open Go Go.RowKit Go.Shelf Go.Proofs.YtniegajdmbepbaaGreatDoorW.PrintWords Go.Proofs.YtniegajdmbepbaaGreatDoorW.PrintMore Go.Proofs.YtniegajdmbepbaaGreatDoor.Pr Go.Proofs.YtniegajdmbepbaaGreatDoor.WPure
structure KAt (w : World) (B q r : Nat) (rs : List ByteArray) (n : Nat) (br : Bool) (lv : Value) : Prop where
 blk : w.heap[q]? = some (.cells #[.pointer (some ⟨r, 0, none⟩), lv, .int .i64 (n : Int), .bool br] 43 (0, 0))
 own : w.ownsRow B 9 1 lv rs.length (rs.map Value.string)
 hq : B ≤ q
 hr : r < B
theorem KAt.lt {w : World} {B q r n : Nat} {rs : List ByteArray} {br : Bool} {lv : Value} (h : KAt w B q r rs n br lv) : q < w.heap.size := (Array.getElem?_eq_some_iff.1 h.blk).1
theorem KAt.keep {w W : World} {B q r n : Nat} {rs : List ByteArray} {br : Bool} {lv : Value} (h : KAt w B q r rs n br lv) (k : Below w.heap.size w W) : KAt W B q r rs n br lv :=
 ⟨(k.block _ h.lt).trans h.blk, own_keep h.own fun g hg => k.block g (h.own.lt g hg).2, h.hq, h.hr⟩
theorem KAt.cell0 {w : World} {B q r n : Nat} {rs : List ByteArray} {br : Bool} {lv : Value} (h : KAt w B q r rs n br lv) : w.cell? ⟨q, 0, none⟩ = some (.pointer (some ⟨r, 0, none⟩)) := by simp [World.cell?, h.blk]
theorem KAt.cell1 {w : World} {B q r n : Nat} {rs : List ByteArray} {br : Bool} {lv : Value} (h : KAt w B q r rs n br lv) : w.cell? ⟨q, 1, none⟩ = some lv := by simp [World.cell?, h.blk]
theorem KAt.cell2 {w : World} {B q r n : Nat} {rs : List ByteArray} {br : Bool} {lv : Value} (h : KAt w B q r rs n br lv) : w.cell? ⟨q, 2, none⟩ = some (.int .i64 (n : Int)) := by simp [World.cell?, h.blk]
theorem KAt.cell3 {w : World} {B q r n : Nat} {rs : List ByteArray} {br : Bool} {lv : Value} (h : KAt w B q r rs n br lv) : w.cell? ⟨q, 3, none⟩ = some (.bool br) := by simp [World.cell?, h.blk]
theorem KAt.frozen {w : World} {B q r n : Nat} {rs : List ByteArray} {br : Bool} {lv : Value} (h : KAt w B q r rs n br lv) (j : Nat) : w.frozen? ⟨q, j, none⟩ = false := frozen_of h.blk j
theorem KAt.put {w W : World} {B q r n n' : Nat} {rs : List ByteArray} {br br' : Bool} {lv : Value} (h : KAt w B q r rs n br lv) (hb : But q w W)
  (hW : W.heap[q]? = some (.cells #[.pointer (some ⟨r, 0, none⟩), lv, .int .i64 (n' : Int), .bool br'] 43 (0, 0))) : KAt W B q r rs n' br' lv :=
 ⟨hW, own_keep h.own fun g hg => by
  obtain ⟨cs, hc⟩ := own_block h.own hg
  exact hb.block _ (h.own.lt g hg).2 (cells_ne hc h.blk (by decide)), h.hq, h.hr⟩
theorem KAt.setEnd {w : World} {B q r n : Nat} {rs : List ByteArray} {br : Bool} {lv : Value} (h : KAt w B q r rs n br lv) (m : Nat) : KAt (w.setCell ⟨q, 2, none⟩ (.int .i64 (m : Int))) B q r rs m br lv := by
 refine h.put (But.setCell q 2 w _) ?_
 have := set_blk h.blk (j := 2) (.int .i64 (m : Int))
 simpa using this
theorem KAt.setBroken {w : World} {B q r n : Nat} {rs : List ByteArray} {br : Bool} {lv : Value} (h : KAt w B q r rs n br lv) (b : Bool) : KAt (w.setCell ⟨q, 3, none⟩ (.bool b)) B q r rs n b lv := by
 refine h.put (But.setCell q 3 w _) ?_
 have := set_blk h.blk (j := 3) (.bool b)
 simpa using this
theorem KAt.setRecs {w W : World} {B q r n : Nat} {rs : List ByteArray} {br : Bool} {lv lv' : Value} {x : ByteArray} (h : KAt w B q r rs n br lv) (hgr : w.grownBy W lv.ownBlock)
  (hown : W.ownsRow B 9 1 lv' (rs.length + 1) (rs.map Value.string ++ [.string x])) : KAt (W.setCell ⟨q, 1, none⟩ lv') B q r (rs ++ [x]) n br lv' ∧ But q W (W.setCell ⟨q, 1, none⟩ lv') := by
 have hb := grown_keepS hgr h.own h.blk (by decide)
 have hc := But.setCell q 1 W lv'
 have h2 := set_blk hb (j := 1) lv'
 refine ⟨⟨by simpa using h2, ?_, h.hq, h.hr⟩, hc⟩
 rw [List.length_append, List.map_append]
 exact own_keep hown fun g hg => by
  obtain ⟨cs, hcs⟩ := own_block hown hg
  exact hc.block _ (hown.lt g hg).2 (cells_ne hcs hb (by decide))
theorem KAt.roff {w W : World} {B B0 q r n : Nat} {rs : List ByteArray} {br : Bool} {lv : Value} (h : KAt w B q r rs n br lv) (o : ROff B0 r w W) : KAt W B q r rs n br lv :=
 ⟨o.block _ _ h.blk (by have := h.hq; have := h.hr; omega) (.inr (by show ¬ (_ : Nat) = _; decide)), own_keep h.own fun g hg => by
  obtain ⟨cs, hc⟩ := own_block h.own hg
  rw [hc]
  exact o.block _ _ hc (by have := (h.own.lt g hg).1; have := h.hr; omega) (.inr (by show ¬ (_ : Nat) = _; decide)), h.hq, h.hr⟩
def RefJ (w : World) (B q r : Nat) (jr : Jr) : Prop := (∃ lv, KAt w B q r jr.records jr.size jr.broken lv) ∧ jr.head = headOf chF z32 jr.records ∧ (∀ s ∈ jr.records, s.size ≤ 65536) ∧ jr.records.length ≤ jr.size
structure OpnI (q r : Nat) (s : ByteArray) (w : World) (P : Option (List ByteArray × Nat)) (k : Nat) (wr : World) (rs : List ByteArray) (n : Nat) (lv : Value) : Prop where
 hk : k = s.size - n
 hn : n ≤ s.size
 len : rs.length ≤ n
 sm : ∀ x ∈ rs, x.size ≤ 65536
 jour : KAt wr w.heap.size q r rs n false lv
 off : Below w.heap.size w wr
 par : P = (parse chF (k + 1) (headOf chF z32 rs) ((bl s).drop n)).map fun q => (rs ++ q.1, n + q.2)
theorem rec_split (h x : ByteArray) (r : List Nat) (c : Nat) (hb : ∀ b ∈ r, b < 256) (hd : decS r = some (x, c)) (hl : ¬ r.length < c + 32) :
  recB chF h x = (1 :: r).take (c + 33) ↔ bl (chF h x) = (r.drop c).take 32 := by
 obtain ⟨_, h2, h3, _⟩ := decS_some hb hd
 unfold recB
 generalize bl (chF h x) = y
 rw [show (1 :: r).take (c + 33) = 1 :: r.take (c + 32) from rfl, List.take_add, h3]
 constructor
 ·intro e
  exact List.append_cancel_left (List.cons.inj e).2
 ·intro e
  rw [e]
open Go Go.RowKit Go.Shelf Go.Proofs.YtniegajdmbepbaaGreatDoorW.PrintWords Go.Proofs.YtniegajdmbepbaaGreatDoorW.PrintMore Go.Proofs.YtniegajdmbepbaaGreatDoor.Pr Go.Proofs.YtniegajdmbepbaaGreatDoor.WPure
def kres (w' : World) (B r : Nat) (R : Option Jr × Int) (e : Ending) : Prop :=
  match R.1 with
  | none => e = .returned (.tuple #[.pointer none, .int .i64 R.2])
  | some jr => ∃ q, e = .returned (.tuple #[.pointer (some ⟨q, 0, none⟩), .int .i64 0]) ∧ RefJ w' B q r jr
set_option maxRecDepth 100000 in
set_option maxHeartbeats 8000000 in
theorem refopen_calls {w : World} {B r : Nat} {Z : Nat → Prop} {dk : Dk} (h : RefAt w B r Z dk) (hZ : ∀ k, Z k → k < w.heap.size) (hf : dk.pend.length + 1 ≤ 1000000) :
    Calls Tryz.prog 50 #[.pointer (some ⟨r, 0, none⟩)] w fun e w' => RefAt w' B r Z (openM chF z32 dk).1 ∧ ROff B r w w' ∧ kres w' w.heap.size r (openM chF z32 dk).2 e := by
  have hR := refread_calls h
  have hvl : dk.vis.length = dk.dur.length ∧ ∀ b ∈ dk.vis, b < 256 := by obtain ⟨gs, cs, pl, h, _⟩ := h; exact h.vislen
  obtain ⟨c, hc0⟩ : ∃ A : Nat × Nat, w.cell? ⟨r, 0, none⟩ = some (.slice (some ⟨A.1, 0, none⟩) dk.dur.length A.2) := by obtain ⟨gs, cs, pl, h, _⟩ := h; exact ⟨(gs, cs), h.cell0⟩
  have hrl : r < w.heap.size := by obtain ⟨gs, cs, pl, h, _⟩ := h; exact h.lt_r
  have hsm : dk.dur.length ≤ 4194304 := by obtain ⟨gs, cs, pl, h, _⟩ := h; exact h.small
  obtain ⟨N, hN⟩ : ∃ N, dk.dur.length = N := ⟨_, rfl⟩
  rw [hN] at hR hvl hc0 hsm
  cases ho : dk.off with
  | true =>
    rw [ho, if_pos rfl, if_pos rfl] at hR
    rw [openM_off dk ho]
    go_enter Tryz.func50, Tryz.ntmps50
    go_wp2_with (go_at_call 74; refine hR.mono ?_; rintro e w1 ⟨rfl, hb1⟩)
    go_ret2
    exact ⟨h.keep hb1, ROff.of_below hb1, rfl⟩
  | false =>
    rw [ho, if_neg (by decide), if_neg (by decide)] at hR
    obtain ⟨s, hs⟩ : ∃ s, ofB dk.vis = s := ⟨_, rfl⟩
    have hbl : bl s = dk.vis := by rw [← hs]; exact bl_ofB hvl.2
    have hsz : s.size = N := by rw [← bl_length, hbl, hvl.1]
    rw [hs] at hR
    obtain ⟨P, hP⟩ : ∃ P, P = parse chF (s.size + 1) z32 (bl s) := ⟨_, rfl⟩
    have hH := fun W => Dm.clearwayref02_Head.calls 70001 none 0 [] z32 W (by refine ⟨rfl, by decide, fun hn => absurd hn (by decide)⟩) (Nat.le_refl _) (rhead_f [] (fun r hr => by cases hr) (by decide))
    subst hsz
    go_enter Tryz.func50, Tryz.ntmps50
    go_upto_region 7 with (first
      | (go_at_call 43; refine (hH _).mono ?_; rintro e w2 ⟨rfl, hb2⟩)
      | (go_at_call 74; refine hR.mono ?_; rintro e w1 ⟨rfl, hb1⟩))
    have hq : w.heap.size ≤ w1.heap.size := hb1.size
    have hb0 := below_alloc (Below.refl w1.heap.size w1) (.cells #[.pointer (some ⟨r, 0, none⟩), .slice none 0 0, .int .i64 0, .bool false] 43)
    have hk0 : KAt w2 w.heap.size w1.heap.size r [] 0 false (.slice none 0 0) := KAt.keep ⟨heap_alloc_new .., World.ownsRow_nil _ _ _ _, hq, hrl⟩ hb2
    have hb3 : Below w.heap.size w w2 := (hb1.trans (hb0.mono hq)).trans (hb2.mono (by simp; omega))
    refine wp_world (fun W => KAt W w.heap.size w1.heap.size r [] 0 false (.slice none 0 0) ∧ Below w.heap.size w W) ⟨hk0, hb3⟩ ?_
    clear hb3 hk0 hb0 hb2 hR hH
    generalize w1.heap.size = q at *
    rintro W2 ⟨k2, b2⟩
    have I0 : OpnI q r s w P s.size W2 [] 0 (.slice none 0 0) := ⟨rfl, Nat.zero_le _, Nat.le_refl _, fun x hx => (by cases hx), k2, b2, by rw [hP]; show _ = (parse chF (s.size + 1) z32 ((bl s).drop 0)).map _; rw [List.drop_zero]; cases parse chF (s.size + 1) z32 (bl s) with | none => rfl | some q => simp⟩
    clear k2 b2 hb1
    go_loopg [8, 9, 10, 11] (s.size) (fun k v8 v9 v10 v11 wr => ∃ rs n lv, v8 = .string (headOf chF z32 rs) ∧ OpnI q r s w P k wr rs n lv)
    case atStart => exact ⟨[], 0, _, rfl, I0⟩
    case round =>
      obtain ⟨rs, n, lv, rfl, I⟩ := hrel
      have hk := I.jour
      have c2 := hk.cell2
      have hq : w.heap.size ≤ wr.heap.size := I.off.size
      by_cases hn : n < s.size
      · obtain ⟨b, rr, hbr⟩ : ∃ b rr, (bl s).drop n = b :: rr := by
          cases hd : (bl s).drop n with
          | nil => have := List.drop_eq_nil_iff.1 hd; rw [bl_length] at this; omega
          | cons b r => exact ⟨b, r, rfl⟩
        have hb : (bl s)[n]? = some b := by
          have := congrArg List.head? hbr
          rw [List.head?_drop] at this
          simpa using this
        have hix := idx_str s n b hb
        have x1 : ((n : Int) < (s.size : Int)) = True := eq_true (by omega)
        have x2 : decide ((n : Int) < (s.size : Int)) = true := decide_eq_true (by omega)
        by_cases h0 : b = 0
        · have y1 : ((b : Int) == 0) = true := by rw [h0]; rfl
          have y2 : ((b : Int) != 0) = false := by rw [h0]; rfl
          have y3 : (b : Int) = 0 := by rw [h0]; rfl
          have hPe : P = some (rs, n) := by
            rw [I.par, parse_end _ _ _ (by omega) (.inr (by rw [hbr, h0]; rfl))]
            simp
          clear h0 hbr hb
          have hns : n ≤ s.size := I.hn
          obtain ⟨M, hM⟩ : ∃ M, s.size - n = M := ⟨_, rfl⟩
          have hwM : IntKind.i64.wrap ((s.size : Int) - (n : Int)) = (M : Int) := by rw [IntKind.wrap_i64]; omega
          have hmk : ∀ w, (Instr.makeSlice 39 (.int .i64 (M : Int)) (.int .i64 (M : Int))).run Tryz.prog w = .ok (.slice (some ⟨w.heap.size, 0, none⟩) M M) (w.alloc (.cells (bv (zeros M)).toArray 5)) := run_make_bytes M (by omega)
          have hcv := conv_zeros M wr
          have kA := below_alloc (Below.refl wr.heap.size wr) (.cells (bv (zeros M)).toArray 5)
          have hkA := hk.keep kA
          have c2A := hkA.cell2
          have BA : Below w.heap.size w (wr.alloc (.cells (bv (zeros M)).toArray 5)) := I.off.trans (kA.mono hq)
          have hA := h.keep BA
          have OA : ROff B r w (wr.alloc (.cells (bv (zeros M)).toArray 5)) := ROff.of_below BA
          have hZA : ∀ k, Z k → k < (wr.alloc (.cells (bv (zeros M)).toArray 5)).heap.size := fun k hk => Nat.lt_of_lt_of_le (hZ k hk) BA.size
          have hZs : (ofB (zeros M)).size = M := by rw [size_ofB (zeros_lt M), zeros_length]
          have hp : parse chF (dk.vis.length + 1) z32 dk.vis = some (rs, n) := by rw [← hPe, hP, hbl, hvl.1]
          have hexn : bl (s.extract n s.size) = dk.vis.drop n := by rw [bl_extract, hbl, ← hvl.1, List.take_length]
          have hdl : (dk.vis.drop n).length = M := by rw [List.length_drop, hvl.1, hM]
          have sm := I.sm
          have ln := I.len
          have s1 : ((n : Int) ≤ (s.size : Int)) = True := eq_true (by omega)
          by_cases hz : (dk.vis.drop n).all (· == 0) = true
          · have hO := openM_clean dk ho rs n hp hz
            have hsx : s.extract n s.size = ofB (zeros M) := by
              apply bl_inj
              rw [hexn, bl_ofB (zeros_lt M), all_zero hz, hdl]
            have g1 : ((s.extract n s.size).toList == (ofB (zeros M)).toList) = true := by rw [hsx]; exact beq_self_eq_true _
            have g2 : ((s.extract n s.size).toList != (ofB (zeros M)).toList) = false := by rw [bne, g1]; rfl
            have fin : ∀ W, W = (wr.alloc (.cells (bv (zeros M)).toArray 5)) → RefAt W B r Z (openM chF z32 dk).1 ∧ ROff B r w W ∧ kres W w.heap.size r (openM chF z32 dk).2 (.returned (.tuple #[.pointer (some ⟨q, 0, none⟩), .int .i64 0])) := by
              intro W hW
              rw [hO, hW]
              exact ⟨hA, OA, q, rfl, ⟨lv, hkA⟩, rfl, sm, ln⟩
            generalize ofB (zeros M) = Zr at hcv g1 g2
            clear hO hsx hz hp hexn hdl hPe hP hbl hs hM I
            go_wp2_with fail
            go_ret2
            exact fin _ rfl
          · have hO := openM_wipe dk ho rs n hp hz
            rw [hvl.1, hM] at hO
            have hsx : s.extract n s.size ≠ ofB (zeros M) := by
              intro e
              apply hz
              rw [← hexn, e, bl_ofB (zeros_lt M)]
              exact zeros_all M
            have g1 : ((s.extract n s.size).toList == (ofB (zeros M)).toList) = false := by
              rw [beq_eq_false_iff_ne]
              intro e
              exact hsx (nl_toList.1 e)
            have g2 : ((s.extract n s.size).toList != (ofB (zeros M)).toList) = true := by rw [bne, g1]; rfl
            have hW := refwrite_calls hA (n : Int) (ofB (zeros M)) hf (by omega) (by omega)
            have r1 : runC dk [.wr n (ofB (zeros M)), .sy] = if (dk.write (n : Int) (ofB (zeros M))).2 = 0 then runC (dk.write (n : Int) (ofB (zeros M))).1 [.sy] else dk.write (n : Int) (ofB (zeros M)) := rfl
            have r2 : ∀ d1 : Dk, runC d1 [.sy] = if d1.sync.2 = 0 then (d1.sync.1, 0) else d1.sync := fun _ => rfl
            obtain ⟨D1, hD1⟩ : ∃ D1, dk.write (n : Int) (ofB (zeros M)) = D1 := ⟨_, rfl⟩
            rw [hD1] at hW r1
            obtain ⟨d1, e1⟩ := D1
            rw [r1, r2] at hO
            dsimp only at hO hW
            generalize ofB (zeros M) = Zr at hcv g1 g2 hW
            clear hsx hz hp hexn hdl hPe hP hbl hs hM I r1 r2 hD1 hZs
            by_cases h1 : e1 = 0
            · subst h1
              rw [if_pos rfl] at hO
              obtain ⟨D2, hD2⟩ : ∃ D2, d1.sync = D2 := ⟨_, rfl⟩
              obtain ⟨d2, e2⟩ := D2
              rw [hD2] at hO
              dsimp only at hO
              by_cases h2 : e2 = 0
              · subst h2
                rw [if_pos rfl, if_pos rfl] at hO
                have hO := Aside0.mk hO
                go_wp2_with (first
                  | (go_at_call 45; refine (refsync_calls hw3 (fun k hk => Nat.lt_of_lt_of_le (hZA k hk) o3.size)).mono ?_; rw [hD2]; rintro e w4 ⟨rfl, hw4, o4⟩)
                  | (go_at_call 16; refine hW.mono ?_; rintro e w3 ⟨rfl, hw3, o3⟩))
                go_ret2
                rw [hO.out]
                exact ⟨hw4, (OA.trans o3).trans o4, q, rfl, ⟨lv, (hkA.roff o3).roff o4⟩, rfl, sm, ln⟩
              · have j1 : (e2 == 0) = false := beq_eq_false_iff_ne.mpr h2
                have j2 : (e2 != 0) = true := bne_iff_ne.mpr h2
                have j3 : (e2 = 0) = False := eq_false h2
                rw [if_neg h2, if_neg h2] at hO
                have hO := Aside0.mk hO
                clear h2
                go_wp2_with (first
                  | (go_at_call 45; refine (refsync_calls hw3 (fun k hk => Nat.lt_of_lt_of_le (hZA k hk) o3.size)).mono ?_; rw [hD2]; rintro e w4 ⟨rfl, hw4, o4⟩)
                  | (go_at_call 16; refine hW.mono ?_; rintro e w3 ⟨rfl, hw3, o3⟩))
                go_ret2
                rw [hO.out]
                exact ⟨hw4, (OA.trans o3).trans o4, rfl⟩
            · have j1 : (e1 == 0) = false := beq_eq_false_iff_ne.mpr h1
              have j2 : (e1 != 0) = true := bne_iff_ne.mpr h1
              have j3 : (e1 = 0) = False := eq_false h1
              rw [if_neg h1, if_neg h1] at hO
              have hO := Aside0.mk hO
              clear h1
              go_wp2_with (first
                | (go_at_call 16; refine hW.mono ?_; rintro e w3 ⟨rfl, hw3, o3⟩))
              go_ret2
              rw [hO.out]
              exact ⟨hw3, OA.trans o3, rfl⟩
        · have y1 : ((b : Int) == 0) = false := beq_eq_false_iff_ne.mpr (by omega)
          have y2 : ((b : Int) != 0) = true := bne_iff_ne.mpr (by omega)
          have y3 : ((b : Int) = 0) = False := eq_false (by omega)
          have hgk : gk = s.size - n := I.hk
          obtain ⟨f, hf1⟩ : ∃ f, gk = f + 1 := ⟨gk - 1, by omega⟩
          have bad : P = none → ∀ w', Below wr.heap.size wr w' → RefAt w' B r Z (openM chF z32 dk).1 ∧ ROff B r w w' ∧ kres w' w.heap.size r (openM chF z32 dk).2 (.returned (.tuple #[.pointer none, .int .i64 292])) := by
            intro hPn w' hw'
            rw [openM_bad dk ho (by rw [← hbl, bl_length, ← hP, hPn])]
            have := I.off.trans (hw'.mono hq)
            exact ⟨h.keep this, ROff.of_below this, rfl⟩
          obtain ⟨q1, hq1⟩ : ∃ q1, n + 1 = q1 := ⟨_, rfl⟩
          have k0 : IntKind.i64.wrap ((n : Int) + 1) = (q1 : Int) := by rw [IntKind.wrap_i64]; omega
          have hS0 := (string_same s ((n + 1 : Nat) : Int) 45 (by omega) (by decide)).trans (string_eq s (n + 1) 45 (by omega) (by omega) (by decide))
          by_cases h1 : b = 1
          · subst h1
            have hrl2 : rr.length + 1 = s.size - n := by
              have := congrArg List.length hbr
              rw [List.length_drop, bl_length] at this
              simpa using this.symm
            have hdr : (bl s).drop (n + 1) = rr := by
              rw [← List.drop_drop, hbr]
              rfl
            rcases dec_rel s (n + 1) (by omega) with ⟨hd, hr⟩ | ⟨x, c0, hd, hr, hcs, hx⟩
            · rw [hdr] at hd
              rw [hr, hq1] at hS0
              have bad2 := bad (by
                rw [I.par, hbr, parse_dec _ _ _ hd]
                rfl)
              clear bad I
              go_wp2_with (go_at_call 75; refine (Rw.clearwayref01_String.calls 45 s (q1 : Int) _ _ _ _ hS0).mono ?_; rintro e w3 ⟨rfl, hb3⟩; have c23 := (hk.keep hb3).cell2)
              go_ret2
              exact bad2 _ hb3
            · rw [hdr] at hd
              obtain ⟨m, hm⟩ : ∃ m, q1 + c0 = m := ⟨_, rfl⟩
              rw [hr, hq1, hm] at hS0
              have hhd := headOf_size z32 z32_size rs
              obtain ⟨y, hy⟩ : ∃ y, chF (headOf chF z32 rs) x = y := ⟨_, rfl⟩
              have hC := fun W => Dm.clearwayref02_Chain.calls 200000 (headOf chF z32 rs) x y W (by rw [← hy]; exact rchain_f _ x (by omega) 200000 (by omega))
              have hH2 : headOf chF z32 (rs ++ [x]) = y := by rw [← hy]; unfold headOf; rw [List.foldl_append]; rfl
              obtain ⟨hd0, hhd0⟩ : ∃ hd0, headOf chF z32 rs = hd0 := ⟨_, rfl⟩
              obtain ⟨m2, hm2⟩ : ∃ m2, m + 32 = m2 := ⟨_, rfl⟩
              have k1 : IntKind.i64.wrap ((m : Int) + 32) = (m2 : Int) := by rw [IntKind.wrap_i64]; omega
              rw [hhd0] at hC
              by_cases hl : rr.length < c0 + 32
              · have bad2 := bad (by
                  rw [I.par, hbr, parse_short _ _ _ _ _ hd hl]
                  rfl)
                have v1 : ((s.size : Int) < (m2 : Int)) = True := eq_true (by omega)
                have v2 : decide ((s.size : Int) < (m2 : Int)) = true := decide_eq_true (by omega)
                have v3 : (s.size < m2) = True := eq_true (by omega)
                rw [hhd0]
                clear bad I hm2 hH2 hhd0 hy
                go_wp2_with (first
                  | (go_at_call 57; refine (hC _).mono ?_; rintro e w4 ⟨rfl, hb4⟩)
                  | (go_at_call 75; refine (Rw.clearwayref01_String.calls 45 s (q1 : Int) _ _ _ _ hS0).mono ?_; rintro e w3 ⟨rfl, hb3⟩; have c23 := (hk.keep hb3).cell2))
                go_ret2
                exact bad2 _ (hb3.trans (hb4.mono hb3.size))
              · have v1 : ((s.size : Int) < (m2 : Int)) = False := eq_false (by omega)
                have v2 : decide ((s.size : Int) < (m2 : Int)) = false := decide_eq_false (by omega)
                have v3 : (s.size < m2) = False := eq_false (by omega)
                have hm2s : m2 ≤ s.size := by omega
                have u1 : ((m : Int) ≤ (m2 : Int)) = True := eq_true (by omega)
                have u2 : m ≤ m2 := by omega
                have hex : bl (s.extract m m2) = (rr.drop c0).take 32 := by
                  rw [bl_extract, List.drop_take, ← hdr, List.drop_drop]
                  congr 1
                  · omega
                  · congr 1
                    omega
                have hrs := rec_split hd0 x rr c0 (fun b hb => bl_lt s b (List.mem_of_mem_drop (by rw [hdr]; exact hb))) hd hl
                rw [← hhd0, hy, ← hex] at hrs
                by_cases he : s.extract m m2 = y
                · have hrec : recB chF (headOf chF z32 rs) x = (1 :: rr).take (c0 + 33) := hrs.2 (by rw [he])
                  have w1 : ((s.extract m m2).toList == y.toList) = true := by rw [he]; exact beq_self_eq_true _
                  have w2 : ((s.extract m m2).toList != y.toList) = false := by rw [bne, w1]; rfl
                  have hpar : P = (parse chF (s.size - m2 + 1) (headOf chF z32 (rs ++ [x])) ((bl s).drop m2)).map fun q => ((rs ++ [x]) ++ q.1, m2 + q.2) := by
                    rw [I.par, hbr, parse_next _ _ _ _ _ hd hl hrec, hH2, hy, show (1 :: rr).drop (c0 + 33) = (bl s).drop m2 by rw [← hbr, List.drop_drop]; congr 1; omega,
                      parse_fuel gk (s.size - m2 + 1) _ _ (by rw [List.length_drop, bl_length]; omega) (by rw [List.length_drop, bl_length]; omega)]
                    cases parse chF (s.size - m2 + 1) y (List.drop m2 (bl s)) with
                    | none => rfl
                    | some q2 => simp; omega
                  have hsm2 : ∀ z ∈ rs ++ [x], z.size ≤ 65536 := by
                    intro z hz
                    rcases List.mem_append.1 hz with hz | hz
                    · exact I.sm z hz
                    · rw [List.mem_singleton] at hz; rw [hz]; exact hx
                  have hln2 : (rs ++ [x]).length ≤ m2 := by have := I.len; rw [List.length_append, List.length_singleton]; omega
                  have hlen := I.len
                  have boff := I.off
                  rw [hhd0]
                  clear bad I hrs he hrec hex hhd0 hy
                  go_upto_region 14 with (first
                    | (go_at_call 57; refine (hC _).mono ?_; rintro e w4 ⟨rfl, hb4⟩)
                    | (go_at_call 75; refine (Rw.clearwayref01_String.calls 45 s (q1 : Int) _ _ _ _ hS0).mono ?_; rintro e w3 ⟨rfl, hb3⟩; have c23 := (hk.keep hb3).cell2))
                  have hb34 := hb3.trans (hb4.mono hb3.size)
                  refine wp_world (fun W => KAt W w.heap.size q r rs n false lv ∧ Below w.heap.size w W) ⟨hk.keep hb34, boff.trans (hb34.mono hq)⟩ ?_
                  clear hb34 c23 hb3 hb4 boff hk c2
                  rintro W4 ⟨H4, B4⟩
                  have c1 := H4.cell1
                  obtain ⟨i0, hi0, hz0, hz1, hz2⟩ := info_parts infoS
                  have kA := below_alloc (Below.refl W4.heap.size W4) (.cells #[.string x] 9)
                  have H5 := H4.keep kA
                  have N5 := World.news_of_block (cs := #[.string x]) (t := 9) (fr := (0, 0)) (heap_alloc_new W4 (.cells #[.string x] 9))
                  have hB5 : w.heap.size ≤ (W4.alloc (.cells #[.string x] 9)).heap.size := Nat.le_trans B4.size kA.size
                  go_upto_region 15 with (at_builtin; refine wpList_append_own (P := Tryz.prog) _ rfl (.tmp 88) (.tmp 90) 22 rfl w.heap.size 9 i0 _ 1 16 Tryz.underlying22 hi0 hz0 hz1 hz2 rfl (by decide) lv _ _ rfl H5.own ⟨W4.heap.size, 0, none⟩ 1 1 [.string x] rfl rfl N5 (by intro u hu; simp at hu; rcases hu with rfl; rfl) (by unfold maxLen; omega) (by omega) hB5 ?_
                                          intro v0 W6 hown hgr _
                                          obtain ⟨g, cap, hv⟩ : ∃ g cap, v0 = .slice (some ⟨g, 0, none⟩) (rs.length + 1) cap := by
                                            rcases id hown.2 with ⟨_, h0⟩ | ⟨g, cap, cur, hv, _, _, _⟩
                                            · exact absurd h0 (by omega)
                                            · exact ⟨g, cap, hv⟩
                                          subst hv
                                          have hb6 := grown_keepS hgr H5.own H5.blk (by decide)
                                          have f1 : W6.frozen? ⟨q, 1, none⟩ = false := frozen_of hb6 1
                                          have c1b : W6.cell? ⟨q, 1, none⟩ = some lv := by simp [World.cell?, hb6])
                  obtain ⟨v', hv'⟩ : ∃ v', v' = (Value.slice (some ⟨g, 0, none⟩) (rs.length + 1) cap) := ⟨_, rfl⟩
                  rw [← hv'] at hown ⊢
                  clear hv'
                  obtain ⟨P7, T7⟩ := H5.setRecs hgr hown
                  have B6 : Below w.heap.size w W6 := (B4.trans (kA.mono B4.size)).grown hgr hB5 (fun k hk => own_base H5.own k hk)
                  have B7 : Below w.heap.size w (W6.setCell ⟨q, 1, none⟩ v') := ⟨T7.os.trans B6.os, T7.tape.trans B6.tape, T7.output.trans B6.output, Nat.le_trans B6.size T7.size, fun k hk => (T7.block k (Nat.lt_of_lt_of_le hk B6.size) (by have := H4.hq; omega)).trans (B6.block k hk)⟩
                  refine wp_world (fun W => KAt W w.heap.size q r (rs ++ [x]) n false v' ∧ Below w.heap.size w W) ⟨P7, B7⟩ ?_
                  clear P7 B7 B6 T7 c1b f1 hb6 hgr hown hB5 N5 H5 kA c1 H4 B4
                  rintro W7 ⟨H7, B7⟩
                  have c2 := H7.cell2
                  have f2 := H7.frozen 2
                  have H8 := H7.setEnd m2
                  have T8 := But.setCell q 2 W7 (.int .i64 (m2 : Int))
                  have B8 : Below w.heap.size w (W7.setCell ⟨q, 2, none⟩ (.int .i64 (m2 : Int))) := ⟨T8.os.trans B7.os, T8.tape.trans B7.tape, T8.output.trans B7.output, Nat.le_trans B7.size T8.size, fun k hk => (T8.block k (Nat.lt_of_lt_of_le hk B7.size) (by have := H7.hq; omega)).trans (B7.block k hk)⟩
                  go_wp2_with fail
                  go_roundg (s.size - m2)
                  case measure => omega
                  case rel => exact ⟨rs ++ [x], m2, v', by rw [hH2], ⟨rfl, hm2s, hln2, hsm2, H8, B8, hpar⟩⟩
                · have w1 : ((s.extract m m2).toList == y.toList) = false := by
                    rw [beq_eq_false_iff_ne]
                    intro e
                    exact he (nl_toList.1 e)
                  have w2 : ((s.extract m m2).toList != y.toList) = true := by rw [bne, w1]; rfl
                  have bad2 := bad (by
                    rw [I.par, hbr, parse_other _ _ _ _ _ hd hl (fun e => he (bl_inj (hrs.1 e).symm))]
                    rfl)
                  rw [hhd0]
                  clear bad I hrs he hex hH2 hhd0 hy
                  go_wp2_with (first
                    | (go_at_call 57; refine (hC _).mono ?_; rintro e w4 ⟨rfl, hb4⟩)
                    | (go_at_call 75; refine (Rw.clearwayref01_String.calls 45 s (q1 : Int) _ _ _ _ hS0).mono ?_; rintro e w3 ⟨rfl, hb3⟩; have c23 := (hk.keep hb3).cell2))
                  go_ret2
                  exact bad2 _ (hb3.trans (hb4.mono hb3.size))
          · have z1 : ((b : Int) == 1) = false := beq_eq_false_iff_ne.mpr (by omega)
            have z2 : ((b : Int) = 1) = False := eq_false (by omega)
            have z3 : ((b : Int) != 1) = true := bne_iff_ne.mpr (by omega)
            obtain ⟨V, hV⟩ : ∃ V, resS s (n + 1) (Code.dec ((nl s).drop (n + 1))) = V := ⟨_, rfl⟩
            obtain ⟨v1, v2, v3⟩ := V
            rw [hV, hq1] at hS0
            have bad2 := bad (by
              rw [I.par, hbr, parse_bad _ _ _ _ h0 h1]
              rfl)
            clear bad I
            go_wp2_with (go_at_call 75; refine (Rw.clearwayref01_String.calls 45 s (q1 : Int) _ _ _ _ hS0).mono ?_; rintro e w3 ⟨rfl, hb3⟩; have c23 := (hk.keep hb3).cell2)
            go_ret2
            exact bad2 _ hb3
      · have x1 : ((n : Int) < (s.size : Int)) = False := eq_false (by omega)
        have x2 : decide ((n : Int) < (s.size : Int)) = false := decide_eq_false (by omega)
        have hPe : P = some (rs, n) := by
          rw [I.par, parse_end _ _ _ (by omega) (.inl (List.drop_eq_nil_of_le (by rw [bl_length]; omega)))]
          simp
        have hns : n ≤ s.size := I.hn
        obtain ⟨M, hM⟩ : ∃ M, s.size - n = M := ⟨_, rfl⟩
        have hwM : IntKind.i64.wrap ((s.size : Int) - (n : Int)) = (M : Int) := by rw [IntKind.wrap_i64]; omega
        have hmk : ∀ w, (Instr.makeSlice 39 (.int .i64 (M : Int)) (.int .i64 (M : Int))).run Tryz.prog w = .ok (.slice (some ⟨w.heap.size, 0, none⟩) M M) (w.alloc (.cells (bv (zeros M)).toArray 5)) := run_make_bytes M (by omega)
        have hcv := conv_zeros M wr
        have kA := below_alloc (Below.refl wr.heap.size wr) (.cells (bv (zeros M)).toArray 5)
        have hkA := hk.keep kA
        have c2A := hkA.cell2
        have BA : Below w.heap.size w (wr.alloc (.cells (bv (zeros M)).toArray 5)) := I.off.trans (kA.mono hq)
        have hA := h.keep BA
        have OA : ROff B r w (wr.alloc (.cells (bv (zeros M)).toArray 5)) := ROff.of_below BA
        have hZA : ∀ k, Z k → k < (wr.alloc (.cells (bv (zeros M)).toArray 5)).heap.size := fun k hk => Nat.lt_of_lt_of_le (hZ k hk) BA.size
        have hZs : (ofB (zeros M)).size = M := by rw [size_ofB (zeros_lt M), zeros_length]
        have hp : parse chF (dk.vis.length + 1) z32 dk.vis = some (rs, n) := by rw [← hPe, hP, hbl, hvl.1]
        have hexn : bl (s.extract n s.size) = dk.vis.drop n := by rw [bl_extract, hbl, ← hvl.1, List.take_length]
        have hdl : (dk.vis.drop n).length = M := by rw [List.length_drop, hvl.1, hM]
        have sm := I.sm
        have ln := I.len
        have s1 : ((n : Int) ≤ (s.size : Int)) = True := eq_true (by omega)
        by_cases hz : (dk.vis.drop n).all (· == 0) = true
        · have hO := openM_clean dk ho rs n hp hz
          have hsx : s.extract n s.size = ofB (zeros M) := by
            apply bl_inj
            rw [hexn, bl_ofB (zeros_lt M), all_zero hz, hdl]
          have g1 : ((s.extract n s.size).toList == (ofB (zeros M)).toList) = true := by rw [hsx]; exact beq_self_eq_true _
          have g2 : ((s.extract n s.size).toList != (ofB (zeros M)).toList) = false := by rw [bne, g1]; rfl
          have fin : ∀ W, W = (wr.alloc (.cells (bv (zeros M)).toArray 5)) → RefAt W B r Z (openM chF z32 dk).1 ∧ ROff B r w W ∧ kres W w.heap.size r (openM chF z32 dk).2 (.returned (.tuple #[.pointer (some ⟨q, 0, none⟩), .int .i64 0])) := by
            intro W hW
            rw [hO, hW]
            exact ⟨hA, OA, q, rfl, ⟨lv, hkA⟩, rfl, sm, ln⟩
          generalize ofB (zeros M) = Zr at hcv g1 g2
          clear hO hsx hz hp hexn hdl hPe hP hbl hs hM I
          go_wp2_with fail
          go_ret2
          exact fin _ rfl
        · have hO := openM_wipe dk ho rs n hp hz
          rw [hvl.1, hM] at hO
          have hsx : s.extract n s.size ≠ ofB (zeros M) := by
            intro e
            apply hz
            rw [← hexn, e, bl_ofB (zeros_lt M)]
            exact zeros_all M
          have g1 : ((s.extract n s.size).toList == (ofB (zeros M)).toList) = false := by
            rw [beq_eq_false_iff_ne]
            intro e
            exact hsx (nl_toList.1 e)
          have g2 : ((s.extract n s.size).toList != (ofB (zeros M)).toList) = true := by rw [bne, g1]; rfl
          have hW := refwrite_calls hA (n : Int) (ofB (zeros M)) hf (by omega) (by omega)
          have r1 : runC dk [.wr n (ofB (zeros M)), .sy] = if (dk.write (n : Int) (ofB (zeros M))).2 = 0 then runC (dk.write (n : Int) (ofB (zeros M))).1 [.sy] else dk.write (n : Int) (ofB (zeros M)) := rfl
          have r2 : ∀ d1 : Dk, runC d1 [.sy] = if d1.sync.2 = 0 then (d1.sync.1, 0) else d1.sync := fun _ => rfl
          obtain ⟨D1, hD1⟩ : ∃ D1, dk.write (n : Int) (ofB (zeros M)) = D1 := ⟨_, rfl⟩
          rw [hD1] at hW r1
          obtain ⟨d1, e1⟩ := D1
          rw [r1, r2] at hO
          dsimp only at hO hW
          generalize ofB (zeros M) = Zr at hcv g1 g2 hW
          clear hsx hz hp hexn hdl hPe hP hbl hs hM I r1 r2 hD1 hZs
          by_cases h1 : e1 = 0
          · subst h1
            rw [if_pos rfl] at hO
            obtain ⟨D2, hD2⟩ : ∃ D2, d1.sync = D2 := ⟨_, rfl⟩
            obtain ⟨d2, e2⟩ := D2
            rw [hD2] at hO
            dsimp only at hO
            by_cases h2 : e2 = 0
            · subst h2
              rw [if_pos rfl, if_pos rfl] at hO
              have hO := Aside0.mk hO
              go_wp2_with (first
                | (go_at_call 45; refine (refsync_calls hw3 (fun k hk => Nat.lt_of_lt_of_le (hZA k hk) o3.size)).mono ?_; rw [hD2]; rintro e w4 ⟨rfl, hw4, o4⟩)
                | (go_at_call 16; refine hW.mono ?_; rintro e w3 ⟨rfl, hw3, o3⟩))
              go_ret2
              rw [hO.out]
              exact ⟨hw4, (OA.trans o3).trans o4, q, rfl, ⟨lv, (hkA.roff o3).roff o4⟩, rfl, sm, ln⟩
            · have j1 : (e2 == 0) = false := beq_eq_false_iff_ne.mpr h2
              have j2 : (e2 != 0) = true := bne_iff_ne.mpr h2
              have j3 : (e2 = 0) = False := eq_false h2
              rw [if_neg h2, if_neg h2] at hO
              have hO := Aside0.mk hO
              clear h2
              go_wp2_with (first
                | (go_at_call 45; refine (refsync_calls hw3 (fun k hk => Nat.lt_of_lt_of_le (hZA k hk) o3.size)).mono ?_; rw [hD2]; rintro e w4 ⟨rfl, hw4, o4⟩)
                | (go_at_call 16; refine hW.mono ?_; rintro e w3 ⟨rfl, hw3, o3⟩))
              go_ret2
              rw [hO.out]
              exact ⟨hw4, (OA.trans o3).trans o4, rfl⟩
          · have j1 : (e1 == 0) = false := beq_eq_false_iff_ne.mpr h1
            have j2 : (e1 != 0) = true := bne_iff_ne.mpr h1
            have j3 : (e1 = 0) = False := eq_false h1
            rw [if_neg h1, if_neg h1] at hO
            have hO := Aside0.mk hO
            clear h1
            go_wp2_with (first
              | (go_at_call 16; refine hW.mono ?_; rintro e w3 ⟨rfl, hw3, o3⟩))
            go_ret2
            rw [hO.out]
            exact ⟨hw3, OA.trans o3, rfl⟩
open Go Go.RowKit Go.Shelf Go.Proofs.YtniegajdmbepbaaGreatDoor.Rf Go.Proofs.YtniegajdmbepbaaGreatDoorW.PrintWords Go.Proofs.YtniegajdmbepbaaGreatDoorW.PrintLast Go.Proofs.YtniegajdmbepbaaGreatDoorW.PrintMore Go.Proofs.YtniegajdmbepbaaGreatDoor.Sha
def rapT.T17 : Bool × List (List Nat × List Nat) := (true, [([], []), ([0], [0]), ([1], [1]), ([2], [2]), ([], []), ([4], [4]), ([5], [5]), ([6], [6]), ([7], [7]), ([], []), ([9], [9]), ([3, 8, 10], [3, 8, 10]), ([11, 11, 0, 1, 2, 3, 4, 5, 6, 7, 8, 9, 10, 11], [11])])
def rapT.B17 : List Nat := [0, 1, 3, 7, 0, 16, 48, 112, 240, 0, 512, 2047, 4095]
theorem rapT.tab17 : rtab .any (opsOf Tryz.f12 17) = rapT.T17 := by kernel_rfl
theorem rapT.bits17 : waitsOk rapT.T17.2 rapT.B17 = true := by kernel_rfl
noncomputable def rapR17 : Code := ((Tryz.f12.body.bind (regionOf 17)).getD .skip)
set_option maxHeartbeats 8000000 in
set_option maxRecDepth 100000 in
theorem rap_r17 (R : Act → World → Prop) (v W : World) (v1 v2 v3 v4 v6 v7 v8 v9 v10 v11 v12 v13 v14 v15 v16 v17 v18 v19 v20 v21 v22 v23 v24 v25 v26 v27 v28 v29 v30 v31 v32 v33 v34 v35 v36 v37 v38 v39 v40 v41 v42 v43 v44 v45 v46 v47 v48 v49 v50 v51 v52 v53 v54 v55 v56 v57 v58 v59 v60 v61 v62 v63 v64 v65 v66 v67 v68 v69 v70 v71 v72 v73 v74 v75 v76 v77 v78 v79 v80 v81 v82 v83 v84 v85 v86 v87 v88 v89 v90 v91 v92 v93 v94 v95 v96 v97 v98 v99 v100 v101 v102 v103 v104 v105 v106 v107 v108 v109 v110 v111 v112 v113 v114 v115 v116 v117 v118 v119 : Value) (q r n n1 : Nat) (x : Int) (out : ByteArray) (P : World → Prop)
  (hq : q < v.heap.size) (hc0 : v.cell? ⟨q, 0, none⟩ = some (.pointer (some ⟨r, 0, none⟩))) (hc2 : v.cell? ⟨q, 2, none⟩ = some (.int .i64 (n : Int))) (hw : IntKind.i64.wrap ((n : Int) + 1) = (n1 : Int)) (hw2 : wrap64 ((n : Int) + 1) = (n1 : Int)) (ho1 : ((1 : Int) ≤ (out.size : Int)) = True) (ho2 : (1 ≤ out.size) = True)
  (hcr : ∀ V, SBl v V → Calls Tryz.prog 16 #[.pointer (some ⟨r, 0, none⟩), .int .i64 (n1 : Int), .string (out.extract 1 out.size)] V fun e w' => e = .returned (.int .i64 x) ∧ P w')
  (hS : SBl v W)
  (hQ : ∀ (z53 z54 z55 z56 z57 z58 z59 z60 z61 z62 z63 z64 : Value) (W' : World), P W' → R ⟨#[Value.pointer (some ⟨q, 0, none⟩), v1, v2, v3, v4, Value.string out, v6, v7, v8, v9, Value.int .i64 x, v11, v12, v13, v14, v15, v16, v17, v18, v19, v20, v21, v22, v23, v24, v25, v26, v27, v28, v29, v30, v31, v32, v33, v34, v35, v36, v37, v38, v39, v40, v41, v42, v43, v44, v45, v46, v47, v48, v49, v50, v51, v52, z53, z54, z55, z56, z57, z58, z59, z60, z61, z62, z63, z64, v65, v66, v67, v68, v69, v70, v71, v72, v73, v74, v75, v76, v77, v78, v79, v80, v81, v82, v83, v84, v85, v86, v87, v88, v89, v90, v91, v92, v93, v94, v95, v96, v97, v98, v99, v100, v101, v102, v103, v104, v105, v106, v107, v108, v109, v110, v111, v112, v113, v114, v115, v116, v117, v118, v119], []⟩ W') :
  rapR17.wp Tryz.prog (Norm R) ⟨#[Value.pointer (some ⟨q, 0, none⟩), v1, v2, v3, v4, Value.string out, v6, v7, v8, v9, v10, v11, v12, v13, v14, v15, v16, v17, v18, v19, v20, v21, v22, v23, v24, v25, v26, v27, v28, v29, v30, v31, v32, v33, v34, v35, v36, v37, v38, v39, v40, v41, v42, v43, v44, v45, v46, v47, v48, v49, v50, v51, v52, v53, v54, v55, v56, v57, v58, v59, v60, v61, v62, v63, v64, v65, v66, v67, v68, v69, v70, v71, v72, v73, v74, v75, v76, v77, v78, v79, v80, v81, v82, v83, v84, v85, v86, v87, v88, v89, v90, v91, v92, v93, v94, v95, v96, v97, v98, v99, v100, v101, v102, v103, v104, v105, v106, v107, v108, v109, v110, v111, v112, v113, v114, v115, v116, v117, v118, v119], []⟩ W := by
 unfold rapR17
 conv => arg 2; whnf
 refine start_ (n := 13) (S := SBl v) (ds := [11]) (Sx14.b 13 0) (by kernel_rfl) rfl rfl (keepSBl hS (below_drew1 (Below.refl _ _))) (fun hHeld => ?_); refine with_tabW rapT.tab17 rapT.bits17 (fun HT_ HW_ => ?_)
 generalize W.drew = w0_ at hHeld ⊢
 refine Sx14.p (i := 0) (N := some 53) HT_.out (Sx14.b 13 1) ?_
 refine Sx14.p (i := 1) (N := some 54) HT_.out (Sx14.b 13 3) ?_
 refine Sx14.p (i := 2) (N := some 55) HT_.out (Sx14.b 13 7) ?_
 refine Sx14.p (i := 4) (N := some 57) HT_.out (Sx14.b 13 23) ?_
 refine Sx14.p (i := 5) (N := some 58) HT_.out (Sx14.b 13 55) ?_
 refine Sx14.p (i := 6) (N := some 59) HT_.out (Sx14.b 13 119) ?_
 refine Sx14.p (i := 9) (N := some 62) HT_.out (Sx14.b 13 631) ?_
 refine Sx14.p (i := 10) (N := some 63) HT_.out (Sx14.b 13 1655) ?_
 refine take_ (i := 3) (N := some 56) (v := ?_) (a' := ?_) (Sx14.b 13 1663) rfl rfl (take_ofW HT_.out HW_.out (by kernel_rfl)) (fun _ _ _ h => h) (Or.inl ⟨by rfl, ?_⟩) hHeld ?_ ?_
 rotate_left
 ·intro w' hS_
  have c0_ := (hS_.cell (p := ⟨q, 0, none⟩) hq).trans hc0
  have c2_ := (hS_.cell (p := ⟨q, 2, none⟩) hq).trans hc2
  go_simp
  with_reducible rfl
 rotate_left
 ·simp only [Act.put, Sx14.u, Sx14.v, Sx14.w, i64_w, i32_w]
  rfl
 refine take_ (i := 7) (N := some 60) (v := ?_) (a' := ?_) (Sx14.b 13 1791) rfl rfl (take_ofW HT_.out HW_.out (by kernel_rfl)) (fun _ _ _ h => h) (Or.inl ⟨by rfl, ?_⟩) hHeld ?_ ?_
 rotate_left
 ·intro w' hS_
  have c0_ := (hS_.cell (p := ⟨q, 0, none⟩) hq).trans hc0
  have c2_ := (hS_.cell (p := ⟨q, 2, none⟩) hq).trans hc2
  go_simp
  with_reducible rfl
 rotate_left
 ·simp only [Act.put, Sx14.u, Sx14.v, Sx14.w, i64_w, i32_w]
  rfl
 refine Sx14.p (i := 8) (N := some 61) HT_.out (Sx14.b 13 2047) ?_
 refine last_ (i := 11) (N := some 64) (Sx14.b 13 4095) rfl rfl (one_of HT_.out (by kernel_rfl)) (by decide) (fun K hK => ?_)
 refine goes_ Tryz.func16 (by kernel_rfl) rfl #[.pointer (some ⟨r, 0, none⟩), .int .i64 (n1 : Int), .string (out.extract 1 out.size)] (by rfl) rfl rfl (by (try simp only [List.map_toArray, List.map_cons, List.map_nil]); first | done | rfl) ?_
 refine (hcr _ hHeld).mono ?_
 rintro e w9 ⟨rfl, hp9⟩
 refine ⟨_, rfl, ?_⟩
 refine hK.out _ _ ?_
 clear hK K
 refine norm_ (a' := ?_) ?_ ?_
 rotate_left
 ·show Act.put _ (some 64) _ = _
  simp only [Act.put, Sx14.u, Sx14.v, Sx14.w, i64_w, i32_w]
  rfl
 refine Sx14.p (i := 12) (N := some 10) HT_.out (Sx14.b 13 8191) ?_
 refine done_ (done_of HT_.out (by kernel_rfl)) ?_
 exact hQ _ _ _ _ _ _ _ _ _ _ _ _ _ hp9
def rapT.T21 : Bool × List (List Nat × List Nat) := (true, [([], []), ([0], [0]), ([1], [1]), ([2], [2]), ([], []), ([4], [4]), ([5], [5]), ([6], [6]), ([], []), ([8], [8]), ([3, 7, 9], [3, 7, 9]), ([10, 10, 0, 1, 2, 3, 4, 5, 6, 7, 8, 9, 10], [10])])
def rapT.B21 : List Nat := [0, 1, 3, 7, 0, 16, 48, 112, 0, 256, 1023, 2047]
theorem rapT.tab21 : rtab .any (opsOf Tryz.f12 21) = rapT.T21 := by kernel_rfl
theorem rapT.bits21 : waitsOk rapT.T21.2 rapT.B21 = true := by kernel_rfl
noncomputable def rapR21 : Code := ((Tryz.f12.body.bind (regionOf 21)).getD .skip)
set_option maxHeartbeats 8000000 in
set_option maxRecDepth 100000 in
theorem rap_r21 (R : Act → World → Prop) (v W : World) (v1 v2 v3 v4 v6 v7 v8 v9 v10 v11 v12 v13 v14 v15 v16 v17 v18 v19 v20 v21 v22 v23 v24 v25 v26 v27 v28 v29 v30 v31 v32 v33 v34 v35 v36 v37 v38 v39 v40 v41 v42 v43 v44 v45 v46 v47 v48 v49 v50 v51 v52 v53 v54 v55 v56 v57 v58 v59 v60 v61 v62 v63 v64 v65 v66 v67 v68 v69 v70 v71 v72 v73 v74 v75 v76 v77 v78 v79 v80 v81 v82 v83 v84 v85 v86 v87 v88 v89 v90 v91 v92 v93 v94 v95 v96 v97 v98 v99 v100 v101 v102 v103 v104 v105 v106 v107 v108 v109 v110 v111 v112 v113 v114 v115 v116 v117 v118 v119 : Value) (q r n n1 : Nat) (x : Int) (out : ByteArray) (P : World → Prop)
  (hq : q < v.heap.size) (hc0 : v.cell? ⟨q, 0, none⟩ = some (.pointer (some ⟨r, 0, none⟩))) (hc2 : v.cell? ⟨q, 2, none⟩ = some (.int .i64 (n : Int))) (hw : IntKind.i64.wrap ((n : Int) + 1) = (n1 : Int)) (hw2 : wrap64 ((n : Int) + 1) = (n1 : Int)) (ho1 : ((1 : Int) ≤ (out.size : Int)) = True) (ho2 : (1 ≤ out.size) = True)
  (hcr : ∀ V, SBl v V → Calls Tryz.prog 16 #[.pointer (some ⟨r, 0, none⟩), .int .i64 (n : Int), .string (out.extract 0 1)] V fun e w' => e = .returned (.int .i64 x) ∧ P w')
  (hS : SBl v W)
  (hQ : ∀ (z74 z75 z76 z77 z78 z79 z80 z81 z82 z83 z84 : Value) (W' : World), P W' → R ⟨#[Value.pointer (some ⟨q, 0, none⟩), v1, v2, v3, v4, Value.string out, v6, v7, v8, v9, Value.int .i64 x, v11, v12, v13, v14, v15, v16, v17, v18, v19, v20, v21, v22, v23, v24, v25, v26, v27, v28, v29, v30, v31, v32, v33, v34, v35, v36, v37, v38, v39, v40, v41, v42, v43, v44, v45, v46, v47, v48, v49, v50, v51, v52, v53, v54, v55, v56, v57, v58, v59, v60, v61, v62, v63, v64, v65, v66, v67, v68, v69, v70, v71, v72, v73, z74, z75, z76, z77, z78, z79, z80, z81, z82, z83, z84, v85, v86, v87, v88, v89, v90, v91, v92, v93, v94, v95, v96, v97, v98, v99, v100, v101, v102, v103, v104, v105, v106, v107, v108, v109, v110, v111, v112, v113, v114, v115, v116, v117, v118, v119], []⟩ W') :
  rapR21.wp Tryz.prog (Norm R) ⟨#[Value.pointer (some ⟨q, 0, none⟩), v1, v2, v3, v4, Value.string out, v6, v7, v8, v9, v10, v11, v12, v13, v14, v15, v16, v17, v18, v19, v20, v21, v22, v23, v24, v25, v26, v27, v28, v29, v30, v31, v32, v33, v34, v35, v36, v37, v38, v39, v40, v41, v42, v43, v44, v45, v46, v47, v48, v49, v50, v51, v52, v53, v54, v55, v56, v57, v58, v59, v60, v61, v62, v63, v64, v65, v66, v67, v68, v69, v70, v71, v72, v73, v74, v75, v76, v77, v78, v79, v80, v81, v82, v83, v84, v85, v86, v87, v88, v89, v90, v91, v92, v93, v94, v95, v96, v97, v98, v99, v100, v101, v102, v103, v104, v105, v106, v107, v108, v109, v110, v111, v112, v113, v114, v115, v116, v117, v118, v119], []⟩ W := by
 unfold rapR21
 conv => arg 2; whnf
 refine start_ (n := 12) (S := SBl v) (ds := [10]) (Sx14.b 12 0) (by kernel_rfl) rfl rfl (keepSBl hS (below_drew1 (Below.refl _ _))) (fun hHeld => ?_); refine with_tabW rapT.tab21 rapT.bits21 (fun HT_ HW_ => ?_)
 generalize W.drew = w0_ at hHeld ⊢
 refine Sx14.p (i := 0) (N := some 74) HT_.out (Sx14.b 12 1) ?_
 refine Sx14.p (i := 1) (N := some 75) HT_.out (Sx14.b 12 3) ?_
 refine Sx14.p (i := 2) (N := some 76) HT_.out (Sx14.b 12 7) ?_
 refine Sx14.p (i := 4) (N := some 78) HT_.out (Sx14.b 12 23) ?_
 refine Sx14.p (i := 5) (N := some 79) HT_.out (Sx14.b 12 55) ?_
 refine Sx14.p (i := 6) (N := some 80) HT_.out (Sx14.b 12 119) ?_
 refine Sx14.p (i := 8) (N := some 82) HT_.out (Sx14.b 12 375) ?_
 refine Sx14.p (i := 9) (N := some 83) HT_.out (Sx14.b 12 887) ?_
 refine take_ (i := 3) (N := some 77) (v := ?_) (a' := ?_) (Sx14.b 12 895) rfl rfl (take_ofW HT_.out HW_.out (by kernel_rfl)) (fun _ _ _ h => h) (Or.inl ⟨by rfl, ?_⟩) hHeld ?_ ?_
 rotate_left
 ·intro w' hS_
  have c0_ := (hS_.cell (p := ⟨q, 0, none⟩) hq).trans hc0
  have c2_ := (hS_.cell (p := ⟨q, 2, none⟩) hq).trans hc2
  go_simp
  with_reducible rfl
 rotate_left
 ·simp only [Act.put, Sx14.u, Sx14.v, Sx14.w, i64_w, i32_w]
  rfl
 refine take_ (i := 7) (N := some 81) (v := ?_) (a' := ?_) (Sx14.b 12 1023) rfl rfl (take_ofW HT_.out HW_.out (by kernel_rfl)) (fun _ _ _ h => h) (Or.inl ⟨by rfl, ?_⟩) hHeld ?_ ?_
 rotate_left
 ·intro w' hS_
  have c0_ := (hS_.cell (p := ⟨q, 0, none⟩) hq).trans hc0
  have c2_ := (hS_.cell (p := ⟨q, 2, none⟩) hq).trans hc2
  go_simp
  with_reducible rfl
 rotate_left
 ·simp only [Act.put, Sx14.u, Sx14.v, Sx14.w, i64_w, i32_w]
  rfl
 refine last_ (i := 10) (N := some 84) (Sx14.b 12 2047) rfl rfl (one_of HT_.out (by kernel_rfl)) (by decide) (fun K hK => ?_)
 refine goes_ Tryz.func16 (by kernel_rfl) rfl #[.pointer (some ⟨r, 0, none⟩), .int .i64 (n : Int), .string (out.extract 0 1)] (by rfl) rfl rfl (by (try simp only [List.map_toArray, List.map_cons, List.map_nil]); first | done | rfl) ?_
 refine (hcr _ hHeld).mono ?_
 rintro e w9 ⟨rfl, hp9⟩
 refine ⟨_, rfl, ?_⟩
 refine hK.out _ _ ?_
 clear hK K
 refine norm_ (a' := ?_) ?_ ?_
 rotate_left
 ·show Act.put _ (some 84) _ = _
  simp only [Act.put, Sx14.u, Sx14.v, Sx14.w, i64_w, i32_w]
  rfl
 refine Sx14.p (i := 11) (N := some 10) HT_.out (Sx14.b 12 4095) ?_
 refine done_ (done_of HT_.out (by kernel_rfl)) ?_
 exact hQ _ _ _ _ _ _ _ _ _ _ _ _ hp9
def rroomT.T1 : Bool × List (List Nat × List Nat) := (true, [([], []), ([0], [0]), ([1], [1]), ([2], [2]), ([3], [3]), ([4], [4]), ([5], [5]), ([6], [6]), ([], []), ([8], [8]), ([9], [9]), ([10], [10]), ([7, 11], [7, 11]), ([12, 0, 1, 2, 3, 4, 5, 6, 7, 8, 9, 10, 11, 12], [12])])
def rroomT.B1 : List Nat := [0, 1, 3, 7, 15, 31, 63, 127, 0, 256, 768, 1792, 4095, 8191]
theorem rroomT.tab1 : rtab .any (opsOf Tryz.f21 1) = rroomT.T1 := by kernel_rfl
theorem rroomT.bits1 : waitsOk rroomT.T1.2 rroomT.B1 = true := by kernel_rfl
noncomputable def rroomR1 : Code := ((Tryz.f21.body.bind (regionOf 1)).getD .skip)
set_option maxHeartbeats 8000000 in
set_option maxRecDepth 100000 in
theorem rroom_r1 (R : Act → World → Prop) (v W : World) (v1 v2 v3 v4 v5 v6 v7 v8 v9 v10 v11 v12 v13 v14 v15 : Value) (q r n m gs cs : Nat) (x : Int)
  (hq : q < v.heap.size) (hr : r < v.heap.size) (hc0 : v.cell? ⟨q, 0, none⟩ = some (.pointer (some ⟨r, 0, none⟩))) (hc2 : v.cell? ⟨q, 2, none⟩ = some (.int .i64 (n : Int))) (hd0 : v.cell? ⟨r, 0, none⟩ = some (.slice (some ⟨gs, 0, none⟩) m cs)) (hw : IntKind.i64.wrap ((m : Int) - (n : Int)) = x) (hw2 : wrap64 ((m : Int) - (n : Int)) = x)
  (hS : SBl v W)
  (hQ : ∀ (z3 z4 z5 z6 z7 z8 z9 z10 z11 z12 z13 z14 z15 : Value) (W' : World), SBl v W' → R ⟨#[Value.pointer (some ⟨q, 0, none⟩), v1, Value.int .i64 x, z3, z4, z5, z6, z7, z8, z9, z10, z11, z12, z13, z14, z15], []⟩ W') :
  rroomR1.wp Tryz.prog (Norm R) ⟨#[Value.pointer (some ⟨q, 0, none⟩), v1, v2, v3, v4, v5, v6, v7, v8, v9, v10, v11, v12, v13, v14, v15], []⟩ W := by
 unfold rroomR1
 conv => arg 2; whnf
 refine start_ (n := 14) (S := SBl v) (ds := []) (Sx14.b 14 0) (by kernel_rfl) rfl rfl (keepSBl hS (below_drew1 (Below.refl _ _))) (fun hHeld => ?_); refine with_tabW rroomT.tab1 rroomT.bits1 (fun HT_ HW_ => ?_)
 generalize W.drew = w0_ at hHeld ⊢
 refine Sx14.p (i := 0) (N := some 3) HT_.out (Sx14.b 14 1) ?_
 refine Sx14.p (i := 1) (N := some 4) HT_.out (Sx14.b 14 3) ?_
 refine Sx14.p (i := 2) (N := some 5) HT_.out (Sx14.b 14 7) ?_
 refine Sx14.p (i := 8) (N := some 11) HT_.out (Sx14.b 14 263) ?_
 refine Sx14.p (i := 9) (N := some 12) HT_.out (Sx14.b 14 775) ?_
 refine Sx14.p (i := 10) (N := some 13) HT_.out (Sx14.b 14 1799) ?_
 refine take_ (i := 3) (N := some 6) (v := ?_) (a' := ?_) (Sx14.b 14 1807) rfl rfl (take_ofW HT_.out HW_.out (by kernel_rfl)) (fun _ _ _ h => h) (Or.inl ⟨by rfl, ?_⟩) hHeld ?_ ?_
 rotate_left
 ·intro w' hS_
  have c0_ := (hS_.cell (p := ⟨q, 0, none⟩) hq).trans hc0
  have c2_ := (hS_.cell (p := ⟨q, 2, none⟩) hq).trans hc2
  have d0_ := (hS_.cell (p := ⟨r, 0, none⟩) hr).trans hd0
  go_simp
  with_reducible rfl
 rotate_left
 ·simp only [Act.put, Sx14.u, Sx14.v, Sx14.w, i64_w, i32_w]
  rfl
 refine Sx14.p (i := 4) (N := some 7) HT_.out (Sx14.b 14 1823) ?_
 refine Sx14.p (i := 5) (N := some 8) HT_.out (Sx14.b 14 1855) ?_
 refine take_ (i := 6) (N := some 9) (v := ?_) (a' := ?_) (Sx14.b 14 1919) rfl rfl (take_ofW HT_.out HW_.out (by kernel_rfl)) (fun _ _ _ h => h) (Or.inl ⟨by rfl, ?_⟩) hHeld ?_ ?_
 rotate_left
 ·intro w' hS_
  have c0_ := (hS_.cell (p := ⟨q, 0, none⟩) hq).trans hc0
  have c2_ := (hS_.cell (p := ⟨q, 2, none⟩) hq).trans hc2
  have d0_ := (hS_.cell (p := ⟨r, 0, none⟩) hr).trans hd0
  go_simp
  with_reducible rfl
 rotate_left
 ·simp only [Act.put, Sx14.u, Sx14.v, Sx14.w, i64_w, i32_w]
  rfl
 refine Sx14.p (i := 7) (N := some 10) HT_.out (Sx14.b 14 2047) ?_
 refine take_ (i := 11) (N := some 14) (v := ?_) (a' := ?_) (Sx14.b 14 4095) rfl rfl (take_ofW HT_.out HW_.out (by kernel_rfl)) (fun _ _ _ h => h) (Or.inl ⟨by rfl, ?_⟩) hHeld ?_ ?_
 rotate_left
 ·intro w' hS_
  have c0_ := (hS_.cell (p := ⟨q, 0, none⟩) hq).trans hc0
  have c2_ := (hS_.cell (p := ⟨q, 2, none⟩) hq).trans hc2
  have d0_ := (hS_.cell (p := ⟨r, 0, none⟩) hr).trans hd0
  go_simp
  with_reducible rfl
 rotate_left
 ·simp only [Act.put, Sx14.u, Sx14.v, Sx14.w, i64_w, i32_w]
  rfl
 refine Sx14.p (i := 12) (N := some 15) HT_.out (Sx14.b 14 8191) ?_
 refine Sx14.p (i := 13) (N := some 2) HT_.out (Sx14.b 14 16383) ?_
 refine done_ (done_of HT_.out (by kernel_rfl)) ?_
 exact hQ _ _ _ _ _ _ _ _ _ _ _ _ _ _ hHeld
open Go Go.RowKit Go.Shelf Go.Proofs.YtniegajdmbepbaaGreatDoorW.PrintWords Go.Proofs.YtniegajdmbepbaaGreatDoorW.PrintMore Go.Proofs.YtniegajdmbepbaaGreatDoor.Pr Go.Proofs.YtniegajdmbepbaaGreatDoor.WPure
set_option maxRecDepth 100000 in
set_option maxHeartbeats 4000000 in
theorem refroom_calls {w : World} {Bj B q r n : Nat} {Z : Nat → Prop} {dk : Dk} {rs : List ByteArray} {br : Bool} {lv : Value} (hj : KAt w Bj q r rs n br lv) (hd : RefAt w B r Z dk) (hn : n ≤ 4194304) :
    Calls Tryz.prog 21 #[.pointer (some ⟨q, 0, none⟩)] w fun e w' => e = .returned (.int .i64 ((dk.dur.length : Int) - (n : Int))) ∧ Below w.heap.size w w' := by
  obtain ⟨gs, cs, pl, hd, _⟩ := hd
  have hs := hd.small
  have hw : IntKind.i64.wrap ((dk.dur.length : Int) - (n : Int)) = (dk.dur.length : Int) - (n : Int) := by rw [IntKind.wrap_i64]; omega
  have hw2 : wrap64 ((dk.dur.length : Int) - (n : Int)) = (dk.dur.length : Int) - (n : Int) := by unfold wrap64; omega
  go_enter Tryz.func21, Tryz.ntmps21
  go_upto_region 1 with (fail)
  refine Sha.norm_wp ?_
  refine rroom_r1 _ w w _ _ _ _ _ _ _ _ _ _ _ _ _ _ _ q r n dk.dur.length gs cs ((dk.dur.length : Int) - (n : Int)) hj.lt hd.lt_r hj.cell0 hj.cell2 hd.cell0 hw hw2 (Below.refl _ _) ?_
  intro z3 z4 z5 z6 z7 z8 z9 z10 z11 z12 z13 z14 z15 W' hW
  go_wp2_with fail
  go_ret
  exact ⟨rfl, hW⟩
structure Rj (B r q : Nat) (w W : World) : Prop where
  os : W.os = w.os
  tape : W.tape = w.tape
  output : W.output = w.output
  size : w.heap.size ≤ W.heap.size
  block : ∀ k o, w.heap[k]? = some o → k ≠ r → k ≠ q → (k < B ∨ ¬ isC o) → W.heap[k]? = some o
theorem Rj.trans {B r q : Nat} {a b c : World} (h : Rj B r q a b) (k : Rj B r q b c) : Rj B r q a c :=
  ⟨k.os.trans h.os, k.tape.trans h.tape, k.output.trans h.output, Nat.le_trans h.size k.size, fun i o hi hr hq hc => k.block i o (h.block i o hi hr hq hc) hr hq hc⟩
theorem Rj.of_roff {B r q : Nat} {w W : World} (h : ROff B r w W) : Rj B r q w W := ⟨h.os, h.tape, h.output, h.size, fun k o hk hr _ hc => h.block k o hk hr hc⟩
theorem Rj.refl (B r q : Nat) (w : World) : Rj B r q w w := Rj.of_roff (ROff.refl _ _ _)
theorem Rj.of_but {B r q : Nat} {w W : World} (h : But q w W) : Rj B r q w W :=
  ⟨h.os, h.tape, h.output, h.size, fun k o hk _ hq _ => (h.block k (Array.getElem?_eq_some_iff.1 hk).1 hq).trans hk⟩
theorem RAt.beside {w W : World} {B r q : Nat} {dk : Dk} {gs cs : Nat} {pl : Value} (h : RAt w B r dk gs cs pl) (hb : But q w W) {cc : Array Value} (hq : w.heap[q]? = some (.cells cc 43 (0, 0))) : RAt W B r dk gs cs pl :=
  ⟨(hb.block _ h.lt_r (cells_ne h.blk hq (by decide))).trans h.blk,
   own_keep h.sure fun g hg => by
     obtain ⟨cs, hc⟩ := own_block h.sure hg
     exact hb.block g (h.sure.lt g hg).2 (cells_ne hc hq (by decide)),
   own_keep h.pend fun g hg => by
     obtain ⟨cs, hc⟩ := own_block h.pend hg
     exact hb.block g (h.pend.lt g hg).2 (cells_ne hc hq (by decide)), h.hr, h.vis, h.lt, h.pos, h.small, h.fit, h.left, h.few⟩
theorem RefAt.beside {w W : World} {B r q : Nat} {Z : Nat → Prop} {dk : Dk} (h : RefAt w B r Z dk) (hb : But q w W) {cc : Array Value} (hq : w.heap[q]? = some (.cells cc 43 (0, 0))) : RefAt W B r Z dk :=
  let ⟨gs, cs, pl, h, hz⟩ := h; ⟨gs, cs, pl, h.beside hb hq, hz⟩
theorem own_roff {w W : World} {base n B r : Nat} {Z : Nat → Prop} {dk : Dk} {v : Value} {xs : List Value} (h : w.ownsRow base 9 1 v n xs) (o : ROff B r w W) (hd : RefAt w B r Z dk) : W.ownsRow base 9 1 v n xs := by
  obtain ⟨gs, cs, pl, hd, _⟩ := hd
  refine own_keep h fun g hg => ?_
  obtain ⟨cs2, hc⟩ := own_block h hg
  rw [hc]
  exact o.block g _ hc (cells_ne hc hd.blk (by decide)) (.inr (by show ¬ (_ : Nat) = _; decide))
theorem wpl_appL {ops : Array Oper} {rest : List Oper} {o : Oper} {a : Act} {Q : Exit → Act → World → Prop} {w : World} (hgd : o.guard = none) (s x : Operand)
    (ho : o.op = .call { callee := .builtin .append, args := #[s, x], argTypes := #[22, 22] }) (base b2 : Nat) (v vx : Value) (xs ys : List ByteArray)
    (hs : a.eval s = v) (hown : w.ownsRow base 9 1 v xs.length (xs.map Value.string)) (hx : a.eval x = vx) (hox : w.ownsRow b2 9 1 vx ys.length (ys.map Value.string))
    (hlen : xs.length + ys.length ≤ 2000000) (hbase : base ≤ w.heap.size)
    (h : ∀ v' w', w'.ownsRow base 9 1 v' (xs ++ ys).length ((xs ++ ys).map Value.string) → Below base w w' → wpList Tryz.prog ops Q rest (a.put o.dst v') w') :
    wpList Tryz.prog ops Q (o :: rest) a w := by
  obtain ⟨i0, hi0, hz0, hz1, hz2⟩ := info_parts infoS
  rcases id hox.2 with ⟨rfl, h0⟩ | ⟨g, cap, cur, rfl, hb, hg, r⟩
  · refine wpList_append_own_none hgd s x 22 ho base 9 i0 1 Tryz.underlying22 hi0 v _ _ hs hown hx ?_
    obtain rfl := List.eq_nil_of_length_eq_zero h0
    refine h v w (by rw [List.append_nil]; exact hown) (Below.refl _ _)
  · refine wpList_append_own (P := Tryz.prog) w hgd s x 22 ho base 9 i0 _ 1 16 Tryz.underlying22 hi0 hz0 hz1 hz2 rfl (by decide) v _ _ hs hown ⟨g, 0, none⟩ ys.length cap (ys.map Value.string) hx (by simp) (fun j u hu => hox.cells (g := g) rfl j u hu)
      (by intro u hu; obtain ⟨y, _, rfl⟩ := List.mem_map.1 hu; rfl) (by unfold maxLen; omega) (by omega) hbase ?_
    intro v' w' h2 h3 h4
    refine h v' w' (by rw [List.length_append, List.map_append]; exact h2) ((Below.refl base w).grown h3 hbase (fun k hk => own_base hown k hk))
theorem run4 (d d1 d2 d3 d4 : Dk) (a b : Nat) (x y : ByteArray) (e1 e2 e3 e4 : Int) (h1 : d.write (a : Int) x = (d1, e1)) (h2 : d1.sync = (d2, e2)) (h3 : d2.write (b : Int) y = (d3, e3)) (h4 : d3.sync = (d4, e4)) :
    runC d [.wr a x, .sy, .wr b y, .sy] = if e1 = 0 then (if e2 = 0 then (if e3 = 0 then (if e4 = 0 then (d4, 0) else (d4, e4)) else (d3, e3)) else (d2, e2)) else (d1, e1) := by
  have r1 : ∀ d1 : Dk, runC d1 [.sy] = if d1.sync.2 = 0 then (d1.sync.1, 0) else d1.sync := fun _ => rfl
  have r2 : ∀ d1 : Dk, runC d1 [.wr b y, .sy] = if (d1.write (b : Int) y).2 = 0 then runC (d1.write (b : Int) y).1 [.sy] else d1.write (b : Int) y := fun _ => rfl
  have r3 : ∀ d1 : Dk, runC d1 [.sy, .wr b y, .sy] = if d1.sync.2 = 0 then runC d1.sync.1 [.wr b y, .sy] else d1.sync := fun _ => rfl
  have r4 : runC d [.wr a x, .sy, .wr b y, .sy] = if (d.write (a : Int) x).2 = 0 then runC (d.write (a : Int) x).1 [.sy, .wr b y, .sy] else d.write (a : Int) x := rfl
  rw [r4, h1]
  dsimp only
  by_cases q1 : e1 = 0
  · rw [if_pos q1, if_pos q1, r3, h2]
    dsimp only
    by_cases q2 : e2 = 0
    · rw [if_pos q2, if_pos q2, r2, h3]
      dsimp only
      by_cases q3 : e3 = 0
      · rw [if_pos q3, if_pos q3, r1, h4]
      · rw [if_neg q3, if_neg q3]
    · rw [if_neg q2, if_neg q2]
  · rw [if_neg q1, if_neg q1]
theorem write_pend {d d1 : Dk} {a : Int} {x : ByteArray} {e : Int} (h : d.write a x = (d1, e)) : d1.pend.length ≤ d.pend.length + 1 := by
  have : (d.write a x).1.pend.length ≤ d.pend.length + 1 := by
    unfold Dk.write
    split
    · exact Nat.le_succ _
    · split
      · rw [used_pend, List.length_append]; exact Nat.le_refl _
      · exact Nat.le_succ _
  rw [h] at this
  exact this
theorem sync_pend {d d1 : Dk} {e : Int} (h : d.sync = (d1, e)) : d1.pend.length ≤ d.pend.length := by
  have : d.sync.1.pend.length ≤ d.pend.length := by
    unfold Dk.sync
    split
    · exact Nat.le_refl _
    · exact Nat.zero_le _
  rw [h] at this
  exact this
theorem ofB_extract_one (l : List Nat) (h : ∀ b ∈ l, b < 256) : (ofB l).extract 1 (ofB l).size = ofB l.tail ∧ (ofB l).extract 0 1 = ofB (l.take 1) := by
  constructor
  · apply bl_inj
    rw [bl_extract, bl_ofB h, bl_ofB (fun b hb => h b (List.mem_of_mem_tail hb)), size_ofB h, List.take_length, List.drop_one]
  · apply bl_inj
    rw [bl_extract, bl_ofB h, bl_ofB (fun b hb => h b (List.mem_of_mem_take hb)), List.drop_zero]
end Go.Proofs.YtniegajdmbepbaaGreatDoor.Jm
