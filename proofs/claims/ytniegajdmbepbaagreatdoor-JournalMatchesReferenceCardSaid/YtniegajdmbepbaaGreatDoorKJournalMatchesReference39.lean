/- No condition. -/
import Derived.Test.YtniegajdmbepbaaGreatDoorKJournalMatchesReference36
import Derived.Test.YtniegajdmbepbaaGreatDoorKJournalMatchesReference37
import Derived.Test.YtniegajdmbepbaaGreatDoorKJournalMatchesReference38
namespace Go.Proofs.YtniegajdmbepbaaGreatDoor.Jm
open Go Go.RowKit Go.Shelf Go.Proofs.YtniegajdmbepbaaGreatDoorW.PrintWords Go.Proofs.YtniegajdmbepbaaGreatDoorW.PrintMore Go.Proofs.YtniegajdmbepbaaGreatDoor.Pl Go.Proofs.YtniegajdmbepbaaGreatDoor.Pr Go.Proofs.YtniegajdmbepbaaGreatDoor.Open
theorem cellLtM {w : World} {p : Addr} {u : Value} (h : w.cell? p = some u) : p.block < w.heap.size := by
 unfold World.cell? at h
 cases hb : w.heap[p.block]? with
 | none => rw [hb] at h; cases h
 | some o => exact (Array.getElem?_eq_some_iff.1 hb).1
theorem op_cellsM {w : World} {A : Option Addr} {n : Nat} {z : List (Int × List ByteArray × Int × List Int)} (h : Kd.C opKd w A n z) (i : Nat) (hi : i < n) (hn : z.length = n) :
  ∃ bk o x A1 c1 A2 c2, A = some ⟨bk, o, none⟩ ∧ z[i]? = some x ∧ bk < w.heap.size ∧ w.cell? ⟨bk, o + i * 4, none⟩ = some (.int .i64 x.1) ∧ w.cell? ⟨bk, o + i * 4 + 1, none⟩ = some (.slice A1 x.2.1.length c1) ∧ w.cell? ⟨bk, o + i * 4 + 2, none⟩ = some (.int .i64 x.2.2.1) ∧ w.cell? ⟨bk, o + i * 4 + 3, none⟩ = some (.slice A2 x.2.2.2.length c2) ∧
   Kd.C Kd.string w A1 x.2.1.length x.2.1 ∧ x.2.1.length ≤ c1 ∧ Kd.C (Kd.int .i64) w A2 x.2.2.2.length x.2.2.2 ∧ x.2.2.2.length ≤ c2 := by
 have one : ∀ j : Nat, j < n → ∃ ad x A1 c1 A2 c2, A = some ad ∧ z[j]? = some x ∧ w.cell? (ad.add (j * 4)) = some (.int .i64 x.1) ∧ w.cell? (ad.add (j * 4 + 1)) = some (.slice A1 x.2.1.length c1) ∧ w.cell? (ad.add (j * 4 + 2)) = some (.int .i64 x.2.2.1) ∧ w.cell? (ad.add (j * 4 + 3)) = some (.slice A2 x.2.2.2.length c2) ∧
   Kd.C Kd.string w A1 x.2.1.length x.2.1 ∧ x.2.1.length ≤ c1 ∧ Kd.C (Kd.int .i64) w A2 x.2.2.2.length x.2.2.2 ∧ x.2.2.2.length ≤ c2 := by
  intro j hj
  obtain ⟨ad, cs, rfl, hcl, hK, hcell⟩ := Kd.C_get h (0, [], 0, []) (j : Int) (by omega) (by omega)
  obtain ⟨x, hx⟩ : ∃ x, z[j]? = some x := ⟨_, List.getElem?_eq_getElem (by omega)⟩
  have hg : z.getD j (0, [], 0, []) = x := by simp [List.getD, hx]
  rw [Int.toNat_natCast] at hK hcell
  rw [hg] at hK
  obtain ⟨k0, kr, rfl, hk0, k1, kr, rfl, ⟨A1, c1, hk1, hl1, hC1⟩, k2, k3, rfl, hk2, A2, c2, hk3, hl3, hC3⟩ := hK
  have hk0 : k0 = [.int .i64 x.1] := hk0
  have hk2 : k2 = [.int .i64 x.2.2.1] := hk2
  subst hk0 hk1 hk2 hk3
  rw [show opKd.sz = 4 from rfl] at hcell
  exact ⟨ad, x, A1, c1, A2, c2, rfl, hx, hcell 0 _ rfl, hcell 1 _ rfl, hcell 2 _ rfl, hcell 3 _ rfl, hC1, hl1, hC3, hl3⟩
 obtain ⟨ad0, x0, _, _, _, _, hA0, _, hc0, _⟩ := one 0 (by omega)
 obtain ⟨ad, x, A1, c1, A2, c2, rfl, hx, h0, h1, h2, h3, r⟩ := one i hi
 injection hA0 with hA0
 subst hA0
 have hsp : ad.spot = none := spot_none (show w.cell? ad = _ from hc0)
 obtain ⟨bk, o, sp⟩ := ad
 simp only at hsp
 subst hsp
 have hadd : ∀ k, (⟨bk, o, none⟩ : Addr).add k = ⟨bk, o + k, none⟩ := by intro k; unfold Addr.add; split; subst_vars; rfl; rfl
 rw [hadd] at h0 h1 h2 h3
 exact ⟨bk, o, x, A1, c1, A2, c2, rfl, hx, cellLtM h0, h0, by rw [Nat.add_assoc]; exact h1, by rw [Nat.add_assoc]; exact h2, by rw [Nat.add_assoc]; exact h3, r⟩
set_option maxRecDepth 100000 in
set_option maxHeartbeats 16000000 in
theorem agrees (w : World) (n : Int) (A : Option Addr) (len cap : Nat) (z : List (Int × List ByteArray × Int × List Int)) (hn : (Lit.int .i64 n).wf = true)
  (hz : z.length = len ∧ len ≤ cap ∧ cap ≤ maxLen ∧ Kd.C opKd w A len z ∧ ∀ x ∈ z, (Lit.int .i64 x.1).wf = true ∧ True ∧ (Lit.int .i64 x.2.2.1).wf = true ∧ True) (hA : Sha.Amb w ∧ ∃ a, AmbE a w) :
  Calls Tryz.prog 7 #[.int .i64 n, .slice A len cap] w fun e w' => e = .returned (.bool true) ∧ Below w.heap.size w w' := by
 obtain ⟨rfl, hcap, hmax, hC, hwf⟩ := hz
 obtain ⟨hA, a, hE⟩ := hA
 have g1 : 3 < w.heap.size := (Array.getElem?_eq_some_iff.1 hA.choose_spec.choose_spec).1
 have g2 : 0 < w.heap.size := (Array.getElem?_eq_some_iff.1 hE.choose_spec.choose_spec).1
 obtain ⟨hn1, hn2⟩ : -9223372036854775808 ≤ n ∧ n ≤ 9223372036854775807 := by simpa [Lit.wf, IntKind.min, IntKind.max, IntKind.signed, IntKind.bits] using hn
 obtain ⟨N, hN, hN1, hN2⟩ := size_f n hn1 hn2
 have hlen : z.length ≤ 9223372036854775807 := by unfold maxLen at hmax; omega
 go_enter Tryz.func7, Tryz.ntmps7
 go_upto_region 2 with (go_at_call 8; refine (sane_calls w a hA hE).mono ?_; rintro e w0 ⟨rfl, b0⟩)
 have hA0 := hA.below_block b0
 have hE0 : AmbE a w0 := hE.keep (b0.block _ g2)
 go_upto_region 5 with (go_at_call 9; refine (begin_calls w0 n N hN hN1 hN2 a hA0 hE0).mono ?_; rintro e w1 ⟨wb, D, r, Br, jp, kp, rfl, hT, hJ, b1⟩)
 have G : Gl w0.heap.size w0 a := ⟨hA0, hE0, Nat.lt_of_lt_of_le g1 b0.size, Nat.lt_of_lt_of_le g2 b0.size⟩
 have M := Mix.of_two hT hJ b1
 have I0 : Iv N 0 (newDk N) (some ⟨[], z32, 0, false⟩) := ⟨⟨zeros_length N, zeros_length N⟩, Nat.le_refl _, fun jr h => by cases h; exact Nat.zero_le _⟩
 have hC0 := Kd.C_below hC b0
 clear hT hJ hC b1
 have hbw : w.heap.size ≤ w0.heap.size := b0.size
 go_wp2_with fail
 go_loopw [8, 9] (fun v8 v9 wr => ∃ (i : Nat) (jp kp : Value) (dk : Dk) (o : Option Jr), v8 = .int .i64 (i : Int) ∧ i ≤ 25 ∧ i ≤ z.length ∧ Mix w0.heap.size w0 wb D r Br jp kp dk o dk o wr ∧ Iv N (2 * i) dk o) (fun v _ _ => 25 - (intOf v).toNat)
 case atStart => exact ⟨0, jp, kp, _, _, rfl, by omega, Nat.zero_le _, M, I0⟩
 case round =>
  clear M I0
  obtain ⟨i, jp, kp, dk, o, rfl, hi25, hiz, M, I⟩ := hrel
  by_cases h1 : i < z.length ∧ i < 25
  ·have x1 : decide ((i : Int) < (z.length : Int)) = true := decide_eq_true (by omega)
   have x2 : ((i : Int) < (z.length : Int)) = True := eq_true (by omega)
   have x3 : decide ((i : Int) < 25) = true := decide_eq_true (by omega)
   have x4 : ((i : Int) < 25) = True := eq_true (by omega)
   have x5 : (i < z.length) = True := eq_true (by omega)
   have hinc : IntKind.i64.wrap ((i : Int) + 1) = ((i + 1 : Nat) : Int) := by rw [IntKind.wrap_i64]; omega
   obtain ⟨bk, oo, x, A1, c1, A2, c2, rfl, hx, hbk, q0, q1, q2, q3, hC1, hl1, hC3, hl3⟩ := op_cellsM hC0 i h1.1 rfl
   obtain ⟨hwk, _, hwn, _⟩ := hwf x (List.mem_of_getElem? hx)
   obtain ⟨kk1, kk2⟩ : -9223372036854775808 ≤ x.1 ∧ x.1 ≤ 9223372036854775807 := by simpa [Lit.wf, IntKind.min, IntKind.max, IntKind.signed, IntKind.bits] using hwk
   obtain ⟨nn1, nn2⟩ : -9223372036854775808 ≤ x.2.2.1 ∧ x.2.2.1 ≤ 9223372036854775807 := by simpa [Lit.wf, IntKind.min, IntKind.max, IntKind.signed, IntKind.bits] using hwn
   have bI := M.bel
   have p0 := (bI.cell (p := ⟨bk, oo + i * 4, none⟩) hbk).trans q0
   have p1 := (bI.cell (p := ⟨bk, oo + i * 4 + 1, none⟩) hbk).trans q1
   have p2 := (bI.cell (p := ⟨bk, oo + i * 4 + 2, none⟩) hbk).trans q2
   have p3 := (bI.cell (p := ⟨bk, oo + i * 4 + 3, none⟩) hbk).trans q3
   have hD := does_calls G M I hN2 (by omega) x.1 x.2.2.1 A1 A2 c1 c2 x.2.1 x.2.2.2 kk1 kk2 nn1 nn2 hC1 hl1 hC3 hl3
   clear hwk hwn q0 q1 q2 q3 hx bI
   go_upto_region 9 with (go_at_call 31; refine hD.mono ?_; rintro e W ⟨rfl, jp2, kp2, dk2, o2, M2, I2⟩)
   clear M I hD p0 p1 p2 p3
   obtain ⟨gs, cs, pl, hr, hzz⟩ := id M2.d2
   have hpend := hr.pend
   obtain ⟨pa, pc, rfl⟩ := own_form hpend
   have s1 := hr.cell1
   have s2 := hr.cell2
   have hcl := M2.cells
   have hvl := hr.vislen
   have hmm : ((dk2.pend.length : Int) != (dk2.pend.length : Int)) = false := by simp
   have hsm := hr.small
   have hlr := hr.lt_r
   clear hpend hr
   have kc : ∀ {V : World} {p : Addr} {u : Value}, Below W.heap.size W V → W.cell? p = some u → V.cell? p = some u := fun k hp => (k.cell (World.block_lt_of_cell? W _ hp)).trans hp
   refine Sha.norm_wp ?_
   have tailR : ∀ W9, Below W.heap.size W W9 → Mix w0.heap.size w0 wb D r Br jp2 kp2 dk2 o2 dk2 o2 W9 := fun W9 k => M2.keep k
   cases hoff : dk2.off with
   | true =>
    rw [hoff] at s2
    refine dm_r9t _ W _ _ _ _ _ _ _ _ _ _ _ _ _ _ _ _ _ _ _ _ _ _ _ _ _ _ _ _ _ _ _ _ _ _ _ _ _ _ _ _ _ _ _ _ _ _ _ _ _ _ _ _ _ _ _ _ _ _ _ _ _ _ _ _ _ _ _ _ _ _ _ _ _ _ _ _ _ _ _ _ _ _ _ _ _ _ _ _ _ _ _ _ _ _ _ _ _ _ _ _ _ _ _ _ _ _ _ _ _ wb D.d r dk2.pend.length pc pa (Below W.heap.size W) (Below W.heap.size W) hmm (below_drew1 (Below.refl _ _)) (fun V h => ⟨kc h hcl.1, kc h hcl.2.2.1, kc h s1, kc h s2⟩)
     (fun V h => (pending_calls (M2.d1.keep h)).mono fun e w' ⟨e1, hw⟩ => ⟨e1, by rw [hw]; exact h⟩) (fun V h => ⟨kc h hcl.1, kc h hcl.2.2.1, kc h s1, kc h s2⟩) ?_
    intro y34 y35 y36 y37 y38 y39 y40 y41 y42 y43 y44 y45 y46 y47 y48 y49 y50 y51 y52 y53 y54 y55 y56 y57 y58 y59 y60 y61 y62 y63 y64 y65 y66 y67 y68 y69 y70 y71 y72 y73 y74 W9 k9
    go_wp2_with fail
    have M9 := tailR W9 k9
    refine Sha.norm_wp ?_
    cases o2 with
    | none =>
     obtain rfl : jp2 = .pointer none := M9.j1
     refine dm_r11n _ W9 _ _ _ _ _ _ _ _ _ _ _ _ _ _ _ _ _ _ _ _ _ _ _ _ _ _ _ _ _ _ _ _ _ _ _ _ _ _ _ _ _ _ _ _ _ _ _ _ _ _ _ _ _ _ _ _ _ _ _ _ _ _ _ _ _ _ _ _ _ _ _ _ _ _ _ _ _ _ _ _ _ _ _ _ _ _ _ _ _ _ _ _ _ _ _ _ _ _ _ _ _ _ _ _ _ _ _ _ _ _ wb (Mix w0.heap.size w0 wb D r Br (.pointer none) kp2 dk2 none dk2 none) (M9.keep (below_drew1 (Below.refl _ _))) (fun V h => h.cells.2.1) ?_
     intro y76 y77 y78 y79 y80 y81 y82 y83 y84 y85 y86 y87 y88 y89 y90 y91 y92 y93 y94 y95 y96 y97 y98 y99 y100 y101 y102 y103 y104 y105 y106 y107 y108 W11 h11
     go_wp2_with fail
     go_roundw
     case rel => exact ⟨i + 1, _, _, _, _, by simp, by omega, by omega, h11, by have := I2; rwa [show 2 * i + 2 = 2 * (i + 1) by omega] at this⟩
     case measure => simp [intOf]; omega
    | some jr =>
     obtain ⟨j2, B3, hjp, hJ2, hB3⟩ := M9.j1
     obtain ⟨q2, B4, hkp, hK2, hB4⟩ := M9.j2
     subst hjp
     subst hkp
     obtain ⟨⟨lv, hk2⟩, _, _, hln⟩ := hK2
     have hq1 := hk2.cell1
     have hc9 := M9.cells
     have hjs := I2.sz jr rfl
     have hxx : (((dk2.dur.length : Int) - (jr.size : Int)) != ((dk2.dur.length : Int) - (jr.size : Int))) = false := by simp
     have k9c : ∀ {V : World} {p : Addr} {u : Value}, Below W9.heap.size W9 V → W9.cell? p = some u → V.cell? p = some u := fun k hp => (k.cell (World.block_lt_of_cell? W9 _ hp)).trans hp
     refine dm_r11 _ W9 _ _ _ _ _ _ _ _ _ _ _ _ _ _ _ _ _ _ _ _ _ _ _ _ _ _ _ _ _ _ _ _ _ _ _ _ _ _ _ _ _ _ _ _ _ _ _ _ _ _ _ _ _ _ _ _ _ _ _ _ _ _ _ _ _ _ _ _ _ _ _ _ _ _ _ _ _ _ _ _ _ _ _ _ _ _ _ _ _ _ _ _ _ _ _ _ _ _ _ _ _ _ _ _ _ _ _ _ _ _ wb j2 q2 lv ((dk2.dur.length : Int) - (jr.size : Int)) (Below W9.heap.size W9) (fun v V => Below W9.heap.size W9 V ∧ ∃ b1, V.ownsRow b1 9 1 v jr.records.length (jr.records.map Value.string)) (Below W9.heap.size W9) (Below W9.heap.size W9) (Below W9.heap.size W9)
      hxx (below_drew1 (Below.refl _ _)) (fun V h => ⟨k9c h hc9.2.1, k9c h hc9.2.2.2, k9c h hq1⟩)
      (fun V h => (records_calls (hJ2.keep h) (by omega)).mono fun e w' ⟨v, e1, ho, hb⟩ => ⟨v, e1, h.trans (hb.mono h.size), _, ho⟩) (fun V v h => ⟨k9c h.1 hc9.2.1, k9c h.1 hc9.2.2.2, k9c h.1 hq1⟩)
      (fun V v ⟨h, b1, ho⟩ => (same_calls2 V b1 B4 v lv jr.records (by omega) ho (hk2.keep h).own).mono fun e w' ⟨e1, hb⟩ => ⟨e1, h.trans (hb.mono h.size)⟩) (fun V h => ⟨k9c h hc9.2.1, k9c h hc9.2.2.2, k9c h hq1⟩)
      (fun V h => (room_calls (hJ2.keep h) (M9.d1.keep h) (by omega)).mono fun e w' ⟨e1, hb⟩ => ⟨e1, h.trans (hb.mono h.size)⟩) (fun V h => ⟨k9c h hc9.2.1, k9c h hc9.2.2.2, k9c h hq1⟩)
      (fun V h => (refroom_calls (hk2.keep h) (M9.d2.keep h) (by omega)).mono fun e w' ⟨e1, hb⟩ => ⟨e1, h.trans (hb.mono h.size)⟩) (fun V h => ⟨k9c h hc9.2.1, k9c h hc9.2.2.2, k9c h hq1⟩) ?_
     intro y76 y77 y78 y79 y80 y81 y82 y83 y84 y85 y86 y87 y88 y89 y90 y91 y92 y93 y94 y95 y96 y97 y98 y99 y100 y101 y102 y103 y104 y105 y106 y107 y108 W11 h11
     have M11 := M9.keep h11
     clear M9 hc9 hq1 k9c
     go_wp2_with fail
     go_roundw
     case rel => exact ⟨i + 1, _, _, _, _, by simp, by omega, by omega, M11, by have := I2; rwa [show 2 * i + 2 = 2 * (i + 1) by omega] at this⟩
     case measure => simp [intOf]; omega
   | false =>
    rw [hoff] at s2
    have hss : ((ofB dk2.vis).toList != (ofB dk2.vis).toList) = false := by simp
    refine dm_r9f _ W _ _ _ _ _ _ _ _ _ _ _ _ _ _ _ _ _ _ _ _ _ _ _ _ _ _ _ _ _ _ _ _ _ _ _ _ _ _ _ _ _ _ _ _ _ _ _ _ _ _ _ _ _ _ _ _ _ _ _ _ _ _ _ _ _ _ _ _ _ _ _ _ _ _ _ _ _ _ _ _ _ _ _ _ _ _ _ _ _ _ _ _ _ _ _ _ _ _ _ _ _ _ _ _ _ _ _ _ _ wb D.d r dk2.pend.length pc pa (ofB dk2.vis) (Below W.heap.size W) (Below W.heap.size W) (Below W.heap.size W) (fun v V => Below W.heap.size W V ∧ ∃ b1 gb cb, v = .slice (some ⟨gb, 0, none⟩) dk2.dur.length cb ∧ V.ownsRow b1 5 1 v dk2.dur.length (bv dk2.vis)) hmm hss
     ⟨fun V u ⟨_, b1, gb, cb, hu, ho⟩ => by subst hu; exact conv_row hvl.1 ho⟩ (below_drew1 (Below.refl _ _)) (fun V h => ⟨kc h hcl.1, kc h hcl.2.2.1, kc h s1, kc h s2⟩)
     (fun V h => (pending_calls (M2.d1.keep h)).mono fun e w' ⟨e1, hw⟩ => ⟨e1, by rw [hw]; exact h⟩) (fun V h => ⟨kc h hcl.1, kc h hcl.2.2.1, kc h s1, kc h s2⟩)
     (fun V h => (content_calls (M2.d1.keep h) hoff).mono fun e w' ⟨e1, hw⟩ => ⟨e1, by rw [hw]; exact h⟩) (fun V h => ⟨kc h hcl.1, kc h hcl.2.2.1, kc h s1, kc h s2⟩)
     (fun V h => (visible_calls (M2.d2.keep h)).mono fun e w' ⟨gb, cb, e1, ho, hb⟩ => ⟨_, e1, h.trans (hb.mono h.size), _, gb, cb, rfl, ho⟩) (fun V v h => ⟨kc h.1 hcl.1, kc h.1 hcl.2.2.1, kc h.1 s1, kc h.1 s2⟩) ?_
    intro y34 y35 y36 y37 y38 y39 y40 y41 y42 y43 y44 y45 y46 y47 y48 y49 y50 y51 y52 y53 y54 y55 y56 y57 y58 y59 y60 y61 y62 y63 y64 y65 y66 y67 y68 y69 y70 y71 y72 y73 y74 W9 u9 k9'
    have k9 := k9'.1
    clear k9'
    go_wp2_with fail
    have M9 := tailR W9 k9
    refine Sha.norm_wp ?_
    cases o2 with
    | none =>
     obtain rfl : jp2 = .pointer none := M9.j1
     refine dm_r11n _ W9 _ _ _ _ _ _ _ _ _ _ _ _ _ _ _ _ _ _ _ _ _ _ _ _ _ _ _ _ _ _ _ _ _ _ _ _ _ _ _ _ _ _ _ _ _ _ _ _ _ _ _ _ _ _ _ _ _ _ _ _ _ _ _ _ _ _ _ _ _ _ _ _ _ _ _ _ _ _ _ _ _ _ _ _ _ _ _ _ _ _ _ _ _ _ _ _ _ _ _ _ _ _ _ _ _ _ _ _ _ _ wb (Mix w0.heap.size w0 wb D r Br (.pointer none) kp2 dk2 none dk2 none) (M9.keep (below_drew1 (Below.refl _ _))) (fun V h => h.cells.2.1) ?_
     intro y76 y77 y78 y79 y80 y81 y82 y83 y84 y85 y86 y87 y88 y89 y90 y91 y92 y93 y94 y95 y96 y97 y98 y99 y100 y101 y102 y103 y104 y105 y106 y107 y108 W11 h11
     go_wp2_with fail
     go_roundw
     case rel => exact ⟨i + 1, _, _, _, _, by simp, by omega, by omega, h11, by have := I2; rwa [show 2 * i + 2 = 2 * (i + 1) by omega] at this⟩
     case measure => simp [intOf]; omega
    | some jr =>
     obtain ⟨j2, B3, hjp, hJ2, hB3⟩ := M9.j1
     obtain ⟨q2, B4, hkp, hK2, hB4⟩ := M9.j2
     subst hjp
     subst hkp
     obtain ⟨⟨lv, hk2⟩, _, _, hln⟩ := hK2
     have hq1 := hk2.cell1
     have hc9 := M9.cells
     have hjs := I2.sz jr rfl
     have hxx : (((dk2.dur.length : Int) - (jr.size : Int)) != ((dk2.dur.length : Int) - (jr.size : Int))) = false := by simp
     have k9c : ∀ {V : World} {p : Addr} {u : Value}, Below W9.heap.size W9 V → W9.cell? p = some u → V.cell? p = some u := fun k hp => (k.cell (World.block_lt_of_cell? W9 _ hp)).trans hp
     refine dm_r11 _ W9 _ _ _ _ _ _ _ _ _ _ _ _ _ _ _ _ _ _ _ _ _ _ _ _ _ _ _ _ _ _ _ _ _ _ _ _ _ _ _ _ _ _ _ _ _ _ _ _ _ _ _ _ _ _ _ _ _ _ _ _ _ _ _ _ _ _ _ _ _ _ _ _ _ _ _ _ _ _ _ _ _ _ _ _ _ _ _ _ _ _ _ _ _ _ _ _ _ _ _ _ _ _ _ _ _ _ _ _ _ _ wb j2 q2 lv ((dk2.dur.length : Int) - (jr.size : Int)) (Below W9.heap.size W9) (fun v V => Below W9.heap.size W9 V ∧ ∃ b1, V.ownsRow b1 9 1 v jr.records.length (jr.records.map Value.string)) (Below W9.heap.size W9) (Below W9.heap.size W9) (Below W9.heap.size W9)
      hxx (below_drew1 (Below.refl _ _)) (fun V h => ⟨k9c h hc9.2.1, k9c h hc9.2.2.2, k9c h hq1⟩)
      (fun V h => (records_calls (hJ2.keep h) (by omega)).mono fun e w' ⟨v, e1, ho, hb⟩ => ⟨v, e1, h.trans (hb.mono h.size), _, ho⟩) (fun V v h => ⟨k9c h.1 hc9.2.1, k9c h.1 hc9.2.2.2, k9c h.1 hq1⟩)
      (fun V v ⟨h, b1, ho⟩ => (same_calls2 V b1 B4 v lv jr.records (by omega) ho (hk2.keep h).own).mono fun e w' ⟨e1, hb⟩ => ⟨e1, h.trans (hb.mono h.size)⟩) (fun V h => ⟨k9c h hc9.2.1, k9c h hc9.2.2.2, k9c h hq1⟩)
      (fun V h => (room_calls (hJ2.keep h) (M9.d1.keep h) (by omega)).mono fun e w' ⟨e1, hb⟩ => ⟨e1, h.trans (hb.mono h.size)⟩) (fun V h => ⟨k9c h hc9.2.1, k9c h hc9.2.2.2, k9c h hq1⟩)
      (fun V h => (refroom_calls (hk2.keep h) (M9.d2.keep h) (by omega)).mono fun e w' ⟨e1, hb⟩ => ⟨e1, h.trans (hb.mono h.size)⟩) (fun V h => ⟨k9c h hc9.2.1, k9c h hc9.2.2.2, k9c h hq1⟩) ?_
     intro y76 y77 y78 y79 y80 y81 y82 y83 y84 y85 y86 y87 y88 y89 y90 y91 y92 y93 y94 y95 y96 y97 y98 y99 y100 y101 y102 y103 y104 y105 y106 y107 y108 W11 h11
     have M11 := M9.keep h11
     clear M9 hc9 hq1 k9c
     go_wp2_with fail
     go_roundw
     case rel => exact ⟨i + 1, _, _, _, _, by simp, by omega, by omega, M11, by have := I2; rwa [show 2 * i + 2 = 2 * (i + 1) by omega] at this⟩
     case measure => simp [intOf]; omega
  ·have fin : Below w.heap.size w wr := b0.trans (M.bel.mono hbw)
   by_cases h2 : i < z.length
   ·have x1 : decide ((i : Int) < (z.length : Int)) = true := decide_eq_true (by omega)
    have x2 : ((i : Int) < (z.length : Int)) = True := eq_true (by omega)
    have x3 : decide ((i : Int) < 25) = false := decide_eq_false (by omega)
    have x4 : ((i : Int) < 25) = False := eq_false (by omega)
    clear M I
    go_wp2_with fail
    go_ret
    exact ⟨rfl, fin⟩
   ·have x1 : decide ((i : Int) < (z.length : Int)) = false := decide_eq_false (by omega)
    have x2 : ((i : Int) < (z.length : Int)) = False := eq_false (by omega)
    clear M I
    go_wp2_with fail
    go_ret
    exact ⟨rfl, fin⟩
end Go.Proofs.YtniegajdmbepbaaGreatDoor.Jm
