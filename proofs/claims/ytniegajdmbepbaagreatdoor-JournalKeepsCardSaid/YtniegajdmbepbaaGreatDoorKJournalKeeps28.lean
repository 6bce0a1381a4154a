/- A journal on a disk whose power may have failed: what its functions do then. Condition: none. JournalKeeps: the law's function returns true. Condition: none. -/
import Derived.Test.YtniegajdmbepbaaGreatDoorKJournalKeeps26
import Derived.Test.YtniegajdmbepbaaGreatDoorKJournalKeeps27
set_option linter.unusedVariables false
set_option linter.unusedSimpArgs false
namespace Go.Proofs.YtniegajdmbepbaaGreatDoor.Jm
open Go Go.RowKit Go.Shelf Go.Proofs.YtniegajdmbepbaaGreatDoorW.PrintWords Go.Proofs.YtniegajdmbepbaaGreatDoorW.PrintMore Go.Proofs.YtniegajdmbepbaaGreatDoor.Pl Go.Proofs.YtniegajdmbepbaaGreatDoor.Pr

theorem rec_le34 (rs : List ByteArray) : ∀ h : ByteArray, rs.length * 33 ≤ (stored chF h rs).length := by
 induction rs with
 | nil => intro h; exact Nat.le_refl _
 | cons r rs ih =>
  intro h
  show (rs.length + 1) * 33 ≤ (recB chF h r ++ stored chF (chF h r) rs).length
  rw [List.length_append, recB_length chF chF_size]
  have := ih (chF h r)
  omega
structure Liv (w : World) (B j : Nat) (D : Dsk) (dk : Dk) (jr : Jr) (N : Nat) : Prop where
 disk : DiskAt w D dk
 jour : JrAt w B j D jr
 hj : D.B ≤ j
 small : N ≤ 1500
 head : jr.head.size = 32
 size : jr.size ≤ N
 recs : jr.records.length * 33 ≤ N
 few : dk.pend.length ≤ 1
 st : (∃ m, Fine chF z32 dk jr m ∧ jr.size + m = N) ∨ (jr.broken = true ∧ dk.off = true ∧ ∃ l, Surv dk N jr.records (jr.records ++ l))
theorem Good.liv {w : World} {B j : Nat} {D : Dsk} {dk : Dk} {jr : Jr} {m N : Nat} (h : Good w B j D dk jr m N) (hN : N ≤ 1500) : Liv w B j D dk jr N := by
 have h1 := rec_le34 jr.records z32
 rw [← h.fine.size] at h1
 have h2 := h.tot
 exact ⟨h.disk, h.jour, h.hj, hN, by rw [h.fine.head]; exact headOf_size z32 z32_size _, by omega, by omega, by rw [h.fine.pend]; exact Nat.zero_le _, .inl ⟨m, h.fine, h.tot⟩⟩
theorem Liv.keep {w W : World} {B j : Nat} {D : Dsk} {dk : Dk} {jr : Jr} {N : Nat} (h : Liv w B j D dk jr N) (k : Below w.heap.size w W) : Liv W B j D dk jr N :=
 ⟨h.disk.keep k, h.jour.keep k, h.hj, h.small, h.head, h.size, h.recs, h.few, h.st⟩
theorem Liv.surv {w : World} {B j : Nat} {D : Dsk} {dk : Dk} {jr : Jr} {N : Nat} (h : Liv w B j D dk jr N) : ∃ l, Surv dk N jr.records (jr.records ++ l) := by
 rcases h.st with ⟨m, hf, ht⟩ | ⟨_, _, l, hs⟩
 ·exact ⟨[], Surv.of_fine hf ht _⟩
 ·exact ⟨l, hs⟩
theorem Liv.cut {w : World} {B j : Nat} {D : Dsk} {dk : Dk} {jr : Jr} {N : Nat} {a : Addr} (h : Liv w B j D dk jr N) (ha : Ambs a D w) (k : Nat) (hk : 1 ≤ k ∧ k ≤ 1000) :
  Calls Tryz.prog 29 #[.pointer (some ⟨D.d, 0, none⟩), .int .i64 (k : Int)] w fun e w' => ∃ c dk', e = .returned (.int .i64 c) ∧ Liv w' B j D dk' jr N ∧ Ambs a D w' ∧ Below D.B w w' ∧ Off D w w' := by
 rcases id h.st with ⟨m, hf, ht⟩ | ⟨hb, ho, hl⟩
 ·have hg : Good w B j D dk jr m N := ⟨h.disk, h.jour, hf, ht, by have := h.small; omega, h.hj⟩
  refine (hg.cutn ha k hk).mono ?_
  rintro e w' ⟨he, hg', ha', hb', ho'⟩
  exact ⟨_, _, he, hg'.liv h.small, ha', hb', ho'⟩
 ·refine (cut_calls h.disk (k : Int) (by omega)).mono ?_
  have hce : dk.cut (k : Int) = (dk, 281) := by unfold Dk.cut; rw [if_pos ho]
  rw [hce]
  rintro e w' ⟨he, hd, hof⟩
  have hbl := hof.below h.disk.sizeB
  exact ⟨_, _, he, ⟨hd, h.jour.off hof h.disk, h.hj, h.small, h.head, h.size, h.recs, h.few, h.st⟩, ha.keep hbl, hbl, hof⟩
theorem Liv.append {w : World} {B j : Nat} {D : Dsk} {dk : Dk} {jr : Jr} {N : Nat} {a : Addr} (h : Liv w B j D dk jr N) (ha : Ambs a D w) {v : Value} {l : List ByteArray} (hl : Strs w v l) (hn : l.length ≤ 6) (hs : ∀ s ∈ l, s.size ≤ 100) :
  Calls Tryz.prog 10 #[.pointer (some ⟨j, 0, none⟩), v] w fun e w' => ∃ (c : Int) (dk' : Dk) (jr' : Jr), e = .returned (.int .i64 c) ∧ Liv w' B j D dk' jr' N ∧ Oj D j w w' ∧ Ambs a D w' ∧ Below D.B w w' ∧ ((c = 0 ∧ jr'.records = jr.records ++ l) ∨ (c ≠ 0 ∧ jr'.records = jr.records)) := by
 rcases id h.st with ⟨m, hf, ht⟩ | ⟨hb, ho, l0, hsv⟩
 ·have hg : Good w B j D dk jr m N := ⟨h.disk, h.jour, hf, ht, by have := h.small; omega, h.hj⟩
  refine (hg.app_last ha hl hn hs).mono ?_
  rintro e w' ⟨c, dk', jr', he, hd, hj, hoj, ha', hb', hc⟩
  refine ⟨c, dk', jr', he, ?_, hoj, ha', hb', ?_⟩
  ·rcases hc with ⟨_, m', hf', ht', _⟩ | ⟨_, rfl, rfl⟩ | ⟨_, hsv, _, hof, hbr, hr, hh, hz⟩
   ·exact (⟨hd, hj, hf', ht', by have := h.small; omega, h.hj⟩ : Good w' B j D dk' jr' m' N).liv h.small
   ·exact ⟨hd, hj, h.hj, h.small, h.head, h.size, h.recs, h.few, h.st⟩
   ·exact ⟨hd, hj, h.hj, h.small, by rw [hh]; exact h.head, by rw [hz]; exact h.size, by rw [hr]; exact h.recs, hsv.few, .inr ⟨hbr, hof, l, by rw [hr]; exact hsv⟩⟩
  ·rcases hc with ⟨hc, m', _, _, hr, _⟩ | ⟨hc, _, rfl⟩ | ⟨hc, _, _, _, _, hr, _⟩
   ·exact .inl ⟨hc, hr⟩
   ·exact .inr ⟨by omega, rfl⟩
   ·exact .inr ⟨by omega, hr⟩
 ·have hap : appendM chF dk jr l = (dk, jr, 290) := by unfold appendM; rw [if_pos (.inl hb)]
  have hb1 := stored_bound 100 (by omega) l jr.head hs
  have hb2 : l.length * (100 + 42) ≤ 6 * (100 + 42) := Nat.mul_le_mul_right _ hn
  have h1 := h.size
  have h2 := h.recs
  have h3 := h.small
  have h4 := h.few
  refine (append_calls h.jour h.disk hl ha.amb h.head (by omega) (by omega) (by omega) (by omega) (by omega) h.hj).mono ?_
  rw [hap]
  rintro e w' ⟨he, hd, hj, hoj⟩
  have hbl := hoj.below h.disk.sizeB
  exact ⟨_, _, _, he, ⟨hd, hj, h.hj, h.small, h.head, h.size, h.recs, h.few, h.st⟩, hoj, ha.keep hbl, hbl, .inr ⟨(by show (290 : Int) ≠ 0; decide), rfl⟩⟩
/-- The beginning of a row of the call's own. -/
theorem own_takeS {w : World} {base n c : Nat} {A : Option Addr} {l : List ByteArray} (h : w.ownsRow base 9 1 (.slice A n c) n (l.map Value.string)) (k : Nat) (hk : k ≤ n) (hn : l.length = n) : w.ownsRow base 9 1 (.slice A k c) (l.take k).length ((l.take k).map Value.string) := by
 have hl : (l.take k).length = k := by rw [List.length_take]; omega
 rw [hl]
 rcases id h.2 with ⟨he, h0⟩ | ⟨g, cap, cur, he, hg, hb, h1, h2, h3, h4⟩
 ·have : k = 0 := by omega
  subst this
  injection he with e1 e2 e3
  subst e1
  subst e3
  exact ⟨by simp, .inl ⟨rfl, rfl⟩⟩
 ·injection he with e1 e2 e3
  subst e1
  subst e3
  refine ⟨by simp; omega, .inr ⟨g, c, cur, rfl, hg, hb, by omega, h2, h3, ?_⟩⟩
  rw [Nat.mul_one] at h4 ⊢
  rw [List.map_take, ← h4, List.take_take, Nat.min_eq_left hk]
theorem own_capS {w : World} {base n c : Nat} {A : Option Addr} {xs : List Value} (h : w.ownsRow base 9 1 (.slice A n c) n xs) : n ≤ c := by
 rcases id h.2 with ⟨he, h0⟩ | ⟨g, cap, cur, he, hg, hb, h1, h2, h3, h4⟩
 ·omega
 ·injection he with e1 e2 e3
  omega
end Go.Proofs.YtniegajdmbepbaaGreatDoor.Jm

set_option linter.unusedVariables false
set_option linter.unusedSimpArgs false
namespace Go.Proofs.YtniegajdmbepbaaGreatDoor.Jm
open Go Go.RowKit Go.Shelf Go.Proofs.YtniegajdmbepbaaGreatDoorW.PrintWords Go.Proofs.YtniegajdmbepbaaGreatDoorW.PrintMore Go.Proofs.YtniegajdmbepbaaGreatDoor.Pl Go.Proofs.YtniegajdmbepbaaGreatDoor.Pr Go.Proofs.YtniegajdmbepbaaGreatDoor.Open

theorem cellLt {w : World} {p : Addr} {u : Value} (h : w.cell? p = some u) : p.block < w.heap.size := by
  unfold World.cell? at h
  cases hb : w.heap[p.block]? with
  | none => rw [hb] at h; cases h
  | some o => exact (Array.getElem?_eq_some_iff.1 hb).1
theorem wpNorm {Q : Exit → Act → World → Prop} {a : Act} {W : World} (F : World → Prop) (hF : F W) (h : ∀ W', F W' → Q .normal a W') : Q .normal a W := h W hF
theorem op_cells {w : World} {A : Option Addr} {n : Nat} {z : List (Int × List ByteArray × Int × List Int)} (h : Kd.C opKd w A n z) (i : Nat) (hi : i < n) (hn : z.length = n) :
    ∃ bk o x A1 c1 A2 c2, A = some ⟨bk, o, none⟩ ∧ z[i]? = some x ∧ bk < w.heap.size ∧ w.cell? ⟨bk, o + i * 4, none⟩ = some (.int .i64 x.1) ∧ w.cell? ⟨bk, o + i * 4 + 1, none⟩ = some (.slice A1 x.2.1.length c1) ∧ w.cell? ⟨bk, o + i * 4 + 2, none⟩ = some (.int .i64 x.2.2.1) ∧ w.cell? ⟨bk, o + i * 4 + 3, none⟩ = some (.slice A2 x.2.2.2.length c2) ∧
      Kd.C Kd.string w A1 x.2.1.length x.2.1 ∧ x.2.1.length ≤ c1 ∧ Kd.C (Kd.int .i64) w A2 x.2.2.2.length x.2.2.2 ∧ x.2.2.2.length ≤ c2 := by
  have one : ∀ j : Nat, j < n → ∃ ad x A1 c1 A2 c2, A = some ad ∧ z[j]? = some x ∧ w.cell? (ad.add (j * 4)) = some (.int .i64 x.1) ∧ w.cell? (ad.add (j * 4 + 1)) = some (.slice A1 x.2.1.length c1) ∧ w.cell? (ad.add (j * 4 + 2)) = some (.int .i64 x.2.2.1) ∧ w.cell? (ad.add (j * 4 + 3)) = some (.slice A2 x.2.2.2.length c2) ∧
      Kd.C Kd.string w A1 x.2.1.length x.2.1 ∧ x.2.1.length ≤ c1 ∧ Kd.C (Kd.int .i64) w A2 x.2.2.2.length x.2.2.2 ∧ x.2.2.2.length ≤ c2 := by
    intro j hj
    obtain ⟨ad, cs, rfl, hcl, hK, hcell⟩ := Kd.C_get h (0, [], 0, []) (j : Int) (by omega) (by omega)
    obtain ⟨x, hx⟩ : ∃ x, z[j]? = some x := ⟨_, List.getElem?_eq_getElem (by omega)⟩
    have hg : z.getD j (0, [], 0, []) = x := by simp [List.getD, hx]
    rw [Int.toNat_natCast] at hK hcell
    rw [hg] at hK
    obtain ⟨k0, kr, rfl, hk0, k1, kr, rfl, ⟨A1, c1, hk1, hl1, hC1⟩, k2, k3, rfl, hk2, A2, c2, hk3, hl3, hC3⟩ := hK
    have hk0 : k0 = [.int .i64 x.1] := hk0
    have hk2 : k2 = [.int .i64 x.2.2.1] := hk2
    subst hk0 hk1 hk2 hk3
    rw [show opKd.sz = 4 from rfl] at hcell
    exact ⟨ad, x, A1, c1, A2, c2, rfl, hx, hcell 0 _ rfl, hcell 1 _ rfl, hcell 2 _ rfl, hcell 3 _ rfl, hC1, hl1, hC3, hl3⟩
  obtain ⟨ad0, x0, _, _, _, _, hA0, _, hc0, _⟩ := one 0 (by omega)
  obtain ⟨ad, x, A1, c1, A2, c2, rfl, hx, h0, h1, h2, h3, r⟩ := one i hi
  injection hA0 with hA0
  subst hA0
  have hsp : ad.spot = none := spot_none (show w.cell? ad = _ from hc0)
  obtain ⟨bk, o, sp⟩ := ad
  simp only at hsp
  subst hsp
  have hadd : ∀ k, (⟨bk, o, none⟩ : Addr).add k = ⟨bk, o + k, none⟩ := by intro k; unfold Addr.add; split; subst_vars; rfl; rfl
  rw [hadd] at h0 h1 h2 h3
  exact ⟨bk, o, x, A1, c1, A2, c2, rfl, hx, cellLt h0, h0, by rw [Nat.add_assoc]; exact h1, by rw [Nat.add_assoc]; exact h2, by rw [Nat.add_assoc]; exact h3, r⟩
set_option maxRecDepth 100000 in
set_option maxHeartbeats 16000000 in
theorem keeps (w : World) (n : Int) (A : Option Addr) (len cap : Nat) (z : List (Int × List ByteArray × Int × List Int)) (hn : (Lit.int .i64 n).wf = true)
    (hz : z.length = len ∧ len ≤ cap ∧ cap ≤ maxLen ∧ Kd.C opKd w A len z ∧ ∀ x ∈ z, (Lit.int .i64 x.1).wf = true ∧ True ∧ (Lit.int .i64 x.2.2.1).wf = true ∧ True) (hA : Sha.Amb w ∧ ∃ a, AmbE a w) :
    Calls Tryz.prog 6 #[.int .i64 n, .slice A len cap] w fun e w' => e = .returned (.bool true) ∧ Below w.heap.size w w' := by
  obtain ⟨rfl, hcap, hmax, hC, hwf⟩ := hz
  obtain ⟨hA, a, hE⟩ := hA
  have g1 : 3 < w.heap.size := (Array.getElem?_eq_some_iff.1 hA.choose_spec.choose_spec).1
  have g2 : 0 < w.heap.size := (Array.getElem?_eq_some_iff.1 hE.choose_spec.choose_spec).1
  obtain ⟨hn1, hn2⟩ : -9223372036854775808 ≤ n ∧ n ≤ 9223372036854775807 := by simpa [Lit.wf, IntKind.min, IntKind.max, IntKind.signed, IntKind.bits] using hn
  obtain ⟨N, hN, hN1, hN2⟩ := size_f n hn1 hn2
  have hlen : z.length ≤ 9223372036854775807 := by unfold maxLen at hmax; omega
  go_enter Tryz.func6, Tryz.ntmps6
  go_upto_region 2 with (go_at_call 8; refine (sane_calls w a hA hE).mono ?_; rintro e w0 ⟨rfl, b0⟩)
  go_upto_region 3 with (first
    | (go_at_call 15; refine (lawsize_calls _ n N hN).mono ?_; rintro e w1 ⟨rfl, b1⟩)
    | (go_at_call 24; refine (new_calls w1 N hN1 (by omega)).mono ?_; rintro e w2 ⟨D, rfl, hd2, b2, hDB⟩))
  have b02 : Below w.heap.size w w1 := b0.trans (b1.mono b0.size)
  have hDw : w.heap.size ≤ D.B := by rw [hDB]; exact b02.size
  have B2 : Below w.heap.size w w2 := b02.trans (b2.mono b02.size)
  have a2 : Ambs a D w2 := ⟨hA.below_block B2, hE.keep (B2.block _ g2), by omega, by omega⟩
  go_upto_region 4 with (go_at_call 25; refine (open_new hd2 (by omega) a2).mono ?_; rintro e w3 ⟨j0, rfl, h3, o3, a3, b3⟩)
  have B3 : Below w.heap.size w w3 := B2.trans (b3.mono hDw)
  obtain ⟨Bj0, hBj⟩ : ∃ Bj, w2.heap.size = Bj := ⟨_, rfl⟩
  rw [hBj] at h3
  refine wp_world (fun W => Liv W Bj0 j0 D (newDk N) ⟨[], z32, 0, false⟩ N ∧ Ambs a D W ∧ Below w.heap.size w W) ⟨h3.liv (by omega), a3, B3⟩ ?_
  clear B3 B2 b02 b3 b2 b1 b0 o3 h3 a3 a2 hd2 hBj hDB
  rintro W3 ⟨h3, a3, b3⟩
  go_wp2_with fail
  go_loopw [8, 10, 11] (fun v8 v10 v wr => ∃ (i Bj j : Nat) (dk : Dk) (jr : Jr) (L : List ByteArray) (b : Nat), v8 = .pointer (some ⟨j, 0, none⟩) ∧ v = .int .i64 (i : Int) ∧ i ≤ 20 ∧ i ≤ z.length ∧ Liv wr Bj j D dk jr N ∧ Ambs a D wr ∧ Below w.heap.size w wr ∧ wr.ownsRow b 9 1 v10 L.length (L.map Value.string) ∧ jr.records.take L.length = L) (fun _ _ v _ => 20 - (intOf v).toNat)
  case atStart => exact ⟨0, Bj0, j0, _, _, [], 0, rfl, rfl, by omega, Nat.zero_le _, h3, a3, b3, World.ownsRow_nil _ _ _ _, rfl⟩
  case round =>
    clear h3 a3 b3
    obtain ⟨i, Bj, j, dk, jr, L, b, rfl, rfl, hi20, hiz, I, aI, bI, r, hp⟩ := hrel
    obtain ⟨A10, c10, rfl⟩ := own_form r
    by_cases h1 : i < z.length ∧ i < 20
    · have x1 : decide ((i : Int) < (z.length : Int)) = true := decide_eq_true (by omega)
      have x2 : ((i : Int) < (z.length : Int)) = True := eq_true (by omega)
      have x3 : decide ((i : Int) < 20) = true := decide_eq_true (by omega)
      have x4 : ((i : Int) < 20) = True := eq_true (by omega)
      have x5 : (i < z.length) = True := eq_true (by omega)
      obtain ⟨bk, o, x, A1, c1, A2, c2, rfl, hx, hbk, q0, q1, q2, q3, hC1, hl1, hC3, hl3⟩ := op_cells hC i h1.1 rfl
      obtain ⟨hwk, _, hwn, _⟩ := hwf x (List.mem_of_getElem? hx)
      obtain ⟨kk1, kk2⟩ : -9223372036854775808 ≤ x.1 ∧ x.1 ≤ 9223372036854775807 := by simpa [Lit.wf, IntKind.min, IntKind.max, IntKind.signed, IntKind.bits] using hwk
      obtain ⟨nn1, nn2⟩ : -9223372036854775808 ≤ x.2.2.1 ∧ x.2.2.1 ≤ 9223372036854775807 := by simpa [Lit.wf, IntKind.min, IntKind.max, IntKind.signed, IntKind.bits] using hwn
      obtain ⟨k8, hk8, hk82⟩ := pick_f x.1 8 kk1 kk2 (by decide)
      obtain ⟨k5, hk5, hk52⟩ := pick_f x.2.2.1 5 nn1 nn2 (by decide)
      have hFl := fewF_length x.2.1
      have hFs := fewF_size x.2.1
      have hcell0 := (bI.cell (p := ⟨bk, o + i * 4, none⟩) hbk).trans q0
      go_upto_region 14 with (go_at_call 14; refine (clearwaylaw29_pick.calls x.1 8 _ _ hk8).mono ?_; rintro e wp ⟨rfl, hdr⟩)
      have kp := hdr.below
      have I1 := I.keep kp
      have a1 := aI.keep' kp
      have b1 := bI.trans (kp.mono bI.size)
      have r1 := own_below r kp
      refine wp_world (fun W => Liv W Bj j D dk jr N ∧ Ambs a D W ∧ Below w.heap.size w W ∧ W.ownsRow b 9 1 (.slice A10 L.length c10) L.length (L.map Value.string)) ⟨I1, a1, b1, r1⟩ ?_
      clear I1 a1 b1 r1 kp hdr hcell0 r bI aI I
      rintro W4 ⟨I, aI, bI, r⟩
      have c0 := (bI.cell (p := ⟨bk, o + i * 4, none⟩) hbk).trans q0
      have c1' := (bI.cell (p := ⟨bk, o + i * 4 + 1, none⟩) hbk).trans q1
      have c2' := (bI.cell (p := ⟨bk, o + i * 4 + 2, none⟩) hbk).trans q2
      have c3' := (bI.cell (p := ⟨bk, o + i * 4 + 3, none⟩) hbk).trans q3
      have hcw : IntKind.i64.wrap (1 + (k5 : Int)) = ((k5 + 1 : Nat) : Int) := by rw [IntKind.wrap_i64]; omega
      by_cases h5 : k8 = 5
      · subst h5
        go_upto_region 24 with (first
          | (go_at_call 29; refine ((I.keep kq).cut (aI.keep' kq) (k5 + 1) (by omega)).mono ?_; rintro e wc ⟨cc, dk1, rfl, I6, a6, b6, o6⟩)
          | (go_at_call 14; refine (clearwaylaw29_pick.calls x.2.2.1 5 _ _ hk5).mono ?_; rintro e wq ⟨rfl, hdr⟩
             have kq := hdr.below))
        have r6 := own_off (own_below r kq) o6 (I.keep kq).disk
        have bw6 : Below w.heap.size w wc := (bI.trans (kq.mono bI.size)).trans (b6.mono hDw)
        refine wp_world (fun W => Liv W Bj j D dk1 jr N ∧ Ambs a D W ∧ Below w.heap.size w W ∧ W.ownsRow b 9 1 (.slice A10 L.length c10) L.length (L.map Value.string)) ⟨I6, a6, bw6, r6⟩ ?_
        clear r6 bw6 o6 b6 a6 I6 hdr kq I aI bI r c0 c1' c2' c3'
        rintro W5 ⟨I, aI, bI, r⟩
        have hrc := records_calls I.jour (by have := I.recs; have := I.small; omega)
        go_upto_region 25 with (go_at_call 19; refine hrc.mono ?_; rintro e wt ⟨vt, rfl, ot, bt⟩; obtain ⟨At, ct, rfl⟩ := own_form ot)
        clear hrc
        have hct := own_capS ot
        have hlt := congrArg List.length (hp)
        rw [List.length_take] at hlt
        have hbd : (jr).records.length ≤ 1000 := by have := I.recs; have := I.small; omega
        have n1 : decide (((jr).records.length : Int) < ((L).length : Int)) = false := decide_eq_false (by omega)
        have n2 : (((jr).records.length : Int) < ((L).length : Int)) = False := eq_false (by omega)
        have n3 : ((jr).records.length < (L).length) = False := eq_false (by omega)
        have n4 : (((L).length : Int) ≤ (ct : Int)) = True := eq_true (by omega)
        have n5 : ((L).length ≤ ct) = True := eq_true (by omega)
        have ott := own_takeS ot (L).length (by omega) rfl
        rw [hp] at ott
        go_wp2_with (go_at_call 18; refine (same_calls wt _ _ _ _ (L) (by omega) ott (own_below r bt)).mono ?_; rintro e wu ⟨rfl, bu⟩)
        have ku := bt.trans (bu.mono bt.size)
        go_roundw
        case rel => exact ⟨i + 1, Bj, j, dk1, jr, L, _, rfl, by simp, by omega, by omega, I.keep ku, aI.keep' ku, bI.trans (ku.mono bI.size), own_below r ku, hp⟩
        case measure => simp [intOf]; omega
      · by_cases h6 : k8 = 6
        · subst h6
          obtain ⟨l0, hSv⟩ := I.surv
          obtain ⟨k2, hk2⟩ : ∃ k2, min x.2.2.2.length 20 = k2 := ⟨_, rfl⟩
          have hm1 : min (x.2.2.2.length : Int) 20 = (k2 : Int) := by omega
          have hm2 : ((k2 : Int) ≤ (c2 : Int)) = True := eq_true (by omega)
          have hm3 : (k2 ≤ c2) = True := eq_true (by omega)
          obtain ⟨bk2, o2, hb1, hb2, hb3⟩ := ints_C (Kd.C_below hC3 bI) rfl (by have := bI.size; omega)
          have hR2 : intR (x.2.2.2.take k2) bk2 o2 W4 := fun jj y hh => by
            rw [List.getElem?_take] at hh
            split at hh
            · exact hb3 jj y hh
            · cases hh
          have hxl : (x.2.2.2.take k2).length = k2 := by rw [List.length_take]; omega
          obtain ⟨rs, tt, hrs, hce, htt, hsm, hNl⟩ := hSv.back (x.2.2.2.take k2) x.2.2.1
          have hcr : ∀ V, SBl W4 V → Calls Tryz.prog 30 #[.pointer (some ⟨D.d, 0, none⟩), .slice A2 k2 c2, .int .i64 x.2.2.1] V fun e w' => e = .returned (.int .i64 0) ∧ DiskAt w' D ⟨false, 0, stored chF z32 rs ++ tt, stored chF z32 rs ++ tt, []⟩ ∧ Off D V w' := by
            intro V hV
            have := crash_calls (I.disk.keep hV) bk2 o2 k2 c2 A2 (x.2.2.2.take k2) hxl (by omega) (fun hh => hb1 (by omega)) (Nat.lt_of_lt_of_le hb2 hV.size) (hR2.block (hV.block bk2 hb2)) x.2.2.1 ⟨nn1, nn2⟩ hSv.lt hSv.fit (by have := hSv.few; omega)
            rw [hce] at this
            exact this
          have hpr : rs.take L.length = L := by
            have hll := congrArg List.length hp
            rw [List.length_take] at hll
            rcases hrs with e | e
            · rw [e]; exact hp
            · rw [e, List.take_append_of_le_length (by omega)]; exact hp
          go_upto_region 18 with (fail)
          refine Sha.norm_wp ?_
          refine keeps_r18 _ W4 W4 _ _ _ _ _ _ _ _ _ _ _ _ _ _ _ _ _ _ _ _ _ _ _ _ _ _ _ _ _ _ _ _ _ _ _ _ _ _ _ _ _ _ _ _ _ _ _ _ _ _ _ _ _ _ _ _ _ _ _ _ _ _ _ _ _ _ _ _ _ _ _ _ _ _ _ _ _ _ _ _ _ _ _ _ _ _ _ _ _ _ _ _ _ _ _ _ _ _ _ _ _ _ _ _ _ _ _ _ _ _ _ _ _ _ _ _ _ _ _ _ _ _ _ _ _ _ _ _ _ _ _ _ _ _ _ _ _ _ _ _ _ _ _ _ _ _ _ bk o z.length cap i x.2.2.2.length k2 c2 A2 x.2.2.1 D _ x2 x5 (Nat.lt_of_lt_of_le hbk bI.size) c2' c3' hm1 hm2 hm3 hcr (Below.refl _ _) ?_
          intro z81 z82 z83 z84 z85 z86 z87 z88 z89 z90 z91 z92 z93 z94 z95 z96 z97 z98 z99 z100 W5 hD5 o5
          have r5 := own_off r o5 I.disk
          have bl5 := o5.below I.disk.sizeB
          have a5 := aI.keep bl5
          have b5 : Below w.heap.size w W5 := bI.trans (bl5.mono hDw)
          refine wpNorm (fun W => DiskAt W D ⟨false, 0, stored chF z32 rs ++ tt, stored chF z32 rs ++ tt, []⟩ ∧ Ambs a D W ∧ Below w.heap.size w W ∧ W.ownsRow b 9 1 (.slice A10 L.length c10) L.length (L.map Value.string)) ⟨hD5, a5, b5, r5⟩ ?_
          have hN15 := I.small
          clear hD5 a5 b5 r5 bl5 o5 hcr hR2 hb3 hSv I aI bI r c0 c1' c2' c3'
          rintro W5 ⟨hD5, aI, bI, r⟩
          have hop := open_surv hD5 htt hsm hNl (by omega) aI
          go_upto_region 20 with (go_at_call 25; refine hop.mono ?_; rintro e wd ⟨j2, dk2, jr2, m2, rfl, G2, hrec2, hl3', o2', a2, b2'⟩)
          have r6 := own_off r o2' hD5
          have b6 : Below w.heap.size w wd := bI.trans (b2'.mono hDw)
          obtain ⟨Bj2, hBj2⟩ : ∃ B, W5.heap.size = B := ⟨_, rfl⟩
          have I6 := G2.liv hN15
          rw [hBj2] at I6
          refine wp_world (fun W => Liv W Bj2 j2 D dk2 jr2 N ∧ Ambs a D W ∧ Below w.heap.size w W ∧ W.ownsRow b 9 1 (.slice A10 L.length c10) L.length (L.map Value.string)) ⟨I6, a2, b6, r6⟩ ?_
          clear I6 a2 b6 r6 hBj2 b2' o2' hl3' G2 hop hD5 aI bI r
          rintro W6 ⟨I, aI, bI, r⟩
          subst hrec2
          have hrl : jr2.records.length ≤ 1000 := by have := I.recs; have := I.small; omega
          have hlL := congrArg List.length hpr
          rw [List.length_take] at hlL
          have n1 : decide ((jr2.records.length : Int) < (L.length : Int)) = false := decide_eq_false (by omega)
          have n2 : ((jr2.records.length : Int) < (L.length : Int)) = False := eq_false (by omega)
          have n3 : (jr2.records.length < L.length) = False := eq_false (by omega)
          have hrc := records_calls I.jour (by omega)
          go_upto_region 22 with (first
            | (go_at_call 18; refine (same_calls w8 _ _ _ _ L (by omega) ott (own_below r k8')).mono ?_; rintro e w9 ⟨rfl, b9⟩)
            | (go_at_call 19; refine (records_calls (I.keep b7).jour (by omega)).mono ?_; rintro e w8 ⟨v8, rfl, o8, b8⟩; obtain ⟨A8, c8, rfl⟩ := own_form o8
               have k8' := b7.trans (b8.mono b7.size)
               have hc8 := own_capS o8
               have m4 : ((L.length : Int) ≤ (c8 : Int)) = True := eq_true (by omega)
               have m5 : (L.length ≤ c8) = True := eq_true (by omega)
               have ott := own_takeS o8 L.length (by omega) rfl
               rw [hpr] at ott)
            | (go_at_call 19; refine hrc.mono ?_; rintro e w7 ⟨v7, rfl, o7, b7⟩; obtain ⟨A7, c7, rfl⟩ := own_form o7))
          have k9 := k8'.trans (b9.mono k8'.size)
          refine wp_world (fun W => Liv W Bj2 j2 D dk2 jr2 N ∧ Ambs a D W ∧ Below w.heap.size w W) ⟨I.keep k9, aI.keep' k9, bI.trans (k9.mono bI.size)⟩ ?_
          clear k9 b9 ott m5 m4 hc8 k8' o8 b8 o7 b7 hrc n1 n2 n3 r bI aI I
          rintro W7 ⟨I, aI, bI⟩
          have hrc := records_calls I.jour (by omega)
          go_upto_region 24 with (go_at_call 19; refine hrc.mono ?_; rintro e wv ⟨vv, rfl, ov, bv⟩; obtain ⟨Av, cv, rfl⟩ := own_form ov)
          have I8 := I.keep bv
          have a8 := aI.keep' bv
          have b8 := bI.trans (bv.mono bI.size)
          obtain ⟨q7, hq7⟩ : ∃ q, W7.heap.size = q := ⟨_, rfl⟩
          rw [hq7] at ov
          refine wp_world (fun W => Liv W Bj2 j2 D dk2 jr2 N ∧ Ambs a D W ∧ Below w.heap.size w W ∧ W.ownsRow q7 9 1 (.slice Av jr2.records.length cv) jr2.records.length (jr2.records.map Value.string)) ⟨I8, a8, b8, ov⟩ ?_
          clear ov b8 a8 I8 bv hq7 hrc bI aI I
          rintro W8 ⟨I, aI, bI, r⟩
          have hps : jr2.records.take jr2.records.length = jr2.records := List.take_length
          have hrc := records_calls I.jour (by have := I.recs; have := I.small; omega)
          go_upto_region 25 with (go_at_call 19; refine hrc.mono ?_; rintro e wt ⟨vt, rfl, ot, bt⟩; obtain ⟨At, ct, rfl⟩ := own_form ot)
          clear hrc
          have hct := own_capS ot
          have hlt := congrArg List.length (hps)
          rw [List.length_take] at hlt
          have hbd : (jr2).records.length ≤ 1000 := by have := I.recs; have := I.small; omega
          have n1 : decide (((jr2).records.length : Int) < ((jr2.records).length : Int)) = false := decide_eq_false (by omega)
          have n2 : (((jr2).records.length : Int) < ((jr2.records).length : Int)) = False := eq_false (by omega)
          have n3 : ((jr2).records.length < (jr2.records).length) = False := eq_false (by omega)
          have n4 : (((jr2.records).length : Int) ≤ (ct : Int)) = True := eq_true (by omega)
          have n5 : ((jr2.records).length ≤ ct) = True := eq_true (by omega)
          have ott := own_takeS ot (jr2.records).length (by omega) rfl
          rw [hps] at ott
          go_wp2_with (go_at_call 18; refine (same_calls wt _ _ _ _ (jr2.records) (by omega) ott (own_below r bt)).mono ?_; rintro e wu ⟨rfl, bu⟩)
          have ku := bt.trans (bu.mono bt.size)
          go_roundw
          case rel => exact ⟨i + 1, Bj2, j2, dk2, jr2, jr2.records, _, rfl, by simp, by omega, by omega, I.keep ku, aI.keep' ku, bI.trans (ku.mono bI.size), own_below r ku, hps⟩
          case measure => simp [intOf]; omega
        · by_cases h7 : k8 = 7
          · subst h7
            obtain ⟨l0, hSv⟩ := I.surv
            obtain ⟨k2, hk2⟩ : ∃ k2, min x.2.2.2.length 20 = k2 := ⟨_, rfl⟩
            have hm1 : min (x.2.2.2.length : Int) 20 = (k2 : Int) := by omega
            have hm2 : ((k2 : Int) ≤ (c2 : Int)) = True := eq_true (by omega)
            have hm3 : (k2 ≤ c2) = True := eq_true (by omega)
            obtain ⟨bk2, o2, hb1, hb2, hb3⟩ := ints_C (Kd.C_below hC3 bI) rfl (by have := bI.size; omega)
            have hR2 : intR (x.2.2.2.take k2) bk2 o2 W4 := fun jj y hh => by
              rw [List.getElem?_take] at hh
              split at hh
              · exact hb3 jj y hh
              · cases hh
            have hxl : (x.2.2.2.take k2).length = k2 := by rw [List.length_take]; omega
            obtain ⟨rs, tt, hrs, hce, htt, hsm, hNl⟩ := hSv.back (x.2.2.2.take k2) x.2.2.1
            have hcr : ∀ V, SBl W4 V → Calls Tryz.prog 30 #[.pointer (some ⟨D.d, 0, none⟩), .slice A2 k2 c2, .int .i64 x.2.2.1] V fun e w' => e = .returned (.int .i64 0) ∧ DiskAt w' D ⟨false, 0, stored chF z32 rs ++ tt, stored chF z32 rs ++ tt, []⟩ ∧ Off D V w' := by
              intro V hV
              have := crash_calls (I.disk.keep hV) bk2 o2 k2 c2 A2 (x.2.2.2.take k2) hxl (by omega) (fun hh => hb1 (by omega)) (Nat.lt_of_lt_of_le hb2 hV.size) (hR2.block (hV.block bk2 hb2)) x.2.2.1 ⟨nn1, nn2⟩ hSv.lt hSv.fit (by have := hSv.few; omega)
              rw [hce] at this
              exact this
            have hpr : rs.take L.length = L := by
              have hll := congrArg List.length hp
              rw [List.length_take] at hll
              rcases hrs with e | e
              · rw [e]; exact hp
              · rw [e, List.take_append_of_le_length (by omega)]; exact hp
            go_upto_region 18 with (fail)
            refine Sha.norm_wp ?_
            refine keeps_r18 _ W4 W4 _ _ _ _ _ _ _ _ _ _ _ _ _ _ _ _ _ _ _ _ _ _ _ _ _ _ _ _ _ _ _ _ _ _ _ _ _ _ _ _ _ _ _ _ _ _ _ _ _ _ _ _ _ _ _ _ _ _ _ _ _ _ _ _ _ _ _ _ _ _ _ _ _ _ _ _ _ _ _ _ _ _ _ _ _ _ _ _ _ _ _ _ _ _ _ _ _ _ _ _ _ _ _ _ _ _ _ _ _ _ _ _ _ _ _ _ _ _ _ _ _ _ _ _ _ _ _ _ _ _ _ _ _ _ _ _ _ _ _ _ _ _ _ _ _ _ _ bk o z.length cap i x.2.2.2.length k2 c2 A2 x.2.2.1 D _ x2 x5 (Nat.lt_of_lt_of_le hbk bI.size) c2' c3' hm1 hm2 hm3 hcr (Below.refl _ _) ?_
            intro z81 z82 z83 z84 z85 z86 z87 z88 z89 z90 z91 z92 z93 z94 z95 z96 z97 z98 z99 z100 W5 hD5 o5
            have r5 := own_off r o5 I.disk
            have bl5 := o5.below I.disk.sizeB
            have a5 := aI.keep bl5
            have b5 : Below w.heap.size w W5 := bI.trans (bl5.mono hDw)
            refine wpNorm (fun W => DiskAt W D ⟨false, 0, stored chF z32 rs ++ tt, stored chF z32 rs ++ tt, []⟩ ∧ Ambs a D W ∧ Below w.heap.size w W ∧ W.ownsRow b 9 1 (.slice A10 L.length c10) L.length (L.map Value.string)) ⟨hD5, a5, b5, r5⟩ ?_
            have hN15 := I.small
            clear hD5 a5 b5 r5 bl5 o5 hcr hR2 hb3 hSv I aI bI r c0 c1' c2' c3'
            rintro W5 ⟨hD5, aI, bI, r⟩
            have hop := open_surv hD5 htt hsm hNl (by omega) aI
            go_upto_region 20 with (go_at_call 25; refine hop.mono ?_; rintro e wd ⟨j2, dk2, jr2, m2, rfl, G2, hrec2, hl3', o2', a2, b2'⟩)
            have r6 := own_off r o2' hD5
            have b6 : Below w.heap.size w wd := bI.trans (b2'.mono hDw)
            obtain ⟨Bj2, hBj2⟩ : ∃ B, W5.heap.size = B := ⟨_, rfl⟩
            have I6 := G2.liv hN15
            rw [hBj2] at I6
            refine wp_world (fun W => Liv W Bj2 j2 D dk2 jr2 N ∧ Ambs a D W ∧ Below w.heap.size w W ∧ W.ownsRow b 9 1 (.slice A10 L.length c10) L.length (L.map Value.string)) ⟨I6, a2, b6, r6⟩ ?_
            clear I6 a2 b6 r6 hBj2 b2' o2' hl3' G2 hop hD5 aI bI r
            rintro W6 ⟨I, aI, bI, r⟩
            subst hrec2
            have hrl : jr2.records.length ≤ 1000 := by have := I.recs; have := I.small; omega
            have hlL := congrArg List.length hpr
            rw [List.length_take] at hlL
            have n1 : decide ((jr2.records.length : Int) < (L.length : Int)) = false := decide_eq_false (by omega)
            have n2 : ((jr2.records.length : Int) < (L.length : Int)) = False := eq_false (by omega)
            have n3 : (jr2.records.length < L.length) = False := eq_false (by omega)
            have hrc := records_calls I.jour (by omega)
            go_upto_region 22 with (first
              | (go_at_call 18; refine (same_calls w8 _ _ _ _ L (by omega) ott (own_below r k8')).mono ?_; rintro e w9 ⟨rfl, b9⟩)
              | (go_at_call 19; refine (records_calls (I.keep b7).jour (by omega)).mono ?_; rintro e w8 ⟨v8, rfl, o8, b8⟩; obtain ⟨A8, c8, rfl⟩ := own_form o8
                 have k8' := b7.trans (b8.mono b7.size)
                 have hc8 := own_capS o8
                 have m4 : ((L.length : Int) ≤ (c8 : Int)) = True := eq_true (by omega)
                 have m5 : (L.length ≤ c8) = True := eq_true (by omega)
                 have ott := own_takeS o8 L.length (by omega) rfl
                 rw [hpr] at ott)
              | (go_at_call 19; refine hrc.mono ?_; rintro e w7 ⟨v7, rfl, o7, b7⟩; obtain ⟨A7, c7, rfl⟩ := own_form o7))
            have k9 := k8'.trans (b9.mono k8'.size)
            refine wp_world (fun W => Liv W Bj2 j2 D dk2 jr2 N ∧ Ambs a D W ∧ Below w.heap.size w W) ⟨I.keep k9, aI.keep' k9, bI.trans (k9.mono bI.size)⟩ ?_
            clear k9 b9 ott m5 m4 hc8 k8' o8 b8 o7 b7 hrc n1 n2 n3 r bI aI I
            rintro W7 ⟨I, aI, bI⟩
            have hrc := records_calls I.jour (by omega)
            go_upto_region 24 with (go_at_call 19; refine hrc.mono ?_; rintro e wv ⟨vv, rfl, ov, bv⟩; obtain ⟨Av, cv, rfl⟩ := own_form ov)
            have I8 := I.keep bv
            have a8 := aI.keep' bv
            have b8 := bI.trans (bv.mono bI.size)
            obtain ⟨q7, hq7⟩ : ∃ q, W7.heap.size = q := ⟨_, rfl⟩
            rw [hq7] at ov
            refine wp_world (fun W => Liv W Bj2 j2 D dk2 jr2 N ∧ Ambs a D W ∧ Below w.heap.size w W ∧ W.ownsRow q7 9 1 (.slice Av jr2.records.length cv) jr2.records.length (jr2.records.map Value.string)) ⟨I8, a8, b8, ov⟩ ?_
            clear ov b8 a8 I8 bv hq7 hrc bI aI I
            rintro W8 ⟨I, aI, bI, r⟩
            have hps : jr2.records.take jr2.records.length = jr2.records := List.take_length
            have hrc := records_calls I.jour (by have := I.recs; have := I.small; omega)
            go_upto_region 25 with (go_at_call 19; refine hrc.mono ?_; rintro e wt ⟨vt, rfl, ot, bt⟩; obtain ⟨At, ct, rfl⟩ := own_form ot)
            clear hrc
            have hct := own_capS ot
            have hlt := congrArg List.length (hps)
            rw [List.length_take] at hlt
            have hbd : (jr2).records.length ≤ 1000 := by have := I.recs; have := I.small; omega
            have n1 : decide (((jr2).records.length : Int) < ((jr2.records).length : Int)) = false := decide_eq_false (by omega)
            have n2 : (((jr2).records.length : Int) < ((jr2.records).length : Int)) = False := eq_false (by omega)
            have n3 : ((jr2).records.length < (jr2.records).length) = False := eq_false (by omega)
            have n4 : (((jr2.records).length : Int) ≤ (ct : Int)) = True := eq_true (by omega)
            have n5 : ((jr2.records).length ≤ ct) = True := eq_true (by omega)
            have ott := own_takeS ot (jr2.records).length (by omega) rfl
            rw [hps] at ott
            go_wp2_with (go_at_call 18; refine (same_calls wt _ _ _ _ (jr2.records) (by omega) ott (own_below r bt)).mono ?_; rintro e wu ⟨rfl, bu⟩)
            have ku := bt.trans (bu.mono bt.size)
            go_roundw
            case rel => exact ⟨i + 1, Bj2, j2, dk2, jr2, jr2.records, _, rfl, by simp, by omega, by omega, I.keep ku, aI.keep' ku, bI.trans (ku.mono bI.size), own_below r ku, hps⟩
            case measure => simp [intOf]; omega
          · skip
            have e51 : decide ((k8 : Int) = 5) = false := decide_eq_false (by omega)
            have e52 : ((k8 : Int) = 5) = False := eq_false (by omega)
            have e53 : ((k8 : Int) == 5) = false := by simp; omega
            have e54 : (k8 = 5) = False := eq_false (by omega)
            have e61 : decide ((k8 : Int) = 6) = false := decide_eq_false (by omega)
            have e62 : ((k8 : Int) = 6) = False := eq_false (by omega)
            have e63 : ((k8 : Int) == 6) = false := by simp; omega
            have e64 : (k8 = 6) = False := eq_false (by omega)
            have e71 : decide ((k8 : Int) = 7) = false := decide_eq_false (by omega)
            have e72 : ((k8 : Int) = 7) = False := eq_false (by omega)
            have e73 : ((k8 : Int) == 7) = false := by simp; omega
            have e74 : (k8 = 7) = False := eq_false (by omega)
            have hrc := records_calls I.jour (by have := I.recs; have := I.small; omega)
            go_upto_region 12 with (go_at_call 19; refine hrc.mono ?_; rintro e wv ⟨vv, rfl, ov, bv⟩; obtain ⟨Av, cv, rfl⟩ := own_form ov)
            have I8 := I.keep bv
            have a8 := aI.keep' bv
            have b8 := bI.trans (bv.mono bI.size)
            have r8 := own_below r bv
            obtain ⟨q7, hq7⟩ : ∃ q, W4.heap.size = q := ⟨_, rfl⟩
            rw [hq7] at ov
            refine wp_world (fun W => Liv W Bj j D dk jr N ∧ Ambs a D W ∧ Below w.heap.size w W ∧ W.ownsRow b 9 1 (.slice A10 L.length c10) L.length (L.map Value.string) ∧ W.ownsRow q7 9 1 (.slice Av jr.records.length cv) jr.records.length (jr.records.map Value.string)) ⟨I8, a8, b8, r8, ov⟩ ?_
            clear ov r8 b8 a8 I8 bv hq7 hrc bI aI I r c0 c1' c2' c3'
            rintro W5 ⟨I, aI, bI, r, s⟩
            have c1' := (bI.cell (p := ⟨bk, o + i * 4 + 1, none⟩) hbk).trans q1
            have hCg := Kd.C_below hC1 bI
            have hrl : jr.records.length ≤ 900 := by have := I.recs; have := I.small; omega
            obtain ⟨g, hg⟩ : ∃ g, x.2.1 = g := ⟨_, rfl⟩
            rw [hg] at c1' hCg hFl hFs hl1 q1 hC1
            have hap := fun (wa : World) (v : Value) (ba : Below W5.heap.size W5 wa) (hSt : Strs wa v (fewF g)) => (I.keep ba).append (aI.keep' ba) hSt hFl hFs
            go_upto_region 13 with (first
              | (go_at_call 10; refine (hap _ _ ba hSt).mono ?_; rintro e wb ⟨c, dk', jr', rfl, I', hO', ha', hb', hcs⟩)
              | (go_at_call 11; refine (few_calls _ A1 c1 g hCg hl1).mono ?_; rintro e wa ⟨v, rfl, hR, hSt, ba⟩
                 obtain ⟨Af, cf, rfl, _⟩ := id hSt))
            all_goals rcases hcs with ⟨rfl, hrec⟩ | ⟨hc0, hrec⟩
            all_goals first
              | exact absurd (show ((0 : Int) == 0) = false by assumption) (by decide)
              | exact absurd (show (c == 0) = true by assumption) (by simpa using hc0)
              | skip
            · have bw : Below w.heap.size w wb := (bI.trans (ba.mono bI.size)).trans (hb'.mono hDw)
              have s6 := own_oj (own_below s ba) hO' (I.keep ba).disk (I.keep ba).jour
              have hCg6 := Kd.C_below hC1 bw
              refine Sha.norm_wp ?_
              refine keeps_r13 _ wb wb _ _ _ _ _ _ _ _ _ _ _ _ _ _ _ _ _ _ _ _ _ _ _ _ _ _ _ _ _ _ _ _ _ _ _ _ _ _ _ _ _ _ _ _ _ _ _ _ _ _ _ _ _ _ _ _ _ _ _ _ _ _ _ _ _ _ _ _ _ _ _ _ _ _ _ _ _ _ _ _ _ _ _ _ _ _ _ _ _ _ _ _ _ _ _ _ _ _ _ _ _ _ _ _ _ _ _ _ _ _ _ _ _ _ _ _ _ _ _ _ _ _ _ _ _ _ _ _ _ _ _ _ _ _ _ _ _ _ _ _ _ _ _ _ _ _ _ bk o z.length cap i q7 cv c1 Av A1 jr.records g x2 x5 (Nat.lt_of_lt_of_le hbk bw.size) ((bw.cell (p := ⟨bk, o + i * 4 + 1, none⟩) hbk).trans q1) hCg6 hl1 s6 hrl (Below.refl _ _) ?_
              intro z57 z58 z59 z60 z61 z62 z63 z64 z65 z66 v10 W6 r10 k6
              rw [← hrec] at r10
              obtain ⟨Aw, cw, rfl⟩ := own_form r10
              obtain ⟨q8, hq8⟩ : ∃ q, wb.heap.size = q := ⟨_, rfl⟩
              have I7 := I'.keep k6
              have a7 := ha'.keep' k6
              have b7 := bw.trans (k6.mono bw.size)
              rw [hq8] at r10
              refine wpNorm (fun W => Liv W Bj j D dk' jr' N ∧ Ambs a D W ∧ Below w.heap.size w W ∧ W.ownsRow q8 9 1 (.slice Aw jr'.records.length cw) jr'.records.length (jr'.records.map Value.string)) ⟨I7, a7, b7, r10⟩ ?_
              clear r10 b7 a7 I7 k6 hq8 hCg6 s6 bw hb' ha' hO' I' hap hCg c1' s r bI aI I
              rintro W6 ⟨I, aI, bI, r⟩
              have hps : jr'.records.take jr'.records.length = jr'.records := List.take_length
              clear hrec
              have hrc := records_calls I.jour (by have := I.recs; have := I.small; omega)
              go_upto_region 25 with (go_at_call 19; refine hrc.mono ?_; rintro e wt ⟨vt, rfl, ot, bt⟩; obtain ⟨At, ct, rfl⟩ := own_form ot)
              clear hrc
              have hct := own_capS ot
              have hlt := congrArg List.length (hps)
              rw [List.length_take] at hlt
              have hbd : (jr').records.length ≤ 1000 := by have := I.recs; have := I.small; omega
              have n1 : decide (((jr').records.length : Int) < ((jr'.records).length : Int)) = false := decide_eq_false (by omega)
              have n2 : (((jr').records.length : Int) < ((jr'.records).length : Int)) = False := eq_false (by omega)
              have n3 : ((jr').records.length < (jr'.records).length) = False := eq_false (by omega)
              have n4 : (((jr'.records).length : Int) ≤ (ct : Int)) = True := eq_true (by omega)
              have n5 : ((jr'.records).length ≤ ct) = True := eq_true (by omega)
              have ott := own_takeS ot (jr'.records).length (by omega) rfl
              rw [hps] at ott
              go_wp2_with (go_at_call 18; refine (same_calls wt _ _ _ _ (jr'.records) (by omega) ott (own_below r bt)).mono ?_; rintro e wu ⟨rfl, bu⟩)
              have ku := bt.trans (bu.mono bt.size)
              go_roundw
              case rel => exact ⟨i + 1, Bj, j, dk', jr', jr'.records, _, rfl, by simp, by omega, by omega, I.keep ku, aI.keep' ku, bI.trans (ku.mono bI.size), own_below r ku, hps⟩
              case measure => simp [intOf]; omega
            · have bw : Below w.heap.size w wb := (bI.trans (ba.mono bI.size)).trans (hb'.mono hDw)
              have r6 := own_oj (own_below r ba) hO' (I.keep ba).disk (I.keep ba).jour
              have hps : jr'.records.take L.length = L := by rw [hrec]; exact hp
              clear hrec
              refine (records_calls I'.jour (by have := I'.recs; have := I'.small; omega)).mono ?_
              rintro e wt ⟨vt, rfl, ot, bt⟩
              obtain ⟨At, ct, rfl⟩ := own_form ot
              go_upto_region 25 with (fail)
              have hct := own_capS ot
              have hlt := congrArg List.length (hps)
              rw [List.length_take] at hlt
              have hbd : (jr').records.length ≤ 1000 := by have := I'.recs; have := I'.small; omega
              have n1 : decide (((jr').records.length : Int) < ((L).length : Int)) = false := decide_eq_false (by omega)
              have n2 : (((jr').records.length : Int) < ((L).length : Int)) = False := eq_false (by omega)
              have n3 : ((jr').records.length < (L).length) = False := eq_false (by omega)
              have n4 : (((L).length : Int) ≤ (ct : Int)) = True := eq_true (by omega)
              have n5 : ((L).length ≤ ct) = True := eq_true (by omega)
              have ott := own_takeS ot (L).length (by omega) rfl
              rw [hps] at ott
              go_wp2_with (go_at_call 18; refine (same_calls wt _ _ _ _ (L) (by omega) ott (own_below r6 bt)).mono ?_; rintro e wu ⟨rfl, bu⟩)
              have ku := bt.trans (bu.mono bt.size)
              go_roundw
              case rel => exact ⟨i + 1, Bj, j, dk', jr', L, _, rfl, by simp, by omega, by omega, I'.keep ku, ha'.keep' ku, bw.trans (ku.mono bw.size), own_below r6 ku, hps⟩
              case measure => simp [intOf]; omega
    · skip
      by_cases hz1 : i < z.length
      · have y1 : decide ((i : Int) < (z.length : Int)) = true := decide_eq_true (by omega)
        have y2 : ((i : Int) < (z.length : Int)) = True := eq_true (by omega)
        have y3 : decide ((i : Int) < 20) = false := decide_eq_false (by omega)
        have y4 : ((i : Int) < 20) = False := eq_false (by omega)
        have y5 : ((20 : Int) ≤ (i : Int)) = True := eq_true (by omega)
        go_wp2_with fail
        go_ret
        exact ⟨rfl, bI⟩
      · have y1 : decide ((i : Int) < (z.length : Int)) = false := decide_eq_false (by omega)
        have y2 : ((i : Int) < (z.length : Int)) = False := eq_false (by omega)
        have y3 : (i < z.length) = False := eq_false (by omega)
        go_wp2_with fail
        go_ret
        exact ⟨rfl, bI⟩
end Go.Proofs.YtniegajdmbepbaaGreatDoor.Jm

