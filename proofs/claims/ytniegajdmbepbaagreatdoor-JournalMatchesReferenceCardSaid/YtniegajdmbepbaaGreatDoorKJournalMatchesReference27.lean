/- For JournalRoom: a group that is too long; a disk without power; rows appended. Condition: none. Rows of strings: same at any two of them, their beginnings; what lies below lies as it lay. Condition: none. -/
import Derived.Test.YtniegajdmbepbaaGreatDoorKJournalMatchesReference26
import Derived.Laws.AppendOwnNone
set_option linter.unusedSimpArgs false
set_option linter.unusedVariables false
namespace Go.Proofs.YtniegajdmbepbaaGreatDoor.Jm
open Go Go.RowKit Go.Proofs.YtniegajdmbepbaaGreatDoorW.PrintWords Go.Proofs.YtniegajdmbepbaaGreatDoorW.PrintMore Go.Proofs.YtniegajdmbepbaaGreatDoor.Pl Go.Proofs.YtniegajdmbepbaaGreatDoor.Pr
structure Dead (w : World) (B j : Nat) (D : Dsk) (dk : Dk) (jr : Jr) (m N : Nat) : Prop where
 disk : DiskAt w D dk
 jour : JrAt w B j D jr
 off : dk.off = true
 pend : dk.pend = []
 dur : dk.dur.length = N
 head : jr.head.size = 32
 recs : jr.records.length ≤ N
 tot : jr.size + m = N
 small : N ≤ 1000000
 hj : D.B ≤ j
theorem Dead.keep {w W : World} {B j : Nat} {D : Dsk} {dk : Dk} {jr : Jr} {m N : Nat} (h : Dead w B j D dk jr m N) (k : Below w.heap.size w W) : Dead W B j D dk jr m N :=
 ⟨h.disk.keep k, h.jour.keep k, h.off, h.pend, h.dur, h.head, h.recs, h.tot, h.small, h.hj⟩
theorem Dead.room {w : World} {B j : Nat} {D : Dsk} {dk : Dk} {jr : Jr} {m N : Nat} (h : Dead w B j D dk jr m N) :
  Calls Tryz.prog 20 #[.pointer (some ⟨j, 0, none⟩)] w fun e w' => e = .returned (.int .i64 (m : Int)) ∧ Below w.heap.size w w' := by
 have := h.tot
 have := h.small
 refine (room_calls h.jour h.disk (by omega)).mono ?_
 rintro e w' ⟨rfl, hb⟩
 rw [h.dur]
 exact ⟨by congr 2; omega, hb⟩
theorem Dead.append {w : World} {B j : Nat} {D : Dsk} {dk : Dk} {jr : Jr} {m N : Nat} {a : Addr} (h : Dead w B j D dk jr m N) (ha : Ambs a D w) {v : Value} {l : List ByteArray} (hl : Strs w v l) (hn : l.length ≤ 10) (hs : ∀ s ∈ l, s.size ≤ 100) (jr' : Jr) (c : Int)
  (hap : appendM chF dk jr l = (dk, jr', c)) :
  Calls Tryz.prog 10 #[.pointer (some ⟨j, 0, none⟩), v] w fun e w' => e = .returned (.int .i64 c) ∧ DiskAt w' D dk ∧ JrAt w' B j D jr' ∧ Ambs a D w' ∧ Below D.B w w' ∧ Oj D j w w' := by
 have hb := stored_bound 100 (by omega) l jr.head hs
 have hb2 : l.length * (100 + 42) ≤ 10 * (100 + 42) := Nat.mul_le_mul_right _ hn
 have := h.tot
 have := h.small
 have := h.recs
 refine (append_calls h.jour h.disk hl ha.amb h.head (by omega) (by omega) (by omega) (by omega) (by rw [h.pend]; decide) h.hj).mono ?_
 rw [hap]
 rintro e w' ⟨he, hd, hj, ho⟩
 have hbl := ho.below h.disk.sizeB
 exact ⟨he, hd, hj, ha.keep hbl, hbl, ho⟩
theorem Good.cut {w : World} {B j : Nat} {D : Dsk} {dk : Dk} {jr : Jr} {m N : Nat} {a : Addr} (h : Good w B j D dk jr m N) (ha : Ambs a D w) :
  Calls Tryz.prog 29 #[.pointer (some ⟨D.d, 0, none⟩), .int .i64 0] w fun e w' => e = .returned (.int .i64 0) ∧ Dead w' B j D { dk with off := true, left := 0 } jr m N ∧ Ambs a D w' ∧ Below D.B w w' ∧ Off D w w' := by
 have hce : dk.cut 0 = ({ dk with off := true, left := 0 }, 0) := by
  unfold Dk.cut
  rw [if_neg (by rw [h.fine.on]; decide), if_neg (by decide)]
  rfl
 refine (cut_calls h.disk 0 (by decide)).mono ?_
 rw [hce]
 rintro e w' ⟨he, hd, ho⟩
 have hbl := ho.below h.disk.sizeB
 refine ⟨he, ⟨hd, h.jour.off ho h.disk, rfl, h.fine.pend, h.dur, ?_, ?_, h.tot, h.small, h.hj⟩, ha.keep hbl, hbl, ho⟩
 ·rw [h.fine.head]; exact headOf_size z32 z32_size _
 ·have := rec_le jr.records z32
  rw [← h.fine.size] at this
  have := h.tot
  omega
theorem own_R {w : World} {base : Nat} {ok : Nat → Prop} {v : Value} {l : List ByteArray} (h : Kd.R Kd.string 9 w base ok v l) : w.ownsRow base 9 1 v l.length (l.map Value.string) := Kd.own_of_R h
open Go Go.RowKit Go.Shelf Go.Proofs.YtniegajdmbepbaaGreatDoorW.PrintWords Go.Proofs.YtniegajdmbepbaaGreatDoorW.PrintMore Go.Proofs.YtniegajdmbepbaaGreatDoor.Pl Go.Proofs.YtniegajdmbepbaaGreatDoor.Pr
def SBl (v W : World) : Prop := Below v.heap.size v W
theorem keepSBl {v W W' : World} (h : SBl v W) (hb : Below W.heap.size W W') : SBl v W' := Below.trans h (hb.mono (Below.size h))
theorem SBl.cell {v W : World} (h : SBl v W) {p : Addr} (hp : p.block < v.heap.size) : W.cell? p = v.cell? p := Below.cell h hp
theorem SBl.size {v W : World} (h : SBl v W) : v.heap.size ≤ W.heap.size := Below.size h
end Go.Proofs.YtniegajdmbepbaaGreatDoor.Jm
