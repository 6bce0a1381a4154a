/- The state of a disk, by pointers: what its blocks hold, and what its functions leave alone. Condition: none. A disk's functions, by pointers: used, onto, settle. Condition: none. A disk's functions, by pointers: onto, settle. Condition: none. A disk's functions, by pointers: settle (what is visible becomes durable). Condition: none. A disk's functions, by pointers: Write. Condition: none. A disk's functions, by pointers: Sync, Read, Pending, Cut. Condition: none. A disk's functions, by pointers: New. Condition: none. -/
import Derived.Test.YtniegajdmbepbaaGreatDoorKJournalMatchesReference4
import Derived.Test.YtniegajdmbepbaaGreatDoorProg
import Derived.Test.YtniegajdmbepbaaGreatDoorKJournalMatchesReference2
import Derived.Test.YtniegajdmbepbaaGreatDoorKJournalMatchesReference10
import Derived.Laws.CopyOwn
import Derived.Laws.BytesArg
import Derived.Deep.RegionLaw
import Derived.WalkKit
import Derived.KernelRfl
import Derived.Laws.CopyRow
import Derived.Deep.RegionWith
import Derived.Laws.MakeOwn
set_option linter.unusedSimpArgs false
set_option linter.unusedVariables false
namespace Go.Proofs.YtniegajdmbepbaaGreatDoor.Jm
open Go Go.RowKit Go.Proofs.YtniegajdmbepbaaGreatDoorW.PrintWords Go.Proofs.YtniegajdmbepbaaGreatDoorW.PrintMore
def By (w : World) (g : Nat) (l : List Nat) : Prop := w.heap[g]? = some (.cells (l.map fun (b : Nat) => Value.int .u8 (b : Int)).toArray 5 (0, 0))
theorem By.lt {w : World} {g : Nat} {l : List Nat} (h : By w g l) : g < w.heap.size := (Array.getElem?_eq_some_iff.1 h).1
theorem By.keep {w W : World} {g : Nat} {l : List Nat} (h : By w g l) (k : W.heap[g]? = w.heap[g]?) : By W g l := k.trans h
def pcells (P : List (Nat × ByteArray)) : List Value := P.flatMap fun p => [.int .i64 (p.1 : Int), .string p.2]
theorem pcells_snoc (P : List (Nat × ByteArray)) (p : Nat × ByteArray) : pcells (P ++ [p]) = pcells P ++ [.int .i64 (p.1 : Int), .string p.2] := by simp [pcells]
def isW : Obj → Prop
 | .cells _ t _ => t = 92
 | _ => False
structure Dsk where
 B : Nat
 d : Nat
 g1 : Nat
 g2 : Nat
structure DAt (w : World) (D : Dsk) (dk : Dk) (pv : Value) : Prop where
 blk : w.heap[D.d]? = some (.cells #[.bool dk.off, .int .i64 (dk.left : Int), .slice (some ⟨D.g1, 0, none⟩) dk.dur.length dk.dur.length, .slice (some ⟨D.g2, 0, none⟩) dk.dur.length dk.dur.length, pv] 97 (0, 0))
 dur : By w D.g1 dk.dur
 vis : By w D.g2 dk.vis
 pend : w.ownsRow D.B 92 2 pv dk.pend.length (pcells dk.pend)
 len : dk.vis.length = dk.dur.length
 hd : D.B ≤ D.d
 h1 : D.B ≤ D.g1
 h2 : D.B ≤ D.g2
 ne : D.g1 ≠ D.g2
 lt : ∀ b ∈ dk.vis, b < 256
 small : dk.dur.length ≤ 4194304
 left : dk.left ≤ 9223372036854775807
 few : dk.pend.length ≤ 1099511627776
def DiskAt (w : World) (D : Dsk) (dk : Dk) : Prop := ∃ pv, DAt w D dk pv
structure Off (D : Dsk) (w W : World) : Prop where
 os : W.os = w.os
 tape : W.tape = w.tape
 output : W.output = w.output
 size : w.heap.size ≤ W.heap.size
 block : ∀ k o, w.heap[k]? = some o → (k < D.B ∨ (k ≠ D.d ∧ k ≠ D.g1 ∧ k ≠ D.g2 ∧ ¬ isW o)) → W.heap[k]? = some o
theorem Off.refl (D : Dsk) (w : World) : Off D w w := ⟨rfl, rfl, rfl, Nat.le_refl _, fun _ _ h _ => h⟩
theorem Off.trans {D : Dsk} {a b c : World} (h : Off D a b) (k : Off D b c) : Off D a c :=
 ⟨k.os.trans h.os, k.tape.trans h.tape, k.output.trans h.output, Nat.le_trans h.size k.size, fun i o hi hc => k.block i o (h.block i o hi hc) hc⟩
theorem Off.of_below {D : Dsk} {w W : World} (h : Below w.heap.size w W) : Off D w W :=
 ⟨h.os, h.tape, h.output, h.size, fun k o hk _ => (h.block k (Array.getElem?_eq_some_iff.1 hk).1).trans hk⟩
theorem Off.then {D : Dsk} {a w W : World} (h : Off D a w) (k : Below w.heap.size w W) : Off D a W := h.trans (Off.of_below k)
theorem Off.below {D : Dsk} {w W : World} (h : Off D w W) (hB : D.B ≤ w.heap.size) : Below D.B w W := by
 refine ⟨h.os, h.tape, h.output, h.size, fun k hk => ?_⟩
 obtain ⟨o, ho⟩ : ∃ o, w.heap[k]? = some o := ⟨_, Array.getElem?_eq_getElem (by omega)⟩
 rw [ho]
 exact h.block k o ho (Or.inl hk)
theorem DAt.cell0 {w : World} {D : Dsk} {dk : Dk} {pv : Value} (h : DAt w D dk pv) : w.cell? ⟨D.d, 0, none⟩ = some (.bool dk.off) := by simp [World.cell?, h.blk]
theorem DAt.cell1 {w : World} {D : Dsk} {dk : Dk} {pv : Value} (h : DAt w D dk pv) : w.cell? ⟨D.d, 1, none⟩ = some (.int .i64 (dk.left : Int)) := by simp [World.cell?, h.blk]
theorem DAt.cell2 {w : World} {D : Dsk} {dk : Dk} {pv : Value} (h : DAt w D dk pv) : w.cell? ⟨D.d, 2, none⟩ = some (.slice (some ⟨D.g1, 0, none⟩) dk.dur.length dk.dur.length) := by simp [World.cell?, h.blk]
theorem DAt.cell3 {w : World} {D : Dsk} {dk : Dk} {pv : Value} (h : DAt w D dk pv) : w.cell? ⟨D.d, 3, none⟩ = some (.slice (some ⟨D.g2, 0, none⟩) dk.dur.length dk.dur.length) := by simp [World.cell?, h.blk]
theorem DAt.cell4 {w : World} {D : Dsk} {dk : Dk} {pv : Value} (h : DAt w D dk pv) : w.cell? ⟨D.d, 4, none⟩ = some pv := by simp [World.cell?, h.blk]
theorem frozen_of {w : World} {g : Nat} {cs : Array Value} {t : TypeId} (h : w.heap[g]? = some (.cells cs t (0, 0))) (j : Nat) : w.frozen? ⟨g, j, none⟩ = false := by
 simp only [World.frozen?, h, Bool.and_eq_false_iff, decide_eq_false_iff_not]
 right
 omega
theorem DAt.frozen {w : World} {D : Dsk} {dk : Dk} {pv : Value} (h : DAt w D dk pv) (j : Nat) : w.frozen? ⟨D.d, j, none⟩ = false := frozen_of h.blk j
theorem DAt.lt_d {w : World} {D : Dsk} {dk : Dk} {pv : Value} (h : DAt w D dk pv) : D.d < w.heap.size := (Array.getElem?_eq_some_iff.1 h.blk).1
theorem own_keep {w W : World} {base : Nat} {e : TypeId} {size : Nat} {v : Value} {n : Nat} {xs : List Value} (h : w.ownsRow base e size v n xs) (k : ∀ g, v.ownBlock = some g → W.heap[g]? = w.heap[g]?) : W.ownsRow base e size v n xs := by
 obtain ⟨h1, h2⟩ := h
 refine ⟨h1, ?_⟩
 rcases h2 with h2 | ⟨g, cap, cur, hv, hg, hh, r⟩
 ·exact .inl h2
 ·exact .inr ⟨g, cap, cur, hv, hg, (k g (by rw [hv]; rfl)).trans hh, r⟩
theorem DAt.keep {w W : World} {D : Dsk} {dk : Dk} {pv : Value} (h : DAt w D dk pv) (k : Below w.heap.size w W) : DAt W D dk pv :=
 { blk := (k.block _ h.lt_d).trans h.blk, dur := h.dur.keep (k.block _ h.dur.lt), vis := h.vis.keep (k.block _ h.vis.lt), pend := own_keep h.pend fun g hg => k.block g (h.pend.lt g hg).2, len := h.len, hd := h.hd, h1 := h.h1, h2 := h.h2, ne := h.ne, lt := h.lt, small := h.small, left := h.left, few := h.few }
theorem DAt.size {w : World} {D : Dsk} {dk : Dk} {pv : Value} (h : DAt w D dk pv) : D.B ≤ w.heap.size := Nat.le_trans h.hd (Nat.le_of_lt h.lt_d)
theorem DiskAt.keep {w W : World} {D : Dsk} {dk : Dk} (h : DiskAt w D dk) (k : Below w.heap.size w W) : DiskAt W D dk := let ⟨pv, h⟩ := h; ⟨pv, h.keep k⟩
theorem check_calls {w : World} {D : Dsk} {dk : Dk} (h : DiskAt w D dk) :
  Calls Tryz.prog 46 #[.pointer (some ⟨D.d, 0, none⟩)] w fun e w' => e = .returned (.int .i64 (if dk.off = true then 281 else 0)) ∧ w' = w := by
 obtain ⟨pv, h⟩ := h
 have c0 := h.cell0
 cases ho : dk.off
 all_goals
  rw [ho] at c0
  go_enter Tryz.func46, Tryz.ntmps46
  go_wp2
  go_ret
  exact ⟨rfl, rfl⟩
theorem size_calls {w : World} {D : Dsk} {dk : Dk} (h : DiskAt w D dk) :
  Calls Tryz.prog 51 #[.pointer (some ⟨D.d, 0, none⟩)] w fun e w' => e = .returned (.int .i64 (dk.dur.length : Int)) ∧ w' = w := by
 obtain ⟨pv, h⟩ := h
 have c2 := h.cell2
 go_enter Tryz.func51, Tryz.ntmps51
 go_wp2
 go_ret
 exact ⟨rfl, rfl⟩
set_option maxRecDepth 100000 in
theorem inside_calls {w : World} {D : Dsk} {dk : Dk} (h : DiskAt w D dk) (off n : Int) :
  Calls Tryz.prog 47 #[.pointer (some ⟨D.d, 0, none⟩), .int .i64 off, .int .i64 n] w fun e w' => e = .returned (.bool (dk.inside off n)) ∧ w' = w := by
 obtain ⟨pv, h⟩ := h
 have c2 := h.cell2
 have hs := h.small
 by_cases h1 : 0 ≤ off
 ·by_cases h2 : 0 ≤ n
  ·by_cases h3 : off ≤ (dk.dur.length : Int)
   ·have hw : IntKind.i64.wrap ((dk.dur.length : Int) - off) = (dk.dur.length : Int) - off := by rw [IntKind.wrap_i64]; omega
    have e : dk.inside off n = decide (n ≤ (dk.dur.length : Int) - off) := by simp [Dk.inside, h1, h2, h3]
    rw [e]
    go_enter Tryz.func47, Tryz.ntmps47
    go_wp2
    all_goals (go_ret; exact ⟨rfl, rfl⟩)
   ·have e : dk.inside off n = false := by simp [Dk.inside, h3]
    rw [e]
    go_enter Tryz.func47, Tryz.ntmps47
    go_wp2
    all_goals (go_ret; exact ⟨rfl, rfl⟩)
  ·have e : dk.inside off n = false := by simp [Dk.inside, h2]
   rw [e]
   go_enter Tryz.func47, Tryz.ntmps47
   go_wp2
   all_goals (go_ret; exact ⟨rfl, rfl⟩)
 ·have e : dk.inside off n = false := by simp [Dk.inside, h1]
  rw [e]
  go_enter Tryz.func47, Tryz.ntmps47
  go_wp2
  all_goals (go_ret; exact ⟨rfl, rfl⟩)
open Go Go.RowKit Go.Proofs.YtniegajdmbepbaaGreatDoorW.PrintWords Go.Proofs.YtniegajdmbepbaaGreatDoorW.PrintMore
structure But (g : Nat) (w W : World) : Prop where
  os : W.os = w.os
  tape : W.tape = w.tape
  output : W.output = w.output
  size : w.heap.size ≤ W.heap.size
  block : ∀ k, k < w.heap.size → k ≠ g → W.heap[k]? = w.heap[k]?
theorem But.refl (g : Nat) (w : World) : But g w w := ⟨rfl, rfl, rfl, Nat.le_refl _, fun _ _ _ => rfl⟩
theorem But.trans {g : Nat} {a b c : World} (h : But g a b) (k : But g b c) : But g a c :=
  ⟨k.os.trans h.os, k.tape.trans h.tape, k.output.trans h.output, Nat.le_trans h.size k.size, fun i hi hg => (k.block i (Nat.lt_of_lt_of_le hi h.size) hg).trans (h.block i hi hg)⟩
theorem But.of_below {g : Nat} {w W : World} (h : Below w.heap.size w W) : But g w W := ⟨h.os, h.tape, h.output, h.size, fun k hk _ => h.block k hk⟩
theorem But.setRow (g : Nat) (w : World) (cs : Array Value) : But g w (w.setRow g cs) := ⟨rfl, rfl, rfl, by simp [World.setRow], fun k _ hk => setRow_other w g k cs hk⟩
theorem But.setCell (g j : Nat) (w : World) (v : Value) : But g w (w.setCell ⟨g, j, none⟩ v) := ⟨rfl, rfl, rfl, by simp [World.setCell], fun k _ hk => Below.heap_setCell _ _ _ _ hk⟩
theorem But.drew {g : Nat} {w W : World} (h : But g w W) : But g w W.drew := ⟨h.os, h.tape, h.output, h.size, h.block⟩
theorem But.from_drew {g : Nat} {w W : World} (h : But g w.drew W) : But g w W := ⟨h.os, h.tape, h.output, h.size, h.block⟩
theorem set_blk {w : World} {g j : Nat} {cs : Array Value} {t : TypeId} (h : w.heap[g]? = some (.cells cs t (0, 0))) (v : Value) : (w.setCell ⟨g, j, none⟩ v).heap[g]? = some (.cells (cs.setIfInBounds j v) t (0, 0)) := by
  rw [setCell_eq_setRow w g j _ _ _ _ h]
  exact setRow_heap w g _ _ _ _ h
theorem But.off_d {D : Dsk} {w W : World} (h : But D.d w W) (hd : D.B ≤ D.d) : Off D w W := by
  refine ⟨h.os, h.tape, h.output, h.size, fun k o hk hc => ?_⟩
  rw [h.block k (Array.getElem?_eq_some_iff.1 hk).1 (by rcases hc with hc | hc <;> omega)]
  exact hk
theorem But.off_1 {D : Dsk} {w W : World} (h : But D.g1 w W) (hd : D.B ≤ D.g1) : Off D w W := by
  refine ⟨h.os, h.tape, h.output, h.size, fun k o hk hc => ?_⟩
  rw [h.block k (Array.getElem?_eq_some_iff.1 hk).1 (by rcases hc with hc | hc <;> omega)]
  exact hk
theorem But.off_2 {D : Dsk} {w W : World} (h : But D.g2 w W) (hd : D.B ≤ D.g2) : Off D w W := by
  refine ⟨h.os, h.tape, h.output, h.size, fun k o hk hc => ?_⟩
  rw [h.block k (Array.getElem?_eq_some_iff.1 hk).1 (by rcases hc with hc | hc <;> omega)]
  exact hk
theorem cells_ne {w : World} {g k : Nat} {cs ds : Array Value} {t u : TypeId} {f f' : Nat × Nat} (h : w.heap[g]? = some (.cells cs t f)) (h' : w.heap[k]? = some (.cells ds u f')) (ht : t ≠ u) : g ≠ k := by
  rintro rfl
  rw [h] at h'
  simp at h'
  exact ht h'.2.1
theorem own_block {w : World} {base : Nat} {e : TypeId} {size : Nat} {v : Value} {n : Nat} {xs : List Value} (h : w.ownsRow base e size v n xs) {g : Nat} (hg : v.ownBlock = some g) : ∃ cs, w.heap[g]? = some (.cells cs e (0, 0)) := by
  rcases h.2 with ⟨rfl, _⟩ | ⟨g', cap, cur, rfl, _, hgg, _⟩
  · simp [Value.ownBlock] at hg
  · simp [Value.ownBlock] at hg
    subst hg
    exact ⟨_, hgg⟩
theorem DAt.re {w W : World} {D : Dsk} {dk : Dk} {pv : Value} (h : DAt w D dk pv) (hb : But D.d w W) (off : Bool) (left : Nat) (hl : left ≤ 9223372036854775807)
    (hW : W.heap[D.d]? = some (.cells #[.bool off, .int .i64 (left : Int), .slice (some ⟨D.g1, 0, none⟩) dk.dur.length dk.dur.length, .slice (some ⟨D.g2, 0, none⟩) dk.dur.length dk.dur.length, pv] 97 (0, 0))) :
    DAt W D { dk with off := off, left := left } pv :=
  { blk := hW
    dur := h.dur.keep (hb.block _ h.dur.lt (cells_ne h.dur h.blk (by decide)))
    vis := h.vis.keep (hb.block _ h.vis.lt (cells_ne h.vis h.blk (by decide)))
    pend := own_keep h.pend fun g hg => by
      obtain ⟨cs, hc⟩ := own_block h.pend hg
      exact hb.block _ (h.pend.lt g hg).2 (cells_ne hc h.blk (by decide))
    len := h.len, hd := h.hd, h1 := h.h1, h2 := h.h2, ne := h.ne, lt := h.lt, small := h.small, left := hl, few := h.few }
theorem used_calls {w : World} {D : Dsk} {dk : Dk} (h : DiskAt w D dk) :
    Calls Tryz.prog 49 #[.pointer (some ⟨D.d, 0, none⟩)] w fun e w' => e = .returned (.tuple #[]) ∧ DiskAt w' D dk.used ∧ Off D w w' := by
  obtain ⟨pv, h⟩ := h
  have c0 := h.cell0
  have c1 := h.cell1
  have f0 := h.frozen 0
  have f1 := h.frozen 1
  by_cases h0 : dk.left = 0
  · have e : dk.used = dk := by unfold Dk.used; rw [if_pos h0]
    rw [e]
    rw [h0] at c1
    go_enter Tryz.func49, Tryz.ntmps49
    go_wp2
    refine bodyPost_ret (results_none rfl _ _ _) rfl ?_
    exact ⟨rfl, ⟨pv, h⟩, Off.refl _ _⟩
  · have e : dk.used = { dk with left := dk.left - 1, off := decide (dk.left = 1) } := by unfold Dk.used; rw [if_neg h0]
    rw [e]
    have hl := h.left
    obtain ⟨L, hL⟩ : ∃ L, dk.left = L + 1 := ⟨dk.left - 1, by omega⟩
    obtain ⟨l, hl2⟩ : ∃ l : Int, (dk.left : Int) = l := ⟨_, rfl⟩
    have hw : IntKind.i64.wrap (l - 1) = (L : Int) := by rw [IntKind.wrap_i64]; omega
    have hz0 : (l = 0) = False := eq_false (by omega)
    have hz : (l == 0) = false := beq_eq_false_iff_ne.mpr (by omega)
    have hz2 : ((L : Int) == 0) = decide (L = 0) := by rw [Bool.beq_eq_decide_eq]; simp
    have hd : decide (dk.left = 1) = decide (L = 0) := by rw [hL]; simp
    rw [hl2] at c1
    rw [hd]
    have S1 := set_blk h.blk (j := 1) (.int .i64 (L : Int))
    have S2 := set_blk S1 (j := 0) (.bool (decide (L = 0)))
    have R := h.re ((But.setCell D.d 1 w (.int .i64 (L : Int))).trans (But.setCell D.d 0 _ (.bool (decide (L = 0))))) (decide (L = 0)) L (by omega) S2
    have O := ((But.setCell D.d 1 w (.int .i64 (L : Int))).trans (But.setCell D.d 0 _ (.bool (decide (L = 0))))).off_d h.hd
    have hS : dk.left - 1 = L := by omega
    rw [hS]
    clear hL hl2 e hl
    go_enter Tryz.func49, Tryz.ntmps49
    go_wp2
    go_end0
    exact ⟨rfl, ⟨pv, R⟩, O⟩
open Go Go.RowKit Go.Proofs.YtniegajdmbepbaaGreatDoorW.PrintWords Go.Proofs.YtniegajdmbepbaaGreatDoorW.PrintMore
def bv (l : List Nat) : List Value := l.map fun (b : Nat) => Value.int .u8 (b : Int)
theorem bv_length (l : List Nat) : (bv l).length = l.length := by simp [bv]
theorem bv_splice (l : List Nat) (off : Nat) (s : List Nat) : bv (splice l off s) = (bv l).take off ++ bv s ++ (bv l).drop (off + (bv s).length) := by
 unfold splice bv
 simp
theorem By.bv {w : World} {g : Nat} {l : List Nat} (h : By w g l) : w.heap[g]? = some (.cells (bv l).toArray 5 (0, 0)) := h
theorem run_copy_str {P : Program} (w : World) (dT sT ty elem : TypeId) (hu : P.underlying dT = some (.slice elem)) (hs : (P.info? elem).map (·.size) = some 1)
  (dp : Option Addr) (g off dLen dCap : Nat) (s : ByteArray) (l : List Nat) (t : TypeId) (hg : w.heap[g]? = some (.cells (bv l).toArray t (0, 0))) (hpos : 0 < s.size → dp = some ⟨g, off, none⟩)
  (hd : s.size ≤ dLen) (hfit : off + s.size ≤ l.length) :
  (Builtin.copy_ #[dT, sT] ty #[.slice dp dLen dCap, .string s]).run P w = .ok (goInt s.size) (w.setRow g (bv (splice l off (bl s))).toArray) := by
 have hmin : Nat.min s.size dLen = s.size := Nat.min_eq_left hd
 have hcs : List.take s.size (s.data.toList.map fun b => Value.int .u8 (b.toNat : Int)) = bv (bl s) := by
  rw [List.take_of_length_le (by simp)]
  simp [bv, bl]
 cases hq : P.info? elem with
 | none => simp [hq] at hs
 | some i =>
  have hi : i.size = 1 := by simpa [hq] using hs
  by_cases h0 : s.size = 0
  ·have hb : bl s = [] := List.eq_nil_of_length_eq_zero (by rw [bl_length]; exact h0)
   rw [hb, splice_nil, setRow_self w g _ _ _ hg]
   cases dp with
   | none => simp [Builtin.copy_, run_underlying hu, Builtin.lenOf, Builtin.firstCells, sizeOf, typeInfo, hq, hi, h0]
   | some a =>
    simp [Builtin.copy_, run_underlying hu, Builtin.lenOf, Builtin.firstCells, sizeOf, typeInfo, hq, hi, h0, storeCells]
  ·obtain rfl := hpos (by omega)
   have hst := run_storeCells_at P g off t (bv (bl s)) 0 (bv l).toArray w hg (by simp [bv_length, bl_length]; omega) (by intro v hv; simp only [bv, List.mem_map] at hv; obtain ⟨b, _, rfl⟩ := hv; rfl)
   rw [bv_splice]
   simp only [Nat.add_zero] at hst
   simp [Builtin.copy_, run_underlying hu, Builtin.lenOf, Builtin.firstCells, sizeOf, typeInfo, hq, hi, hmin, hcs, hst]
theorem step_copy_str {P : Program} {ops : Array Oper} {o : Oper} {a : Act} {w : World} {K : Act → World → Prop} {Q : Exit → Act → World → Prop} {E : Prop} (hgd : o.guard = none) (d s : Operand) (dT sT : TypeId)
  (ho : o.op = .call { callee := .builtin .copy, args := #[d, s], argTypes := #[dT, sT] }) (elem : TypeId) (hu : P.underlying dT = some (.slice elem)) (hsz : (P.info? elem).map (·.size) = some 1)
  (dp : Option Addr) (g off dLen dCap : Nat) (x : ByteArray) (hd : a.eval d = .slice dp dLen dCap) (hs : a.eval s = .string x)
  (l : List Nat) (t : TypeId) (hg : w.heap[g]? = some (.cells (bv l).toArray t (0, 0))) (hpos : 0 < x.size → dp = some ⟨g, off, none⟩) (hdl : x.size ≤ dLen) (hfit : off + x.size ≤ l.length)
  (h : K (a.put o.dst (goInt x.size)) (w.setRow g (bv (splice l off (bl x))).toArray)) :
  if Region.wanted o (yielded ops a.tmps) = true then Oper.wp P o a w K Q else E := by
 have hw : Region.wanted o (yielded ops a.tmps) = true := by simp [Region.wanted, hgd]
 rw [if_pos hw]
 have hrun := run_copy_str (P := P) w dT sT o.type elem hu hsz dp g off dLen dCap x l t hg hpos hdl hfit
 unfold Oper.wp
 simp [execOp, ho, resolve, invoke, builtin, hd, hs, hrun, Result.andThen]
 exact h
theorem info8 : (Tryz.prog.info? 5).map (·.size) = some 1 := by kernel_rfl
set_option maxRecDepth 100000 in
set_option maxHeartbeats 2000000 in
theorem onto_calls (w : World) (g off : Nat) (s : ByteArray) (l : List Nat) (h : By w g l) (hfit : off + s.size ≤ l.length) (hl : l.length ≤ 4194304) :
  Calls Tryz.prog 48 #[.agg #[.int .i64 (off : Int), .string s], .slice (some ⟨g, 0, none⟩) l.length l.length] w fun e w' => e = .returned (.tuple #[]) ∧ By w' g (splice l off (bl s)) ∧ But g w w' := by
 obtain ⟨n, hn⟩ : ∃ n, l.length = n := ⟨_, rfl⟩
 rw [hn] at hfit hl ⊢
 have x1 : (off : Int) ≤ (n : Int) := by omega
 have x2 : off ≤ n := by omega
 go_enter Tryz.func48, Tryz.ntmps48
 go_upto_region 1 with (fail)
 have hA : (w.alloc (Obj.cells #[Value.int IntKind.i64 (off : Int), Value.string s] 92)).drew.heap[g]? = some (.cells (bv l).toArray 5 (0, 0)) := ((below_alloc (Below.refl w.heap.size w) _).block g h.lt).trans h
 have hB : But g w (w.alloc (Obj.cells #[Value.int IntKind.i64 (off : Int), Value.string s] 92)).drew := (But.of_below (below_alloc (Below.refl w.heap.size w) _)).drew
 have hE : By ((w.alloc (Obj.cells #[Value.int IntKind.i64 (off : Int), Value.string s] 92)).drew.setRow g (bv (splice l off (bl s))).toArray) g (splice l off (bl s)) := setRow_heap _ g _ _ _ _ hA
 have hF := hB.trans (But.setRow g (w.alloc (Obj.cells #[Value.int IntKind.i64 (off : Int), Value.string s] 92)).drew (bv (splice l off (bl s))).toArray)
 go_region_law (refine step_copy_str rfl (.tmp 7) (.tmp 9) 39 9 rfl 5 Tryz.underlying39 info8 _ g off _ _ s rfl rfl l 5 hA (fun h_ => by first | rfl | (rw [if_neg (by omega)])) (by omega) (by omega) ?_)
 all_goals go_end0
 all_goals exact ⟨rfl, hE, hF⟩
open Go Go.RowKit Go.Proofs.YtniegajdmbepbaaGreatDoorW.PrintWords Go.Proofs.YtniegajdmbepbaaGreatDoorW.PrintMore
theorem wpList_copy_all {P : Program} {w : World} {ops : Array Oper} {rest : List Oper} {o : Oper} {a : Act} {Q : Exit → Act → World → Prop} (hgd : o.guard = none) (d s : Operand) (dT sT : TypeId)
    (ho : o.op = .call { callee := .builtin .copy, args := #[d, s], argTypes := #[dT, sT] }) (elem : TypeId) (hu : P.underlying dT = some (.slice elem)) (hsz : (P.info? elem).map (·.size) = some 1)
    (g g' n : Nat) (hd : a.eval d = .slice (some ⟨g, 0, none⟩) n n) (hs : a.eval s = .slice (some ⟨g', 0, none⟩) n n)
    (l l' : List Nat) (t t' : TypeId) (hg : w.heap[g]? = some (.cells (bv l).toArray t (0, 0))) (hg' : w.heap[g']? = some (.cells (bv l').toArray t' (0, 0))) (hl : l.length = n) (hl' : l'.length = n)
    (h : ∀ w1, w1 = w.setRow g (bv l').toArray → wpList P ops Q rest (a.put o.dst (goInt n)) w1) : wpList P ops Q (o :: rest) a w := by
  refine wpList_copy_own hgd d s dT sT ho elem hu hsz g 0 n n ⟨g', 0, none⟩ n n hd hs (bv l).toArray t hg (bv l') (by rw [bv_length, hl']; simp) ?_ (by simp [bv_length, hl, hl']) (by intro v hv; simp only [bv, List.mem_map] at hv; obtain ⟨b, _, rfl⟩ := hv; rfl) ?_
  · intro j v hv
    have : (⟨g', 0, none⟩ : Addr).add j = ⟨g', j, none⟩ := by unfold Addr.add; split <;> simp_all
    rw [this]
    simp only [World.cell?, hg']
    simpa using hv
  · have e : (((bv l).toArray.toList.take 0) ++ ((bv l') ++ ((bv l).toArray.toList.drop (0 + (bv l').length)))).toArray = (bv l').toArray := by
      have : (bv l).drop (bv l').length = [] := List.drop_eq_nil_of_le (by simp [bv_length, hl, hl'])
      simp [this]
    rw [e, bv_length, hl']
    exact h _ rfl
theorem run_clear_own {P : Program} (w : World) (base : Nat) (t ty e : TypeId) (z : Value) (size : Nat) (ht : P.underlying t = some (.slice e)) (hz : ∀ w, (zeroValue e).run P w = .ok z w) (hzs : z.cells.size = size)
    (h1 : ∀ i : Nat, (z.cells[i]!).oneCell' = true) (v : Value) (n : Nat) (xs : List Value) (hown : w.ownsRow base e size v n xs) :
    ∃ w', (Builtin.clear_ #[t] ty #[v]).run P w = .ok (.tuple #[]) w' ∧ (∃ ys, w'.ownsRow base e size v n ys) ∧ w.grownBy w' v.ownBlock := by
  have hsame : w.grownBy w v.ownBlock := ⟨rfl, rfl, rfl, Nat.le_refl _, fun _ _ _ => rfl⟩
  rcases hown.2 with ⟨rfl, rfl⟩ | ⟨g, cap, cur, rfl, hb, hg, hn, hcm, hcs, htake⟩
  · exact ⟨w, by simp [Builtin.clear_, run_underlying ht], ⟨xs, hown⟩, hsame⟩
  · by_cases h0 : n = 0
    · subst h0
      exact ⟨w, by simp [Builtin.clear_, run_underlying ht], ⟨xs, hown⟩, hsame⟩
    · have hlen : (Builtin.zeroCells z.cells n).toList.length = n * size := by simp [Builtin.zeroCells, hzs]
      have hle : n * size ≤ cap * size := Nat.mul_le_mul_right _ hn
      have hst := run_storeCells_at P g 0 e (Builtin.zeroCells z.cells n).toList 0 cur w hg (by rw [hlen, hcs]; omega) (by
        intro v hv
        simp only [Builtin.zeroCells, Array.toList_map, List.mem_map] at hv
        obtain ⟨i, _, rfl⟩ := hv
        exact h1 _)
      obtain ⟨cs2, hcs2⟩ : ∃ cs2, cs2 = (List.take (0 + 0) cur.toList ++ (Builtin.zeroCells z.cells n).toList ++ List.drop (0 + 0 + (Builtin.zeroCells z.cells n).toList.length) cur.toList).toArray := ⟨_, rfl⟩
      rw [← hcs2] at hst
      have hsz : cs2.size = cap * size := by rw [hcs2]; simp [hlen, hcs]; omega
      refine ⟨w.setRow g cs2, ?_, ⟨cs2.toList.take (n * size), ?_, .inr ⟨g, cap, cs2, rfl, hb, setRow_heap w g _ _ _ _ hg, hn, hcm, hsz, rfl⟩⟩, ⟨rfl, rfl, rfl, by simp [World.setRow], fun k _ hk => setRow_other w g k _ (by intro e; subst e; exact hk rfl)⟩⟩
      rotate_left
      · rw [List.length_take, Array.length_toList, hsz]; exact Nat.min_eq_left hle
      · obtain ⟨m, rfl⟩ : ∃ m, n = m + 1 := ⟨n - 1, by omega⟩
        simp [Builtin.clear_, run_underlying ht, hz, hst]
theorem wpList_clear_own {P : Program} {w : World} {ops : Array Oper} {rest : List Oper} {o : Oper} {a : Act} {Q : Exit → Act → World → Prop} (hgd : o.guard = none) (s : Operand) (t : TypeId)
    (ho : o.op = .call { callee := .builtin .clear, args := #[s], argTypes := #[t] }) (base : Nat) (e : TypeId) (z : Value) (size : Nat) (ht : P.underlying t = some (.slice e)) (hz : ∀ w, (zeroValue e).run P w = .ok z w) (hzs : z.cells.size = size)
    (h1 : ∀ i : Nat, (z.cells[i]!).oneCell' = true) (v : Value) (n : Nat) (xs : List Value) (hs : a.eval s = v) (hown : w.ownsRow base e size v n xs)
    (h : ∀ w' ys, w'.ownsRow base e size v n ys → w.grownBy w' v.ownBlock → wpList P ops Q rest (a.put o.dst (.tuple #[])) w') : wpList P ops Q (o :: rest) a w := by
  refine wpList_plain hgd fun K hK => ?_
  obtain ⟨w', hrun, ⟨ys, hy⟩, hgr⟩ := run_clear_own (P := P) w base t o.type e z size ht hz hzs h1 v n xs hown
  unfold Oper.wp
  simp [execOp, ho, resolve, invoke, builtin, hs, hrun, Result.andThen]
  exact hK _ _ (h w' ys hy hgr)
theorem Off.grown {D : Dsk} {w W : World} {v : Value} {n : Nat} {xs : List Value} (h : w.grownBy W v.ownBlock) (hown : w.ownsRow D.B 92 2 v n xs) : Off D w W := by
  refine ⟨h.os, h.tape, h.output, h.size, fun k o hk hc => ?_⟩
  rw [h.block k (Array.getElem?_eq_some_iff.1 hk).1 ?_]
  · exact hk
  · intro e
    obtain ⟨cs, hc2⟩ := own_block hown e.symm
    have hb := (hown.lt k e.symm).1
    rcases hc with hc | ⟨_, _, _, hc⟩
    · omega
    · rw [hk] at hc2
      obtain rfl := Option.some.inj hc2
      exact hc rfl
theorem grown_keep {D : Dsk} {w W : World} {v : Value} {n : Nat} {xs : List Value} (h : w.grownBy W v.ownBlock) (hown : w.ownsRow D.B 92 2 v n xs) {k : Nat} {cs : Array Value} {t : TypeId} {f : Nat × Nat} (hk : w.heap[k]? = some (.cells cs t f)) (ht : t ≠ 92) :
    W.heap[k]? = some (.cells cs t f) := by
  rw [h.block k (Array.getElem?_eq_some_iff.1 hk).1 ?_]
  · exact hk
  · intro e
    obtain ⟨cs2, hc2⟩ := own_block hown e.symm
    exact cells_ne hk hc2 ht rfl
theorem zero_w : ∀ w, (zeroValue 92).run Tryz.prog w = .ok (.agg #[.int .i64 0, .string ⟨#[]⟩]) w := Tryz.zeroValue92
set_option maxRecDepth 100000 in
set_option maxHeartbeats 2000000 in
theorem settle_calls {w : World} {D : Dsk} {dk : Dk} (h : DiskAt w D dk) :
    Calls Tryz.prog 65 #[.pointer (some ⟨D.d, 0, none⟩), .slice (some ⟨D.g2, 0, none⟩) dk.dur.length dk.dur.length, .slice (some ⟨D.g1, 0, none⟩) dk.dur.length dk.dur.length] w fun e w' =>
      e = .returned (.tuple #[]) ∧ DiskAt w' D { dk with dur := dk.vis, pend := [] } ∧ Off D w w' := by
  obtain ⟨pv, h⟩ := h
  obtain ⟨N, hN⟩ : ∃ N, dk.dur.length = N := ⟨_, rfl⟩
  have hN2 : dk.vis.length = N := h.len.trans hN
  have hd' : ∀ w1, w1 = w.setRow D.g1 (bv dk.vis).toArray → DAt w1 D { dk with dur := dk.vis } pv ∧ Off D w w1 := by
    rintro w1 rfl
    have hb := But.setRow D.g1 w (bv dk.vis).toArray
    refine ⟨?_, hb.off_1 h.h1⟩
    exact { blk := by rw [show ({ dk with dur := dk.vis } : Dk).dur.length = dk.dur.length from h.len]; exact (hb.block _ h.lt_d (cells_ne h.blk h.dur (by decide))).trans h.blk
            dur := setRow_heap w D.g1 _ _ _ _ h.dur
            vis := h.vis.keep (hb.block _ h.vis.lt (Ne.symm h.ne))
            pend := own_keep h.pend fun g hg => by
              obtain ⟨cs, hc⟩ := own_block h.pend hg
              exact hb.block _ (h.pend.lt g hg).2 (cells_ne hc h.dur (by decide))
            len := rfl, hd := h.hd, h1 := h.h1, h2 := h.h2, ne := h.ne, lt := h.lt, small := by show dk.vis.length ≤ _; rw [h.len]; exact h.small, left := h.left, few := h.few }
  have onec : ∀ i : Nat, ((#[Value.int .i64 0, Value.string ⟨#[]⟩] : Array Value)[i]!).oneCell' = true := by
    intro i
    match i with
    | 0 => rfl
    | 1 => rfl
    | i + 2 => rfl
  have fin : ∀ w1 w2 ys pv', DAt w1 D { dk with dur := dk.vis } pv → Off D w w1 → w2.ownsRow D.B 92 2 pv' 0 [] → w1.grownBy w2 pv.ownBlock → pv'.ownBlock = pv.ownBlock → ys = (w2.setCell ⟨D.d, 4, none⟩ pv') →
      DiskAt ys D { dk with dur := dk.vis, pend := [] } ∧ Off D w ys := by
    rintro w1 w2 ys pv' h1 o1 hy hgr he rfl
    have hb := grown_keep hgr h1.pend h1.blk (by decide)
    have hc := But.setCell D.d 4 w2 pv'
    have h2 := set_blk hb (j := 4) pv'
    have hg1 : w2.heap[D.g1]? = _ := grown_keep hgr h1.pend h1.dur (by decide)
    have hg2 : w2.heap[D.g2]? = _ := grown_keep hgr h1.pend h1.vis (by decide)
    refine ⟨⟨pv', ?_⟩, (o1.trans (Off.grown hgr h1.pend)).trans (hc.off_d h.hd)⟩
    exact { blk := h2, dur := (hc.block _ (Array.getElem?_eq_some_iff.1 hg1).1 (cells_ne hg1 hb (by decide))).trans hg1
            vis := (hc.block _ (Array.getElem?_eq_some_iff.1 hg2).1 (cells_ne hg2 hb (by decide))).trans hg2
            pend := own_keep hy fun g hg => by
              obtain ⟨cs, hcs⟩ := own_block hy hg
              exact hc.block _ (hy.lt g hg).2 (cells_ne hcs hb (by decide))
            len := rfl, hd := h.hd, h1 := h.h1, h2 := h.h2, ne := h.ne, lt := h.lt, small := h1.small, left := h.left, few := Nat.zero_le _ }
  rw [hN]
  go_enter Tryz.func65, Tryz.ntmps65
  go_upto_region 0 with (fail)
  refine wp_region_list ?_
  repeat (fail_if_success (refine wpList_copy_all rfl (.tmp 6) (.tmp 7) 39 39 rfl 5 Tryz.underlying39 info8 D.g1 D.g2 N rfl rfl dk.dur dk.vis _ _ h.dur h.vis hN hN2 ?_)); go_step
  refine wpList_copy_all rfl (.tmp 6) (.tmp 7) 39 39 rfl 5 Tryz.underlying39 info8 D.g1 D.g2 N rfl rfl dk.dur dk.vis _ _ h.dur h.vis hN hN2 ?_
  intro w1 hw1
  obtain ⟨h1, o1⟩ := hd' w1 hw1
  clear hw1
  have c4 := h1.cell4
  repeat (fail_if_success (refine wpList_clear_own rfl (.tmp 12) 93 rfl D.B 92 _ 2 Tryz.underlying93 zero_w rfl onec pv _ _ rfl h1.pend ?_)); go_step
  refine wpList_clear_own rfl (.tmp 12) 93 rfl D.B 92 _ 2 Tryz.underlying93 zero_w rfl onec pv _ _ rfl h1.pend ?_
  intro w2 ys hy hgr
  have hb := grown_keep hgr h1.pend h1.blk (by decide)
  have f4 : w2.frozen? ⟨D.d, 4, none⟩ = false := frozen_of hb 4
  clear c4
  have c4 : w2.cell? ⟨D.d, 4, none⟩ = some pv := by simp [World.cell?, hb]
  clear hb
  rcases hy.2 with ⟨rfl, h0⟩ | ⟨gp, cap, cur, rfl, hb2, hg, hn, hcm, hcs, htake⟩
  · have S := fin w1 w2 _ (.slice none 0 0) h1 o1 (World.ownsRow_nil _ _ _ _) hgr rfl rfl
    clear fin hy hgr h0
    go_wp2
    go_end0
    exact ⟨rfl, S⟩
  · have S := fin w1 w2 _ (.slice (some ⟨gp, 0, none⟩) 0 cap) h1 o1 ⟨rfl, .inr ⟨gp, cap, cur, rfl, hb2, hg, Nat.zero_le _, hcm, hcs, by simp⟩⟩ hgr rfl rfl
    clear fin hy hgr hg
    go_wp2
    go_end0
    exact ⟨rfl, S⟩
open Go Go.RowKit Go.Proofs.YtniegajdmbepbaaGreatDoorW.PrintWords Go.Proofs.YtniegajdmbepbaaGreatDoorW.PrintMore
theorem wp_world {P : Program} {c : Code} {Q : Exit → Act → World → Prop} {a : Act} {W : World} (F : World → Prop) (hF : F W) (h : ∀ W', F W' → c.wp P Q a W') : c.wp P Q a W := h W hF
theorem step_append_own {P : Program} {ops : Array Oper} {o : Oper} {a : Act} {w : World} {K : Act → World → Prop} {Q : Exit → Act → World → Prop} {E : Prop} (hg : o.guard = none) (s x : Operand) (t : TypeId)
    (hop : o.op = Op.call { callee := Callee.builtin Builtin.append, args := #[s, x], argTypes := #[t, t] })
    (base : Nat) (e : TypeId) (i : TypeInfo) (z : Value) (size bytes : Nat) (h1 : P.underlying t = some (.slice e)) (h2 : P.info? e = some i) (h3 : i.zero = some z) (h4 : i.size = size) (h5 : i.bytes = bytes) (h6 : z.cells.size = size) (h7 : 0 < size)
    (v : Value) (n : Nat) (xs : List Value) (hs : a.eval s = v) (hown : w.ownsRow base e size v n xs)
    (ad : Addr) (m c : Nat) (news : List Value) (hx : a.eval x = .slice (some ad) m c) (hn : news.length = m * size) (hc : ∀ j u, news[j]? = some u → w.cell? (ad.add j) = some u) (h1c : ∀ u ∈ news, u.oneCell' = true)
    (b1 : n + m ≤ maxLen) (b2 : (n + m) * bytes ≤ 140737488355328) (hbase : base ≤ w.heap.size)
    (hK : ∀ v' w', w'.ownsRow base e size v' (n + m) (xs ++ news) → w.grownBy w' v.ownBlock → K (a.put o.dst v') w') :
    if Region.wanted o (yielded ops a.tmps) = true then Oper.wp P o a w K Q else E := by
  have hw : Region.wanted o (yielded ops a.tmps) = true := by simp [Region.wanted, hg]
  rw [if_pos hw]
  exact wp_append_own (P := P) w s x t hop base e i z size bytes h1 h2 h3 h4 h5 h6 h7 v n xs hs hown ad m c news hx hn hc h1c b1 b2 hbase fun v' w' q1 q2 _ => hK v' w' q1 q2
theorem own_form {w : World} {base : Nat} {e : TypeId} {size : Nat} {v : Value} {n : Nat} {xs : List Value} (h : w.ownsRow base e size v n xs) : ∃ ao c, v = .slice ao n c := by
  rcases h.2 with ⟨rfl, rfl⟩ | ⟨g, cap, cur, rfl, _⟩
  · exact ⟨none, 0, rfl⟩
  · exact ⟨_, _, rfl⟩
theorem infoW : (Tryz.prog.info? 92).map (fun i => (i.zero, i.size, i.bytes)) = some (some (.agg #[.int .i64 0, .string ⟨#[]⟩]), 2, 24) := by kernel_rfl
theorem DAt.pended {w W : World} {D : Dsk} {dk : Dk} {pv pv' : Value} {off : Nat} {s : ByteArray} (h : DAt w D dk pv) (hf : dk.pend.length + 1 ≤ 1099511627776) (hgr : w.grownBy W pv.ownBlock)
    (hown : W.ownsRow D.B 92 2 pv' (dk.pend.length + 1) (pcells dk.pend ++ [.int .i64 (off : Int), .string s])) :
    DAt (W.setCell ⟨D.d, 4, none⟩ pv') D { dk with pend := dk.pend ++ [(off, s)] } pv' ∧ Off D w (W.setCell ⟨D.d, 4, none⟩ pv') := by
  have hb := grown_keep hgr h.pend h.blk (by decide)
  have hc := But.setCell D.d 4 W pv'
  have h2 := set_blk hb (j := 4) pv'
  have hg1 : W.heap[D.g1]? = _ := grown_keep hgr h.pend h.dur (by decide)
  have hg2 : W.heap[D.g2]? = _ := grown_keep hgr h.pend h.vis (by decide)
  refine ⟨?_, (Off.grown hgr h.pend).trans (hc.off_d h.hd)⟩
  exact { blk := h2, dur := (hc.block _ (Array.getElem?_eq_some_iff.1 hg1).1 (cells_ne hg1 hb (by decide))).trans hg1
          vis := (hc.block _ (Array.getElem?_eq_some_iff.1 hg2).1 (cells_ne hg2 hb (by decide))).trans hg2
          pend := by
            have hl : (dk.pend ++ [(off, s)]).length = dk.pend.length + 1 := by simp
            show (W.setCell ⟨D.d, 4, none⟩ pv').ownsRow D.B 92 2 pv' (dk.pend ++ [(off, s)]).length (pcells (dk.pend ++ [(off, s)]))
            rw [hl, pcells_snoc]
            exact own_keep hown fun g hg => by
              obtain ⟨cs, hcs⟩ := own_block hown hg
              exact hc.block _ (hown.lt g hg).2 (cells_ne hcs hb (by decide))
          len := h.len, hd := h.hd, h1 := h.h1, h2 := h.h2, ne := h.ne, lt := h.lt, small := h.small, left := h.left, few := by simp; omega }
theorem DAt.seen {w W : World} {D : Dsk} {dk : Dk} {pv : Value} (h : DAt w D dk pv) (hb : But D.g2 w W) (l : List Nat) (hl : l.length = dk.vis.length) (hlt : ∀ b ∈ l, b < 256) (hW : By W D.g2 l) : DAt W D { dk with vis := l } pv :=
  { blk := (hb.block _ h.lt_d (cells_ne h.blk h.vis (by decide))).trans h.blk
    dur := h.dur.keep (hb.block _ h.dur.lt h.ne)
    vis := hW
    pend := own_keep h.pend fun g hg => by
      obtain ⟨cs, hc⟩ := own_block h.pend hg
      exact hb.block _ (h.pend.lt g hg).2 (cells_ne hc h.vis (by decide))
    len := hl.trans h.len, hd := h.hd, h1 := h.h1, h2 := h.h2, ne := h.ne, lt := hlt, small := h.small, left := h.left, few := h.few }
theorem splice_lt {b : List Nat} {off : Nat} {s : List Nat} (h : ∀ x ∈ b, x < 256) (hs : ∀ x ∈ s, x < 256) : ∀ x ∈ splice b off s, x < 256 := by
  intro x hx
  unfold splice at hx
  rcases List.mem_append.1 hx with hx | hx
  · rcases List.mem_append.1 hx with hx | hx
    · exact h x (List.mem_of_mem_take hx)
    · exact hs x hx
  · exact h x (List.mem_of_mem_drop hx)
set_option maxRecDepth 100000 in
set_option maxHeartbeats 4000000 in
theorem write_calls {w : World} {D : Dsk} {dk : Dk} (h : DiskAt w D dk) (off : Int) (s : ByteArray) (hf : dk.pend.length + 1 ≤ 1099511627776) :
    Calls Tryz.prog 13 #[.pointer (some ⟨D.d, 0, none⟩), .int .i64 off, .string s] w fun e w' => e = .returned (.int .i64 (dk.write off s).2) ∧ DiskAt w' D (dk.write off s).1 ∧ Off D w w' := by
  have hC := check_calls h
  have hI := inside_calls h off s.size
  cases ho : dk.off with
  | true =>
    have e : dk.write off s = (dk, 281) := by unfold Dk.write; rw [if_pos ho]
    rw [e]
    rw [ho, if_pos rfl] at hC
    go_enter Tryz.func13, Tryz.ntmps13
    go_wp2_with (go_at_call 46; refine hC.mono ?_; rintro e w' ⟨rfl, rfl⟩)
    go_ret
    exact ⟨rfl, h, Off.refl _ _⟩
  | false =>
    rw [ho, if_neg (by decide)] at hC
    cases hi : dk.inside off s.size with
    | false =>
      have e : dk.write off s = (dk, 280) := by unfold Dk.write; rw [if_neg (by rw [ho]; decide), if_neg (by rw [hi]; decide)]
      rw [e]
      rw [hi] at hI
      go_enter Tryz.func13, Tryz.ntmps13
      go_wp2_with (first
        | (go_at_call 46; refine hC.mono ?_; rintro e w' ⟨rfl, rfl⟩)
        | (go_at_call 47; refine hI.mono ?_; rintro e w' ⟨rfl, rfl⟩))
      go_ret
      exact ⟨rfl, h, Off.refl _ _⟩
    | true =>
      have hin : 0 ≤ off ∧ off ≤ (dk.dur.length : Int) ∧ (s.size : Int) ≤ (dk.dur.length : Int) - off := by
        unfold Dk.inside at hi
        simp only [Bool.and_eq_true, decide_eq_true_eq] at hi
        omega
      obtain ⟨o, rfl⟩ : ∃ o : Nat, off = (o : Int) := ⟨off.toNat, by omega⟩
      have e : dk.write (o : Int) s = (Dk.used { dk with pend := dk.pend ++ [(o, s)], vis := splice dk.vis o (bl s) }, 0) := by
        unfold Dk.write; rw [if_neg (by rw [ho]; decide), if_pos hi]; rfl
      rw [e]
      rw [hi] at hI
      obtain ⟨pv, h⟩ := h
      go_enter Tryz.func13, Tryz.ntmps13
      go_upto_region 7 with (first
        | (go_at_call 46; refine hC.mono ?_; rintro e w' ⟨rfl, rfl⟩)
        | (go_at_call 47; refine hI.mono ?_; rintro e w' ⟨rfl, rfl⟩))
      obtain ⟨i0, hi0, hz0, hz1, hz2⟩ := info_parts infoW
      have hq : some w'.heap.size ≠ pv.ownBlock := fun e => by have := (h.pend.lt _ e.symm).2; omega
      have hB := h.size
      have hs := h.small
      refine wp_world (fun W => DAt W D dk pv ∧ W.heap[w'.heap.size]? = some (.cells #[.int .i64 (o : Int), .string s] 92 (0, 0)) ∧ Off D w' W ∧ w'.heap.size < W.heap.size) ⟨h.keep (below_alloc (Below.refl _ _) _), heap_alloc_new .., Off.of_below (below_alloc (Below.refl _ _) _), by simp⟩ ?_
      rintro W1 ⟨H1, Q1, O1, S1⟩
      generalize w'.heap.size = q at *
      have H2 : DAt (W1.alloc (.cells #[.int .i64 (o : Int), .string s] 92)).drew D dk pv := H1.keep (below_alloc (Below.refl W1.heap.size W1) _).drew
      have Q2 : (W1.alloc (.cells #[.int .i64 (o : Int), .string s] 92)).drew.heap[q]? = some (.cells #[.int .i64 (o : Int), .string s] 92 (0, 0)) := ((below_alloc (Below.refl W1.heap.size W1) _).block q S1).trans Q1
      have O2 : Off D w' (W1.alloc (.cells #[.int .i64 (o : Int), .string s] 92)).drew := O1.then (below_alloc (Below.refl W1.heap.size W1) _).drew
      have N2 := World.news_of_block (cs := #[.int .i64 (o : Int), .string s]) (t := 92) (fr := (0, 0)) (heap_alloc_new W1 (.cells #[.int .i64 (o : Int), .string s] 92))
      have S2 : q < (W1.alloc (.cells #[.int .i64 (o : Int), .string s] 92)).drew.heap.size := by simp; omega
      have c4 := H1.cell4
      have c4a : (W1.alloc (.cells #[.int .i64 (o : Int), .string s] 92)).cell? ⟨D.d, 4, none⟩ = some pv := H2.cell4
      have cq0 : W1.cell? ⟨q, 0, none⟩ = some (.int .i64 (o : Int)) := by simp [World.cell?, Q1]
      have cq1 : W1.cell? ⟨q, 1, none⟩ = some (.string s) := by simp [World.cell?, Q1]
      go_region_law (refine step_append_own rfl (.tmp 27) (.tmp 29) 93 rfl D.B 92 i0 _ 2 24 Tryz.underlying93 hi0 hz0 hz1 hz2 rfl (by decide) pv _ _ rfl H2.pend ⟨W1.heap.size, 0, none⟩ 1 1 [.int .i64 (o : Int), .string s] rfl rfl N2 (by intro u hu; simp at hu; rcases hu with rfl | rfl <;> rfl) (by unfold maxLen; omega) (by omega) (by have := H2.size; exact this) ?_
                     intro v' W2 hown hgr
                     obtain ⟨ao, c, rfl⟩ := own_form hown
                     have P2 := H2.pended hf hgr hown
                     have Q3 := (hgr.block q S2 hq).trans Q2
                     have hb := grown_keep hgr H2.pend H2.blk (by decide)
                     have f4 : W2.frozen? ⟨D.d, 4, none⟩ = false := frozen_of hb 4
                     have c4' : W2.cell? ⟨D.d, 4, none⟩ = some pv := by simp [World.cell?, hb])
      all_goals
        go_upto_region 8 with (fail)
        refine wp_world (fun W => DAt W D { dk with pend := dk.pend ++ [(o, s)] } (.slice ao (dk.pend.length + 1) c) ∧ W.heap[q]? = some (.cells #[.int .i64 (o : Int), .string s] 92 (0, 0)) ∧ Off D w' W) ⟨P2.1, ((But.setCell D.d 4 W2 _).block q (Array.getElem?_eq_some_iff.1 Q3).1 (cells_ne Q3 hb (by decide))).trans Q3, O2.trans P2.2⟩ ?_
        clear hb f4 c4' Q3 P2 hgr hown N2 c4a cq0 cq1 c4 Q2 H2 O2 S2 Q1 H1 O1 S1
        rintro W3 ⟨H3, Q3, O3⟩
        have c3 := H3.cell3
        have cq0 : W3.cell? ⟨q, 0, none⟩ = some (.int .i64 (o : Int)) := by simp [World.cell?, Q3]
        have cq1 : W3.cell? ⟨q, 1, none⟩ = some (.string s) := by simp [World.cell?, Q3]
        have hfit : o + s.size ≤ dk.vis.length := by rw [h.len]; omega
        have hvl : dk.vis.length ≤ 4194304 := by rw [h.len]; exact hs
        have hon := onto_calls W3.drew D.g2 o s dk.vis H3.vis hfit hvl
        rw [h.len] at hon
        go_region_with (go_at_call 48; refine hon.mono ?_; rintro e W4 ⟨rfl, hv, hb4⟩)
        all_goals
          have H4 := (H3.keep (Below.refl W3.heap.size W3).drew).seen hb4 _ (splice_length (by rw [bl_length]; exact hfit)) (splice_lt h.lt (bl_lt s)) hv
          have hU := used_calls ⟨_, H4⟩
          clear H4 hv c3 cq0 cq1
          go_wp2_with (go_at_call 49; refine hU.mono ?_; rintro e W5 ⟨rfl, hd5, o5⟩)
          go_ret
          exact ⟨rfl, hd5, (O3.trans ((But.from_drew hb4).off_2 h.h2)).trans o5⟩
open Go Go.RowKit Go.Proofs.YtniegajdmbepbaaGreatDoorW.PrintWords Go.Proofs.YtniegajdmbepbaaGreatDoorW.PrintMore
set_option maxRecDepth 100000 in
set_option maxHeartbeats 2000000 in
theorem sync_calls {w : World} {D : Dsk} {dk : Dk} (h : DiskAt w D dk) :
  Calls Tryz.prog 42 #[.pointer (some ⟨D.d, 0, none⟩)] w fun e w' => e = .returned (.int .i64 dk.sync.2) ∧ DiskAt w' D dk.sync.1 ∧ Off D w w' := by
 have hC := check_calls h
 cases ho : dk.off with
 | true =>
  have e : dk.sync = (dk, 281) := by unfold Dk.sync; rw [if_pos ho]
  rw [e]
  rw [ho, if_pos rfl] at hC
  go_enter Tryz.func42, Tryz.ntmps42
  go_wp2_with (go_at_call 46; refine hC.mono ?_; rintro e w' ⟨rfl, rfl⟩)
  go_ret
  exact ⟨rfl, h, Off.refl _ _⟩
 | false =>
  have e : dk.sync = ({ dk with dur := dk.vis, pend := [] }, 0) := by unfold Dk.sync; rw [if_neg (by rw [ho]; decide)]
  rw [e]
  rw [ho, if_neg (by decide)] at hC
  go_enter Tryz.func42, Tryz.ntmps42
  go_upto_region 3 with (go_at_call 46; refine hC.mono ?_; rintro e w' ⟨rfl, rfl⟩)
  have hS := settle_calls (h.keep (Below.refl w'.heap.size w').drew)
  obtain ⟨pv, h⟩ := h
  have c2 := h.cell2
  have c3 := h.cell3
  go_region_with (go_at_call 65; refine hS.mono ?_; rintro e w2 ⟨rfl, hd, o2⟩)
  all_goals
   go_wp2_with (fail)
   go_ret
   exact ⟨rfl, hd, ⟨o2.os, o2.tape, o2.output, o2.size, o2.block⟩⟩
theorem pending_calls {w : World} {D : Dsk} {dk : Dk} (h : DiskAt w D dk) :
  Calls Tryz.prog 32 #[.pointer (some ⟨D.d, 0, none⟩)] w fun e w' => e = .returned (.int .i64 (dk.pend.length : Int)) ∧ w' = w := by
 obtain ⟨pv, h⟩ := h
 have c4 := h.cell4
 obtain ⟨ao, c, rfl⟩ := own_form h.pend
 go_enter Tryz.func32, Tryz.ntmps32
 go_wp2
 go_ret
 exact ⟨rfl, rfl⟩
theorem str_ofB (l : List Nat) : strOfNums (l.map fun (b : Nat) => (b : Int)) = ofB l := by
 apply ByteArray.ext
 apply Array.toList_inj.1
 rw [strOfNums_data]
 simp [ofB]
set_option maxRecDepth 100000 in
set_option maxHeartbeats 2000000 in
theorem read_calls {w : World} {D : Dsk} {dk : Dk} (h : DiskAt w D dk) :
  Calls Tryz.prog 52 #[.pointer (some ⟨D.d, 0, none⟩), .int .i64 0, .int .i64 (dk.dur.length : Int)] w fun e w' =>
   e = .returned (.tuple #[.string (if dk.off = true then ⟨#[]⟩ else ofB dk.vis), .int .i64 (if dk.off = true then 281 else 0)]) ∧ w' = w := by
 have hC := check_calls h
 have hI := inside_calls h 0 dk.dur.length
 cases ho : dk.off with
 | true =>
  rw [ho, if_pos rfl] at hC
  rw [if_pos rfl, if_pos rfl]
  go_enter Tryz.func52, Tryz.ntmps52
  go_wp2_with (go_at_call 46; refine hC.mono ?_; rintro e w' ⟨rfl, rfl⟩)
  go_ret2
  exact ⟨rfl, rfl⟩
 | false =>
  rw [ho, if_neg (by decide)] at hC
  have hi : dk.inside 0 dk.dur.length = true := by simp [Dk.inside]
  rw [hi] at hI
  rw [if_neg (by decide), if_neg (by decide)]
  obtain ⟨pv, h⟩ := h
  have c3 := h.cell3
  have hs := h.small
  have hcv := run_convert_bytes_arg w 39 5 Tryz.underlying39 Tryz.underlying5 D.g2 0 dk.dur.length dk.dur.length (dk.vis.map fun (b : Nat) => (b : Int)) (by rw [List.length_map, h.len]) (fun i hi => by
   have := h.vis
   unfold By at this
   rw [← h.len] at hi
   simp [World.cell?, this, hi]) 9 Tryz.underlying9
  rw [str_ofB] at hcv
  obtain ⟨N, hN⟩ : ∃ N, dk.dur.length = N := ⟨_, rfl⟩
  rw [hN] at hI c3 hcv ⊢
  go_enter Tryz.func52, Tryz.ntmps52
  go_upto_region 6 with (first
    | (go_at_call 46; refine hC.mono ?_; rintro e w' ⟨rfl, rfl⟩)
    | (go_at_call 47; refine hI.mono ?_; rintro e w' ⟨rfl, rfl⟩))
  go_wp2_with (fail)
  go_ret2
  exact ⟨rfl, rfl⟩
set_option maxRecDepth 100000 in
set_option maxHeartbeats 2000000 in
theorem cut_calls {w : World} {D : Dsk} {dk : Dk} (h : DiskAt w D dk) (n : Int) (hn : n ≤ 9223372036854775807) :
  Calls Tryz.prog 29 #[.pointer (some ⟨D.d, 0, none⟩), .int .i64 n] w fun e w' => e = .returned (.int .i64 (dk.cut n).2) ∧ DiskAt w' D (dk.cut n).1 ∧ Off D w w' := by
 have hC := check_calls h
 cases ho : dk.off with
 | true =>
  have e : dk.cut n = (dk, 281) := by unfold Dk.cut; rw [if_pos ho]
  rw [e]
  rw [ho, if_pos rfl] at hC
  go_enter Tryz.func29, Tryz.ntmps29
  go_wp2_with (go_at_call 46; refine hC.mono ?_; rintro e w' ⟨rfl, rfl⟩)
  go_ret
  exact ⟨rfl, h, Off.refl _ _⟩
 | false =>
  rw [ho, if_neg (by decide)] at hC
  by_cases h0 : n < 0
  ·have e : dk.cut n = (dk, 2) := by unfold Dk.cut; rw [if_neg (by rw [ho]; decide), if_pos h0]
   rw [e]
   go_enter Tryz.func29, Tryz.ntmps29
   go_wp2_with (go_at_call 46; refine hC.mono ?_; rintro e w' ⟨rfl, rfl⟩)
   go_ret
   exact ⟨rfl, h, Off.refl _ _⟩
  ·obtain ⟨m, rfl⟩ : ∃ m : Nat, n = (m : Int) := ⟨n.toNat, by omega⟩
   have e : dk.cut (m : Int) = ({ dk with off := decide (m = 0), left := m }, 0) := by
    unfold Dk.cut; rw [if_neg (by rw [ho]; decide), if_neg h0]; simp
   rw [e]
   obtain ⟨pv, h⟩ := h
   have c0 := h.cell0
   have c1 := h.cell1
   have f0 := h.frozen 0
   have f1 := h.frozen 1
   have hz : ((m : Int) == 0) = decide (m = 0) := by rw [Bool.beq_eq_decide_eq]; simp
   go_enter Tryz.func29, Tryz.ntmps29
   go_wp2_with (go_at_call 46; refine hC.mono ?_; rintro e w' ⟨rfl, rfl⟩)
   go_ret
   have S1 := set_blk h.blk (j := 0) (.bool (decide (m = 0)))
   have S2 := set_blk S1 (j := 1) (.int .i64 (m : Int))
   have B := (But.setCell D.d 0 w' (.bool (decide (m = 0)))).trans (But.setCell D.d 1 _ (.int .i64 (m : Int)))
   exact ⟨rfl, ⟨pv, h.re B (decide (m = 0)) m (by omega) S2⟩, B.off_d h.hd⟩
open Go Go.RowKit Go.Proofs.YtniegajdmbepbaaGreatDoorW.PrintWords Go.Proofs.YtniegajdmbepbaaGreatDoorW.PrintMore
def newDk (n : Nat) : Dk := ⟨false, 0, zeros n, zeros n, []⟩
theorem info81 : (Tryz.prog.info? 5).map (fun i => (i.zero, i.size, i.bytes)) = some (some (.int .u8 0), 1, 1) := by kernel_rfl
set_option maxRecDepth 100000 in
theorem run_make_bytes (n : Nat) (hn : n ≤ 281474976710656) (w : World) :
    (Instr.makeSlice 39 (.int .i64 (n : Int)) (.int .i64 (n : Int))).run Tryz.prog w = .ok (.slice (some ⟨w.heap.size, 0, none⟩) n n) (w.alloc (.cells (bv (zeros n)).toArray 5)) := by
  obtain ⟨i0, hi0, hz0, hz1, hz2⟩ := info_parts info81
  have h := run_make (P := Tryz.prog) w 39 5 i0 _ Tryz.underlying39 hi0 hz0 .i64 .i64 (n : Int) (n : Int) (by omega) (by omega) (by rw [hz2]; omega) (by omega)
  rw [h]
  congr 2
  rw [hz1]
  have : madeCells (Value.int .u8 0).cells (Int.toNat (n : Int) * 1) = (bv (zeros n)).toArray := by
    apply Array.toList_inj.1
    apply List.ext_getElem?
    intro j
    simp only [madeCells, Value.cells, Array.toList_map, Array.toList_range, Int.toNat_natCast, Nat.mul_one, List.getElem?_map, bv, zeros, List.getElem?_replicate, List.getElem?_range']
    by_cases hj : j < n
    · simp [hj, Nat.mod_one]
    · simp [hj]
  rw [this]
theorem new_end (w : World) (n a b : Nat) (h1 : 1 ≤ n) (h2 : n ≤ 4194304) (hab : (a = w.heap.size ∧ b = w.heap.size + 1) ∨ (a = w.heap.size + 1 ∧ b = w.heap.size)) (W : World)
    (hW : W = (((w.alloc (.cells (bv (zeros n)).toArray 5)).alloc (.cells (bv (zeros n)).toArray 5)).alloc (.cells #[.bool false, .int .i64 0, .slice (some ⟨a, 0, none⟩) n n, .slice (some ⟨b, 0, none⟩) n n, .slice none 0 0] 97)).drew) :
    DiskAt W ⟨w.heap.size, w.heap.size + 1 + 1, a, b⟩ (newDk n) ∧ Below w.heap.size w W := by
  obtain ⟨w1, e1⟩ : ∃ w1, w1 = w.alloc (.cells (bv (zeros n)).toArray 5) := ⟨_, rfl⟩
  obtain ⟨w2, e2⟩ : ∃ w2, w2 = w1.alloc (.cells (bv (zeros n)).toArray 5) := ⟨_, rfl⟩
  rw [← e1, ← e2] at hW
  have s1 : w1.heap.size = w.heap.size + 1 := by rw [e1]; simp
  have s2 : w2.heap.size = w.heap.size + 1 + 1 := by rw [e2, ← s1]; simp
  have q1 : w1.heap[w.heap.size]? = some (.cells (bv (zeros n)).toArray 5 (0, 0)) := by rw [e1]; exact heap_alloc_new ..
  have q2 : w2.heap[w.heap.size + 1]? = some (.cells (bv (zeros n)).toArray 5 (0, 0)) := by rw [e2, ← s1]; exact heap_alloc_new ..
  have b2 : Below w1.heap.size w1 w2 := by rw [e2]; exact below_alloc (Below.refl _ _) _
  have b3 : Below w2.heap.size w2 W := by rw [hW]; exact (below_alloc (Below.refl _ _) _).drew
  have q1' : w2.heap[w.heap.size]? = some (.cells (bv (zeros n)).toArray 5 (0, 0)) := (b2.block _ (by omega)).trans q1
  have r1 : By W w.heap.size (zeros n) := (b3.block _ (by omega)).trans q1'
  have r2 : By W (w.heap.size + 1) (zeros n) := (b3.block _ (by omega)).trans q2
  have r3 : W.heap[w.heap.size + 1 + 1]? = some (.cells #[.bool false, .int .i64 0, .slice (some ⟨a, 0, none⟩) n n, .slice (some ⟨b, 0, none⟩) n n, .slice none 0 0] 97 (0, 0)) := by rw [hW, ← s2]; exact heap_alloc_new ..
  have hb : Below w.heap.size w W := by
    have b1 : Below w.heap.size w w1 := by rw [e1]; exact below_alloc (Below.refl _ _) _
    exact (b1.trans (b2.mono (by omega))).trans (b3.mono (by omega))
  have hl : (zeros n).length = n := zeros_length n
  refine ⟨⟨.slice none 0 0, ?_⟩, hb⟩
  exact { blk := by show W.heap[w.heap.size + 1 + 1]? = some (.cells #[.bool false, .int .i64 0, .slice (some ⟨a, 0, none⟩) (zeros n).length (zeros n).length, .slice (some ⟨b, 0, none⟩) (zeros n).length (zeros n).length, _] _ _); rw [hl]; exact r3
          dur := by rcases hab with ⟨rfl, rfl⟩ | ⟨rfl, rfl⟩ <;> assumption
          vis := by rcases hab with ⟨rfl, rfl⟩ | ⟨rfl, rfl⟩ <;> assumption
          pend := World.ownsRow_nil _ _ _ _
          len := rfl, hd := by show w.heap.size ≤ w.heap.size + 1 + 1; omega, h1 := by show w.heap.size ≤ a; omega, h2 := by show w.heap.size ≤ b; omega, ne := by show a ≠ b; omega, lt := zeros_lt n, small := by show (zeros n).length ≤ _; rw [hl]; exact h2, left := Nat.zero_le _, few := Nat.zero_le _ }
set_option maxRecDepth 100000 in
set_option maxHeartbeats 2000000 in
theorem new_calls (w : World) (n : Nat) (h1 : 1 ≤ n) (h2 : n ≤ 4194304) :
    Calls Tryz.prog 24 #[.int .i64 (n : Int)] w fun e w' => ∃ D : Dsk, e = .returned (.tuple #[.pointer (some ⟨D.d, 0, none⟩), .int .i64 0]) ∧ DiskAt w' D (newDk n) ∧ Below w.heap.size w w' ∧ D.B = w.heap.size := by
  have hm := run_make_bytes n (by omega)
  have x1 : ((n : Int) < 1) = False := eq_false (by omega)
  have x2 : decide ((n : Int) < 1) = false := decide_eq_false (by omega)
  have x3 : ((4194304 : Int) < (n : Int)) = False := eq_false (by omega)
  have x4 : decide ((4194304 : Int) < (n : Int)) = false := decide_eq_false (by omega)
  go_enter Tryz.func24, Tryz.ntmps24
  go_upto_region 3 with (fail)
  have E1 := new_end w n w.heap.size (w.heap.size + 1) h1 h2 (.inl ⟨rfl, rfl⟩) _ rfl
  have E2 := new_end w n (w.heap.size + 1) w.heap.size h1 h2 (.inr ⟨rfl, rfl⟩) _ rfl
  go_region
  all_goals
    go_wp2
    go_ret2
    first
      | exact ⟨_, rfl, E1.1, E1.2, rfl⟩
      | exact ⟨_, rfl, E2.1, E2.2, rfl⟩
end Go.Proofs.YtniegajdmbepbaaGreatDoor.Jm
