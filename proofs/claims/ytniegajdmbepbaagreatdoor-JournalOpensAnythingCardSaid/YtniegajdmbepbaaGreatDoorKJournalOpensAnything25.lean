/- (*Disk).Crash's region that settles. Condition: none. (*Disk).Crash. Condition: the bytes are bytes, the writes lie within the disk. The reference's disk: apply writes a string into a row of bytes. Condition: it fits. -/
import Derived.Test.YtniegajdmbepbaaGreatDoorKJournalOpensAnything12
import Derived.Test.YtniegajdmbepbaaGreatDoorKJournalOpensAnything24
set_option linter.unusedVariables false
set_option linter.unusedSimpArgs false
namespace Go.Proofs.YtniegajdmbepbaaGreatDoor.Jm
open Go Go.RowKit Go.Shelf Go.Proofs.YtniegajdmbepbaaGreatDoor.Rf Go.Proofs.YtniegajdmbepbaaGreatDoorW.PrintWords Go.Proofs.YtniegajdmbepbaaGreatDoorW.PrintLast Go.Proofs.YtniegajdmbepbaaGreatDoorW.PrintMore Go.Proofs.YtniegajdmbepbaaGreatDoor.Sha

def crashT.T13 : Bool × List (List Nat × List Nat) := (true, [([], []), ([], []), ([1], [1]), ([2], [2]), ([3], [3]), ([], []), ([5], [5]), ([6], [6]), ([7], [7]), ([0, 4, 8], [0, 4, 8])])
def crashT.B13 : List Nat := [0, 0, 2, 6, 14, 0, 32, 96, 224, 511]
theorem crashT.tab13 : rtab .any (opsOf Tryz.f30 13) = crashT.T13 := by kernel_rfl
theorem crashT.bits13 : waitsOk crashT.T13.2 crashT.B13 = true := by kernel_rfl
end Go.Proofs.YtniegajdmbepbaaGreatDoor.Jm

set_option linter.unusedVariables false
set_option linter.unusedSimpArgs false
namespace Go.Proofs.YtniegajdmbepbaaGreatDoor.Jm
open Go Go.RowKit Go.Shelf Go.Sort Go.Lib Go.Proofs.YtniegajdmbepbaaGreatDoorW.PrintWords Go.Proofs.YtniegajdmbepbaaGreatDoorW.PrintMore

def putL (b : List Nat) : List (Nat × ByteArray) → List Nat := List.foldl (fun b p => splice b p.1 (bl p.2)) b
theorem splice_ok {b : List Nat} {off : Nat} {s : ByteArray} (h : off + s.size ≤ b.length) : (splice b off (bl s)).length = b.length := splice_length (by rw [bl_length]; exact h)
theorem putL_ok : ∀ (P : List (Nat × ByteArray)) (b : List Nat), (∀ p ∈ P, p.1 + p.2.size ≤ b.length) → (∀ x ∈ b, x < 256) → (putL b P).length = b.length ∧ ∀ x ∈ putL b P, x < 256
  | [], b, _, hb => ⟨rfl, hb⟩
  | p :: P, b, h, hb => by
    have e := splice_ok (h p List.mem_cons_self)
    have := putL_ok P (splice b p.1 (bl p.2)) (fun q hq => by rw [e]; exact h q (List.mem_cons_of_mem _ hq)) (splice_lt hb (bl_lt p.2))
    rw [e] at this
    exact this
theorem putL_snoc (b : List Nat) (P : List (Nat × ByteArray)) (p : Nat × ByteArray) : putL b (P ++ [p]) = splice (putL b P) p.1 (bl p.2) := by
  unfold putL
  rw [List.foldl_append]
  rfl
theorem pcells_get : ∀ (P : List (Nat × ByteArray)) (i : Nat) (p : Nat × ByteArray), P[i]? = some p → (pcells P)[i * 2]? = some (.int .i64 (p.1 : Int)) ∧ (pcells P)[i * 2 + 1]? = some (.string p.2)
  | [], i, p, h => by simp at h
  | q :: P, 0, p, h => by simp at h; subst h; exact ⟨rfl, rfl⟩
  | q :: P, i + 1, p, h => by
    have := pcells_get P i p (by simpa using h)
    rw [show (i + 1) * 2 = i * 2 + 2 by omega]
    exact this
end Go.Proofs.YtniegajdmbepbaaGreatDoor.Jm

set_option linter.unusedVariables false
set_option linter.unusedSimpArgs false
namespace Go.Proofs.YtniegajdmbepbaaGreatDoor.Jm
open Go Go.RowKit Go.Shelf Go.Proofs.YtniegajdmbepbaaGreatDoorW.PrintWords Go.Proofs.YtniegajdmbepbaaGreatDoorW.PrintMore

theorem own_setk {w : World} {base g n cap k : Nat} {e : TypeId} {xs : List Value} (h : w.ownsRow base e 1 (.slice (some ⟨g, 0, none⟩) n cap) n xs) (hk : k < n) (u : Value) : (w.setCell ⟨g, k, none⟩ u).ownsRow base e 1 (.slice (some ⟨g, 0, none⟩) n cap) n (xs.set k u) := by
 obtain ⟨hl, ⟨h1, _⟩ | ⟨g', cap', cur, e1, hb, hg, hnc, hcm, hcs, ht⟩⟩ := h
 ·cases h1
 ·injection e1 with e1 e2 e3
  injection e1 with e1
  injection e1 with e1
  subst e1 e3
  refine ⟨by rw [List.length_set]; exact hl, .inr ⟨g, cap, cur.setIfInBounds k u, rfl, hb, set_blk hg u, hnc, hcm, by simpa using hcs, ?_⟩⟩
  rw [Nat.mul_one] at ht ⊢
  rw [← ht]
  simp only [Array.toList_setIfInBounds]
  rw [List.take_set]
theorem own_cellk {w : World} {base g n cap k : Nat} {e : TypeId} {xs : List Value} {u : Value} (h : w.ownsRow base e 1 (.slice (some ⟨g, 0, none⟩) n cap) n xs) (hk : xs[k]? = some u) : w.cell? ⟨g, k, none⟩ = some u := by
 have := h.cells (g := g) rfl k u hk
 cases k <;> simpa [Addr.add] using this
theorem own_frozk {w : World} {base g n cap k : Nat} {e : TypeId} {xs : List Value} (h : w.ownsRow base e 1 (.slice (some ⟨g, 0, none⟩) n cap) n xs) : w.frozen? ⟨g, k, none⟩ = false := by
 obtain ⟨cs, hc⟩ := own_block h (g := g) rfl
 exact frozen_of hc k
theorem splice_snoc (l : List Nat) (off : Nat) (S : List Nat) (i v : Nat) (hi : S[i]? = some v) (hf : off + S.length ≤ l.length) : splice l off (S.take (i + 1)) = (splice l off (S.take i)).set (off + i) v := by
 have hl := (List.getElem?_eq_some_iff.1 hi).1
 have ht : (S.take i).length = i := by rw [List.length_take]; omega
 have ht1 : (S.take (i + 1)).length = i + 1 := by rw [List.length_take]; omega
 unfold splice
 rw [ht, ht1, List.take_add_one, hi]
 have hd : l.drop (off + i) = l[off + i]'(by omega) :: l.drop (off + (i + 1)) := by rw [List.drop_eq_getElem_cons (by omega)]; rfl
 have hlen : (l.take off ++ S.take i).length = off + i := by rw [List.length_append, List.length_take, ht]; omega
 rw [hd, List.set_append_right _ _ (by rw [hlen]; exact Nat.le_refl _), hlen, Nat.sub_self, List.set_cons_zero]
 simp
set_option maxRecDepth 100000 in
set_option maxHeartbeats 4000000 in
theorem apply_calls (w : World) (base g n cap off : Nat) (s : ByteArray) (l : List Nat) (h : w.ownsRow base 5 1 (.slice (some ⟨g, 0, none⟩) n cap) n (bv l)) (hl : l.length = n) (hfit : off + s.size ≤ n) (hn : n ≤ 4194304) :
  Calls Tryz.prog 53 #[.slice (some ⟨g, 0, none⟩) n cap, .int .i64 (off : Int), .string s] w fun e w' => e = .returned (.tuple #[]) ∧ w'.ownsRow base 5 1 (.slice (some ⟨g, 0, none⟩) n cap) n (bv (splice l off (bl s))) ∧ But g w w' := by
 have hbl := bl_length s
 go_enter Tryz.func53, Tryz.ntmps53
 go_wp2_with fail
 go_loopw [6] (fun v wr => ∃ i : Nat, v = .int .i64 (i : Int) ∧ i ≤ s.size ∧ wr.ownsRow base 5 1 (.slice (some ⟨g, 0, none⟩) n cap) n (bv (splice l off ((bl s).take i))) ∧ But g w wr) (fun v _ => s.size - (intOf v).toNat)
 case atStart => exact ⟨0, rfl, Nat.zero_le _, by rw [List.take_zero, splice_nil]; exact h, But.refl _ _⟩
 case round =>
  clear h
  obtain ⟨i, rfl, hi, hr, hb⟩ := hrel
  by_cases h1 : i < s.size
  ·have x1 : decide ((i : Int) < (s.size : Int)) = true := decide_eq_true (by omega)
   have x2 : ((i : Int) < (s.size : Int)) = True := eq_true (by omega)
   have x3 : (i < s.size) = True := eq_true h1
   obtain ⟨v, hv⟩ : ∃ v, (bl s)[i]? = some v := ⟨_, List.getElem?_eq_getElem (by omega)⟩
   have hsv : (s[i]'h1).toNat = v := by
    unfold bl at hv
    rw [List.getElem?_map] at hv
    obtain ⟨u, hu, rfl⟩ := Option.map_eq_some_iff.1 hv
    have := (List.getElem?_eq_some_iff.1 hu).2
    rw [← this]
    rfl
   have hsl : (splice l off ((bl s).take i)).length = n := by rw [splice_length (by rw [List.length_take]; omega)]; exact hl
   obtain ⟨y, hy⟩ : ∃ y, (bv (splice l off ((bl s).take i)))[off + i]? = some y := ⟨_, List.getElem?_eq_getElem (by rw [bv_length, hsl]; omega)⟩
   have hc := own_cellk hr hy
   have hf := own_frozk (k := off + i) hr
   have hw : IntKind.i64.wrap ((off : Int) + (i : Int)) = ((off + i : Nat) : Int) := by rw [IntKind.wrap_i64]; omega
   have z1 : (((off + i : Nat) : Int) < (n : Int)) = True := eq_true (by omega)
   have z2 : (off + i < n) = True := eq_true (by omega)
   go_wp2_with fail
   go_roundw
   case rel =>
    refine ⟨i + 1, by simp, by omega, ?_, hb.trans (But.setCell g (off + i) wr _)⟩
    have := own_setk hr (show off + i < n by omega) (.int .u8 (v : Int))
    rw [splice_snoc l off (bl s) i v hv (by omega)]
    unfold bv at this ⊢
    rw [List.map_set]
    exact this
   case measure => simp [intOf]; omega
  ·have hie : i = s.size := by omega
   subst hie
   have x1 : decide ((s.size : Int) < (s.size : Int)) = false := decide_eq_false (by omega)
   go_wp2_with fail
   go_end0
   rw [List.take_of_length_le (by omega)] at hr
   exact ⟨rfl, hr, hb⟩
end Go.Proofs.YtniegajdmbepbaaGreatDoor.Jm

