/- VerifyExtension's walk. Conditions: at most 1,000,000 strings in the proof. Verify and VerifyExtension as the printed texts name them. Conditions: at most 1,000,000 strings in the proof; an entry of at most 2^39 bytes; numbers of 64 bits. Plain laws for layer 2: left, few, collide. No condition but bounds on lengths. Plain law of DigestBinding: the strings of two proofs that come to the same root, and the first place where they differ. No condition but bounds on lengths. -/
import Derived.Test.YtjkdenldddjcnaaDoorKDigestTreeMatchesReference13
import Derived.Sort.AtCall
import Derived.Test.YtjkdenldddjcnaaDoorKDigestTreeMatchesReference12
set_option linter.unusedVariables false
set_option linter.unusedSimpArgs false
namespace Go.Proofs.YtjkdenldddjcnaaDoor.Sha
open Go Go.RowKit Go.Shelf Go.Proofs.YtjkdenldddjcnaaDoor.Rf Go.Proofs.YtjkdenldddjcnaaDoorW.PrintWords Go.Proofs.YtjkdenldddjcnaaDoorW.PrintLast Go.Proofs.YtjkdenldddjcnaaDoorW.PrintMore
attribute [local go_sem] Oper.semAt_some

/-- Down: the proof's strings, the last one first; m, n, whether the whole is still meant; the steps, the last one first. -/
def descE : List ByteArray → Nat → Nat → Bool → Way → Option (Way × List ByteArray × Bool)
 | [], m, n, wh, way => if n ≤ m then some (way, [], wh) else none
 | x :: r, m, n, wh, way => if n ≤ m then some (way, x :: r, wh) else if leftN n < m then descE r (m - leftN n) (n - leftN n) false ((x, true) :: way) else descE r m (leftN n) wh ((x, false) :: way)
def joinE (p : ByteArray × Bool) (out : ByteArray) : ByteArray := if p.2 = true then joinF p out else out
def upE (way : Way) (s : ByteArray) : ByteArray := way.foldl (fun out p => joinE p out) s
def endE (old root : ByteArray) : Option (Way × List ByteArray × Bool) → Bool
 | none => false
 | some (way, pr, true) => pr.isEmpty && (upE way old == old) && (upF way old == root)
 | some (way, [y], false) => (upE way y == old) && (upF way y == root)
 | some (_, _, false) => false
def verifyEF (old : ByteArray) (m : Int) (root : ByteArray) (n : Int) (l : List ByteArray) : Bool :=
 if m < 0 then false else if n < m then false else if all32 l = false then false else if ((old.size : Int) == 32) = false then false else if ((root.size : Int) == 32) = false then false
 else if m = 0 then l.isEmpty && (old == sumF ⟨#[]⟩) else if m = n then l.isEmpty && (old == root) else endE old root (descE l.reverse m.toNat n.toNat true [])
theorem joinE_size (p : ByteArray × Bool) (out : ByteArray) (h : out.size = 32) : (joinE p out).size = 32 := by
 unfold joinE
 split
 ·exact joinF_size _ _
 ·exact h
theorem efold_size {α : Type} (f : α → ByteArray × Bool) : ∀ (pre : List α) (x : ByteArray) (_ : x.size = 32), (pre.foldl (fun out y => joinE (f y) out) x).size = 32
 | [], _, h => h
 | y :: pre, x, h => by
  rw [List.foldl_cons]
  exact efold_size f pre (joinE (f y) x) (joinE_size _ _ h)
theorem isd_calls (s : ByteArray) (b : Bool) (w : World) (h : ((s.size : Int) == 32) = b) :
  Calls Tryd.prog 51 #[.string s] w fun e w' => e = .returned (.bool b) ∧ Drawn0 w w' := by
 go_enter Tryd.func51, Tryd.ntmps51
 go_wp2
 go_ret
 exact ⟨rfl, Drawn0.refl _⟩
/-- Worlds alike below, but for two blocks. -/
structure Keep2 (g h : Nat) (w W : World) : Prop where
 os : W.os = w.os
 tape : W.tape = w.tape
 output : W.output = w.output
 size : w.heap.size ≤ W.heap.size
 block : ∀ i, i < w.heap.size → i ≠ g → i ≠ h → W.heap[i]? = w.heap[i]?
theorem Keep2.trans {g h : Nat} {a b c : World} (x : Keep2 g h a b) (y : Keep2 g h b c) : Keep2 g h a c :=
 ⟨y.os.trans x.os, y.tape.trans x.tape, y.output.trans x.output, Nat.le_trans x.size y.size, fun i hi h1 h2 => (y.block i (Nat.lt_of_lt_of_le hi x.size) h1 h2).trans (x.block i hi h1 h2)⟩
theorem Keep2.below {g h : Nat} {a b c : World} (x : Keep2 g h a b) (y : Below b.heap.size b c) : Keep2 g h a c :=
 x.trans ⟨y.os, y.tape, y.output, y.size, fun i hi _ _ => y.block i hi⟩
theorem Keep2.grown {g h : Nat} {a b c : World} {row : Option Nat} (x : Keep2 g h a b) (y : b.grownBy c row) (hr : ∀ r, row = some r → a.heap.size ≤ r) : Keep2 g h a c :=
 ⟨y.os.trans x.os, y.tape.trans x.tape, y.output.trans x.output, Nat.le_trans x.size y.size, fun i hi h1 h2 => (y.block i (Nat.lt_of_lt_of_le hi x.size) (fun e => by have := hr i e.symm; omega)).trans (x.block i hi h1 h2)⟩
theorem Keep2.set2 {g h : Nat} {a b : World} (y : Below a.heap.size a b) (q : Nat) (hq : q = g ∨ q = h) (v : Value) : Keep2 g h a (b.setCell ⟨q, 0, none⟩ v) := by
 have G := grownBy_setCell' b q v
 exact ⟨G.os.trans y.os, G.tape.trans y.tape, G.output.trans y.output, Nat.le_trans y.size G.size, fun i hi h1 h2 => (G.block i (Nat.lt_of_lt_of_le hi y.size) (fun e => by injection e with e; rcases hq with rfl | rfl <;> omega)).trans (y.block i hi)⟩
theorem d_trans {a b c : World} (h : Drawn0 a b) (k : Drawn0 b c) : Drawn0 a c := by
 obtain ⟨⟨n, rfl⟩⟩ := k
 exact h.step n
set_option maxHeartbeats 8000000 in
set_option maxRecDepth 100000 in
theorem verifyE_calls (old root : ByteArray) (m n : Int) (A : Option Addr) (c : Nat) (l : List ByteArray) (w : World) (hr0 : Kd.C Kd.string w A l.length l) (hc : l.length ≤ c) (hG_ : Amb w) (hni : n ≤ 9223372036854775807) (hl : l.length ≤ 1000000) :
  Calls Tryd.prog 23 #[.string old, .int .i64 m, .string root, .int .i64 n, .slice A l.length c] w fun e w' => e = .returned (.bool (verifyEF old m root n l)) ∧ Below w.heap.size w w' := by
 have HR0 := Aside0.mk hr0
 have HC0 := Aside0.mk hc
 clear hr0
 obtain ⟨L, hL⟩ : ∃ L, l.length = L := ⟨_, rfl⟩
 rw [hL] at HR0 hc hl ⊢
 replace hL := Aside0.mk hL
 refine (callsIn_wide (n := 4)).1 ?_
 refine callsIn_of_wp_marks Tryd.func23 rfl trivial ?_ rfl
 refine wpIn_wide.2 ?_
 simp only [Tryd.ntmps23, List.size_toArray, List.length_cons, List.length_nil, Nat.reduceAdd, Nat.reduceSub, Array.replicate_succ, Array.replicate_zero, List.push_toArray, List.append_toArray, List.nil_append, List.cons_append]
 by_cases h1 : m < 0
 ·have d1 : decide (m < 0) = true := decide_eq_true h1
  have hv : verifyEF old m root n l = false := by unfold verifyEF; rw [if_pos h1]
  clear h1
  go_wp2
  exact ⟨.bool false, by simp [results, Tryd.results23, go_sem], by rw [hv], Below.refl _ _⟩
 ·have d1 : decide (m < 0) = false := decide_eq_false h1
  by_cases h2 : n < m
  ·have d2 : decide (n < m) = true := decide_eq_true h2
   have hv : verifyEF old m root n l = false := by unfold verifyEF; rw [if_neg h1, if_pos h2]
   clear h1 h2
   go_wp2
   exact ⟨.bool false, by simp [results, Tryd.results23, go_sem], by rw [hv], Below.refl _ _⟩
  ·have d2 : decide (n < m) = false := decide_eq_false h2
   have HA : ∀ b, digest_all.f l = some b → Calls Tryd.prog 45 #[.slice A L c] w fun e w' => e = .returned (.bool b) ∧ Drawn0 w w' := by
    intro b h
    have := digest_all.calls A c l b w (by rw [hL.out]; exact HR0.out) (by rw [hL.out]; exact hc) h
    rwa [hL.out] at this
   replace HA := Aside0.mk HA
   have HI : Aside0 (¬ m < 0) := ⟨h1⟩
   have HN : Aside0 (¬ n < m) := ⟨h2⟩
   obtain ⟨b3, hb3⟩ : ∃ b, all32 l = b := ⟨_, rfl⟩
   have hfa : digest_all.f l = some b3 := by rw [← hb3]; rfl
   obtain ⟨b4, hb4⟩ : ∃ b, ((old.size : Int) == 32) = b := ⟨_, rfl⟩
   obtain ⟨b5, hb5⟩ : ∃ b, ((root.size : Int) == 32) = b := ⟨_, rfl⟩
   have hv : verifyEF old m root n l = if b3 = false then false else if b4 = false then false else if b5 = false then false else if m = 0 then l.isEmpty && (old == sumF ⟨#[]⟩) else if m = n then l.isEmpty && (old == root) else endE old root (descE l.reverse m.toNat n.toNat true []) := by
    unfold verifyEF
    rw [if_neg h1, if_neg h2, hb3, hb4, hb5]
   replace hv := Aside0.mk hv
   replace hfa := Aside0.mk hfa
   replace hb3 := Aside0.mk hb3
   have I4 := Aside0.mk (fun W => isd_calls old b4 W hb4)
   have I5 := Aside0.mk (fun W => isd_calls root b5 W hb5)
   have hold : b4 = true → old.size = 32 := fun e => by rw [e] at hb4; have := beq_iff_eq.1 hb4; omega
   have hroot : b5 = true → root.size = 32 := fun e => by rw [e] at hb5; have := beq_iff_eq.1 hb5; omega
   replace hold := Aside0.mk hold
   clear h1 h2 hb4 hb5 hroot
   cases b3
   ·go_wp2_with (go_at_call 45; refine (HA.out false hfa.out).mono ?_; rintro e w' ⟨rfl, hd⟩)
    exact ⟨.bool false, by simp [results, Tryd.results23, go_sem], by rw [hv.out]; rfl, hd.below⟩
   cases b4
   ·go_wp2_with (first | (go_at_call 45; refine (HA.out true hfa.out).mono ?_; rintro e w' ⟨rfl, hd⟩) | (go_at_call 51; refine (I4.out _).mono ?_; rintro e w4 ⟨rfl, hd4⟩))
    exact ⟨.bool false, by simp [results, Tryd.results23, go_sem], by rw [hv.out]; rfl, (d_trans hd hd4).below⟩
   cases b5
   ·go_wp2_with (first | (go_at_call 45; refine (HA.out true hfa.out).mono ?_; rintro e w' ⟨rfl, hd⟩) | (go_at_call_has 51 old; refine (I4.out _).mono ?_; rintro e w4 ⟨rfl, hd4⟩) | (go_at_call 51; refine (I5.out _).mono ?_; rintro e w5 ⟨rfl, hd5⟩))
    exact ⟨.bool false, by simp [results, Tryd.results23, go_sem], by rw [hv.out]; rfl, (d_trans (d_trans hd hd4) hd5).below⟩
   have hv1 := hv.out
   rw [if_neg (by simp), if_neg (by simp), if_neg (by simp)] at hv1
   have hle : l.isEmpty = decide (L = 0) := by
    rw [← hL.out]
    cases l <;> simp
   rw [hle, beq_toListBytes, beq_toListBytes] at hv1
   have ho32 := hold.out rfl
   replace hv1 := Aside0.mk hv1
   replace ho32 := Aside0.mk ho32
   clear hv hle hold
   have hall : Aside0 (∀ y ∈ l, y.size = 32) := ⟨by
    intro y hy
    have := hb3.out
    unfold all32 at this
    rw [List.all_eq_true] at this
    have := this y hy
    simp at this
    omega⟩
   by_cases h6 : m = 0
   ·have d6 : (m == 0) = true := beq_iff_eq.mpr h6
    have hv2 := hv1.out
    rw [if_pos h6] at hv2
    by_cases h7 : L = 0
    ·have d7 : ((L : Int) == 0) = true := beq_iff_eq.mpr (by omega)
     rw [decide_eq_true h7, Bool.true_and] at hv2
     replace hv2 := Aside0.mk hv2
     clear h6 h7
     go_wp2_with (first | (go_at_call 45; refine (HA.out true hfa.out).mono ?_; rintro e w' ⟨rfl, hd⟩) | (go_at_call_has 51 old; refine (I4.out _).mono ?_; rintro e w4 ⟨rfl, hd4⟩; have hd' := d_trans hd hd4) | (go_at_call 51; refine (I5.out _).mono ?_; rintro e w5 ⟨rfl, hd5⟩; have hdd := Aside0.mk (d_trans hd' hd5).below; clear hd hd4 hd5 hd') | (go_at_call 30; refine (sum_calls ⟨#[]⟩ (by decide) _ (hG_.below hdd.out)).mono ?_; rintro e w6 ⟨rfl, hb6⟩))
     exact ⟨.bool (old.toList == (sumF ⟨#[]⟩).toList), by simp [results, Tryd.results23, go_sem], by rw [hv2.out], below_then hdd.out hdd.out.size hb6⟩
    ·have d7 : ((L : Int) == 0) = false := beq_eq_false_iff_ne.mpr (by omega)
     rw [decide_eq_false h7, Bool.false_and] at hv2
     replace hv2 := Aside0.mk hv2
     clear h6 h7
     go_wp2_with (first | (go_at_call 45; refine (HA.out true hfa.out).mono ?_; rintro e w' ⟨rfl, hd⟩) | (go_at_call_has 51 old; refine (I4.out _).mono ?_; rintro e w4 ⟨rfl, hd4⟩; have hd' := d_trans hd hd4) | (go_at_call 51; refine (I5.out _).mono ?_; rintro e w5 ⟨rfl, hd5⟩; have hdd := Aside0.mk (d_trans hd' hd5).below; clear hd hd4 hd5 hd'))
     exact ⟨.bool false, by simp [results, Tryd.results23, go_sem], by rw [hv2.out], hdd.out⟩
   ·have d6 : (m == 0) = false := beq_eq_false_iff_ne.mpr h6
    by_cases h8 : m = n
    ·have d8 : (m == n) = true := beq_iff_eq.mpr h8
     have hv2 := hv1.out
     rw [if_neg h6, if_pos h8] at hv2
     by_cases h7 : L = 0
     ·have d7 : ((L : Int) == 0) = true := beq_iff_eq.mpr (by omega)
      rw [decide_eq_true h7, Bool.true_and] at hv2
      replace hv2 := Aside0.mk hv2
      replace h8 := Aside0.mk h8
      clear h6 h7
      go_wp2_with (first | (go_at_call 45; refine (HA.out true hfa.out).mono ?_; rintro e w' ⟨rfl, hd⟩) | (go_at_call_has 51 old; refine (I4.out _).mono ?_; rintro e w4 ⟨rfl, hd4⟩; have hd' := d_trans hd hd4) | (go_at_call 51; refine (I5.out _).mono ?_; rintro e w5 ⟨rfl, hd5⟩; have hdd := Aside0.mk (d_trans hd' hd5).below; clear hd hd4 hd5 hd'))
      exact ⟨.bool (old.toList == root.toList), by simp [results, Tryd.results23, go_sem], by rw [hv2.out], hdd.out⟩
     ·have d7 : ((L : Int) == 0) = false := beq_eq_false_iff_ne.mpr (by omega)
      rw [decide_eq_false h7, Bool.false_and] at hv2
      replace hv2 := Aside0.mk hv2
      replace h8 := Aside0.mk h8
      clear h6 h7
      go_wp2_with (first | (go_at_call 45; refine (HA.out true hfa.out).mono ?_; rintro e w' ⟨rfl, hd⟩) | (go_at_call_has 51 old; refine (I4.out _).mono ?_; rintro e w4 ⟨rfl, hd4⟩; have hd' := d_trans hd hd4) | (go_at_call 51; refine (I5.out _).mono ?_; rintro e w5 ⟨rfl, hd5⟩; have hdd := Aside0.mk (d_trans hd' hd5).below; clear hd hd4 hd5 hd'))
      exact ⟨.bool false, by simp [results, Tryd.results23, go_sem], by rw [hv2.out], hdd.out⟩
    ·have d8 : (m == n) = false := beq_eq_false_iff_ne.mpr h8
     have hv2 := hv1.out
     rw [if_neg h6, if_neg h8] at hv2
     replace hv2 := Aside0.mk hv2
     have h6' := Aside0.mk h6
     have h8' := Aside0.mk h8
     clear h6 h8
     go_upto_region 9 with (first | (go_at_call 45; refine (HA.out true hfa.out).mono ?_; rintro e w' ⟨rfl, hd⟩) | (go_at_call_has 51 old; refine (I4.out _).mono ?_; rintro e w4 ⟨rfl, hd4⟩; have hd' := d_trans hd hd4) | (go_at_call 51; refine (I5.out _).mono ?_; rintro e w5 ⟨rfl, hd5⟩; have hdd := Aside0.mk (d_trans hd' hd5).below; clear hd hd4 hd5 hd'))
     replace hv2 := hv2.out
     have h6 := h6'.out
     have h8 := h8'.out
     clear h6' h8' d1 d2 d6 d8
     obtain ⟨n', hn'⟩ : ∃ n' : Nat, n = n' := ⟨n.toNat, by have := HI.out; have := HN.out; omega⟩
     obtain ⟨i', hi'⟩ : ∃ i' : Nat, m = i' := ⟨m.toNat, by have := HI.out; omega⟩
     subst hn'
     subst hi'
     have hin : i' < n' := by have := HN.out; omega
     have hi1 : 1 ≤ i' := by omega
     replace hin := Aside0.mk hin
     replace hi1 := Aside0.mk hi1
     obtain ⟨D, hD⟩ : ∃ D, descE l.reverse (i' : Int).toNat (n' : Int).toNat true [] = D := ⟨_, rfl⟩
     rw [hD] at hv2
     replace hD := Aside0.mk hD
     replace hv := Aside0.mk hv2
     replace hni := Aside0.mk hni
     clear h6 h8 hv2 hv1 HI HN HA I4 I5 hfa hb3
     obtain ⟨i58, hi58, h581, h582, h583⟩ := info_parts info58
     go_loopw [1, 3, 4, 11, 12] (fun v1 v3 v4 v11 v12 w' => ∃ (n i m : Nat) (wh : Bool) (way : Way), v1 = .int .i64 (i : Int) ∧ v3 = .int .i64 (n : Int) ∧ v4 = .slice A m c ∧ v12 = .bool wh ∧ Aside0 (m + way.length = L) ∧ Aside0 (i ≤ n) ∧ Aside0 (n ≤ 9223372036854775807) ∧ Aside0 (1 ≤ i) ∧ Aside0 (descE (l.take m).reverse i n wh way = D) ∧ Aside0 (∀ p ∈ way, p.1.size = 32) ∧ Aside0 (w'.ownsRow w.heap.size 58 2 v11 way.length (flat way.reverse)) ∧ Aside0 (Below w.heap.size w w')) (fun _ v _ _ _ _ => (intOf v).toNat)
     case atStart => exact ⟨n', i', L, true, [], rfl, rfl, rfl, rfl, ⟨rfl⟩, ⟨Nat.le_of_lt hin.out⟩, ⟨by have := hni.out; omega⟩, hi1, ⟨by rw [List.take_of_length_le (by rw [hL.out]; exact Nat.le_refl _)]; have := hD.out; simpa using this⟩, ⟨fun p hp => by cases hp⟩, ⟨World.ownsRow_nil _ _ _ _⟩, hdd⟩
     case round =>
      clear hdd hin hni hD hi1
      obtain ⟨n, i, m, wh, way, rfl, rfl, rfl, rfl, hmw, hin, hn63, hi1, hdf, hw32, OW, HB⟩ := hrel
      by_cases h2 : i < n
      ·have e1 : decide ((i : Int) < (n : Int)) = true := decide_eq_true (by omega)
       cases m with
       | zero =>
        have hD0 : D = none := by
         rw [← hdf.out]
         simp [descE]
         omega
        have hv0 : verifyEF old i' root n' l = false := by rw [hv.out, hD0]; rfl
        go_wp2_with (go_at_call 46; refine (take_nil _ _ _).mono ?_; rintro e w1 ⟨rfl, hd1⟩)
        exact ⟨.bool false, by simp [results, Tryd.results23, go_sem], by rw [hv0], below_then HB.out HB.out.size hd1.below⟩
       | succ m =>
        have hmL : m + 1 ≤ L := by have := hmw.out; omega
        obtain ⟨x, hx⟩ : ∃ x, l[m]? = some x := ⟨_, List.getElem?_eq_getElem (by rw [hL.out]; omega)⟩
        have htk : l.take (m + 1) = l.take m ++ [x] := by rw [List.take_add_one, hx]; rfl
        have hlm : (l.take m).length = m := by rw [List.length_take, hL.out]; omega
        have hCw : Kd.C Kd.string wr A (l.take m ++ [x]).length (l.take m ++ [x]) := by
         rw [← htk]
         refine Kd.C_below (Kd.C_take (by rw [hL.out]; exact HR0.out) (by rw [hL.out]; exact hmL)) HB.out
        have HT := take_snoc A c (l.take m) x wr hCw (by rw [hlm]; have := HC0.out; rw [hL.out] at this; omega)
        rw [hlm] at HT
        replace HT := Aside0.mk HT
        have hx32 : x.size = 32 := hall.out x (List.mem_of_getElem? hx)
        replace hx32 := Aside0.mk hx32
        have hdf1 := hdf.out
        rw [htk, List.reverse_append, List.reverse_singleton, List.singleton_append, descE, if_neg (by omega)] at hdf1
        replace hdf1 := Aside0.mk hdf1
        have hk := leftN_lt n (by have := hi1.out; omega) hn63.out
        have hlf : digest_left.f (n : Int) = some (leftN n : Int) := by
         unfold digest_left.f
         rw [if_pos ⟨by have := hi1.out; omega, by have := hn63.out; omega⟩]
         rfl
        obtain ⟨k, hkk⟩ : ∃ k, leftN n = k := ⟨_, rfl⟩
        rw [hkk] at hk hlf hdf1
        replace hk := Aside0.mk hk
        replace hlf := Aside0.mk hlf
        clear hdf hx htk hlm hCw hkk
        have hwl : way.length ≤ 1000000 := by have := hmw.out; omega
        replace hmw := Aside0.mk hmw.out
        replace hwl := Aside0.mk hwl
        by_cases hki : k < i
        ·have e2 : decide ((k : Int) < (i : Int)) = true := decide_eq_true (by omega)
         go_upto_region 13 with (go_at_call 46; refine HT.out.mono ?_; rintro e w1 ⟨rfl, hd1⟩)
         have OW1 := Aside0.mk (own_keep2 OW.out hd1.below)
         have HB1 := Aside0.mk (below_then HB.out HB.out.size hd1.below)
         clear OW HB hd1 HT
         go_upto_region 15 with (go_at_call 40; refine (digest_left.calls _ _ _ hlf.out).mono ?_; rintro e w2 ⟨rfl, ⟨q, rfl⟩⟩)
         have OW2 := Aside0.mk (own_keep2 OW1.out (pw_below_drewN (Below.refl _ w1) q))
         have HB2 := Aside0.mk (below_then HB1.out HB1.out.size (pw_below_drewN (Below.refl _ w1) q))
         clear OW1 HB1
         generalize w1.drewN q = w2 at OW2 HB2 ⊢
         refine wp_region_list ?_
         iterate 7 (go_step; go_simp; rename_i hK; refine hK _ _ ?_; clear hK)
         have O1 := OW2.out.alloc (.cells #[Value.string x, Value.bool true] 58)
         have B1 := below_alloc' HB2.out HB2.out.size (.cells #[Value.string x, Value.bool true] 58)
         refine wpList_append_own _ rfl (.tmp 81) (.tmp 87) 54 rfl w.heap.size 58 i58 (.agg #[.string ⟨#[]⟩, .bool false]) 2 24 Tryd.underlying54 hi58 h581 h582 h583 rfl (by decide) _ way.length (flat way.reverse) rfl O1 ⟨w2.heap.size, 0, none⟩ 1 1 [Value.string x, Value.bool true] rfl rfl two_of_block (by simp [Value.oneCell']) (by have := hwl.out; unfold maxLen; omega) (by have := hwl.out; omega) B1.size ?_
         intro v51 w3 o3 hg3 _
         have HB3 := Aside0.mk (B1.grown hg3 B1.size (fun k e => (OW2.out.lt k e).1))
         rw [show flat way.reverse ++ [Value.string x, Value.bool true] = flat ((x, true) :: way).reverse by rw [List.reverse_cons, flat_append]; rfl] at o3
         have OW3 := Aside0.mk o3
         clear o3 hg3 B1 O1 OW2 HB2
         have q1 : IntKind.i64.wrap ((n : Int) - (k : Int)) = ((n - k : Nat) : Int) := by have := hk.out; have := hn63.out; rw [IntKind.wrap_i64]; omega
         have q2 : IntKind.i64.wrap ((i : Int) - (k : Int)) = ((i - k : Nat) : Int) := by have := hk.out; have := hn63.out; have := hin.out; rw [IntKind.wrap_i64]; omega
         obtain ⟨nk, hnk⟩ : ∃ nk, n - k = nk := ⟨_, rfl⟩
         obtain ⟨ik, hik⟩ : ∃ ik, i - k = ik := ⟨_, rfl⟩
         rw [hnk] at q1
         rw [hik] at q2
         replace hnk := Aside0.mk hnk
         replace hik := Aside0.mk hik
         go_step
         go_simp
         rename_i hK
         refine hK _ _ ?_
         clear hK
         go_wp2_with fail
         have hkk' := hk.out
         have hin' := hin.out
         have hmw' := hmw.out
         have hn' := hn63.out
         have hi1' := hi1.out
         have hnk' := hnk.out
         have hik' := hik.out
         refine ⟨⟨nk, ik, m, false, (x, true) :: way, rfl, rfl, rfl, rfl, ⟨by rw [List.length_cons]; omega⟩, ⟨by omega⟩, ⟨by omega⟩, ⟨by omega⟩, ⟨by
          have := hdf1.out
          rw [if_pos hki] at this
          rw [hnk', hik'] at this
          exact this⟩, ⟨fun p hp => by
          rcases List.mem_cons.1 hp with rfl | hp
          ·exact hx32.out
          ·exact hw32.out p hp⟩, OW3, HB3⟩, ?_⟩
         simp only [intOf]
         omega
        ·have e2 : decide ((k : Int) < (i : Int)) = false := decide_eq_false (by omega)
         go_upto_region 13 with (go_at_call 46; refine HT.out.mono ?_; rintro e w1 ⟨rfl, hd1⟩)
         have OW1 := Aside0.mk (own_keep2 OW.out hd1.below)
         have HB1 := Aside0.mk (below_then HB.out HB.out.size hd1.below)
         clear OW HB hd1 HT
         go_upto_region 15 with (go_at_call 40; refine (digest_left.calls _ _ _ hlf.out).mono ?_; rintro e w2 ⟨rfl, ⟨q, rfl⟩⟩)
         have OW2 := Aside0.mk (own_keep2 OW1.out (pw_below_drewN (Below.refl _ w1) q))
         have HB2 := Aside0.mk (below_then HB1.out HB1.out.size (pw_below_drewN (Below.refl _ w1) q))
         clear OW1 HB1
         generalize w1.drewN q = w2 at OW2 HB2 ⊢
         refine wp_region_list ?_
         iterate 7 (go_step; go_simp; rename_i hK; refine hK _ _ ?_; clear hK)
         have O1 := OW2.out.alloc (.cells #[Value.string x, Value.bool false] 58)
         have B1 := below_alloc' HB2.out HB2.out.size (.cells #[Value.string x, Value.bool false] 58)
         refine wpList_append_own _ rfl (.tmp 81) (.tmp 87) 54 rfl w.heap.size 58 i58 (.agg #[.string ⟨#[]⟩, .bool false]) 2 24 Tryd.underlying54 hi58 h581 h582 h583 rfl (by decide) _ way.length (flat way.reverse) rfl O1 ⟨w2.heap.size, 0, none⟩ 1 1 [Value.string x, Value.bool false] rfl rfl two_of_block (by simp [Value.oneCell']) (by have := hwl.out; unfold maxLen; omega) (by have := hwl.out; omega) B1.size ?_
         intro v51 w3 o3 hg3 _
         have HB3 := Aside0.mk (B1.grown hg3 B1.size (fun k e => (OW2.out.lt k e).1))
         rw [show flat way.reverse ++ [Value.string x, Value.bool false] = flat ((x, false) :: way).reverse by rw [List.reverse_cons, flat_append]; rfl] at o3
         have OW3 := Aside0.mk o3
         clear o3 hg3 B1 O1 OW2 HB2
         go_step
         go_simp
         rename_i hK
         refine hK _ _ ?_
         clear hK
         go_wp2_with fail
         have hkk' := hk.out
         have hin' := hin.out
         have hmw' := hmw.out
         have hn' := hn63.out
         have hi1' := hi1.out
         
         
         refine ⟨⟨k, i, m, wh, (x, false) :: way, rfl, rfl, rfl, rfl, ⟨by rw [List.length_cons]; omega⟩, ⟨by omega⟩, ⟨by omega⟩, ⟨by omega⟩, ⟨by
          have := hdf1.out
          rw [if_neg hki] at this
          skip
          exact this⟩, ⟨fun p hp => by
          rcases List.mem_cons.1 hp with rfl | hp
          ·exact hx32.out
          ·exact hw32.out p hp⟩, OW3, HB3⟩, ?_⟩
         simp only [intOf]
         omega
      ·have e1 : decide ((i : Int) < (n : Int)) = false := decide_eq_false (by omega)
       have hmL : m ≤ L := by have := hmw.out; omega
       have hlm : (l.take m).length = m := by rw [List.length_take, hL.out]; omega
       have hwl : way.length ≤ 1000000 := by have := hmw.out; omega
       replace hwl := Aside0.mk hwl
       have hDw : D = some (way, (l.take m).reverse, wh) := by
        rw [← hdf.out]
        cases (l.take m).reverse with
        | nil => rw [descE, if_pos (by omega)]
        | cons y r => rw [descE, if_pos (by omega)]
       obtain ⟨Aw, cw, gw, huw, hAw, hgw, hcw⟩ : ∃ Aw cw gw, u11 = .slice Aw way.length cw ∧ (0 < way.length → Aw = some ⟨gw, 0, none⟩) ∧ gw < wr.heap.size ∧ backDR way.reverse gw 0 wr := by
        have h := OW.out
        obtain ⟨_, ⟨h1, h2⟩ | ⟨g, cap, cur, h1, hb, hg, _⟩⟩ := h
        ·have hw0 : way = [] := List.eq_nil_of_length_eq_zero h2
         refine ⟨none, 0, 0, by rw [h1, h2], fun h => by omega, ?_, ?_⟩
         ·obtain ⟨_, _, h'⟩ := hG_
          have := (Array.getElem?_eq_some_iff.1 h').1
          have := HB.out.size
          omega
         ·intro j y hy
          rw [hw0] at hy
          simp at hy
        ·refine ⟨_, cap, g, h1, fun _ => rfl, (Array.getElem?_eq_some_iff.1 hg).1, ?_⟩
         intro j y hy
         have h0 := OW.out
         rw [h1] at h0
         obtain ⟨f1, f2⟩ := flat_get _ j y hy
         have e1 := own_at2 h0 _ _ f1
         have e2 := own_at2 h0 _ _ f2
         rw [Nat.zero_add]
         exact ⟨e1, e2⟩
       subst huw
       clear OW
       cases wh
       ·by_cases hm1 : m = 1
        ·subst hm1
         obtain ⟨Y0, hy⟩ : ∃ y, l[0]? = some y := ⟨_, List.getElem?_eq_getElem (by rw [hL.out]; omega)⟩
         have htk : l.take 1 = [Y0] := by
          cases l with
          | nil => simp at hy
          | cons z r => simp at hy; simp [hy]
         have hz32 : Aside0 (Y0.size = 32) := ⟨hall.out Y0 (List.mem_of_getElem? hy)⟩
         have hvT : verifyEF old i' root n' l = (((upE way Y0).toList == old.toList) && ((upF way Y0).toList == root.toList)) := by
          rw [hv.out, hDw, htk]
          show ((upE way Y0 == old) && (upF way Y0 == root)) = _
          rw [beq_toListBytes, beq_toListBytes]
         have hv1 := Aside0.mk hvT
         have hCl := Kd.C_take (m := 1) (by rw [hL.out]; exact HR0.out : Kd.C Kd.string w A l.length l) (by rw [hL.out]; exact hmL)
         rw [htk] at hCl
         replace hCl := Aside0.mk hCl
         clear hDw hlm hdf hv hvT htk hy
         go_upto_region 23 with (fail)
         obtain ⟨ad, ea, hx⟩ := Kd.at_string (Kd.C_below hCl.out HB.out) (0 : Int) (by decide) (by simp)
         cases ea
         have hx1 : rdOf ByteArray.empty [Y0] (0 : Int) = Y0 := rfl
         rw [hx1, show ((0 : Int)).toNat = 0 from rfl, add_zero] at hx
         have hadl : ad.block < wr.heap.size := World.block_lt_of_cell? _ _ hx
         obtain ⟨W2, hW2⟩ : ∃ W2, (wr.alloc (Obj.cells #[Value.string old] 9)).alloc (Obj.cells #[Value.string old] 9) = W2 := ⟨_, rfl⟩
         have hsz2 : W2.heap.size = wr.heap.size + 2 := by rw [← hW2]; simp
         have c1 : Boxed W2 wr.heap.size 9 (.string old) := by rw [← hW2]; exact (Boxed.new wr _ _).alloc _
         have c2 : Boxed W2 (wr.heap.size + 1) 9 (.string old) := by
          rw [← hW2]
          have := Boxed.new (wr.alloc (.cells #[Value.string old] 9)) 9 (.string old)
          rwa [World.size_alloc] at this
         have belt0 : Below wr.heap.size wr W2 := by rw [← hW2]; exact ((Below.refl _ wr).alloc (Nat.le_refl _) _).alloc (by simp) _
         (try rw [hW2])
         clear hW2
         have hSE : SE ad Y0 wr.heap.size (wr.heap.size + 1) W2 := ⟨(World.cell?_of_block (belt0.block _ hadl)).trans hx, ⟨_, c1⟩, ⟨_, c2⟩, by omega, by omega, by omega⟩
         have c1d : Boxed W2.drew wr.heap.size 9 (.string old) := c1
         have c2d : Boxed W2.drew (wr.heap.size + 1) 9 (.string old) := c2
         have G1 := grownBy_setCell' W2.drew wr.heap.size (.string Y0)
         have G2 := grownBy_setCell' (W2.drew.setCell ⟨wr.heap.size, 0, none⟩ (.string Y0)) (wr.heap.size + 1) (.string Y0)
         have c1F : Boxed ((W2.drew.setCell ⟨wr.heap.size, 0, none⟩ (.string Y0)).setCell ⟨wr.heap.size + 1, 0, none⟩ (.string Y0)) wr.heap.size 9 (.string Y0) := (c1d.set _).kept G2 (by simp)
         have c2F : Boxed ((W2.drew.setCell ⟨wr.heap.size, 0, none⟩ (.string Y0)).setCell ⟨wr.heap.size + 1, 0, none⟩ (.string Y0)) (wr.heap.size + 1) 9 (.string Y0) := (c2d.kept G1 (by simp)).set _
         have beltF : Below wr.heap.size wr ((W2.drew.setCell ⟨wr.heap.size, 0, none⟩ (.string Y0)).setCell ⟨wr.heap.size + 1, 0, none⟩ (.string Y0)) := ((below_drew1 belt0).grown G1 (by show wr.heap.size ≤ W2.heap.size; omega) (fun k e => by injection e; omega)).grown G2 (by have := G1.size; have e : W2.drew.heap.size = W2.heap.size := rfl; omega) (fun k e => by injection e; omega)
         have hszF : ((W2.drew.setCell ⟨wr.heap.size, 0, none⟩ (.string Y0)).setCell ⟨wr.heap.size + 1, 0, none⟩ (.string Y0)).heap.size = wr.heap.size + 2 := by
          rw [← hsz2]
          simp
         clear G1 G2 c1d c2d c1 c2 belt0 hx
         refine norm_wp ?_
         refine vere_r23 _ W2 _ _ _ _ _ _ _ _ _ _ _ _ _ _ _ _ _ _ _ _ _ _ _ _ _ _ _ _ _ _ _ _ _ _ _ _ _ _ _ _ _ _ _ _ _ _ _ _ _ _ _ _ _ _ _ _ _ _ _ _ _ _ _ _ _ _ _ _ _ _ _ _ _ _ _ _ _ _ _ _ _ _ _ _ _ _ _ _ _ _ _ _ _ _ _ _ _ _ _ _ _ _ _ _ _ _ _ _ _ _ _ _ _ _ _ _ _ _ _ _ _ _ _ _ _ _ _ _ _ _ _ _ _ _ ad c wr.heap.size (wr.heap.size + 1) Y0 Y0 Y0 hSE ?_
         intro z106 z107 z108 z109 z110 z111
         go_upto_region 24 with (fail)
         -- TAIL
         obtain ⟨Wt, hWt⟩ : ∃ Wt, (W2.drew.setCell ⟨wr.heap.size, 0, none⟩ (.string Y0)).setCell ⟨wr.heap.size + 1, 0, none⟩ (.string Y0) = Wt := ⟨_, rfl⟩
         have hszt : Wt.heap.size = wr.heap.size + 2 := by rw [← hWt]; exact hszF
         have c1 : Boxed Wt wr.heap.size 9 (.string Y0) := by rw [← hWt]; exact c1F
         have c2 : Boxed Wt (wr.heap.size + 1) 9 (.string Y0) := by rw [← hWt]; exact c2F
         have belt : Below wr.heap.size wr Wt := by rw [← hWt]; exact beltF
         (try rw [hWt])
         clear hWt
         go_wp2_with (go_at_call 47; refine (callsIn_wide.1 (backD_fn _ _ _ _)).mono ?_; rintro e w' ⟨rfl, rfl⟩)
         obtain ⟨nw, hnw⟩ : ∃ nw, way.length = nw := ⟨_, rfl⟩
         rw [hnw] at hAw hwl ⊢
         obtain ⟨W0, hW0⟩ : ∃ W0, Wt.alloc (Obj.cells #[Value.slice Aw nw cw] 54) = W0 := ⟨_, rfl⟩
         have hsz0 : W0.heap.size = wr.heap.size + 3 := by rw [← hW0]; simp; omega
         have b1 : Boxed W0 wr.heap.size 9 (.string Y0) := by rw [← hW0]; exact c1.alloc _
         have b2 : Boxed W0 (wr.heap.size + 1) 9 (.string Y0) := by rw [← hW0]; exact c2.alloc _
         have b3 : Boxed W0 (wr.heap.size + 2) 54 (.slice Aw nw cw) := by
          rw [← hW0]
          have := Boxed.new Wt 54 (.slice Aw nw cw)
          rwa [hszt] at this
         have belr : Below wr.heap.size wr W0 := by rw [← hW0]; exact below_alloc' belt (by omega) _
         have belw : Below w.heap.size w W0 := below_then HB.out HB.out.size belr
         obtain ⟨xs, hxs⟩ : ∃ xs, way.reverse = xs := ⟨_, rfl⟩
         have hxl : xs.length = nw := by rw [← hxs, ← hnw]; simp
         rw [hxs] at hcw
         have RB : backDR xs gw 0 W0 := hcw.block (belr.block gw hgw)
         have hall2 : ∀ y ∈ xs, y.1.size = 32 := by
          intro y hy
          rw [← hxs, List.mem_reverse] at hy
          exact hw32.out y hy
         have hend : upF way Y0 = xs.reverse.foldl (fun out y => joinF y out) Y0 := by
          rw [← hxs, List.reverse_reverse]
          rfl
         have hendE : upE way Y0 = xs.reverse.foldl (fun out y => joinE y out) Y0 := by
          rw [← hxs, List.reverse_reverse]
          rfl
         have hgw1 : w.heap.size ≤ wr.heap.size := HB.out.size
         have RR : Amb W0 := hG_.below belw
         replace hend := Aside0.mk hend
         replace hendE := Aside0.mk hendE
         (try rw [hWt0])
         rw [hW0]
         clear hW0 hcw belt belr HB hw32 hmw hxs c1 c2 hszt
         generalize wr.heap.size = gb at hsz0 b1 b2 b3 hgw hgw1 ⊢
         refine (wpIn_wide (n := 4)).1 ?_
         refine rangeFunc_Y rfl (by decide) (gf := 63) (lb := #[.pointer (some ⟨gb + 2, 0, none⟩)]) rfl trivial (enters_of Tryd.func63 (by kernel_rfl) rfl)
          (Z := fun _ => False) (fun k hk => hk.elim)
          (encs := fun y : Fin nw => #[.int .i64 (y.val : Int), encD (xs[y.val]'(hxl ▸ y.isLt))]) (Kp := fun A B => B.heap[gb + 2]? = A.heap[gb + 2]? ∧ B.heap[gw]? = A.heap[gw]?) (S := fun ys => ys.map Fin.val = (List.range nw).reverse) (Sp := fun _ => True) (N := nw) ?iter
          (fun h k => ⟨k.1.trans h.1, k.2.trans h.2⟩) (fun W l o hl => ⟨World.putObj_heap_other (by omega), World.putObj_heap_other (by omega)⟩) (fun _ => rfl)
          (fun pre W => Boxed W gb 9 (.string (pre.foldl (fun out y => joinE (xs[y.val]'(hxl ▸ y.isLt)) out) Y0)) ∧ Boxed W (gb + 1) 9 (.string (pre.foldl (fun out y => joinF (xs[y.val]'(hxl ▸ y.isLt)) out) Y0)) ∧ Keep2 gb (gb + 1) W0 W)
          (fun _ _ _ => False)
          ?ab (fun _ _ _ _ _ hs _ _ => hs)
          ⟨b1, b2, ⟨rfl, rfl, rfl, Nat.le_refl _, fun _ _ _ _ => rfl⟩⟩ ?round ?done ?stop
         case iter =>
          intro l' J Jx W hW hJ hJx hY hJ0
          exact backD_in l' (gb + 2) gw 0 nw cw _ xs hxl (by have := hwl.out; omega) hAw J Jx hY W (b3.kept hW (by simp)) (RB.block (hW.block gw (by omega) (by simp))) hJ0
         case ab =>
          rintro pre W W' row ⟨hA, hA2, hB⟩ hg hrow
          have hne : ∀ r, row = some r → W0.heap.size ≤ r := fun r e => by
           rcases hrow r e with h | ⟨h, _⟩
           ·exact h.elim
           ·exact h
          exact ⟨hA.kept hg (fun e => by have := hne gb e.symm; omega), hA2.kept hg (fun e => by have := hne _ e.symm; omega), hB.grown hg hne⟩
         case round =>
          rintro l' pre y W ⟨hA, hA2, hB⟩ hlt hWs
          dsimp only
          rw [zip_two, foldl_two]
          simp only [List.setIfInBounds_toArray, List.set_cons_succ, List.set_cons_zero]
          have hys := hall2 _ (List.getElem_mem (hxl ▸ y.isLt : y.val < xs.length))
          obtain ⟨p, hp⟩ : ∃ p, xs[y.val]'(hxl ▸ y.isLt) = p := ⟨_, rfl⟩
          rw [hp] at hys ⊢
          replace hp := Aside0.mk hp
          obtain ⟨x1, x2⟩ := p
          unfold encD
          dsimp only at hys ⊢
          gi_wp2
          have hgbW : gb < W.heap.size := hA.lt
          have hqW : gb + 2 < W.heap.size := by omega
          have hgwW : gw < W.heap.size := by omega
          have hbelW := below_alloc (Below.refl W.heap.size W) (Obj.cells #[Value.string x1, Value.bool x2] 58)
          refine ⟨⟨hbelW, ⟨hA.alloc _, hA2.alloc _, hB.below hbelW⟩, hbelW.block _ hqW, hbelW.block _ hgwW⟩, ?_⟩
          rintro V hV ⟨hA', hA2', hB'⟩
          have hbox : V.heap[W.heap.size]? = some (.cells #[Value.string x1, Value.bool x2] 58 (0, 0)) := (hV.block W.heap.size (by simp) (by simp; omega)).trans (heap_alloc_new ..)
          obtain ⟨bx, hbx⟩ : ∃ bx, W.heap.size = bx := ⟨_, rfl⟩
          rw [hbx] at hbox hgbW hqW hgwW hWs ⊢
          have hbxV : bx < V.heap.size := (Array.getElem?_eq_some_iff.1 hbox).1
          replace hbx := Aside0.mk hbx
          have hb0 : V.cell? ⟨bx, 0, none⟩ = some (.string x1) := by simp [World.cell?, hbox]
          have hb1 : V.cell? ⟨bx, 1, none⟩ = some (.bool x2) := by simp [World.cell?, hbox]
          have HB0 := Aside0.mk hb0
          have HB1 := Aside0.mk hb1
          simp only [World.cell?] at HB0 HB1
          obtain ⟨o1, ho1⟩ : ∃ o1, pre.foldl (fun out y => joinE (xs[y.val]'(hxl ▸ y.isLt)) out) Y0 = o1 := ⟨_, rfl⟩
          obtain ⟨o2, ho2⟩ : ∃ o2, pre.foldl (fun out y => joinF (xs[y.val]'(hxl ▸ y.isLt)) out) Y0 = o2 := ⟨_, rfl⟩
          have hos1 : o1.size = 32 := by rw [← ho1]; exact efold_size (fun y : Fin nw => xs[y.val]'(hxl ▸ y.isLt)) pre _ hz32.out
          have hos2 : o2.size = 32 := by rw [← ho2]; exact jfold_size (fun y : Fin nw => xs[y.val]'(hxl ▸ y.isLt)) pre _ hz32.out
          rw [ho1] at hA'
          rw [ho2] at hA2'
          have hc1 := hA'.cell
          have hc2 := hA2'.cell
          have hlt0 : 0 < gb := by
           obtain ⟨_, _, h'⟩ := hG_
           have := (Array.getElem?_eq_some_iff.1 h').1
           omega
          have hRV : Amb V := by
           obtain ⟨t, fr, h⟩ := RR
           exact ⟨t, fr, (hB'.block _ (by omega) (by omega) (by omega)).trans h⟩
          have hF : Fence.wide.fn 48 := trivial
          -- what the round's end asks: two worlds behind V
          have fin : ∀ V2 : World, Keep2 gb (gb + 1) V V2 → Boxed V2 gb 9 (.string (joinE (x1, x2) o1)) → Boxed V2 (gb + 1) 9 (.string (joinF (x1, x2) o2)) →
            KeepsFrom W0.heap.size V V2 ∧ (V2.heap[gb + 2]? = V.heap[gb + 2]? ∧ V2.heap[gw]? = V.heap[gw]?) ∧ Boxed V2 gb 9 (.string ((pre ++ [y]).foldl (fun out y => joinE (xs[y.val]'(hxl ▸ y.isLt)) out) Y0)) ∧ Boxed V2 (gb + 1) 9 (.string ((pre ++ [y]).foldl (fun out y => joinF (xs[y.val]'(hxl ▸ y.isLt)) out) Y0)) ∧ Keep2 gb (gb + 1) W0 V2 := by
           intro V2 K q1 q2
           refine ⟨⟨K.size, fun k o hk ho _ => (K.block k (Array.getElem?_eq_some_iff.1 ho).1 (by omega) (by omega)).trans ho⟩, ⟨K.block _ (by omega) (by omega) (by omega), K.block _ (by omega) (by omega) (by omega)⟩, ?_, ?_, hB'.trans K⟩
           ·rw [List.foldl_append, ho1]
            show Boxed V2 gb 9 (.string (joinE (xs[y.val]'(hxl ▸ y.isLt)) o1))
            rw [hp.out]
            exact q1
           ·rw [List.foldl_append, ho2]
            show Boxed V2 (gb + 1) 9 (.string (joinF (xs[y.val]'(hxl ▸ y.isLt)) o2))
            rw [hp.out]
            exact q2
          replace fin := Aside0.mk fin
          have hlt1 : gb + 1 < V.heap.size := hA2'.lt
          have hltb : gb < V.heap.size := hA'.lt
          clear hbox hV hbelW
          cases x2
          ·have j1 : joinE (x1, false) o1 = o1 := if_neg (by simp)
           gi_wp2_with fail
           refine CallsIn.mono (CallsIn.inRound _ (callsIn_wide.2 (side_join_calls x1 false o2 V hRV (by omega)))) ?_
           rintro e w1 ⟨rfl, hb'⟩
           have B2 : Boxed w1 (gb + 1) 9 (.string o2) := (hb'.block _ hlt1).trans hA2'
           have B1 : Boxed w1 gb 9 (.string o1) := (hb'.block _ hltb).trans hA'
           have hc' := B2.cell
           have hf' := B2.frozen
           clear hb0 hb1 hc1 hc2
           gi_wp2_with fail
           have q1 : Boxed (w1.setCell ⟨gb + 1, 0, none⟩ (.string (joinF (x1, false) o2))) gb 9 (.string (joinE (x1, false) o1)) := by
            rw [j1]
            exact B1.kept (grownBy_setCell' w1 (gb + 1) _) (by simp)
           have q2 := B2.set (.string (joinF (x1, false) o2))
           have q3 : Keep2 gb (gb + 1) V (w1.setCell ⟨gb + 1, 0, none⟩ (.string (joinF (x1, false) o2))) := Keep2.set2 hb' (gb + 1) (.inr rfl) _
           have r := fin.out _ q3 q1 q2
           clear q1 q2 q3 fin
           obtain ⟨r1, r2, r3, r4, r5⟩ := r
           refine ⟨r1, r2, ?_, ?_, ?_⟩
           ·exact r3
           ·exact r4
           ·exact r5
          ·gi_upto_region 27 with (fail)
           gi_wp2_with fail
           refine CallsIn.mono (CallsIn.inRound _ (callsIn_wide.2 (side_join_calls x1 true o1 V hRV (by omega)))) ?_
           rintro e w1 ⟨rfl, hb'⟩
           have B2 : Boxed w1 (gb + 1) 9 (.string o2) := (hb'.block _ hlt1).trans hA2'
           have B1 : Boxed w1 gb 9 (.string o1) := (hb'.block _ hltb).trans hA'
           have hc' := B1.cell
           have hf' := B1.frozen
           clear hb0 hb1 hc1 hc2
           gi_upto_region 28 with (fail)
           have K1 := Keep2.set2 (h := gb + 1) hb' gb (.inl rfl) (.string (joinF (x1, true) o1))
           have S1 : Boxed (w1.setCell ⟨gb, 0, none⟩ (.string (joinF (x1, true) o1))) gb 9 (.string (joinF (x1, true) o1)) := B1.set _
           have S2 : Boxed _ (gb + 1) 9 (.string o2) := B2.kept (grownBy_setCell' w1 gb (.string (joinF (x1, true) o1))) (by simp)
           generalize w1.setCell ⟨gb, 0, none⟩ (.string (joinF (x1, true) o1)) = Va at K1 S1 S2 ⊢
           clear hc' hf' B1 B2 hb'
           have hxA : Va.heap[bx]? = V.heap[bx]? := K1.block bx hbxV (by omega) (by omega)
           have hb0 : Va.cell? ⟨bx, 0, none⟩ = some (.string x1) := by simp only [World.cell?, hxA]; exact HB0.out
           have hb1 : Va.cell? ⟨bx, 1, none⟩ = some (.bool true) := by simp only [World.cell?, hxA]; exact HB1.out
           have hRA : Amb Va := by
            obtain ⟨t, fr, h⟩ := hRV
            exact ⟨t, fr, (K1.block _ (by omega) (by omega) (by omega)).trans h⟩
           have hc2 := S2.cell
           gi_wp2_with fail
           refine CallsIn.mono (CallsIn.inRound _ (callsIn_wide.2 (side_join_calls x1 true o2 Va hRA (by omega)))) ?_
           rintro e w2 ⟨rfl, hb'⟩
           have B2 : Boxed w2 (gb + 1) 9 (.string o2) := (hb'.block _ S2.lt).trans S2
           have B1 : Boxed w2 gb 9 (.string (joinE (x1, true) o1)) := by
            rw [show joinE (x1, true) o1 = joinF (x1, true) o1 from if_pos rfl]
            exact (hb'.block _ S1.lt).trans S1
           have hc' := B2.cell
           have hf' := B2.frozen
           clear hb0 hb1 hc2
           gi_wp2_with fail
           have q1 : Boxed (w2.setCell ⟨gb + 1, 0, none⟩ (.string (joinF (x1, true) o2))) gb 9 (.string (joinE (x1, true) o1)) := B1.kept (grownBy_setCell' w2 (gb + 1) _) (by simp)
           have q2 := B2.set (.string (joinF (x1, true) o2))
           have q3 : Keep2 gb (gb + 1) Va (w2.setCell ⟨gb + 1, 0, none⟩ (.string (joinF (x1, true) o2))) := Keep2.set2 hb' (gb + 1) (.inr rfl) _
           have r := fin.out _ (K1.trans q3) q1 q2
           clear q1 q2 q3 fin
           obtain ⟨r1, r2, r3, r4, r5⟩ := r
           refine ⟨r1, r2, ?_, ?_, ?_⟩
           ·exact r3
           ·exact r4
           ·exact r5
         case done =>
          rintro D ys W hD hys ⟨hA, hA2, hB⟩ hK
          have hfin := fold_rev xs hxl ys hys joinF Y0
          have hfinE := fold_rev xs hxl ys hys joinE Y0
          rw [hfin, ← hend.out] at hA2
          rw [hfinE, ← hendE.out] at hA
          have hc1 := hA.cell
          have hc2 := hA2.cell
          have t1 : Below w.heap.size w W := ⟨hB.os.trans belw.os, hB.tape.trans belw.tape, hB.output.trans belw.output, Nat.le_trans belw.size hB.size, fun i hi => (hB.block i (by omega) (by omega) (by omega)).trans (belw.block i hi)⟩
          have t2 := Aside0.mk (t1.trans (belowK_b (w := W0) (o' := .deferred none) belw.size W D _ hD hK rfl rfl))
          dsimp only [Exit.inBlock, Exit.then]
          obtain ⟨q1, hq1⟩ : ∃ q, ((upE way Y0).toList == old.toList) = q := ⟨_, rfl⟩
          obtain ⟨q2, hq2⟩ : ∃ q, ((upF way Y0).toList == root.toList) = q := ⟨_, rfl⟩
          have hv2 := hv1.out
          rw [hq1, hq2] at hv2
          replace hv2 := Aside0.mk hv2
          cases q1
          ·go_wp2_with fail
           refine ⟨by simp, .inl ⟨_, _, rfl, run_takeDeferred hK, ?_⟩⟩
           exact ⟨.bool false, by simp [results, Tryd.results23, go_sem], by rw [hv2.out]; rfl, t2.out⟩
          ·go_wp2_with fail
           refine ⟨by simp, .inl ⟨_, _, rfl, run_takeDeferred hK, ?_⟩⟩
           exact ⟨.bool q2, by simp [results, Tryd.results23, go_sem], by rw [hv2.out]; rfl, t2.out⟩
         case stop =>
          rintro D c pre W _ _ h _
          exact h.elim
        ·have hpr : verifyEF old i' root n' l = false := by
          rw [hv.out, hDw]
          have : ∀ pr : List ByteArray, pr.length = m → endE old root (some (way, pr, false)) = false := by
           intro pr hpl
           match pr, hpl with
           | [], _ => rfl
           | [_], h => simp at h; omega
           | _ :: _ :: _, _ => rfl
          exact this _ (by rw [List.length_reverse, hlm])
         replace hpr := Aside0.mk hpr
         have dm : ((m : Int) != 1) = true := bne_iff_ne.mpr (by omega)
         have dm2 : ((m : Int) == 1) = false := beq_eq_false_iff_ne.mpr (by omega)
         have belt : Below wr.heap.size wr ((wr.alloc (Obj.cells #[Value.string old] 9)).alloc (Obj.cells #[Value.string old] 9)) := ((Below.refl _ wr).alloc (Nat.le_refl _) _).alloc (by simp) _
         replace belt := Aside0.mk belt
         go_wp2
         exact ⟨.bool false, by simp [results, Tryd.results23, go_sem], by rw [hpr.out], below_then HB.out HB.out.size belt.out⟩
       ·have hvT : verifyEF old i' root n' l = (decide (m = 0) && ((upE way old).toList == old.toList) && ((upF way old).toList == root.toList)) := by
         rw [hv.out, hDw]
         show ((l.take m).reverse.isEmpty && (upE way old == old) && (upF way old == root)) = _
         rw [beq_toListBytes, beq_toListBytes]
         congr 2
         cases m with
         | zero => rfl
         | succ m =>
          cases h : (l.take (m + 1)).reverse with
          | nil =>
           have := congrArg List.length h
           rw [List.length_reverse, hlm] at this
           simp at this
          | cons y r => rfl
        replace hvT := Aside0.mk hvT
        have hz32 := ho32
        clear hDw hlm hdf hv
        go_upto_region 24 with (fail)

        -- TAIL
        obtain ⟨Wt, hWt⟩ : ∃ Wt, (wr.alloc (Obj.cells #[Value.string old] 9)).alloc (Obj.cells #[Value.string old] 9) = Wt := ⟨_, rfl⟩
        have hszt : Wt.heap.size = wr.heap.size + 2 := by rw [← hWt]; simp
        have c1 : Boxed Wt wr.heap.size 9 (.string old) := by rw [← hWt]; exact (Boxed.new wr _ _).alloc _
        have c2 : Boxed Wt (wr.heap.size + 1) 9 (.string old) := by rw [← hWt]; exact (by have := Boxed.new (wr.alloc (.cells #[Value.string old] 9)) 9 (.string old); rwa [World.size_alloc] at this)
        have belt : Below wr.heap.size wr Wt := by rw [← hWt]; exact ((Below.refl _ wr).alloc (Nat.le_refl _) _).alloc (by simp) _
        (try rw [hWt])
        clear hWt
        go_wp2_with (go_at_call 47; refine (callsIn_wide.1 (backD_fn _ _ _ _)).mono ?_; rintro e w' ⟨rfl, rfl⟩)
        obtain ⟨nw, hnw⟩ : ∃ nw, way.length = nw := ⟨_, rfl⟩
        rw [hnw] at hAw hwl ⊢
        obtain ⟨W0, hW0⟩ : ∃ W0, Wt.alloc (Obj.cells #[Value.slice Aw nw cw] 54) = W0 := ⟨_, rfl⟩
        have hsz0 : W0.heap.size = wr.heap.size + 3 := by rw [← hW0]; simp; omega
        have b1 : Boxed W0 wr.heap.size 9 (.string old) := by rw [← hW0]; exact c1.alloc _
        have b2 : Boxed W0 (wr.heap.size + 1) 9 (.string old) := by rw [← hW0]; exact c2.alloc _
        have b3 : Boxed W0 (wr.heap.size + 2) 54 (.slice Aw nw cw) := by
         rw [← hW0]
         have := Boxed.new Wt 54 (.slice Aw nw cw)
         rwa [hszt] at this
        have belr : Below wr.heap.size wr W0 := by rw [← hW0]; exact below_alloc' belt (by omega) _
        have belw : Below w.heap.size w W0 := below_then HB.out HB.out.size belr
        obtain ⟨xs, hxs⟩ : ∃ xs, way.reverse = xs := ⟨_, rfl⟩
        have hxl : xs.length = nw := by rw [← hxs, ← hnw]; simp
        rw [hxs] at hcw
        have RB : backDR xs gw 0 W0 := hcw.block (belr.block gw hgw)
        have hall2 : ∀ y ∈ xs, y.1.size = 32 := by
         intro y hy
         rw [← hxs, List.mem_reverse] at hy
         exact hw32.out y hy
        have hend : upF way old = xs.reverse.foldl (fun out y => joinF y out) old := by
         rw [← hxs, List.reverse_reverse]
         rfl
        have hendE : upE way old = xs.reverse.foldl (fun out y => joinE y out) old := by
         rw [← hxs, List.reverse_reverse]
         rfl
        have hgw1 : w.heap.size ≤ wr.heap.size := HB.out.size
        have RR : Amb W0 := hG_.below belw
        replace hend := Aside0.mk hend
        replace hendE := Aside0.mk hendE
        (try rw [hWt0])
        rw [hW0]
        clear hW0 hcw belt belr HB hw32 hmw hxs c1 c2 hszt
        generalize wr.heap.size = gb at hsz0 b1 b2 b3 hgw hgw1 ⊢
        refine (wpIn_wide (n := 4)).1 ?_
        refine rangeFunc_Y rfl (by decide) (gf := 63) (lb := #[.pointer (some ⟨gb + 2, 0, none⟩)]) rfl trivial (enters_of Tryd.func63 (by kernel_rfl) rfl)
         (Z := fun _ => False) (fun k hk => hk.elim)
         (encs := fun y : Fin nw => #[.int .i64 (y.val : Int), encD (xs[y.val]'(hxl ▸ y.isLt))]) (Kp := fun A B => B.heap[gb + 2]? = A.heap[gb + 2]? ∧ B.heap[gw]? = A.heap[gw]?) (S := fun ys => ys.map Fin.val = (List.range nw).reverse) (Sp := fun _ => True) (N := nw) ?iter
         (fun h k => ⟨k.1.trans h.1, k.2.trans h.2⟩) (fun W l o hl => ⟨World.putObj_heap_other (by omega), World.putObj_heap_other (by omega)⟩) (fun _ => rfl)
         (fun pre W => Boxed W gb 9 (.string (pre.foldl (fun out y => joinE (xs[y.val]'(hxl ▸ y.isLt)) out) old)) ∧ Boxed W (gb + 1) 9 (.string (pre.foldl (fun out y => joinF (xs[y.val]'(hxl ▸ y.isLt)) out) old)) ∧ Keep2 gb (gb + 1) W0 W)
         (fun _ _ _ => False)
         ?ab (fun _ _ _ _ _ hs _ _ => hs)
         ⟨b1, b2, ⟨rfl, rfl, rfl, Nat.le_refl _, fun _ _ _ _ => rfl⟩⟩ ?round ?done ?stop
        case iter =>
         intro l' J Jx W hW hJ hJx hY hJ0
         exact backD_in l' (gb + 2) gw 0 nw cw _ xs hxl (by have := hwl.out; omega) hAw J Jx hY W (b3.kept hW (by simp)) (RB.block (hW.block gw (by omega) (by simp))) hJ0
        case ab =>
         rintro pre W W' row ⟨hA, hA2, hB⟩ hg hrow
         have hne : ∀ r, row = some r → W0.heap.size ≤ r := fun r e => by
          rcases hrow r e with h | ⟨h, _⟩
          ·exact h.elim
          ·exact h
         exact ⟨hA.kept hg (fun e => by have := hne gb e.symm; omega), hA2.kept hg (fun e => by have := hne _ e.symm; omega), hB.grown hg hne⟩
        case round =>
         rintro l' pre y W ⟨hA, hA2, hB⟩ hlt hWs
         dsimp only
         rw [zip_two, foldl_two]
         simp only [List.setIfInBounds_toArray, List.set_cons_succ, List.set_cons_zero]
         have hys := hall2 _ (List.getElem_mem (hxl ▸ y.isLt : y.val < xs.length))
         obtain ⟨p, hp⟩ : ∃ p, xs[y.val]'(hxl ▸ y.isLt) = p := ⟨_, rfl⟩
         rw [hp] at hys ⊢
         replace hp := Aside0.mk hp
         obtain ⟨x1, x2⟩ := p
         unfold encD
         dsimp only at hys ⊢
         gi_wp2
         have hgbW : gb < W.heap.size := hA.lt
         have hqW : gb + 2 < W.heap.size := by omega
         have hgwW : gw < W.heap.size := by omega
         have hbelW := below_alloc (Below.refl W.heap.size W) (Obj.cells #[Value.string x1, Value.bool x2] 58)
         refine ⟨⟨hbelW, ⟨hA.alloc _, hA2.alloc _, hB.below hbelW⟩, hbelW.block _ hqW, hbelW.block _ hgwW⟩, ?_⟩
         rintro V hV ⟨hA', hA2', hB'⟩
         have hbox : V.heap[W.heap.size]? = some (.cells #[Value.string x1, Value.bool x2] 58 (0, 0)) := (hV.block W.heap.size (by simp) (by simp; omega)).trans (heap_alloc_new ..)
         obtain ⟨bx, hbx⟩ : ∃ bx, W.heap.size = bx := ⟨_, rfl⟩
         rw [hbx] at hbox hgbW hqW hgwW hWs ⊢
         have hbxV : bx < V.heap.size := (Array.getElem?_eq_some_iff.1 hbox).1
         replace hbx := Aside0.mk hbx
         have hb0 : V.cell? ⟨bx, 0, none⟩ = some (.string x1) := by simp [World.cell?, hbox]
         have hb1 : V.cell? ⟨bx, 1, none⟩ = some (.bool x2) := by simp [World.cell?, hbox]
         have HB0 := Aside0.mk hb0
         have HB1 := Aside0.mk hb1
         simp only [World.cell?] at HB0 HB1
         obtain ⟨o1, ho1⟩ : ∃ o1, pre.foldl (fun out y => joinE (xs[y.val]'(hxl ▸ y.isLt)) out) old = o1 := ⟨_, rfl⟩
         obtain ⟨o2, ho2⟩ : ∃ o2, pre.foldl (fun out y => joinF (xs[y.val]'(hxl ▸ y.isLt)) out) old = o2 := ⟨_, rfl⟩
         have hos1 : o1.size = 32 := by rw [← ho1]; exact efold_size (fun y : Fin nw => xs[y.val]'(hxl ▸ y.isLt)) pre _ hz32.out
         have hos2 : o2.size = 32 := by rw [← ho2]; exact jfold_size (fun y : Fin nw => xs[y.val]'(hxl ▸ y.isLt)) pre _ hz32.out
         rw [ho1] at hA'
         rw [ho2] at hA2'
         have hc1 := hA'.cell
         have hc2 := hA2'.cell
         have hlt0 : 0 < gb := by
          obtain ⟨_, _, h'⟩ := hG_
          have := (Array.getElem?_eq_some_iff.1 h').1
          omega
         have hRV : Amb V := by
          obtain ⟨t, fr, h⟩ := RR
          exact ⟨t, fr, (hB'.block _ (by omega) (by omega) (by omega)).trans h⟩
         have hF : Fence.wide.fn 48 := trivial
         -- what the round's end asks: two worlds behind V
         have fin : ∀ V2 : World, Keep2 gb (gb + 1) V V2 → Boxed V2 gb 9 (.string (joinE (x1, x2) o1)) → Boxed V2 (gb + 1) 9 (.string (joinF (x1, x2) o2)) →
           KeepsFrom W0.heap.size V V2 ∧ (V2.heap[gb + 2]? = V.heap[gb + 2]? ∧ V2.heap[gw]? = V.heap[gw]?) ∧ Boxed V2 gb 9 (.string ((pre ++ [y]).foldl (fun out y => joinE (xs[y.val]'(hxl ▸ y.isLt)) out) old)) ∧ Boxed V2 (gb + 1) 9 (.string ((pre ++ [y]).foldl (fun out y => joinF (xs[y.val]'(hxl ▸ y.isLt)) out) old)) ∧ Keep2 gb (gb + 1) W0 V2 := by
          intro V2 K q1 q2
          refine ⟨⟨K.size, fun k o hk ho _ => (K.block k (Array.getElem?_eq_some_iff.1 ho).1 (by omega) (by omega)).trans ho⟩, ⟨K.block _ (by omega) (by omega) (by omega), K.block _ (by omega) (by omega) (by omega)⟩, ?_, ?_, hB'.trans K⟩
          ·rw [List.foldl_append, ho1]
           show Boxed V2 gb 9 (.string (joinE (xs[y.val]'(hxl ▸ y.isLt)) o1))
           rw [hp.out]
           exact q1
          ·rw [List.foldl_append, ho2]
           show Boxed V2 (gb + 1) 9 (.string (joinF (xs[y.val]'(hxl ▸ y.isLt)) o2))
           rw [hp.out]
           exact q2
         replace fin := Aside0.mk fin
         have hlt1 : gb + 1 < V.heap.size := hA2'.lt
         have hltb : gb < V.heap.size := hA'.lt
         clear hbox hV hbelW
         cases x2
         ·have j1 : joinE (x1, false) o1 = o1 := if_neg (by simp)
          gi_wp2_with fail
          refine CallsIn.mono (CallsIn.inRound _ (callsIn_wide.2 (side_join_calls x1 false o2 V hRV (by omega)))) ?_
          rintro e w1 ⟨rfl, hb'⟩
          have B2 : Boxed w1 (gb + 1) 9 (.string o2) := (hb'.block _ hlt1).trans hA2'
          have B1 : Boxed w1 gb 9 (.string o1) := (hb'.block _ hltb).trans hA'
          have hc' := B2.cell
          have hf' := B2.frozen
          clear hb0 hb1 hc1 hc2
          gi_wp2_with fail
          have q1 : Boxed (w1.setCell ⟨gb + 1, 0, none⟩ (.string (joinF (x1, false) o2))) gb 9 (.string (joinE (x1, false) o1)) := by
           rw [j1]
           exact B1.kept (grownBy_setCell' w1 (gb + 1) _) (by simp)
          have q2 := B2.set (.string (joinF (x1, false) o2))
          have q3 : Keep2 gb (gb + 1) V (w1.setCell ⟨gb + 1, 0, none⟩ (.string (joinF (x1, false) o2))) := Keep2.set2 hb' (gb + 1) (.inr rfl) _
          have r := fin.out _ q3 q1 q2
          clear q1 q2 q3 fin
          obtain ⟨r1, r2, r3, r4, r5⟩ := r
          refine ⟨r1, r2, ?_, ?_, ?_⟩
          ·exact r3
          ·exact r4
          ·exact r5
         ·gi_upto_region 27 with (fail)
          gi_wp2_with fail
          refine CallsIn.mono (CallsIn.inRound _ (callsIn_wide.2 (side_join_calls x1 true o1 V hRV (by omega)))) ?_
          rintro e w1 ⟨rfl, hb'⟩
          have B2 : Boxed w1 (gb + 1) 9 (.string o2) := (hb'.block _ hlt1).trans hA2'
          have B1 : Boxed w1 gb 9 (.string o1) := (hb'.block _ hltb).trans hA'
          have hc' := B1.cell
          have hf' := B1.frozen
          clear hb0 hb1 hc1 hc2
          gi_upto_region 28 with (fail)
          have K1 := Keep2.set2 (h := gb + 1) hb' gb (.inl rfl) (.string (joinF (x1, true) o1))
          have S1 : Boxed (w1.setCell ⟨gb, 0, none⟩ (.string (joinF (x1, true) o1))) gb 9 (.string (joinF (x1, true) o1)) := B1.set _
          have S2 : Boxed _ (gb + 1) 9 (.string o2) := B2.kept (grownBy_setCell' w1 gb (.string (joinF (x1, true) o1))) (by simp)
          generalize w1.setCell ⟨gb, 0, none⟩ (.string (joinF (x1, true) o1)) = Va at K1 S1 S2 ⊢
          clear hc' hf' B1 B2 hb'
          have hxA : Va.heap[bx]? = V.heap[bx]? := K1.block bx hbxV (by omega) (by omega)
          have hb0 : Va.cell? ⟨bx, 0, none⟩ = some (.string x1) := by simp only [World.cell?, hxA]; exact HB0.out
          have hb1 : Va.cell? ⟨bx, 1, none⟩ = some (.bool true) := by simp only [World.cell?, hxA]; exact HB1.out
          have hRA : Amb Va := by
           obtain ⟨t, fr, h⟩ := hRV
           exact ⟨t, fr, (K1.block _ (by omega) (by omega) (by omega)).trans h⟩
          have hc2 := S2.cell
          gi_wp2_with fail
          refine CallsIn.mono (CallsIn.inRound _ (callsIn_wide.2 (side_join_calls x1 true o2 Va hRA (by omega)))) ?_
          rintro e w2 ⟨rfl, hb'⟩
          have B2 : Boxed w2 (gb + 1) 9 (.string o2) := (hb'.block _ S2.lt).trans S2
          have B1 : Boxed w2 gb 9 (.string (joinE (x1, true) o1)) := by
           rw [show joinE (x1, true) o1 = joinF (x1, true) o1 from if_pos rfl]
           exact (hb'.block _ S1.lt).trans S1
          have hc' := B2.cell
          have hf' := B2.frozen
          clear hb0 hb1 hc2
          gi_wp2_with fail
          have q1 : Boxed (w2.setCell ⟨gb + 1, 0, none⟩ (.string (joinF (x1, true) o2))) gb 9 (.string (joinE (x1, true) o1)) := B1.kept (grownBy_setCell' w2 (gb + 1) _) (by simp)
          have q2 := B2.set (.string (joinF (x1, true) o2))
          have q3 : Keep2 gb (gb + 1) Va (w2.setCell ⟨gb + 1, 0, none⟩ (.string (joinF (x1, true) o2))) := Keep2.set2 hb' (gb + 1) (.inr rfl) _
          have r := fin.out _ (K1.trans q3) q1 q2
          clear q1 q2 q3 fin
          obtain ⟨r1, r2, r3, r4, r5⟩ := r
          refine ⟨r1, r2, ?_, ?_, ?_⟩
          ·exact r3
          ·exact r4
          ·exact r5
        case done =>
         rintro D ys W hD hys ⟨hA, hA2, hB⟩ hK
         have hfin := fold_rev xs hxl ys hys joinF old
         have hfinE := fold_rev xs hxl ys hys joinE old
         rw [hfin, ← hend.out] at hA2
         rw [hfinE, ← hendE.out] at hA
         have hc1 := hA.cell
         have hc2 := hA2.cell
         have t1 : Below w.heap.size w W := ⟨hB.os.trans belw.os, hB.tape.trans belw.tape, hB.output.trans belw.output, Nat.le_trans belw.size hB.size, fun i hi => (hB.block i (by omega) (by omega) (by omega)).trans (belw.block i hi)⟩
         have t2 := Aside0.mk (t1.trans (belowK_b (w := W0) (o' := .deferred none) belw.size W D _ hD hK rfl rfl))
         dsimp only [Exit.inBlock, Exit.then]
         by_cases hm0 : m = 0
         ·subst hm0
          have hv1 : Aside0 (verifyEF old i' root n' l = ((upE way old).toList == old.toList && (upF way old).toList == root.toList)) := ⟨by rw [hvT.out]; simp⟩
          obtain ⟨q1, hq1⟩ : ∃ q, ((upE way old).toList == old.toList) = q := ⟨_, rfl⟩
          obtain ⟨q2, hq2⟩ : ∃ q, ((upF way old).toList == root.toList) = q := ⟨_, rfl⟩
          have hv2 := hv1.out
          rw [hq1, hq2] at hv2
          replace hv2 := Aside0.mk hv2
          cases q1
          ·go_wp2_with fail
           refine ⟨by simp, .inl ⟨_, _, rfl, run_takeDeferred hK, ?_⟩⟩
           exact ⟨.bool false, by simp [results, Tryd.results23, go_sem], by rw [hv2.out]; rfl, t2.out⟩
          ·go_wp2_with fail
           refine ⟨by simp, .inl ⟨_, _, rfl, run_takeDeferred hK, ?_⟩⟩
           exact ⟨.bool q2, by simp [results, Tryd.results23, go_sem], by rw [hv2.out]; rfl, t2.out⟩
         ·have dm : ((m : Int) == 0) = false := beq_eq_false_iff_ne.mpr (by omega)
          have hv2 : Aside0 (verifyEF old i' root n' l = false) := ⟨by rw [hvT.out]; simp [hm0]⟩
          go_wp2_with fail
          refine ⟨by simp, .inl ⟨_, _, rfl, run_takeDeferred hK, ?_⟩⟩
          exact ⟨.bool false, by simp [results, Tryd.results23, go_sem], by rw [hv2.out], t2.out⟩
        case stop =>
         rintro D c pre W _ _ h _
         exact h.elim

end Go.Proofs.YtjkdenldddjcnaaDoor.Sha

set_option linter.unusedVariables false
set_option linter.unusedSimpArgs false
namespace Go.Proofs.YtjkdenldddjcnaaDoor.Sha
open Go Go.RowKit Go.Shelf Go.Proofs.YtjkdenldddjcnaaDoorW.PrintWords Go.Proofs.YtjkdenldddjcnaaDoorW.PrintLast Go.Proofs.YtjkdenldddjcnaaDoorW.PrintMore
def digest_Verify.f (a0 : ByteArray) (a1 a2 : Int) (a3 : ByteArray) (l4 : List ByteArray) : Option Bool := if a3.size ≤ 549755813888 ∧ a1 ≤ 9223372036854775807 ∧ l4.length ≤ 1000000 then some (verifyF a0 a1 a2 a3 l4) else none
theorem digest_Verify.calls (a0 : ByteArray) (a1 a2 : Int) (a3 : ByteArray) (A4 : Option Addr) (c4 : Nat) (l4 : List ByteArray) (r : Bool) (w : World) (hr4 : Kd.C Kd.string w A4 l4.length l4) (hc4 : l4.length ≤ c4) (hG_ : Amb w) (h : digest_Verify.f a0 a1 a2 a3 l4 = some r) :
    Calls Tryd.prog 21 #[.string a0, .int .i64 a1, .int .i64 a2, .string a3, .slice A4 l4.length c4] w fun e w' => e = .returned (.bool r) ∧ Below w.heap.size w w' := by
  unfold digest_Verify.f at h
  by_cases hc : a3.size ≤ 549755813888 ∧ a1 ≤ 9223372036854775807 ∧ l4.length ≤ 1000000
  · rw [if_pos hc] at h
    have e := Option.some.inj h
    rw [← e]
    exact verify_calls a0 a3 a1 a2 A4 c4 l4 w hr4 hc4 hG_ hc.1 hc.2.1 hc.2.2
  · rw [if_neg hc] at h
    exact absurd h (by simp)
def digest_VerifyExtension.f (a0 : ByteArray) (a1 : Int) (a2 : ByteArray) (a3 : Int) (l4 : List ByteArray) : Option Bool := if a3 ≤ 9223372036854775807 ∧ l4.length ≤ 1000000 then some (verifyEF a0 a1 a2 a3 l4) else none
theorem digest_VerifyExtension.calls (a0 : ByteArray) (a1 : Int) (a2 : ByteArray) (a3 : Int) (A4 : Option Addr) (c4 : Nat) (l4 : List ByteArray) (r : Bool) (w : World) (hr4 : Kd.C Kd.string w A4 l4.length l4) (hc4 : l4.length ≤ c4) (hG_ : Amb w) (h : digest_VerifyExtension.f a0 a1 a2 a3 l4 = some r) :
    Calls Tryd.prog 23 #[.string a0, .int .i64 a1, .string a2, .int .i64 a3, .slice A4 l4.length c4] w fun e w' => e = .returned (.bool r) ∧ Below w.heap.size w w' := by
  unfold digest_VerifyExtension.f at h
  by_cases hc : a3 ≤ 9223372036854775807 ∧ l4.length ≤ 1000000
  · rw [if_pos hc] at h
    have e := Option.some.inj h
    rw [← e]
    exact verifyE_calls a0 a2 a1 a3 A4 c4 l4 w hr4 hc4 hG_ hc.1 hc.2
  · rw [if_neg hc] at h
    exact absurd h (by simp)
end Go.Proofs.YtjkdenldddjcnaaDoor.Sha

set_option linter.unusedVariables false
set_option linter.unusedSimpArgs false
namespace Go.Proofs.YtjkdenldddjcnaaDoor.Sha
open Go Go.RowKit Go.Proofs.YtjkdenldddjcnaaDoor.Df Go.Proofs.YtjkdenldddjcnaaDoorW.PrintWords Go.Proofs.YtjkdenldddjcnaaDoorW.PrintLast Go.Proofs.YtjkdenldddjcnaaDoorW.PrintMore

theorem bl_hi (f : Nat) : ∀ x, x < 2 ^ f → x < 2 ^ Lib.bitLenAux f x := by
 induction f with
 | zero => intro x h; simpa [Lib.bitLenAux] using h
 | succ f ih =>
  intro x h
  unfold Lib.bitLenAux
  by_cases h0 : x = 0
  ·rw [if_pos h0, h0]; decide
  ·rw [if_neg h0]
   have := ih (x / 2) (by rw [Nat.pow_succ] at h; omega)
   rw [Nat.add_comm, Nat.pow_succ]
   omega
/-- The exponent of left. -/
theorem left_exp (n : Nat) (h : 2 ≤ n) (h2 : n ≤ 9223372036854775807) : ∃ b, leftN n = 2 ^ b ∧ b ≤ 62 ∧ 2 ^ b < n ∧ n ≤ 2 ^ (b + 1) := by
 refine ⟨Lib.bitLen (n - 1) - 1, rfl, ?_, (leftN_lt n h h2).2, ?_⟩
 ·have := bitLenAux_le 64 (n - 1) 63 (by omega)
  show Lib.bitLenAux 64 (n - 1) - 1 ≤ 62
  omega
 ·have h3 := bl_hi 64 (n - 1) (by omega)
  have h4 := bitLen_pos (n - 1) (by omega)
  have e : Lib.bitLen (n - 1) - 1 + 1 = Lib.bitLenAux 64 (n - 1) := by
   show Lib.bitLenAux 64 (n - 1) - 1 + 1 = _
   have : 0 < Lib.bitLenAux 64 (n - 1) := h4
   omega
  rw [e]
  omega
theorem mn_cut (s : ByteArray) (n : Int) (h : 0 ≤ n) : 0 ≤ mn (s.size : Int) n ∧ mn (s.size : Int) n ≤ (s.size : Int) ∧ ((s.extract 0 (mn (s.size : Int) n).toNat).size : Int) ≤ n := by
 have h1 : 0 ≤ mn (s.size : Int) n ∧ mn (s.size : Int) n ≤ (s.size : Int) ∧ mn (s.size : Int) n ≤ n := by
  unfold mn
  split <;> omega
 refine ⟨h1.1, h1.2.1, ?_⟩
 rw [ByteArray.size_extract]
 omega
theorem few_loop (l : List ByteArray) (N : Nat) (hN : N ≤ 1000) : ∀ (f i : Nat) (acc : List ByteArray), acc.length = i → i ≤ N → (∀ s ∈ acc, s.size ≤ 60) → N - i < f →
  ∃ r, clearwaylaw02_few.l0 f l (N : Int) acc (i : Int) = some r ∧ r.length ≤ N ∧ ∀ s ∈ r, s.size ≤ 60 := by
 intro f
 induction f with
 | zero => intro i acc _ _ _ h; omega
 | succ f ih =>
  intro i acc ha hi hs hf
  rw [clearwaylaw02_few.l0]
  by_cases h1 : (i : Int) < (l.length : Int)
  ·rw [if_pos h1]
   by_cases h2 : (i : Int) < (N : Int)
   ·obtain ⟨c0, c1, c2⟩ := mn_cut (rdOf ByteArray.empty l (i : Int)) 60 (by decide)
    rw [if_pos h2, if_pos (by omega), if_pos c0, if_pos c1, if_pos (by omega)]
    have hw : wrap64 ((i : Int) + 1) = ((i + 1 : Nat) : Int) := by unfold wrap64; omega
    rw [hw]
    refine ih (i + 1) _ (by simp [ha]) (by omega) ?_ (by omega)
    intro s hs'
    rcases List.mem_append.1 hs' with h | h
    ·exact hs s h
    ·rw [List.mem_singleton.1 h]
     omega
   ·rw [if_neg h2]
    exact ⟨acc, rfl, by omega, hs⟩
  ·rw [if_neg h1]
   exact ⟨acc, rfl, by omega, hs⟩
theorem few_f (l : List ByteArray) (N k : Nat) (hN : N ≤ 1000) (hk : N < k) : ∃ r, clearwaylaw02_few.f k l (N : Int) = some r ∧ r.length ≤ N ∧ ∀ s ∈ r, s.size ≤ 60 := by
 unfold clearwaylaw02_few.f
 exact few_loop l N hN k 0 [] rfl (Nat.zero_le _) (by simp) (by omega)
theorem toList_loop (a : ByteArray) : ∀ (n i : Nat) (r : List UInt8), n = a.size - i → i ≤ a.size → ByteArray.toList.loop a i r = r.reverse ++ a.data.toList.drop i := by
 intro n
 induction n with
 | zero =>
  intro i r h hi
  rw [ByteArray.toList.loop, if_neg (by omega)]
  have : a.data.toList.drop i = [] := List.drop_eq_nil_of_le (by have : a.size = a.data.size := rfl; simp; omega)
  rw [this]; simp
 | succ n ih =>
  intro i r h hi
  rw [ByteArray.toList.loop, if_pos (by omega), ih (i+1) _ (by omega) (by omega)]
  have hs : i < a.data.toList.length := by have : a.size = a.data.size := rfl; simp; omega
  rw [List.drop_eq_getElem_cons hs]
  have : a.get! i = a.data.toList[i] := by
   have hs' : i < a.data.size := by simpa using hs
   show a.data[i]! = _
   rw [getElem!_pos a.data i hs']; simp
  simp [this]
theorem toList_data (a : ByteArray) : a.toList = a.data.toList := by
 unfold ByteArray.toList
 rw [toList_loop a _ 0 [] rfl (Nat.zero_le _)]; simp
theorem rdOf_at {l : List ByteArray} {j : Nat} {x : ByteArray} (h : l[j]? = some x) : rdOf ByteArray.empty l (j : Int) = x := by
 unfold rdOf
 simp [h]
end Go.Proofs.YtjkdenldddjcnaaDoor.Sha

set_option linter.unusedVariables false
set_option linter.unusedSimpArgs false
namespace Go.Proofs.YtjkdenldddjcnaaDoor.Sha
open Go Go.RowKit Go.Proofs.YtjkdenldddjcnaaDoor.Df Go.Proofs.YtjkdenldddjcnaaDoorW.PrintWords Go.Proofs.YtjkdenldddjcnaaDoorW.PrintLast Go.Proofs.YtjkdenldddjcnaaDoorW.PrintMore

end Go.Proofs.YtjkdenldddjcnaaDoor.Sha

