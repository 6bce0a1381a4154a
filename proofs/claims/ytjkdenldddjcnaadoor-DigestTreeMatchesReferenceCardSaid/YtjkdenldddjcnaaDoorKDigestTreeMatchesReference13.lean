/- Verify's walk: down by the numbers with the proof's strings from the last one on, and back up. Conditions: at most 1,000,000 strings in the proof, an entry of at most 2^39 bytes. A drawing region of VerifyExtension: two loads and two stores. No condition. The contracts of functions, written by this session's program (wip/pp.py): what the list functions answer, the code comes to. No condition. -/
import Derived.Test.YtjkdenldddjcnaaDoorKDigestTreeMatchesReference12
import Derived.Laws.StructEq
set_option linter.unusedVariables false
set_option linter.unusedSimpArgs false
namespace Go.Proofs.YtjkdenldddjcnaaDoor.Sha
open Go Go.RowKit Go.Shelf Go.Proofs.YtjkdenldddjcnaaDoor.Rf Go.Proofs.YtjkdenldddjcnaaDoorW.PrintWords Go.Proofs.YtjkdenldddjcnaaDoorW.PrintLast Go.Proofs.YtjkdenldddjcnaaDoorW.PrintMore
attribute [local go_sem] Oper.semAt_some

abbrev Way := List (ByteArray × Bool)
/-- Down: the proof's strings, the last one first; the steps, the last one first; what is left of the proof. -/
def descF : List ByteArray → Nat → Nat → Way → Option (Way × List ByteArray)
 | [], n, i, way => if n ≤ 1 then some (way, []) else none
 | x :: r, n, i, way => if n ≤ 1 then some (way, x :: r) else if leftN n ≤ i then descF r (n - leftN n) (i - leftN n) ((x, true) :: way) else descF r (leftN n) i ((x, false) :: way)
def all32 (l : List ByteArray) : Bool := l.all (fun s => (s.size : Int) == 32)
def upF (way : Way) (s : ByteArray) : ByteArray := way.foldl (fun out p => joinF p out) s
def endV (root s : ByteArray) : Option (Way × List ByteArray) → Bool
 | none => false
 | some (way, pr) => pr.isEmpty && (upF way (leafF s) == root)
def verifyF (root : ByteArray) (n i : Int) (s : ByteArray) (l : List ByteArray) : Bool :=
 if i < 0 then false else if n ≤ i then false else if all32 l = false then false else endV root s (descF l.reverse n.toNat i.toNat [])
theorem jfold_size {α : Type} (f : α → ByteArray × Bool) : ∀ (pre : List α) (x : ByteArray) (_ : x.size = 32), (pre.foldl (fun out y => joinF (f y) out) x).size = 32
 | [], _, h => h
 | y :: pre, x, _ => by
  rw [List.foldl_cons]
  exact jfold_size f pre (joinF (f y) x) (joinF_size _ _)
set_option maxHeartbeats 4000000 in
set_option maxRecDepth 100000 in
theorem verify_calls (root s : ByteArray) (n i : Int) (A : Option Addr) (c : Nat) (l : List ByteArray) (w : World) (hr0 : Kd.C Kd.string w A l.length l) (hc : l.length ≤ c) (hG_ : Amb w) (hs : s.size ≤ 549755813888) (hni : n ≤ 9223372036854775807) (hl : l.length ≤ 1000000) :
  Calls Tryd.prog 21 #[.string root, .int .i64 n, .int .i64 i, .string s, .slice A l.length c] w fun e w' => e = .returned (.bool (verifyF root n i s l)) ∧ Below w.heap.size w w' := by
 have HR0 := Aside0.mk hr0
 have HC0 := Aside0.mk hc
 clear hr0
 obtain ⟨L, hL⟩ : ∃ L, l.length = L := ⟨_, rfl⟩
 rw [hL] at HR0 hc hl ⊢
 replace hL := Aside0.mk hL
 refine (callsIn_wide (n := 4)).1 ?_
 refine callsIn_of_wp_marks Tryd.func21 rfl trivial ?_ rfl
 refine wpIn_wide.2 ?_
 simp only [Tryd.ntmps21, List.size_toArray, List.length_cons, List.length_nil, Nat.reduceAdd, Nat.reduceSub, Array.replicate_succ, Array.replicate_zero, List.push_toArray, List.append_toArray, List.nil_append, List.cons_append]
 by_cases h1 : i < 0
 ·have d1 : decide (i < 0) = true := decide_eq_true h1
  have hv : verifyF root n i s l = false := by unfold verifyF; rw [if_pos h1]
  clear h1
  go_wp2
  exact ⟨.bool false, by simp [results, Tryd.results21, go_sem], by rw [hv], Below.refl _ _⟩
 ·have d1 : decide (i < 0) = false := decide_eq_false h1
  by_cases h2 : n ≤ i
  ·have d2 : decide (n ≤ i) = true := decide_eq_true h2
   have hv : verifyF root n i s l = false := by unfold verifyF; rw [if_neg h1, if_pos h2]
   clear h1 h2
   go_wp2
   exact ⟨.bool false, by simp [results, Tryd.results21, go_sem], by rw [hv], Below.refl _ _⟩
  ·have d2 : decide (n ≤ i) = false := decide_eq_false h2
   have HI := Aside0.mk h1
   have HN := Aside0.mk h2
   clear h1 h2
   obtain ⟨b, hb⟩ : ∃ b, all32 l = b := ⟨_, rfl⟩
   have hfa : digest_all.f l = some b := by rw [← hb]; rfl
   replace hfa := Aside0.mk hfa
   replace hb := Aside0.mk hb
   have HA : ∀ b, digest_all.f l = some b → Calls Tryd.prog 45 #[.slice A L c] w fun e w' => e = .returned (.bool b) ∧ Drawn0 w w' := by
    intro b h
    have := digest_all.calls A c l b w (by rw [hL.out]; exact HR0.out) (by rw [hL.out]; exact hc) h
    rwa [hL.out] at this
   replace HA := Aside0.mk HA
   cases b
   ·go_wp2_with (go_at_call 45; refine (HA.out false hfa.out).mono ?_; rintro e w' ⟨rfl, hd⟩)
    have hv : verifyF root n i s l = false := by unfold verifyF; rw [if_neg (by have := HI.out; omega), if_neg (by have := HN.out; omega), if_pos hb.out]
    exact ⟨.bool false, by simp [results, Tryd.results21, go_sem], by rw [hv], hd.below⟩
   ·go_wp2_with (go_at_call 45; refine (HA.out true hfa.out).mono ?_; rintro e w' ⟨rfl, hd⟩)
    have hv : verifyF root n i s l = endV root s (descF l.reverse n.toNat i.toNat []) := by unfold verifyF; rw [if_neg (by have := HI.out; omega), if_neg (by have := HN.out; omega), if_neg (by rw [hb.out]; simp)]
    obtain ⟨D, hD⟩ : ∃ D, descF l.reverse n.toNat i.toNat [] = D := ⟨_, rfl⟩
    rw [hD] at hv
    replace hv := Aside0.mk hv
    replace hD := Aside0.mk hD
    have hall : ∀ y ∈ l, y.size = 32 := by
     intro y hy
     have := hb.out
     unfold all32 at this
     rw [List.all_eq_true] at this
     have := this y hy
     simp at this
     omega
    replace hall := Aside0.mk hall
    obtain ⟨n', hn'⟩ : ∃ n' : Nat, n = n' := ⟨n.toNat, by have := HI.out; have := HN.out; omega⟩
    obtain ⟨i', hi'⟩ : ∃ i' : Nat, i = i' := ⟨i.toNat, by have := HI.out; omega⟩
    subst hn'
    subst hi'
    have hin : i' < n' := by have := HN.out; omega
    replace hin := Aside0.mk hin
    replace hni := Aside0.mk hni
    have hBw := Aside0.mk hd.below
    clear hd HI HN HA hfa hb d1 d2
    obtain ⟨i58, hi58, h581, h582, h583⟩ := info_parts info58
    go_loopw [1, 2, 4, 11] (fun v1 v2 v4 v11 w' => ∃ (n i m : Nat) (way : Way), v1 = .int .i64 (n : Int) ∧ v2 = .int .i64 (i : Int) ∧ v4 = .slice A m c ∧ Aside0 (m + way.length = L) ∧ Aside0 (i < n) ∧ Aside0 (n ≤ 9223372036854775807) ∧ Aside0 (descF (l.take m).reverse n i way = D) ∧ Aside0 (∀ p ∈ way, p.1.size = 32) ∧ Aside0 (w'.ownsRow w.heap.size 58 2 v11 way.length (flat way.reverse)) ∧ Aside0 (Below w.heap.size w w')) (fun v _ _ _ _ => (intOf v).toNat)
    case atStart => exact ⟨n', i', L, [], rfl, rfl, rfl, ⟨rfl⟩, hin, ⟨by have := hni.out; omega⟩, ⟨by rw [List.take_of_length_le (by rw [hL.out]; exact Nat.le_refl _)]; have := hD.out; simpa using this⟩, ⟨fun p hp => by cases hp⟩, ⟨World.ownsRow_nil _ _ _ _⟩, hBw⟩
    case round =>
     clear hBw hin hni hD
     obtain ⟨n, i, m, way, rfl, rfl, rfl, hmw, hin, hn63, hdf, hw32, OW, HB⟩ := hrel
     by_cases h2 : 1 < n
     ·have e1 : decide ((1 : Int) < (n : Int)) = true := decide_eq_true (by omega)
      cases m with
      | zero =>
       have hD0 : D = none := by
        rw [← hdf.out]
        simp [descF]
        omega
       have hv0 : verifyF root n' i' s l = false := by rw [hv.out, hD0]; rfl
       go_wp2_with (go_at_call 46; refine (take_nil _ _ _).mono ?_; rintro e w1 ⟨rfl, hd1⟩)
       exact ⟨.bool false, by simp [results, Tryd.results21, go_sem], by rw [hv0], below_then HB.out HB.out.size hd1.below⟩
      | succ m =>
       have hmL : m + 1 ≤ L := by have := hmw.out; omega
       obtain ⟨x, hx⟩ : ∃ x, l[m]? = some x := ⟨_, List.getElem?_eq_getElem (by rw [hL.out]; omega)⟩
       have htk : l.take (m + 1) = l.take m ++ [x] := by rw [List.take_add_one, hx]; rfl
       have hlm : (l.take m).length = m := by rw [List.length_take, hL.out]; omega
       have hCw : Kd.C Kd.string wr A (l.take m ++ [x]).length (l.take m ++ [x]) := by
        rw [← htk]
        refine Kd.C_below (Kd.C_take (by rw [hL.out]; exact HR0.out) (by rw [hL.out]; exact hmL)) HB.out
       have HT := take_snoc A c (l.take m) x wr hCw (by rw [hlm]; have := HC0.out; rw [hL.out] at this; omega)
       rw [hlm] at HT
       replace HT := Aside0.mk HT
       have hx32 : x.size = 32 := hall.out x (List.mem_of_getElem? hx)
       replace hx32 := Aside0.mk hx32
       have hdf1 := hdf.out
       rw [htk, List.reverse_append, List.reverse_singleton, List.singleton_append, descF, if_neg (by omega)] at hdf1
       replace hdf1 := Aside0.mk hdf1
       have hk := leftN_lt n (by omega) hn63.out
       have hlf : digest_left.f (n : Int) = some (leftN n : Int) := by
        unfold digest_left.f
        rw [if_pos ⟨by omega, by have := hn63.out; omega⟩]
        rfl
       obtain ⟨k, hkk⟩ : ∃ k, leftN n = k := ⟨_, rfl⟩
       rw [hkk] at hk hlf hdf1
       replace hk := Aside0.mk hk
       replace hlf := Aside0.mk hlf
       clear hdf hx htk hlm hCw hkk
       have hwl : way.length ≤ 1000000 := by have := hmw.out; omega
       replace hmw := Aside0.mk hmw.out
       by_cases hki : k ≤ i
       ·have e2 : decide ((k : Int) ≤ (i : Int)) = true := decide_eq_true (by omega)
        go_upto_region 8 with (go_at_call 46; refine HT.out.mono ?_; rintro e w1 ⟨rfl, hd1⟩)
        have OW1 := Aside0.mk (own_keep2 OW.out hd1.below)
        have HB1 := Aside0.mk (below_then HB.out HB.out.size hd1.below)
        clear OW HB hd1 HT
        go_upto_region 10 with (go_at_call 40; refine (digest_left.calls _ _ _ hlf.out).mono ?_; rintro e w2 ⟨rfl, ⟨q, rfl⟩⟩)
        have OW2 := Aside0.mk (own_keep2 OW1.out (pw_below_drewN (Below.refl _ w1) q))
        have HB2 := Aside0.mk (below_then HB1.out HB1.out.size (pw_below_drewN (Below.refl _ w1) q))
        clear OW1 HB1
        generalize w1.drewN q = w2 at OW2 HB2 ⊢
        refine wp_region_list ?_
        iterate 7 (go_step; go_simp; rename_i hK; refine hK _ _ ?_; clear hK)
        have O1 := OW2.out.alloc (.cells #[Value.string x, Value.bool true] 58)
        have B1 := below_alloc' HB2.out HB2.out.size (.cells #[Value.string x, Value.bool true] 58)
        refine wpList_append_own _ rfl (.tmp 44) (.tmp 50) 54 rfl w.heap.size 58 i58 (.agg #[.string ⟨#[]⟩, .bool false]) 2 24 Tryd.underlying54 hi58 h581 h582 h583 rfl (by decide) _ way.length (flat way.reverse) rfl O1 ⟨w2.heap.size, 0, none⟩ 1 1 [Value.string x, Value.bool true] rfl rfl two_of_block (by simp [Value.oneCell']) (by unfold maxLen; omega) (by omega) B1.size ?_
        intro v51 w3 o3 hg3 _
        have HB3 := Aside0.mk (B1.grown hg3 B1.size (fun k e => (OW2.out.lt k e).1))
        rw [show flat way.reverse ++ [Value.string x, Value.bool true] = flat ((x, true) :: way).reverse by rw [List.reverse_cons, flat_append]; rfl] at o3
        have OW3 := Aside0.mk o3
        clear o3 hg3 B1 O1 OW2 HB2
        have q1 : IntKind.i64.wrap ((n : Int) - (k : Int)) = ((n - k : Nat) : Int) := by have := hk.out; have := hn63.out; rw [IntKind.wrap_i64]; omega
        have q2 : IntKind.i64.wrap ((i : Int) - (k : Int)) = ((i - k : Nat) : Int) := by have := hk.out; have := hn63.out; have := hin.out; rw [IntKind.wrap_i64]; omega
        obtain ⟨nk, hnk⟩ : ∃ nk, n - k = nk := ⟨_, rfl⟩
        obtain ⟨ik, hik⟩ : ∃ ik, i - k = ik := ⟨_, rfl⟩
        rw [hnk] at q1
        rw [hik] at q2
        replace hnk := Aside0.mk hnk
        replace hik := Aside0.mk hik
        go_step
        go_simp
        rename_i hK
        refine hK _ _ ?_
        clear hK
        go_wp2_with fail
        have hkk' := hk.out
        have hin' := hin.out
        have hmw' := hmw.out
        have hn' := hn63.out
        have hnk' := hnk.out
        have hik' := hik.out
        refine ⟨⟨nk, ik, m, (x, true) :: way, rfl, rfl, rfl, ⟨by rw [List.length_cons]; omega⟩, ⟨by omega⟩, ⟨by omega⟩, ⟨by
         have := hdf1.out
         rw [if_pos hki] at this
         rw [hnk', hik'] at this
         exact this⟩, ⟨fun p hp => by
         rcases List.mem_cons.1 hp with rfl | hp
         ·exact hx32.out
         ·exact hw32.out p hp⟩, OW3, HB3⟩, ?_⟩
        simp only [intOf]
        omega
       ·have e2 : decide ((k : Int) ≤ (i : Int)) = false := decide_eq_false (by omega)
        go_upto_region 8 with (go_at_call 46; refine HT.out.mono ?_; rintro e w1 ⟨rfl, hd1⟩)
        have OW1 := Aside0.mk (own_keep2 OW.out hd1.below)
        have HB1 := Aside0.mk (below_then HB.out HB.out.size hd1.below)
        clear OW HB hd1 HT
        go_upto_region 10 with (go_at_call 40; refine (digest_left.calls _ _ _ hlf.out).mono ?_; rintro e w2 ⟨rfl, ⟨q, rfl⟩⟩)
        have OW2 := Aside0.mk (own_keep2 OW1.out (pw_below_drewN (Below.refl _ w1) q))
        have HB2 := Aside0.mk (below_then HB1.out HB1.out.size (pw_below_drewN (Below.refl _ w1) q))
        clear OW1 HB1
        generalize w1.drewN q = w2 at OW2 HB2 ⊢
        refine wp_region_list ?_
        iterate 7 (go_step; go_simp; rename_i hK; refine hK _ _ ?_; clear hK)
        have O1 := OW2.out.alloc (.cells #[Value.string x, Value.bool false] 58)
        have B1 := below_alloc' HB2.out HB2.out.size (.cells #[Value.string x, Value.bool false] 58)
        refine wpList_append_own _ rfl (.tmp 44) (.tmp 50) 54 rfl w.heap.size 58 i58 (.agg #[.string ⟨#[]⟩, .bool false]) 2 24 Tryd.underlying54 hi58 h581 h582 h583 rfl (by decide) _ way.length (flat way.reverse) rfl O1 ⟨w2.heap.size, 0, none⟩ 1 1 [Value.string x, Value.bool false] rfl rfl two_of_block (by simp [Value.oneCell']) (by unfold maxLen; omega) (by omega) B1.size ?_
        intro v51 w3 o3 hg3 _
        have HB3 := Aside0.mk (B1.grown hg3 B1.size (fun k e => (OW2.out.lt k e).1))
        rw [show flat way.reverse ++ [Value.string x, Value.bool false] = flat ((x, false) :: way).reverse by rw [List.reverse_cons, flat_append]; rfl] at o3
        have OW3 := Aside0.mk o3
        clear o3 hg3 B1 O1 OW2 HB2
        go_step
        go_simp
        rename_i hK
        refine hK _ _ ?_
        clear hK
        go_wp2_with fail
        have hkk' := hk.out
        have hin' := hin.out
        have hmw' := hmw.out
        have hn' := hn63.out
        
        
        refine ⟨⟨k, i, m, (x, false) :: way, rfl, rfl, rfl, ⟨by rw [List.length_cons]; omega⟩, ⟨by omega⟩, ⟨by omega⟩, ⟨by
         have := hdf1.out
         rw [if_neg hki] at this
         skip
         exact this⟩, ⟨fun p hp => by
         rcases List.mem_cons.1 hp with rfl | hp
         ·exact hx32.out
         ·exact hw32.out p hp⟩, OW3, HB3⟩, ?_⟩
        simp only [intOf]
        omega
     ·have e1 : decide ((1 : Int) < (n : Int)) = false := decide_eq_false (by omega)
      have hmL : m ≤ L := by have := hmw.out; omega
      have hlm : (l.take m).length = m := by rw [List.length_take, hL.out]; omega
      have hDw : D = some (way, (l.take m).reverse) := by
       rw [← hdf.out]
       cases (l.take m).reverse with
       | nil => rw [descF, if_pos (by omega)]
       | cons y r => rw [descF, if_pos (by omega)]
      have hv1 : verifyF root n' i' s l = (decide (m = 0) && (upF way (leafF s) == root)) := by
       rw [hv.out, hDw]
       show ((l.take m).reverse.isEmpty && _) = _
       congr 1
       cases m with
       | zero => rfl
       | succ m =>
        have : (l.take (m + 1)).reverse ≠ [] := fun e => by
         have := congrArg List.length e
         rw [List.length_reverse, hlm] at this
         simp at this
        cases h : (l.take (m + 1)).reverse with
        | nil => exact absurd h this
        | cons y r => rfl
      replace hv1 := Aside0.mk hv1
      clear hDw hlm hdf hv
      have hwl : way.length ≤ 1000000 := by have := hmw.out; omega
      have hss : s.size ≤ 549755813888 := hs
      go_upto_region 15 with (go_at_call 29; refine (leaf_calls s _ (hG_.below HB.out) hs).mono ?_; rintro e w1 ⟨rfl, hb1⟩)
      obtain ⟨Aw, cw, gw, huw, hAw, hgw, hcw⟩ : ∃ Aw cw gw, u11 = .slice Aw way.length cw ∧ (0 < way.length → Aw = some ⟨gw, 0, none⟩) ∧ gw < wr.heap.size ∧ backDR way.reverse gw 0 wr := by
       have h := OW.out
       obtain ⟨_, ⟨h1, h2⟩ | ⟨g, cap, cur, h1, hb, hg, _⟩⟩ := h
       ·have hw0 : way = [] := List.eq_nil_of_length_eq_zero h2
        refine ⟨none, 0, 0, by rw [h1, h2], fun h => by omega, ?_, ?_⟩
        ·obtain ⟨_, _, h'⟩ := hG_
         have := (Array.getElem?_eq_some_iff.1 h').1
         have := HB.out.size
         omega
        ·intro j y hy
         rw [hw0] at hy
         simp at hy
       ·refine ⟨_, cap, g, h1, fun _ => rfl, (Array.getElem?_eq_some_iff.1 hg).1, ?_⟩
        intro j y hy
        have h0 := OW.out
        rw [h1] at h0
        obtain ⟨f1, f2⟩ := flat_get _ j y hy
        have e1 := own_at2 h0 _ _ f1
        have e2 := own_at2 h0 _ _ f2
        rw [Nat.zero_add]
        exact ⟨e1, e2⟩
      subst huw
      clear OW
      go_wp2_with (go_at_call 47; refine (callsIn_wide.1 (backD_fn _ _ _ _)).mono ?_; rintro e w' ⟨rfl, rfl⟩)
      obtain ⟨nw, hnw⟩ : ∃ nw, way.length = nw := ⟨_, rfl⟩
      rw [hnw] at hAw hwl ⊢
      obtain ⟨W0, hW0⟩ : ∃ W0, (w1.alloc (Obj.cells #[Value.string (leafF s)] 9)).alloc (Obj.cells #[Value.slice Aw nw cw] 54) = W0 := ⟨_, rfl⟩
      have hsz0 : W0.heap.size = w1.heap.size + 2 := by rw [← hW0]; simp
      have b1 : Boxed W0 w1.heap.size 9 (.string (leafF s)) := by rw [← hW0]; exact (Boxed.new w1 _ _).alloc _
      have b2 : Boxed W0 (w1.heap.size + 1) 54 (.slice Aw nw cw) := by
       rw [← hW0]
       have := Boxed.new (w1.alloc (.cells #[Value.string (leafF s)] 9)) 54 (.slice Aw nw cw)
       rwa [World.size_alloc] at this
      have bel1 : Below w1.heap.size w1 W0 := by rw [← hW0]; exact ((Below.refl _ w1).alloc (Nat.le_refl _) _).alloc (by simp) _
      have belr : Below wr.heap.size wr W0 := below_then hb1 hb1.size bel1
      have belw : Below w.heap.size w W0 := below_then HB.out HB.out.size belr
      obtain ⟨xs, hxs⟩ : ∃ xs, way.reverse = xs := ⟨_, rfl⟩
      have hxl : xs.length = nw := by rw [← hxs, ← hnw]; simp
      rw [hxs] at hcw
      have RB : backDR xs gw 0 W0 := hcw.block (belr.block gw hgw)
      have hall2 : ∀ y ∈ xs, y.1.size = 32 := by
       intro y hy
       rw [← hxs, List.mem_reverse] at hy
       exact hw32.out y hy
      have hend : upF way (leafF s) = xs.reverse.foldl (fun out y => joinF y out) (leafF s) := by
       rw [← hxs, List.reverse_reverse]
       rfl
      have hg1 : gw < w1.heap.size := Nat.lt_of_lt_of_le hgw hb1.size
      have hgw1 : w.heap.size ≤ w1.heap.size := Nat.le_trans HB.out.size hb1.size
      have RR : Amb W0 := hG_.below belw
      replace hend := Aside0.mk hend
      rw [hW0]
      clear hW0 hcw bel1 belr HB hb1 hw32 hmw hgw hxs
      generalize w1.heap.size = gb at hsz0 b1 b2 hg1 hgw1 ⊢
      refine (wpIn_wide (n := 4)).1 ?_
      refine rangeFunc_Y rfl (by decide) (gf := 63) (lb := #[.pointer (some ⟨gb + 1, 0, none⟩)]) rfl trivial (enters_of Tryd.func63 (by kernel_rfl) rfl)
       (Z := fun _ => False) (fun k hk => hk.elim)
       (encs := fun y : Fin nw => #[.int .i64 (y.val : Int), encD (xs[y.val]'(hxl ▸ y.isLt))]) (Kp := fun A B => B.heap[gb + 1]? = A.heap[gb + 1]? ∧ B.heap[gw]? = A.heap[gw]?) (S := fun ys => ys.map Fin.val = (List.range nw).reverse) (Sp := fun _ => True) (N := nw) ?iter
       (fun h k => ⟨k.1.trans h.1, k.2.trans h.2⟩) (fun W l o hl => ⟨World.putObj_heap_other (by omega), World.putObj_heap_other (by omega)⟩) (fun _ => rfl)
       (fun pre W => Boxed W gb 9 (.string (pre.foldl (fun out y => joinF (xs[y.val]'(hxl ▸ y.isLt)) out) (leafF s))) ∧ BelowBut gb W0 W)
       (fun _ _ _ => False)
       ?ab (fun _ _ _ _ _ hs _ _ => hs)
       ⟨b1, ⟨rfl, rfl, rfl, Nat.le_refl _, fun _ _ _ => rfl⟩⟩ ?round ?done ?stop
      case iter =>
       intro l' J Jx W hW hJ hJx hY hJ0
       exact backD_in l' (gb + 1) gw 0 nw cw _ xs hxl (by omega) hAw J Jx hY W (b2.kept hW (by simp)) (RB.block (hW.block gw (by omega) (by simp))) hJ0
      case ab =>
       rintro pre W W' row ⟨hA, hB⟩ hg hrow
       have hne : ∀ r, row = some r → W0.heap.size ≤ r := fun r e => by
        rcases hrow r e with h | ⟨h, _⟩
        ·exact h.elim
        ·exact h
       refine ⟨hA.kept hg (fun e => by have := hne gb e.symm; omega), ⟨hg.os.trans hB.os, hg.tape.trans hB.tape, hg.output.trans hB.output, Nat.le_trans hB.size hg.size, fun i hi hig => (hg.block i (Nat.lt_of_lt_of_le hi hB.size) (fun e => by have := hne i e.symm; omega)).trans (hB.block i hi hig)⟩⟩
      case round =>
       rintro l' pre y W ⟨hA, hB⟩ hlt hWs
       dsimp only
       rw [zip_two, foldl_two]
       simp only [List.setIfInBounds_toArray, List.set_cons_succ, List.set_cons_zero]
       have hys := hall2 _ (List.getElem_mem (hxl ▸ y.isLt : y.val < xs.length))
       obtain ⟨p, hp⟩ : ∃ p, xs[y.val]'(hxl ▸ y.isLt) = p := ⟨_, rfl⟩
       rw [hp] at hys ⊢
       replace hp := Aside0.mk hp
       obtain ⟨x1, x2⟩ := p
       unfold encD
       dsimp only at hys ⊢
       gi_wp2
       have hgbW : gb < W.heap.size := hA.lt
       have hqW : gb + 1 < W.heap.size := by omega
       have hgwW : gw < W.heap.size := by omega
       refine ⟨⟨below_alloc (Below.refl _ _) _, ⟨hA.alloc _, ⟨hB.os, hB.tape, hB.output, Nat.le_trans hB.size (by simp), fun i hi hig => ((below_alloc (Below.refl W.heap.size W) _).block i (by omega)).trans (hB.block i hi hig)⟩⟩, (below_alloc (Below.refl W.heap.size W) _).block _ hqW, (below_alloc (Below.refl W.heap.size W) _).block _ hgwW⟩, ?_⟩
       rintro V hV ⟨hA', hB'⟩
       have hbox : V.heap[W.heap.size]? = some (.cells #[Value.string x1, Value.bool x2] 58 (0, 0)) := (hV.block W.heap.size (by simp) (by simp; omega)).trans (heap_alloc_new ..)
       have hb0 : V.cell? ⟨W.heap.size, 0, none⟩ = some (.string x1) := by simp [World.cell?, hbox]
       have hb1 : V.cell? ⟨W.heap.size, 1, none⟩ = some (.bool x2) := by simp [World.cell?, hbox]
       obtain ⟨out, hout⟩ : ∃ out, pre.foldl (fun out y => joinF (xs[y.val]'(hxl ▸ y.isLt)) out) (leafF s) = out := ⟨_, rfl⟩
       have hos : out.size = 32 := by rw [← hout]; exact jfold_size (fun y : Fin nw => xs[y.val]'(hxl ▸ y.isLt)) pre _ (sumF_size _)
       rw [hout] at hA'
       have hc := hA'.cell
       have hRV : Amb V := by
        obtain ⟨t, fr, h⟩ := RR
        have hlt0 : 0 < gb := by
         obtain ⟨_, _, h'⟩ := hG_
         have := (Array.getElem?_eq_some_iff.1 h').1
         omega
        exact ⟨t, fr, (hB'.block _ (by omega) (by omega)).trans h⟩
       have hF : Fence.wide.fn 48 := trivial
       clear hbox hV
       gi_wp2_with fail
       refine CallsIn.mono (CallsIn.inRound _ (callsIn_wide.2 (side_join_calls x1 x2 out V hRV (by omega)))) ?_
       rintro e w' ⟨rfl, hb'⟩
       have hgbV : gb < V.heap.size := hA'.lt
       have hA2 : Boxed w' gb 9 (.string out) := (hb'.block gb hgbV).trans hA'
       have hc' := hA2.cell
       have hf' := hA2.frozen
       clear hb0 hb1
       gi_wp2_with fail
       have hq : gb + 1 < V.heap.size := Nat.lt_of_lt_of_le (by omega) hB'.size
       have hq3 : gw < V.heap.size := Nat.lt_of_lt_of_le (by omega) hB'.size
       have G := grownBy_setCell' w' gb (.string (joinF (x1, x2) out))
       have T1 : ∀ i, i < V.heap.size → i ≠ gb → (w'.setCell ⟨gb, 0, none⟩ (.string (joinF (x1, x2) out))).heap[i]? = V.heap[i]? := fun i hi hig => (G.block i (Nat.lt_of_lt_of_le hi hb'.size) (fun e => hig (by injection e))).trans (hb'.block i hi)
       have hset := hA2.set (.string (joinF (x1, x2) out))
       refine ⟨⟨Nat.le_trans hb'.size G.size, fun k o hk ho _ => (T1 k (Array.getElem?_eq_some_iff.1 ho).1 (by omega)).trans ho⟩, ⟨T1 _ hq (by omega), T1 _ hq3 (by omega)⟩, ?_, ⟨G.os.trans (hb'.os.trans hB'.os), G.tape.trans (hb'.tape.trans hB'.tape), G.output.trans (hb'.output.trans hB'.output), Nat.le_trans hB'.size (Nat.le_trans hb'.size G.size), fun i hi hig => (T1 i (Nat.lt_of_lt_of_le hi hB'.size) hig).trans (hB'.block i hi hig)⟩⟩
       rw [List.foldl_append, hout]
       show Boxed _ gb 9 (.string (joinF (xs[y.val]'(hxl ▸ y.isLt)) out))
       rw [hp.out]
       exact hset
      case done =>
       rintro D ys W hD hys ⟨hA, hB⟩ hK
       have hfin := fold_rev xs hxl ys hys joinF (leafF s)
       rw [hfin, ← hend.out] at hA
       have hc := hA.cell
       have t1 : Below w.heap.size w W := ⟨hB.os.trans belw.os, hB.tape.trans belw.tape, hB.output.trans belw.output, Nat.le_trans belw.size hB.size, fun i hi => (hB.block i (by omega) (by omega)).trans (belw.block i hi)⟩
       have t2 := Aside0.mk (t1.trans (belowK_b (w := W0) (o' := .deferred none) belw.size W D _ hD hK rfl rfl))
       have hv2 := hv1.out
       rw [beq_toListBytes] at hv2
       dsimp only [Exit.inBlock, Exit.then]
       by_cases hm0 : m = 0
       ·subst hm0
        rw [decide_eq_true rfl, Bool.true_and] at hv2
        replace hv2 := Aside0.mk hv2
        go_wp2_with fail
        refine ⟨by simp, .inl ⟨_, _, rfl, run_takeDeferred hK, ?_⟩⟩
        exact ⟨.bool ((upF way (leafF s)).toList == root.toList), by simp [results, Tryd.results21, go_sem], by rw [hv2.out], t2.out⟩
       ·rw [decide_eq_false hm0, Bool.false_and] at hv2
        replace hv2 := Aside0.mk hv2
        have dm : ((m : Int) == 0) = false := beq_eq_false_iff_ne.mpr (by omega)
        go_wp2_with fail
        refine ⟨by simp, .inl ⟨_, _, rfl, run_takeDeferred hK, ?_⟩⟩
        exact ⟨.bool false, by simp [results, Tryd.results21, go_sem], by rw [hv2.out], t2.out⟩
      case stop =>
       rintro D c pre W _ _ h _
       exact h.elim
end Go.Proofs.YtjkdenldddjcnaaDoor.Sha

set_option linter.unusedVariables false
set_option linter.unusedSimpArgs false
namespace Go.Proofs.YtjkdenldddjcnaaDoor.Sha
open Go Go.RowKit Go.Shelf Go.Proofs.YtjkdenldddjcnaaDoor.Rf Go.Proofs.YtjkdenldddjcnaaDoorW.PrintWords Go.Proofs.YtjkdenldddjcnaaDoorW.PrintLast Go.Proofs.YtjkdenldddjcnaaDoorW.PrintMore
def SE (ad : Addr) (y : ByteArray) (g1 g2 : Nat) (W : World) : Prop :=
 W.cell? ad = some (.string y) ∧ (∃ u, Boxed W g1 9 (.string u)) ∧ (∃ u, Boxed W g2 9 (.string u)) ∧ ad.block ≠ g1 ∧ ad.block ≠ g2 ∧ g1 ≠ g2
theorem SE.drew {ad : Addr} {y : ByteArray} {g1 g2 : Nat} {W : World} (h : SE ad y g1 g2 W) : SE ad y g1 g2 W.drew := h
theorem cell_other {W : World} {a : Addr} {q : Nat} {v : Value} (h : a.block ≠ q) : (W.setCell ⟨q, 0, none⟩ v).cell? a = W.cell? a :=
 World.cell?_of_block (Below.heap_setCell _ _ _ _ h)
theorem SE.set1 {ad : Addr} {y : ByteArray} {g1 g2 : Nat} {W : World} (h : SE ad y g1 g2 W) : SE ad y g1 g2 (W.setCell ⟨g1, 0, none⟩ (.string y)) := by
 obtain ⟨h1, ⟨u1, b1⟩, ⟨u2, b2⟩, h4, h5, h6⟩ := h
 exact ⟨(cell_other h4).trans h1, ⟨y, b1.set _⟩, ⟨u2, b2.kept (grownBy_setCell' W g1 _) (by simp; omega)⟩, h4, h5, h6⟩
theorem SE.set2 {ad : Addr} {y : ByteArray} {g1 g2 : Nat} {W : World} (h : SE ad y g1 g2 W) : SE ad y g1 g2 (W.setCell ⟨g2, 0, none⟩ (.string y)) := by
 obtain ⟨h1, ⟨u1, b1⟩, ⟨u2, b2⟩, h4, h5, h6⟩ := h
 exact ⟨(cell_other h5).trans h1, ⟨u1, b1.kept (grownBy_setCell' W g2 _) (by simp; omega)⟩, ⟨y, b2.set _⟩, h4, h5, h6⟩
theorem add_zero (ad : Addr) : ad.add 0 = ad := by
 cases ad
 unfold Addr.add
 split <;> simp_all
def vere.T23 : Bool × List (List Nat × List Nat) := (true, [([], []), ([0], [0]), ([1], [1]), ([], []), ([3], [3]), ([4], [4]), ([2, 0, 1, 2], [2]), ([5, 6, 0, 1, 2, 3, 4, 5, 6], [5]), ([7, 0, 1, 2, 3, 4, 5, 6, 7], [0, 3])])
def vere.B23 : List Nat := [0, 1, 3, 0, 8, 24, 7, 127, 255]
theorem vere.tab23 : rtab .any (opsOf Tryd.f23 23) = vere.T23 := by kernel_rfl
theorem vere.bits23 : waitsOk vere.T23.2 vere.B23 = true := by kernel_rfl
noncomputable def vereR23 : Code := ((Tryd.f23.body.bind (regionOf 23)).getD .skip)
set_option maxHeartbeats 4000000 in
set_option maxRecDepth 100000 in
theorem vere_r23 (R : Act → World → Prop) (W : World) (v0 v1 v2 v3 v5 v6 v7 v8 v9 v10 v11 v12 v13 v14 v15 v16 v19 v20 v21 v22 v23 v24 v25 v26 v27 v28 v29 v30 v31 v32 v33 v34 v35 v36 v37 v38 v39 v40 v41 v42 v43 v44 v45 v46 v47 v48 v49 v50 v51 v52 v53 v54 v55 v56 v57 v58 v59 v60 v61 v62 v63 v64 v65 v66 v67 v68 v69 v70 v71 v72 v73 v74 v75 v76 v77 v78 v79 v80 v81 v82 v83 v84 v85 v86 v87 v88 v89 v90 v91 v92 v93 v94 v95 v96 v97 v98 v99 v100 v101 v102 v103 v104 v105 v106 v107 v108 v109 v110 v111 v112 v113 v114 v115 v116 v117 v118 v119 v120 v121 v122 v123 v124 v125 v126 v127 v128 v129 v130 v131 v132 v133 v134 v135 v136 : Value) (ad : Addr) (c g1 g2 : Nat) (y a1 a2 : ByteArray)
  (hS : SE ad y g1 g2 W)
  (hQ : ∀ (z106 z107 z108 z109 z110 z111 : Value), R ⟨#[v0, v1, v2, v3, Value.slice none 0 0, v5, v6, v7, v8, v9, v10, v11, v12, v13, v14, v15, v16, Value.pointer (some ⟨g1, 0, none⟩), Value.pointer (some ⟨g2, 0, none⟩), v19, v20, v21, v22, v23, v24, v25, v26, v27, v28, v29, v30, v31, v32, v33, v34, v35, v36, v37, v38, v39, v40, v41, v42, v43, v44, v45, v46, v47, v48, v49, v50, v51, v52, v53, v54, v55, v56, v57, v58, v59, v60, v61, v62, v63, v64, v65, v66, v67, v68, v69, v70, v71, v72, v73, v74, v75, v76, v77, v78, v79, v80, v81, v82, v83, v84, v85, v86, v87, v88, v89, v90, v91, v92, v93, v94, v95, v96, v97, v98, v99, v100, v101, v102, v103, v104, v105, z106, z107, z108, z109, z110, z111, v112, v113, v114, v115, v116, v117, v118, v119, v120, v121, v122, v123, v124, v125, v126, v127, v128, v129, v130, v131, v132, v133, v134, v135, v136], []⟩ ((W.drew.setCell ⟨g1, 0, none⟩ (.string y)).setCell ⟨g2, 0, none⟩ (.string y))) :
  vereR23.wp Tryd.prog (Norm R) ⟨#[v0, v1, v2, v3, Value.slice (some ad) 1 c, v5, v6, v7, v8, v9, v10, v11, v12, v13, v14, v15, v16, Value.pointer (some ⟨g1, 0, none⟩), Value.pointer (some ⟨g2, 0, none⟩), v19, v20, v21, v22, v23, v24, v25, v26, v27, v28, v29, v30, v31, v32, v33, v34, v35, v36, v37, v38, v39, v40, v41, v42, v43, v44, v45, v46, v47, v48, v49, v50, v51, v52, v53, v54, v55, v56, v57, v58, v59, v60, v61, v62, v63, v64, v65, v66, v67, v68, v69, v70, v71, v72, v73, v74, v75, v76, v77, v78, v79, v80, v81, v82, v83, v84, v85, v86, v87, v88, v89, v90, v91, v92, v93, v94, v95, v96, v97, v98, v99, v100, v101, v102, v103, v104, v105, v106, v107, v108, v109, v110, v111, v112, v113, v114, v115, v116, v117, v118, v119, v120, v121, v122, v123, v124, v125, v126, v127, v128, v129, v130, v131, v132, v133, v134, v135, v136], []⟩ W := by
 unfold vereR23
 conv => arg 2; whnf
 refine start_ (n := 9) (S := SE ad y g1 g2) (ds := []) #[false, false, false, false, false, false, false, false, false] (by kernel_rfl) rfl rfl (SE.drew hS) (fun hHeld => ?_); refine with_tabW vere.tab23 vere.bits23 (fun HT_ HW_ => ?_)
 refine pure_ (i := 0) (N := some 106) (v := ?_) (a' := ?_) #[true, false, false, false, false, false, false, false, false] rfl rfl (any_of HT_.out (by kernel_rfl)) (fun _ _ _ h => h) (Or.inl ⟨by rfl, ?_⟩) ?_ ?_
 rotate_left
 ·intro w'
  go_simp
  with_reducible rfl
 rotate_left
 ·simp only [Act.put, List.setIfInBounds_toArray, List.set_cons_zero, List.set_cons_succ, i64_w, i32_w]
  rfl
 refine pure_ (i := 1) (N := some 107) (v := ?_) (a' := ?_) #[true, true, false, false, false, false, false, false, false] rfl rfl (any_of HT_.out (by kernel_rfl)) (fun _ _ _ h => h) (Or.inl ⟨by rfl, ?_⟩) ?_ ?_
 rotate_left
 ·intro w'
  go_simp
  with_reducible rfl
 rotate_left
 ·simp only [Act.put, List.setIfInBounds_toArray, List.set_cons_zero, List.set_cons_succ, i64_w, i32_w]
  rfl
 refine pure_ (i := 3) (N := some 109) (v := ?_) (a' := ?_) #[true, true, false, true, false, false, false, false, false] rfl rfl (any_of HT_.out (by kernel_rfl)) (fun _ _ _ h => h) (Or.inl ⟨by rfl, ?_⟩) ?_ ?_
 rotate_left
 ·intro w'
  go_simp
  with_reducible rfl
 rotate_left
 ·simp only [Act.put, List.setIfInBounds_toArray, List.set_cons_zero, List.set_cons_succ, i64_w, i32_w]
  rfl
 refine pure_ (i := 4) (N := some 110) (v := ?_) (a' := ?_) #[true, true, false, true, true, false, false, false, false] rfl rfl (any_of HT_.out (by kernel_rfl)) (fun _ _ _ h => h) (Or.inl ⟨by rfl, ?_⟩) ?_ ?_
 rotate_left
 ·intro w'
  go_simp
  with_reducible rfl
 rotate_left
 ·simp only [Act.put, List.setIfInBounds_toArray, List.set_cons_zero, List.set_cons_succ, i64_w, i32_w]
  rfl
 refine take_ (i := 2) (N := some 108) (v := ?_) (a' := ?_) #[true, true, true, true, true, false, false, false, false] rfl rfl (take_ofW HT_.out HW_.out (by kernel_rfl)) (fun _ _ _ h => h) (Or.inl ⟨by rfl, ?_⟩) hHeld ?_ ?_
 rotate_left
 ·intro w' hS_
  have c_ := hS_.1
  go_simp
  with_reducible rfl
 rotate_left
 ·simp only [Act.put, List.setIfInBounds_toArray, List.set_cons_zero, List.set_cons_succ, i64_w, i32_w]
  rfl
 refine take_ (i := 5) (N := some 111) (v := ?_) (a' := ?_) #[true, true, true, true, true, true, false, false, false] rfl rfl (take_ofW HT_.out HW_.out (by kernel_rfl)) (fun _ _ _ h => h) (Or.inl ⟨by rfl, ?_⟩) hHeld ?_ ?_
 rotate_left
 ·intro w' hS_
  have c_ := hS_.1
  go_simp
  with_reducible rfl
 rotate_left
 ·simp only [Act.put, List.setIfInBounds_toArray, List.set_cons_zero, List.set_cons_succ, i64_w, i32_w]
  rfl
 refine one_ (i := 6) (N := none) #[true, true, true, true, true, true, true, false, false] rfl rfl (one_of HT_.out (by kernel_rfl)) (by decide) (fun K hK => ?_)
 obtain ⟨u1_, b1_⟩ := hHeld.2.1
 have c1_ := b1_.cell
 have f1_ := b1_.frozen
 refine skip_ (w1 := ?_) (by rfl) rfl ?_ ?_
 rotate_left
 ·go_simp
  rfl
 refine hK.out _ _ (SE.set1 hHeld) (fun hHeld => ?_)
 clear hK K f1_ c1_ b1_
 refine one_ (i := 7) (N := none) #[true, true, true, true, true, true, true, true, false] rfl rfl (one_of HT_.out (by kernel_rfl)) (by decide) (fun K hK => ?_)
 obtain ⟨u2_, b2_⟩ := hHeld.2.2.1
 have c2_ := b2_.cell
 have f2_ := b2_.frozen
 refine skip_ (w1 := ?_) (by rfl) rfl ?_ ?_
 rotate_left
 ·go_simp
  rfl
 refine hK.out _ _ (SE.set2 hHeld) (fun hHeld => ?_)
 clear hK K f2_ c2_ b2_
 refine pure_ (i := 8) (N := some 4) (v := ?_) (a' := ?_) #[true, true, true, true, true, true, true, true, true] rfl rfl (any_of HT_.out (by kernel_rfl)) (fun _ _ _ h => h) (Or.inl ⟨by rfl, ?_⟩) ?_ ?_
 rotate_left
 ·intro w'
  go_simp
  with_reducible rfl
 rotate_left
 ·simp only [Act.put, List.setIfInBounds_toArray, List.set_cons_zero, List.set_cons_succ, i64_w, i32_w]
  rfl
 refine done_ (done_of HT_.out (by kernel_rfl)) ?_
 exact hQ _ _ _ _ _ _
end Go.Proofs.YtjkdenldddjcnaaDoor.Sha

namespace Go.Proofs.YtjkdenldddjcnaaDoor.Df
open Go.RowKit Go.Proofs.YtjkdenldddjcnaaDoor.Sha Go.Proofs.YtjkdenldddjcnaaDoorW.PrintWords Go.Proofs.YtjkdenldddjcnaaDoorW.PrintLast Go.Proofs.YtjkdenldddjcnaaDoorW.PrintMore
attribute [local go_sem] max2_int min2_int max_two min_two max_three min_three max_four min_four   -- for this text's walks alone
set_option linter.unusedVariables false
set_option linter.unusedSimpArgs false

/-! ### clearwaylaw02_few: function 13 -/
def clearwaylaw02_few.l0 : Nat → List ByteArray → Int → List ByteArray → Int → Option (List ByteArray)
 | 0, _, _, _, _ => none
 | k + 1, x0, x1, x5, x6 => if x6 < (x0.length : Int) then (if x6 < x1 then (if 0 ≤ x6 then (if 0 ≤ (mn ((rdOf ByteArray.empty x0 x6).size : Int) 60) then (if (mn ((rdOf ByteArray.empty x0 x6).size : Int) 60) ≤ ((rdOf ByteArray.empty x0 x6).size : Int) then (if x5.length < 8796093022208 then (clearwaylaw02_few.l0 k x0 x1 (x5 ++ [(rdOf ByteArray.empty x0 x6).extract 0 ((mn ((rdOf ByteArray.empty x0 x6).size : Int) 60) : Int).toNat]) (wrap64 (x6 + 1))) else (none)) else (none)) else (none)) else (none)) else (some x5)) else (some x5)
def clearwaylaw02_few.f (k : Nat) (l0 : List ByteArray) (a1 : Int) : Option (List ByteArray) := clearwaylaw02_few.l0 k l0 a1 ([] : List ByteArray) 0
def clearwaylaw02_few.T5 : Bool × List (List Nat × List Nat) := (true, [([], []), ([], []), ([], []), ([1, 2], [1, 2]), ([3], [3]), ([], []), ([], []), ([5, 6], [5, 6]), ([7], [7]), ([8], [8]), ([9], [9]), ([4, 10], [4, 10]), ([11], [11]), ([0, 12], [0, 12]), ([13, 13, 0, 1, 2, 3, 4, 5, 6, 7, 8, 9, 10, 11, 12, 13], [0, 13])])
def clearwaylaw02_few.B5 : List Nat := [0, 0, 0, 6, 14, 0, 0, 96, 224, 480, 992, 2046, 4094, 8191, 16383]
theorem clearwaylaw02_few.tab5 : rtab .any (opsOf Tryd.f13 5) = clearwaylaw02_few.T5 := by kernel_rfl
theorem clearwaylaw02_few.bits5 : waitsOk clearwaylaw02_few.T5.2 clearwaylaw02_few.B5 = true := by kernel_rfl
set_option maxHeartbeats 8000000 in
set_option maxRecDepth 100000 in
theorem clearwaylaw02_few.calls (k : Nat) (A0 : Option Addr) (c0 : Nat) (l0 : List ByteArray) (a1 : Int) (r : List ByteArray) (w : World) (hr0 : Kd.C Kd.string w A0 l0.length l0) (hc0 : l0.length ≤ c0) (h : clearwaylaw02_few.f k l0 a1 = some r) :
  Calls Tryd.prog 13 #[.slice A0 l0.length c0, .int .i64 a1] w fun e w' => ∃ v0_ : Value, e = .returned (v0_) ∧ Kd.R Kd.string 9 w' w.heap.size (fun _ => True) v0_ r ∧ Below w.heap.size w w' := by
 have HR0 := Aside0.mk hr0
 have HC0 := Aside0.mk hc0
 clear hr0 hc0
 have HB := Aside0.mk (Below.refl w.heap.size w)
 have H : (clearwaylaw02_few.l0 k l0 a1 ([] : List ByteArray) 0) = some r := h
 clear h
 have H' := Aside0.mk H
 clear H
 go_enter Tryd.func13, Tryd.ntmps13
 go_wp2
 go_loopg [5, 6] k (fun kq v5 v6 w' => ∃ (x5_1 : List ByteArray) (x6_1 : Int), v6 = .int .i64 x6_1 ∧ Aside0 (clearwaylaw02_few.l0 kq l0 a1 x5_1 x6_1 = some r) ∧ Aside0 (kq ≤ k) ∧ Aside0 (Kd.R Kd.string 9 w' w.heap.size (fun _ => True) v5 x5_1) ∧ Aside0 (Below w.heap.size w w'))
 case atStart => exact ⟨(([] : List ByteArray)), (0), (by first | rfl | (simp; done) | (simp [*]; done)), H', ⟨Nat.le_refl _⟩, ⟨by first | exact Kd.R_nil _ _ _ _ _ | exact Kd.N_nil _ _ _ _ _ | exact Kd.V_nil _ _ _ _ _ | exact Kd.Q_nil _ _ _ _ _ | exact Kd.S_nil _ _ _ _ _⟩, ⟨by repeat (first | (with_reducible first | exact HB.out | apply below_alloc | apply pw_below_drewN | apply below_drew1) | exact HB.out)⟩⟩
 case round =>
  clear H'
  try clear c1
  try clear p2
  obtain ⟨x5_1, x6_1, rfl, HA, HK1, HO_5, HB⟩ := hrel
  cases gk with
  | zero => exact absurd HA.out (by simp [clearwaylaw02_few.l0])
  | succ k1 =>
   have H := HA.out
   clear HA
   simp only [clearwaylaw02_few.l0] at H
   by_cases c3 : x6_1 < (l0.length : Int)
   ·rw [if_pos c3] at H
    have c3b0 : decide (x6_1 < (l0.length : Int)) = true := decide_eq_true c3
    clear c3
    by_cases c4 : x6_1 < a1
    ·rw [if_pos c4] at H
     have c4b0 : decide (x6_1 < a1) = true := decide_eq_true c4
     clear c4
     by_cases c5 : 0 ≤ x6_1
     ·rw [if_pos c5] at H
      have c5b0 : decide (0 ≤ x6_1) = true := decide_eq_true c5
      clear c5
      obtain ⟨ji6, hji6⟩ : ∃ j_ : Int, (mn ((rdOf ByteArray.empty l0 x6_1).size : Int) 60) = j_ := ⟨_, rfl⟩
      replace H : (if 0 ≤ (ji6) then (if (ji6) ≤ ((rdOf ByteArray.empty l0 x6_1).size : Int) then (if x5_1.length < 8796093022208 then (clearwaylaw02_few.l0 k1 l0 a1 (x5_1 ++ [(rdOf ByteArray.empty l0 x6_1).extract 0 ((ji6) : Int).toNat]) (wrap64 (x6_1 + 1))) else (none)) else (none)) else (none)) = some r := by first | (rw [hji6] at H; exact H) | (simp only [hji6] at H ⊢; exact H)
      have hji6_ : (if 60 < ((rdOf ByteArray.empty l0 x6_1).size : Int) then 60 else ((rdOf ByteArray.empty l0 x6_1).size : Int)) = ji6 := hji6
      by_cases c7 : 0 ≤ (ji6)
      ·rw [if_pos c7] at H
       have c7b0 := eq_true c7
       have c7b1 : decide (0 ≤ (ji6)) = true := decide_eq_true c7
       clear c7
       by_cases c8 : (ji6) ≤ ((rdOf ByteArray.empty l0 x6_1).size : Int)
       ·rw [if_pos c8] at H
        have c8b0 := eq_true c8
        have c8b1 : decide ((ji6) ≤ ((rdOf ByteArray.empty l0 x6_1).size : Int)) = true := decide_eq_true c8
        clear c8
        by_cases c9 : x5_1.length < 8796093022208
        ·rw [if_pos c9] at H
         have LMc9 := Aside0.mk c9
         clear c9
         obtain ⟨y195, hy195⟩ : ∃ y_ : List ByteArray, y_ = (x5_1 ++ [(rdOf ByteArray.empty l0 x6_1).extract 0 ((ji6) : Int).toNat]) := ⟨_, rfl⟩
         replace H : (clearwaylaw02_few.l0 k1 l0 a1 y195 (wrap64 (x6_1 + 1))) = some r := by first | (rw [hy195]; with_reducible exact H) | (have H2_ := (Option.bind_some _ _).symm.trans H; rw [hy195]; with_reducible exact H2_) | (have H2_ := (Option.bind_some _ _).symm.trans H; with_reducible exact H2_) | with_reducible exact H | (rw [hy195]; exact H) | exact H
         have Ny195 := Aside0.mk hy195
         clear hy195
         have H' := Aside0.mk H
         clear H
         try go_wp2
         have n0_ := Aside0.mk (Kd.R_drew HO_5.out)
         have n1_ := Aside0.mk (below_drew1 HB.out)
         clear HO_5
         clear HB
         have HO_5 := n0_
         have HB := n1_
         clear n0_ n1_
         have p193 : 0 ≤ (x6_1 : Int) := of_decide_eq_true (by first | (with_reducible assumption) | assumption)
         have q193 : x6_1 < (l0.length : Int) := of_decide_eq_true (by first | (with_reducible assumption) | assumption)
         obtain ⟨ad193, e193, hx193_0⟩ := Kd.at_string HR0.out x6_1 p193 q193
         have hw193_0 := hx193_0
         cases e193
         replace hx193_0 := (HB.out.cell (World.block_lt_of_cell? w _ hx193_0)).trans hx193_0
         replace p193 := eq_true p193
         replace q193 := eq_true q193
         have p194 : 0 ≤ (x6_1 : Int) := of_decide_eq_true (by first | (with_reducible assumption) | assumption)
         have q194 : x6_1 < (l0.length : Int) := of_decide_eq_true (by first | (with_reducible assumption) | assumption)
         obtain ⟨ad194, e194, hx194_0⟩ := Kd.at_string HR0.out x6_1 p194 q194
         have hw194_0 := hx194_0
         obtain rfl : ad193 = ad194 := (by injection e194)
         replace hx194_0 := (HB.out.cell (World.block_lt_of_cell? w _ hx194_0)).trans hx194_0
         replace p194 := eq_true p194
         replace q194 := eq_true q194
         refine start_ (n := 15) (S := fun w' => w'.cell? (ad193.add (x6_1).toNat) = some (.string (rdOf ByteArray.empty l0 x6_1)) ∧ w'.cell? (ad193.add (x6_1).toNat) = some (.string (rdOf ByteArray.empty l0 x6_1))) (ds := []) #[false, false, false, false, false, false, false, false, false, false, false, false, false, false, false] (by kernel_rfl) rfl rfl ⟨((HB.out.cell (World.block_lt_of_cell? w _ hw193_0)).trans hw193_0), ((HB.out.cell (World.block_lt_of_cell? w _ hw194_0)).trans hw194_0)⟩ (fun hHeld => ?_); refine with_tabW clearwaylaw02_few.tab5 clearwaylaw02_few.bits5 (fun HT_ HW_ => ?_)
         generalize wr.drew = w10 at HO_5 HB hx193_0 hx194_0 hHeld ⊢
         refine pure_ (i := 0) (N := some 18) (v := ?_) (a' := ?_) #[true, false, false, false, false, false, false, false, false, false, false, false, false, false, false] rfl rfl (any_of HT_.out (by kernel_rfl)) (fun _ _ _ h => h) (Or.inl ⟨by rfl, ?_⟩) ?_ ?_
         rotate_left
         ·intro w'
          go_simp
          with_reducible rfl
         rotate_left
         ·simp only [Act.put, List.setIfInBounds_toArray, List.set_cons_zero, List.set_cons_succ, i64_w, i32_w]
          rfl
         refine pure_ (i := 1) (N := some 19) (v := ?_) (a' := ?_) #[true, true, false, false, false, false, false, false, false, false, false, false, false, false, false] rfl rfl (any_of HT_.out (by kernel_rfl)) (fun _ _ _ h => h) (Or.inl ⟨by rfl, ?_⟩) ?_ ?_
         rotate_left
         ·intro w'
          go_simp
          with_reducible rfl
         rotate_left
         ·simp only [Act.put, List.setIfInBounds_toArray, List.set_cons_zero, List.set_cons_succ, i64_w, i32_w]
          rfl
         refine pure_ (i := 2) (N := some 20) (v := ?_) (a' := ?_) #[true, true, true, false, false, false, false, false, false, false, false, false, false, false, false] rfl rfl (any_of HT_.out (by kernel_rfl)) (fun _ _ _ h => h) (Or.inl ⟨by rfl, ?_⟩) ?_ ?_
         rotate_left
         ·intro w'
          go_simp
          with_reducible rfl
         rotate_left
         ·simp only [Act.put, List.setIfInBounds_toArray, List.set_cons_zero, List.set_cons_succ, i64_w, i32_w]
          rfl
         refine pure_ (i := 3) (N := some 21) (v := ?_) (a' := ?_) #[true, true, true, true, false, false, false, false, false, false, false, false, false, false, false] rfl rfl (any_of HT_.out (by kernel_rfl)) (fun _ _ _ h => h) (Or.inl ⟨by rfl, ?_⟩) ?_ ?_
         rotate_left
         ·intro w'
          go_simp
          with_reducible rfl
         rotate_left
         ·simp only [Act.put, List.setIfInBounds_toArray, List.set_cons_zero, List.set_cons_succ, i64_w, i32_w]
          rfl
         refine pure_ (i := 5) (N := some 23) (v := ?_) (a' := ?_) #[true, true, true, true, false, true, false, false, false, false, false, false, false, false, false] rfl rfl (any_of HT_.out (by kernel_rfl)) (fun _ _ _ h => h) (Or.inl ⟨by rfl, ?_⟩) ?_ ?_
         rotate_left
         ·intro w'
          go_simp
          with_reducible rfl
         rotate_left
         ·simp only [Act.put, List.setIfInBounds_toArray, List.set_cons_zero, List.set_cons_succ, i64_w, i32_w]
          rfl
         refine pure_ (i := 6) (N := some 24) (v := ?_) (a' := ?_) #[true, true, true, true, false, true, true, false, false, false, false, false, false, false, false] rfl rfl (any_of HT_.out (by kernel_rfl)) (fun _ _ _ h => h) (Or.inl ⟨by rfl, ?_⟩) ?_ ?_
         rotate_left
         ·intro w'
          go_simp
          with_reducible rfl
         rotate_left
         ·simp only [Act.put, List.setIfInBounds_toArray, List.set_cons_zero, List.set_cons_succ, i64_w, i32_w]
          rfl
         refine pure_ (i := 7) (N := some 25) (v := ?_) (a' := ?_) #[true, true, true, true, false, true, true, true, false, false, false, false, false, false, false] rfl rfl (any_of HT_.out (by kernel_rfl)) (fun _ _ _ h => h) (Or.inl ⟨by rfl, ?_⟩) ?_ ?_
         rotate_left
         ·intro w'
          go_simp
          with_reducible rfl
         rotate_left
         ·simp only [Act.put, List.setIfInBounds_toArray, List.set_cons_zero, List.set_cons_succ, i64_w, i32_w]
          rfl
         refine take_ (i := 4) (N := some 22) (v := ?_) (a' := ?_) #[true, true, true, true, true, true, true, true, false, false, false, false, false, false, false] rfl rfl (take_ofW HT_.out HW_.out (by kernel_rfl)) (fun _ _ _ h => h) (Or.inl ⟨by rfl, ?_⟩) hHeld ?_ ?_
         rotate_left
         ·rintro w' ⟨s0, s1⟩
          go_simp
          with_reducible rfl
         rotate_left
         ·simp only [Act.put, List.setIfInBounds_toArray, List.set_cons_zero, List.set_cons_succ, i64_w, i32_w]
          rfl
         refine take_ (i := 8) (N := some 26) (v := ?_) (a' := ?_) #[true, true, true, true, true, true, true, true, true, false, false, false, false, false, false] rfl rfl (take_ofW HT_.out HW_.out (by kernel_rfl)) (fun _ _ _ h => h) (Or.inl ⟨by rfl, ?_⟩) hHeld ?_ ?_
         rotate_left
         ·rintro w' ⟨s0, s1⟩
          go_simp
          with_reducible rfl
         rotate_left
         ·simp only [Act.put, List.setIfInBounds_toArray, List.set_cons_zero, List.set_cons_succ, i64_w, i32_w]
          rfl
         refine pure_ (i := 9) (N := some 27) (v := ?_) (a' := ?_) #[true, true, true, true, true, true, true, true, true, true, false, false, false, false, false] rfl rfl (any_of HT_.out (by kernel_rfl)) (fun _ _ _ h => h) (Or.inl ⟨by rfl, ?_⟩) ?_ ?_
         rotate_left
         ·intro w'
          go_simp
          with_reducible rfl
         rotate_left
         ·simp only [Act.put, List.setIfInBounds_toArray, List.set_cons_zero, List.set_cons_succ, i64_w, i32_w]
          rfl
         refine pure_ (i := 10) (N := some 28) (v := ?_) (a' := ?_) #[true, true, true, true, true, true, true, true, true, true, true, false, false, false, false] rfl rfl (any_of HT_.out (by kernel_rfl)) (fun _ _ _ h => h) (Or.inl ⟨by rfl, ?_⟩) ?_ ?_
         rotate_left
         ·intro w'
          go_simp
          with_reducible rfl
         rotate_left
         ·simp only [Act.put, List.setIfInBounds_toArray, List.set_cons_zero, List.set_cons_succ, i64_w, i32_w]
          rfl
         refine pure_ (i := 11) (N := some 29) (v := ?_) (a' := ?_) #[true, true, true, true, true, true, true, true, true, true, true, true, false, false, false] rfl rfl (any_of HT_.out (by kernel_rfl)) (fun _ _ _ h => h) (Or.inl ⟨by rfl, ?_⟩) ?_ ?_
         rotate_left
         ·intro w'
          go_simp
          with_reducible rfl
         rotate_left
         ·simp only [Act.put, List.setIfInBounds_toArray, List.set_cons_zero, List.set_cons_succ, i64_w, i32_w]
          rfl
         refine one_ (i := 12) (N := some 30) #[true, true, true, true, true, true, true, true, true, true, true, true, true, false, false] rfl rfl (one_of HT_.out (by kernel_rfl)) (by decide) (fun K hK => ?_)
         refine value_ (w1 := ?_) (v := ?_) (by rfl) rfl ?_ ?_
         rotate_left 2
         ·go_simp
          constructor
          ·rfl
          ·rfl
         refine hK.out _ _ ⟨(World.cell?_alloc_lt _ _ _ (World.block_lt_of_cell? _ _ (((HB.out.cell (World.block_lt_of_cell? w _ hw193_0)).trans hw193_0)))).trans (((HB.out.cell (World.block_lt_of_cell? w _ hw193_0)).trans hw193_0)), (World.cell?_alloc_lt _ _ _ (World.block_lt_of_cell? _ _ (((HB.out.cell (World.block_lt_of_cell? w _ hw194_0)).trans hw194_0)))).trans (((HB.out.cell (World.block_lt_of_cell? w _ hw194_0)).trans hw194_0))⟩ (fun hHeld => ?_)
         clear hK K
         refine norm_ (a' := ?_) ?_ ?_
         rotate_left
         ·show Act.put _ (some 30) _ = _
          simp only [Act.put, List.setIfInBounds_toArray, List.set_cons_zero, List.set_cons_succ, i64_w, i32_w]
          rfl
         refine one_ (i := 13) (N := some 31) #[true, true, true, true, true, true, true, true, true, true, true, true, true, true, false] rfl rfl (one_of HT_.out (by kernel_rfl)) (by decide) (fun K hK => ?_)
         refine Kd.R_append_step Kd.string (w0 := w) w.heap.size (by rfl) (.tmp 18) (.tmp 30) 22 9 (.string ⟨#[]⟩) 16 rfl Tryd.underlying22 info9 rfl (by decide) (by omega) u5 x5_1 ((rdOf ByteArray.empty l0 x6_1).extract 0 ((ji6) : Int).toNat) [.string ((rdOf ByteArray.empty l0 x6_1).extract 0 ((ji6) : Int).toNat)] (fun _ => True) (fun _ => False) rfl rfl ?aP (fun _ hk => hk.elim) ?aF ?aO ?aB ?aS ?aL ?_
         (case aP => exact rfl)
         (case aB => exact (by repeat (first | (with_reducible first | exact HB.out | apply below_alloc | apply pw_below_drewN | apply below_drew1) | exact HB.out)))
         (case aF => exact (fun _ _ => trivial))
         (case aO => exact (by (with_reducible repeat (first | apply Kd.R_alloc | apply Kd.R_drewN | apply Kd.R_drew)); exact HO_5.out))
         (case aS => exact (below_size (by repeat (first | (with_reducible first | exact HB.out | apply below_alloc | apply pw_below_drewN | apply below_drew1) | exact HB.out))))
         (case aL => have := LMc9.out; omega)
         intro v196 w11 ho hb hg hat
         rw [← Ny195.out] at ho
         have n0_ := Aside0.mk (hb)
         have n1_ := Aside0.mk (ho)
         clear HB
         clear HO_5
         have HB := n0_
         have HO197 := n1_
         clear n0_ n1_
         clear ho hb hg hat
         refine hK.out _ _ ⟨((HB.out.cell (World.block_lt_of_cell? w _ hw193_0)).trans hw193_0), ((HB.out.cell (World.block_lt_of_cell? w _ hw194_0)).trans hw194_0)⟩ (fun hHeld => ?_)
         clear hK K
         refine norm_ (a' := ?_) ?_ ?_
         rotate_left
         ·show Act.put _ (some 31) _ = _
          simp only [Act.put, List.setIfInBounds_toArray, List.set_cons_zero, List.set_cons_succ, i64_w, i32_w]
          rfl
         refine pure_ (i := 14) (N := some 5) (v := ?_) (a' := ?_) #[true, true, true, true, true, true, true, true, true, true, true, true, true, true, true] rfl rfl (any_of HT_.out (by kernel_rfl)) (fun _ _ _ h => h) (Or.inl ⟨by rfl, ?_⟩) ?_ ?_
         rotate_left
         ·intro w'
          go_simp
          with_reducible rfl
         rotate_left
         ·simp only [Act.put, List.setIfInBounds_toArray, List.set_cons_zero, List.set_cons_succ, i64_w, i32_w]
          rfl
         refine done_ (done_of HT_.out (by kernel_rfl)) ?_
         try go_wp2
         go_roundg k1
         case measure => have := HK1.out; omega
         case rel => exact ⟨(y195), (wrap64 (x6_1 + 1)), (by first | rfl | (simp; done) | (simp [*]; done)), H', ⟨by have := HK1.out; omega⟩, ⟨by (with_reducible repeat (first | apply Kd.R_alloc | apply Kd.R_drewN | apply Kd.R_drew)); exact HO197.out⟩, ⟨by repeat (first | (with_reducible first | exact HB.out | apply below_alloc | apply pw_below_drewN | apply below_drew1) | exact HB.out)⟩⟩
        ·rw [if_neg c9] at H
         exact absurd H (by simp)
       ·rw [if_neg c8] at H
        exact absurd H (by simp)
      ·rw [if_neg c7] at H
       exact absurd H (by simp)
     ·rw [if_neg c5] at H
      exact absurd H (by simp)
    ·rw [if_neg c4] at H
     have c4b0 : decide (x6_1 < a1) = false := decide_eq_false c4
     clear c4
     obtain rfl := Option.some.inj H
     go_wp2
     go_ret
     exact ⟨_, by first | rfl | (simp [errW_none, errW_some] <;> rfl) | (simp [*, errW_none, errW_some] <;> rfl), by (with_reducible repeat (first | apply Kd.R_alloc | apply Kd.R_drewN | apply Kd.R_drew)); exact HO_5.out, by repeat (first | (with_reducible first | exact HB.out | apply below_alloc | apply pw_below_drewN | apply below_drew1) | exact HB.out)⟩
   ·rw [if_neg c3] at H
    have c3b0 : decide (x6_1 < (l0.length : Int)) = false := decide_eq_false c3
    clear c3
    obtain rfl := Option.some.inj H
    go_wp2
    go_ret
    exact ⟨_, by first | rfl | (simp [errW_none, errW_some] <;> rfl) | (simp [*, errW_none, errW_some] <;> rfl), by (with_reducible repeat (first | apply Kd.R_alloc | apply Kd.R_drewN | apply Kd.R_drew)); exact HO_5.out, by repeat (first | (with_reducible first | exact HB.out | apply below_alloc | apply pw_below_drewN | apply below_drew1) | exact HB.out)⟩

/-! ### clearwaylaw02_left: function 31 -/
/-! ### clearwaylaw02_way: function 26 -/
end Go.Proofs.YtjkdenldddjcnaaDoor.Df

