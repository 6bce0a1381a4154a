/- Verify's walk: down by the numbers with the proof's strings from the last one on, and back up. Conditions: at most 1,000,000 strings in the proof, an entry of at most 2^39 bytes. A drawing region of VerifyExtension: two loads and two stores. No condition. The contracts of functions, written by this session's program (wip/pp.py): what the list functions answer, the code comes to. No condition. -/
import Derived.Test.YtjkdenldddjcnaaDoorKDigestSplit9
import Derived.Laws.StructEq
set_option linter.unusedVariables false
set_option linter.unusedSimpArgs false
namespace Go.Proofs.YtjkdenldddjcnaaDoor.Sha
open Go Go.RowKit Go.Shelf Go.Proofs.YtjkdenldddjcnaaDoor.Rf Go.Proofs.YtjkdenldddjcnaaDoorW.PrintWords Go.Proofs.YtjkdenldddjcnaaDoorW.PrintLast Go.Proofs.YtjkdenldddjcnaaDoorW.PrintMore
attribute [local go_sem] Oper.semAt_some

abbrev Way := List (ByteArray × Bool)
/-- Down: the proof's strings, the last one first; the steps, the last one first; what is left of the proof. -/
def descF : List ByteArray → Nat → Nat → Way → Option (Way × List ByteArray)
  | [], n, i, way => if n ≤ 1 then some (way, []) else none
  | x :: r, n, i, way => if n ≤ 1 then some (way, x :: r) else if leftN n ≤ i then descF r (n - leftN n) (i - leftN n) ((x, true) :: way) else descF r (leftN n) i ((x, false) :: way)
def all32 (l : List ByteArray) : Bool := l.all (fun s => (s.size : Int) == 32)
def upF (way : Way) (s : ByteArray) : ByteArray := way.foldl (fun out p => joinF p out) s
def endV (root s : ByteArray) : Option (Way × List ByteArray) → Bool
  | none => false
  | some (way, pr) => pr.isEmpty && (upF way (leafF s) == root)
def verifyF (root : ByteArray) (n i : Int) (s : ByteArray) (l : List ByteArray) : Bool :=
  if i < 0 then false else if n ≤ i then false else if all32 l = false then false else endV root s (descF l.reverse n.toNat i.toNat [])
theorem jfold_size {α : Type} (f : α → ByteArray × Bool) : ∀ (pre : List α) (x : ByteArray) (_ : x.size = 32), (pre.foldl (fun out y => joinF (f y) out) x).size = 32
  | [], _, h => h
  | y :: pre, x, _ => by
    rw [List.foldl_cons]
    exact jfold_size f pre (joinF (f y) x) (joinF_size _ _)
set_option maxHeartbeats 4000000 in
set_option maxRecDepth 100000 in
theorem verify_calls (root s : ByteArray) (n i : Int) (A : Option Addr) (c : Nat) (l : List ByteArray) (w : World) (hr0 : Kd.C Kd.string w A l.length l) (hc : l.length ≤ c) (hG_ : Amb w) (hs : s.size ≤ 549755813888) (hni : n ≤ 9223372036854775807) (hl : l.length ≤ 1000000) :
    Calls Tryd.prog 21 #[.string root, .int .i64 n, .int .i64 i, .string s, .slice A l.length c] w fun e w' => e = .returned (.bool (verifyF root n i s l)) ∧ Below w.heap.size w w' := by
  have HR0 := Aside0.mk hr0
  have HC0 := Aside0.mk hc
  clear hr0
  obtain ⟨L, hL⟩ : ∃ L, l.length = L := ⟨_, rfl⟩
  rw [hL] at HR0 hc hl ⊢
  replace hL := Aside0.mk hL
  refine (callsIn_wide (n := 4)).1 ?_
  refine callsIn_of_wp_marks Tryd.func21 rfl trivial ?_ rfl
  refine wpIn_wide.2 ?_
  simp only [Tryd.ntmps21, List.size_toArray, List.length_cons, List.length_nil, Nat.reduceAdd, Nat.reduceSub, Array.replicate_succ, Array.replicate_zero, List.push_toArray, List.append_toArray, List.nil_append, List.cons_append]
  by_cases h1 : i < 0
  · have d1 : decide (i < 0) = true := decide_eq_true h1
    have hv : verifyF root n i s l = false := by unfold verifyF; rw [if_pos h1]
    clear h1
    go_wp2
    exact ⟨.bool false, by simp [results, Tryd.results21, go_sem], by rw [hv], Below.refl _ _⟩
  · have d1 : decide (i < 0) = false := decide_eq_false h1
    by_cases h2 : n ≤ i
    · have d2 : decide (n ≤ i) = true := decide_eq_true h2
      have hv : verifyF root n i s l = false := by unfold verifyF; rw [if_neg h1, if_pos h2]
      clear h1 h2
      go_wp2
      exact ⟨.bool false, by simp [results, Tryd.results21, go_sem], by rw [hv], Below.refl _ _⟩
    · have d2 : decide (n ≤ i) = false := decide_eq_false h2
      have HI := Aside0.mk h1
      have HN := Aside0.mk h2
      clear h1 h2
      obtain ⟨b, hb⟩ : ∃ b, all32 l = b := ⟨_, rfl⟩
      have hfa : digest_all.f l = some b := by rw [← hb]; rfl
      replace hfa := Aside0.mk hfa
      replace hb := Aside0.mk hb
      have HA : ∀ b, digest_all.f l = some b → Calls Tryd.prog 45 #[.slice A L c] w fun e w' => e = .returned (.bool b) ∧ Drawn0 w w' := by
        intro b h
        have := digest_all.calls A c l b w (by rw [hL.out]; exact HR0.out) (by rw [hL.out]; exact hc) h
        rwa [hL.out] at this
      replace HA := Aside0.mk HA
      cases b
      · go_wp2_with (go_at_call 45; refine (HA.out false hfa.out).mono ?_; rintro e w' ⟨rfl, hd⟩)
        have hv : verifyF root n i s l = false := by unfold verifyF; rw [if_neg (by have := HI.out; omega), if_neg (by have := HN.out; omega), if_pos hb.out]
        exact ⟨.bool false, by simp [results, Tryd.results21, go_sem], by rw [hv], hd.below⟩
      · go_wp2_with (go_at_call 45; refine (HA.out true hfa.out).mono ?_; rintro e w' ⟨rfl, hd⟩)
        have hv : verifyF root n i s l = endV root s (descF l.reverse n.toNat i.toNat []) := by unfold verifyF; rw [if_neg (by have := HI.out; omega), if_neg (by have := HN.out; omega), if_neg (by rw [hb.out]; simp)]
        obtain ⟨D, hD⟩ : ∃ D, descF l.reverse n.toNat i.toNat [] = D := ⟨_, rfl⟩
        rw [hD] at hv
        replace hv := Aside0.mk hv
        replace hD := Aside0.mk hD
        have hall : ∀ y ∈ l, y.size = 32 := by
          intro y hy
          have := hb.out
          unfold all32 at this
          rw [List.all_eq_true] at this
          have := this y hy
          simp at this
          omega
        replace hall := Aside0.mk hall
        obtain ⟨n', hn'⟩ : ∃ n' : Nat, n = n' := ⟨n.toNat, by have := HI.out; have := HN.out; omega⟩
        obtain ⟨i', hi'⟩ : ∃ i' : Nat, i = i' := ⟨i.toNat, by have := HI.out; omega⟩
        subst hn'
        subst hi'
        have hin : i' < n' := by have := HN.out; omega
        replace hin := Aside0.mk hin
        replace hni := Aside0.mk hni
        have hBw := Aside0.mk hd.below
        clear hd HI HN HA hfa hb d1 d2
        obtain ⟨i58, hi58, h581, h582, h583⟩ := info_parts info58
        go_loopw [1, 2, 4, 11] (fun v1 v2 v4 v11 w' => ∃ (n i m : Nat) (way : Way), v1 = .int .i64 (n : Int) ∧ v2 = .int .i64 (i : Int) ∧ v4 = .slice A m c ∧ Aside0 (m + way.length = L) ∧ Aside0 (i < n) ∧ Aside0 (n ≤ 9223372036854775807) ∧ Aside0 (descF (l.take m).reverse n i way = D) ∧ Aside0 (∀ p ∈ way, p.1.size = 32) ∧ Aside0 (w'.ownsRow w.heap.size 58 2 v11 way.length (flat way.reverse)) ∧ Aside0 (Below w.heap.size w w')) (fun v _ _ _ _ => (intOf v).toNat)
        case atStart => exact ⟨n', i', L, [], rfl, rfl, rfl, ⟨rfl⟩, hin, ⟨by have := hni.out; omega⟩, ⟨by rw [List.take_of_length_le (by rw [hL.out]; exact Nat.le_refl _)]; have := hD.out; simpa using this⟩, ⟨fun p hp => by cases hp⟩, ⟨World.ownsRow_nil _ _ _ _⟩, hBw⟩
        case round =>
          clear hBw hin hni hD
          obtain ⟨n, i, m, way, rfl, rfl, rfl, hmw, hin, hn63, hdf, hw32, OW, HB⟩ := hrel
          by_cases h2 : 1 < n
          · have e1 : decide ((1 : Int) < (n : Int)) = true := decide_eq_true (by omega)
            cases m with
            | zero =>
              have hD0 : D = none := by
                rw [← hdf.out]
                simp [descF]
                omega
              have hv0 : verifyF root n' i' s l = false := by rw [hv.out, hD0]; rfl
              go_wp2_with (go_at_call 46; refine (take_nil _ _ _).mono ?_; rintro e w1 ⟨rfl, hd1⟩)
              exact ⟨.bool false, by simp [results, Tryd.results21, go_sem], by rw [hv0], below_then HB.out HB.out.size hd1.below⟩
            | succ m =>
              have hmL : m + 1 ≤ L := by have := hmw.out; omega
              obtain ⟨x, hx⟩ : ∃ x, l[m]? = some x := ⟨_, List.getElem?_eq_getElem (by rw [hL.out]; omega)⟩
              have htk : l.take (m + 1) = l.take m ++ [x] := by rw [List.take_add_one, hx]; rfl
              have hlm : (l.take m).length = m := by rw [List.length_take, hL.out]; omega
              have hCw : Kd.C Kd.string wr A (l.take m ++ [x]).length (l.take m ++ [x]) := by
                rw [← htk]
                refine Kd.C_below (Kd.C_take (by rw [hL.out]; exact HR0.out) (by rw [hL.out]; exact hmL)) HB.out
              have HT := take_snoc A c (l.take m) x wr hCw (by rw [hlm]; have := HC0.out; rw [hL.out] at this; omega)
              rw [hlm] at HT
              replace HT := Aside0.mk HT
              have hx32 : x.size = 32 := hall.out x (List.mem_of_getElem? hx)
              replace hx32 := Aside0.mk hx32
              have hdf1 := hdf.out
              rw [htk, List.reverse_append, List.reverse_singleton, List.singleton_append, descF, if_neg (by omega)] at hdf1
              replace hdf1 := Aside0.mk hdf1
              have hk := leftN_lt n (by omega) hn63.out
              have hlf : digest_left.f (n : Int) = some (leftN n : Int) := by
                unfold digest_left.f
                rw [if_pos ⟨by omega, by have := hn63.out; omega⟩]
                rfl
              obtain ⟨k, hkk⟩ : ∃ k, leftN n = k := ⟨_, rfl⟩
              rw [hkk] at hk hlf hdf1
              replace hk := Aside0.mk hk
              replace hlf := Aside0.mk hlf
              clear hdf hx htk hlm hCw hkk
              have hwl : way.length ≤ 1000000 := by have := hmw.out; omega
              replace hmw := Aside0.mk hmw.out
              by_cases hki : k ≤ i
              · have e2 : decide ((k : Int) ≤ (i : Int)) = true := decide_eq_true (by omega)
                go_upto_region 8 with (go_at_call 46; refine HT.out.mono ?_; rintro e w1 ⟨rfl, hd1⟩)
                have OW1 := Aside0.mk (own_keep2 OW.out hd1.below)
                have HB1 := Aside0.mk (below_then HB.out HB.out.size hd1.below)
                clear OW HB hd1 HT
                go_upto_region 10 with (go_at_call 40; refine (digest_left.calls _ _ _ hlf.out).mono ?_; rintro e w2 ⟨rfl, ⟨q, rfl⟩⟩)
                have OW2 := Aside0.mk (own_keep2 OW1.out (pw_below_drewN (Below.refl _ w1) q))
                have HB2 := Aside0.mk (below_then HB1.out HB1.out.size (pw_below_drewN (Below.refl _ w1) q))
                clear OW1 HB1
                generalize w1.drewN q = w2 at OW2 HB2 ⊢
                refine wp_region_list ?_
                iterate 7 (go_step; go_simp; rename_i hK; refine hK _ _ ?_; clear hK)
                have O1 := OW2.out.alloc (.cells #[Value.string x, Value.bool true] 58)
                have B1 := below_alloc' HB2.out HB2.out.size (.cells #[Value.string x, Value.bool true] 58)
                refine wpList_append_own _ rfl (.tmp 44) (.tmp 50) 54 rfl w.heap.size 58 i58 (.agg #[.string ⟨#[]⟩, .bool false]) 2 24 Tryd.underlying54 hi58 h581 h582 h583 rfl (by decide) _ way.length (flat way.reverse) rfl O1 ⟨w2.heap.size, 0, none⟩ 1 1 [Value.string x, Value.bool true] rfl rfl two_of_block (by simp [Value.oneCell']) (by unfold maxLen; omega) (by omega) B1.size ?_
                intro v51 w3 o3 hg3 _
                have HB3 := Aside0.mk (B1.grown hg3 B1.size (fun k e => (OW2.out.lt k e).1))
                rw [show flat way.reverse ++ [Value.string x, Value.bool true] = flat ((x, true) :: way).reverse by rw [List.reverse_cons, flat_append]; rfl] at o3
                have OW3 := Aside0.mk o3
                clear o3 hg3 B1 O1 OW2 HB2
                have q1 : IntKind.i64.wrap ((n : Int) - (k : Int)) = ((n - k : Nat) : Int) := by have := hk.out; have := hn63.out; rw [IntKind.wrap_i64]; omega
                have q2 : IntKind.i64.wrap ((i : Int) - (k : Int)) = ((i - k : Nat) : Int) := by have := hk.out; have := hn63.out; have := hin.out; rw [IntKind.wrap_i64]; omega
                obtain ⟨nk, hnk⟩ : ∃ nk, n - k = nk := ⟨_, rfl⟩
                obtain ⟨ik, hik⟩ : ∃ ik, i - k = ik := ⟨_, rfl⟩
                rw [hnk] at q1
                rw [hik] at q2
                replace hnk := Aside0.mk hnk
                replace hik := Aside0.mk hik
                go_step
                go_simp
                rename_i hK
                refine hK _ _ ?_
                clear hK
                go_wp2_with fail
                have hkk' := hk.out
                have hin' := hin.out
                have hmw' := hmw.out
                have hn' := hn63.out
                have hnk' := hnk.out
                have hik' := hik.out
                refine ⟨⟨nk, ik, m, (x, true) :: way, rfl, rfl, rfl, ⟨by rw [List.length_cons]; omega⟩, ⟨by omega⟩, ⟨by omega⟩, ⟨by
                  have := hdf1.out
                  rw [if_pos hki] at this
                  rw [hnk', hik'] at this
                  exact this⟩, ⟨fun p hp => by
                  rcases List.mem_cons.1 hp with rfl | hp
                  · exact hx32.out
                  · exact hw32.out p hp⟩, OW3, HB3⟩, ?_⟩
                simp only [intOf]
                omega
              · have e2 : decide ((k : Int) ≤ (i : Int)) = false := decide_eq_false (by omega)
                go_upto_region 8 with (go_at_call 46; refine HT.out.mono ?_; rintro e w1 ⟨rfl, hd1⟩)
                have OW1 := Aside0.mk (own_keep2 OW.out hd1.below)
                have HB1 := Aside0.mk (below_then HB.out HB.out.size hd1.below)
                clear OW HB hd1 HT
                go_upto_region 10 with (go_at_call 40; refine (digest_left.calls _ _ _ hlf.out).mono ?_; rintro e w2 ⟨rfl, ⟨q, rfl⟩⟩)
                have OW2 := Aside0.mk (own_keep2 OW1.out (pw_below_drewN (Below.refl _ w1) q))
                have HB2 := Aside0.mk (below_then HB1.out HB1.out.size (pw_below_drewN (Below.refl _ w1) q))
                clear OW1 HB1
                generalize w1.drewN q = w2 at OW2 HB2 ⊢
                refine wp_region_list ?_
                iterate 7 (go_step; go_simp; rename_i hK; refine hK _ _ ?_; clear hK)
                have O1 := OW2.out.alloc (.cells #[Value.string x, Value.bool false] 58)
                have B1 := below_alloc' HB2.out HB2.out.size (.cells #[Value.string x, Value.bool false] 58)
                refine wpList_append_own _ rfl (.tmp 44) (.tmp 50) 54 rfl w.heap.size 58 i58 (.agg #[.string ⟨#[]⟩, .bool false]) 2 24 Tryd.underlying54 hi58 h581 h582 h583 rfl (by decide) _ way.length (flat way.reverse) rfl O1 ⟨w2.heap.size, 0, none⟩ 1 1 [Value.string x, Value.bool false] rfl rfl two_of_block (by simp [Value.oneCell']) (by unfold maxLen; omega) (by omega) B1.size ?_
                intro v51 w3 o3 hg3 _
                have HB3 := Aside0.mk (B1.grown hg3 B1.size (fun k e => (OW2.out.lt k e).1))
                rw [show flat way.reverse ++ [Value.string x, Value.bool false] = flat ((x, false) :: way).reverse by rw [List.reverse_cons, flat_append]; rfl] at o3
                have OW3 := Aside0.mk o3
                clear o3 hg3 B1 O1 OW2 HB2
                go_step
                go_simp
                rename_i hK
                refine hK _ _ ?_
                clear hK
                go_wp2_with fail
                have hkk' := hk.out
                have hin' := hin.out
                have hmw' := hmw.out
                have hn' := hn63.out
                
                
                refine ⟨⟨k, i, m, (x, false) :: way, rfl, rfl, rfl, ⟨by rw [List.length_cons]; omega⟩, ⟨by omega⟩, ⟨by omega⟩, ⟨by
                  have := hdf1.out
                  rw [if_neg hki] at this
                  skip
                  exact this⟩, ⟨fun p hp => by
                  rcases List.mem_cons.1 hp with rfl | hp
                  · exact hx32.out
                  · exact hw32.out p hp⟩, OW3, HB3⟩, ?_⟩
                simp only [intOf]
                omega
          · have e1 : decide ((1 : Int) < (n : Int)) = false := decide_eq_false (by omega)
            have hmL : m ≤ L := by have := hmw.out; omega
            have hlm : (l.take m).length = m := by rw [List.length_take, hL.out]; omega
            have hDw : D = some (way, (l.take m).reverse) := by
              rw [← hdf.out]
              cases (l.take m).reverse with
              | nil => rw [descF, if_pos (by omega)]
              | cons y r => rw [descF, if_pos (by omega)]
            have hv1 : verifyF root n' i' s l = (decide (m = 0) && (upF way (leafF s) == root)) := by
              rw [hv.out, hDw]
              show ((l.take m).reverse.isEmpty && _) = _
              congr 1
              cases m with
              | zero => rfl
              | succ m =>
                have : (l.take (m + 1)).reverse ≠ [] := fun e => by
                  have := congrArg List.length e
                  rw [List.length_reverse, hlm] at this
                  simp at this
                cases h : (l.take (m + 1)).reverse with
                | nil => exact absurd h this
                | cons y r => rfl
            replace hv1 := Aside0.mk hv1
            clear hDw hlm hdf hv
            have hwl : way.length ≤ 1000000 := by have := hmw.out; omega
            have hss : s.size ≤ 549755813888 := hs
            go_upto_region 15 with (go_at_call 29; refine (leaf_calls s _ (hG_.below HB.out) hs).mono ?_; rintro e w1 ⟨rfl, hb1⟩)
            obtain ⟨Aw, cw, gw, huw, hAw, hgw, hcw⟩ : ∃ Aw cw gw, u11 = .slice Aw way.length cw ∧ (0 < way.length → Aw = some ⟨gw, 0, none⟩) ∧ gw < wr.heap.size ∧ backDR way.reverse gw 0 wr := by
              have h := OW.out
              obtain ⟨_, ⟨h1, h2⟩ | ⟨g, cap, cur, h1, hb, hg, _⟩⟩ := h
              · have hw0 : way = [] := List.eq_nil_of_length_eq_zero h2
                refine ⟨none, 0, 0, by rw [h1, h2], fun h => by omega, ?_, ?_⟩
                · obtain ⟨_, _, h'⟩ := hG_
                  have := (Array.getElem?_eq_some_iff.1 h').1
                  have := HB.out.size
                  omega
                · intro j y hy
                  rw [hw0] at hy
                  simp at hy
              · refine ⟨_, cap, g, h1, fun _ => rfl, (Array.getElem?_eq_some_iff.1 hg).1, ?_⟩
                intro j y hy
                have h0 := OW.out
                rw [h1] at h0
                obtain ⟨f1, f2⟩ := flat_get _ j y hy
                have e1 := own_at2 h0 _ _ f1
                have e2 := own_at2 h0 _ _ f2
                rw [Nat.zero_add]
                exact ⟨e1, e2⟩
            subst huw
            clear OW
            go_wp2_with (go_at_call 47; refine (callsIn_wide.1 (backD_fn _ _ _ _)).mono ?_; rintro e w' ⟨rfl, rfl⟩)
            obtain ⟨nw, hnw⟩ : ∃ nw, way.length = nw := ⟨_, rfl⟩
            rw [hnw] at hAw hwl ⊢
            obtain ⟨W0, hW0⟩ : ∃ W0, (w1.alloc (Obj.cells #[Value.string (leafF s)] 9)).alloc (Obj.cells #[Value.slice Aw nw cw] 54) = W0 := ⟨_, rfl⟩
            have hsz0 : W0.heap.size = w1.heap.size + 2 := by rw [← hW0]; simp
            have b1 : Boxed W0 w1.heap.size 9 (.string (leafF s)) := by rw [← hW0]; exact (Boxed.new w1 _ _).alloc _
            have b2 : Boxed W0 (w1.heap.size + 1) 54 (.slice Aw nw cw) := by
              rw [← hW0]
              have := Boxed.new (w1.alloc (.cells #[Value.string (leafF s)] 9)) 54 (.slice Aw nw cw)
              rwa [World.size_alloc] at this
            have bel1 : Below w1.heap.size w1 W0 := by rw [← hW0]; exact ((Below.refl _ w1).alloc (Nat.le_refl _) _).alloc (by simp) _
            have belr : Below wr.heap.size wr W0 := below_then hb1 hb1.size bel1
            have belw : Below w.heap.size w W0 := below_then HB.out HB.out.size belr
            obtain ⟨xs, hxs⟩ : ∃ xs, way.reverse = xs := ⟨_, rfl⟩
            have hxl : xs.length = nw := by rw [← hxs, ← hnw]; simp
            rw [hxs] at hcw
            have RB : backDR xs gw 0 W0 := hcw.block (belr.block gw hgw)
            have hall2 : ∀ y ∈ xs, y.1.size = 32 := by
              intro y hy
              rw [← hxs, List.mem_reverse] at hy
              exact hw32.out y hy
            have hend : upF way (leafF s) = xs.reverse.foldl (fun out y => joinF y out) (leafF s) := by
              rw [← hxs, List.reverse_reverse]
              rfl
            have hg1 : gw < w1.heap.size := Nat.lt_of_lt_of_le hgw hb1.size
            have hgw1 : w.heap.size ≤ w1.heap.size := Nat.le_trans HB.out.size hb1.size
            have RR : Amb W0 := hG_.below belw
            replace hend := Aside0.mk hend
            rw [hW0]
            clear hW0 hcw bel1 belr HB hb1 hw32 hmw hgw hxs
            generalize w1.heap.size = gb at hsz0 b1 b2 hg1 hgw1 ⊢
            refine (wpIn_wide (n := 4)).1 ?_
            refine rangeFunc_Y rfl (by decide) (gf := 63) (lb := #[.pointer (some ⟨gb + 1, 0, none⟩)]) rfl trivial (enters_of Tryd.func63 (by kernel_rfl) rfl)
              (Z := fun _ => False) (fun k hk => hk.elim)
              (encs := fun y : Fin nw => #[.int .i64 (y.val : Int), encD (xs[y.val]'(hxl ▸ y.isLt))]) (Kp := fun A B => B.heap[gb + 1]? = A.heap[gb + 1]? ∧ B.heap[gw]? = A.heap[gw]?) (S := fun ys => ys.map Fin.val = (List.range nw).reverse) (Sp := fun _ => True) (N := nw) ?iter
              (fun h k => ⟨k.1.trans h.1, k.2.trans h.2⟩) (fun W l o hl => ⟨World.putObj_heap_other (by omega), World.putObj_heap_other (by omega)⟩) (fun _ => rfl)
              (fun pre W => Boxed W gb 9 (.string (pre.foldl (fun out y => joinF (xs[y.val]'(hxl ▸ y.isLt)) out) (leafF s))) ∧ BelowBut gb W0 W)
              (fun _ _ _ => False)
              ?ab (fun _ _ _ _ _ hs _ _ => hs)
              ⟨b1, ⟨rfl, rfl, rfl, Nat.le_refl _, fun _ _ _ => rfl⟩⟩ ?round ?done ?stop
            case iter =>
              intro l' J Jx W hW hJ hJx hY hJ0
              exact backD_in l' (gb + 1) gw 0 nw cw _ xs hxl (by omega) hAw J Jx hY W (b2.kept hW (by simp)) (RB.block (hW.block gw (by omega) (by simp))) hJ0
            case ab =>
              rintro pre W W' row ⟨hA, hB⟩ hg hrow
              have hne : ∀ r, row = some r → W0.heap.size ≤ r := fun r e => by
                rcases hrow r e with h | ⟨h, _⟩
                · exact h.elim
                · exact h
              refine ⟨hA.kept hg (fun e => by have := hne gb e.symm; omega), ⟨hg.os.trans hB.os, hg.tape.trans hB.tape, hg.output.trans hB.output, Nat.le_trans hB.size hg.size, fun i hi hig => (hg.block i (Nat.lt_of_lt_of_le hi hB.size) (fun e => by have := hne i e.symm; omega)).trans (hB.block i hi hig)⟩⟩
            case round =>
              rintro l' pre y W ⟨hA, hB⟩ hlt hWs
              dsimp only
              rw [zip_two, foldl_two]
              simp only [List.setIfInBounds_toArray, List.set_cons_succ, List.set_cons_zero]
              have hys := hall2 _ (List.getElem_mem (hxl ▸ y.isLt : y.val < xs.length))
              obtain ⟨p, hp⟩ : ∃ p, xs[y.val]'(hxl ▸ y.isLt) = p := ⟨_, rfl⟩
              rw [hp] at hys ⊢
              replace hp := Aside0.mk hp
              obtain ⟨x1, x2⟩ := p
              unfold encD
              dsimp only at hys ⊢
              gi_wp2
              have hgbW : gb < W.heap.size := hA.lt
              have hqW : gb + 1 < W.heap.size := by omega
              have hgwW : gw < W.heap.size := by omega
              refine ⟨⟨below_alloc (Below.refl _ _) _, ⟨hA.alloc _, ⟨hB.os, hB.tape, hB.output, Nat.le_trans hB.size (by simp), fun i hi hig => ((below_alloc (Below.refl W.heap.size W) _).block i (by omega)).trans (hB.block i hi hig)⟩⟩, (below_alloc (Below.refl W.heap.size W) _).block _ hqW, (below_alloc (Below.refl W.heap.size W) _).block _ hgwW⟩, ?_⟩
              rintro V hV ⟨hA', hB'⟩
              have hbox : V.heap[W.heap.size]? = some (.cells #[Value.string x1, Value.bool x2] 58 (0, 0)) := (hV.block W.heap.size (by simp) (by simp; omega)).trans (heap_alloc_new ..)
              have hb0 : V.cell? ⟨W.heap.size, 0, none⟩ = some (.string x1) := by simp [World.cell?, hbox]
              have hb1 : V.cell? ⟨W.heap.size, 1, none⟩ = some (.bool x2) := by simp [World.cell?, hbox]
              obtain ⟨out, hout⟩ : ∃ out, pre.foldl (fun out y => joinF (xs[y.val]'(hxl ▸ y.isLt)) out) (leafF s) = out := ⟨_, rfl⟩
              have hos : out.size = 32 := by rw [← hout]; exact jfold_size (fun y : Fin nw => xs[y.val]'(hxl ▸ y.isLt)) pre _ (sumF_size _)
              rw [hout] at hA'
              have hc := hA'.cell
              have hRV : Amb V := by
                obtain ⟨t, fr, h⟩ := RR
                have hlt0 : 0 < gb := by
                  obtain ⟨_, _, h'⟩ := hG_
                  have := (Array.getElem?_eq_some_iff.1 h').1
                  omega
                exact ⟨t, fr, (hB'.block _ (by omega) (by omega)).trans h⟩
              have hF : Fence.wide.fn 48 := trivial
              clear hbox hV
              gi_wp2_with fail
              refine CallsIn.mono (CallsIn.inRound _ (callsIn_wide.2 (side_join_calls x1 x2 out V hRV (by omega)))) ?_
              rintro e w' ⟨rfl, hb'⟩
              have hgbV : gb < V.heap.size := hA'.lt
              have hA2 : Boxed w' gb 9 (.string out) := (hb'.block gb hgbV).trans hA'
              have hc' := hA2.cell
              have hf' := hA2.frozen
              clear hb0 hb1
              gi_wp2_with fail
              have hq : gb + 1 < V.heap.size := Nat.lt_of_lt_of_le (by omega) hB'.size
              have hq3 : gw < V.heap.size := Nat.lt_of_lt_of_le (by omega) hB'.size
              have G := grownBy_setCell' w' gb (.string (joinF (x1, x2) out))
              have T1 : ∀ i, i < V.heap.size → i ≠ gb → (w'.setCell ⟨gb, 0, none⟩ (.string (joinF (x1, x2) out))).heap[i]? = V.heap[i]? := fun i hi hig => (G.block i (Nat.lt_of_lt_of_le hi hb'.size) (fun e => hig (by injection e))).trans (hb'.block i hi)
              have hset := hA2.set (.string (joinF (x1, x2) out))
              refine ⟨⟨Nat.le_trans hb'.size G.size, fun k o hk ho _ => (T1 k (Array.getElem?_eq_some_iff.1 ho).1 (by omega)).trans ho⟩, ⟨T1 _ hq (by omega), T1 _ hq3 (by omega)⟩, ?_, ⟨G.os.trans (hb'.os.trans hB'.os), G.tape.trans (hb'.tape.trans hB'.tape), G.output.trans (hb'.output.trans hB'.output), Nat.le_trans hB'.size (Nat.le_trans hb'.size G.size), fun i hi hig => (T1 i (Nat.lt_of_lt_of_le hi hB'.size) hig).trans (hB'.block i hi hig)⟩⟩
              rw [List.foldl_append, hout]
              show Boxed _ gb 9 (.string (joinF (xs[y.val]'(hxl ▸ y.isLt)) out))
              rw [hp.out]
              exact hset
            case done =>
              rintro D ys W hD hys ⟨hA, hB⟩ hK
              have hfin := fold_rev xs hxl ys hys joinF (leafF s)
              rw [hfin, ← hend.out] at hA
              have hc := hA.cell
              have t1 : Below w.heap.size w W := ⟨hB.os.trans belw.os, hB.tape.trans belw.tape, hB.output.trans belw.output, Nat.le_trans belw.size hB.size, fun i hi => (hB.block i (by omega) (by omega)).trans (belw.block i hi)⟩
              have t2 := Aside0.mk (t1.trans (belowK_b (w := W0) (o' := .deferred none) belw.size W D _ hD hK rfl rfl))
              have hv2 := hv1.out
              rw [beq_toListBytes] at hv2
              dsimp only [Exit.inBlock, Exit.then]
              by_cases hm0 : m = 0
              · subst hm0
                rw [decide_eq_true rfl, Bool.true_and] at hv2
                replace hv2 := Aside0.mk hv2
                go_wp2_with fail
                refine ⟨by simp, .inl ⟨_, _, rfl, run_takeDeferred hK, ?_⟩⟩
                exact ⟨.bool ((upF way (leafF s)).toList == root.toList), by simp [results, Tryd.results21, go_sem], by rw [hv2.out], t2.out⟩
              · rw [decide_eq_false hm0, Bool.false_and] at hv2
                replace hv2 := Aside0.mk hv2
                have dm : ((m : Int) == 0) = false := beq_eq_false_iff_ne.mpr (by omega)
                go_wp2_with fail
                refine ⟨by simp, .inl ⟨_, _, rfl, run_takeDeferred hK, ?_⟩⟩
                exact ⟨.bool false, by simp [results, Tryd.results21, go_sem], by rw [hv2.out], t2.out⟩
            case stop =>
              rintro D c pre W _ _ h _
              exact h.elim
end Go.Proofs.YtjkdenldddjcnaaDoor.Sha

set_option linter.unusedVariables false
set_option linter.unusedSimpArgs false
namespace Go.Proofs.YtjkdenldddjcnaaDoor.Sha
open Go Go.RowKit Go.Shelf Go.Proofs.YtjkdenldddjcnaaDoor.Rf Go.Proofs.YtjkdenldddjcnaaDoorW.PrintWords Go.Proofs.YtjkdenldddjcnaaDoorW.PrintLast Go.Proofs.YtjkdenldddjcnaaDoorW.PrintMore
def SE (ad : Addr) (y : ByteArray) (g1 g2 : Nat) (W : World) : Prop :=
  W.cell? ad = some (.string y) ∧ (∃ u, Boxed W g1 9 (.string u)) ∧ (∃ u, Boxed W g2 9 (.string u)) ∧ ad.block ≠ g1 ∧ ad.block ≠ g2 ∧ g1 ≠ g2
theorem SE.drew {ad : Addr} {y : ByteArray} {g1 g2 : Nat} {W : World} (h : SE ad y g1 g2 W) : SE ad y g1 g2 W.drew := h
theorem cell_other {W : World} {a : Addr} {q : Nat} {v : Value} (h : a.block ≠ q) : (W.setCell ⟨q, 0, none⟩ v).cell? a = W.cell? a :=
  World.cell?_of_block (Below.heap_setCell _ _ _ _ h)
theorem SE.set1 {ad : Addr} {y : ByteArray} {g1 g2 : Nat} {W : World} (h : SE ad y g1 g2 W) : SE ad y g1 g2 (W.setCell ⟨g1, 0, none⟩ (.string y)) := by
  obtain ⟨h1, ⟨u1, b1⟩, ⟨u2, b2⟩, h4, h5, h6⟩ := h
  exact ⟨(cell_other h4).trans h1, ⟨y, b1.set _⟩, ⟨u2, b2.kept (grownBy_setCell' W g1 _) (by simp; omega)⟩, h4, h5, h6⟩
theorem SE.set2 {ad : Addr} {y : ByteArray} {g1 g2 : Nat} {W : World} (h : SE ad y g1 g2 W) : SE ad y g1 g2 (W.setCell ⟨g2, 0, none⟩ (.string y)) := by
  obtain ⟨h1, ⟨u1, b1⟩, ⟨u2, b2⟩, h4, h5, h6⟩ := h
  exact ⟨(cell_other h5).trans h1, ⟨u1, b1.kept (grownBy_setCell' W g2 _) (by simp; omega)⟩, ⟨y, b2.set _⟩, h4, h5, h6⟩
theorem add_zero (ad : Addr) : ad.add 0 = ad := by
  cases ad
  unfold Addr.add
  split <;> simp_all
def vere.T23 : Bool × List (List Nat × List Nat) := (true, [([], []), ([0], [0]), ([1], [1]), ([], []), ([3], [3]), ([4], [4]), ([2, 0, 1, 2], [2]), ([5, 6, 0, 1, 2, 3, 4, 5, 6], [5]), ([7, 0, 1, 2, 3, 4, 5, 6, 7], [0, 3])])
def vere.B23 : List Nat := [0, 1, 3, 0, 8, 24, 7, 127, 255]
theorem vere.tab23 : rtab .any (opsOf Tryd.f23 23) = vere.T23 := by kernel_rfl
theorem vere.bits23 : waitsOk vere.T23.2 vere.B23 = true := by kernel_rfl
noncomputable def vereR23 : Code := ((Tryd.f23.body.bind (regionOf 23)).getD .skip)
set_option maxHeartbeats 4000000 in
set_option maxRecDepth 100000 in
theorem vere_r23 (R : Act → World → Prop) (W : World) (v0 v1 v2 v3 v5 v6 v7 v8 v9 v10 v11 v12 v13 v14 v15 v16 v19 v20 v21 v22 v23 v24 v25 v26 v27 v28 v29 v30 v31 v32 v33 v34 v35 v36 v37 v38 v39 v40 v41 v42 v43 v44 v45 v46 v47 v48 v49 v50 v51 v52 v53 v54 v55 v56 v57 v58 v59 v60 v61 v62 v63 v64 v65 v66 v67 v68 v69 v70 v71 v72 v73 v74 v75 v76 v77 v78 v79 v80 v81 v82 v83 v84 v85 v86 v87 v88 v89 v90 v91 v92 v93 v94 v95 v96 v97 v98 v99 v100 v101 v102 v103 v104 v105 v106 v107 v108 v109 v110 v111 v112 v113 v114 v115 v116 v117 v118 v119 v120 v121 v122 v123 v124 v125 v126 v127 v128 v129 v130 v131 v132 v133 v134 v135 v136 : Value) (ad : Addr) (c g1 g2 : Nat) (y a1 a2 : ByteArray)
    (hS : SE ad y g1 g2 W)
    (hQ : ∀ (z106 z107 z108 z109 z110 z111 : Value), R ⟨#[v0, v1, v2, v3, Value.slice none 0 0, v5, v6, v7, v8, v9, v10, v11, v12, v13, v14, v15, v16, Value.pointer (some ⟨g1, 0, none⟩), Value.pointer (some ⟨g2, 0, none⟩), v19, v20, v21, v22, v23, v24, v25, v26, v27, v28, v29, v30, v31, v32, v33, v34, v35, v36, v37, v38, v39, v40, v41, v42, v43, v44, v45, v46, v47, v48, v49, v50, v51, v52, v53, v54, v55, v56, v57, v58, v59, v60, v61, v62, v63, v64, v65, v66, v67, v68, v69, v70, v71, v72, v73, v74, v75, v76, v77, v78, v79, v80, v81, v82, v83, v84, v85, v86, v87, v88, v89, v90, v91, v92, v93, v94, v95, v96, v97, v98, v99, v100, v101, v102, v103, v104, v105, z106, z107, z108, z109, z110, z111, v112, v113, v114, v115, v116, v117, v118, v119, v120, v121, v122, v123, v124, v125, v126, v127, v128, v129, v130, v131, v132, v133, v134, v135, v136], []⟩ ((W.drew.setCell ⟨g1, 0, none⟩ (.string y)).setCell ⟨g2, 0, none⟩ (.string y))) :
    vereR23.wp Tryd.prog (Norm R) ⟨#[v0, v1, v2, v3, Value.slice (some ad) 1 c, v5, v6, v7, v8, v9, v10, v11, v12, v13, v14, v15, v16, Value.pointer (some ⟨g1, 0, none⟩), Value.pointer (some ⟨g2, 0, none⟩), v19, v20, v21, v22, v23, v24, v25, v26, v27, v28, v29, v30, v31, v32, v33, v34, v35, v36, v37, v38, v39, v40, v41, v42, v43, v44, v45, v46, v47, v48, v49, v50, v51, v52, v53, v54, v55, v56, v57, v58, v59, v60, v61, v62, v63, v64, v65, v66, v67, v68, v69, v70, v71, v72, v73, v74, v75, v76, v77, v78, v79, v80, v81, v82, v83, v84, v85, v86, v87, v88, v89, v90, v91, v92, v93, v94, v95, v96, v97, v98, v99, v100, v101, v102, v103, v104, v105, v106, v107, v108, v109, v110, v111, v112, v113, v114, v115, v116, v117, v118, v119, v120, v121, v122, v123, v124, v125, v126, v127, v128, v129, v130, v131, v132, v133, v134, v135, v136], []⟩ W := by
  unfold vereR23
  conv => arg 2; whnf
  refine start_ (n := 9) (S := SE ad y g1 g2) (ds := []) #[false, false, false, false, false, false, false, false, false] (by kernel_rfl) rfl rfl (SE.drew hS) (fun hHeld => ?_); refine with_tabW vere.tab23 vere.bits23 (fun HT_ HW_ => ?_)
  refine pure_ (i := 0) (N := some 106) (v := ?_) (a' := ?_) #[true, false, false, false, false, false, false, false, false] rfl rfl (any_of HT_.out (by kernel_rfl)) (fun _ _ _ h => h) (Or.inl ⟨by rfl, ?_⟩) ?_ ?_
  rotate_left
  · intro w'
    go_simp
    with_reducible rfl
  rotate_left
  · simp only [Act.put, List.setIfInBounds_toArray, List.set_cons_zero, List.set_cons_succ, i64_w, i32_w]
    rfl
  refine pure_ (i := 1) (N := some 107) (v := ?_) (a' := ?_) #[true, true, false, false, false, false, false, false, false] rfl rfl (any_of HT_.out (by kernel_rfl)) (fun _ _ _ h => h) (Or.inl ⟨by rfl, ?_⟩) ?_ ?_
  rotate_left
  · intro w'
    go_simp
    with_reducible rfl
  rotate_left
  · simp only [Act.put, List.setIfInBounds_toArray, List.set_cons_zero, List.set_cons_succ, i64_w, i32_w]
    rfl
  refine pure_ (i := 3) (N := some 109) (v := ?_) (a' := ?_) #[true, true, false, true, false, false, false, false, false] rfl rfl (any_of HT_.out (by kernel_rfl)) (fun _ _ _ h => h) (Or.inl ⟨by rfl, ?_⟩) ?_ ?_
  rotate_left
  · intro w'
    go_simp
    with_reducible rfl
  rotate_left
  · simp only [Act.put, List.setIfInBounds_toArray, List.set_cons_zero, List.set_cons_succ, i64_w, i32_w]
    rfl
  refine pure_ (i := 4) (N := some 110) (v := ?_) (a' := ?_) #[true, true, false, true, true, false, false, false, false] rfl rfl (any_of HT_.out (by kernel_rfl)) (fun _ _ _ h => h) (Or.inl ⟨by rfl, ?_⟩) ?_ ?_
  rotate_left
  · intro w'
    go_simp
    with_reducible rfl
  rotate_left
  · simp only [Act.put, List.setIfInBounds_toArray, List.set_cons_zero, List.set_cons_succ, i64_w, i32_w]
    rfl
  refine take_ (i := 2) (N := some 108) (v := ?_) (a' := ?_) #[true, true, true, true, true, false, false, false, false] rfl rfl (take_ofW HT_.out HW_.out (by kernel_rfl)) (fun _ _ _ h => h) (Or.inl ⟨by rfl, ?_⟩) hHeld ?_ ?_
  rotate_left
  · intro w' hS_
    have c_ := hS_.1
    go_simp
    with_reducible rfl
  rotate_left
  · simp only [Act.put, List.setIfInBounds_toArray, List.set_cons_zero, List.set_cons_succ, i64_w, i32_w]
    rfl
  refine take_ (i := 5) (N := some 111) (v := ?_) (a' := ?_) #[true, true, true, true, true, true, false, false, false] rfl rfl (take_ofW HT_.out HW_.out (by kernel_rfl)) (fun _ _ _ h => h) (Or.inl ⟨by rfl, ?_⟩) hHeld ?_ ?_
  rotate_left
  · intro w' hS_
    have c_ := hS_.1
    go_simp
    with_reducible rfl
  rotate_left
  · simp only [Act.put, List.setIfInBounds_toArray, List.set_cons_zero, List.set_cons_succ, i64_w, i32_w]
    rfl
  refine one_ (i := 6) (N := none) #[true, true, true, true, true, true, true, false, false] rfl rfl (one_of HT_.out (by kernel_rfl)) (by decide) (fun K hK => ?_)
  obtain ⟨u1_, b1_⟩ := hHeld.2.1
  have c1_ := b1_.cell
  have f1_ := b1_.frozen
  refine skip_ (w1 := ?_) (by rfl) rfl ?_ ?_
  rotate_left
  · go_simp
    rfl
  refine hK.out _ _ (SE.set1 hHeld) (fun hHeld => ?_)
  clear hK K f1_ c1_ b1_
  refine one_ (i := 7) (N := none) #[true, true, true, true, true, true, true, true, false] rfl rfl (one_of HT_.out (by kernel_rfl)) (by decide) (fun K hK => ?_)
  obtain ⟨u2_, b2_⟩ := hHeld.2.2.1
  have c2_ := b2_.cell
  have f2_ := b2_.frozen
  refine skip_ (w1 := ?_) (by rfl) rfl ?_ ?_
  rotate_left
  · go_simp
    rfl
  refine hK.out _ _ (SE.set2 hHeld) (fun hHeld => ?_)
  clear hK K f2_ c2_ b2_
  refine pure_ (i := 8) (N := some 4) (v := ?_) (a' := ?_) #[true, true, true, true, true, true, true, true, true] rfl rfl (any_of HT_.out (by kernel_rfl)) (fun _ _ _ h => h) (Or.inl ⟨by rfl, ?_⟩) ?_ ?_
  rotate_left
  · intro w'
    go_simp
    with_reducible rfl
  rotate_left
  · simp only [Act.put, List.setIfInBounds_toArray, List.set_cons_zero, List.set_cons_succ, i64_w, i32_w]
    rfl
  refine done_ (done_of HT_.out (by kernel_rfl)) ?_
  exact hQ _ _ _ _ _ _
end Go.Proofs.YtjkdenldddjcnaaDoor.Sha

namespace Go.Proofs.YtjkdenldddjcnaaDoor.Df
open Go.RowKit Go.Proofs.YtjkdenldddjcnaaDoor.Sha Go.Proofs.YtjkdenldddjcnaaDoorW.PrintWords Go.Proofs.YtjkdenldddjcnaaDoorW.PrintLast Go.Proofs.YtjkdenldddjcnaaDoorW.PrintMore
attribute [local go_sem] max2_int min2_int max_two min_two max_three min_three max_four min_four   -- for this text's walks alone
set_option linter.unusedVariables false
set_option linter.unusedSimpArgs false

/-! ### slices_Reverse_string_string: function 41 -/
def slices_Reverse_string_string.l0 : Nat → List ByteArray → Int → Int → Option (List ByteArray)
 | 0, _, _, _ => none
 | k + 1, x0, x2, x3 => if x2 < x3 then (if 0 ≤ x3 then (if x3 < (x0.length : Int) then (if 0 ≤ x2 then (if x2 < (x0.length : Int) then (slices_Reverse_string_string.l0 k ((x0.set (x2 : Int).toNat (rdOf ByteArray.empty x0 x3)).set (x3 : Int).toNat (rdOf ByteArray.empty x0 x2)) (wrap64 (x2 + 1)) (wrap64 (x3 - 1))) else (none)) else (none)) else (none)) else (none)) else (some x0)
def slices_Reverse_string_string.f (k : Nat) (l0 : List ByteArray) : Option (List ByteArray) := slices_Reverse_string_string.l0 k l0 0 (wrap64 ((l0.length : Int) - 1))
theorem slices_Reverse_string_string.mono_l : ∀ k, (∀ y0 y1 y2, LeO (slices_Reverse_string_string.l0 k y0 y1 y2) (slices_Reverse_string_string.l0 (k + 1) y0 y1 y2))
 | 0 => fun _ _ _ r h => by simp [slices_Reverse_string_string.l0] at h
 | k + 1 => by
  have ih0 := slices_Reverse_string_string.mono_l k
  ·intro y0 y1 y2
   unfold slices_Reverse_string_string.l0
   repeat' first
   | (with_reducible exact ih0 _ _ _)
   | (with_reducible exact LeO.refl _)
   | (with_reducible exact LeO.none _)
   | (with_reducible refine LeO.ite ?_ ?_)
   | (with_reducible refine LeO.bind ?_ (fun _ => ?_))
   | exact ih0 _ _ _
   | exact LeO.none _
   | refine LeO.ite ?_ ?_
   | refine LeO.bind ?_ (fun _ => ?_)
theorem slices_Reverse_string_string.mono : ∀ a0 k, LeO (slices_Reverse_string_string.f k a0) (slices_Reverse_string_string.f (k + 1) a0) := by
 intro a0 k
 have ih0 := slices_Reverse_string_string.mono_l k
 unfold slices_Reverse_string_string.f
 repeat' first
   | (with_reducible exact ih0 _ _ _)
   | (with_reducible exact LeO.refl _)
   | (with_reducible exact LeO.none _)
   | (with_reducible refine LeO.ite ?_ ?_)
   | (with_reducible refine LeO.bind ?_ (fun _ => ?_))
   | exact ih0 _ _ _
   | exact LeO.none _
   | refine LeO.ite ?_ ?_
   | refine LeO.bind ?_ (fun _ => ?_)
def slices_Reverse_string_string.T3 : Bool × List (List Nat × List Nat) := (true, [([], []), ([], []), ([], []), ([], []), ([], []), ([], []), ([4, 5], [4, 5]), ([6], [6]), ([], []), ([], []), ([8, 9], [8, 9]), ([10], [10]), ([0, 1, 0, 1, 4, 5, 6, 7, 11], [0, 1]), ([12, 7, 0, 1, 4, 5, 6, 7, 11], [7, 12]), ([2, 3, 0, 1, 2, 3, 4, 5, 6, 7, 8, 9, 10, 11, 12, 13], [2, 3]), ([14, 11, 13, 0, 1, 2, 3, 4, 5, 6, 7, 8, 9, 10, 11, 12, 13], [11, 14])])
def slices_Reverse_string_string.B3 : List Nat := [0, 0, 0, 0, 0, 0, 48, 112, 0, 0, 768, 1792, 4083, 8179, 16383, 32767]
theorem slices_Reverse_string_string.tab3 : rtab .any (opsOf Tryd.f41 3) = slices_Reverse_string_string.T3 := by kernel_rfl
theorem slices_Reverse_string_string.bits3 : waitsOk slices_Reverse_string_string.T3.2 slices_Reverse_string_string.B3 = true := by kernel_rfl
set_option maxHeartbeats 8000000 in
set_option maxRecDepth 100000 in
theorem slices_Reverse_string_string.calls (k : Nat) (P0_ : Nat → Prop) (u9000_ : Value) (l0 : List ByteArray) (r : List ByteArray) (w0 w : World) (hB : Below w0.heap.size w0 w) (ho0 : Kd.R Kd.string 9 w w0.heap.size P0_ u9000_ l0) (h : slices_Reverse_string_string.f k l0 = some r) :
  Calls Tryd.prog 41 #[u9000_] w fun e w' => e = .returned (.tuple #[]) ∧ Kd.R Kd.string 9 w' w0.heap.size (fun k_ => (P0_ k_ ∨ w.heap.size ≤ k_)) u9000_ r ∧ Below w0.heap.size w0 w' ∧ Kept w w' (fun k_ => P0_ k_) := by
 have HO0 := Aside0.mk (show Kd.R Kd.string 9 w w0.heap.size (fun k_ => (P0_ k_ ∨ w.heap.size ≤ k_)) u9000_ l0 from Kd.R_mono ho0 (fun k_ hk => (.inl hk)))
 have HK := Aside0.mk (Kept.refl w (fun k_ => P0_ k_))
 have HW0 := Aside0.mk hB.size
 have HB := Aside0.mk hB
 clear hB
 have H : (slices_Reverse_string_string.l0 k l0 0 (wrap64 ((l0.length : Int) - 1))) = some r := h
 clear h
 have H' := Aside0.mk H
 clear H
 obtain ⟨Ao2, co2, eo2⟩ := Kd.R_slice HO0.out
 subst eo2
 go_enter Tryd.func41, Tryd.ntmps41
 go_wp2
 go_loopg [2, 3] k (fun kq v2 v3 w' => ∃ (x0_1 : List ByteArray) (x2_1 : Int) (x3_1 : Int), v2 = .int .i64 x2_1 ∧ v3 = .int .i64 x3_1 ∧ Aside0 (slices_Reverse_string_string.l0 kq x0_1 x2_1 x3_1 = some r) ∧ Aside0 (kq ≤ k) ∧ Aside0 (Kd.R Kd.string 9 w' w0.heap.size (fun k_ => (P0_ k_ ∨ w.heap.size ≤ k_)) (.slice Ao2 l0.length co2) x0_1) ∧ Aside0 (Kept w w' (fun k_ => P0_ k_)) ∧ Aside0 (Below w0.heap.size w0 w'))
 case atStart => exact ⟨(l0), (0), (wrap64 ((l0.length : Int) - 1)), (by first | rfl | (simp; done) | (simp [*]; done)), (by first | rfl | (simp; done) | (simp [*]; done)), H', ⟨Nat.le_refl _⟩, ⟨by (with_reducible repeat (first | apply Kd.R_alloc | apply Kd.R_drewN | apply Kd.R_drew)); exact HO0.out⟩, ⟨by repeat (first | (with_reducible first | exact HK.out | apply Kept.alloc | apply Kept.drewN | apply Kept.drew) | exact HK.out)⟩, ⟨by repeat (first | (with_reducible first | exact HB.out | apply below_alloc | apply pw_below_drewN | apply below_drew1) | exact HB.out)⟩⟩
 case round =>
  clear H'
  try clear p2
  obtain ⟨x0_1, x2_1, x3_1, rfl, rfl, HA, HK1, HO_0, HK, HB⟩ := hrel
  have hl0_1 := (Kd.R_reads' HO_0.out).1
  rw [hl0_1] at HO_0
  (try simp only [hl0_1])
  cases gk with
  | zero => exact absurd HA.out (by simp [slices_Reverse_string_string.l0])
  | succ k1 =>
   have H := HA.out
   clear HA
   simp only [slices_Reverse_string_string.l0] at H
   by_cases c3 : x2_1 < x3_1
   ·rw [if_pos c3] at H
    have c3b0 : decide (x2_1 < x3_1) = true := decide_eq_true c3
    clear c3
    by_cases c4 : 0 ≤ x3_1
    ·rw [if_pos c4] at H
     have c4b0 : decide (0 ≤ x3_1) = true := decide_eq_true c4
     clear c4
     by_cases c5 : x3_1 < (x0_1.length : Int)
     ·rw [if_pos c5] at H
      have c5b0 : decide (x3_1 < (x0_1.length : Int)) = true := decide_eq_true c5
      clear c5
      by_cases c6 : 0 ≤ x2_1
      ·rw [if_pos c6] at H
       have c6b0 : decide (0 ≤ x2_1) = true := decide_eq_true c6
       clear c6
       by_cases c7 : x2_1 < (x0_1.length : Int)
       ·rw [if_pos c7] at H
        have c7b0 : decide (x2_1 < (x0_1.length : Int)) = true := decide_eq_true c7
        clear c7
        obtain ⟨y105, hy105⟩ : ∃ y_ : List ByteArray, y_ = (x0_1.set (x2_1 : Int).toNat (rdOf ByteArray.empty x0_1 x3_1)) := ⟨_, rfl⟩
        replace H : (slices_Reverse_string_string.l0 k1 (y105.set (x3_1 : Int).toNat (rdOf ByteArray.empty x0_1 x2_1)) (wrap64 (x2_1 + 1)) (wrap64 (x3_1 - 1))) = some r := by first | (rw [hy105]; with_reducible exact H) | (have H2_ := (Option.bind_some _ _).symm.trans H; rw [hy105]; with_reducible exact H2_) | (have H2_ := (Option.bind_some _ _).symm.trans H; with_reducible exact H2_) | with_reducible exact H | (rw [hy105]; exact H) | exact H
        have Ny105 := Aside0.mk hy105
        clear hy105
        obtain ⟨y106, hy106⟩ : ∃ y_ : List ByteArray, y_ = (y105.set (x3_1 : Int).toNat (rdOf ByteArray.empty x0_1 x2_1)) := ⟨_, rfl⟩
        replace H : (slices_Reverse_string_string.l0 k1 y106 (wrap64 (x2_1 + 1)) (wrap64 (x3_1 - 1))) = some r := by first | (rw [hy106]; with_reducible exact H) | (have H2_ := (Option.bind_some _ _).symm.trans H; rw [hy106]; with_reducible exact H2_) | (have H2_ := (Option.bind_some _ _).symm.trans H; with_reducible exact H2_) | with_reducible exact H | (rw [hy106]; exact H) | exact H
        have Ny106 := Aside0.mk hy106
        clear hy106
        have H' := Aside0.mk H
        clear H
        try go_wp2
        have n0_ := Aside0.mk (Kd.R_drew HO_0.out)
        have n1_ := Aside0.mk (Kept.drew HK.out)
        have n2_ := Aside0.mk (below_drew1 HB.out)
        clear HO_0
        clear HK
        clear HB
        have HO_0 := n0_
        have HK := n1_
        have HB := n2_
        clear n0_ n1_ n2_
        have p103 : 0 ≤ (x3_1 : Int) := of_decide_eq_true (by first | (with_reducible assumption) | assumption)
        have q103 : x3_1 < (x0_1.length : Int) := of_decide_eq_true (by first | (with_reducible assumption) | assumption)
        obtain ⟨ad103, e103, hx103_0⟩ := Kd.at_string (Kd.R_reads' HO_0.out).2.2 x3_1 p103 q103
        cases e103
        replace p103 := eq_true p103
        replace q103 := eq_true q103
        have p104 : 0 ≤ (x2_1 : Int) := of_decide_eq_true (by first | (with_reducible assumption) | assumption)
        have q104 : x2_1 < (x0_1.length : Int) := of_decide_eq_true (by first | (with_reducible assumption) | assumption)
        obtain ⟨ad104, e104, hx104_0⟩ := Kd.at_string (Kd.R_reads' HO_0.out).2.2 x2_1 p104 q104
        obtain rfl : ad103 = ad104 := (by injection e104)
        replace p104 := eq_true p104
        replace q104 := eq_true q104
        have p8 : 0 ≤ (x2_1 : Int) := of_decide_eq_true (by first | (with_reducible assumption) | assumption)
        have q8 : (x2_1 : Int) < ((x0_1.length : Int) : Int) := of_decide_eq_true (by first | (with_reducible assumption) | assumption)
        obtain ⟨go8, co8, eo8, gb8, gl8, cl8, HG8⟩ := Kd.R_form HO_0.out (by omega)
        (first | cases eo8 | (injection eo8 with ea_ en_ ec_; (first | subst ea_ | (injection ea_ with ea_; subst ea_)); subst ec_; clear en_))
        have GB8 := Aside0.mk gb8
        have GG8 := Aside0.mk HG8
        clear gb8 gl8 HG8
        have HMgo8 := Aside0.mk (show (P0_ go8 ∨ w.heap.size ≤ go8) from (HO_0.out.1 _ rfl))
        (first | simp only [add_plain] at hx103_0 | skip)
        (first | simp only [add_plain] at hx104_0 | skip)
        obtain ⟨hx8_0, hf8_0⟩ := Kd.R_celln (⟨#[]⟩ : ByteArray) HO_0.out (x2_1 : Int) p8 q8
        replace p8 := eq_true p8
        replace q8 := eq_true q8
        have HP11 := Kd.R_putn HO_0.out (x2_1 : Int) (rdOf ByteArray.empty x0_1 x3_1)
        rw [← Ny105.out] at HP11
        have HQ11 := Aside0.mk HP11
        clear HP11
        have p9 : 0 ≤ (x3_1 : Int) := of_decide_eq_true (by first | (with_reducible assumption) | assumption)
        have q9 : (x3_1 : Int) < ((x0_1.length : Int) : Int) := of_decide_eq_true (by first | (with_reducible assumption) | assumption)
        obtain ⟨hx9_0, hf9_0⟩ := Kd.R_celln (⟨#[]⟩ : ByteArray) HQ11.out (x3_1 : Int) p9 q9
        replace p9 := eq_true p9
        replace q9 := eq_true q9
        have HP12 := Kd.R_putn HQ11.out (x3_1 : Int) (rdOf ByteArray.empty x0_1 x2_1)
        rw [← Ny106.out] at HP12
        have HQ12 := Aside0.mk HP12
        clear HP12
        refine start_ (n := 16) (S := fun w' => w'.cell? ⟨go8, (x3_1).toNat, none⟩ = some (.string (rdOf ByteArray.empty x0_1 x3_1)) ∧ w'.cell? ⟨go8, (x2_1).toNat, none⟩ = some (.string (rdOf ByteArray.empty x0_1 x2_1))) (ds := [13, 15]) #[false, false, false, false, false, false, false, false, false, false, false, false, false, false, false, false] (by kernel_rfl) rfl rfl ⟨hx103_0, hx104_0⟩ (fun hHeld => ?_); refine with_tabW slices_Reverse_string_string.tab3 slices_Reverse_string_string.bits3 (fun HT_ HW_ => ?_)
        generalize wr.drew = w10 at HO_0 HK HB GG8 HQ11 HQ12 hf8_0 hf9_0 hx103_0 hx104_0 hx8_0 hx9_0 hHeld ⊢
        refine pure_ (i := 0) (N := some 14) (v := ?_) (a' := ?_) #[true, false, false, false, false, false, false, false, false, false, false, false, false, false, false, false] rfl rfl (any_of HT_.out (by kernel_rfl)) (fun _ _ _ h => h) (Or.inl ⟨by rfl, ?_⟩) ?_ ?_
        rotate_left
        ·intro w'
         go_simp
         with_reducible rfl
        rotate_left
        ·simp only [Act.put, List.setIfInBounds_toArray, List.set_cons_zero, List.set_cons_succ, i64_w, i32_w]
         rfl
        refine pure_ (i := 1) (N := some 15) (v := ?_) (a' := ?_) #[true, true, false, false, false, false, false, false, false, false, false, false, false, false, false, false] rfl rfl (any_of HT_.out (by kernel_rfl)) (fun _ _ _ h => h) (Or.inl ⟨by rfl, ?_⟩) ?_ ?_
        rotate_left
        ·intro w'
         go_simp
         with_reducible rfl
        rotate_left
        ·simp only [Act.put, List.setIfInBounds_toArray, List.set_cons_zero, List.set_cons_succ, i64_w, i32_w]
         rfl
        refine pure_ (i := 2) (N := some 16) (v := ?_) (a' := ?_) #[true, true, true, false, false, false, false, false, false, false, false, false, false, false, false, false] rfl rfl (any_of HT_.out (by kernel_rfl)) (fun _ _ _ h => h) (Or.inl ⟨by rfl, ?_⟩) ?_ ?_
        rotate_left
        ·intro w'
         go_simp
         with_reducible rfl
        rotate_left
        ·simp only [Act.put, List.setIfInBounds_toArray, List.set_cons_zero, List.set_cons_succ, i64_w, i32_w]
         rfl
        refine pure_ (i := 3) (N := some 17) (v := ?_) (a' := ?_) #[true, true, true, true, false, false, false, false, false, false, false, false, false, false, false, false] rfl rfl (any_of HT_.out (by kernel_rfl)) (fun _ _ _ h => h) (Or.inl ⟨by rfl, ?_⟩) ?_ ?_
        rotate_left
        ·intro w'
         go_simp
         with_reducible rfl
        rotate_left
        ·simp only [Act.put, List.setIfInBounds_toArray, List.set_cons_zero, List.set_cons_succ, i64_w, i32_w]
         rfl
        refine pure_ (i := 4) (N := some 18) (v := ?_) (a' := ?_) #[true, true, true, true, true, false, false, false, false, false, false, false, false, false, false, false] rfl rfl (any_of HT_.out (by kernel_rfl)) (fun _ _ _ h => h) (Or.inl ⟨by rfl, ?_⟩) ?_ ?_
        rotate_left
        ·intro w'
         go_simp
         with_reducible rfl
        rotate_left
        ·simp only [Act.put, List.setIfInBounds_toArray, List.set_cons_zero, List.set_cons_succ, i64_w, i32_w]
         rfl
        refine pure_ (i := 5) (N := some 19) (v := ?_) (a' := ?_) #[true, true, true, true, true, true, false, false, false, false, false, false, false, false, false, false] rfl rfl (any_of HT_.out (by kernel_rfl)) (fun _ _ _ h => h) (Or.inl ⟨by rfl, ?_⟩) ?_ ?_
        rotate_left
        ·intro w'
         go_simp
         with_reducible rfl
        rotate_left
        ·simp only [Act.put, List.setIfInBounds_toArray, List.set_cons_zero, List.set_cons_succ, i64_w, i32_w]
         rfl
        refine pure_ (i := 6) (N := some 20) (v := ?_) (a' := ?_) #[true, true, true, true, true, true, true, false, false, false, false, false, false, false, false, false] rfl rfl (any_of HT_.out (by kernel_rfl)) (fun _ _ _ h => h) (Or.inl ⟨by rfl, ?_⟩) ?_ ?_
        rotate_left
        ·intro w'
         go_simp
         with_reducible rfl
        rotate_left
        ·simp only [Act.put, List.setIfInBounds_toArray, List.set_cons_zero, List.set_cons_succ, i64_w, i32_w]
         rfl
        refine pure_ (i := 8) (N := some 22) (v := ?_) (a' := ?_) #[true, true, true, true, true, true, true, false, true, false, false, false, false, false, false, false] rfl rfl (any_of HT_.out (by kernel_rfl)) (fun _ _ _ h => h) (Or.inl ⟨by rfl, ?_⟩) ?_ ?_
        rotate_left
        ·intro w'
         go_simp
         with_reducible rfl
        rotate_left
        ·simp only [Act.put, List.setIfInBounds_toArray, List.set_cons_zero, List.set_cons_succ, i64_w, i32_w]
         rfl
        refine pure_ (i := 9) (N := some 23) (v := ?_) (a' := ?_) #[true, true, true, true, true, true, true, false, true, true, false, false, false, false, false, false] rfl rfl (any_of HT_.out (by kernel_rfl)) (fun _ _ _ h => h) (Or.inl ⟨by rfl, ?_⟩) ?_ ?_
        rotate_left
        ·intro w'
         go_simp
         with_reducible rfl
        rotate_left
        ·simp only [Act.put, List.setIfInBounds_toArray, List.set_cons_zero, List.set_cons_succ, i64_w, i32_w]
         rfl
        refine pure_ (i := 10) (N := some 24) (v := ?_) (a' := ?_) #[true, true, true, true, true, true, true, false, true, true, true, false, false, false, false, false] rfl rfl (any_of HT_.out (by kernel_rfl)) (fun _ _ _ h => h) (Or.inl ⟨by rfl, ?_⟩) ?_ ?_
        rotate_left
        ·intro w'
         go_simp
         with_reducible rfl
        rotate_left
        ·simp only [Act.put, List.setIfInBounds_toArray, List.set_cons_zero, List.set_cons_succ, i64_w, i32_w]
         rfl
        refine take_ (i := 7) (N := some 21) (v := ?_) (a' := ?_) #[true, true, true, true, true, true, true, true, true, true, true, false, false, false, false, false] rfl rfl (take_ofW HT_.out HW_.out (by kernel_rfl)) (fun _ _ _ h => h) (Or.inl ⟨by rfl, ?_⟩) hHeld ?_ ?_
        rotate_left
        ·rintro w' ⟨s0, s1⟩
         go_simp
         with_reducible rfl
        rotate_left
        ·simp only [Act.put, List.setIfInBounds_toArray, List.set_cons_zero, List.set_cons_succ, i64_w, i32_w]
         rfl
        refine take_ (i := 11) (N := some 25) (v := ?_) (a' := ?_) #[true, true, true, true, true, true, true, true, true, true, true, true, false, false, false, false] rfl rfl (take_ofW HT_.out HW_.out (by kernel_rfl)) (fun _ _ _ h => h) (Or.inl ⟨by rfl, ?_⟩) hHeld ?_ ?_
        rotate_left
        ·rintro w' ⟨s0, s1⟩
         go_simp
         with_reducible rfl
        rotate_left
        ·simp only [Act.put, List.setIfInBounds_toArray, List.set_cons_zero, List.set_cons_succ, i64_w, i32_w]
         rfl
        refine pure_ (i := 12) (N := some 26) (v := ?_) (a' := ?_) #[true, true, true, true, true, true, true, true, true, true, true, true, true, false, false, false] rfl rfl (any_of HT_.out (by kernel_rfl)) (fun _ _ _ h => h) (Or.inl ⟨by rfl, ?_⟩) ?_ ?_
        rotate_left
        ·intro w'
         go_simp
         with_reducible rfl
        rotate_left
        ·simp only [Act.put, List.setIfInBounds_toArray, List.set_cons_zero, List.set_cons_succ, i64_w, i32_w]
         rfl
        refine last_ (i := 13) (N := none) #[true, true, true, true, true, true, true, true, true, true, true, true, true, true, false, false] rfl rfl (one_of HT_.out (by kernel_rfl)) (by decide) (fun K hK => ?_)
        refine skip_ (w1 := ?_) (by rfl) rfl ?_ ?_
        rotate_left
        ·go_simp
         rfl
        refine hK.out _ _ ?_
        clear hK K
        refine pure_ (i := 14) (N := some 27) (v := ?_) (a' := ?_) #[true, true, true, true, true, true, true, true, true, true, true, true, true, true, true, false] rfl rfl (any_of HT_.out (by kernel_rfl)) (fun _ _ _ h => h) (Or.inl ⟨by rfl, ?_⟩) ?_ ?_
        rotate_left
        ·intro w'
         go_simp
         with_reducible rfl
        rotate_left
        ·simp only [Act.put, List.setIfInBounds_toArray, List.set_cons_zero, List.set_cons_succ, i64_w, i32_w]
         rfl
        refine last_ (i := 15) (N := none) #[true, true, true, true, true, true, true, true, true, true, true, true, true, true, true, true] rfl rfl (one_of HT_.out (by kernel_rfl)) (by decide) (fun K hK => ?_)
        refine skip_ (w1 := ?_) (by rfl) rfl ?_ ?_
        rotate_left
        ·go_simp
         rfl
        refine hK.out _ _ ?_
        clear hK K
        refine done_ (done_of HT_.out (by kernel_rfl)) ?_
        try go_wp2
        (try simp only [← hl0_1])
        go_roundg k1
        case measure => have := HK1.out; omega
        case rel => exact ⟨(y106), (wrap64 (x2_1 + 1)), (wrap64 (x3_1 - 1)), (by first | rfl | (simp; done) | (simp [*]; done)), (by first | rfl | (simp; done) | (simp [*]; done)), H', ⟨by have := HK1.out; omega⟩, ⟨by (try simp only [hl0_1]); (with_reducible repeat (first | apply Kd.R_alloc | apply Kd.R_drewN | apply Kd.R_drew)); exact HQ12.out⟩, ⟨by repeat (first | (with_reducible first | exact HK.out | apply Kept.alloc | apply Kept.drewN | apply Kept.drew | refine Kept.setCell ?_ HMgo8.out _ | refine Kept.setCell ?_ HMgo8.out _) | exact HK.out)⟩, ⟨by repeat (first | (with_reducible first | exact HB.out | apply below_alloc | apply pw_below_drewN | apply below_drew1 | refine below_set ?_ GB8.out | refine below_set ?_ GB8.out) | exact HB.out)⟩⟩
       ·rw [if_neg c7] at H
        exact absurd H (by simp)
      ·rw [if_neg c6] at H
       exact absurd H (by simp)
     ·rw [if_neg c5] at H
      exact absurd H (by simp)
    ·rw [if_neg c4] at H
     exact absurd H (by simp)
   ·rw [if_neg c3] at H
    have c3b0 : decide (x2_1 < x3_1) = false := decide_eq_false c3
    clear c3
    obtain rfl := Option.some.inj H
    go_wp2
    first | go_end0 | ((try simp only [Exit.inBlock, Exit.then]); refine bodyPost_ret (results_none rfl _ _ _) rfl ?_)
    exact ⟨by first | rfl | (simp [errW_none, errW_some] <;> rfl) | (simp [*, errW_none, errW_some] <;> rfl), (by first | exact (by (with_reducible repeat (first | apply Kd.R_alloc | apply Kd.R_drewN | apply Kd.R_drew)); exact HO_0.out) | (simp only [hl0_1]; exact (by (with_reducible repeat (first | apply Kd.R_alloc | apply Kd.R_drewN | apply Kd.R_drew)); exact HO_0.out))), by repeat (first | (with_reducible first | exact HB.out | apply below_alloc | apply pw_below_drewN | apply below_drew1) | exact HB.out), by repeat (first | (with_reducible first | exact HK.out | apply Kept.alloc | apply Kept.drewN | apply Kept.drew) | exact HK.out)⟩

/-! ### digest_Proof: function 14 -/
mutual
def digest_Proof.j0 : Nat → List ByteArray → Int → Bool → Option (List ByteArray × Int)
 | 0, _, _, _ => none
 | k + 1, x0, x1, x17 => if x17 = true then (some (([] : List ByteArray), 2)) else (digest_Proof.l0 k x0 x1 ([] : List ByteArray))
def digest_Proof.l0 : Nat → List ByteArray → Int → List ByteArray → Option (List ByteArray × Int)
 | 0, _, _, _ => none
 | k + 1, x0, x1, x6 => if (x0.length : Int) = 1 then ((slices_Reverse_string_string.f k x6).bind fun t107 => (some (t107, 0))) else ((digest_left.f (x0.length : Int)).bind fun t108 => (if 0 ≤ t108 then (if t108 ≤ (x0.length : Int) then ((some (x0.take (t108 : Int).toNat : List ByteArray)).bind fun y109 => ((some (x0.drop (t108 : Int).toNat : List ByteArray)).bind fun y114 => (if x1 ≥ t108 then ((digest_Root.f y109).bind fun t119 => (if x6.length < 8796093022208 then (digest_Proof.l0 k y114 (wrap64 (x1 - t108)) (x6 ++ [t119])) else (none))) else ((digest_Root.f y114).bind fun t123 => (if x6.length < 8796093022208 then (digest_Proof.l0 k y109 x1 (x6 ++ [t123])) else (none)))))) else (none)) else (none)))
end
def digest_Proof.f (k : Nat) (l0 : List ByteArray) (a1 : Int) : Option (List ByteArray × Int) := if a1 < 0 then (digest_Proof.j0 k l0 a1 true) else (digest_Proof.j0 k l0 a1 (decide (a1 ≥ (l0.length : Int))))
theorem digest_Proof.mono_l : ∀ k, (∀ y0 y1 y2, LeO (digest_Proof.j0 k y0 y1 y2) (digest_Proof.j0 (k + 1) y0 y1 y2)) ∧ (∀ y0 y1 y2, LeO (digest_Proof.l0 k y0 y1 y2) (digest_Proof.l0 (k + 1) y0 y1 y2))
 | 0 => ⟨fun _ _ _ r h => by simp [digest_Proof.j0] at h, fun _ _ _ r h => by simp [digest_Proof.l0] at h⟩
 | k + 1 => by
  obtain ⟨ih0, ih1⟩ := digest_Proof.mono_l k
  refine ⟨?_, ?_⟩
  ·intro y0 y1 y2
   unfold digest_Proof.j0
   repeat' first
   | (with_reducible exact ih0 _ _ _)
   | (with_reducible exact ih1 _ _ _)
   | (with_reducible exact slices_Reverse_string_string.mono _ _)
   | (with_reducible exact LeO.refl _)
   | (with_reducible exact LeO.none _)
   | (with_reducible refine LeO.ite ?_ ?_)
   | (with_reducible refine LeO.bind ?_ (fun _ => ?_))
   | exact ih0 _ _ _
   | exact ih1 _ _ _
   | exact slices_Reverse_string_string.mono _ _
   | exact LeO.none _
   | refine LeO.ite ?_ ?_
   | refine LeO.bind ?_ (fun _ => ?_)
  ·intro y0 y1 y2
   unfold digest_Proof.l0
   repeat' first
   | (with_reducible exact ih0 _ _ _)
   | (with_reducible exact ih1 _ _ _)
   | (with_reducible exact slices_Reverse_string_string.mono _ _)
   | (with_reducible exact LeO.refl _)
   | (with_reducible exact LeO.none _)
   | (with_reducible refine LeO.ite ?_ ?_)
   | (with_reducible refine LeO.bind ?_ (fun _ => ?_))
   | exact ih0 _ _ _
   | exact ih1 _ _ _
   | exact slices_Reverse_string_string.mono _ _
   | exact LeO.none _
   | refine LeO.ite ?_ ?_
   | refine LeO.bind ?_ (fun _ => ?_)
theorem digest_Proof.mono : ∀ a0 a1 k, LeO (digest_Proof.f k a0 a1) (digest_Proof.f (k + 1) a0 a1) := by
 intro a0 a1 k
 obtain ⟨ih0, ih1⟩ := digest_Proof.mono_l k
 unfold digest_Proof.f
 repeat' first
   | (with_reducible exact ih0 _ _ _)
   | (with_reducible exact ih1 _ _ _)
   | (with_reducible exact slices_Reverse_string_string.mono _ _)
   | (with_reducible exact LeO.refl _)
   | (with_reducible exact LeO.none _)
   | (with_reducible refine LeO.ite ?_ ?_)
   | (with_reducible refine LeO.bind ?_ (fun _ => ?_))
   | exact ih0 _ _ _
   | exact ih1 _ _ _
   | exact slices_Reverse_string_string.mono _ _
   | exact LeO.none _
   | refine LeO.ite ?_ ?_
   | refine LeO.bind ?_ (fun _ => ?_)
set_option maxHeartbeats 8000000 in
set_option maxRecDepth 100000 in
theorem digest_Proof.calls (k : Nat) (P0_ : Nat → Prop) (A0 : Option Addr) (c0 : Nat) (l0 : List ByteArray) (a1 : Int) (r1 : List ByteArray) (r2 : Int) (w : World) (hs0 : Kd.V Kd.string 9 w w.heap.size (fun k_ => P0_ k_) (.slice A0 l0.length c0) l0) (hG_ : Amb w) (h : digest_Proof.f k l0 a1 = some (r1, r2)) :
  Calls Tryd.prog 14 #[.slice A0 l0.length c0, .int .i64 a1] w fun e w' => ∃ v0_ : Value, e = .returned (.tuple #[v0_, .int .i64 r2]) ∧ Kd.R Kd.string 9 w' w.heap.size (fun k_ => (w.heap.size ≤ k_)) v0_ r1 ∧ Below w.heap.size w w' := by
 have HO0 := Aside0.mk (show Kd.V Kd.string 9 w w.heap.size (fun k_ => (P0_ k_ ∨ w.heap.size ≤ k_)) (.slice A0 l0.length c0) l0 from Kd.V_mono hs0 (fun k_ hk => .inl hk))
 have HB := Aside0.mk (Below.refl w.heap.size w)
 have H : (if a1 < 0 then (digest_Proof.j0 k l0 a1 true) else (digest_Proof.j0 k l0 a1 (decide (a1 ≥ (l0.length : Int))))) = some (r1, r2) := h
 clear h
 have HC3 := Aside0.mk H
 clear H
 go_enter Tryd.func14, Tryd.ntmps14
 first | apply wp_scope_straight | (go_wp2_with fail; apply wp_scope_straight)
 go_upto_region 1 with (fail)
 repeat (go_quiet (fail); go_upto_region 1 with (fail))
 go_cut [17] (fun v17 wc => ∃ (kq : Nat) (x17_2 : Bool), v17 = .bool x17_2 ∧ Aside0 (digest_Proof.j0 kq l0 a1 x17_2 = some (r1, r2)) ∧ Aside0 (kq ≤ k) ∧ Aside0 (Kd.V Kd.string 9 wc w.heap.size (fun k_ => (P0_ k_ ∨ w.heap.size ≤ k_)) (.slice A0 l0.length c0) l0) ∧ Aside0 (Below w.heap.size w wc))
 case first =>
  have H := HC3.out
  clear HC3
  by_cases c4 : a1 < 0
  ·rw [if_pos c4] at H
   have c4b0 : decide (a1 < 0) = true := decide_eq_true c4
   clear c4
   (first | rw [c4b0] | (simp only [i64_w, i32_w]; rw [c4b0]) | skip)
   have H' := Aside0.mk H
   clear H
   go_wp2
   repeat (go_quiet (fail); try go_wp2)
   go_meet
   case rel => exact ⟨_, (true), (by first | rfl | (simp; done) | (simp [*]; done)), H', ⟨by first | omega | exact Nat.le_refl _⟩, ⟨by (with_reducible repeat (first | apply Kd.V_alloc | apply Kd.V_drewN | apply Kd.V_drew)); exact HO0.out⟩, ⟨by repeat (first | (with_reducible first | exact HB.out | apply below_alloc | apply pw_below_drewN | apply below_drew1) | exact HB.out)⟩⟩
  ·rw [if_neg c4] at H
   have c4b0 : decide (a1 < 0) = false := decide_eq_false c4
   clear c4
   (first | rw [c4b0] | (simp only [i64_w, i32_w]; rw [c4b0]) | skip)
   have H' := Aside0.mk H
   clear H
   go_wp2
   repeat (go_quiet (fail); try go_wp2)
   go_meet
   case rel => exact ⟨_, (decide (a1 ≥ (l0.length : Int))), (by first | rfl | (simp; done) | (simp [*]; done)), H', ⟨by first | omega | exact Nat.le_refl _⟩, ⟨by (with_reducible repeat (first | apply Kd.V_alloc | apply Kd.V_drewN | apply Kd.V_drew)); exact HO0.out⟩, ⟨by repeat (first | (with_reducible first | exact HB.out | apply below_alloc | apply pw_below_drewN | apply below_drew1) | exact HB.out)⟩⟩
 case rest =>
  clear HC3
  try clear c1
  try clear p2
  try clear c4
  try clear c4b0
  obtain ⟨kq, x17_2, rfl, HA, HJ2, HO_0, HB⟩ := hcut
  cases kq with
  | zero => exact absurd HA.out (by simp [digest_Proof.j0])
  | succ kj2 =>
   have H := HA.out
   clear HA
   simp only [digest_Proof.j0] at H
   by_cases c5 : x17_2 = true
   ·subst c5
    have H1 : (some (([] : List ByteArray), 2)) = some (r1, r2) := by rw [if_pos rfl] at H; exact H
    clear H
    have H := H1
    clear H1
    simp only [Option.some.injEq, Prod.mk.injEq] at H
    obtain ⟨rfl, rfl⟩ := H
    go_wp2
    repeat (go_quiet (fail); try go_wp2)
    rw [Exit.noGoto_ret]
    go_ret2
    exact ⟨_, by first | rfl | (simp [errW_none, errW_some] <;> rfl) | (simp [*, errW_none, errW_some] <;> rfl), by first | exact Kd.R_nil _ _ _ _ _ | exact Kd.N_nil _ _ _ _ _ | exact Kd.V_nil _ _ _ _ _ | exact Kd.Q_nil _ _ _ _ _ | exact Kd.S_nil _ _ _ _ _, by repeat (first | (with_reducible first | exact HB.out | apply below_alloc | apply pw_below_drewN | apply below_drew1) | exact HB.out)⟩
   ·replace c5 := Bool.eq_false_iff.mpr c5
    subst c5
    have H1 : (digest_Proof.l0 kj2 l0 a1 ([] : List ByteArray)) = some (r1, r2) := by rw [if_neg (show ¬ (false = true) by decide)] at H; exact H
    clear H
    have H := H1
    clear H1
    have H' := Aside0.mk H
    clear H
    go_wp2
    repeat (go_quiet (fail); try go_wp2)
    all_goals (first | (go_step3; go_wp2) | skip)
    go_loopg [0, 1, 6] kj2 (fun kq v0 v1 v6 w' => ∃ (x0_2 : List ByteArray) (x1_2 : Int) (x6_2 : List ByteArray), v1 = .int .i64 x1_2 ∧ Aside0 (digest_Proof.l0 kq x0_2 x1_2 x6_2 = some (r1, r2)) ∧ Aside0 (kq ≤ kj2) ∧ Aside0 (Kd.V Kd.string 9 w' w.heap.size (fun k_ => (P0_ k_ ∨ w.heap.size ≤ k_) ∧ some k_ ≠ (v6 : Value).ownBlock) v0 x0_2) ∧ Aside0 (Kd.R Kd.string 9 w' w.heap.size (fun k_ => (w.heap.size ≤ k_)) v6 x6_2) ∧ Aside0 (Below w.heap.size w w'))
    case atStart => exact ⟨(l0), (a1), (([] : List ByteArray)), (by first | rfl | (simp; done) | (simp [*]; done)), H', ⟨Nat.le_refl _⟩, ⟨by (with_reducible repeat (first | apply Kd.V_alloc | apply Kd.V_drewN | apply Kd.V_drew)); exact Kd.V_mono HO_0.out (fun _ hk => ⟨hk, (by simp [Value.ownBlock])⟩)⟩, ⟨by first | exact Kd.R_nil _ _ _ _ _ | exact Kd.N_nil _ _ _ _ _ | exact Kd.V_nil _ _ _ _ _ | exact Kd.Q_nil _ _ _ _ _ | exact Kd.S_nil _ _ _ _ _⟩, ⟨by repeat (first | (with_reducible first | exact HB.out | apply below_alloc | apply pw_below_drewN | apply below_drew1) | exact HB.out)⟩⟩
    case round =>
     clear H'
     try clear c1
     try clear p2
     try clear c4
     try clear c4b0
     try clear c5
     try clear p2
     obtain ⟨x0_2, x1_2, x6_2, rfl, HA, HK2, HO_0, HO_6, HB⟩ := hrel
     cases gk with
     | zero => exact absurd HA.out (by simp [digest_Proof.l0])
     | succ k2 =>
      have H := HA.out
      clear HA
      simp only [digest_Proof.l0] at H
      by_cases c6 : (x0_2.length : Int) = 1
      ·rw [if_pos c6] at H
       have c6b0 : ((x0_2.length : Int) == 1) = true := beq_iff_eq.mpr c6
       have c6b1 : ((x0_2.length : Int) != 1) = false := bne_eq_false_iff_eq.mpr c6
       clear c6
       replace H := Option.bind_eq_some_iff.mp H
       obtain ⟨t107, A70, H⟩ := H
       replace H : (some (t107, 0)) = some (r1, r2) := H
       have A7 := Aside0.mk A70
       clear A70
       simp only [Option.some.injEq, Prod.mk.injEq] at H
       obtain ⟨rfl, rfl⟩ := H
       obtain ⟨Ao8, co8, eo8⟩ := Kd.V_slice HO_0.out
       subst eo8
       obtain ⟨Ao9, co9, eo9⟩ := Kd.R_slice HO_6.out
       subst eo9
       go_wp2_with (first | (go_at_call 41; (with_reducible refine (slices_Reverse_string_string.calls k2 (fun k_ => some k_ = (.slice Ao9 x6_2.length co9 : Value).ownBlock) (.slice Ao9 x6_2.length co9) x6_2 t107 w _ ?side1 ?side2 A7.out).mono ?_); (case side1 => repeat (first | (with_reducible first | exact HB.out | apply below_alloc | apply pw_below_drewN | apply below_drew1) | exact HB.out)); (case side2 => exact Kd.R_tight rfl HO_6.out); rintro e w10 ⟨rfl, hy0, hb, hkp⟩; have n0_ := Aside0.mk (Kd.V_mono (ok' := fun k_ => (P0_ k_ ∨ w.heap.size ≤ k_) ∧ some k_ ≠ (.slice Ao9 x6_2.length co9 : Value).ownBlock) (Kd.V_keptB (HO_0.out) hkp (fun k_ hk_ hs_ => (hk_.2) hs_)) (fun k_ hk_ => ⟨hk_.1.1, hk_.1.2⟩)); have n1_ := Aside0.mk (Kd.R_reok rfl hy0 (fun k_ e_ => HO_6.out.1 k_ e_)); have n2_ := Aside0.mk (hb); clear HO_0; clear HO_6; clear HB; have HO_0 := n0_; have HO_6 := n1_; have HB := n2_; clear n0_ n1_ n2_; (try clear hb); (try clear hkp); (try clear hy0)))
       repeat (go_quiet (first | (go_at_call 41; (with_reducible refine (slices_Reverse_string_string.calls k2 (fun k_ => some k_ = (.slice Ao9 x6_2.length co9 : Value).ownBlock) (.slice Ao9 x6_2.length co9) x6_2 t107 w _ ?side1 ?side2 A7.out).mono ?_); (case side1 => repeat (first | (with_reducible first | exact HB.out | apply below_alloc | apply pw_below_drewN | apply below_drew1) | exact HB.out)); (case side2 => exact Kd.R_tight rfl HO_6.out); rintro e w10 ⟨rfl, hy0, hb, hkp⟩; have n0_ := Aside0.mk (Kd.V_mono (ok' := fun k_ => (P0_ k_ ∨ w.heap.size ≤ k_) ∧ some k_ ≠ (.slice Ao9 x6_2.length co9 : Value).ownBlock) (Kd.V_keptB (HO_0.out) hkp (fun k_ hk_ hs_ => (hk_.2) hs_)) (fun k_ hk_ => ⟨hk_.1.1, hk_.1.2⟩)); have n1_ := Aside0.mk (Kd.R_reok rfl hy0 (fun k_ e_ => HO_6.out.1 k_ e_)); have n2_ := Aside0.mk (hb); clear HO_0; clear HO_6; clear HB; have HO_0 := n0_; have HO_6 := n1_; have HB := n2_; clear n0_ n1_ n2_; (try clear hb); (try clear hkp); (try clear hy0))); try go_wp2_with (first | (go_at_call 41; (with_reducible refine (slices_Reverse_string_string.calls k2 (fun k_ => some k_ = (.slice Ao9 x6_2.length co9 : Value).ownBlock) (.slice Ao9 x6_2.length co9) x6_2 t107 w _ ?side1 ?side2 A7.out).mono ?_); (case side1 => repeat (first | (with_reducible first | exact HB.out | apply below_alloc | apply pw_below_drewN | apply below_drew1) | exact HB.out)); (case side2 => exact Kd.R_tight rfl HO_6.out); rintro e w10 ⟨rfl, hy0, hb, hkp⟩; have n0_ := Aside0.mk (Kd.V_mono (ok' := fun k_ => (P0_ k_ ∨ w.heap.size ≤ k_) ∧ some k_ ≠ (.slice Ao9 x6_2.length co9 : Value).ownBlock) (Kd.V_keptB (HO_0.out) hkp (fun k_ hk_ hs_ => (hk_.2) hs_)) (fun k_ hk_ => ⟨hk_.1.1, hk_.1.2⟩)); have n1_ := Aside0.mk (Kd.R_reok rfl hy0 (fun k_ e_ => HO_6.out.1 k_ e_)); have n2_ := Aside0.mk (hb); clear HO_0; clear HO_6; clear HB; have HO_0 := n0_; have HO_6 := n1_; have HB := n2_; clear n0_ n1_ n2_; (try clear hb); (try clear hkp); (try clear hy0))))
       rw [Exit.noGoto_ret]
       go_ret2
       exact ⟨_, by first | rfl | (simp [errW_none, errW_some] <;> rfl) | (simp [*, errW_none, errW_some] <;> rfl), by (with_reducible repeat (first | apply Kd.R_alloc | apply Kd.R_drewN | apply Kd.R_drew)); exact HO_6.out, by repeat (first | (with_reducible first | exact HB.out | apply below_alloc | apply pw_below_drewN | apply below_drew1) | exact HB.out)⟩
      ·rw [if_neg c6] at H
       have c6b0 : ((x0_2.length : Int) == 1) = false := beq_eq_false_iff_ne.mpr c6
       have c6b1 : ((x0_2.length : Int) != 1) = true := bne_iff_ne.mpr c6
       replace H := Option.bind_eq_some_iff.mp H
       obtain ⟨t108, A110, H⟩ := H
       replace H : (if 0 ≤ t108 then (if t108 ≤ (x0_2.length : Int) then ((some (x0_2.take (t108 : Int).toNat : List ByteArray)).bind fun y109 => ((some (x0_2.drop (t108 : Int).toNat : List ByteArray)).bind fun y114 => (if x1_2 ≥ t108 then ((digest_Root.f y109).bind fun t119 => (if x6_2.length < 8796093022208 then (digest_Proof.l0 k2 y114 (wrap64 (x1_2 - t108)) (x6_2 ++ [t119])) else (none))) else ((digest_Root.f y114).bind fun t123 => (if x6_2.length < 8796093022208 then (digest_Proof.l0 k2 y109 x1_2 (x6_2 ++ [t123])) else (none)))))) else (none)) else (none)) = some (r1, r2) := H
       have A11 := Aside0.mk A110
       clear A110
       by_cases c12 : 0 ≤ t108
       ·rw [if_pos c12] at H
        have c12b0 := eq_true c12
        have c12b1 : decide (0 ≤ t108) = true := decide_eq_true c12
        clear c12
        by_cases c13 : t108 ≤ (x0_2.length : Int)
        ·rw [if_pos c13] at H
         have c13b0 := eq_true c13
         have c13b1 : decide (t108 ≤ (x0_2.length : Int)) = true := decide_eq_true c13
         clear c13
         obtain ⟨y109, hy109⟩ : ∃ y_ : List ByteArray, y_ = (x0_2.take (t108 : Int).toNat) := ⟨_, rfl⟩
         replace H : ((some (x0_2.drop (t108 : Int).toNat : List ByteArray)).bind fun y114 => (if x1_2 ≥ t108 then ((digest_Root.f y109).bind fun t119 => (if x6_2.length < 8796093022208 then (digest_Proof.l0 k2 y114 (wrap64 (x1_2 - t108)) (x6_2 ++ [t119])) else (none))) else ((digest_Root.f y114).bind fun t123 => (if x6_2.length < 8796093022208 then (digest_Proof.l0 k2 y109 x1_2 (x6_2 ++ [t123])) else (none))))) = some (r1, r2) := by first | (rw [hy109]; with_reducible exact H) | (have H2_ := (Option.bind_some _ _).symm.trans H; rw [hy109]; with_reducible exact H2_) | (have H2_ := (Option.bind_some _ _).symm.trans H; with_reducible exact H2_) | with_reducible exact H | (rw [hy109]; exact H) | exact H
         have Ny109 := Aside0.mk hy109
         clear hy109
         have c14b0 := eq_true (of_decide_eq_true (by first | (with_reducible assumption) | assumption) : 0 ≤ t108)
         have c15b0 := eq_true (of_decide_eq_true (by first | (with_reducible assumption) | assumption) : t108 ≤ (x0_2.length : Int))
         obtain ⟨y114, hy114⟩ : ∃ y_ : List ByteArray, y_ = (x0_2.drop (t108 : Int).toNat) := ⟨_, rfl⟩
         replace H : (if x1_2 ≥ t108 then ((digest_Root.f y109).bind fun t119 => (if x6_2.length < 8796093022208 then (digest_Proof.l0 k2 y114 (wrap64 (x1_2 - t108)) (x6_2 ++ [t119])) else (none))) else ((digest_Root.f y114).bind fun t123 => (if x6_2.length < 8796093022208 then (digest_Proof.l0 k2 y109 x1_2 (x6_2 ++ [t123])) else (none)))) = some (r1, r2) := by first | (rw [hy114]; with_reducible exact H) | (have H2_ := (Option.bind_some _ _).symm.trans H; rw [hy114]; with_reducible exact H2_) | (have H2_ := (Option.bind_some _ _).symm.trans H; with_reducible exact H2_) | with_reducible exact H | (rw [hy114]; exact H) | exact H
         have Ny114 := Aside0.mk hy114
         clear hy114
         by_cases c16 : x1_2 ≥ t108
         ·rw [if_pos c16] at H
          have c16b0 : decide (t108 ≤ x1_2) = true := decide_eq_true c16
          clear c16
          replace H := Option.bind_eq_some_iff.mp H
          obtain ⟨t119, A170, H⟩ := H
          replace H : (if x6_2.length < 8796093022208 then (digest_Proof.l0 k2 y114 (wrap64 (x1_2 - t108)) (x6_2 ++ [t119])) else (none)) = some (r1, r2) := H
          have A17 := Aside0.mk A170
          clear A170
          by_cases c18 : x6_2.length < 8796093022208
          ·rw [if_pos c18] at H
           have LMc18 := Aside0.mk c18
           clear c18
           obtain ⟨y120, hy120⟩ : ∃ y_ : List ByteArray, y_ = (x6_2 ++ [t119]) := ⟨_, rfl⟩
           replace H : (digest_Proof.l0 k2 y114 (wrap64 (x1_2 - t108)) y120) = some (r1, r2) := by first | (rw [hy120]; with_reducible exact H) | (have H2_ := (Option.bind_some _ _).symm.trans H; rw [hy120]; with_reducible exact H2_) | (have H2_ := (Option.bind_some _ _).symm.trans H; with_reducible exact H2_) | with_reducible exact H | (rw [hy120]; exact H) | exact H
           have Ny120 := Aside0.mk hy120
           clear hy120
           have H' := Aside0.mk H
           clear H
           obtain ⟨Ao19, co19, eo19⟩ := Kd.V_slice HO_0.out
           subst eo19
           go_wp2_with (first | (go_at_call 40; (with_reducible refine (digest_left.calls (x0_2.length : Int) t108 _ A11.out).mono ?_); rintro e w' ⟨rfl, ⟨nd, rfl⟩⟩; (try first | exact ⟨rfl, _, World.drewN_drewN _ _ _⟩ | exact ⟨rfl, _, Eq.trans (World.drewN_drewN _ _ _) (congrArg (World.drewN _) (Nat.add_assoc _ _ _))⟩); have q20 : (t108 : Int) ≤ ((x0_2.length : Int) : Int) := of_decide_eq_true (by first | (with_reducible assumption) | assumption); obtain ⟨i020, hi020, _, hsz20, _⟩ := info_parts info9; have hroom20 : x0_2.length ≤ co19 := (Kd.V_reads' HO_0.out).2.1; have hC20 : Kd.F Kd.string _ _ Ao19 x0_2.length x0_2 := (Kd.V_at (base := w.heap.size) HO_0.out).2.2; have hcut20 := cut_to (P := Tryd.prog) 22 9 .i64 Tryd.underlying22 hi020 Ao19 x0_2.length co19 t108 (of_decide_eq_true (by first | (with_reducible assumption) | assumption)) q20 hroom20; have hr20 := Kd.F_take (m := (t108 : Int).toNat) hC20 (by omega); have hy20 : y109.length = (t108 : Int).toNat := (by rw [Ny109.out, List.length_take]; omega); rw [← Ny109.out] at hr20; rw [← hy20] at hcut20; have HO113 := Aside0.mk (show Kd.V Kd.string 9 _ w.heap.size _ (.slice Ao19 y109.length co19) y109 from Kd.V_mk (by omega) hr20); have HC113 := Aside0.mk (show y109.length ≤ co19 from by omega); clear hr20 hC20 hroom20 hi020 hsz20; have KY20 := Aside0.mk hy20; clear hy20; replace q20 := eq_true q20; have q21 : (t108 : Int) ≤ ((x0_2.length : Int) : Int) := of_decide_eq_true (by first | (with_reducible assumption) | assumption); obtain ⟨i021, hi021, _, hsz21, _⟩ := info_parts info9; have hroom21 : x0_2.length ≤ co19 := (Kd.V_reads' HO_0.out).2.1; have hC21 : Kd.F Kd.string _ _ Ao19 x0_2.length x0_2 := (Kd.V_at (base := w.heap.size) HO_0.out).2.2; have q021 : (0 : Int) ≤ (t108 : Int) := of_decide_eq_true (by first | (with_reducible assumption) | assumption); have hcut21 := cut_from (P := Tryd.prog) 22 9 .i64 Tryd.underlying22 hi021 1 hsz21 Ao19 x0_2.length co19 t108 q021 q21; have hr21 := Kd.F_cut (m := (t108 : Int).toNat) (c := co19) hC21 (by omega) hroom21; obtain ⟨A21, hA21⟩ : ∃ A1, A1 = (if co19 = (t108 : Int).toNat then Ao19 else (Ao19 : Option Addr).map (·.add ((t108 : Int).toNat * 1))) := ⟨_, rfl⟩; obtain ⟨c21, hc21⟩ : ∃ c1, c1 = co19 - (t108 : Int).toNat := ⟨_, rfl⟩; have hy21 : y114.length = x0_2.length - (t108 : Int).toNat := (by rw [Ny114.out, List.length_drop] <;> omega); rw [show (x0_2).drop (t108 : Int).toNat = y114 from Ny114.out.symm] at hr21; replace hr21 : Kd.F Kd.string _ _ A21 y114.length y114 := (by rw [hA21]; exact hr21); rw [← hy21, ← hA21, ← hc21] at hcut21; have HO118 := Aside0.mk (show Kd.V Kd.string 9 _ w.heap.size _ (.slice A21 y114.length c21) y114 from Kd.V_mk (by rw [hy21, hc21]; exact Nat.sub_le_sub_right hroom21 _) hr21); have HC118 := Aside0.mk (show y114.length ≤ c21 from by rw [hy21, hc21]; exact Nat.sub_le_sub_right hroom21 _); clear hr21 hC21 hroom21 hi021 hsz21 hc21; have KY21 := Aside0.mk hy21; have KA21 := Aside0.mk hA21; clear hy21 hA21; replace q21 := eq_true q21) | (go_at_call 19; (with_reducible refine (digest_Root.calls _ _ y109 t119 _ ?side1 ?side2 ?side3 A17.out).mono ?_); (case side1 => repeat (first | exact (Kd.V_reads' HO113.out).2.2 | (with_reducible refine Kd.C_alloc ?_ _) | (with_reducible refine Kd.C_drewN ?_ _) | (with_reducible refine Kd.C_drew ?_))); (case side2 => exact (Kd.V_reads' HO113.out).2.1); (case side3 => exact Amb.below hG_ (by repeat (first | (with_reducible first | exact HB.out | apply below_alloc | apply pw_below_drewN | apply below_drew1) | exact HB.out))); rintro e w22 ⟨rfl, hb⟩; have n0_ := Aside0.mk (Kd.V_below (by (with_reducible repeat (first | apply Kd.V_alloc | apply Kd.V_drewN | apply Kd.V_drew)); exact HO_0.out) hb); have n1_ := Aside0.mk (Kd.R_below (by (with_reducible repeat (first | apply Kd.R_alloc | apply Kd.R_drewN | apply Kd.R_drew)); exact HO_6.out) hb); have n2_ := Aside0.mk (Kd.V_below (by (with_reducible repeat (first | apply Kd.V_alloc | apply Kd.V_drewN | apply Kd.V_drew)); exact HO113.out) hb); have n3_ := Aside0.mk (Kd.V_below (by (with_reducible repeat (first | apply Kd.V_alloc | apply Kd.V_drewN | apply Kd.V_drew)); exact HO118.out) hb); have n4_ := Aside0.mk (below_step (by repeat (first | (with_reducible first | exact HB.out | apply below_alloc | apply pw_below_drewN | apply below_drew1) | exact HB.out)) hb); clear HO_0; clear HO_6; clear HO113; clear HO118; clear HB; have HO_0 := n0_; have HO_6 := n1_; have HO113 := n2_; have HO118 := n3_; have HB := n4_; clear n0_ n1_ n2_ n3_ n4_; (try clear hb); (try clear hb2); (try clear hk); (try clear hi)) | ((with_reducible refine gate_builtin (b := .append) (xs := #[.tmp 38, .tmp 41]) rfl ?_); (try (refine gate_guard (by rfl) ?_; dsimp only)); at_builtin; refine Kd.R_append Kd.string (w0 := w) w.heap.size rfl (.tmp 38) (.tmp 41) 22 9 (.string ⟨#[]⟩) 16 rfl Tryd.underlying22 info9 rfl (by decide) (by omega) u6 x6_2 t119 [.string t119] (fun k_ => (w.heap.size ≤ k_)) (fun _ => False) rfl rfl ?aP (fun _ hk => hk.elim) ?aF ?aO ?aB ?aS ?aL ?_; (case aP => exact rfl); (case aB => exact (by repeat (first | (with_reducible first | exact HB.out | apply below_alloc | apply pw_below_drewN | apply below_drew1) | exact HB.out))); (case aF => exact (fun k_ hk => (Nat.le_trans (below_size (by repeat (first | (with_reducible first | exact HB.out | apply below_alloc | apply pw_below_drewN | apply below_drew1) | exact HB.out))) hk))); (case aO => exact (by (with_reducible repeat (first | apply Kd.R_alloc | apply Kd.R_drewN | apply Kd.R_drew)); exact HO_6.out)); (case aS => exact (below_size (by repeat (first | (with_reducible first | exact HB.out | apply below_alloc | apply pw_below_drewN | apply below_drew1) | exact HB.out)))); (case aL => have := LMc18.out; omega); intro v121 w23 ho hb hg hat; rw [← Ny120.out] at ho; have n0_ := Aside0.mk (Kd.V_afterv (ok := (fun k_ => (P0_ k_ ∨ w.heap.size ≤ k_))) (by (with_reducible repeat (first | apply Kd.V_alloc | apply Kd.V_drewN | apply Kd.V_drew)); exact HO_0.out) hg hat); have n1_ := Aside0.mk (Kd.V_afterv (ok := (fun k_ => (P0_ k_ ∨ w.heap.size ≤ k_))) (by (with_reducible repeat (first | apply Kd.V_alloc | apply Kd.V_drewN | apply Kd.V_drew)); exact HO113.out) hg hat); have n2_ := Aside0.mk (Kd.V_afterv (ok := (fun k_ => (P0_ k_ ∨ w.heap.size ≤ k_))) (by (with_reducible repeat (first | apply Kd.V_alloc | apply Kd.V_drewN | apply Kd.V_drew)); exact HO118.out) hg hat); have n3_ := Aside0.mk (hb); have n4_ := Aside0.mk (ho); clear HO_0; clear HO113; clear HO118; clear HB; clear HO_6; have HO_0 := n0_; have HO113 := n1_; have HO118 := n2_; have HB := n3_; have HO122 := n4_; clear n0_ n1_ n2_ n3_ n4_; clear ho hb hg hat))
           repeat (go_quiet (first | (go_at_call 40; (with_reducible refine (digest_left.calls (x0_2.length : Int) t108 _ A11.out).mono ?_); rintro e w' ⟨rfl, ⟨nd, rfl⟩⟩; (try first | exact ⟨rfl, _, World.drewN_drewN _ _ _⟩ | exact ⟨rfl, _, Eq.trans (World.drewN_drewN _ _ _) (congrArg (World.drewN _) (Nat.add_assoc _ _ _))⟩); have q20 : (t108 : Int) ≤ ((x0_2.length : Int) : Int) := of_decide_eq_true (by first | (with_reducible assumption) | assumption); obtain ⟨i020, hi020, _, hsz20, _⟩ := info_parts info9; have hroom20 : x0_2.length ≤ co19 := (Kd.V_reads' HO_0.out).2.1; have hC20 : Kd.F Kd.string _ _ Ao19 x0_2.length x0_2 := (Kd.V_at (base := w.heap.size) HO_0.out).2.2; have hcut20 := cut_to (P := Tryd.prog) 22 9 .i64 Tryd.underlying22 hi020 Ao19 x0_2.length co19 t108 (of_decide_eq_true (by first | (with_reducible assumption) | assumption)) q20 hroom20; have hr20 := Kd.F_take (m := (t108 : Int).toNat) hC20 (by omega); have hy20 : y109.length = (t108 : Int).toNat := (by rw [Ny109.out, List.length_take]; omega); rw [← Ny109.out] at hr20; rw [← hy20] at hcut20; have HO113 := Aside0.mk (show Kd.V Kd.string 9 _ w.heap.size _ (.slice Ao19 y109.length co19) y109 from Kd.V_mk (by omega) hr20); have HC113 := Aside0.mk (show y109.length ≤ co19 from by omega); clear hr20 hC20 hroom20 hi020 hsz20; have KY20 := Aside0.mk hy20; clear hy20; replace q20 := eq_true q20; have q21 : (t108 : Int) ≤ ((x0_2.length : Int) : Int) := of_decide_eq_true (by first | (with_reducible assumption) | assumption); obtain ⟨i021, hi021, _, hsz21, _⟩ := info_parts info9; have hroom21 : x0_2.length ≤ co19 := (Kd.V_reads' HO_0.out).2.1; have hC21 : Kd.F Kd.string _ _ Ao19 x0_2.length x0_2 := (Kd.V_at (base := w.heap.size) HO_0.out).2.2; have q021 : (0 : Int) ≤ (t108 : Int) := of_decide_eq_true (by first | (with_reducible assumption) | assumption); have hcut21 := cut_from (P := Tryd.prog) 22 9 .i64 Tryd.underlying22 hi021 1 hsz21 Ao19 x0_2.length co19 t108 q021 q21; have hr21 := Kd.F_cut (m := (t108 : Int).toNat) (c := co19) hC21 (by omega) hroom21; obtain ⟨A21, hA21⟩ : ∃ A1, A1 = (if co19 = (t108 : Int).toNat then Ao19 else (Ao19 : Option Addr).map (·.add ((t108 : Int).toNat * 1))) := ⟨_, rfl⟩; obtain ⟨c21, hc21⟩ : ∃ c1, c1 = co19 - (t108 : Int).toNat := ⟨_, rfl⟩; have hy21 : y114.length = x0_2.length - (t108 : Int).toNat := (by rw [Ny114.out, List.length_drop] <;> omega); rw [show (x0_2).drop (t108 : Int).toNat = y114 from Ny114.out.symm] at hr21; replace hr21 : Kd.F Kd.string _ _ A21 y114.length y114 := (by rw [hA21]; exact hr21); rw [← hy21, ← hA21, ← hc21] at hcut21; have HO118 := Aside0.mk (show Kd.V Kd.string 9 _ w.heap.size _ (.slice A21 y114.length c21) y114 from Kd.V_mk (by rw [hy21, hc21]; exact Nat.sub_le_sub_right hroom21 _) hr21); have HC118 := Aside0.mk (show y114.length ≤ c21 from by rw [hy21, hc21]; exact Nat.sub_le_sub_right hroom21 _); clear hr21 hC21 hroom21 hi021 hsz21 hc21; have KY21 := Aside0.mk hy21; have KA21 := Aside0.mk hA21; clear hy21 hA21; replace q21 := eq_true q21) | (go_at_call 19; (with_reducible refine (digest_Root.calls _ _ y109 t119 _ ?side1 ?side2 ?side3 A17.out).mono ?_); (case side1 => repeat (first | exact (Kd.V_reads' HO113.out).2.2 | (with_reducible refine Kd.C_alloc ?_ _) | (with_reducible refine Kd.C_drewN ?_ _) | (with_reducible refine Kd.C_drew ?_))); (case side2 => exact (Kd.V_reads' HO113.out).2.1); (case side3 => exact Amb.below hG_ (by repeat (first | (with_reducible first | exact HB.out | apply below_alloc | apply pw_below_drewN | apply below_drew1) | exact HB.out))); rintro e w22 ⟨rfl, hb⟩; have n0_ := Aside0.mk (Kd.V_below (by (with_reducible repeat (first | apply Kd.V_alloc | apply Kd.V_drewN | apply Kd.V_drew)); exact HO_0.out) hb); have n1_ := Aside0.mk (Kd.R_below (by (with_reducible repeat (first | apply Kd.R_alloc | apply Kd.R_drewN | apply Kd.R_drew)); exact HO_6.out) hb); have n2_ := Aside0.mk (Kd.V_below (by (with_reducible repeat (first | apply Kd.V_alloc | apply Kd.V_drewN | apply Kd.V_drew)); exact HO113.out) hb); have n3_ := Aside0.mk (Kd.V_below (by (with_reducible repeat (first | apply Kd.V_alloc | apply Kd.V_drewN | apply Kd.V_drew)); exact HO118.out) hb); have n4_ := Aside0.mk (below_step (by repeat (first | (with_reducible first | exact HB.out | apply below_alloc | apply pw_below_drewN | apply below_drew1) | exact HB.out)) hb); clear HO_0; clear HO_6; clear HO113; clear HO118; clear HB; have HO_0 := n0_; have HO_6 := n1_; have HO113 := n2_; have HO118 := n3_; have HB := n4_; clear n0_ n1_ n2_ n3_ n4_; (try clear hb); (try clear hb2); (try clear hk); (try clear hi)) | ((with_reducible refine gate_builtin (b := .append) (xs := #[.tmp 38, .tmp 41]) rfl ?_); (try (refine gate_guard (by rfl) ?_; dsimp only)); at_builtin; refine Kd.R_append Kd.string (w0 := w) w.heap.size rfl (.tmp 38) (.tmp 41) 22 9 (.string ⟨#[]⟩) 16 rfl Tryd.underlying22 info9 rfl (by decide) (by omega) u6 x6_2 t119 [.string t119] (fun k_ => (w.heap.size ≤ k_)) (fun _ => False) rfl rfl ?aP (fun _ hk => hk.elim) ?aF ?aO ?aB ?aS ?aL ?_; (case aP => exact rfl); (case aB => exact (by repeat (first | (with_reducible first | exact HB.out | apply below_alloc | apply pw_below_drewN | apply below_drew1) | exact HB.out))); (case aF => exact (fun k_ hk => (Nat.le_trans (below_size (by repeat (first | (with_reducible first | exact HB.out | apply below_alloc | apply pw_below_drewN | apply below_drew1) | exact HB.out))) hk))); (case aO => exact (by (with_reducible repeat (first | apply Kd.R_alloc | apply Kd.R_drewN | apply Kd.R_drew)); exact HO_6.out)); (case aS => exact (below_size (by repeat (first | (with_reducible first | exact HB.out | apply below_alloc | apply pw_below_drewN | apply below_drew1) | exact HB.out)))); (case aL => have := LMc18.out; omega); intro v121 w23 ho hb hg hat; rw [← Ny120.out] at ho; have n0_ := Aside0.mk (Kd.V_afterv (ok := (fun k_ => (P0_ k_ ∨ w.heap.size ≤ k_))) (by (with_reducible repeat (first | apply Kd.V_alloc | apply Kd.V_drewN | apply Kd.V_drew)); exact HO_0.out) hg hat); have n1_ := Aside0.mk (Kd.V_afterv (ok := (fun k_ => (P0_ k_ ∨ w.heap.size ≤ k_))) (by (with_reducible repeat (first | apply Kd.V_alloc | apply Kd.V_drewN | apply Kd.V_drew)); exact HO113.out) hg hat); have n2_ := Aside0.mk (Kd.V_afterv (ok := (fun k_ => (P0_ k_ ∨ w.heap.size ≤ k_))) (by (with_reducible repeat (first | apply Kd.V_alloc | apply Kd.V_drewN | apply Kd.V_drew)); exact HO118.out) hg hat); have n3_ := Aside0.mk (hb); have n4_ := Aside0.mk (ho); clear HO_0; clear HO113; clear HO118; clear HB; clear HO_6; have HO_0 := n0_; have HO113 := n1_; have HO118 := n2_; have HB := n3_; have HO122 := n4_; clear n0_ n1_ n2_ n3_ n4_; clear ho hb hg hat)); try go_wp2_with (first | (go_at_call 40; (with_reducible refine (digest_left.calls (x0_2.length : Int) t108 _ A11.out).mono ?_); rintro e w' ⟨rfl, ⟨nd, rfl⟩⟩; (try first | exact ⟨rfl, _, World.drewN_drewN _ _ _⟩ | exact ⟨rfl, _, Eq.trans (World.drewN_drewN _ _ _) (congrArg (World.drewN _) (Nat.add_assoc _ _ _))⟩); have q20 : (t108 : Int) ≤ ((x0_2.length : Int) : Int) := of_decide_eq_true (by first | (with_reducible assumption) | assumption); obtain ⟨i020, hi020, _, hsz20, _⟩ := info_parts info9; have hroom20 : x0_2.length ≤ co19 := (Kd.V_reads' HO_0.out).2.1; have hC20 : Kd.F Kd.string _ _ Ao19 x0_2.length x0_2 := (Kd.V_at (base := w.heap.size) HO_0.out).2.2; have hcut20 := cut_to (P := Tryd.prog) 22 9 .i64 Tryd.underlying22 hi020 Ao19 x0_2.length co19 t108 (of_decide_eq_true (by first | (with_reducible assumption) | assumption)) q20 hroom20; have hr20 := Kd.F_take (m := (t108 : Int).toNat) hC20 (by omega); have hy20 : y109.length = (t108 : Int).toNat := (by rw [Ny109.out, List.length_take]; omega); rw [← Ny109.out] at hr20; rw [← hy20] at hcut20; have HO113 := Aside0.mk (show Kd.V Kd.string 9 _ w.heap.size _ (.slice Ao19 y109.length co19) y109 from Kd.V_mk (by omega) hr20); have HC113 := Aside0.mk (show y109.length ≤ co19 from by omega); clear hr20 hC20 hroom20 hi020 hsz20; have KY20 := Aside0.mk hy20; clear hy20; replace q20 := eq_true q20; have q21 : (t108 : Int) ≤ ((x0_2.length : Int) : Int) := of_decide_eq_true (by first | (with_reducible assumption) | assumption); obtain ⟨i021, hi021, _, hsz21, _⟩ := info_parts info9; have hroom21 : x0_2.length ≤ co19 := (Kd.V_reads' HO_0.out).2.1; have hC21 : Kd.F Kd.string _ _ Ao19 x0_2.length x0_2 := (Kd.V_at (base := w.heap.size) HO_0.out).2.2; have q021 : (0 : Int) ≤ (t108 : Int) := of_decide_eq_true (by first | (with_reducible assumption) | assumption); have hcut21 := cut_from (P := Tryd.prog) 22 9 .i64 Tryd.underlying22 hi021 1 hsz21 Ao19 x0_2.length co19 t108 q021 q21; have hr21 := Kd.F_cut (m := (t108 : Int).toNat) (c := co19) hC21 (by omega) hroom21; obtain ⟨A21, hA21⟩ : ∃ A1, A1 = (if co19 = (t108 : Int).toNat then Ao19 else (Ao19 : Option Addr).map (·.add ((t108 : Int).toNat * 1))) := ⟨_, rfl⟩; obtain ⟨c21, hc21⟩ : ∃ c1, c1 = co19 - (t108 : Int).toNat := ⟨_, rfl⟩; have hy21 : y114.length = x0_2.length - (t108 : Int).toNat := (by rw [Ny114.out, List.length_drop] <;> omega); rw [show (x0_2).drop (t108 : Int).toNat = y114 from Ny114.out.symm] at hr21; replace hr21 : Kd.F Kd.string _ _ A21 y114.length y114 := (by rw [hA21]; exact hr21); rw [← hy21, ← hA21, ← hc21] at hcut21; have HO118 := Aside0.mk (show Kd.V Kd.string 9 _ w.heap.size _ (.slice A21 y114.length c21) y114 from Kd.V_mk (by rw [hy21, hc21]; exact Nat.sub_le_sub_right hroom21 _) hr21); have HC118 := Aside0.mk (show y114.length ≤ c21 from by rw [hy21, hc21]; exact Nat.sub_le_sub_right hroom21 _); clear hr21 hC21 hroom21 hi021 hsz21 hc21; have KY21 := Aside0.mk hy21; have KA21 := Aside0.mk hA21; clear hy21 hA21; replace q21 := eq_true q21) | (go_at_call 19; (with_reducible refine (digest_Root.calls _ _ y109 t119 _ ?side1 ?side2 ?side3 A17.out).mono ?_); (case side1 => repeat (first | exact (Kd.V_reads' HO113.out).2.2 | (with_reducible refine Kd.C_alloc ?_ _) | (with_reducible refine Kd.C_drewN ?_ _) | (with_reducible refine Kd.C_drew ?_))); (case side2 => exact (Kd.V_reads' HO113.out).2.1); (case side3 => exact Amb.below hG_ (by repeat (first | (with_reducible first | exact HB.out | apply below_alloc | apply pw_below_drewN | apply below_drew1) | exact HB.out))); rintro e w22 ⟨rfl, hb⟩; have n0_ := Aside0.mk (Kd.V_below (by (with_reducible repeat (first | apply Kd.V_alloc | apply Kd.V_drewN | apply Kd.V_drew)); exact HO_0.out) hb); have n1_ := Aside0.mk (Kd.R_below (by (with_reducible repeat (first | apply Kd.R_alloc | apply Kd.R_drewN | apply Kd.R_drew)); exact HO_6.out) hb); have n2_ := Aside0.mk (Kd.V_below (by (with_reducible repeat (first | apply Kd.V_alloc | apply Kd.V_drewN | apply Kd.V_drew)); exact HO113.out) hb); have n3_ := Aside0.mk (Kd.V_below (by (with_reducible repeat (first | apply Kd.V_alloc | apply Kd.V_drewN | apply Kd.V_drew)); exact HO118.out) hb); have n4_ := Aside0.mk (below_step (by repeat (first | (with_reducible first | exact HB.out | apply below_alloc | apply pw_below_drewN | apply below_drew1) | exact HB.out)) hb); clear HO_0; clear HO_6; clear HO113; clear HO118; clear HB; have HO_0 := n0_; have HO_6 := n1_; have HO113 := n2_; have HO118 := n3_; have HB := n4_; clear n0_ n1_ n2_ n3_ n4_; (try clear hb); (try clear hb2); (try clear hk); (try clear hi)) | ((with_reducible refine gate_builtin (b := .append) (xs := #[.tmp 38, .tmp 41]) rfl ?_); (try (refine gate_guard (by rfl) ?_; dsimp only)); at_builtin; refine Kd.R_append Kd.string (w0 := w) w.heap.size rfl (.tmp 38) (.tmp 41) 22 9 (.string ⟨#[]⟩) 16 rfl Tryd.underlying22 info9 rfl (by decide) (by omega) u6 x6_2 t119 [.string t119] (fun k_ => (w.heap.size ≤ k_)) (fun _ => False) rfl rfl ?aP (fun _ hk => hk.elim) ?aF ?aO ?aB ?aS ?aL ?_; (case aP => exact rfl); (case aB => exact (by repeat (first | (with_reducible first | exact HB.out | apply below_alloc | apply pw_below_drewN | apply below_drew1) | exact HB.out))); (case aF => exact (fun k_ hk => (Nat.le_trans (below_size (by repeat (first | (with_reducible first | exact HB.out | apply below_alloc | apply pw_below_drewN | apply below_drew1) | exact HB.out))) hk))); (case aO => exact (by (with_reducible repeat (first | apply Kd.R_alloc | apply Kd.R_drewN | apply Kd.R_drew)); exact HO_6.out)); (case aS => exact (below_size (by repeat (first | (with_reducible first | exact HB.out | apply below_alloc | apply pw_below_drewN | apply below_drew1) | exact HB.out)))); (case aL => have := LMc18.out; omega); intro v121 w23 ho hb hg hat; rw [← Ny120.out] at ho; have n0_ := Aside0.mk (Kd.V_afterv (ok := (fun k_ => (P0_ k_ ∨ w.heap.size ≤ k_))) (by (with_reducible repeat (first | apply Kd.V_alloc | apply Kd.V_drewN | apply Kd.V_drew)); exact HO_0.out) hg hat); have n1_ := Aside0.mk (Kd.V_afterv (ok := (fun k_ => (P0_ k_ ∨ w.heap.size ≤ k_))) (by (with_reducible repeat (first | apply Kd.V_alloc | apply Kd.V_drewN | apply Kd.V_drew)); exact HO113.out) hg hat); have n2_ := Aside0.mk (Kd.V_afterv (ok := (fun k_ => (P0_ k_ ∨ w.heap.size ≤ k_))) (by (with_reducible repeat (first | apply Kd.V_alloc | apply Kd.V_drewN | apply Kd.V_drew)); exact HO118.out) hg hat); have n3_ := Aside0.mk (hb); have n4_ := Aside0.mk (ho); clear HO_0; clear HO113; clear HO118; clear HB; clear HO_6; have HO_0 := n0_; have HO113 := n1_; have HO118 := n2_; have HB := n3_; have HO122 := n4_; clear n0_ n1_ n2_ n3_ n4_; clear ho hb hg hat)))
           go_roundg k2
           case measure => have := HJ2.out; have := HK2.out; omega
           case rel => exact ⟨(y114), (wrap64 (x1_2 - t108)), (y120), (by first | rfl | (simp; done) | (simp [*]; done)), H', ⟨by have := HJ2.out; have := HK2.out; omega⟩, ⟨by (with_reducible repeat (first | apply Kd.V_alloc | apply Kd.V_drewN | apply Kd.V_drew)); exact HO118.out⟩, ⟨by (with_reducible repeat (first | apply Kd.R_alloc | apply Kd.R_drewN | apply Kd.R_drew)); exact HO122.out⟩, ⟨by repeat (first | (with_reducible first | exact HB.out | apply below_alloc | apply pw_below_drewN | apply below_drew1) | exact HB.out)⟩⟩
          ·rw [if_neg c18] at H
           exact absurd H (by simp)
         ·rw [if_neg c16] at H
          have c16b0 : decide (t108 ≤ x1_2) = false := decide_eq_false c16
          clear c16
          replace H := Option.bind_eq_some_iff.mp H
          obtain ⟨t123, A240, H⟩ := H
          replace H : (if x6_2.length < 8796093022208 then (digest_Proof.l0 k2 y109 x1_2 (x6_2 ++ [t123])) else (none)) = some (r1, r2) := H
          have A24 := Aside0.mk A240
          clear A240
          by_cases c25 : x6_2.length < 8796093022208
          ·rw [if_pos c25] at H
           have LMc25 := Aside0.mk c25
           clear c25
           obtain ⟨y124, hy124⟩ : ∃ y_ : List ByteArray, y_ = (x6_2 ++ [t123]) := ⟨_, rfl⟩
           replace H : (digest_Proof.l0 k2 y109 x1_2 y124) = some (r1, r2) := by first | (rw [hy124]; with_reducible exact H) | (have H2_ := (Option.bind_some _ _).symm.trans H; rw [hy124]; with_reducible exact H2_) | (have H2_ := (Option.bind_some _ _).symm.trans H; with_reducible exact H2_) | with_reducible exact H | (rw [hy124]; exact H) | exact H
           have Ny124 := Aside0.mk hy124
           clear hy124
           have H' := Aside0.mk H
           clear H
           obtain ⟨Ao26, co26, eo26⟩ := Kd.V_slice HO_0.out
           subst eo26
           go_wp2_with (first | (go_at_call 40; (with_reducible refine (digest_left.calls (x0_2.length : Int) t108 _ A11.out).mono ?_); rintro e w' ⟨rfl, ⟨nd, rfl⟩⟩; (try first | exact ⟨rfl, _, World.drewN_drewN _ _ _⟩ | exact ⟨rfl, _, Eq.trans (World.drewN_drewN _ _ _) (congrArg (World.drewN _) (Nat.add_assoc _ _ _))⟩); have q27 : (t108 : Int) ≤ ((x0_2.length : Int) : Int) := of_decide_eq_true (by first | (with_reducible assumption) | assumption); obtain ⟨i027, hi027, _, hsz27, _⟩ := info_parts info9; have hroom27 : x0_2.length ≤ co26 := (Kd.V_reads' HO_0.out).2.1; have hC27 : Kd.F Kd.string _ _ Ao26 x0_2.length x0_2 := (Kd.V_at (base := w.heap.size) HO_0.out).2.2; have hcut27 := cut_to (P := Tryd.prog) 22 9 .i64 Tryd.underlying22 hi027 Ao26 x0_2.length co26 t108 (of_decide_eq_true (by first | (with_reducible assumption) | assumption)) q27 hroom27; have hr27 := Kd.F_take (m := (t108 : Int).toNat) hC27 (by omega); have hy27 : y109.length = (t108 : Int).toNat := (by rw [Ny109.out, List.length_take]; omega); rw [← Ny109.out] at hr27; rw [← hy27] at hcut27; have HO113 := Aside0.mk (show Kd.V Kd.string 9 _ w.heap.size _ (.slice Ao26 y109.length co26) y109 from Kd.V_mk (by omega) hr27); have HC113 := Aside0.mk (show y109.length ≤ co26 from by omega); clear hr27 hC27 hroom27 hi027 hsz27; have KY27 := Aside0.mk hy27; clear hy27; replace q27 := eq_true q27; have q28 : (t108 : Int) ≤ ((x0_2.length : Int) : Int) := of_decide_eq_true (by first | (with_reducible assumption) | assumption); obtain ⟨i028, hi028, _, hsz28, _⟩ := info_parts info9; have hroom28 : x0_2.length ≤ co26 := (Kd.V_reads' HO_0.out).2.1; have hC28 : Kd.F Kd.string _ _ Ao26 x0_2.length x0_2 := (Kd.V_at (base := w.heap.size) HO_0.out).2.2; have q028 : (0 : Int) ≤ (t108 : Int) := of_decide_eq_true (by first | (with_reducible assumption) | assumption); have hcut28 := cut_from (P := Tryd.prog) 22 9 .i64 Tryd.underlying22 hi028 1 hsz28 Ao26 x0_2.length co26 t108 q028 q28; have hr28 := Kd.F_cut (m := (t108 : Int).toNat) (c := co26) hC28 (by omega) hroom28; obtain ⟨A28, hA28⟩ : ∃ A1, A1 = (if co26 = (t108 : Int).toNat then Ao26 else (Ao26 : Option Addr).map (·.add ((t108 : Int).toNat * 1))) := ⟨_, rfl⟩; obtain ⟨c28, hc28⟩ : ∃ c1, c1 = co26 - (t108 : Int).toNat := ⟨_, rfl⟩; have hy28 : y114.length = x0_2.length - (t108 : Int).toNat := (by rw [Ny114.out, List.length_drop] <;> omega); rw [show (x0_2).drop (t108 : Int).toNat = y114 from Ny114.out.symm] at hr28; replace hr28 : Kd.F Kd.string _ _ A28 y114.length y114 := (by rw [hA28]; exact hr28); rw [← hy28, ← hA28, ← hc28] at hcut28; have HO118 := Aside0.mk (show Kd.V Kd.string 9 _ w.heap.size _ (.slice A28 y114.length c28) y114 from Kd.V_mk (by rw [hy28, hc28]; exact Nat.sub_le_sub_right hroom28 _) hr28); have HC118 := Aside0.mk (show y114.length ≤ c28 from by rw [hy28, hc28]; exact Nat.sub_le_sub_right hroom28 _); clear hr28 hC28 hroom28 hi028 hsz28 hc28; have KY28 := Aside0.mk hy28; have KA28 := Aside0.mk hA28; clear hy28 hA28; replace q28 := eq_true q28) | (go_at_call 19; (with_reducible refine (digest_Root.calls _ _ y114 t123 _ ?side1 ?side2 ?side3 A24.out).mono ?_); (case side1 => repeat (first | exact (Kd.V_reads' HO118.out).2.2 | (with_reducible refine Kd.C_alloc ?_ _) | (with_reducible refine Kd.C_drewN ?_ _) | (with_reducible refine Kd.C_drew ?_))); (case side2 => exact (Kd.V_reads' HO118.out).2.1); (case side3 => exact Amb.below hG_ (by repeat (first | (with_reducible first | exact HB.out | apply below_alloc | apply pw_below_drewN | apply below_drew1) | exact HB.out))); rintro e w29 ⟨rfl, hb⟩; have n0_ := Aside0.mk (Kd.V_below (by (with_reducible repeat (first | apply Kd.V_alloc | apply Kd.V_drewN | apply Kd.V_drew)); exact HO_0.out) hb); have n1_ := Aside0.mk (Kd.R_below (by (with_reducible repeat (first | apply Kd.R_alloc | apply Kd.R_drewN | apply Kd.R_drew)); exact HO_6.out) hb); have n2_ := Aside0.mk (Kd.V_below (by (with_reducible repeat (first | apply Kd.V_alloc | apply Kd.V_drewN | apply Kd.V_drew)); exact HO113.out) hb); have n3_ := Aside0.mk (Kd.V_below (by (with_reducible repeat (first | apply Kd.V_alloc | apply Kd.V_drewN | apply Kd.V_drew)); exact HO118.out) hb); have n4_ := Aside0.mk (below_step (by repeat (first | (with_reducible first | exact HB.out | apply below_alloc | apply pw_below_drewN | apply below_drew1) | exact HB.out)) hb); clear HO_0; clear HO_6; clear HO113; clear HO118; clear HB; have HO_0 := n0_; have HO_6 := n1_; have HO113 := n2_; have HO118 := n3_; have HB := n4_; clear n0_ n1_ n2_ n3_ n4_; (try clear hb); (try clear hb2); (try clear hk); (try clear hi)) | ((with_reducible refine gate_builtin (b := .append) (xs := #[.tmp 38, .tmp 41]) rfl ?_); (try (refine gate_guard (by rfl) ?_; dsimp only)); at_builtin; refine Kd.R_append Kd.string (w0 := w) w.heap.size rfl (.tmp 38) (.tmp 41) 22 9 (.string ⟨#[]⟩) 16 rfl Tryd.underlying22 info9 rfl (by decide) (by omega) u6 x6_2 t123 [.string t123] (fun k_ => (w.heap.size ≤ k_)) (fun _ => False) rfl rfl ?aP (fun _ hk => hk.elim) ?aF ?aO ?aB ?aS ?aL ?_; (case aP => exact rfl); (case aB => exact (by repeat (first | (with_reducible first | exact HB.out | apply below_alloc | apply pw_below_drewN | apply below_drew1) | exact HB.out))); (case aF => exact (fun k_ hk => (Nat.le_trans (below_size (by repeat (first | (with_reducible first | exact HB.out | apply below_alloc | apply pw_below_drewN | apply below_drew1) | exact HB.out))) hk))); (case aO => exact (by (with_reducible repeat (first | apply Kd.R_alloc | apply Kd.R_drewN | apply Kd.R_drew)); exact HO_6.out)); (case aS => exact (below_size (by repeat (first | (with_reducible first | exact HB.out | apply below_alloc | apply pw_below_drewN | apply below_drew1) | exact HB.out)))); (case aL => have := LMc25.out; omega); intro v125 w30 ho hb hg hat; rw [← Ny124.out] at ho; have n0_ := Aside0.mk (Kd.V_afterv (ok := (fun k_ => (P0_ k_ ∨ w.heap.size ≤ k_))) (by (with_reducible repeat (first | apply Kd.V_alloc | apply Kd.V_drewN | apply Kd.V_drew)); exact HO_0.out) hg hat); have n1_ := Aside0.mk (Kd.V_afterv (ok := (fun k_ => (P0_ k_ ∨ w.heap.size ≤ k_))) (by (with_reducible repeat (first | apply Kd.V_alloc | apply Kd.V_drewN | apply Kd.V_drew)); exact HO113.out) hg hat); have n2_ := Aside0.mk (Kd.V_afterv (ok := (fun k_ => (P0_ k_ ∨ w.heap.size ≤ k_))) (by (with_reducible repeat (first | apply Kd.V_alloc | apply Kd.V_drewN | apply Kd.V_drew)); exact HO118.out) hg hat); have n3_ := Aside0.mk (hb); have n4_ := Aside0.mk (ho); clear HO_0; clear HO113; clear HO118; clear HB; clear HO_6; have HO_0 := n0_; have HO113 := n1_; have HO118 := n2_; have HB := n3_; have HO126 := n4_; clear n0_ n1_ n2_ n3_ n4_; clear ho hb hg hat))
           repeat (go_quiet (first | (go_at_call 40; (with_reducible refine (digest_left.calls (x0_2.length : Int) t108 _ A11.out).mono ?_); rintro e w' ⟨rfl, ⟨nd, rfl⟩⟩; (try first | exact ⟨rfl, _, World.drewN_drewN _ _ _⟩ | exact ⟨rfl, _, Eq.trans (World.drewN_drewN _ _ _) (congrArg (World.drewN _) (Nat.add_assoc _ _ _))⟩); have q27 : (t108 : Int) ≤ ((x0_2.length : Int) : Int) := of_decide_eq_true (by first | (with_reducible assumption) | assumption); obtain ⟨i027, hi027, _, hsz27, _⟩ := info_parts info9; have hroom27 : x0_2.length ≤ co26 := (Kd.V_reads' HO_0.out).2.1; have hC27 : Kd.F Kd.string _ _ Ao26 x0_2.length x0_2 := (Kd.V_at (base := w.heap.size) HO_0.out).2.2; have hcut27 := cut_to (P := Tryd.prog) 22 9 .i64 Tryd.underlying22 hi027 Ao26 x0_2.length co26 t108 (of_decide_eq_true (by first | (with_reducible assumption) | assumption)) q27 hroom27; have hr27 := Kd.F_take (m := (t108 : Int).toNat) hC27 (by omega); have hy27 : y109.length = (t108 : Int).toNat := (by rw [Ny109.out, List.length_take]; omega); rw [← Ny109.out] at hr27; rw [← hy27] at hcut27; have HO113 := Aside0.mk (show Kd.V Kd.string 9 _ w.heap.size _ (.slice Ao26 y109.length co26) y109 from Kd.V_mk (by omega) hr27); have HC113 := Aside0.mk (show y109.length ≤ co26 from by omega); clear hr27 hC27 hroom27 hi027 hsz27; have KY27 := Aside0.mk hy27; clear hy27; replace q27 := eq_true q27; have q28 : (t108 : Int) ≤ ((x0_2.length : Int) : Int) := of_decide_eq_true (by first | (with_reducible assumption) | assumption); obtain ⟨i028, hi028, _, hsz28, _⟩ := info_parts info9; have hroom28 : x0_2.length ≤ co26 := (Kd.V_reads' HO_0.out).2.1; have hC28 : Kd.F Kd.string _ _ Ao26 x0_2.length x0_2 := (Kd.V_at (base := w.heap.size) HO_0.out).2.2; have q028 : (0 : Int) ≤ (t108 : Int) := of_decide_eq_true (by first | (with_reducible assumption) | assumption); have hcut28 := cut_from (P := Tryd.prog) 22 9 .i64 Tryd.underlying22 hi028 1 hsz28 Ao26 x0_2.length co26 t108 q028 q28; have hr28 := Kd.F_cut (m := (t108 : Int).toNat) (c := co26) hC28 (by omega) hroom28; obtain ⟨A28, hA28⟩ : ∃ A1, A1 = (if co26 = (t108 : Int).toNat then Ao26 else (Ao26 : Option Addr).map (·.add ((t108 : Int).toNat * 1))) := ⟨_, rfl⟩; obtain ⟨c28, hc28⟩ : ∃ c1, c1 = co26 - (t108 : Int).toNat := ⟨_, rfl⟩; have hy28 : y114.length = x0_2.length - (t108 : Int).toNat := (by rw [Ny114.out, List.length_drop] <;> omega); rw [show (x0_2).drop (t108 : Int).toNat = y114 from Ny114.out.symm] at hr28; replace hr28 : Kd.F Kd.string _ _ A28 y114.length y114 := (by rw [hA28]; exact hr28); rw [← hy28, ← hA28, ← hc28] at hcut28; have HO118 := Aside0.mk (show Kd.V Kd.string 9 _ w.heap.size _ (.slice A28 y114.length c28) y114 from Kd.V_mk (by rw [hy28, hc28]; exact Nat.sub_le_sub_right hroom28 _) hr28); have HC118 := Aside0.mk (show y114.length ≤ c28 from by rw [hy28, hc28]; exact Nat.sub_le_sub_right hroom28 _); clear hr28 hC28 hroom28 hi028 hsz28 hc28; have KY28 := Aside0.mk hy28; have KA28 := Aside0.mk hA28; clear hy28 hA28; replace q28 := eq_true q28) | (go_at_call 19; (with_reducible refine (digest_Root.calls _ _ y114 t123 _ ?side1 ?side2 ?side3 A24.out).mono ?_); (case side1 => repeat (first | exact (Kd.V_reads' HO118.out).2.2 | (with_reducible refine Kd.C_alloc ?_ _) | (with_reducible refine Kd.C_drewN ?_ _) | (with_reducible refine Kd.C_drew ?_))); (case side2 => exact (Kd.V_reads' HO118.out).2.1); (case side3 => exact Amb.below hG_ (by repeat (first | (with_reducible first | exact HB.out | apply below_alloc | apply pw_below_drewN | apply below_drew1) | exact HB.out))); rintro e w29 ⟨rfl, hb⟩; have n0_ := Aside0.mk (Kd.V_below (by (with_reducible repeat (first | apply Kd.V_alloc | apply Kd.V_drewN | apply Kd.V_drew)); exact HO_0.out) hb); have n1_ := Aside0.mk (Kd.R_below (by (with_reducible repeat (first | apply Kd.R_alloc | apply Kd.R_drewN | apply Kd.R_drew)); exact HO_6.out) hb); have n2_ := Aside0.mk (Kd.V_below (by (with_reducible repeat (first | apply Kd.V_alloc | apply Kd.V_drewN | apply Kd.V_drew)); exact HO113.out) hb); have n3_ := Aside0.mk (Kd.V_below (by (with_reducible repeat (first | apply Kd.V_alloc | apply Kd.V_drewN | apply Kd.V_drew)); exact HO118.out) hb); have n4_ := Aside0.mk (below_step (by repeat (first | (with_reducible first | exact HB.out | apply below_alloc | apply pw_below_drewN | apply below_drew1) | exact HB.out)) hb); clear HO_0; clear HO_6; clear HO113; clear HO118; clear HB; have HO_0 := n0_; have HO_6 := n1_; have HO113 := n2_; have HO118 := n3_; have HB := n4_; clear n0_ n1_ n2_ n3_ n4_; (try clear hb); (try clear hb2); (try clear hk); (try clear hi)) | ((with_reducible refine gate_builtin (b := .append) (xs := #[.tmp 38, .tmp 41]) rfl ?_); (try (refine gate_guard (by rfl) ?_; dsimp only)); at_builtin; refine Kd.R_append Kd.string (w0 := w) w.heap.size rfl (.tmp 38) (.tmp 41) 22 9 (.string ⟨#[]⟩) 16 rfl Tryd.underlying22 info9 rfl (by decide) (by omega) u6 x6_2 t123 [.string t123] (fun k_ => (w.heap.size ≤ k_)) (fun _ => False) rfl rfl ?aP (fun _ hk => hk.elim) ?aF ?aO ?aB ?aS ?aL ?_; (case aP => exact rfl); (case aB => exact (by repeat (first | (with_reducible first | exact HB.out | apply below_alloc | apply pw_below_drewN | apply below_drew1) | exact HB.out))); (case aF => exact (fun k_ hk => (Nat.le_trans (below_size (by repeat (first | (with_reducible first | exact HB.out | apply below_alloc | apply pw_below_drewN | apply below_drew1) | exact HB.out))) hk))); (case aO => exact (by (with_reducible repeat (first | apply Kd.R_alloc | apply Kd.R_drewN | apply Kd.R_drew)); exact HO_6.out)); (case aS => exact (below_size (by repeat (first | (with_reducible first | exact HB.out | apply below_alloc | apply pw_below_drewN | apply below_drew1) | exact HB.out)))); (case aL => have := LMc25.out; omega); intro v125 w30 ho hb hg hat; rw [← Ny124.out] at ho; have n0_ := Aside0.mk (Kd.V_afterv (ok := (fun k_ => (P0_ k_ ∨ w.heap.size ≤ k_))) (by (with_reducible repeat (first | apply Kd.V_alloc | apply Kd.V_drewN | apply Kd.V_drew)); exact HO_0.out) hg hat); have n1_ := Aside0.mk (Kd.V_afterv (ok := (fun k_ => (P0_ k_ ∨ w.heap.size ≤ k_))) (by (with_reducible repeat (first | apply Kd.V_alloc | apply Kd.V_drewN | apply Kd.V_drew)); exact HO113.out) hg hat); have n2_ := Aside0.mk (Kd.V_afterv (ok := (fun k_ => (P0_ k_ ∨ w.heap.size ≤ k_))) (by (with_reducible repeat (first | apply Kd.V_alloc | apply Kd.V_drewN | apply Kd.V_drew)); exact HO118.out) hg hat); have n3_ := Aside0.mk (hb); have n4_ := Aside0.mk (ho); clear HO_0; clear HO113; clear HO118; clear HB; clear HO_6; have HO_0 := n0_; have HO113 := n1_; have HO118 := n2_; have HB := n3_; have HO126 := n4_; clear n0_ n1_ n2_ n3_ n4_; clear ho hb hg hat)); try go_wp2_with (first | (go_at_call 40; (with_reducible refine (digest_left.calls (x0_2.length : Int) t108 _ A11.out).mono ?_); rintro e w' ⟨rfl, ⟨nd, rfl⟩⟩; (try first | exact ⟨rfl, _, World.drewN_drewN _ _ _⟩ | exact ⟨rfl, _, Eq.trans (World.drewN_drewN _ _ _) (congrArg (World.drewN _) (Nat.add_assoc _ _ _))⟩); have q27 : (t108 : Int) ≤ ((x0_2.length : Int) : Int) := of_decide_eq_true (by first | (with_reducible assumption) | assumption); obtain ⟨i027, hi027, _, hsz27, _⟩ := info_parts info9; have hroom27 : x0_2.length ≤ co26 := (Kd.V_reads' HO_0.out).2.1; have hC27 : Kd.F Kd.string _ _ Ao26 x0_2.length x0_2 := (Kd.V_at (base := w.heap.size) HO_0.out).2.2; have hcut27 := cut_to (P := Tryd.prog) 22 9 .i64 Tryd.underlying22 hi027 Ao26 x0_2.length co26 t108 (of_decide_eq_true (by first | (with_reducible assumption) | assumption)) q27 hroom27; have hr27 := Kd.F_take (m := (t108 : Int).toNat) hC27 (by omega); have hy27 : y109.length = (t108 : Int).toNat := (by rw [Ny109.out, List.length_take]; omega); rw [← Ny109.out] at hr27; rw [← hy27] at hcut27; have HO113 := Aside0.mk (show Kd.V Kd.string 9 _ w.heap.size _ (.slice Ao26 y109.length co26) y109 from Kd.V_mk (by omega) hr27); have HC113 := Aside0.mk (show y109.length ≤ co26 from by omega); clear hr27 hC27 hroom27 hi027 hsz27; have KY27 := Aside0.mk hy27; clear hy27; replace q27 := eq_true q27; have q28 : (t108 : Int) ≤ ((x0_2.length : Int) : Int) := of_decide_eq_true (by first | (with_reducible assumption) | assumption); obtain ⟨i028, hi028, _, hsz28, _⟩ := info_parts info9; have hroom28 : x0_2.length ≤ co26 := (Kd.V_reads' HO_0.out).2.1; have hC28 : Kd.F Kd.string _ _ Ao26 x0_2.length x0_2 := (Kd.V_at (base := w.heap.size) HO_0.out).2.2; have q028 : (0 : Int) ≤ (t108 : Int) := of_decide_eq_true (by first | (with_reducible assumption) | assumption); have hcut28 := cut_from (P := Tryd.prog) 22 9 .i64 Tryd.underlying22 hi028 1 hsz28 Ao26 x0_2.length co26 t108 q028 q28; have hr28 := Kd.F_cut (m := (t108 : Int).toNat) (c := co26) hC28 (by omega) hroom28; obtain ⟨A28, hA28⟩ : ∃ A1, A1 = (if co26 = (t108 : Int).toNat then Ao26 else (Ao26 : Option Addr).map (·.add ((t108 : Int).toNat * 1))) := ⟨_, rfl⟩; obtain ⟨c28, hc28⟩ : ∃ c1, c1 = co26 - (t108 : Int).toNat := ⟨_, rfl⟩; have hy28 : y114.length = x0_2.length - (t108 : Int).toNat := (by rw [Ny114.out, List.length_drop] <;> omega); rw [show (x0_2).drop (t108 : Int).toNat = y114 from Ny114.out.symm] at hr28; replace hr28 : Kd.F Kd.string _ _ A28 y114.length y114 := (by rw [hA28]; exact hr28); rw [← hy28, ← hA28, ← hc28] at hcut28; have HO118 := Aside0.mk (show Kd.V Kd.string 9 _ w.heap.size _ (.slice A28 y114.length c28) y114 from Kd.V_mk (by rw [hy28, hc28]; exact Nat.sub_le_sub_right hroom28 _) hr28); have HC118 := Aside0.mk (show y114.length ≤ c28 from by rw [hy28, hc28]; exact Nat.sub_le_sub_right hroom28 _); clear hr28 hC28 hroom28 hi028 hsz28 hc28; have KY28 := Aside0.mk hy28; have KA28 := Aside0.mk hA28; clear hy28 hA28; replace q28 := eq_true q28) | (go_at_call 19; (with_reducible refine (digest_Root.calls _ _ y114 t123 _ ?side1 ?side2 ?side3 A24.out).mono ?_); (case side1 => repeat (first | exact (Kd.V_reads' HO118.out).2.2 | (with_reducible refine Kd.C_alloc ?_ _) | (with_reducible refine Kd.C_drewN ?_ _) | (with_reducible refine Kd.C_drew ?_))); (case side2 => exact (Kd.V_reads' HO118.out).2.1); (case side3 => exact Amb.below hG_ (by repeat (first | (with_reducible first | exact HB.out | apply below_alloc | apply pw_below_drewN | apply below_drew1) | exact HB.out))); rintro e w29 ⟨rfl, hb⟩; have n0_ := Aside0.mk (Kd.V_below (by (with_reducible repeat (first | apply Kd.V_alloc | apply Kd.V_drewN | apply Kd.V_drew)); exact HO_0.out) hb); have n1_ := Aside0.mk (Kd.R_below (by (with_reducible repeat (first | apply Kd.R_alloc | apply Kd.R_drewN | apply Kd.R_drew)); exact HO_6.out) hb); have n2_ := Aside0.mk (Kd.V_below (by (with_reducible repeat (first | apply Kd.V_alloc | apply Kd.V_drewN | apply Kd.V_drew)); exact HO113.out) hb); have n3_ := Aside0.mk (Kd.V_below (by (with_reducible repeat (first | apply Kd.V_alloc | apply Kd.V_drewN | apply Kd.V_drew)); exact HO118.out) hb); have n4_ := Aside0.mk (below_step (by repeat (first | (with_reducible first | exact HB.out | apply below_alloc | apply pw_below_drewN | apply below_drew1) | exact HB.out)) hb); clear HO_0; clear HO_6; clear HO113; clear HO118; clear HB; have HO_0 := n0_; have HO_6 := n1_; have HO113 := n2_; have HO118 := n3_; have HB := n4_; clear n0_ n1_ n2_ n3_ n4_; (try clear hb); (try clear hb2); (try clear hk); (try clear hi)) | ((with_reducible refine gate_builtin (b := .append) (xs := #[.tmp 38, .tmp 41]) rfl ?_); (try (refine gate_guard (by rfl) ?_; dsimp only)); at_builtin; refine Kd.R_append Kd.string (w0 := w) w.heap.size rfl (.tmp 38) (.tmp 41) 22 9 (.string ⟨#[]⟩) 16 rfl Tryd.underlying22 info9 rfl (by decide) (by omega) u6 x6_2 t123 [.string t123] (fun k_ => (w.heap.size ≤ k_)) (fun _ => False) rfl rfl ?aP (fun _ hk => hk.elim) ?aF ?aO ?aB ?aS ?aL ?_; (case aP => exact rfl); (case aB => exact (by repeat (first | (with_reducible first | exact HB.out | apply below_alloc | apply pw_below_drewN | apply below_drew1) | exact HB.out))); (case aF => exact (fun k_ hk => (Nat.le_trans (below_size (by repeat (first | (with_reducible first | exact HB.out | apply below_alloc | apply pw_below_drewN | apply below_drew1) | exact HB.out))) hk))); (case aO => exact (by (with_reducible repeat (first | apply Kd.R_alloc | apply Kd.R_drewN | apply Kd.R_drew)); exact HO_6.out)); (case aS => exact (below_size (by repeat (first | (with_reducible first | exact HB.out | apply below_alloc | apply pw_below_drewN | apply below_drew1) | exact HB.out)))); (case aL => have := LMc25.out; omega); intro v125 w30 ho hb hg hat; rw [← Ny124.out] at ho; have n0_ := Aside0.mk (Kd.V_afterv (ok := (fun k_ => (P0_ k_ ∨ w.heap.size ≤ k_))) (by (with_reducible repeat (first | apply Kd.V_alloc | apply Kd.V_drewN | apply Kd.V_drew)); exact HO_0.out) hg hat); have n1_ := Aside0.mk (Kd.V_afterv (ok := (fun k_ => (P0_ k_ ∨ w.heap.size ≤ k_))) (by (with_reducible repeat (first | apply Kd.V_alloc | apply Kd.V_drewN | apply Kd.V_drew)); exact HO113.out) hg hat); have n2_ := Aside0.mk (Kd.V_afterv (ok := (fun k_ => (P0_ k_ ∨ w.heap.size ≤ k_))) (by (with_reducible repeat (first | apply Kd.V_alloc | apply Kd.V_drewN | apply Kd.V_drew)); exact HO118.out) hg hat); have n3_ := Aside0.mk (hb); have n4_ := Aside0.mk (ho); clear HO_0; clear HO113; clear HO118; clear HB; clear HO_6; have HO_0 := n0_; have HO113 := n1_; have HO118 := n2_; have HB := n3_; have HO126 := n4_; clear n0_ n1_ n2_ n3_ n4_; clear ho hb hg hat)))
           go_roundg k2
           case measure => have := HJ2.out; have := HK2.out; omega
           case rel => exact ⟨(y109), (x1_2), (y124), (by first | rfl | (simp; done) | (simp [*]; done)), H', ⟨by have := HJ2.out; have := HK2.out; omega⟩, ⟨by (with_reducible repeat (first | apply Kd.V_alloc | apply Kd.V_drewN | apply Kd.V_drew)); exact HO113.out⟩, ⟨by (with_reducible repeat (first | apply Kd.R_alloc | apply Kd.R_drewN | apply Kd.R_drew)); exact HO126.out⟩, ⟨by repeat (first | (with_reducible first | exact HB.out | apply below_alloc | apply pw_below_drewN | apply below_drew1) | exact HB.out)⟩⟩
          ·rw [if_neg c25] at H
           exact absurd H (by simp)
        ·rw [if_neg c13] at H
         exact absurd H (by simp)
       ·rw [if_neg c12] at H
        exact absurd H (by simp)

end Go.Proofs.YtjkdenldddjcnaaDoor.Df
