/- Root's walk: the stack of complete parts, and the digest that it leads to. Conditions: at most 1,000,000 entries of at most 2^39 bytes. digest.take and (side).join, walked. Conditions: the strings of a step are at most 2^39 bytes together. Verify's walk: down by the numbers with the proof's strings from the last one on, and back up. Conditions: at most 1,000,000 strings in the proof, an entry of at most 2^39 bytes. A drawing region of VerifyExtension: two loads and two stores. No condition. Root as the printed texts name it. Conditions: at most 1,000,000 entries of at most 2^39 bytes. -/
import Derived.Test.YtjkdenldddjcnaaDoorKDigestChainBinding9
import Derived.Test.YtjkdenldddjcnaaDoorKDigestChainBinding6
import Derived.RangeFuncCalls
import Derived.Test.YtjkdenldddjcnaaDoorKDigestChainBinding5
import Derived.Laws.StructEq
set_option linter.unusedVariables false
set_option linter.unusedSimpArgs false
namespace Go.Proofs.YtjkdenldddjcnaaDoor.Sha
open Go Go.RowKit Go.Shelf Go.Proofs.YtjkdenldddjcnaaDoor.Rf Go.Proofs.YtjkdenldddjcnaaDoorW.PrintWords Go.Proofs.YtjkdenldddjcnaaDoorW.PrintLast Go.Proofs.YtjkdenldddjcnaaDoorW.PrintMore
attribute [local go_sem] Oper.semAt_some

theorem sumF_size (s : ByteArray) : (sumF s).size = 32 := by
  unfold sumF digW
  rw [strOfNums_size, List.length_map, dst_length]
abbrev St := List (ByteArray × Nat)
/-- The stack's two rows, the bottom first. -/
def wsV (st : St) : List Value := (st.map fun p => Value.string p.1).reverse
def ssV (st : St) : List Value := (st.map fun p => Value.int .i64 (p.2 : Int)).reverse
def mergeF : Nat → St → St
  | 0, st => st
  | k + 1, st => match st with
    | (b, s) :: (a, t) :: r => if t = s then mergeF k ((nodeF a b, 2 * s) :: r) else st
    | _ => st
def stepF (st : St) (x : ByteArray) : St := mergeF (st.length + 1) ((leafF x, 1) :: st)
def foldF (l : List ByteArray) : St := l.foldl stepF []
def endF : St → ByteArray
  | [] => sumF ⟨#[]⟩
  | (x, _) :: r => r.foldl (fun out p => nodeF p.1 out) x
def rootF (l : List ByteArray) : ByteArray := endF (foldF l)
structure Good (st : St) (i : Nat) : Prop where
  h : ∀ p ∈ st, p.1.size = 32 ∧ 1 ≤ p.2
  sum : (st.map (·.2)).sum = i
theorem Good.len {st : St} {i : Nat} (h : Good st i) : st.length ≤ i := by
  obtain ⟨h1, h2⟩ := h
  induction st generalizing i with
  | nil => simp
  | cons p st ih =>
    simp only [List.map_cons, List.sum_cons] at h2
    have := ih (i := (st.map (·.2)).sum) (fun q hq => h1 q (List.mem_cons_of_mem _ hq)) rfl
    have := (h1 p List.mem_cons_self).2
    simp
    omega
theorem wsV_length (st : St) : (wsV st).length = st.length := by simp [wsV]
theorem ssV_length (st : St) : (ssV st).length = st.length := by simp [ssV]
theorem Good.leaf {st : St} {i : Nat} (h : Good st i) (x : ByteArray) : Good ((leafF x, 1) :: st) (i + 1) :=
  ⟨fun p hp => by
    rcases List.mem_cons.1 hp with rfl | hp
    · exact ⟨sumF_size _, Nat.le_refl _⟩
    · exact h.h p hp, by have := h.sum; simp; omega⟩
theorem Good.merge {a b : ByteArray} {s : Nat} {r : St} {i : Nat} (h : Good ((b, s) :: (a, s) :: r) i) : Good ((nodeF a b, 2 * s) :: r) i :=
  ⟨fun p hp => by
    rcases List.mem_cons.1 hp with rfl | hp
    · exact ⟨sumF_size _, by have := (h.h (b, s) List.mem_cons_self).2; simp at this ⊢; omega⟩
    · exact h.h p (List.mem_cons_of_mem _ (List.mem_cons_of_mem _ hp)), by have := h.sum; simp at this ⊢; omega⟩
theorem Good.mergeF : ∀ (k : Nat) {st : St} {i : Nat}, Good st i → Good (mergeF k st) i
  | 0, st, i, h => h
  | k + 1, st, i, h => by
    unfold Sha.mergeF
    split
    · split
      · rename_i hts
        subst hts
        exact Good.mergeF k h.merge
      · exact h
    · exact h
theorem foldF_good : ∀ (l : List ByteArray) (st : St) (i : Nat), Good st i → Good (l.foldl stepF st) (i + l.length)
  | [], st, i, h => h
  | x :: l, st, i, h => by
    have := foldF_good l (stepF st x) (i + 1) (Good.mergeF _ (h.leaf x))
    rw [List.foldl_cons, List.length_cons]
    rwa [Nat.add_assoc, Nat.add_comm 1] at this
theorem good_take (l : List ByteArray) (i : Nat) (hi : i ≤ l.length) : Good (foldF (l.take i)) i := by
  have := foldF_good (l.take i) [] 0 ⟨fun p hp => (by cases hp), rfl⟩
  rw [List.length_take, Nat.min_eq_left hi, Nat.zero_add] at this
  exact this
theorem own_apart2 {w : World} {base : Nat} {e e' : TypeId} {v u : Value} {n m : Nat} {xs ys : List Value} (h : w.ownsRow base e 1 v n xs) (k : w.ownsRow base e' 1 u m ys) (hne : e ≠ e') :
    u.ownBlock = none ∨ u.ownBlock ≠ v.ownBlock := by
  obtain ⟨_, ⟨rfl, _⟩ | ⟨g1, cap1, cur1, rfl, _, hg1, _⟩⟩ := h
  · cases hu : u.ownBlock with
    | none => exact .inl rfl
    | some q => exact .inr (by simp [Value.ownBlock])
  · obtain ⟨_, ⟨rfl, _⟩ | ⟨g2, cap2, cur2, rfl, _, hg2, _⟩⟩ := k
    · exact .inl rfl
    · refine .inr fun hh => ?_
      simp only [Value.ownBlock, Option.some.injEq] at hh
      subst hh
      rw [hg1] at hg2
      injection hg2 with hg2
      injection hg2 with _ he
      exact hne he
theorem own_cap {w : World} {base : Nat} {e : TypeId} {g n cap : Nat} {xs : List Value} (h : w.ownsRow base e 1 (.slice (some ⟨g, 0, none⟩) n cap) n xs) : n ≤ cap := by
  obtain ⟨_, ⟨h1, _⟩ | ⟨g1, cap1, cur1, e1, _, hg1, h2, _⟩⟩ := h
  · cases h1
  · injection e1 with e1 e2 e3
    omega
theorem zip_two {α β : Type} (x x' : α) (y y' : β) : (#[x, x']).zip #[y, y'] = #[(x, y), (x', y')] := by simp
theorem foldl_two {α β : Type} (f : β → α → β) (t : β) (x x' : α) : Array.foldl f t #[x, x'] = f (f t x) x' := by simp
theorem node_size (a b : ByteArray) : (nodeF a b).size = 32 := by
  unfold nodeF
  exact sumF_size _
theorem fold_size {α : Type} (f : α → ByteArray) : ∀ (pre : List α) (x : ByteArray) (_ : x.size = 32), (pre.foldl (fun out y => nodeF (f y) out) x).size = 32
  | [], _, h => h
  | y :: pre, x, _ => by
    rw [List.foldl_cons]
    exact fold_size f pre (nodeF (f y) x) (node_size _ _)
theorem fold_rev {α : Type} [Inhabited α] {β : Type} {m : Nat} (xs : List α) (hxl : xs.length = m) (ys : List (Fin m)) (hys : ys.map Fin.val = (List.range m).reverse) (g : α → β → β) (x : β) :
    ys.foldl (fun out y => g (xs[y.val]'(hxl ▸ y.isLt)) out) x = xs.reverse.foldl (fun out y => g y out) x := by
  have h1 : ys.map (fun y => xs[y.val]'(hxl ▸ y.isLt)) = xs.reverse := by
    have h2 : ys.map (fun y => xs[y.val]'(hxl ▸ y.isLt)) = (ys.map Fin.val).map (fun i => xs.getD i default) := by
      rw [List.map_map]
      apply List.map_congr_left
      intro y _
      have : y.val < xs.length := hxl ▸ y.isLt
      simp [List.getD_eq_getElem?_getD, List.getElem?_eq_getElem this]
    rw [h2, hys, List.map_reverse]
    congr 1
    apply List.ext_getElem?
    intro j
    rw [List.getElem?_map]
    by_cases hj : j < m
    · rw [List.getElem?_range hj, List.getElem?_eq_getElem (by omega)]
      simp [List.getD_eq_getElem?_getD, List.getElem?_eq_getElem (show j < xs.length by omega)]
    · rw [List.getElem?_eq_none (by simp; omega), List.getElem?_eq_none (by omega)]
      rfl
  rw [← h1, List.foldl_map]
theorem wsV_cons (p : ByteArray × Nat) (st : St) : wsV (p :: st) = wsV st ++ [.string p.1] := by simp [wsV]
theorem ssV_cons (p : ByteArray × Nat) (st : St) : ssV (p :: st) = ssV st ++ [.int .i64 (p.2 : Int)] := by simp [ssV]
set_option maxHeartbeats 2000000 in
set_option maxRecDepth 100000 in
theorem root_calls (A0 : Option Addr) (c0 : Nat) (l : List ByteArray) (w : World) (hr0 : Kd.C Kd.string w A0 l.length l) (hc0 : l.length ≤ c0) (hG_ : Amb w) (hln : l.length ≤ 1000000) (hsz : ∀ s ∈ l, s.size ≤ 549755813888) :
    Calls Tryd.prog 19 #[.slice A0 l.length c0] w fun e w' => e = .returned (.string (rootF l)) ∧ Below w.heap.size w w' := by
  have HR0 := Aside0.mk hr0
  clear hr0
  obtain ⟨n0, hn0⟩ : ∃ n0, l.length = n0 := ⟨_, rfl⟩
  rw [hn0] at hc0 hln HR0 ⊢
  replace hn0 := Aside0.mk hn0
  obtain ⟨i9, hi9, h91, h92, h93⟩ := info_parts info9
  obtain ⟨i3, hi3, h31, h32, h33⟩ := info_parts info3
  refine (callsIn_wide (n := 4)).1 ?_
  refine callsIn_of_wp_marks Tryd.func19 rfl trivial ?_ rfl
  refine wpIn_wide.2 ?_
  simp only [Tryd.ntmps19, List.size_toArray, List.length_cons, List.length_nil, Nat.reduceAdd, Nat.reduceSub, Array.replicate_succ, Array.replicate_zero, List.push_toArray, List.append_toArray, List.nil_append, List.cons_append]
  go_upto_region 4 with (fail)
  go_loopw [3, 4, 13] (fun v3 v4 v13 w' => ∃ i : Nat, v13 = .int .i64 i ∧ i ≤ n0 ∧ Aside0 (w'.ownsRow w.heap.size 9 1 v3 (foldF (l.take i)).length (wsV (foldF (l.take i)))) ∧ Aside0 (w'.ownsRow w.heap.size 3 1 v4 (foldF (l.take i)).length (ssV (foldF (l.take i)))) ∧ Aside0 (Below w.heap.size w w')) (fun _ _ v _ => n0 - (intOf v).toNat)
  case atStart => exact ⟨0, rfl, by omega, ⟨World.ownsRow_nil _ _ _ _⟩, ⟨World.ownsRow_nil _ _ _ _⟩, ⟨Below.refl _ _⟩⟩
  case round =>
    obtain ⟨i, rfl, hi, O3, O4, HB⟩ := hrel
    by_cases h1 : i < n0
    · have e1 : decide ((i : Int) < (n0 : Int)) = true := decide_eq_true (by omega)
      have p0 : 0 ≤ (i : Int) := by omega
      have q0 : (i : Int) < (n0 : Int) := by omega
      obtain ⟨ad, ea, hx⟩ := Kd.at_string (Kd.C_below HR0.out HB.out) (i : Int) p0 q0
      cases ea
      replace p0 := eq_true p0
      replace q0 := eq_true q0
      obtain ⟨x, hxl⟩ : ∃ x, l[i]? = some x := ⟨_, List.getElem?_eq_getElem (by rw [hn0.out]; exact h1)⟩
      have hx1 : rdOf ByteArray.empty l (i : Int) = x := by
        unfold rdOf
        simp [hxl]
      rw [hx1, show ((i : Int)).toNat = i by omega] at hx
      have hxs : x.size ≤ 549755813888 := hsz x (List.mem_of_getElem? hxl)
      have hgd := good_take l i (by rw [hn0.out]; exact hi)
      have hfs : foldF (l.take (i + 1)) = stepF (foldF (l.take i)) x := by
        unfold foldF
        rw [List.take_add_one, hxl, List.foldl_append]
        rfl
      replace hfs := Aside0.mk hfs
      replace hxl := Aside0.mk hxl
      obtain ⟨st, hst⟩ : ∃ st, foldF (l.take i) = st := ⟨_, rfl⟩
      rw [hst] at O3 O4 hgd
      replace hst := Aside0.mk hst
      have hsl := hgd.len
      replace hgd := Aside0.mk hgd
      go_wp2_with (first
        | (go_at_call 29; refine (leaf_calls x _ (hG_.below HB.out) hxs).mono ?_; rintro e w1 ⟨rfl, hb1⟩; have O31 := Aside0.mk (own_keep O3.out hb1); have O41 := Aside0.mk (own_keep O4.out hb1); have HB1 := Aside0.mk (below_then HB.out HB.out.size hb1); clear hb1 O3 O4 HB hx)
        | ((with_reducible refine gate_builtin (b := .append) (xs := #[.tmp 17, .tmp 20]) rfl ?_); at_builtin; refine wpList_append_own _ rfl (.tmp 17) (.tmp 20) 22 rfl w.heap.size 9 i9 (.string ⟨#[]⟩) 1 16 Tryd.underlying22 hi9 h91 h92 h93 rfl (by decide) _ st.length (wsV st) rfl (O31.out.alloc _) ⟨w1.heap.size, 0, none⟩ 1 1 [.string (leafF x)] rfl rfl (cell_one_new _ _ _) (by simp [Value.oneCell']) (by unfold maxLen; omega) (by omega) (by have := HB1.out.size; simp; omega) ?_; intro v21 w2 o3 hg2 _; have O42 := Aside0.mk ((O41.out.alloc (.cells #[.string (leafF x)] 9)).kept hg2 (own_apart2 (O31.out.alloc (.cells #[.string (leafF x)] 9)) (O41.out.alloc (.cells #[.string (leafF x)] 9)) (by decide))); have HB2 := Aside0.mk ((below_alloc' HB1.out HB1.out.size (.cells #[.string (leafF x)] 9)).grown hg2 (by have := HB1.out.size; simp; omega) (fun k e => (O31.out.lt k e).1)); obtain ⟨g21, c21, ev21⟩ := ownsRow_succ o3; subst ev21; have O32 := Aside0.mk o3; clear o3 hg2 O31 O41 HB1)
        | ((with_reducible refine gate_builtin (b := .append) (xs := #[.tmp 22, .tmp 23]) rfl ?_); at_builtin; refine wpList_append_own _ rfl (.tmp 22) (.tmp 23) 49 rfl w.heap.size 3 i3 (.int .i64 0) 1 8 Tryd.underlying49 hi3 h31 h32 h33 rfl (by decide) _ st.length (ssV st) rfl (O42.out.alloc _) ⟨w2.heap.size, 0, none⟩ 1 1 [.int .i64 1] rfl rfl (cell_one_new _ _ _) (by simp [Value.oneCell']) (by unfold maxLen; omega) (by omega) (by have := HB2.out.size; simp; omega) ?_; intro v24 w3 o4 hg3 _; have O33 := Aside0.mk ((O32.out.alloc (.cells #[.int .i64 1] 3)).kept hg3 (own_apart2 (O42.out.alloc (.cells #[.int .i64 1] 3)) (O32.out.alloc (.cells #[.int .i64 1] 3)) (by decide))); have HB3 := Aside0.mk ((below_alloc' HB2.out HB2.out.size (.cells #[.int .i64 1] 3)).grown hg3 (by have := HB2.out.size; simp; omega) (fun k e => (O42.out.lt k e).1)); obtain ⟨g24, c24, ev24⟩ := ownsRow_succ o4; subst ev24; have O43 := Aside0.mk o4; clear o4 hg3 O32 O42 HB2))
      clear p0 q0 hxs hx1
      have hO3 := O33.out
      rw [← wsV_cons (leafF x, 1)] at hO3
      have hO4 := O43.out
      rw [show (Value.int IntKind.i64 1) = .int .i64 (((leafF x, 1) : ByteArray × Nat).2 : Int) from rfl, ← ssV_cons (leafF x, 1)] at hO4
      have hG1 := Aside0.mk (hgd.out.leaf x)
      obtain ⟨T, hT⟩ : ∃ T, stepF st x = T := ⟨_, rfl⟩
      have hT2 := Aside0.mk hT
      unfold stepF at hT
      replace hT := Aside0.mk hT
      clear O33 O43 hgd
      go_loopw [3, 4, 7] (fun v3 v4 v7 w' => ∃ (k n : Nat) (cur : St), v7 = .int .i64 ((n + 1 : Nat) : Int) ∧ Aside0 (cur.length = n + 1) ∧ Aside0 (n + 1 ≤ k) ∧ Aside0 (mergeF k cur = T) ∧ Aside0 (Good cur (i + 1)) ∧ Aside0 (w'.ownsRow w.heap.size 9 1 v3 (n + 1) (wsV cur)) ∧ Aside0 (w'.ownsRow w.heap.size 3 1 v4 (n + 1) (ssV cur)) ∧ Aside0 (Below w.heap.size w w')) (fun _ _ v _ => (intOf v).toNat)
      case atStart => exact ⟨st.length + 1, st.length, (leafF x, 1) :: st, by simp, ⟨by simp⟩, ⟨by simp⟩, hT, hG1, ⟨hO3⟩, ⟨hO4⟩, HB3⟩
      case round =>
        clear hO3 hO4 hG1 HB3 hT
        obtain ⟨k, n', cur, rfl, hlen, hk, hmg, hgd, O3, O4, HB⟩ := hrel
        obtain ⟨g3, c3, ev3⟩ := ownsRow_succ O3.out
        subst ev3
        obtain ⟨g4, c4, ev4⟩ := ownsRow_succ O4.out
        subst ev4
        obtain ⟨n, hn⟩ : ∃ n, n' + 1 = n := ⟨_, rfl⟩
        rw [hn] at hlen hk O3 O4 ⊢
        replace hn := Aside0.mk hn
        have hnle : n ≤ 1000000 := by have := hgd.out.len; have := hlen.out; omega
        by_cases h2 : 1 < n
        · have d1 : decide ((1 : Int) < (n : Int)) = true := decide_eq_true (by omega)
          obtain ⟨b, s, a, t, r, hcur⟩ : ∃ b s a t r, cur = (b, s) :: (a, t) :: r := by
            match cur, hlen.out with
            | [], h => simp at h; omega
            | [_], h => simp at h; omega
            | (b, s) :: (a, t) :: r, _ => exact ⟨b, s, a, t, r, rfl⟩
          subst hcur
          obtain ⟨m2, hm2⟩ : ∃ m, r.length = m := ⟨_, rfl⟩
          obtain ⟨m1, hm1⟩ : ∃ m, m2 + 1 = m := ⟨_, rfl⟩
          have hn2 : m2 + 2 = n := by have := hlen.out; simp at this; omega
          have ht : (ssV ((b, s) :: (a, t) :: r))[m2]? = some (.int .i64 (t : Int)) := by
            rw [ssV_cons, ssV_cons, List.append_assoc, List.getElem?_append_right (by rw [ssV_length]; omega), ssV_length, hm2]
            simp
          have hs : (ssV ((b, s) :: (a, t) :: r))[m1]? = some (.int .i64 (s : Int)) := by
            rw [ssV_cons, List.getElem?_append_right (by rw [ssV_length]; simp; omega), ssV_length]
            simp only [List.length_cons, hm2, hm1, Nat.sub_self]
            rfl
          have ha : (wsV ((b, s) :: (a, t) :: r))[m2]? = some (.string a) := by
            rw [wsV_cons, wsV_cons, List.append_assoc, List.getElem?_append_right (by rw [wsV_length]; omega), wsV_length, hm2]
            simp
          have hb : (wsV ((b, s) :: (a, t) :: r))[m1]? = some (.string b) := by
            rw [wsV_cons, List.getElem?_append_right (by rw [wsV_length]; simp; omega), wsV_length]
            simp only [List.length_cons, hm2, hm1, Nat.sub_self]
            rfl
          have ct := own_at O4.out m2 _ ht
          have cs := own_at O4.out m1 _ hs
          have k1 : IntKind.i64.wrap ((n : Int) - 1) = (m1 : Int) := by rw [IntKind.wrap_i64]; omega
          have k2 : IntKind.i64.wrap ((n : Int) - 2) = (m2 : Int) := by rw [IntKind.wrap_i64]; omega
          have y1 : IntKind.i64.wrap (m1 : Int) = (m1 : Int) := by rw [IntKind.wrap_i64]; omega
          have y2 : IntKind.i64.wrap (m2 : Int) = (m2 : Int) := by rw [IntKind.wrap_i64]; omega
          have x1 : ((m1 : Int) < (n : Int)) = True := eq_true (by omega)
          have x2 : ((m2 : Int) < (n : Int)) = True := eq_true (by omega)
          have z1 : (m1 < n) = True := eq_true (by omega)
          have z2 : (m2 < n) = True := eq_true (by omega)
          by_cases hts : t = s
          · have d2 : ((t : Int) == (s : Int)) = true := beq_iff_eq.mpr (by omega)
            go_upto_region 8 with (fail)
            go_quiet (fail)
            go_upto_region 10 with (fail)
            have hnode : a.size + b.size ≤ 549755813888 := by
              have h1 := (hgd.out.h (b, s) List.mem_cons_self).1
              have h2 := (hgd.out.h (a, t) (List.mem_cons_of_mem _ List.mem_cons_self)).1
              simp only at h1 h2
              omega
            have hsle : s ≤ 1000001 := by
              have := hgd.out.sum
              simp at this
              omega
            have hc3 := own_cap O3.out
            have hc4 := own_cap O4.out
            have x3 : ((m2 : Int) ≤ (c3 : Int)) = True := eq_true (by omega)
            have z3 : (m2 ≤ c3) = True := eq_true (by omega)
            have x4 : ((m2 : Int) ≤ (c4 : Int)) = True := eq_true (by omega)
            have z4 : (m2 ≤ c4) = True := eq_true (by omega)
            have k3 : IntKind.i64.wrap (2 * (s : Int)) = ((2 * s : Nat) : Int) := by rw [IntKind.wrap_i64]; omega
            refine norm_wp ?_
            refine root_r10 _ w (wr.drewN nq) _ _ _ _ _ _ _ _ _ _ _ _ _ _ _ _ _ _ _ _ _ _ _ _ _ _ _ _ _ _ _ _ _ _ _ _ _ _ _ _ _ _ _ _ _ _ _ _ _ _ _ _ _ _ _ _ _ _ _ _ _ _ _ _ _ _ _ _ _ _ _ _ _ _ _ _ _ _ _ _ _ _ _ _ _ _ _ _ _ _ _ _ _ _ g3 c3 n m1 m2 n a b (wsV ((b, s) :: (a, t) :: r)) (ssV ((b, s) :: (a, t) :: r)) hnle hn2 (by omega) hc3 k1 k2 y1 y2 x1 x2 x3 z1 z2 z3 ha hb hnode (keepSRt ⟨O3.out, O4.out, hG_, HB.out⟩ (pw_below_drewN (Below.refl _ wr) nq)) ?_
            rintro z44 z45 z46 z47 z48 z49 z50 z51 z52 z53 z54 z55 z56 z57 z58 z59 z60 v3' W1 ⟨O31, O41, _, HB1⟩
            replace O31 := Aside0.mk O31
            replace O41 := Aside0.mk O41
            replace HB1 := Aside0.mk HB1
            go_upto_region 11 with (fail)
            refine norm_wp ?_
            refine root_r11 _ w W1 _ _ _ _ _ _ _ _ _ _ _ _ _ _ _ _ _ _ _ _ _ _ _ _ _ _ _ _ _ _ _ _ _ _ _ _ _ _ _ _ _ _ _ _ _ _ _ _ _ _ _ _ _ _ _ _ _ _ _ _ _ _ _ _ _ _ _ _ _ _ _ _ _ _ _ _ _ _ _ _ _ _ _ _ _ _ _ _ _ _ _ _ _ v3' g4 c4 n m1 m2 (m2 + 1) s (2 * s) _ (ssV ((b, s) :: (a, t) :: r)) hnle hn2 (by omega) hc4 k1 k2 y1 y2 k3 x1 x2 x4 z1 z2 z4 hs ⟨O41.out, O31.out, hG_, HB1.out⟩ ?_
            rintro y61_ y62_ y63_ y64_ y65_ y66_ y67_ y68_ y69_ y70_ y71_ y72_ v4' W2 ⟨O42, O32, _, HB2⟩
            replace O32 := Aside0.mk O32
            replace O42 := Aside0.mk O42
            replace HB2 := Aside0.mk HB2
            go_wp2_with fail
            obtain ⟨k', rfl⟩ : ∃ k', k = k' + 1 := ⟨k - 1, by have := hk.out; omega⟩
            have hgd' := hgd.out
            have hmg' := hmg.out
            subst hts
            rw [mergeF, if_pos rfl] at hmg'
            have e3 : (wsV ((b, t) :: (a, t) :: r)).take m2 ++ [.string (nodeF a b)] = wsV ((nodeF a b, 2 * t) :: r) := by
              rw [wsV_cons, wsV_cons, wsV_cons, List.append_assoc, List.take_append_of_le_length (by rw [wsV_length]; omega), List.take_of_length_le (by rw [wsV_length]; omega)]
            have e4 : (ssV ((b, t) :: (a, t) :: r)).take m2 ++ [.int .i64 ((2 * t : Nat) : Int)] = ssV ((nodeF a b, 2 * t) :: r) := by
              rw [ssV_cons, ssV_cons, ssV_cons, List.append_assoc, List.take_append_of_le_length (by rw [ssV_length]; omega), List.take_of_length_le (by rw [ssV_length]; omega)]
            have O3e := O32.out
            have O4e := O42.out
            rw [e3] at O3e
            rw [e4] at O4e
            refine ⟨⟨k', m2, (nodeF a b, 2 * t) :: r, by rw [hm1], ⟨by simp [hm2]⟩, ⟨by have := hk.out; omega⟩, ⟨hmg'⟩, ⟨hgd'.merge⟩, ⟨O3e⟩, ⟨O4e⟩, HB2⟩, ?_⟩
            simp only [intOf]
            omega
          · have d2 : ((t : Int) == (s : Int)) = false := beq_eq_false_iff_ne.mpr (by omega)
            go_upto_region 8 with (fail)
            go_quiet (fail)
            go_wp2_with fail
            have hce : (b, s) :: (a, t) :: r = T := by
              rw [← hmg.out]
              obtain ⟨k', rfl⟩ : ∃ k', k = k' + 1 := ⟨k - 1, by have := hk.out; omega⟩
              rw [mergeF, if_neg hts]
            have hlen' := hlen.out
            have O3e := own_keep O3.out (pw_below_drewN (Below.refl _ wr) nq)
            have O4e := own_keep O4.out (pw_below_drewN (Below.refl _ wr) nq)
            have HBe := below_then HB.out HB.out.size (pw_below_drewN (Below.refl _ wr) nq)
            rw [hce] at O3e O4e hlen'
            refine ⟨⟨i + 1, by simp, by omega, ⟨by rw [hfs.out, hst.out, hT2.out, hlen']; exact O3e⟩, ⟨by rw [hfs.out, hst.out, hT2.out, hlen']; exact O4e⟩, ⟨HBe⟩⟩, ?_⟩
            simp only [intOf]
            omega
        · have d1 : decide ((1 : Int) < (n : Int)) = false := decide_eq_false (by omega)
          go_upto_region 8 with (fail)
          go_quiet (fail)
          go_wp2_with fail
          have hce : cur = T := by
            rw [← hmg.out]
            obtain ⟨k', rfl⟩ : ∃ k', k = k' + 1 := ⟨k - 1, by have := hk.out; have := hn.out; omega⟩
            match cur, hlen.out with
            | [], h => rfl
            | [_], h => rfl
            | _ :: _ :: _, h => simp at h; omega
          have hlen' := hlen.out
          have O3e := own_keep O3.out (pw_below_drewN (Below.refl _ wr) nq)
          have O4e := own_keep O4.out (pw_below_drewN (Below.refl _ wr) nq)
          have HBe := below_then HB.out HB.out.size (pw_below_drewN (Below.refl _ wr) nq)
          rw [hce] at O3e O4e hlen'
          refine ⟨⟨i + 1, by simp, by omega, ⟨by rw [hfs.out, hst.out, hT2.out, hlen']; exact O3e⟩, ⟨by rw [hfs.out, hst.out, hT2.out, hlen']; exact O4e⟩, ⟨HBe⟩⟩, ?_⟩
          simp only [intOf]
          omega
    · have ei : i = n0 := by omega
      subst ei
      have e1 : decide ((i : Int) < (i : Int)) = false := decide_eq_false (by omega)
      have hgd := good_take l i (by rw [hn0.out]; exact Nat.le_refl _)
      rw [List.take_of_length_le (by rw [hn0.out]; exact Nat.le_refl _)] at O3 O4 hgd
      obtain ⟨st, hst⟩ : ∃ st, foldF l = st := ⟨_, rfl⟩
      rw [hst] at O3 O4 hgd
      have hrt : rootF l = endF st := by unfold rootF; rw [hst]
      replace hrt := Aside0.mk hrt
      clear hst O4
      match st, O3, hgd with
      | [], O3, hgd =>
        have hv : ∃ A c, u3 = .slice A 0 c := by
          obtain ⟨_, ⟨h, _⟩ | ⟨g1, cap1, cur1, e1, _⟩⟩ := O3.out
          · exact ⟨_, _, h⟩
          · exact ⟨_, _, e1⟩
        obtain ⟨A, c, hv⟩ := hv
        subst hv
        go_wp2_with (go_at_call 30; refine (sum_calls ⟨#[]⟩ (by decide) _ (hG_.below HB.out)).mono ?_; rintro e w1 ⟨rfl, hb1⟩)
        exact ⟨.string (sumF ⟨#[]⟩), by simp [results, Tryd.results19, go_sem], by rw [hrt.out]; rfl, below_then HB.out HB.out.size hb1⟩
      | (x, sx) :: r, O3, hgd =>
        obtain ⟨g3, c3, ev3⟩ := ownsRow_succ O3.out
        subst ev3
        obtain ⟨m, hm⟩ : ∃ m, r.length = m := ⟨_, rfl⟩
        have hxm : (wsV ((x, sx) :: r))[m]? = some (.string x) := by
          rw [wsV_cons, List.getElem?_append_right (by rw [wsV_length]; omega), wsV_length, hm]
          simp
        have hcx := own_at O3.out m _ hxm
        have hc3 := own_cap O3.out
        obtain ⟨n, hn⟩ : ∃ n, r.length + 1 = n := ⟨_, rfl⟩
        have hO3 := O3.out
        simp only [List.length_cons] at hO3
        rw [hn] at hO3 hc3 ⊢
        have hmn : m + 1 = n := by omega
        replace hn := Aside0.mk hn
        replace hm := Aside0.mk hm
        have hnle : n ≤ 1000000 := by have h1 := hgd.len; have h2 := hn.out; rw [List.length_cons] at h1; omega
        have k1 : IntKind.i64.wrap ((n : Int) - 1) = (m : Int) := by rw [IntKind.wrap_i64]; omega
        have y1 : IntKind.i64.wrap (m : Int) = (m : Int) := by rw [IntKind.wrap_i64]; omega
        have x1 : ((m : Int) < (n : Int)) = True := eq_true (by omega)
        have z1 : (m < n) = True := eq_true (by omega)
        have x3 : ((m : Int) ≤ (c3 : Int)) = True := eq_true (by omega)
        have z3 : (m ≤ c3) = True := eq_true (by omega)
        have d1 : ((n : Int) == 0) = false := beq_eq_false_iff_ne.mpr (by omega)
        replace hmn := Aside0.mk hmn
        replace O3 := Aside0.mk hO3
        clear hO3
        go_upto_region 16 with (fail)
        go_wp2_with (go_at_call 44; refine (callsIn_wide.1 (backS_fn _ _ _ _)).mono ?_; rintro e w' ⟨rfl, rfl⟩)
        obtain ⟨W0, hW0⟩ : ∃ W0, (wr.alloc (Obj.cells #[Value.string x] 9)).alloc (Obj.cells #[Value.slice (some ⟨g3, 0, none⟩) m c3] 22) = W0 := ⟨_, rfl⟩
        have hsz0 : W0.heap.size = wr.heap.size + 2 := by rw [← hW0]; simp
        have b1 : Boxed W0 wr.heap.size 9 (.string x) := by rw [← hW0]; exact (Boxed.new wr _ _).alloc _
        have b2 : Boxed W0 (wr.heap.size + 1) 22 (.slice (some ⟨g3, 0, none⟩) m c3) := by
          rw [← hW0]
          have := Boxed.new (wr.alloc (.cells #[Value.string x] 9)) 22 (.slice (some ⟨g3, 0, none⟩) m c3)
          rwa [World.size_alloc] at this
        have bel : Below wr.heap.size wr W0 := by rw [← hW0]; exact ((Below.refl _ wr).alloc (Nat.le_refl _) _).alloc (by simp) _
        have belw : Below w.heap.size w W0 := below_then HB.out HB.out.size bel
        obtain ⟨xs, hxs⟩ : ∃ xs, (r.map (·.1)).reverse = xs := ⟨_, rfl⟩
        have hxl : xs.length = m := by rw [← hxs, ← hm.out]; simp
        have hog := own_lt O3.out
        have RB : backSR xs g3 0 W0 := by
          intro j y hy
          have hj : (wsV ((x, sx) :: r))[j]? = some (.string y) := by
            rw [wsV_cons, List.getElem?_append_left (by rw [wsV_length, hm.out, ← hxl]; exact (List.getElem?_eq_some_iff.1 hy).1)]
            unfold wsV
            rw [← hxs, ← List.map_reverse, List.getElem?_map] at hy
            rw [← List.map_reverse, List.getElem?_map]
            obtain ⟨p, hp, rfl⟩ := Option.map_eq_some_iff.1 hy
            rw [hp]
            rfl
          have := own_at O3.out j _ hj
          rw [Nat.zero_add, ← this]
          simp only [World.cell?]
          rw [bel.block g3 hog.2]
        have hall : ∀ y ∈ xs, y.size = 32 := by
          intro y hy
          rw [← hxs, List.mem_reverse, List.mem_map] at hy
          obtain ⟨p, hp, rfl⟩ := hy
          exact (hgd.h p (List.mem_cons_of_mem _ hp)).1
        have hx32 : x.size = 32 := (hgd.h (x, sx) List.mem_cons_self).1
        have hend : endF ((x, sx) :: r) = xs.reverse.foldl (fun out y => nodeF y out) x := by
          rw [← hxs, List.reverse_reverse, List.foldl_map]
          rfl
        have hgw : w.heap.size ≤ wr.heap.size := HB.out.size
        have RR : Amb W0 := hG_.below belw
        rw [hW0]
        have hg3 : g3 < wr.heap.size := hog.2
        clear hW0 O3 hcx bel HB hxm hog
        generalize wr.heap.size = gb at hsz0 b1 b2 hgw hg3 ⊢
        refine (wpIn_wide (n := 4)).1 ?_
        refine rangeFunc_Z rfl (by decide) (gf := 60) (lb := #[.pointer (some ⟨gb + 1, 0, none⟩)]) rfl trivial (enters_of Tryd.func60 (by kernel_rfl) rfl)
          (Z := fun _ => False) (fun k hk => hk.elim)
          (encs := fun y : Fin m => #[.int .i64 (y.val : Int), Value.string (xs[y.val]'(hxl ▸ y.isLt))]) (Kp := fun A B => B.heap[gb + 1]? = A.heap[gb + 1]? ∧ B.heap[g3]? = A.heap[g3]?) (S := fun ys => ys.map Fin.val = (List.range m).reverse) (Sp := fun _ => True) (N := m) ?iter
          (fun h k => ⟨k.1.trans h.1, k.2.trans h.2⟩) (fun W l o hl => ⟨World.putObj_heap_other (by omega), World.putObj_heap_other (by omega)⟩) (fun _ => rfl)
          (fun pre W => Boxed W gb 9 (.string (pre.foldl (fun out y => nodeF (xs[y.val]'(hxl ▸ y.isLt)) out) x)) ∧ BelowBut gb W0 W)
          (fun _ _ _ => False)
          ?ab (fun _ _ _ _ _ hs _ _ => hs)
          ⟨b1, ⟨rfl, rfl, rfl, Nat.le_refl _, fun _ _ _ => rfl⟩⟩ ?round ?done ?stop
        case iter =>
          intro l' J Jx W hW hJ hJx hY hJ0
          exact backS_in l' (gb + 1) g3 0 m c3 _ xs hxl (by have := hmn.out; omega) (fun _ => rfl) J Jx hY W (b2.kept hW (by simp)) (RB.block (hW.block g3 (by omega) (by simp))) hJ0
        case ab =>
          rintro pre W W' row ⟨hA, hB⟩ hg hrow
          have hne : ∀ r, row = some r → W0.heap.size ≤ r := fun r e => by
            rcases hrow r e with h | ⟨h, _⟩
            · exact h.elim
            · exact h
          refine ⟨hA.kept hg (fun e => by have := hne gb e.symm; omega), ⟨hg.os.trans hB.os, hg.tape.trans hB.tape, hg.output.trans hB.output, Nat.le_trans hB.size hg.size, fun i hi hig => (hg.block i (Nat.lt_of_lt_of_le hi hB.size) (fun e => by have := hne i e.symm; omega)).trans (hB.block i hi hig)⟩⟩
        case round =>
          rintro l' pre y W ⟨hA, hB⟩ hlt
          dsimp only
          rw [zip_two, foldl_two]
          simp only [List.setIfInBounds_toArray, List.set_cons_succ, List.set_cons_zero]
          gi_wp2
          refine ⟨trivial, ?_⟩
          clear hA hB
          rintro V ⟨hA, hB⟩
          obtain ⟨out, hout⟩ : ∃ out, pre.foldl (fun out y => nodeF (xs[y.val]'(hxl ▸ y.isLt)) out) x = out := ⟨_, rfl⟩
          have hos : out.size = 32 := by rw [← hout]; exact fold_size (fun y : Fin m => xs[y.val]'(hxl ▸ y.isLt)) pre x hx32
          have hys : (xs[y.val]'(hxl ▸ y.isLt)).size = 32 := hall _ (List.getElem_mem _)
          rw [hout] at hA
          have hc := hA.cell
          have hRV : Amb V := by
            obtain ⟨t, fr, h⟩ := RR
            have hlt0 : 0 < gb := by
              obtain ⟨_, _, h'⟩ := hG_
              have := (Array.getElem?_eq_some_iff.1 h').1
              omega
            exact ⟨t, fr, (hB.block _ (by omega) (by omega)).trans h⟩
          have hF : Fence.wide.fn 32 := trivial
          gi_wp2_with fail
          refine CallsIn.mono (CallsIn.inRound _ (callsIn_wide.2 (node_calls (xs[y.val]'(hxl ▸ y.isLt)) out V hRV (by omega)))) ?_
          rintro e w' ⟨rfl, hb'⟩
          have hgbV : gb < V.heap.size := hA.lt
          have hA' : Boxed w' gb 9 (.string out) := (hb'.block gb hgbV).trans hA
          have hc' := hA'.cell
          have hf' := hA'.frozen
          gi_wp2_with fail
          have hq : gb + 1 < V.heap.size := Nat.lt_of_lt_of_le (by omega) hB.size
          have hq3 : g3 < V.heap.size := Nat.lt_of_lt_of_le (by omega) hB.size
          have G := grownBy_setCell' w' gb (.string (nodeF (xs[y.val]'(hxl ▸ y.isLt)) out))
          have T1 : ∀ i, i < V.heap.size → i ≠ gb → (w'.setCell ⟨gb, 0, none⟩ (.string (nodeF (xs[y.val]'(hxl ▸ y.isLt)) out))).heap[i]? = V.heap[i]? := fun i hi hig => (G.block i (Nat.lt_of_lt_of_le hi hb'.size) (fun e => hig (by injection e))).trans (hb'.block i hi)
          have hset := hA'.set (.string (nodeF (xs[y.val]'(hxl ▸ y.isLt)) out))
          refine ⟨⟨Nat.le_trans hb'.size G.size, fun k o hk ho _ => (T1 k (Array.getElem?_eq_some_iff.1 ho).1 (by omega)).trans ho⟩, ⟨T1 _ hq (by omega), T1 _ hq3 (by omega)⟩, ?_, ⟨G.os.trans (hb'.os.trans hB.os), G.tape.trans (hb'.tape.trans hB.tape), G.output.trans (hb'.output.trans hB.output), Nat.le_trans hB.size (Nat.le_trans hb'.size G.size), fun i hi hig => (T1 i (Nat.lt_of_lt_of_le hi hB.size) hig).trans (hB.block i hi hig)⟩⟩
          rw [List.foldl_append, hout]
          exact hset
        case done =>
          rintro D ys W hD hys ⟨hA, hB⟩ hK
          have hfin : ys.foldl (fun out y => nodeF (xs[y.val]'(hxl ▸ y.isLt)) out) x = xs.reverse.foldl (fun out y => nodeF y out) x := fold_rev xs hxl ys hys nodeF x
          rw [hfin, ← hend, ← hrt.out] at hA
          have hc := hA.cell
          dsimp only [Exit.inBlock, Exit.then]
          go_wp2_with fail
          refine ⟨by simp, .inl ⟨_, _, rfl, run_takeDeferred hK, ?_⟩⟩
          refine ⟨.string (rootF l), by simp [results, Tryd.results19, go_sem], rfl, ?_⟩
          have t1 : Below w.heap.size w W := ⟨hB.os.trans belw.os, hB.tape.trans belw.tape, hB.output.trans belw.output, Nat.le_trans belw.size hB.size, fun i hi => (hB.block i (by omega) (by omega)).trans (belw.block i hi)⟩
          exact t1.trans (belowK_b (w := W0) belw.size W D _ _ hD hK rfl rfl)
        case stop =>
          rintro D c pre W _ _ h _
          exact h.elim
end Go.Proofs.YtjkdenldddjcnaaDoor.Sha

set_option linter.unusedVariables false
set_option linter.unusedSimpArgs false
namespace Go.Proofs.YtjkdenldddjcnaaDoor.Sha
open Go Go.RowKit Go.Shelf Go.Proofs.YtjkdenldddjcnaaDoorW.PrintWords Go.Proofs.YtjkdenldddjcnaaDoorW.PrintLast Go.Proofs.YtjkdenldddjcnaaDoorW.PrintMore

theorem take_nil (A : Option Addr) (c : Nat) (w : World) :
    Calls Tryd.prog 46 #[.slice A 0 c] w fun e w' => (e = .returned (.tuple #[.string ⟨#[]⟩, .slice none 0 0, .bool false])) ∧ Drawn0 w w' := by
  go_enter Tryd.func46, Tryd.ntmps46
  go_wp2
  go_ret3
  exact ⟨rfl, Drawn0.refl _⟩
theorem take_snoc (A : Option Addr) (c : Nat) (l : List ByteArray) (x : ByteArray) (w : World) (hr0 : Kd.C Kd.string w A (l ++ [x]).length (l ++ [x])) (hc : l.length + 1 ≤ c) :
    Calls Tryd.prog 46 #[.slice A (l.length + 1) c] w fun e w' => (e = .returned (.tuple #[.string x, .slice A l.length c, .bool true])) ∧ Drawn0 w w' := by
  have HR0 := Aside0.mk hr0
  have hbig : l.length + 1 ≤ 9223372036854775807 := by have := hr0.2.1; simp at this; omega
  clear hr0
  obtain ⟨m, hm⟩ : ∃ m, l.length = m := ⟨_, rfl⟩
  obtain ⟨n, hn⟩ : ∃ n, l.length + 1 = n := ⟨_, rfl⟩
  have hmn : m + 1 = n := by omega
  have hln : (l ++ [x]).length = n := by simp; omega
  rw [hln] at HR0
  rw [hn] at hbig hc ⊢
  rw [hm]
  have p0 : 0 ≤ (m : Int) := by omega
  have q0 : (m : Int) < (n : Int) := by omega
  obtain ⟨ad, ea, hx⟩ := Kd.at_string HR0.out (m : Int) p0 q0
  cases ea
  have hx1 : rdOf ByteArray.empty (l ++ [x]) (m : Int) = x := by
    unfold rdOf
    simp [List.getD_eq_getElem?_getD, ← hm]
  rw [hx1, show ((m : Int)).toNat = m by omega] at hx
  have k1 : IntKind.i64.wrap ((n : Int) - 1) = (m : Int) := by rw [IntKind.wrap_i64]; omega
  have d1 : ((n : Int) == 0) = false := beq_eq_false_iff_ne.mpr (by omega)
  have x3 : ((m : Int) ≤ (c : Int)) = True := eq_true (by omega)
  have z3 : (m ≤ c) = True := eq_true (by omega)
  replace p0 := eq_true p0
  replace q0 := eq_true q0
  have y1 : IntKind.i64.wrap (m : Int) = (m : Int) := by rw [IntKind.wrap_i64]; omega
  have z1 : (m < n) = True := eq_true (by omega)
  replace hm := Aside0.mk hm
  replace hn := Aside0.mk hn
  replace hmn := Aside0.mk hmn
  replace hln := Aside0.mk hln
  clear hx1
  go_enter Tryd.func46, Tryd.ntmps46
  go_upto_region 4 with (fail)
  go_quiet (fail)
  go_wp2
  go_ret3
  exact ⟨rfl, (Drawn0.refl _).step _⟩
def joinF (p : ByteArray × Bool) (out : ByteArray) : ByteArray := if p.2 = true then nodeF p.1 out else nodeF out p.1
theorem joinF_size (p : ByteArray × Bool) (out : ByteArray) : (joinF p out).size = 32 := by
  unfold joinF
  split
  · exact node_size _ _
  · exact node_size _ _
theorem side_join_calls (x : ByteArray) (f : Bool) (out : ByteArray) (w : World) (hr : Amb w) (hs : x.size + out.size ≤ 549755813888) :
    Calls Tryd.prog 48 #[.agg #[.string x, .bool f], .string out] w fun e w' => e = .returned (.string (joinF (x, f) out)) ∧ Below w.heap.size w w' := by
  have bel : Below w.heap.size w (w.alloc (Obj.cells #[Value.string x, Value.bool f] 58)) := below_alloc (Below.refl _ _) _
  have hr2 : Amb (w.alloc (Obj.cells #[Value.string x, Value.bool f] 58)) := hr.below bel
  cases f
  · go_enter Tryd.func48, Tryd.ntmps48
    go_wp2_with (go_at_call 32; refine (node_calls _ _ _ hr2 (by omega)).mono ?_; rintro e w' ⟨rfl, hb⟩)
    go_ret
    exact ⟨rfl, bel.trans (hb.mono (by simp))⟩
  · go_enter Tryd.func48, Tryd.ntmps48
    go_wp2_with (go_at_call 32; refine (node_calls _ _ _ hr2 (by omega)).mono ?_; rintro e w' ⟨rfl, hb⟩)
    go_ret
    exact ⟨rfl, bel.trans (hb.mono (by simp))⟩
/-- Steps as cells. -/
def flat : List (ByteArray × Bool) → List Value
  | [] => []
  | p :: l => .string p.1 :: .bool p.2 :: flat l
theorem flat_append : ∀ (a b : List (ByteArray × Bool)), flat (a ++ b) = flat a ++ flat b
  | [], b => rfl
  | p :: a, b => by simp [flat, flat_append a b]
theorem flat_get : ∀ (l : List (ByteArray × Bool)) (j : Nat) (x : ByteArray × Bool), l[j]? = some x → (flat l)[j * 2]? = some (.string x.1) ∧ (flat l)[j * 2 + 1]? = some (.bool x.2)
  | [], j, x, h => by simp at h
  | p :: l, 0, x, h => by
    simp at h
    subst h
    exact ⟨rfl, rfl⟩
  | p :: l, j + 1, x, h => by
    have := flat_get l j x (by simpa using h)
    simpa [flat, Nat.succ_mul] using this
theorem info58 : (Tryd.prog.info? 58).map (fun i => (i.zero, i.size, i.bytes)) = some (some (.agg #[.string ⟨#[]⟩, .bool false]), 2, 24) := by kernel_rfl
theorem own_at2 {w : World} {base : Nat} {e : TypeId} {g n cap : Nat} {xs : List Value} (h : w.ownsRow base e 2 (.slice (some ⟨g, 0, none⟩) n cap) n xs) (j : Nat) (u : Value) (hu : xs[j]? = some u) : w.cell? ⟨g, j, none⟩ = some u := by
  have := h.cells (g := g) rfl j u hu
  have hadd : (⟨g, 0, none⟩ : Addr).add j = ⟨g, j, none⟩ := by unfold Addr.add; split <;> simp_all
  rwa [hadd] at this
theorem own_keep2 {w W : World} {base : Nat} {e : TypeId} {v : Value} {n : Nat} {xs : List Value} (h : w.ownsRow base e 2 v n xs) (hb : Below w.heap.size w W) : W.ownsRow base e 2 v n xs :=
  h.kept (row := none) ⟨hb.os, hb.tape, hb.output, hb.size, fun k hk _ => hb.block k hk⟩ (by cases hv : v.ownBlock <;> simp)
theorem two_of_block {w : World} {x y : Value} {t : TypeId} : ∀ j u, [x, y][j]? = some u → (w.alloc (.cells #[x, y] t)).cell? ((⟨w.heap.size, 0, none⟩ : Addr).add j) = some u := by
  intro j u hj
  have hadd : (⟨w.heap.size, 0, none⟩ : Addr).add j = ⟨w.heap.size, j, none⟩ := by unfold Addr.add; split <;> simp_all
  rw [hadd]
  have h : (w.alloc (.cells #[x, y] t)).heap[w.heap.size]? = some (.cells #[x, y] t (0, 0)) := heap_alloc_new ..
  match j, hj with
  | 0, hj =>
    simp only [World.cell?, h]
    simpa using hj
  | 1, hj =>
    simp only [World.cell?, h]
    simpa using hj
theorem pow_bitLen (f : Nat) : ∀ x, 0 < x → x < 2 ^ f → 2 ^ (Lib.bitLenAux f x - 1) ≤ x := by
  induction f with
  | zero => intro x h0 h; simp at h; omega
  | succ f ih =>
    intro x h0 h
    unfold Lib.bitLenAux
    rw [if_neg (by omega)]
    by_cases h2 : x / 2 = 0
    · have : Lib.bitLenAux f (x / 2) = 0 := by rw [h2]; cases f <;> simp [Lib.bitLenAux]
      rw [this]
      exact h0
    · have h3 := ih (x / 2) (by omega) (by rw [Nat.pow_succ] at h; omega)
      obtain ⟨b, hb⟩ : ∃ b, Lib.bitLenAux f (x / 2) = b := ⟨_, rfl⟩
      rw [hb] at h3 ⊢
      cases b with
      | zero => exact h0
      | succ b =>
        simp only [Nat.add_sub_cancel] at h3
        rw [show 1 + (b + 1) - 1 = b + 1 by omega, Nat.pow_succ]
        omega
theorem leftN_lt (n : Nat) (h : 2 ≤ n) (h2 : n ≤ 9223372036854775807) : 1 ≤ leftN n ∧ leftN n < n := by
  unfold leftN
  have h3 := pow_bitLen 64 (n - 1) (by omega) (by omega)
  refine ⟨Nat.one_le_two_pow, ?_⟩
  show 2 ^ (Lib.bitLenAux 64 (n - 1) - 1) < n
  omega
end Go.Proofs.YtjkdenldddjcnaaDoor.Sha

set_option linter.unusedVariables false
set_option linter.unusedSimpArgs false
namespace Go.Proofs.YtjkdenldddjcnaaDoor.Sha
open Go Go.RowKit Go.Shelf Go.Proofs.YtjkdenldddjcnaaDoor.Rf Go.Proofs.YtjkdenldddjcnaaDoorW.PrintWords Go.Proofs.YtjkdenldddjcnaaDoorW.PrintLast Go.Proofs.YtjkdenldddjcnaaDoorW.PrintMore
attribute [local go_sem] Oper.semAt_some

abbrev Way := List (ByteArray × Bool)
/-- Down: the proof's strings, the last one first; the steps, the last one first; what is left of the proof. -/
def descF : List ByteArray → Nat → Nat → Way → Option (Way × List ByteArray)
  | [], n, i, way => if n ≤ 1 then some (way, []) else none
  | x :: r, n, i, way => if n ≤ 1 then some (way, x :: r) else if leftN n ≤ i then descF r (n - leftN n) (i - leftN n) ((x, true) :: way) else descF r (leftN n) i ((x, false) :: way)
def all32 (l : List ByteArray) : Bool := l.all (fun s => (s.size : Int) == 32)
def upF (way : Way) (s : ByteArray) : ByteArray := way.foldl (fun out p => joinF p out) s
def endV (root s : ByteArray) : Option (Way × List ByteArray) → Bool
  | none => false
  | some (way, pr) => pr.isEmpty && (upF way (leafF s) == root)
def verifyF (root : ByteArray) (n i : Int) (s : ByteArray) (l : List ByteArray) : Bool :=
  if i < 0 then false else if n ≤ i then false else if all32 l = false then false else endV root s (descF l.reverse n.toNat i.toNat [])
theorem jfold_size {α : Type} (f : α → ByteArray × Bool) : ∀ (pre : List α) (x : ByteArray) (_ : x.size = 32), (pre.foldl (fun out y => joinF (f y) out) x).size = 32
  | [], _, h => h
  | y :: pre, x, _ => by
    rw [List.foldl_cons]
    exact jfold_size f pre (joinF (f y) x) (joinF_size _ _)
set_option maxHeartbeats 4000000 in
set_option maxRecDepth 100000 in
theorem verify_calls (root s : ByteArray) (n i : Int) (A : Option Addr) (c : Nat) (l : List ByteArray) (w : World) (hr0 : Kd.C Kd.string w A l.length l) (hc : l.length ≤ c) (hG_ : Amb w) (hs : s.size ≤ 549755813888) (hni : n ≤ 9223372036854775807) (hl : l.length ≤ 1000000) :
    Calls Tryd.prog 21 #[.string root, .int .i64 n, .int .i64 i, .string s, .slice A l.length c] w fun e w' => e = .returned (.bool (verifyF root n i s l)) ∧ Below w.heap.size w w' := by
  have HR0 := Aside0.mk hr0
  have HC0 := Aside0.mk hc
  clear hr0
  obtain ⟨L, hL⟩ : ∃ L, l.length = L := ⟨_, rfl⟩
  rw [hL] at HR0 hc hl ⊢
  replace hL := Aside0.mk hL
  refine (callsIn_wide (n := 4)).1 ?_
  refine callsIn_of_wp_marks Tryd.func21 rfl trivial ?_ rfl
  refine wpIn_wide.2 ?_
  simp only [Tryd.ntmps21, List.size_toArray, List.length_cons, List.length_nil, Nat.reduceAdd, Nat.reduceSub, Array.replicate_succ, Array.replicate_zero, List.push_toArray, List.append_toArray, List.nil_append, List.cons_append]
  by_cases h1 : i < 0
  · have d1 : decide (i < 0) = true := decide_eq_true h1
    have hv : verifyF root n i s l = false := by unfold verifyF; rw [if_pos h1]
    clear h1
    go_wp2
    exact ⟨.bool false, by simp [results, Tryd.results21, go_sem], by rw [hv], Below.refl _ _⟩
  · have d1 : decide (i < 0) = false := decide_eq_false h1
    by_cases h2 : n ≤ i
    · have d2 : decide (n ≤ i) = true := decide_eq_true h2
      have hv : verifyF root n i s l = false := by unfold verifyF; rw [if_neg h1, if_pos h2]
      clear h1 h2
      go_wp2
      exact ⟨.bool false, by simp [results, Tryd.results21, go_sem], by rw [hv], Below.refl _ _⟩
    · have d2 : decide (n ≤ i) = false := decide_eq_false h2
      have HI := Aside0.mk h1
      have HN := Aside0.mk h2
      clear h1 h2
      obtain ⟨b, hb⟩ : ∃ b, all32 l = b := ⟨_, rfl⟩
      have hfa : digest_all.f l = some b := by rw [← hb]; rfl
      replace hfa := Aside0.mk hfa
      replace hb := Aside0.mk hb
      have HA : ∀ b, digest_all.f l = some b → Calls Tryd.prog 45 #[.slice A L c] w fun e w' => e = .returned (.bool b) ∧ Drawn0 w w' := by
        intro b h
        have := digest_all.calls A c l b w (by rw [hL.out]; exact HR0.out) (by rw [hL.out]; exact hc) h
        rwa [hL.out] at this
      replace HA := Aside0.mk HA
      cases b
      · go_wp2_with (go_at_call 45; refine (HA.out false hfa.out).mono ?_; rintro e w' ⟨rfl, hd⟩)
        have hv : verifyF root n i s l = false := by unfold verifyF; rw [if_neg (by have := HI.out; omega), if_neg (by have := HN.out; omega), if_pos hb.out]
        exact ⟨.bool false, by simp [results, Tryd.results21, go_sem], by rw [hv], hd.below⟩
      · go_wp2_with (go_at_call 45; refine (HA.out true hfa.out).mono ?_; rintro e w' ⟨rfl, hd⟩)
        have hv : verifyF root n i s l = endV root s (descF l.reverse n.toNat i.toNat []) := by unfold verifyF; rw [if_neg (by have := HI.out; omega), if_neg (by have := HN.out; omega), if_neg (by rw [hb.out]; simp)]
        obtain ⟨D, hD⟩ : ∃ D, descF l.reverse n.toNat i.toNat [] = D := ⟨_, rfl⟩
        rw [hD] at hv
        replace hv := Aside0.mk hv
        replace hD := Aside0.mk hD
        have hall : ∀ y ∈ l, y.size = 32 := by
          intro y hy
          have := hb.out
          unfold all32 at this
          rw [List.all_eq_true] at this
          have := this y hy
          simp at this
          omega
        replace hall := Aside0.mk hall
        obtain ⟨n', hn'⟩ : ∃ n' : Nat, n = n' := ⟨n.toNat, by have := HI.out; have := HN.out; omega⟩
        obtain ⟨i', hi'⟩ : ∃ i' : Nat, i = i' := ⟨i.toNat, by have := HI.out; omega⟩
        subst hn'
        subst hi'
        have hin : i' < n' := by have := HN.out; omega
        replace hin := Aside0.mk hin
        replace hni := Aside0.mk hni
        have hBw := Aside0.mk hd.below
        clear hd HI HN HA hfa hb d1 d2
        obtain ⟨i58, hi58, h581, h582, h583⟩ := info_parts info58
        go_loopw [1, 2, 4, 11] (fun v1 v2 v4 v11 w' => ∃ (n i m : Nat) (way : Way), v1 = .int .i64 (n : Int) ∧ v2 = .int .i64 (i : Int) ∧ v4 = .slice A m c ∧ Aside0 (m + way.length = L) ∧ Aside0 (i < n) ∧ Aside0 (n ≤ 9223372036854775807) ∧ Aside0 (descF (l.take m).reverse n i way = D) ∧ Aside0 (∀ p ∈ way, p.1.size = 32) ∧ Aside0 (w'.ownsRow w.heap.size 58 2 v11 way.length (flat way.reverse)) ∧ Aside0 (Below w.heap.size w w')) (fun v _ _ _ _ => (intOf v).toNat)
        case atStart => exact ⟨n', i', L, [], rfl, rfl, rfl, ⟨rfl⟩, hin, ⟨by have := hni.out; omega⟩, ⟨by rw [List.take_of_length_le (by rw [hL.out]; exact Nat.le_refl _)]; have := hD.out; simpa using this⟩, ⟨fun p hp => by cases hp⟩, ⟨World.ownsRow_nil _ _ _ _⟩, hBw⟩
        case round =>
          clear hBw hin hni hD
          obtain ⟨n, i, m, way, rfl, rfl, rfl, hmw, hin, hn63, hdf, hw32, OW, HB⟩ := hrel
          by_cases h2 : 1 < n
          · have e1 : decide ((1 : Int) < (n : Int)) = true := decide_eq_true (by omega)
            cases m with
            | zero =>
              have hD0 : D = none := by
                rw [← hdf.out]
                simp [descF]
                omega
              have hv0 : verifyF root n' i' s l = false := by rw [hv.out, hD0]; rfl
              go_wp2_with (go_at_call 46; refine (take_nil _ _ _).mono ?_; rintro e w1 ⟨rfl, hd1⟩)
              exact ⟨.bool false, by simp [results, Tryd.results21, go_sem], by rw [hv0], below_then HB.out HB.out.size hd1.below⟩
            | succ m =>
              have hmL : m + 1 ≤ L := by have := hmw.out; omega
              obtain ⟨x, hx⟩ : ∃ x, l[m]? = some x := ⟨_, List.getElem?_eq_getElem (by rw [hL.out]; omega)⟩
              have htk : l.take (m + 1) = l.take m ++ [x] := by rw [List.take_add_one, hx]; rfl
              have hlm : (l.take m).length = m := by rw [List.length_take, hL.out]; omega
              have hCw : Kd.C Kd.string wr A (l.take m ++ [x]).length (l.take m ++ [x]) := by
                rw [← htk]
                refine Kd.C_below (Kd.C_take (by rw [hL.out]; exact HR0.out) (by rw [hL.out]; exact hmL)) HB.out
              have HT := take_snoc A c (l.take m) x wr hCw (by rw [hlm]; have := HC0.out; rw [hL.out] at this; omega)
              rw [hlm] at HT
              replace HT := Aside0.mk HT
              have hx32 : x.size = 32 := hall.out x (List.mem_of_getElem? hx)
              replace hx32 := Aside0.mk hx32
              have hdf1 := hdf.out
              rw [htk, List.reverse_append, List.reverse_singleton, List.singleton_append, descF, if_neg (by omega)] at hdf1
              replace hdf1 := Aside0.mk hdf1
              have hk := leftN_lt n (by omega) hn63.out
              have hlf : digest_left.f (n : Int) = some (leftN n : Int) := by
                unfold digest_left.f
                rw [if_pos ⟨by omega, by have := hn63.out; omega⟩]
                rfl
              obtain ⟨k, hkk⟩ : ∃ k, leftN n = k := ⟨_, rfl⟩
              rw [hkk] at hk hlf hdf1
              replace hk := Aside0.mk hk
              replace hlf := Aside0.mk hlf
              clear hdf hx htk hlm hCw hkk
              have hwl : way.length ≤ 1000000 := by have := hmw.out; omega
              replace hmw := Aside0.mk hmw.out
              by_cases hki : k ≤ i
              · have e2 : decide ((k : Int) ≤ (i : Int)) = true := decide_eq_true (by omega)
                go_upto_region 8 with (go_at_call 46; refine HT.out.mono ?_; rintro e w1 ⟨rfl, hd1⟩)
                have OW1 := Aside0.mk (own_keep2 OW.out hd1.below)
                have HB1 := Aside0.mk (below_then HB.out HB.out.size hd1.below)
                clear OW HB hd1 HT
                go_upto_region 10 with (go_at_call 40; refine (digest_left.calls _ _ _ hlf.out).mono ?_; rintro e w2 ⟨rfl, ⟨q, rfl⟩⟩)
                have OW2 := Aside0.mk (own_keep2 OW1.out (pw_below_drewN (Below.refl _ w1) q))
                have HB2 := Aside0.mk (below_then HB1.out HB1.out.size (pw_below_drewN (Below.refl _ w1) q))
                clear OW1 HB1
                generalize w1.drewN q = w2 at OW2 HB2 ⊢
                refine wp_region_list ?_
                iterate 7 (go_step; go_simp; rename_i hK; refine hK _ _ ?_; clear hK)
                have O1 := OW2.out.alloc (.cells #[Value.string x, Value.bool true] 58)
                have B1 := below_alloc' HB2.out HB2.out.size (.cells #[Value.string x, Value.bool true] 58)
                refine wpList_append_own _ rfl (.tmp 44) (.tmp 50) 54 rfl w.heap.size 58 i58 (.agg #[.string ⟨#[]⟩, .bool false]) 2 24 Tryd.underlying54 hi58 h581 h582 h583 rfl (by decide) _ way.length (flat way.reverse) rfl O1 ⟨w2.heap.size, 0, none⟩ 1 1 [Value.string x, Value.bool true] rfl rfl two_of_block (by simp [Value.oneCell']) (by unfold maxLen; omega) (by omega) B1.size ?_
                intro v51 w3 o3 hg3 _
                have HB3 := Aside0.mk (B1.grown hg3 B1.size (fun k e => (OW2.out.lt k e).1))
                rw [show flat way.reverse ++ [Value.string x, Value.bool true] = flat ((x, true) :: way).reverse by rw [List.reverse_cons, flat_append]; rfl] at o3
                have OW3 := Aside0.mk o3
                clear o3 hg3 B1 O1 OW2 HB2
                have q1 : IntKind.i64.wrap ((n : Int) - (k : Int)) = ((n - k : Nat) : Int) := by have := hk.out; have := hn63.out; rw [IntKind.wrap_i64]; omega
                have q2 : IntKind.i64.wrap ((i : Int) - (k : Int)) = ((i - k : Nat) : Int) := by have := hk.out; have := hn63.out; have := hin.out; rw [IntKind.wrap_i64]; omega
                obtain ⟨nk, hnk⟩ : ∃ nk, n - k = nk := ⟨_, rfl⟩
                obtain ⟨ik, hik⟩ : ∃ ik, i - k = ik := ⟨_, rfl⟩
                rw [hnk] at q1
                rw [hik] at q2
                replace hnk := Aside0.mk hnk
                replace hik := Aside0.mk hik
                go_step
                go_simp
                rename_i hK
                refine hK _ _ ?_
                clear hK
                go_wp2_with fail
                have hkk' := hk.out
                have hin' := hin.out
                have hmw' := hmw.out
                have hn' := hn63.out
                have hnk' := hnk.out
                have hik' := hik.out
                refine ⟨⟨nk, ik, m, (x, true) :: way, rfl, rfl, rfl, ⟨by rw [List.length_cons]; omega⟩, ⟨by omega⟩, ⟨by omega⟩, ⟨by
                  have := hdf1.out
                  rw [if_pos hki] at this
                  rw [hnk', hik'] at this
                  exact this⟩, ⟨fun p hp => by
                  rcases List.mem_cons.1 hp with rfl | hp
                  · exact hx32.out
                  · exact hw32.out p hp⟩, OW3, HB3⟩, ?_⟩
                simp only [intOf]
                omega
              · have e2 : decide ((k : Int) ≤ (i : Int)) = false := decide_eq_false (by omega)
                go_upto_region 8 with (go_at_call 46; refine HT.out.mono ?_; rintro e w1 ⟨rfl, hd1⟩)
                have OW1 := Aside0.mk (own_keep2 OW.out hd1.below)
                have HB1 := Aside0.mk (below_then HB.out HB.out.size hd1.below)
                clear OW HB hd1 HT
                go_upto_region 10 with (go_at_call 40; refine (digest_left.calls _ _ _ hlf.out).mono ?_; rintro e w2 ⟨rfl, ⟨q, rfl⟩⟩)
                have OW2 := Aside0.mk (own_keep2 OW1.out (pw_below_drewN (Below.refl _ w1) q))
                have HB2 := Aside0.mk (below_then HB1.out HB1.out.size (pw_below_drewN (Below.refl _ w1) q))
                clear OW1 HB1
                generalize w1.drewN q = w2 at OW2 HB2 ⊢
                refine wp_region_list ?_
                iterate 7 (go_step; go_simp; rename_i hK; refine hK _ _ ?_; clear hK)
                have O1 := OW2.out.alloc (.cells #[Value.string x, Value.bool false] 58)
                have B1 := below_alloc' HB2.out HB2.out.size (.cells #[Value.string x, Value.bool false] 58)
                refine wpList_append_own _ rfl (.tmp 44) (.tmp 50) 54 rfl w.heap.size 58 i58 (.agg #[.string ⟨#[]⟩, .bool false]) 2 24 Tryd.underlying54 hi58 h581 h582 h583 rfl (by decide) _ way.length (flat way.reverse) rfl O1 ⟨w2.heap.size, 0, none⟩ 1 1 [Value.string x, Value.bool false] rfl rfl two_of_block (by simp [Value.oneCell']) (by unfold maxLen; omega) (by omega) B1.size ?_
                intro v51 w3 o3 hg3 _
                have HB3 := Aside0.mk (B1.grown hg3 B1.size (fun k e => (OW2.out.lt k e).1))
                rw [show flat way.reverse ++ [Value.string x, Value.bool false] = flat ((x, false) :: way).reverse by rw [List.reverse_cons, flat_append]; rfl] at o3
                have OW3 := Aside0.mk o3
                clear o3 hg3 B1 O1 OW2 HB2
                go_step
                go_simp
                rename_i hK
                refine hK _ _ ?_
                clear hK
                go_wp2_with fail
                have hkk' := hk.out
                have hin' := hin.out
                have hmw' := hmw.out
                have hn' := hn63.out
                
                
                refine ⟨⟨k, i, m, (x, false) :: way, rfl, rfl, rfl, ⟨by rw [List.length_cons]; omega⟩, ⟨by omega⟩, ⟨by omega⟩, ⟨by
                  have := hdf1.out
                  rw [if_neg hki] at this
                  skip
                  exact this⟩, ⟨fun p hp => by
                  rcases List.mem_cons.1 hp with rfl | hp
                  · exact hx32.out
                  · exact hw32.out p hp⟩, OW3, HB3⟩, ?_⟩
                simp only [intOf]
                omega
          · have e1 : decide ((1 : Int) < (n : Int)) = false := decide_eq_false (by omega)
            have hmL : m ≤ L := by have := hmw.out; omega
            have hlm : (l.take m).length = m := by rw [List.length_take, hL.out]; omega
            have hDw : D = some (way, (l.take m).reverse) := by
              rw [← hdf.out]
              cases (l.take m).reverse with
              | nil => rw [descF, if_pos (by omega)]
              | cons y r => rw [descF, if_pos (by omega)]
            have hv1 : verifyF root n' i' s l = (decide (m = 0) && (upF way (leafF s) == root)) := by
              rw [hv.out, hDw]
              show ((l.take m).reverse.isEmpty && _) = _
              congr 1
              cases m with
              | zero => rfl
              | succ m =>
                have : (l.take (m + 1)).reverse ≠ [] := fun e => by
                  have := congrArg List.length e
                  rw [List.length_reverse, hlm] at this
                  simp at this
                cases h : (l.take (m + 1)).reverse with
                | nil => exact absurd h this
                | cons y r => rfl
            replace hv1 := Aside0.mk hv1
            clear hDw hlm hdf hv
            have hwl : way.length ≤ 1000000 := by have := hmw.out; omega
            have hss : s.size ≤ 549755813888 := hs
            go_upto_region 15 with (go_at_call 29; refine (leaf_calls s _ (hG_.below HB.out) hs).mono ?_; rintro e w1 ⟨rfl, hb1⟩)
            obtain ⟨Aw, cw, gw, huw, hAw, hgw, hcw⟩ : ∃ Aw cw gw, u11 = .slice Aw way.length cw ∧ (0 < way.length → Aw = some ⟨gw, 0, none⟩) ∧ gw < wr.heap.size ∧ backDR way.reverse gw 0 wr := by
              have h := OW.out
              obtain ⟨_, ⟨h1, h2⟩ | ⟨g, cap, cur, h1, hb, hg, _⟩⟩ := h
              · have hw0 : way = [] := List.eq_nil_of_length_eq_zero h2
                refine ⟨none, 0, 0, by rw [h1, h2], fun h => by omega, ?_, ?_⟩
                · obtain ⟨_, _, h'⟩ := hG_
                  have := (Array.getElem?_eq_some_iff.1 h').1
                  have := HB.out.size
                  omega
                · intro j y hy
                  rw [hw0] at hy
                  simp at hy
              · refine ⟨_, cap, g, h1, fun _ => rfl, (Array.getElem?_eq_some_iff.1 hg).1, ?_⟩
                intro j y hy
                have h0 := OW.out
                rw [h1] at h0
                obtain ⟨f1, f2⟩ := flat_get _ j y hy
                have e1 := own_at2 h0 _ _ f1
                have e2 := own_at2 h0 _ _ f2
                rw [Nat.zero_add]
                exact ⟨e1, e2⟩
            subst huw
            clear OW
            go_wp2_with (go_at_call 47; refine (callsIn_wide.1 (backD_fn _ _ _ _)).mono ?_; rintro e w' ⟨rfl, rfl⟩)
            obtain ⟨nw, hnw⟩ : ∃ nw, way.length = nw := ⟨_, rfl⟩
            rw [hnw] at hAw hwl ⊢
            obtain ⟨W0, hW0⟩ : ∃ W0, (w1.alloc (Obj.cells #[Value.string (leafF s)] 9)).alloc (Obj.cells #[Value.slice Aw nw cw] 54) = W0 := ⟨_, rfl⟩
            have hsz0 : W0.heap.size = w1.heap.size + 2 := by rw [← hW0]; simp
            have b1 : Boxed W0 w1.heap.size 9 (.string (leafF s)) := by rw [← hW0]; exact (Boxed.new w1 _ _).alloc _
            have b2 : Boxed W0 (w1.heap.size + 1) 54 (.slice Aw nw cw) := by
              rw [← hW0]
              have := Boxed.new (w1.alloc (.cells #[Value.string (leafF s)] 9)) 54 (.slice Aw nw cw)
              rwa [World.size_alloc] at this
            have bel1 : Below w1.heap.size w1 W0 := by rw [← hW0]; exact ((Below.refl _ w1).alloc (Nat.le_refl _) _).alloc (by simp) _
            have belr : Below wr.heap.size wr W0 := below_then hb1 hb1.size bel1
            have belw : Below w.heap.size w W0 := below_then HB.out HB.out.size belr
            obtain ⟨xs, hxs⟩ : ∃ xs, way.reverse = xs := ⟨_, rfl⟩
            have hxl : xs.length = nw := by rw [← hxs, ← hnw]; simp
            rw [hxs] at hcw
            have RB : backDR xs gw 0 W0 := hcw.block (belr.block gw hgw)
            have hall2 : ∀ y ∈ xs, y.1.size = 32 := by
              intro y hy
              rw [← hxs, List.mem_reverse] at hy
              exact hw32.out y hy
            have hend : upF way (leafF s) = xs.reverse.foldl (fun out y => joinF y out) (leafF s) := by
              rw [← hxs, List.reverse_reverse]
              rfl
            have hg1 : gw < w1.heap.size := Nat.lt_of_lt_of_le hgw hb1.size
            have hgw1 : w.heap.size ≤ w1.heap.size := Nat.le_trans HB.out.size hb1.size
            have RR : Amb W0 := hG_.below belw
            replace hend := Aside0.mk hend
            rw [hW0]
            clear hW0 hcw bel1 belr HB hb1 hw32 hmw hgw hxs
            generalize w1.heap.size = gb at hsz0 b1 b2 hg1 hgw1 ⊢
            refine (wpIn_wide (n := 4)).1 ?_
            refine rangeFunc_Y rfl (by decide) (gf := 63) (lb := #[.pointer (some ⟨gb + 1, 0, none⟩)]) rfl trivial (enters_of Tryd.func63 (by kernel_rfl) rfl)
              (Z := fun _ => False) (fun k hk => hk.elim)
              (encs := fun y : Fin nw => #[.int .i64 (y.val : Int), encD (xs[y.val]'(hxl ▸ y.isLt))]) (Kp := fun A B => B.heap[gb + 1]? = A.heap[gb + 1]? ∧ B.heap[gw]? = A.heap[gw]?) (S := fun ys => ys.map Fin.val = (List.range nw).reverse) (Sp := fun _ => True) (N := nw) ?iter
              (fun h k => ⟨k.1.trans h.1, k.2.trans h.2⟩) (fun W l o hl => ⟨World.putObj_heap_other (by omega), World.putObj_heap_other (by omega)⟩) (fun _ => rfl)
              (fun pre W => Boxed W gb 9 (.string (pre.foldl (fun out y => joinF (xs[y.val]'(hxl ▸ y.isLt)) out) (leafF s))) ∧ BelowBut gb W0 W)
              (fun _ _ _ => False)
              ?ab (fun _ _ _ _ _ hs _ _ => hs)
              ⟨b1, ⟨rfl, rfl, rfl, Nat.le_refl _, fun _ _ _ => rfl⟩⟩ ?round ?done ?stop
            case iter =>
              intro l' J Jx W hW hJ hJx hY hJ0
              exact backD_in l' (gb + 1) gw 0 nw cw _ xs hxl (by omega) hAw J Jx hY W (b2.kept hW (by simp)) (RB.block (hW.block gw (by omega) (by simp))) hJ0
            case ab =>
              rintro pre W W' row ⟨hA, hB⟩ hg hrow
              have hne : ∀ r, row = some r → W0.heap.size ≤ r := fun r e => by
                rcases hrow r e with h | ⟨h, _⟩
                · exact h.elim
                · exact h
              refine ⟨hA.kept hg (fun e => by have := hne gb e.symm; omega), ⟨hg.os.trans hB.os, hg.tape.trans hB.tape, hg.output.trans hB.output, Nat.le_trans hB.size hg.size, fun i hi hig => (hg.block i (Nat.lt_of_lt_of_le hi hB.size) (fun e => by have := hne i e.symm; omega)).trans (hB.block i hi hig)⟩⟩
            case round =>
              rintro l' pre y W ⟨hA, hB⟩ hlt hWs
              dsimp only
              rw [zip_two, foldl_two]
              simp only [List.setIfInBounds_toArray, List.set_cons_succ, List.set_cons_zero]
              have hys := hall2 _ (List.getElem_mem (hxl ▸ y.isLt : y.val < xs.length))
              obtain ⟨p, hp⟩ : ∃ p, xs[y.val]'(hxl ▸ y.isLt) = p := ⟨_, rfl⟩
              rw [hp] at hys ⊢
              replace hp := Aside0.mk hp
              obtain ⟨x1, x2⟩ := p
              unfold encD
              dsimp only at hys ⊢
              gi_wp2
              have hgbW : gb < W.heap.size := hA.lt
              have hqW : gb + 1 < W.heap.size := by omega
              have hgwW : gw < W.heap.size := by omega
              refine ⟨⟨below_alloc (Below.refl _ _) _, ⟨hA.alloc _, ⟨hB.os, hB.tape, hB.output, Nat.le_trans hB.size (by simp), fun i hi hig => ((below_alloc (Below.refl W.heap.size W) _).block i (by omega)).trans (hB.block i hi hig)⟩⟩, (below_alloc (Below.refl W.heap.size W) _).block _ hqW, (below_alloc (Below.refl W.heap.size W) _).block _ hgwW⟩, ?_⟩
              rintro V hV ⟨hA', hB'⟩
              have hbox : V.heap[W.heap.size]? = some (.cells #[Value.string x1, Value.bool x2] 58 (0, 0)) := (hV.block W.heap.size (by simp) (by simp; omega)).trans (heap_alloc_new ..)
              have hb0 : V.cell? ⟨W.heap.size, 0, none⟩ = some (.string x1) := by simp [World.cell?, hbox]
              have hb1 : V.cell? ⟨W.heap.size, 1, none⟩ = some (.bool x2) := by simp [World.cell?, hbox]
              obtain ⟨out, hout⟩ : ∃ out, pre.foldl (fun out y => joinF (xs[y.val]'(hxl ▸ y.isLt)) out) (leafF s) = out := ⟨_, rfl⟩
              have hos : out.size = 32 := by rw [← hout]; exact jfold_size (fun y : Fin nw => xs[y.val]'(hxl ▸ y.isLt)) pre _ (sumF_size _)
              rw [hout] at hA'
              have hc := hA'.cell
              have hRV : Amb V := by
                obtain ⟨t, fr, h⟩ := RR
                have hlt0 : 0 < gb := by
                  obtain ⟨_, _, h'⟩ := hG_
                  have := (Array.getElem?_eq_some_iff.1 h').1
                  omega
                exact ⟨t, fr, (hB'.block _ (by omega) (by omega)).trans h⟩
              have hF : Fence.wide.fn 48 := trivial
              clear hbox hV
              gi_wp2_with fail
              refine CallsIn.mono (CallsIn.inRound _ (callsIn_wide.2 (side_join_calls x1 x2 out V hRV (by omega)))) ?_
              rintro e w' ⟨rfl, hb'⟩
              have hgbV : gb < V.heap.size := hA'.lt
              have hA2 : Boxed w' gb 9 (.string out) := (hb'.block gb hgbV).trans hA'
              have hc' := hA2.cell
              have hf' := hA2.frozen
              clear hb0 hb1
              gi_wp2_with fail
              have hq : gb + 1 < V.heap.size := Nat.lt_of_lt_of_le (by omega) hB'.size
              have hq3 : gw < V.heap.size := Nat.lt_of_lt_of_le (by omega) hB'.size
              have G := grownBy_setCell' w' gb (.string (joinF (x1, x2) out))
              have T1 : ∀ i, i < V.heap.size → i ≠ gb → (w'.setCell ⟨gb, 0, none⟩ (.string (joinF (x1, x2) out))).heap[i]? = V.heap[i]? := fun i hi hig => (G.block i (Nat.lt_of_lt_of_le hi hb'.size) (fun e => hig (by injection e))).trans (hb'.block i hi)
              have hset := hA2.set (.string (joinF (x1, x2) out))
              refine ⟨⟨Nat.le_trans hb'.size G.size, fun k o hk ho _ => (T1 k (Array.getElem?_eq_some_iff.1 ho).1 (by omega)).trans ho⟩, ⟨T1 _ hq (by omega), T1 _ hq3 (by omega)⟩, ?_, ⟨G.os.trans (hb'.os.trans hB'.os), G.tape.trans (hb'.tape.trans hB'.tape), G.output.trans (hb'.output.trans hB'.output), Nat.le_trans hB'.size (Nat.le_trans hb'.size G.size), fun i hi hig => (T1 i (Nat.lt_of_lt_of_le hi hB'.size) hig).trans (hB'.block i hi hig)⟩⟩
              rw [List.foldl_append, hout]
              show Boxed _ gb 9 (.string (joinF (xs[y.val]'(hxl ▸ y.isLt)) out))
              rw [hp.out]
              exact hset
            case done =>
              rintro D ys W hD hys ⟨hA, hB⟩ hK
              have hfin := fold_rev xs hxl ys hys joinF (leafF s)
              rw [hfin, ← hend.out] at hA
              have hc := hA.cell
              have t1 : Below w.heap.size w W := ⟨hB.os.trans belw.os, hB.tape.trans belw.tape, hB.output.trans belw.output, Nat.le_trans belw.size hB.size, fun i hi => (hB.block i (by omega) (by omega)).trans (belw.block i hi)⟩
              have t2 := Aside0.mk (t1.trans (belowK_b (w := W0) (o' := .deferred none) belw.size W D _ hD hK rfl rfl))
              have hv2 := hv1.out
              rw [beq_toListBytes] at hv2
              dsimp only [Exit.inBlock, Exit.then]
              by_cases hm0 : m = 0
              · subst hm0
                rw [decide_eq_true rfl, Bool.true_and] at hv2
                replace hv2 := Aside0.mk hv2
                go_wp2_with fail
                refine ⟨by simp, .inl ⟨_, _, rfl, run_takeDeferred hK, ?_⟩⟩
                exact ⟨.bool ((upF way (leafF s)).toList == root.toList), by simp [results, Tryd.results21, go_sem], by rw [hv2.out], t2.out⟩
              · rw [decide_eq_false hm0, Bool.false_and] at hv2
                replace hv2 := Aside0.mk hv2
                have dm : ((m : Int) == 0) = false := beq_eq_false_iff_ne.mpr (by omega)
                go_wp2_with fail
                refine ⟨by simp, .inl ⟨_, _, rfl, run_takeDeferred hK, ?_⟩⟩
                exact ⟨.bool false, by simp [results, Tryd.results21, go_sem], by rw [hv2.out], t2.out⟩
            case stop =>
              rintro D c pre W _ _ h _
              exact h.elim
end Go.Proofs.YtjkdenldddjcnaaDoor.Sha

set_option linter.unusedVariables false
set_option linter.unusedSimpArgs false
namespace Go.Proofs.YtjkdenldddjcnaaDoor.Sha
open Go Go.RowKit Go.Shelf Go.Proofs.YtjkdenldddjcnaaDoor.Rf Go.Proofs.YtjkdenldddjcnaaDoorW.PrintWords Go.Proofs.YtjkdenldddjcnaaDoorW.PrintLast Go.Proofs.YtjkdenldddjcnaaDoorW.PrintMore
def SE (ad : Addr) (y : ByteArray) (g1 g2 : Nat) (W : World) : Prop :=
  W.cell? ad = some (.string y) ∧ (∃ u, Boxed W g1 9 (.string u)) ∧ (∃ u, Boxed W g2 9 (.string u)) ∧ ad.block ≠ g1 ∧ ad.block ≠ g2 ∧ g1 ≠ g2
theorem SE.drew {ad : Addr} {y : ByteArray} {g1 g2 : Nat} {W : World} (h : SE ad y g1 g2 W) : SE ad y g1 g2 W.drew := h
theorem cell_other {W : World} {a : Addr} {q : Nat} {v : Value} (h : a.block ≠ q) : (W.setCell ⟨q, 0, none⟩ v).cell? a = W.cell? a :=
  World.cell?_of_block (Below.heap_setCell _ _ _ _ h)
theorem SE.set1 {ad : Addr} {y : ByteArray} {g1 g2 : Nat} {W : World} (h : SE ad y g1 g2 W) : SE ad y g1 g2 (W.setCell ⟨g1, 0, none⟩ (.string y)) := by
  obtain ⟨h1, ⟨u1, b1⟩, ⟨u2, b2⟩, h4, h5, h6⟩ := h
  exact ⟨(cell_other h4).trans h1, ⟨y, b1.set _⟩, ⟨u2, b2.kept (grownBy_setCell' W g1 _) (by simp; omega)⟩, h4, h5, h6⟩
theorem SE.set2 {ad : Addr} {y : ByteArray} {g1 g2 : Nat} {W : World} (h : SE ad y g1 g2 W) : SE ad y g1 g2 (W.setCell ⟨g2, 0, none⟩ (.string y)) := by
  obtain ⟨h1, ⟨u1, b1⟩, ⟨u2, b2⟩, h4, h5, h6⟩ := h
  exact ⟨(cell_other h5).trans h1, ⟨u1, b1.kept (grownBy_setCell' W g2 _) (by simp; omega)⟩, ⟨y, b2.set _⟩, h4, h5, h6⟩
theorem add_zero (ad : Addr) : ad.add 0 = ad := by
  cases ad
  unfold Addr.add
  split <;> simp_all
def vere.T23 : Bool × List (List Nat × List Nat) := (true, [([], []), ([0], [0]), ([1], [1]), ([], []), ([3], [3]), ([4], [4]), ([2, 0, 1, 2], [2]), ([5, 6, 0, 1, 2, 3, 4, 5, 6], [5]), ([7, 0, 1, 2, 3, 4, 5, 6, 7], [0, 3])])
def vere.B23 : List Nat := [0, 1, 3, 0, 8, 24, 7, 127, 255]
theorem vere.tab23 : rtab .any (opsOf Tryd.f23 23) = vere.T23 := by kernel_rfl
theorem vere.bits23 : waitsOk vere.T23.2 vere.B23 = true := by kernel_rfl
noncomputable def vereR23 : Code := ((Tryd.f23.body.bind (regionOf 23)).getD .skip)
set_option maxHeartbeats 4000000 in
set_option maxRecDepth 100000 in
theorem vere_r23 (R : Act → World → Prop) (W : World) (v0 v1 v2 v3 v5 v6 v7 v8 v9 v10 v11 v12 v13 v14 v15 v16 v19 v20 v21 v22 v23 v24 v25 v26 v27 v28 v29 v30 v31 v32 v33 v34 v35 v36 v37 v38 v39 v40 v41 v42 v43 v44 v45 v46 v47 v48 v49 v50 v51 v52 v53 v54 v55 v56 v57 v58 v59 v60 v61 v62 v63 v64 v65 v66 v67 v68 v69 v70 v71 v72 v73 v74 v75 v76 v77 v78 v79 v80 v81 v82 v83 v84 v85 v86 v87 v88 v89 v90 v91 v92 v93 v94 v95 v96 v97 v98 v99 v100 v101 v102 v103 v104 v105 v106 v107 v108 v109 v110 v111 v112 v113 v114 v115 v116 v117 v118 v119 v120 v121 v122 v123 v124 v125 v126 v127 v128 v129 v130 v131 v132 v133 v134 v135 v136 : Value) (ad : Addr) (c g1 g2 : Nat) (y a1 a2 : ByteArray)
    (hS : SE ad y g1 g2 W)
    (hQ : ∀ (z106 z107 z108 z109 z110 z111 : Value), R ⟨#[v0, v1, v2, v3, Value.slice none 0 0, v5, v6, v7, v8, v9, v10, v11, v12, v13, v14, v15, v16, Value.pointer (some ⟨g1, 0, none⟩), Value.pointer (some ⟨g2, 0, none⟩), v19, v20, v21, v22, v23, v24, v25, v26, v27, v28, v29, v30, v31, v32, v33, v34, v35, v36, v37, v38, v39, v40, v41, v42, v43, v44, v45, v46, v47, v48, v49, v50, v51, v52, v53, v54, v55, v56, v57, v58, v59, v60, v61, v62, v63, v64, v65, v66, v67, v68, v69, v70, v71, v72, v73, v74, v75, v76, v77, v78, v79, v80, v81, v82, v83, v84, v85, v86, v87, v88, v89, v90, v91, v92, v93, v94, v95, v96, v97, v98, v99, v100, v101, v102, v103, v104, v105, z106, z107, z108, z109, z110, z111, v112, v113, v114, v115, v116, v117, v118, v119, v120, v121, v122, v123, v124, v125, v126, v127, v128, v129, v130, v131, v132, v133, v134, v135, v136], []⟩ ((W.drew.setCell ⟨g1, 0, none⟩ (.string y)).setCell ⟨g2, 0, none⟩ (.string y))) :
    vereR23.wp Tryd.prog (Norm R) ⟨#[v0, v1, v2, v3, Value.slice (some ad) 1 c, v5, v6, v7, v8, v9, v10, v11, v12, v13, v14, v15, v16, Value.pointer (some ⟨g1, 0, none⟩), Value.pointer (some ⟨g2, 0, none⟩), v19, v20, v21, v22, v23, v24, v25, v26, v27, v28, v29, v30, v31, v32, v33, v34, v35, v36, v37, v38, v39, v40, v41, v42, v43, v44, v45, v46, v47, v48, v49, v50, v51, v52, v53, v54, v55, v56, v57, v58, v59, v60, v61, v62, v63, v64, v65, v66, v67, v68, v69, v70, v71, v72, v73, v74, v75, v76, v77, v78, v79, v80, v81, v82, v83, v84, v85, v86, v87, v88, v89, v90, v91, v92, v93, v94, v95, v96, v97, v98, v99, v100, v101, v102, v103, v104, v105, v106, v107, v108, v109, v110, v111, v112, v113, v114, v115, v116, v117, v118, v119, v120, v121, v122, v123, v124, v125, v126, v127, v128, v129, v130, v131, v132, v133, v134, v135, v136], []⟩ W := by
  unfold vereR23
  conv => arg 2; whnf
  refine start_ (n := 9) (S := SE ad y g1 g2) (ds := []) #[false, false, false, false, false, false, false, false, false] (by kernel_rfl) rfl rfl (SE.drew hS) (fun hHeld => ?_); refine with_tabW vere.tab23 vere.bits23 (fun HT_ HW_ => ?_)
  refine pure_ (i := 0) (N := some 106) (v := ?_) (a' := ?_) #[true, false, false, false, false, false, false, false, false] rfl rfl (any_of HT_.out (by kernel_rfl)) (fun _ _ _ h => h) (Or.inl ⟨by rfl, ?_⟩) ?_ ?_
  rotate_left
  · intro w'
    go_simp
    with_reducible rfl
  rotate_left
  · simp only [Act.put, List.setIfInBounds_toArray, List.set_cons_zero, List.set_cons_succ, i64_w, i32_w]
    rfl
  refine pure_ (i := 1) (N := some 107) (v := ?_) (a' := ?_) #[true, true, false, false, false, false, false, false, false] rfl rfl (any_of HT_.out (by kernel_rfl)) (fun _ _ _ h => h) (Or.inl ⟨by rfl, ?_⟩) ?_ ?_
  rotate_left
  · intro w'
    go_simp
    with_reducible rfl
  rotate_left
  · simp only [Act.put, List.setIfInBounds_toArray, List.set_cons_zero, List.set_cons_succ, i64_w, i32_w]
    rfl
  refine pure_ (i := 3) (N := some 109) (v := ?_) (a' := ?_) #[true, true, false, true, false, false, false, false, false] rfl rfl (any_of HT_.out (by kernel_rfl)) (fun _ _ _ h => h) (Or.inl ⟨by rfl, ?_⟩) ?_ ?_
  rotate_left
  · intro w'
    go_simp
    with_reducible rfl
  rotate_left
  · simp only [Act.put, List.setIfInBounds_toArray, List.set_cons_zero, List.set_cons_succ, i64_w, i32_w]
    rfl
  refine pure_ (i := 4) (N := some 110) (v := ?_) (a' := ?_) #[true, true, false, true, true, false, false, false, false] rfl rfl (any_of HT_.out (by kernel_rfl)) (fun _ _ _ h => h) (Or.inl ⟨by rfl, ?_⟩) ?_ ?_
  rotate_left
  · intro w'
    go_simp
    with_reducible rfl
  rotate_left
  · simp only [Act.put, List.setIfInBounds_toArray, List.set_cons_zero, List.set_cons_succ, i64_w, i32_w]
    rfl
  refine take_ (i := 2) (N := some 108) (v := ?_) (a' := ?_) #[true, true, true, true, true, false, false, false, false] rfl rfl (take_ofW HT_.out HW_.out (by kernel_rfl)) (fun _ _ _ h => h) (Or.inl ⟨by rfl, ?_⟩) hHeld ?_ ?_
  rotate_left
  · intro w' hS_
    have c_ := hS_.1
    go_simp
    with_reducible rfl
  rotate_left
  · simp only [Act.put, List.setIfInBounds_toArray, List.set_cons_zero, List.set_cons_succ, i64_w, i32_w]
    rfl
  refine take_ (i := 5) (N := some 111) (v := ?_) (a' := ?_) #[true, true, true, true, true, true, false, false, false] rfl rfl (take_ofW HT_.out HW_.out (by kernel_rfl)) (fun _ _ _ h => h) (Or.inl ⟨by rfl, ?_⟩) hHeld ?_ ?_
  rotate_left
  · intro w' hS_
    have c_ := hS_.1
    go_simp
    with_reducible rfl
  rotate_left
  · simp only [Act.put, List.setIfInBounds_toArray, List.set_cons_zero, List.set_cons_succ, i64_w, i32_w]
    rfl
  refine one_ (i := 6) (N := none) #[true, true, true, true, true, true, true, false, false] rfl rfl (one_of HT_.out (by kernel_rfl)) (by decide) (fun K hK => ?_)
  obtain ⟨u1_, b1_⟩ := hHeld.2.1
  have c1_ := b1_.cell
  have f1_ := b1_.frozen
  refine skip_ (w1 := ?_) (by rfl) rfl ?_ ?_
  rotate_left
  · go_simp
    rfl
  refine hK.out _ _ (SE.set1 hHeld) (fun hHeld => ?_)
  clear hK K f1_ c1_ b1_
  refine one_ (i := 7) (N := none) #[true, true, true, true, true, true, true, true, false] rfl rfl (one_of HT_.out (by kernel_rfl)) (by decide) (fun K hK => ?_)
  obtain ⟨u2_, b2_⟩ := hHeld.2.2.1
  have c2_ := b2_.cell
  have f2_ := b2_.frozen
  refine skip_ (w1 := ?_) (by rfl) rfl ?_ ?_
  rotate_left
  · go_simp
    rfl
  refine hK.out _ _ (SE.set2 hHeld) (fun hHeld => ?_)
  clear hK K f2_ c2_ b2_
  refine pure_ (i := 8) (N := some 4) (v := ?_) (a' := ?_) #[true, true, true, true, true, true, true, true, true] rfl rfl (any_of HT_.out (by kernel_rfl)) (fun _ _ _ h => h) (Or.inl ⟨by rfl, ?_⟩) ?_ ?_
  rotate_left
  · intro w'
    go_simp
    with_reducible rfl
  rotate_left
  · simp only [Act.put, List.setIfInBounds_toArray, List.set_cons_zero, List.set_cons_succ, i64_w, i32_w]
    rfl
  refine done_ (done_of HT_.out (by kernel_rfl)) ?_
  exact hQ _ _ _ _ _ _
end Go.Proofs.YtjkdenldddjcnaaDoor.Sha

set_option linter.unusedVariables false
set_option linter.unusedSimpArgs false
namespace Go.Proofs.YtjkdenldddjcnaaDoor.Sha
open Go Go.RowKit Go.Shelf Go.Proofs.YtjkdenldddjcnaaDoorW.PrintWords Go.Proofs.YtjkdenldddjcnaaDoorW.PrintLast Go.Proofs.YtjkdenldddjcnaaDoorW.PrintMore
def small (l : List ByteArray) : Bool := decide (l.length ≤ 1000000) && l.all (fun s => decide (s.size ≤ 549755813888))
def digest_Root.f (l0 : List ByteArray) : Option ByteArray := if small l0 = true then some (rootF l0) else none
theorem digest_Root.calls (A0 : Option Addr) (c0 : Nat) (l0 : List ByteArray) (r : ByteArray) (w : World) (hr0 : Kd.C Kd.string w A0 l0.length l0) (hc0 : l0.length ≤ c0) (hG_ : Amb w) (h : digest_Root.f l0 = some r) :
    Calls Tryd.prog 19 #[.slice A0 l0.length c0] w fun e w' => e = .returned (.string r) ∧ Below w.heap.size w w' := by
  unfold digest_Root.f at h
  by_cases hc : small l0 = true
  · rw [if_pos hc] at h
    have e := Option.some.inj h
    rw [← e]
    unfold small at hc
    rw [Bool.and_eq_true, decide_eq_true_iff, List.all_eq_true] at hc
    exact root_calls A0 c0 l0 w hr0 hc0 hG_ hc.1 (fun s hs => of_decide_eq_true (hc.2 s hs))
  · rw [if_neg hc] at h
    exact absurd h (by simp)
end Go.Proofs.YtjkdenldddjcnaaDoor.Sha

