/- The contracts of functions, written by this session's program (wip/pp.py): what the list functions answer, the code comes to. No condition. Plain law of DigestExtensionBinding: the strings of two extension proofs that come to the same root. No condition but bounds on lengths. Plain laws of the root of a list: it is the node of the roots of its two parts; extensions and proofs of a list climb to its root. No condition but bounds on lengths. Plain laws of Extension: what the printed list functions answer. Conditions: at most 1,000,000 strings, of at most 2^39 bytes. Plain laws of Proof: what the printed list functions answer, and what Verify makes of it. Conditions: at most 1,000,000 strings, of at most 2^39 bytes. Extension and Proof, with a row that is only read. No condition. The fixed examples of layer 2 hold: what 'sane' computes is true. No condition. -/
import Derived.Test.YtjkdenldddjcnaaDoorProg
import Derived.Below
import Derived.Deep.Draws
import Derived.Deep.AppendLies
import Derived.Maps.AppendAt
import Derived.OwnWalk
import Derived.Laws.BytesArg
import Derived.Laws.MakeOwn
import Derived.Laws.OwnMore
import Derived.Deep.OwnRows
import Derived.Tactics
import Derived.Lib.ConvBytes
import Derived.Laws.Slices
import Derived.WalkKit
import Derived.KernelRfl
import Derived.RowKit3
import Derived.Deep.LoopGhost
import Derived.Deep.QuietTactic
import Derived.BigQuiet
import Derived.WideLaws
import Derived.Deep.DeepCutAuto
import Derived.Deep.CutBlock
import Derived.Deep.RegionHeld3
import Derived.Laws.Rows
import Derived.Lib.AppendStr
import Derived.ArgAppend
import Derived.Laws.IdiomCopy
import Derived.OrdersHeld
import Derived.Laws.BitsLemmas
import Derived.RowKit
import Derived.Test.YtjkdenldddjcnaaDoorKDigestProofAccepted9
import Derived.Test.YtjkdenldddjcnaaDoorKDigestProofAccepted12
import Derived.Test.YtjkdenldddjcnaaDoorWWords
import Derived.Test.YtjkdenldddjcnaaDoorWLast
import Derived.Test.YtjkdenldddjcnaaDoorWTab
import Derived.Test.YtjkdenldddjcnaaDoorWQPut
import Derived.Test.YtjkdenldddjcnaaDoorWApart
import Derived.Test.YtjkdenldddjcnaaDoorWArr
import Derived.Test.YtjkdenldddjcnaaDoorWZeros
import Derived.Test.YtjkdenldddjcnaaDoorWFoot
import Derived.Test.YtjkdenldddjcnaaDoorWKept
import Derived.Test.YtjkdenldddjcnaaDoorWShare
import Derived.Test.YtjkdenldddjcnaaDoorWN
import Derived.Test.YtjkdenldddjcnaaDoorWRepsOne
import Derived.Test.YtjkdenldddjcnaaDoorWGuard
import Derived.Test.YtjkdenldddjcnaaDoorWNEv
import Derived.Test.YtjkdenldddjcnaaDoorWMore
import Derived.Test.YtjkdenldddjcnaaDoorKDigestProofAccepted11
import Derived.Test.YtjkdenldddjcnaaDoorKDigestProofAccepted10
namespace Go.Proofs.YtjkdenldddjcnaaDoor.Dh
open Go.RowKit Go.Proofs.YtjkdenldddjcnaaDoor.Sha Go.Proofs.YtjkdenldddjcnaaDoor.Df Go.Proofs.YtjkdenldddjcnaaDoorW.PrintWords Go.Proofs.YtjkdenldddjcnaaDoorW.PrintLast Go.Proofs.YtjkdenldddjcnaaDoorW.PrintMore
attribute [local go_sem] max2_int min2_int max_two min_two max_three min_three max_four min_four   -- for this text's walks alone
set_option linter.unusedVariables false
set_option linter.unusedSimpArgs false



def errW : Option Int → Value
  | none => .nilIface
  | some c => .iface 0 (.int .i64 c)
theorem errW_none : errW none = .nilIface := rfl
theorem errW_some (c : Int) : errW (some c) = .iface 0 (.int .i64 c) := rfl

theorem info9 : (Tryd.prog.info? 9).map (fun i => (i.zero, i.size, i.bytes)) = some (some (.string ⟨#[]⟩), 1, 16) := by kernel_rfl
-- the values' own types

end Go.Proofs.YtjkdenldddjcnaaDoor.Dh

namespace Go.Proofs.YtjkdenldddjcnaaDoor.Dh
open Go.RowKit Go.Proofs.YtjkdenldddjcnaaDoor.Sha Go.Proofs.YtjkdenldddjcnaaDoor.Df Go.Proofs.YtjkdenldddjcnaaDoorW.PrintWords Go.Proofs.YtjkdenldddjcnaaDoorW.PrintLast Go.Proofs.YtjkdenldddjcnaaDoorW.PrintMore
attribute [local go_sem] max2_int min2_int max_two min_two max_three min_three max_four min_four   -- for this text's walks alone
set_option linter.unusedVariables false
set_option linter.unusedSimpArgs false

end Go.Proofs.YtjkdenldddjcnaaDoor.Dh
set_option linter.unusedVariables false
set_option linter.unusedSimpArgs false
namespace Go.Proofs.YtjkdenldddjcnaaDoor.Sha
open Go Go.RowKit Go.Proofs.YtjkdenldddjcnaaDoor.Df Go.Proofs.YtjkdenldddjcnaaDoor.Dh Go.Proofs.YtjkdenldddjcnaaDoorW.PrintWords Go.Proofs.YtjkdenldddjcnaaDoorW.PrintLast Go.Proofs.YtjkdenldddjcnaaDoorW.PrintMore

theorem up_cons (x : ByteArray) (b : Bool) (way : Way) (s : ByteArray) : upF ((x, b) :: way) s = upF way (joinF (x, b) s) := by unfold upF; rw [List.foldl_cons]
theorem joinF_t (x s : ByteArray) : joinF (x, true) s = nodeF x s := by rw [joinF, if_pos rfl]
theorem joinF_f (x s : ByteArray) : joinF (x, false) s = nodeF s x := by rw [joinF, if_neg (by simp)]
end Go.Proofs.YtjkdenldddjcnaaDoor.Sha

set_option linter.unusedVariables false
set_option linter.unusedSimpArgs false
namespace Go.Proofs.YtjkdenldddjcnaaDoor.Sha
open Go Go.RowKit Go.Proofs.YtjkdenldddjcnaaDoor.Df Go.Proofs.YtjkdenldddjcnaaDoorW.PrintWords Go.Proofs.YtjkdenldddjcnaaDoorW.PrintLast Go.Proofs.YtjkdenldddjcnaaDoorW.PrintMore

theorem merge_fuel : ∀ (k k' : Nat) (st : St), st.length ≤ k → st.length ≤ k' → mergeF k st = mergeF k' st := by
  intro k
  induction k with
  | zero =>
    intro k' st h h'
    have : st = [] := List.length_eq_zero_iff.1 (by omega)
    subst this
    cases k' <;> simp [mergeF]
  | succ k ih =>
    intro k' st h h'
    cases k' with
    | zero =>
      have : st = [] := List.length_eq_zero_iff.1 (by omega)
      subst this
      simp [mergeF]
    | succ k' =>
      match st, h, h' with
      | [], _, _ => simp [mergeF]
      | [p], _, _ => simp [mergeF]
      | (b, s) :: (a, t) :: r, h, h' =>
        simp only [mergeF]
        split
        · exact ih _ _ (by simp at h ⊢; omega) (by simp at h' ⊢; omega)
        · rfl
theorem merge_bottom (x : ByteArray) (s : Nat) : ∀ (k : Nat) (st : St), st ≠ [] → (st.map (·.2)).sum < s → mergeF k (st ++ [(x, s)]) = mergeF k st ++ [(x, s)] := by
  intro k
  induction k with
  | zero => intro st _ _; rfl
  | succ k ih =>
    intro st hne hs
    match st, hne, hs with
    | [(b, u)], _, hs =>
      simp only [List.cons_append, List.nil_append, mergeF]
      rw [if_neg (by simp at hs; omega)]
    | (b, u) :: (a, t) :: r, _, hs =>
      simp only [List.cons_append, mergeF]
      split
      · have := ih ((nodeF a b, 2 * u) :: r) (by simp) (by simp at hs ⊢; omega)
        simpa using this
      · rfl
theorem step_good {st : St} {i : Nat} (h : Good st i) (x : ByteArray) : Good (stepF st x) (i + 1) := Good.mergeF _ (h.leaf x)
theorem fold_bottom (x : ByteArray) (s : Nat) : ∀ (l : List ByteArray) (st : St) (i : Nat), Good st i → i + l.length < s → l.foldl stepF (st ++ [(x, s)]) = l.foldl stepF st ++ [(x, s)] := by
  intro l
  induction l with
  | nil => intro st i _ _; rfl
  | cons y l ih =>
    intro st i hg hs
    simp only [List.length_cons] at hs
    rw [List.foldl_cons, List.foldl_cons]
    have e : stepF (st ++ [(x, s)]) y = stepF st y ++ [(x, s)] := by
      unfold stepF
      have h1 := merge_bottom x s ((st ++ [(x, s)]).length + 1) ((leafF y, 1) :: st) (by simp) (by have := hg.sum; simp; omega)
      rw [List.cons_append] at h1
      rw [h1, merge_fuel _ (st.length + 1) ((leafF y, 1) :: st) (by simp) (by simp)]
    rw [e]
    exact ih _ (i + 1) (step_good hg y) (by omega)
theorem root_one (x : ByteArray) : rootF [x] = leafF x := by
  unfold rootF foldF
  rw [List.foldl_cons, List.foldl_nil]
  simp [stepF, mergeF, endF]
theorem merge_apart (k : Nat) (x : ByteArray) (s : Nat) (st : St) (h : ∀ p ∈ st.head?, p.2 ≠ s) : mergeF k ((x, s) :: st) = (x, s) :: st := by
  cases k with
  | zero => rfl
  | succ k =>
    match st, h with
    | [], _ => simp [mergeF]
    | (a, t) :: r, h =>
      simp only [mergeF]
      rw [if_neg (h (a, t) (by simp))]
theorem fold_full : ∀ (e : Nat) (l : List ByteArray), l.length = 2 ^ e → ∀ st : St, (∀ p ∈ st.head?, 2 ^ e ≤ p.2) → l.foldl stepF st = mergeF (st.length + 1) ((rootF l, 2 ^ e) :: st) := by
  intro e
  induction e with
  | zero =>
    intro l hl st _
    match l, hl with
    | [x], _ => rw [root_one, List.foldl_cons, List.foldl_nil]; rfl
  | succ e ih =>
    intro l hl st hst
    have hp : 0 < 2 ^ e := Nat.two_pow_pos e
    have h2 : 2 ^ (e + 1) = 2 * 2 ^ e := by rw [Nat.pow_succ]; omega
    have hla : (l.take (2 ^ e)).length = 2 ^ e := by rw [List.length_take]; omega
    have hlb : (l.drop (2 ^ e)).length = 2 ^ e := by rw [List.length_drop]; omega
    have key : ∀ st : St, (∀ p ∈ st.head?, 2 ^ (e + 1) ≤ p.2) → l.foldl stepF st = mergeF (st.length + 1) ((nodeF (rootF (l.take (2 ^ e))) (rootF (l.drop (2 ^ e))), 2 ^ (e + 1)) :: st) := by
      intro st hst
      have h1 : l.foldl stepF st = (l.drop (2 ^ e)).foldl stepF ((l.take (2 ^ e)).foldl stepF st) := by rw [← List.foldl_append, List.take_append_drop]
      rw [h1, ih _ hla st (fun p hp' => by have := hst p hp'; omega), merge_apart _ _ _ _ (fun p hp' => by have := hst p hp'; omega), ih _ hlb _ (fun p hp' => by simp at hp'; subst hp'; simp)]
      rw [List.length_cons]
      show (if 2 ^ e = 2 ^ e then mergeF (st.length + 1) ((nodeF (rootF (l.take (2 ^ e))) (rootF (l.drop (2 ^ e))), 2 * 2 ^ e) :: st) else _) = _
      rw [if_pos rfl, h2]
    have hr : rootF l = nodeF (rootF (l.take (2 ^ e))) (rootF (l.drop (2 ^ e))) := by
      have h3 := key [] (fun p hp' => by simp at hp')
      have h4 : foldF l = mergeF 1 [(nodeF (rootF (l.take (2 ^ e))) (rootF (l.drop (2 ^ e))), 2 ^ (e + 1))] := h3
      unfold rootF
      rw [h4]
      simp [mergeF, endF]
      rfl
    rw [key st hst, hr]
theorem foldF_full (e : Nat) (l : List ByteArray) (h : l.length = 2 ^ e) : foldF l = [(rootF l, 2 ^ e)] := by
  have h1 := fold_full e l h [] (fun p hp => by simp at hp)
  have h2 : foldF l = mergeF 1 [(rootF l, 2 ^ e)] := h1
  rw [h2]
  simp [mergeF]
theorem end_cons (x : ByteArray) (s : Nat) (r : St) : endF ((x, s) :: r) = r.foldl (fun out p => nodeF p.1 out) x := rfl
theorem end_bottom (x : ByteArray) (s : Nat) : ∀ (st : St), st ≠ [] → endF (st ++ [(x, s)]) = nodeF x (endF st) := by
  intro st h
  match st, h with
  | (y, t) :: r, _ =>
    rw [List.cons_append, end_cons, end_cons, List.foldl_append]
    rfl
theorem root_split (l : List ByteArray) (b : Nat) (h1 : 2 ^ b < l.length) (h2 : l.length ≤ 2 ^ (b + 1)) : rootF l = nodeF (rootF (l.take (2 ^ b))) (rootF (l.drop (2 ^ b))) := by
  rw [Nat.pow_succ] at h2
  have hla : (l.take (2 ^ b)).length = 2 ^ b := by rw [List.length_take]; omega
  have hld : (l.drop (2 ^ b)).length = l.length - 2 ^ b := by rw [List.length_drop]
  have h3 : foldF l = (l.drop (2 ^ b)).foldl stepF [(rootF (l.take (2 ^ b)), 2 ^ b)] := by
    rw [← foldF_full b _ hla]
    unfold foldF
    rw [← List.foldl_append, List.take_append_drop]
  by_cases hq : (l.drop (2 ^ b)).length = 2 ^ b
  · rw [fold_full b _ hq _ (fun p hp => by simp at hp; subst hp; simp)] at h3
    have h4 : foldF l = [(nodeF (rootF (l.take (2 ^ b))) (rootF (l.drop (2 ^ b))), 2 * 2 ^ b)] := by
      rw [h3]
      simp [mergeF]
    show endF (foldF l) = _
    rw [h4]
    rfl
  · have hg : Good ([] : St) 0 := ⟨fun p hp => (by cases hp), rfl⟩
    have h4 := fold_bottom (rootF (l.take (2 ^ b))) (2 ^ b) (l.drop (2 ^ b)) [] 0 hg (by omega)
    rw [List.nil_append] at h4
    rw [h4] at h3
    have hg2 := foldF_good (l.drop (2 ^ b)) [] 0 hg
    have hne : (l.drop (2 ^ b)).foldl stepF [] ≠ [] := by
      intro hn
      have := hg2.sum
      rw [hn] at this
      simp at this
      omega
    show endF (foldF l) = _
    rw [h3, end_bottom _ _ _ hne]
    rfl
theorem root_left (l : List ByteArray) (h : 2 ≤ l.length) (h3 : l.length ≤ 9223372036854775807) : rootF l = nodeF (rootF (l.take (leftN l.length))) (rootF (l.drop (leftN l.length))) := by
  obtain ⟨b, hb, _, h4, h5⟩ := left_exp l.length h h3
  rw [hb]
  exact root_split l b h4 h5
theorem end_size : ∀ (st : St) (i : Nat), Good st i → (endF st).size = 32 := by
  intro st i h
  match st, h with
  | [], _ => exact sumF_size _
  | (x, s) :: r, h =>
    rw [end_cons]
    exact fold_size (fun p : ByteArray × Nat => p.1) r x (h.h (x, s) List.mem_cons_self).1
theorem root_size (l : List ByteArray) : (rootF l).size = 32 := end_size _ _ (foldF_good l [] 0 ⟨fun p hp => (by cases hp), rfl⟩)
theorem all32_of {l : List ByteArray} (h : ∀ x ∈ l, x.size = 32) : all32 l = true := by
  unfold all32
  rw [List.all_eq_true]
  intro x hx
  rw [beq_iff_eq, h x hx]
  rfl
theorem beq_same (a : ByteArray) : (a == a) = true := by rw [beq_toListBytes]; simp
end Go.Proofs.YtjkdenldddjcnaaDoor.Sha

set_option linter.unusedVariables false
set_option linter.unusedSimpArgs false
namespace Go.Proofs.YtjkdenldddjcnaaDoor.Sha
open Go Go.RowKit Go.Proofs.YtjkdenldddjcnaaDoor.Df Go.Proofs.YtjkdenldddjcnaaDoorW.PrintWords Go.Proofs.YtjkdenldddjcnaaDoorW.PrintLast Go.Proofs.YtjkdenldddjcnaaDoorW.PrintMore

theorem small_iff (l : List ByteArray) : small l = true ↔ l.length ≤ 1000000 ∧ ∀ s ∈ l, s.size ≤ 549755813888 := by
  unfold small
  rw [Bool.and_eq_true, decide_eq_true_iff, List.all_eq_true]
  constructor
  · rintro ⟨h1, h2⟩
    exact ⟨h1, fun s hs => of_decide_eq_true (h2 s hs)⟩
  · rintro ⟨h1, h2⟩
    exact ⟨h1, fun s hs => decide_eq_true (h2 s hs)⟩
theorem small_take {l : List ByteArray} (h : small l = true) (k : Nat) : small (l.take k) = true := by
  rw [small_iff] at h ⊢
  exact ⟨by rw [List.length_take]; omega, fun s hs => h.2 s (List.mem_of_mem_take hs)⟩
theorem small_drop {l : List ByteArray} (h : small l = true) (k : Nat) : small (l.drop k) = true := by
  rw [small_iff] at h ⊢
  exact ⟨by rw [List.length_drop]; omega, fun s hs => h.2 s (List.mem_of_mem_drop hs)⟩
theorem root_f {l : List ByteArray} (h : small l = true) : digest_Root.f l = some (rootF l) := by unfold digest_Root.f; rw [if_pos h]
theorem small_of {l : List ByteArray} (n : Nat) (h : l.length ≤ n) (hn : n ≤ 1000000) (h2 : ∀ s ∈ l, s.size ≤ 60) : small l = true := by
  rw [small_iff]
  exact ⟨by omega, fun s hs => by have := h2 s hs; omega⟩
theorem digleft_f (n : Nat) (h : 2 ≤ n) (h2 : n ≤ 9223372036854775807) : digest_left.f (n : Int) = some (leftN n : Int) := by
  unfold digest_left.f
  rw [if_pos ⟨by omega, by omega⟩, Int.toNat_natCast]
theorem reverse_loop : ∀ (k : Nat) (A M B : List ByteArray), M.length < k → (A ++ (M ++ B)).length ≤ 1000000000 → slices_Reverse_string_string.l0 k (A ++ (M ++ B)) (A.length : Int) ((A.length : Int) + (M.length : Int) - 1) = some (A ++ (M.reverse ++ B)) := by
  intro k
  induction k with
  | zero => intro A M B h; omega
  | succ k ih =>
    intro A M B h hl
    rw [slices_Reverse_string_string.l0]
    match M, h, hl with
    | [], _, _ => rw [if_neg (by simp; omega)]; rfl
    | [x], _, _ => rw [if_neg (by simp)]; rfl
    | x :: z :: R, h, hl =>
      obtain ⟨M', y, hM⟩ : ∃ M' y, z :: R = M' ++ [y] := ⟨(z :: R).dropLast, (z :: R).getLast (List.cons_ne_nil _ _), (List.dropLast_concat_getLast (List.cons_ne_nil _ _)).symm⟩
      rw [hM] at h hl ⊢
      have e0 : A ++ (x :: (M' ++ [y]) ++ B) = A ++ (x :: (M' ++ (y :: B))) := by simp
      rw [e0] at hl ⊢
      have hlen : ((x :: (M' ++ [y])).length : Int) = (M'.length : Int) + 2 := by simp; omega
      have hll : ((A ++ (x :: (M' ++ (y :: B)))).length : Int) = (A.length : Int) + (M'.length : Int) + (B.length : Int) + 2 := by simp; omega
      have hh : A.length + M'.length + B.length + 2 ≤ 1000000000 := by omega
      rw [hlen, hll, if_pos (by omega), if_pos (by omega), if_pos (by omega), if_pos (by omega), if_pos (by omega)]
      have i1 : (A.length : Int) + ((M'.length : Int) + 2) - 1 = ((A.length + (M'.length + 1) : Nat) : Int) := by omega
      rw [i1]
      have r1 : rdOf ByteArray.empty (A ++ (x :: (M' ++ (y :: B)))) ((A.length + (M'.length + 1) : Nat) : Int) = y := rdOf_at (by
        rw [List.getElem?_append_right (by omega), Nat.add_sub_cancel_left, List.getElem?_cons_succ, List.getElem?_append_right (Nat.le_refl _), Nat.sub_self, List.getElem?_cons_zero])
      have r2 : rdOf ByteArray.empty (A ++ (x :: (M' ++ (y :: B)))) (A.length : Int) = x := rdOf_at (by
        rw [List.getElem?_append_right (Nat.le_refl _), Nat.sub_self, List.getElem?_cons_zero])
      rw [r1, r2, Int.toNat_natCast, Int.toNat_natCast]
      have h1 : (A ++ (x :: (M' ++ (y :: B)))).set A.length y = A ++ (y :: (M' ++ (y :: B))) := by
        rw [List.set_append_right _ _ (Nat.le_refl _), Nat.sub_self, List.set_cons_zero]
      have h2 : (A ++ (y :: (M' ++ (y :: B)))).set (A.length + (M'.length + 1)) x = A ++ (y :: (M' ++ (x :: B))) := by
        rw [List.set_append_right _ _ (by omega), Nat.add_sub_cancel_left, List.set_cons_succ, List.set_append_right _ _ (Nat.le_refl _), Nat.sub_self, List.set_cons_zero]
      rw [h1, h2]
      have h3 : A ++ (y :: (M' ++ (x :: B))) = (A ++ [y]) ++ (M' ++ (x :: B)) := by simp
      have w1 : wrap64 ((A.length : Int) + 1) = ((A ++ [y]).length : Int) := by unfold wrap64; simp; omega
      have w2 : wrap64 (((A.length + (M'.length + 1) : Nat) : Int) - 1) = ((A ++ [y]).length : Int) + (M'.length : Int) - 1 := by unfold wrap64; simp; omega
      rw [h3, w1, w2, ih (A ++ [y]) M' (x :: B) (by simp at h; omega) (by simp; omega)]
      simp
theorem reverse_f (l : List ByteArray) (k : Nat) (h : l.length < k) (hl : l.length ≤ 1000000000) : slices_Reverse_string_string.f k l = some l.reverse := by
  unfold slices_Reverse_string_string.f
  have := reverse_loop k [] l [] h (by simpa using hl)
  simp only [List.nil_append, List.append_nil, List.length_nil] at this
  rw [show wrap64 ((l.length : Int) - 1) = ((0 : Nat) : Int) + (l.length : Int) - 1 by unfold wrap64; omega]
  exact this
end Go.Proofs.YtjkdenldddjcnaaDoor.Sha

set_option linter.unusedVariables false
set_option linter.unusedSimpArgs false
namespace Go.Proofs.YtjkdenldddjcnaaDoor.Sha
open Go Go.RowKit Go.Proofs.YtjkdenldddjcnaaDoor.Df Go.Proofs.YtjkdenldddjcnaaDoorW.PrintWords Go.Proofs.YtjkdenldddjcnaaDoorW.PrintLast Go.Proofs.YtjkdenldddjcnaaDoorW.PrintMore

/-- What Proof pushes: the roots of the other parts, from the whole on. -/
def prP : Nat → List ByteArray → Nat → List ByteArray
  | 0, _, _ => []
  | f + 1, l, i => if l.length ≤ 1 then [] else if leftN l.length ≤ i then rootF (l.take (leftN l.length)) :: prP f (l.drop (leftN l.length)) (i - leftN l.length) else rootF (l.drop (leftN l.length)) :: prP f (l.take (leftN l.length)) i
theorem prP_size : ∀ (f : Nat) (l : List ByteArray) (i : Nat), ∀ x ∈ prP f l i, x.size = 32 := by
  intro f
  induction f with
  | zero => intro l i x hx; cases hx
  | succ f ih =>
    intro l i x hx
    rw [prP] at hx
    split at hx
    · cases hx
    · split at hx
      · rcases List.mem_cons.1 hx with rfl | hx
        · exact root_size _
        · exact ih _ _ x hx
      · rcases List.mem_cons.1 hx with rfl | hx
        · exact root_size _
        · exact ih _ _ x hx
theorem proof_l0 : ∀ (f : Nat) (l : List ByteArray) (i : Nat) (acc : List ByteArray) (k : Nat), i < l.length → l.length ≤ f → small l = true → acc.length + f ≤ 2000000 → acc.length + 2 * f + 5 < k →
    digest_Proof.l0 k l (i : Int) acc = some ((acc ++ prP f l i).reverse, 0) := by
  intro f
  induction f with
  | zero => intro l i acc k h1 h2; omega
  | succ f ih =>
    intro l i acc k h1 h3 h4 h5 h6
    have hsl := (small_iff l).1 h4
    obtain ⟨k, rfl⟩ : ∃ j, k = j + 1 := ⟨k - 1, by omega⟩
    rw [digest_Proof.l0, prP]
    by_cases hm : l.length = 1
    · rw [if_pos (by omega), if_pos (by omega), List.append_nil, reverse_f _ _ (by omega) (by omega)]
      rfl
    · have hlt := leftN_lt l.length (by omega) (by omega)
      rw [if_neg (by omega), if_neg (by omega), digleft_f _ (by omega) (by omega), Option.bind_some, if_pos (by omega), if_pos (by omega), Option.bind_some, Option.bind_some, Int.toNat_natCast]
      by_cases hk : leftN l.length ≤ i
      · have hw : wrap64 ((i : Int) - (leftN l.length : Int)) = ((i - leftN l.length : Nat) : Int) := by unfold wrap64; omega
        rw [if_pos (show (i : Int) ≥ (leftN l.length : Int) by omega), if_pos hk, root_f (small_take h4 _), Option.bind_some, if_pos (by omega), hw]
        rw [ih (l.drop (leftN l.length)) _ _ k (by rw [List.length_drop]; omega) (by rw [List.length_drop]; omega) (small_drop h4 _) (by simp; omega) (by simp; omega)]
        simp
      · rw [if_neg (show ¬((i : Int) ≥ (leftN l.length : Int)) by omega), if_neg hk, root_f (small_drop h4 _), Option.bind_some, if_pos (by omega)]
        rw [ih (l.take (leftN l.length)) _ _ k (by rw [List.length_take]; omega) (by rw [List.length_take]; omega) (small_take h4 _) (by simp; omega) (by simp; omega)]
        simp
/-- What Proof answers. -/
theorem proof_f (l : List ByteArray) (i k : Nat) (hi : i < l.length) (hs : small l = true) (hk : 2 * l.length + 10 < k) : digest_Proof.f k l (i : Int) = some ((prP l.length l i).reverse, 0) := by
  have hsl := (small_iff l).1 hs
  obtain ⟨k, rfl⟩ : ∃ j, k = j + 1 := ⟨k - 1, by omega⟩
  unfold digest_Proof.f
  rw [if_neg (by omega), digest_Proof.j0, if_neg (by simp; omega), proof_l0 l.length l i [] k hi (Nat.le_refl _) hs (by simp; omega) (by simp; omega)]
  rfl
theorem proof_out (l : List ByteArray) (i : Int) (k : Nat) (h : i < 0 ∨ (l.length : Int) ≤ i) (hk : 0 < k) : digest_Proof.f k l i = some ([], 2) := by
  obtain ⟨k, rfl⟩ : ∃ j, k = j + 1 := ⟨k - 1, by omega⟩
  unfold digest_Proof.f
  by_cases h0 : i < 0
  · rw [if_pos h0, digest_Proof.j0, if_pos rfl]
  · rw [if_neg h0, digest_Proof.j0, if_pos (by rw [decide_eq_true_iff]; omega)]
theorem prP_length : ∀ (b f : Nat) (l : List ByteArray) (i : Nat), l.length ≤ 2 ^ b → l.length ≤ 1000000 → i < l.length → (prP f l i).length ≤ b := by
  intro b
  induction b with
  | zero =>
    intro f l i h h0 h1
    cases f with
    | zero => simp [prP]
    | succ f => rw [prP, if_pos (by simpa using h)]; exact Nat.le_refl _
  | succ b ih =>
    intro f l i h h0 h1
    cases f with
    | zero => simp [prP]
    | succ f =>
      rw [prP]
      by_cases hm : l.length ≤ 1
      · rw [if_pos hm]; simp
      · rw [if_neg hm]
        obtain ⟨c, hc, _, h4, h5⟩ := left_exp l.length (by omega) (by omega)
        rw [Nat.pow_succ] at h5 h
        have hcb : 2 ^ c ≤ 2 ^ b := by
          apply Nat.pow_le_pow_right (by decide)
          rcases Nat.lt_or_ge b c with hh | hh
          · have := Nat.pow_le_pow_right (show 0 < 2 by decide) (show b + 1 ≤ c by omega)
            rw [Nat.pow_succ] at this; omega
          · exact hh
        split
        · rename_i hk
          have := ih f (l.drop (leftN l.length)) (i - leftN l.length) (by rw [List.length_drop]; omega) (by rw [List.length_drop]; omega) (by rw [List.length_drop]; omega)
          simp; omega
        · rename_i hk
          have := ih f (l.take (leftN l.length)) i (by rw [List.length_take]; omega) (by rw [List.length_take]; omega) (by rw [List.length_take]; omega)
          simp; omega
theorem pr_desc : ∀ (f : Nat) (l : List ByteArray) (i : Nat) (s : ByteArray) (way : Way), l[i]? = some s → l.length ≤ f → l.length ≤ 9223372036854775807 →
    ∃ way', descF (prP f l i) l.length i way = some (way', []) ∧ upF way' (leafF s) = upF way (rootF l) := by
  intro f
  induction f with
  | zero =>
    intro l i s way h1 h2
    have := (List.getElem?_eq_some_iff.1 h1).1
    omega
  | succ f ih =>
    intro l i s way h1 h3 h4
    have hi := (List.getElem?_eq_some_iff.1 h1).1
    rw [prP]
    by_cases hm : l.length ≤ 1
    · rw [if_pos hm]
      refine ⟨way, by rw [descF, if_pos hm], ?_⟩
      match l, h1, hi, hm with
      | [x], h1, hi, _ =>
        have h0 : i = 0 := by simp at hi; exact hi
        subst h0
        have : x = s := by simpa using h1
        rw [root_one, this]
    · rw [if_neg hm]
      have hlt := leftN_lt l.length (by omega) h4
      have hrl := root_left l (by omega) h4
      by_cases hk : leftN l.length ≤ i
      · rw [if_pos hk]
        obtain ⟨way', g1, g2⟩ := ih (l.drop (leftN l.length)) (i - leftN l.length) s ((rootF (l.take (leftN l.length)), true) :: way) (by rw [List.getElem?_drop]; rw [show leftN l.length + (i - leftN l.length) = i by omega]; exact h1) (by rw [List.length_drop]; omega) (by rw [List.length_drop]; omega)
        rw [List.length_drop] at g1
        refine ⟨way', ?_, ?_⟩
        · rw [descF, if_neg hm, if_pos hk]; exact g1
        · rw [g2, up_cons, joinF_t, hrl]
      · rw [if_neg hk]
        have hll : (l.take (leftN l.length)).length = leftN l.length := by rw [List.length_take]; omega
        obtain ⟨way', g1, g2⟩ := ih (l.take (leftN l.length)) i s ((rootF (l.drop (leftN l.length)), false) :: way) (by rw [List.getElem?_take, if_pos (by omega)]; exact h1) (by omega) (by omega)
        rw [hll] at g1
        refine ⟨way', ?_, ?_⟩
        · rw [descF, if_neg hm, if_neg hk]; exact g1
        · rw [g2, up_cons, joinF_f, hrl]
theorem pr_short : ∀ (f : Nat) (l : List ByteArray) (i : Nat) (L : List ByteArray) (way : Way), i < l.length → l.length ≤ f → l.length ≤ 9223372036854775807 → L.length < (prP f l i).length → descF L l.length i way = none := by
  intro f
  induction f with
  | zero => intro l i L way h1 h2; omega
  | succ f ih =>
    intro l i L way h1 h3 h4 h5
    rw [prP] at h5
    by_cases hm : l.length ≤ 1
    · rw [if_pos hm] at h5; simp at h5
    · rw [if_neg hm] at h5
      have hlt := leftN_lt l.length (by omega) h4
      cases L with
      | nil => rw [descF, if_neg hm]
      | cons x L =>
        rw [descF, if_neg hm]
        by_cases hk : leftN l.length ≤ i
        · rw [if_pos hk] at h5 ⊢
          have := ih (l.drop (leftN l.length)) (i - leftN l.length) L ((x, true) :: way) (by rw [List.length_drop]; omega) (by rw [List.length_drop]; omega) (by rw [List.length_drop]; omega) (by simpa using h5)
          rw [List.length_drop] at this
          exact this
        · rw [if_neg hk] at h5 ⊢
          have hll : (l.take (leftN l.length)).length = leftN l.length := by rw [List.length_take]; omega
          have := ih (l.take (leftN l.length)) i L ((x, false) :: way) (by omega) (by omega) (by omega) (by simpa using h5)
          rw [hll] at this
          exact this
theorem pr_long : ∀ (f : Nat) (l : List ByteArray) (i : Nat) (L : List ByteArray) (way : Way), i < l.length → l.length ≤ f → l.length ≤ 9223372036854775807 → (prP f l i).length < L.length → ∃ w x r, descF L l.length i way = some (w, x :: r) := by
  intro f
  induction f with
  | zero => intro l i L way h1 h2; omega
  | succ f ih =>
    intro l i L way h1 h3 h4 h5
    rw [prP] at h5
    cases L with
    | nil => simp at h5
    | cons x L =>
      rw [descF]
      by_cases hm : l.length ≤ 1
      · rw [if_pos hm]; exact ⟨_, _, _, rfl⟩
      · rw [if_neg hm] at h5 ⊢
        have hlt := leftN_lt l.length (by omega) h4
        by_cases hk : leftN l.length ≤ i
        · rw [if_pos hk] at h5 ⊢
          have := ih (l.drop (leftN l.length)) (i - leftN l.length) L ((x, true) :: way) (by rw [List.length_drop]; omega) (by rw [List.length_drop]; omega) (by rw [List.length_drop]; omega) (by simpa using h5)
          rw [List.length_drop] at this
          exact this
        · rw [if_neg hk] at h5 ⊢
          have hll : (l.take (leftN l.length)).length = leftN l.length := by rw [List.length_take]; omega
          have := ih (l.take (leftN l.length)) i L ((x, false) :: way) (by omega) (by omega) (by omega) (by simpa using h5)
          rw [hll] at this
          exact this
/-- The proof of an entry is accepted. -/
theorem proof_accept (l : List ByteArray) (i : Nat) (s : ByteArray) (h : l[i]? = some s) (hl : l.length ≤ 9223372036854775807) : verifyF (rootF l) (l.length : Int) (i : Int) s (prP l.length l i).reverse = true := by
  have hi := (List.getElem?_eq_some_iff.1 h).1
  have h32 : all32 (prP l.length l i).reverse = true := all32_of (fun x hx => prP_size _ l i x (List.mem_reverse.1 hx))
  unfold verifyF
  rw [if_neg (by omega), if_neg (by omega), if_neg (by rw [h32]; decide), List.reverse_reverse, Int.toNat_natCast, Int.toNat_natCast]
  obtain ⟨way', g1, g2⟩ := pr_desc l.length l i s [] h (Nat.le_refl _) hl
  rw [g1]
  show (true && (upF way' (leafF s) == rootF l)) = true
  rw [g2]
  show (true && (rootF l == rootF l)) = true
  rw [beq_same]
  rfl
/-- One that is longer or shorter is refused. -/
theorem proof_refuse (l : List ByteArray) (i : Nat) (s root : ByteArray) (L : List ByteArray) (hi : i < l.length) (hl : l.length ≤ 9223372036854775807) (hL : L.length ≠ (prP l.length l i).length) : verifyF root (l.length : Int) (i : Int) s L = false := by
  unfold verifyF
  rw [if_neg (by omega), if_neg (by omega)]
  split
  · rfl
  · rw [Int.toNat_natCast, Int.toNat_natCast]
    rcases Nat.lt_or_ge L.length (prP l.length l i).length with h | h
    · rw [pr_short l.length l i L.reverse [] hi (Nat.le_refl _) hl (by simpa using h)]
      rfl
    · obtain ⟨w, x, r, h2⟩ := pr_long l.length l i L.reverse [] hi (Nat.le_refl _) hl (by rw [List.length_reverse]; omega)
      rw [h2]
      rfl
end Go.Proofs.YtjkdenldddjcnaaDoor.Sha

set_option linter.unusedVariables false
namespace Go.Proofs.YtjkdenldddjcnaaDoor.Sha
open Go Go.RowKit Go.Proofs.YtjkdenldddjcnaaDoor.Df Go.Proofs.YtjkdenldddjcnaaDoorW.PrintWords Go.Proofs.YtjkdenldddjcnaaDoorW.PrintLast Go.Proofs.YtjkdenldddjcnaaDoorW.PrintMore

def extC.f (k : Nat) (l0 : List ByteArray) (a1 : Int) : Option (List ByteArray × Int) := digest_Extension.f k l0 a1
theorem extC.mono : ∀ a0 a1 k, LeO (extC.f k a0 a1) (extC.f (k + 1) a0 a1) := digest_Extension.mono
theorem extC.calls (k : Nat) (A0 : Option Addr) (c0 : Nat) (l0 : List ByteArray) (a1 : Int) (r1 : List ByteArray) (r2 : Int) (w : World) (hr0 : Kd.C Kd.string w A0 l0.length l0) (hc0 : l0.length ≤ c0) (hG_ : Amb w) (h : extC.f k l0 a1 = some (r1, r2)) :
    Calls Tryd.prog 16 #[.slice A0 l0.length c0, .int .i64 a1] w fun e w' => ∃ v0_ : Value, e = .returned (.tuple #[v0_, .int .i64 r2]) ∧ Kd.R Kd.string 9 w' w.heap.size (fun _ => True) v0_ r1 ∧ Below w.heap.size w w' := by
  refine (digest_Extension.calls k (fun k_ => k_ < w.heap.size) A0 c0 l0 a1 r1 r2 w (Kd.V_mk hc0 (Kd.C_F Kd.heap_string hr0)) hG_ h).mono ?_
  rintro e w' ⟨v0_, rfl, hR, hB⟩
  exact ⟨v0_, rfl, Kd.R_mono hR (fun _ _ => trivial), hB⟩
def proofC.f (k : Nat) (l0 : List ByteArray) (a1 : Int) : Option (List ByteArray × Int) := digest_Proof.f k l0 a1
theorem proofC.mono : ∀ a0 a1 k, LeO (proofC.f k a0 a1) (proofC.f (k + 1) a0 a1) := digest_Proof.mono
theorem proofC.calls (k : Nat) (A0 : Option Addr) (c0 : Nat) (l0 : List ByteArray) (a1 : Int) (r1 : List ByteArray) (r2 : Int) (w : World) (hr0 : Kd.C Kd.string w A0 l0.length l0) (hc0 : l0.length ≤ c0) (hG_ : Amb w) (h : proofC.f k l0 a1 = some (r1, r2)) :
    Calls Tryd.prog 14 #[.slice A0 l0.length c0, .int .i64 a1] w fun e w' => ∃ v0_ : Value, e = .returned (.tuple #[v0_, .int .i64 r2]) ∧ Kd.R Kd.string 9 w' w.heap.size (fun _ => True) v0_ r1 ∧ Below w.heap.size w w' := by
  refine (digest_Proof.calls k (fun k_ => k_ < w.heap.size) A0 c0 l0 a1 r1 r2 w (Kd.V_mk hc0 (Kd.C_F Kd.heap_string hr0)) hG_ h).mono ?_
  rintro e w' ⟨v0_, rfl, hR, hB⟩
  exact ⟨v0_, rfl, Kd.R_mono hR (fun _ _ => trivial), hB⟩
theorem proofC_f : proofC.f = digest_Proof.f := rfl
end Go.Proofs.YtjkdenldddjcnaaDoor.Sha

set_option linter.unusedVariables false
set_option linter.unusedSimpArgs false
namespace Go.Proofs.YtjkdenldddjcnaaDoor.Sha
open Go Go.RowKit Go.Proofs.YtjkdenldddjcnaaDoor.Df Go.Proofs.YtjkdenldddjcnaaDoorW.PrintWords Go.Proofs.YtjkdenldddjcnaaDoorW.PrintLast Go.Proofs.YtjkdenldddjcnaaDoorW.PrintMore
set_option maxRecDepth 100000
set_option maxRecDepth 100000 in
theorem dsn1 : digest_Proof.f 200 [(⟨#[97]⟩ : ByteArray), (⟨#[98]⟩ : ByteArray), (⟨#[99]⟩ : ByteArray)] 2 = some ([(⟨#[177, 55, 152, 95, 244, 132, 251, 96, 13, 185, 49, 7, 199, 123, 3, 101, 200, 13, 120, 245, 180, 41, 222, 208, 253, 151, 54, 29, 7, 121, 153, 235]⟩ : ByteArray)], 0) := by kernel_rfl
set_option maxRecDepth 100000 in
theorem dsn2 : digest_Extension.f 200 [(⟨#[97]⟩ : ByteArray), (⟨#[98]⟩ : ByteArray), (⟨#[99]⟩ : ByteArray)] 1 = some ([(⟨#[87, 235, 53, 97, 93, 71, 243, 78, 199, 20, 202, 205, 245, 253, 116, 96, 138, 94, 142, 16, 39, 36, 232, 11, 36, 178, 135, 192, 194, 123, 106, 49]⟩ : ByteArray), (⟨#[89, 127, 203, 49, 40, 45, 52, 101, 76, 32, 13, 52, 24, 252, 165, 112, 92, 100, 142, 191, 50, 110, 199, 61, 141, 222, 241, 24, 65, 248, 118, 216]⟩ : ByteArray)], 0) := by kernel_rfl
set_option maxRecDepth 100000 in
theorem dsn3 : digest_Proof.f 200 [(⟨#[97]⟩ : ByteArray), (⟨#[98]⟩ : ByteArray), (⟨#[99]⟩ : ByteArray)] 3 = some ([], 2) := by kernel_rfl
set_option maxRecDepth 100000 in
theorem dsn4 : digest_Root.f [(⟨#[97]⟩ : ByteArray), (⟨#[98]⟩ : ByteArray), (⟨#[99]⟩ : ByteArray)] = some (⟨#[54, 100, 46, 115, 194, 84, 10, 177, 33, 227, 166, 191, 149, 69, 176, 162, 73, 130, 205, 131, 14, 177, 61, 60, 209, 157, 227, 206, 108, 2, 30, 193]⟩ : ByteArray) := by kernel_rfl
set_option maxRecDepth 100000 in
theorem dsn5 : digest_Sum.f (⟨#[]⟩ : ByteArray) = some (⟨#[227, 176, 196, 66, 152, 252, 28, 20, 154, 251, 244, 200, 153, 111, 185, 36, 39, 174, 65, 228, 100, 155, 147, 76, 164, 149, 153, 27, 120, 82, 184, 85]⟩ : ByteArray) := by kernel_rfl
set_option maxRecDepth 100000 in
theorem dsn6 : digest_Sum.f (⟨#[97, 98, 99]⟩ : ByteArray) = some (⟨#[186, 120, 22, 191, 143, 1, 207, 234, 65, 65, 64, 222, 93, 174, 34, 35, 176, 3, 97, 163, 150, 23, 122, 156, 180, 16, 255, 97, 242, 0, 21, 173]⟩ : ByteArray) := by kernel_rfl
set_option maxRecDepth 100000 in
theorem dsn7 : clearwaylaw02_hex.f (⟨#[227, 176, 196, 66, 152, 252, 28, 20, 154, 251, 244, 200, 153, 111, 185, 36, 39, 174, 65, 228, 100, 155, 147, 76, 164, 149, 153, 27, 120, 82, 184, 85]⟩ : ByteArray) = some (⟨#[101, 51, 98, 48, 99, 52, 52, 50, 57, 56, 102, 99, 49, 99, 49, 52, 57, 97, 102, 98, 102, 52, 99, 56, 57, 57, 54, 102, 98, 57, 50, 52, 50, 55, 97, 101, 52, 49, 101, 52, 54, 52, 57, 98, 57, 51, 52, 99, 97, 52, 57, 53, 57, 57, 49, 98, 55, 56, 53, 50, 98, 56, 53, 53]⟩ : ByteArray) := by kernel_rfl
set_option maxRecDepth 100000 in
theorem dsn8 : clearwaylaw02_hex.f (⟨#[186, 120, 22, 191, 143, 1, 207, 234, 65, 65, 64, 222, 93, 174, 34, 35, 176, 3, 97, 163, 150, 23, 122, 156, 180, 16, 255, 97, 242, 0, 21, 173]⟩ : ByteArray) = some (⟨#[98, 97, 55, 56, 49, 54, 98, 102, 56, 102, 48, 49, 99, 102, 101, 97, 52, 49, 52, 49, 52, 48, 100, 101, 53, 100, 97, 101, 50, 50, 50, 51, 98, 48, 48, 51, 54, 49, 97, 51, 57, 54, 49, 55, 55, 97, 57, 99, 98, 52, 49, 48, 102, 102, 54, 49, 102, 50, 48, 48, 49, 53, 97, 100]⟩ : ByteArray) := by kernel_rfl
set_option maxRecDepth 100000 in
theorem dsn9 : digest_Verify.f (⟨#[54, 100, 46, 115, 194, 84, 10, 177, 33, 227, 166, 191, 149, 69, 176, 162, 73, 130, 205, 131, 14, 177, 61, 60, 209, 157, 227, 206, 108, 2, 30, 193]⟩ : ByteArray) 3 2 (⟨#[99]⟩ : ByteArray) [(⟨#[177, 55, 152, 95, 244, 132, 251, 96, 13, 185, 49, 7, 199, 123, 3, 101, 200, 13, 120, 245, 180, 41, 222, 208, 253, 151, 54, 29, 7, 121, 153, 235]⟩ : ByteArray)] = some true := by kernel_rfl
set_option maxRecDepth 100000 in
theorem dsn10 : digest_Verify.f (⟨#[54, 100, 46, 115, 194, 84, 10, 177, 33, 227, 166, 191, 149, 69, 176, 162, 73, 130, 205, 131, 14, 177, 61, 60, 209, 157, 227, 206, 108, 2, 30, 193]⟩ : ByteArray) 3 2 (⟨#[100]⟩ : ByteArray) [(⟨#[177, 55, 152, 95, 244, 132, 251, 96, 13, 185, 49, 7, 199, 123, 3, 101, 200, 13, 120, 245, 180, 41, 222, 208, 253, 151, 54, 29, 7, 121, 153, 235]⟩ : ByteArray)] = some false := by kernel_rfl
set_option maxRecDepth 100000 in
theorem dsn11 : digest_Root.f [(⟨#[97]⟩ : ByteArray)] = some (⟨#[2, 42, 105, 121, 230, 218, 183, 170, 90, 228, 195, 229, 228, 95, 126, 151, 113, 18, 167, 230, 53, 147, 130, 13, 190, 193, 236, 115, 138, 36, 249, 60]⟩ : ByteArray) := by kernel_rfl
set_option maxRecDepth 100000 in
theorem dsn12 : digest_Root.f [(⟨#[97]⟩ : ByteArray), (⟨#[98]⟩ : ByteArray)] = some (⟨#[177, 55, 152, 95, 244, 132, 251, 96, 13, 185, 49, 7, 199, 123, 3, 101, 200, 13, 120, 245, 180, 41, 222, 208, 253, 151, 54, 29, 7, 121, 153, 235]⟩ : ByteArray) := by kernel_rfl
set_option maxRecDepth 100000 in
theorem dsn13 : digest_VerifyExtension.f (⟨#[2, 42, 105, 121, 230, 218, 183, 170, 90, 228, 195, 229, 228, 95, 126, 151, 113, 18, 167, 230, 53, 147, 130, 13, 190, 193, 236, 115, 138, 36, 249, 60]⟩ : ByteArray) 1 (⟨#[54, 100, 46, 115, 194, 84, 10, 177, 33, 227, 166, 191, 149, 69, 176, 162, 73, 130, 205, 131, 14, 177, 61, 60, 209, 157, 227, 206, 108, 2, 30, 193]⟩ : ByteArray) 3 [(⟨#[87, 235, 53, 97, 93, 71, 243, 78, 199, 20, 202, 205, 245, 253, 116, 96, 138, 94, 142, 16, 39, 36, 232, 11, 36, 178, 135, 192, 194, 123, 106, 49]⟩ : ByteArray), (⟨#[89, 127, 203, 49, 40, 45, 52, 101, 76, 32, 13, 52, 24, 252, 165, 112, 92, 100, 142, 191, 50, 110, 199, 61, 141, 222, 241, 24, 65, 248, 118, 216]⟩ : ByteArray)] = some true := by kernel_rfl
set_option maxRecDepth 100000 in
theorem dsn14 : digest_VerifyExtension.f (⟨#[177, 55, 152, 95, 244, 132, 251, 96, 13, 185, 49, 7, 199, 123, 3, 101, 200, 13, 120, 245, 180, 41, 222, 208, 253, 151, 54, 29, 7, 121, 153, 235]⟩ : ByteArray) 1 (⟨#[54, 100, 46, 115, 194, 84, 10, 177, 33, 227, 166, 191, 149, 69, 176, 162, 73, 130, 205, 131, 14, 177, 61, 60, 209, 157, 227, 206, 108, 2, 30, 193]⟩ : ByteArray) 3 [(⟨#[87, 235, 53, 97, 93, 71, 243, 78, 199, 20, 202, 205, 245, 253, 116, 96, 138, 94, 142, 16, 39, 36, 232, 11, 36, 178, 135, 192, 194, 123, 106, 49]⟩ : ByteArray), (⟨#[89, 127, 203, 49, 40, 45, 52, 101, 76, 32, 13, 52, 24, 252, 165, 112, 92, 100, 142, 191, 50, 110, 199, 61, 141, 222, 241, 24, 65, 248, 118, 216]⟩ : ByteArray)] = some false := by kernel_rfl
theorem sane_f : clearwaylaw02_sane.f 200 = some true := by
  unfold clearwaylaw02_sane.f
  rw [Option.bind_some, dsn1, Option.bind_some, dsn2, Option.bind_some, dsn3, Option.bind_some, dsn4, Option.bind_some, dsn5, Option.bind_some, dsn7, Option.bind_some, if_pos (by rw [toList_data]), dsn6, Option.bind_some, dsn8, Option.bind_some]
  rw [show (ByteArray.toList (⟨#[98, 97, 55, 56, 49, 54, 98, 102, 56, 102, 48, 49, 99, 102, 101, 97, 52, 49, 52, 49, 52, 48, 100, 101, 53, 100, 97, 101, 50, 50, 50, 51, 98, 48, 48, 51, 54, 49, 97, 51, 57, 54, 49, 55, 55, 97, 57, 99, 98, 52, 49, 48, 102, 102, 54, 49, 102, 50, 48, 48, 49, 53, 97, 100]⟩ : ByteArray) == [98, 97, 55, 56, 49, 54, 98, 102, 56, 102, 48, 49, 99, 102, 101, 97, 52, 49, 52, 49, 52, 48, 100, 101, 53, 100, 97, 101, 50, 50, 50, 51, 98, 48, 48, 51, 54, 49, 97, 51, 57, 54, 49, 55, 55, 97, 57, 99, 98, 52, 49, 48, 102, 102, 54, 49, 102, 50, 48, 48, 49, 53, 97, 100]) = true by rw [toList_data]; decide]
  rw [clearwaylaw02_sane.j0, if_pos (by decide), if_pos (by decide), if_pos (by decide), if_pos (by decide), clearwaylaw02_sane.j1, if_pos rfl, if_pos (by decide), dsn9, Option.bind_some, if_pos rfl, dsn10, Option.bind_some, if_neg (by decide), if_pos (by decide)]
  rw [show List.take 1 [(⟨#[97]⟩ : ByteArray), (⟨#[98]⟩ : ByteArray), (⟨#[99]⟩ : ByteArray)] = [(⟨#[97]⟩ : ByteArray)] from rfl, dsn11, Option.bind_some, dsn13, Option.bind_some, if_pos rfl, if_pos (by decide), show List.take 2 [(⟨#[97]⟩ : ByteArray), (⟨#[98]⟩ : ByteArray), (⟨#[99]⟩ : ByteArray)] = [(⟨#[97]⟩ : ByteArray), (⟨#[98]⟩ : ByteArray)] from rfl, dsn12, Option.bind_some, dsn14, Option.bind_some]
  rfl
end Go.Proofs.YtjkdenldddjcnaaDoor.Sha

namespace Go.Proofs.YtjkdenldddjcnaaDoor.Dk
open Go.RowKit Go.Proofs.YtjkdenldddjcnaaDoor.Sha Go.Proofs.YtjkdenldddjcnaaDoor.Df Go.Proofs.YtjkdenldddjcnaaDoorW.PrintWords Go.Proofs.YtjkdenldddjcnaaDoorW.PrintLast Go.Proofs.YtjkdenldddjcnaaDoorW.PrintMore
attribute [local go_sem] max2_int min2_int max_two min_two max_three min_three max_four min_four   -- for this text's walks alone
set_option linter.unusedVariables false
set_option linter.unusedSimpArgs false



def errW : Option Int → Value
  | none => .nilIface
  | some c => .iface 0 (.int .i64 c)
theorem errW_none : errW none = .nilIface := rfl
theorem errW_some (c : Int) : errW (some c) = .iface 0 (.int .i64 c) := rfl

theorem info9 : (Tryd.prog.info? 9).map (fun i => (i.zero, i.size, i.bytes)) = some (some (.string ⟨#[]⟩), 1, 16) := by kernel_rfl
-- the values' own types

end Go.Proofs.YtjkdenldddjcnaaDoor.Dk

namespace Go.Proofs.YtjkdenldddjcnaaDoor.Dk
open Go.RowKit Go.Proofs.YtjkdenldddjcnaaDoor.Sha Go.Proofs.YtjkdenldddjcnaaDoor.Df Go.Proofs.YtjkdenldddjcnaaDoorW.PrintWords Go.Proofs.YtjkdenldddjcnaaDoorW.PrintLast Go.Proofs.YtjkdenldddjcnaaDoorW.PrintMore
attribute [local go_sem] max2_int min2_int max_two min_two max_three min_three max_four min_four   -- for this text's walks alone
set_option linter.unusedVariables false
set_option linter.unusedSimpArgs false

/-! ### clearwaylaw02_binary: function 25 -/
def clearwaylaw02_binary.l0 : Nat → Int → Int → Option (Int)
  | 0, _, _ => none
  | k + 1, x0, x3 => if x0 > 0 then (clearwaylaw02_binary.l0 k (wrap64 (Int.tdiv x0 2)) (wrap64 (x3 + 1))) else (some x3)
def clearwaylaw02_binary.f (k : Nat) (a0 : Int) : Option (Int) := clearwaylaw02_binary.l0 k a0 0
theorem clearwaylaw02_binary.mono_l : ∀ k, (∀ y0 y1, LeO (clearwaylaw02_binary.l0 k y0 y1) (clearwaylaw02_binary.l0 (k + 1) y0 y1))
  | 0 => fun _ _ r h => by simp [clearwaylaw02_binary.l0] at h
  | k + 1 => by
    have ih0 := clearwaylaw02_binary.mono_l k
    · intro y0 y1
      unfold clearwaylaw02_binary.l0
      repeat' first
      | (with_reducible exact ih0 _ _)
      | (with_reducible exact LeO.refl _)
      | (with_reducible exact LeO.none _)
      | (with_reducible refine LeO.ite ?_ ?_)
      | (with_reducible refine LeO.bind ?_ (fun _ => ?_))
      | exact ih0 _ _
      | exact LeO.none _
      | refine LeO.ite ?_ ?_
      | refine LeO.bind ?_ (fun _ => ?_)
theorem clearwaylaw02_binary.mono : ∀ a0 k, LeO (clearwaylaw02_binary.f k a0) (clearwaylaw02_binary.f (k + 1) a0) := by
  intro a0 k
  have ih0 := clearwaylaw02_binary.mono_l k
  unfold clearwaylaw02_binary.f
  repeat' first
      | (with_reducible exact ih0 _ _)
      | (with_reducible exact LeO.refl _)
      | (with_reducible exact LeO.none _)
      | (with_reducible refine LeO.ite ?_ ?_)
      | (with_reducible refine LeO.bind ?_ (fun _ => ?_))
      | exact ih0 _ _
      | exact LeO.none _
      | refine LeO.ite ?_ ?_
      | refine LeO.bind ?_ (fun _ => ?_)
set_option maxHeartbeats 8000000 in
set_option maxRecDepth 100000 in
theorem clearwaylaw02_binary.calls (k : Nat) (a0 : Int) (r : Int) (w : World) (h : clearwaylaw02_binary.f k a0 = some r) :
    Calls Tryd.prog 25 #[.int .i64 a0] w fun e w' => e = .returned (.int .i64 r) ∧ Drawn0 w w' := by
  have H : (clearwaylaw02_binary.l0 k a0 0) = some r := h
  clear h
  have H' := Aside0.mk H
  clear H
  go_enter Tryd.func25, Tryd.ntmps25
  go_wp2
  go_loopg [0, 3] k (fun kq v0 v3 w' => ∃ (x0_1 : Int) (x3_1 : Int), v0 = .int .i64 x0_1 ∧ v3 = .int .i64 x3_1 ∧ Aside0 (clearwaylaw02_binary.l0 kq x0_1 x3_1 = some r) ∧ Aside0 (kq ≤ k) ∧ Drawn0 w w')
  case atStart => exact ⟨(a0), (0), (by first | rfl | (simp; done) | (simp [*]; done)), (by first | rfl | (simp; done) | (simp [*]; done)), H', ⟨Nat.le_refl _⟩, by repeat (first | exact Drawn0.refl _ | apply Drawn0.step)⟩
  case round =>
    clear H'
    obtain ⟨x0_1, x3_1, rfl, rfl, HA, HK1, ⟨m1, rfl⟩⟩ := hrel
    cases gk with
    | zero => exact absurd HA.out (by simp [clearwaylaw02_binary.l0])
    | succ k1 =>
      have H := HA.out
      clear HA
      simp only [clearwaylaw02_binary.l0] at H
      by_cases c2 : x0_1 > 0
      · rw [if_pos c2] at H
        have c2b0 : decide (0 < x0_1) = true := decide_eq_true c2
        clear c2
        have H' := Aside0.mk H
        clear H
        go_wp2
        go_roundg k1
        case measure => have := HK1.out; omega
        case rel => exact ⟨(wrap64 (Int.tdiv x0_1 2)), (wrap64 (x3_1 + 1)), (by first | rfl | (simp; done) | (simp [*]; done)), (by first | rfl | (simp; done) | (simp [*]; done)), H', ⟨by have := HK1.out; omega⟩, by repeat (first | exact Drawn0.refl _ | apply Drawn0.step)⟩
      · rw [if_neg c2] at H
        have c2b0 : decide (0 < x0_1) = false := decide_eq_false c2
        clear c2
        obtain rfl := Option.some.inj H
        go_wp2
        go_ret
        exact ⟨by first | rfl | (simp; done) | (simp [*]; done), by repeat (first | exact Drawn0.refl _ | apply Drawn0.step)⟩

end Go.Proofs.YtjkdenldddjcnaaDoor.Dk
