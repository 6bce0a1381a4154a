/- The contracts of functions, written by this session's program (wip/pp.py): what the list functions answer, the code comes to. No condition. Plain law of DigestExtensionBinding: the strings of two extension proofs that come to the same root. No condition but bounds on lengths. Plain laws of the root of a list: it is the node of the roots of its two parts; extensions and proofs of a list climb to its root. No condition but bounds on lengths. Plain laws of Extension: what the printed list functions answer. Conditions: at most 1,000,000 strings, of at most 2^39 bytes. The fixed examples of layer 2 hold: what 'sane' computes is true. No condition. Extension and Proof, with a row that is only read. No condition. DigestExtensionAccepted returns true for all arguments: the printed contract joined with the plain law. Condition: none but the sizes that any call has. -/
import Derived.Test.YtjkdenldddjcnaaDoorProg
import Derived.Below
import Derived.Deep.Draws
import Derived.Deep.AppendLies
import Derived.Maps.AppendAt
import Derived.OwnWalk
import Derived.Laws.BytesArg
import Derived.Laws.MakeOwn
import Derived.Laws.OwnMore
import Derived.Deep.OwnRows
import Derived.Tactics
import Derived.Lib.ConvBytes
import Derived.Laws.Slices
import Derived.WalkKit
import Derived.KernelRfl
import Derived.RowKit3
import Derived.Deep.LoopGhost
import Derived.Deep.QuietTactic
import Derived.BigQuiet
import Derived.WideLaws
import Derived.Deep.DeepCutAuto
import Derived.Deep.CutBlock
import Derived.Deep.RegionHeld3
import Derived.Laws.Rows
import Derived.Lib.AppendStr
import Derived.ArgAppend
import Derived.Laws.IdiomCopy
import Derived.OrdersHeld
import Derived.Laws.BitsLemmas
import Derived.RowKit
import Derived.Test.YtjkdenldddjcnaaDoorKDigestExtensionAccepted9
import Derived.Test.YtjkdenldddjcnaaDoorKDigestExtensionAccepted12
import Derived.Test.YtjkdenldddjcnaaDoorWWords
import Derived.Test.YtjkdenldddjcnaaDoorWLast
import Derived.Test.YtjkdenldddjcnaaDoorWTab
import Derived.Test.YtjkdenldddjcnaaDoorWQPut
import Derived.Test.YtjkdenldddjcnaaDoorWApart
import Derived.Test.YtjkdenldddjcnaaDoorWArr
import Derived.Test.YtjkdenldddjcnaaDoorWZeros
import Derived.Test.YtjkdenldddjcnaaDoorWFoot
import Derived.Test.YtjkdenldddjcnaaDoorWKept
import Derived.Test.YtjkdenldddjcnaaDoorWShare
import Derived.Test.YtjkdenldddjcnaaDoorWN
import Derived.Test.YtjkdenldddjcnaaDoorWRepsOne
import Derived.Test.YtjkdenldddjcnaaDoorWGuard
import Derived.Test.YtjkdenldddjcnaaDoorWNEv
import Derived.Test.YtjkdenldddjcnaaDoorWMore
import Derived.Test.YtjkdenldddjcnaaDoorKDigestExtensionAccepted11
namespace Go.Proofs.YtjkdenldddjcnaaDoor.Dh
open Go.RowKit Go.Proofs.YtjkdenldddjcnaaDoor.Sha Go.Proofs.YtjkdenldddjcnaaDoor.Df Go.Proofs.YtjkdenldddjcnaaDoorW.PrintWords Go.Proofs.YtjkdenldddjcnaaDoorW.PrintLast Go.Proofs.YtjkdenldddjcnaaDoorW.PrintMore
attribute [local go_sem] max2_int min2_int max_two min_two max_three min_three max_four min_four   -- for this text's walks alone
set_option linter.unusedVariables false
set_option linter.unusedSimpArgs false



def errW : Option Int → Value
  | none => .nilIface
  | some c => .iface 0 (.int .i64 c)
theorem errW_none : errW none = .nilIface := rfl
theorem errW_some (c : Int) : errW (some c) = .iface 0 (.int .i64 c) := rfl

theorem info9 : (Tryd.prog.info? 9).map (fun i => (i.zero, i.size, i.bytes)) = some (some (.string ⟨#[]⟩), 1, 16) := by kernel_rfl
-- the values' own types

end Go.Proofs.YtjkdenldddjcnaaDoor.Dh

namespace Go.Proofs.YtjkdenldddjcnaaDoor.Dh
open Go.RowKit Go.Proofs.YtjkdenldddjcnaaDoor.Sha Go.Proofs.YtjkdenldddjcnaaDoor.Df Go.Proofs.YtjkdenldddjcnaaDoorW.PrintWords Go.Proofs.YtjkdenldddjcnaaDoorW.PrintLast Go.Proofs.YtjkdenldddjcnaaDoorW.PrintMore
attribute [local go_sem] max2_int min2_int max_two min_two max_three min_three max_four min_four   -- for this text's walks alone
set_option linter.unusedVariables false
set_option linter.unusedSimpArgs false

end Go.Proofs.YtjkdenldddjcnaaDoor.Dh
set_option linter.unusedVariables false
set_option linter.unusedSimpArgs false
namespace Go.Proofs.YtjkdenldddjcnaaDoor.Sha
open Go Go.RowKit Go.Proofs.YtjkdenldddjcnaaDoor.Df Go.Proofs.YtjkdenldddjcnaaDoor.Dh Go.Proofs.YtjkdenldddjcnaaDoorW.PrintWords Go.Proofs.YtjkdenldddjcnaaDoorW.PrintLast Go.Proofs.YtjkdenldddjcnaaDoorW.PrintMore

theorem up_cons (x : ByteArray) (b : Bool) (way : Way) (s : ByteArray) : upF ((x, b) :: way) s = upF way (joinF (x, b) s) := by unfold upF; rw [List.foldl_cons]
theorem upE_cons (x : ByteArray) (b : Bool) (way : Way) (s : ByteArray) : upE ((x, b) :: way) s = upE way (joinE (x, b) s) := by unfold upE; rw [List.foldl_cons]
theorem joinF_t (x s : ByteArray) : joinF (x, true) s = nodeF x s := by rw [joinF, if_pos rfl]
theorem joinF_f (x s : ByteArray) : joinF (x, false) s = nodeF s x := by rw [joinF, if_neg (by simp)]
theorem joinE_t (x s : ByteArray) : joinE (x, true) s = nodeF x s := by rw [joinE, if_pos rfl, joinF_t]
theorem joinE_f (x s : ByteArray) : joinE (x, false) s = s := by rw [joinE, if_neg (by simp)]
end Go.Proofs.YtjkdenldddjcnaaDoor.Sha

set_option linter.unusedVariables false
set_option linter.unusedSimpArgs false
namespace Go.Proofs.YtjkdenldddjcnaaDoor.Sha
open Go Go.RowKit Go.Proofs.YtjkdenldddjcnaaDoor.Df Go.Proofs.YtjkdenldddjcnaaDoorW.PrintWords Go.Proofs.YtjkdenldddjcnaaDoorW.PrintLast Go.Proofs.YtjkdenldddjcnaaDoorW.PrintMore

theorem merge_fuel : ∀ (k k' : Nat) (st : St), st.length ≤ k → st.length ≤ k' → mergeF k st = mergeF k' st := by
  intro k
  induction k with
  | zero =>
    intro k' st h h'
    have : st = [] := List.length_eq_zero_iff.1 (by omega)
    subst this
    cases k' <;> simp [mergeF]
  | succ k ih =>
    intro k' st h h'
    cases k' with
    | zero =>
      have : st = [] := List.length_eq_zero_iff.1 (by omega)
      subst this
      simp [mergeF]
    | succ k' =>
      match st, h, h' with
      | [], _, _ => simp [mergeF]
      | [p], _, _ => simp [mergeF]
      | (b, s) :: (a, t) :: r, h, h' =>
        simp only [mergeF]
        split
        · exact ih _ _ (by simp at h ⊢; omega) (by simp at h' ⊢; omega)
        · rfl
theorem merge_bottom (x : ByteArray) (s : Nat) : ∀ (k : Nat) (st : St), st ≠ [] → (st.map (·.2)).sum < s → mergeF k (st ++ [(x, s)]) = mergeF k st ++ [(x, s)] := by
  intro k
  induction k with
  | zero => intro st _ _; rfl
  | succ k ih =>
    intro st hne hs
    match st, hne, hs with
    | [(b, u)], _, hs =>
      simp only [List.cons_append, List.nil_append, mergeF]
      rw [if_neg (by simp at hs; omega)]
    | (b, u) :: (a, t) :: r, _, hs =>
      simp only [List.cons_append, mergeF]
      split
      · have := ih ((nodeF a b, 2 * u) :: r) (by simp) (by simp at hs ⊢; omega)
        simpa using this
      · rfl
theorem step_good {st : St} {i : Nat} (h : Good st i) (x : ByteArray) : Good (stepF st x) (i + 1) := Good.mergeF _ (h.leaf x)
theorem fold_bottom (x : ByteArray) (s : Nat) : ∀ (l : List ByteArray) (st : St) (i : Nat), Good st i → i + l.length < s → l.foldl stepF (st ++ [(x, s)]) = l.foldl stepF st ++ [(x, s)] := by
  intro l
  induction l with
  | nil => intro st i _ _; rfl
  | cons y l ih =>
    intro st i hg hs
    simp only [List.length_cons] at hs
    rw [List.foldl_cons, List.foldl_cons]
    have e : stepF (st ++ [(x, s)]) y = stepF st y ++ [(x, s)] := by
      unfold stepF
      have h1 := merge_bottom x s ((st ++ [(x, s)]).length + 1) ((leafF y, 1) :: st) (by simp) (by have := hg.sum; simp; omega)
      rw [List.cons_append] at h1
      rw [h1, merge_fuel _ (st.length + 1) ((leafF y, 1) :: st) (by simp) (by simp)]
    rw [e]
    exact ih _ (i + 1) (step_good hg y) (by omega)
theorem root_one (x : ByteArray) : rootF [x] = leafF x := by
  unfold rootF foldF
  rw [List.foldl_cons, List.foldl_nil]
  simp [stepF, mergeF, endF]
theorem merge_apart (k : Nat) (x : ByteArray) (s : Nat) (st : St) (h : ∀ p ∈ st.head?, p.2 ≠ s) : mergeF k ((x, s) :: st) = (x, s) :: st := by
  cases k with
  | zero => rfl
  | succ k =>
    match st, h with
    | [], _ => simp [mergeF]
    | (a, t) :: r, h =>
      simp only [mergeF]
      rw [if_neg (h (a, t) (by simp))]
theorem fold_full : ∀ (e : Nat) (l : List ByteArray), l.length = 2 ^ e → ∀ st : St, (∀ p ∈ st.head?, 2 ^ e ≤ p.2) → l.foldl stepF st = mergeF (st.length + 1) ((rootF l, 2 ^ e) :: st) := by
  intro e
  induction e with
  | zero =>
    intro l hl st _
    match l, hl with
    | [x], _ => rw [root_one, List.foldl_cons, List.foldl_nil]; rfl
  | succ e ih =>
    intro l hl st hst
    have hp : 0 < 2 ^ e := Nat.two_pow_pos e
    have h2 : 2 ^ (e + 1) = 2 * 2 ^ e := by rw [Nat.pow_succ]; omega
    have hla : (l.take (2 ^ e)).length = 2 ^ e := by rw [List.length_take]; omega
    have hlb : (l.drop (2 ^ e)).length = 2 ^ e := by rw [List.length_drop]; omega
    have key : ∀ st : St, (∀ p ∈ st.head?, 2 ^ (e + 1) ≤ p.2) → l.foldl stepF st = mergeF (st.length + 1) ((nodeF (rootF (l.take (2 ^ e))) (rootF (l.drop (2 ^ e))), 2 ^ (e + 1)) :: st) := by
      intro st hst
      have h1 : l.foldl stepF st = (l.drop (2 ^ e)).foldl stepF ((l.take (2 ^ e)).foldl stepF st) := by rw [← List.foldl_append, List.take_append_drop]
      rw [h1, ih _ hla st (fun p hp' => by have := hst p hp'; omega), merge_apart _ _ _ _ (fun p hp' => by have := hst p hp'; omega), ih _ hlb _ (fun p hp' => by simp at hp'; subst hp'; simp)]
      rw [List.length_cons]
      show (if 2 ^ e = 2 ^ e then mergeF (st.length + 1) ((nodeF (rootF (l.take (2 ^ e))) (rootF (l.drop (2 ^ e))), 2 * 2 ^ e) :: st) else _) = _
      rw [if_pos rfl, h2]
    have hr : rootF l = nodeF (rootF (l.take (2 ^ e))) (rootF (l.drop (2 ^ e))) := by
      have h3 := key [] (fun p hp' => by simp at hp')
      have h4 : foldF l = mergeF 1 [(nodeF (rootF (l.take (2 ^ e))) (rootF (l.drop (2 ^ e))), 2 ^ (e + 1))] := h3
      unfold rootF
      rw [h4]
      simp [mergeF, endF]
      rfl
    rw [key st hst, hr]
theorem foldF_full (e : Nat) (l : List ByteArray) (h : l.length = 2 ^ e) : foldF l = [(rootF l, 2 ^ e)] := by
  have h1 := fold_full e l h [] (fun p hp => by simp at hp)
  have h2 : foldF l = mergeF 1 [(rootF l, 2 ^ e)] := h1
  rw [h2]
  simp [mergeF]
theorem end_cons (x : ByteArray) (s : Nat) (r : St) : endF ((x, s) :: r) = r.foldl (fun out p => nodeF p.1 out) x := rfl
theorem end_bottom (x : ByteArray) (s : Nat) : ∀ (st : St), st ≠ [] → endF (st ++ [(x, s)]) = nodeF x (endF st) := by
  intro st h
  match st, h with
  | (y, t) :: r, _ =>
    rw [List.cons_append, end_cons, end_cons, List.foldl_append]
    rfl
theorem root_split (l : List ByteArray) (b : Nat) (h1 : 2 ^ b < l.length) (h2 : l.length ≤ 2 ^ (b + 1)) : rootF l = nodeF (rootF (l.take (2 ^ b))) (rootF (l.drop (2 ^ b))) := by
  rw [Nat.pow_succ] at h2
  have hla : (l.take (2 ^ b)).length = 2 ^ b := by rw [List.length_take]; omega
  have hld : (l.drop (2 ^ b)).length = l.length - 2 ^ b := by rw [List.length_drop]
  have h3 : foldF l = (l.drop (2 ^ b)).foldl stepF [(rootF (l.take (2 ^ b)), 2 ^ b)] := by
    rw [← foldF_full b _ hla]
    unfold foldF
    rw [← List.foldl_append, List.take_append_drop]
  by_cases hq : (l.drop (2 ^ b)).length = 2 ^ b
  · rw [fold_full b _ hq _ (fun p hp => by simp at hp; subst hp; simp)] at h3
    have h4 : foldF l = [(nodeF (rootF (l.take (2 ^ b))) (rootF (l.drop (2 ^ b))), 2 * 2 ^ b)] := by
      rw [h3]
      simp [mergeF]
    show endF (foldF l) = _
    rw [h4]
    rfl
  · have hg : Good ([] : St) 0 := ⟨fun p hp => (by cases hp), rfl⟩
    have h4 := fold_bottom (rootF (l.take (2 ^ b))) (2 ^ b) (l.drop (2 ^ b)) [] 0 hg (by omega)
    rw [List.nil_append] at h4
    rw [h4] at h3
    have hg2 := foldF_good (l.drop (2 ^ b)) [] 0 hg
    have hne : (l.drop (2 ^ b)).foldl stepF [] ≠ [] := by
      intro hn
      have := hg2.sum
      rw [hn] at this
      simp at this
      omega
    show endF (foldF l) = _
    rw [h3, end_bottom _ _ _ hne]
    rfl
theorem left_unique (n b : Nat) (h1 : 2 ^ b < n) (h2 : n ≤ 2 ^ (b + 1)) (h3 : n ≤ 9223372036854775807) : leftN n = 2 ^ b := by
  have hp : 0 < 2 ^ b := Nat.two_pow_pos b
  obtain ⟨c, hc, _, h4, h5⟩ := left_exp n (by omega) h3
  rw [hc]
  have : b = c := by
    rcases Nat.lt_trichotomy b c with h | h | h
    · have := Nat.pow_le_pow_right (show 0 < 2 by decide) (show b + 1 ≤ c by omega); omega
    · exact h
    · have := Nat.pow_le_pow_right (show 0 < 2 by decide) (show c + 1 ≤ b by omega); omega
  rw [this]
theorem root_left (l : List ByteArray) (h : 2 ≤ l.length) (h3 : l.length ≤ 9223372036854775807) : rootF l = nodeF (rootF (l.take (leftN l.length))) (rootF (l.drop (leftN l.length))) := by
  obtain ⟨b, hb, _, h4, h5⟩ := left_exp l.length h h3
  rw [hb]
  exact root_split l b h4 h5
theorem left_same (n m : Nat) (h : 2 ≤ n) (h3 : n ≤ 9223372036854775807) (h1 : leftN n < m) (h2 : m ≤ n) : leftN m = leftN n := by
  obtain ⟨b, hb, _, h4, h5⟩ := left_exp n h h3
  rw [hb] at h1 ⊢
  exact left_unique m b h1 (by omega) (by omega)
theorem end_size : ∀ (st : St) (i : Nat), Good st i → (endF st).size = 32 := by
  intro st i h
  match st, h with
  | [], _ => exact sumF_size _
  | (x, s) :: r, h =>
    rw [end_cons]
    exact fold_size (fun p : ByteArray × Nat => p.1) r x (h.h (x, s) List.mem_cons_self).1
theorem root_size (l : List ByteArray) : (rootF l).size = 32 := end_size _ _ (foldF_good l [] 0 ⟨fun p hp => (by cases hp), rfl⟩)
/-- What Extension pushes: the roots along the path, and at last the root of the part, if it is not a begin of the whole. -/
def extP : Nat → List ByteArray → Nat → Bool → List ByteArray
  | 0, _, _, _ => []
  | f + 1, l, m, wh => if m < l.length then (if leftN l.length < m then rootF (l.take (leftN l.length)) :: extP f (l.drop (leftN l.length)) (m - leftN l.length) false else rootF (l.drop (leftN l.length)) :: extP f (l.take (leftN l.length)) m wh) else if wh = true then [] else [rootF l]
theorem extP_size : ∀ (f : Nat) (l : List ByteArray) (m : Nat) (wh : Bool), ∀ x ∈ extP f l m wh, x.size = 32 := by
  intro f
  induction f with
  | zero => intro l m wh x hx; cases hx
  | succ f ih =>
    intro l m wh x hx
    rw [extP] at hx
    split at hx
    · split at hx
      · rcases List.mem_cons.1 hx with rfl | hx
        · exact root_size _
        · exact ih _ _ _ x hx
      · rcases List.mem_cons.1 hx with rfl | hx
        · exact root_size _
        · exact ih _ _ _ x hx
    · split at hx
      · cases hx
      · rw [List.mem_singleton.1 hx]; exact root_size _
theorem ext_desc : ∀ (f : Nat) (l : List ByteArray) (m : Nat) (wh : Bool) (way : Way), 1 ≤ m → m ≤ l.length → l.length ≤ f → l.length ≤ 9223372036854775807 →
    ∃ way' tail u e, descE (extP f l m wh) m l.length wh way = some (way', tail, u) ∧ (u = true ∧ wh = true ∧ tail = [] ∧ e = rootF (l.take m) ∨ u = false ∧ tail = [e]) ∧ upF way' e = upF way (rootF l) ∧ upE way' e = upE way (rootF (l.take m)) := by
  intro f
  induction f with
  | zero => intro l m wh way h1 h2 h3 _; omega
  | succ f ih =>
    intro l m wh way h1 h2 h3 h4
    rw [extP]
    by_cases hm : m < l.length
    · rw [if_pos hm]
      have hlt := leftN_lt l.length (by omega) h4
      have hrl := root_left l (by omega) h4
      by_cases hk : leftN l.length < m
      · rw [if_pos hk]
        obtain ⟨way', tail, u, e, g1, g2, g3, g4⟩ := ih (l.drop (leftN l.length)) (m - leftN l.length) false ((rootF (l.take (leftN l.length)), true) :: way) (by omega) (by rw [List.length_drop]; omega) (by rw [List.length_drop]; omega) (by rw [List.length_drop]; omega)
        rw [List.length_drop] at g1
        refine ⟨way', tail, u, e, ?_, ?_, ?_, ?_⟩
        · rw [descE, if_neg (by omega), if_pos hk]; exact g1
        · rcases g2 with ⟨_, h, _⟩ | g2
          · cases h
          · exact .inr g2
        · rw [g3, up_cons, joinF_t, hrl]
        · rw [g4, upE_cons, joinE_t]
          have hlm : (l.take m).length = m := by rw [List.length_take]; omega
          have e1 := root_left (l.take m) (by omega) (by omega)
          rw [hlm, left_same l.length m (by omega) h4 hk h2, List.take_take, Nat.min_eq_left (by omega), List.drop_take] at e1
          rw [e1]
      · rw [if_neg hk]
        have hll : (l.take (leftN l.length)).length = leftN l.length := by rw [List.length_take]; omega
        obtain ⟨way', tail, u, e, g1, g2, g3, g4⟩ := ih (l.take (leftN l.length)) m wh ((rootF (l.drop (leftN l.length)), false) :: way) h1 (by omega) (by omega) (by omega)
        rw [hll] at g1
        rw [List.take_take, Nat.min_eq_left (by omega)] at g2 g4
        refine ⟨way', tail, u, e, ?_, g2, ?_, ?_⟩
        · rw [descE, if_neg (by omega), if_neg hk]; exact g1
        · rw [g3, up_cons, joinF_f, hrl]
        · rw [g4, upE_cons, joinE_f]
    · rw [if_neg hm]
      have hml : m = l.length := by omega
      have htk : l.take m = l := by rw [hml, List.take_length]
      cases wh with
      | true =>
        rw [if_pos rfl]
        refine ⟨way, [], true, rootF l, ?_, .inl ⟨rfl, rfl, rfl, by rw [htk]⟩, rfl, by rw [htk]⟩
        rw [descE, if_pos (by omega)]
      | false =>
        rw [if_neg (by simp)]
        refine ⟨way, [rootF l], false, rootF l, ?_, .inr ⟨rfl, rfl⟩, rfl, by rw [htk]⟩
        rw [descE, if_pos (by omega)]
theorem all32_of {l : List ByteArray} (h : ∀ x ∈ l, x.size = 32) : all32 l = true := by
  unfold all32
  rw [List.all_eq_true]
  intro x hx
  rw [beq_iff_eq, h x hx]
  rfl
theorem beq_same (a : ByteArray) : (a == a) = true := by rw [beq_toListBytes]; simp
theorem size_beq {a : ByteArray} (h : a.size = 32) : ((a.size : Int) == 32) = true := by rw [beq_iff_eq, h]; rfl
theorem endE_t (old root : ByteArray) (way : Way) (pr : List ByteArray) : endE old root (some (way, pr, true)) = (pr.isEmpty && (upE way old == old) && (upF way old == root)) := rfl
theorem endE_f (old root y : ByteArray) (way : Way) : endE old root (some (way, [y], false)) = ((upE way y == old) && (upF way y == root)) := rfl
/-- The extension of a list's begin is accepted. -/
theorem ext_accept (l : List ByteArray) (m f : Nat) (hm : m ≤ l.length) (hf : l.length ≤ f) (hl : l.length ≤ 9223372036854775807) :
    verifyEF (rootF (l.take m)) (m : Int) (rootF l) (l.length : Int) (if m = 0 then [] else (extP f l m true).reverse) = true := by
  have h32 : all32 (if m = 0 then [] else (extP f l m true).reverse) = true := by
    apply all32_of
    intro x hx
    split at hx
    · cases hx
    · exact extP_size f l m true x (List.mem_reverse.1 hx)
  unfold verifyEF
  rw [if_neg (by omega), if_neg (by omega), if_neg (by rw [h32]; decide), if_neg (by rw [size_beq (root_size _)]; decide), if_neg (by rw [size_beq (root_size _)]; decide)]
  by_cases h0 : m = 0
  · subst h0
    rw [if_pos rfl, if_pos (show ((0 : Nat) : Int) = 0 from rfl)]
    have : rootF (l.take 0) = sumF ⟨#[]⟩ := rfl
    rw [this, beq_same]
    rfl
  · rw [if_neg (by omega), if_neg h0]
    by_cases h1 : m = l.length
    · rw [if_pos (by omega)]
      have hx : extP f l m true = [] := by
        cases f with
        | zero => rfl
        | succ f => rw [extP, if_neg (by omega), if_pos rfl]
      rw [hx, h1, List.take_length, beq_same]
      rfl
    · rw [if_neg (by omega), List.reverse_reverse, Int.toNat_natCast, Int.toNat_natCast]
      obtain ⟨way', tail, u, e, g1, g2, g3, g4⟩ := ext_desc f l m true [] (by omega) hm hf hl
      rw [g1]
      have u1 : ∀ s, upF [] s = s := fun _ => rfl
      have u2 : ∀ s, upE [] s = s := fun _ => rfl
      rw [u1] at g3
      rw [u2] at g4
      rcases g2 with ⟨rfl, _, rfl, rfl⟩ | ⟨rfl, rfl⟩
      · rw [endE_t, g3, g4, beq_same, beq_same]
        rfl
      · rw [endE_f]
        rw [g3, g4, beq_same, beq_same]
        rfl
end Go.Proofs.YtjkdenldddjcnaaDoor.Sha

set_option linter.unusedVariables false
set_option linter.unusedSimpArgs false
namespace Go.Proofs.YtjkdenldddjcnaaDoor.Sha
open Go Go.RowKit Go.Proofs.YtjkdenldddjcnaaDoor.Df Go.Proofs.YtjkdenldddjcnaaDoorW.PrintWords Go.Proofs.YtjkdenldddjcnaaDoorW.PrintLast Go.Proofs.YtjkdenldddjcnaaDoorW.PrintMore

theorem small_iff (l : List ByteArray) : small l = true ↔ l.length ≤ 1000000 ∧ ∀ s ∈ l, s.size ≤ 549755813888 := by
  unfold small
  rw [Bool.and_eq_true, decide_eq_true_iff, List.all_eq_true]
  constructor
  · rintro ⟨h1, h2⟩
    exact ⟨h1, fun s hs => of_decide_eq_true (h2 s hs)⟩
  · rintro ⟨h1, h2⟩
    exact ⟨h1, fun s hs => decide_eq_true (h2 s hs)⟩
theorem small_take {l : List ByteArray} (h : small l = true) (k : Nat) : small (l.take k) = true := by
  rw [small_iff] at h ⊢
  exact ⟨by rw [List.length_take]; omega, fun s hs => h.2 s (List.mem_of_mem_take hs)⟩
theorem small_drop {l : List ByteArray} (h : small l = true) (k : Nat) : small (l.drop k) = true := by
  rw [small_iff] at h ⊢
  exact ⟨by rw [List.length_drop]; omega, fun s hs => h.2 s (List.mem_of_mem_drop hs)⟩
theorem root_f {l : List ByteArray} (h : small l = true) : digest_Root.f l = some (rootF l) := by unfold digest_Root.f; rw [if_pos h]
theorem small_of {l : List ByteArray} (n : Nat) (h : l.length ≤ n) (hn : n ≤ 1000000) (h2 : ∀ s ∈ l, s.size ≤ 60) : small l = true := by
  rw [small_iff]
  exact ⟨by omega, fun s hs => by have := h2 s hs; omega⟩
theorem digleft_f (n : Nat) (h : 2 ≤ n) (h2 : n ≤ 9223372036854775807) : digest_left.f (n : Int) = some (leftN n : Int) := by
  unfold digest_left.f
  rw [if_pos ⟨by omega, by omega⟩, Int.toNat_natCast]
theorem reverse_loop : ∀ (k : Nat) (A M B : List ByteArray), M.length < k → (A ++ (M ++ B)).length ≤ 1000000000 → slices_Reverse_string_string.l0 k (A ++ (M ++ B)) (A.length : Int) ((A.length : Int) + (M.length : Int) - 1) = some (A ++ (M.reverse ++ B)) := by
  intro k
  induction k with
  | zero => intro A M B h; omega
  | succ k ih =>
    intro A M B h hl
    rw [slices_Reverse_string_string.l0]
    match M, h, hl with
    | [], _, _ => rw [if_neg (by simp; omega)]; rfl
    | [x], _, _ => rw [if_neg (by simp)]; rfl
    | x :: z :: R, h, hl =>
      obtain ⟨M', y, hM⟩ : ∃ M' y, z :: R = M' ++ [y] := ⟨(z :: R).dropLast, (z :: R).getLast (List.cons_ne_nil _ _), (List.dropLast_concat_getLast (List.cons_ne_nil _ _)).symm⟩
      rw [hM] at h hl ⊢
      have e0 : A ++ (x :: (M' ++ [y]) ++ B) = A ++ (x :: (M' ++ (y :: B))) := by simp
      rw [e0] at hl ⊢
      have hlen : ((x :: (M' ++ [y])).length : Int) = (M'.length : Int) + 2 := by simp; omega
      have hll : ((A ++ (x :: (M' ++ (y :: B)))).length : Int) = (A.length : Int) + (M'.length : Int) + (B.length : Int) + 2 := by simp; omega
      have hh : A.length + M'.length + B.length + 2 ≤ 1000000000 := by omega
      rw [hlen, hll, if_pos (by omega), if_pos (by omega), if_pos (by omega), if_pos (by omega), if_pos (by omega)]
      have i1 : (A.length : Int) + ((M'.length : Int) + 2) - 1 = ((A.length + (M'.length + 1) : Nat) : Int) := by omega
      rw [i1]
      have r1 : rdOf ByteArray.empty (A ++ (x :: (M' ++ (y :: B)))) ((A.length + (M'.length + 1) : Nat) : Int) = y := rdOf_at (by
        rw [List.getElem?_append_right (by omega), Nat.add_sub_cancel_left, List.getElem?_cons_succ, List.getElem?_append_right (Nat.le_refl _), Nat.sub_self, List.getElem?_cons_zero])
      have r2 : rdOf ByteArray.empty (A ++ (x :: (M' ++ (y :: B)))) (A.length : Int) = x := rdOf_at (by
        rw [List.getElem?_append_right (Nat.le_refl _), Nat.sub_self, List.getElem?_cons_zero])
      rw [r1, r2, Int.toNat_natCast, Int.toNat_natCast]
      have h1 : (A ++ (x :: (M' ++ (y :: B)))).set A.length y = A ++ (y :: (M' ++ (y :: B))) := by
        rw [List.set_append_right _ _ (Nat.le_refl _), Nat.sub_self, List.set_cons_zero]
      have h2 : (A ++ (y :: (M' ++ (y :: B)))).set (A.length + (M'.length + 1)) x = A ++ (y :: (M' ++ (x :: B))) := by
        rw [List.set_append_right _ _ (by omega), Nat.add_sub_cancel_left, List.set_cons_succ, List.set_append_right _ _ (Nat.le_refl _), Nat.sub_self, List.set_cons_zero]
      rw [h1, h2]
      have h3 : A ++ (y :: (M' ++ (x :: B))) = (A ++ [y]) ++ (M' ++ (x :: B)) := by simp
      have w1 : wrap64 ((A.length : Int) + 1) = ((A ++ [y]).length : Int) := by unfold wrap64; simp; omega
      have w2 : wrap64 (((A.length + (M'.length + 1) : Nat) : Int) - 1) = ((A ++ [y]).length : Int) + (M'.length : Int) - 1 := by unfold wrap64; simp; omega
      rw [h3, w1, w2, ih (A ++ [y]) M' (x :: B) (by simp at h; omega) (by simp; omega)]
      simp
theorem reverse_f (l : List ByteArray) (k : Nat) (h : l.length < k) (hl : l.length ≤ 1000000000) : slices_Reverse_string_string.f k l = some l.reverse := by
  unfold slices_Reverse_string_string.f
  have := reverse_loop k [] l [] h (by simpa using hl)
  simp only [List.nil_append, List.append_nil, List.length_nil] at this
  rw [show wrap64 ((l.length : Int) - 1) = ((0 : Nat) : Int) + (l.length : Int) - 1 by unfold wrap64; omega]
  exact this
theorem ext_l0 : ∀ (f : Nat) (l : List ByteArray) (m : Nat) (wh : Bool) (acc : List ByteArray) (k : Nat), 1 ≤ m → m ≤ l.length → l.length ≤ f → small l = true → acc.length + f ≤ 2000000 → acc.length + 2 * f + 5 < k →
    digest_Extension.l0 k l (m : Int) acc wh = some ((acc ++ extP f l m wh).reverse, 0) := by
  intro f
  induction f with
  | zero => intro l m wh acc k h1 h2 h3; omega
  | succ f ih =>
    intro l m wh acc k h1 h2 h3 h4 h5 h6
    have hsl := (small_iff l).1 h4
    obtain ⟨k, rfl⟩ : ∃ j, k = j + 1 := ⟨k - 1, by omega⟩
    rw [digest_Extension.l0, extP]
    by_cases hm : m < l.length
    · have hlt := leftN_lt l.length (by omega) (by omega)
      rw [if_pos (by omega), if_pos hm, digleft_f _ (by omega) (by omega), Option.bind_some, if_pos (by omega), if_pos (by omega), Option.bind_some, Option.bind_some, Int.toNat_natCast]
      by_cases hk : leftN l.length < m
      · have hw : wrap64 ((m : Int) - (leftN l.length : Int)) = ((m - leftN l.length : Nat) : Int) := by unfold wrap64; omega
        rw [if_pos (show (m : Int) > (leftN l.length : Int) by omega), if_pos hk, root_f (small_take h4 _), Option.bind_some, if_pos (by omega), hw]
        rw [ih (l.drop (leftN l.length)) _ false _ k (by omega) (by rw [List.length_drop]; omega) (by rw [List.length_drop]; omega) (small_drop h4 _) (by simp; omega) (by simp; omega)]
        simp
      · rw [if_neg (show ¬((m : Int) > (leftN l.length : Int)) by omega), if_neg hk, root_f (small_drop h4 _), Option.bind_some, if_pos (by omega)]
        rw [ih (l.take (leftN l.length)) _ wh _ k h1 (by rw [List.length_take]; omega) (by rw [List.length_take]; omega) (small_take h4 _) (by simp; omega) (by simp; omega)]
        simp
    · rw [if_neg (by omega), if_neg hm]
      cases wh with
      | true =>
        rw [if_pos rfl, if_pos rfl, reverse_f _ _ (by omega) (by omega)]
        simp
      | false =>
        rw [if_neg (by decide), if_neg (by decide), root_f h4, Option.bind_some, if_pos (by omega), reverse_f _ _ (by simp; omega) (by simp; omega)]
        simp
/-- What Extension answers. -/
theorem ext_f (l : List ByteArray) (m k : Nat) (hm : m ≤ l.length) (hs : small l = true) (hk : 2 * l.length + 10 < k) : digest_Extension.f k l (m : Int) = some (if m = 0 then [] else (extP l.length l m true).reverse, 0) := by
  have hsl := (small_iff l).1 hs
  obtain ⟨k, rfl⟩ : ∃ j, k = j + 1 := ⟨k - 1, by omega⟩
  unfold digest_Extension.f
  rw [if_neg (by omega), digest_Extension.j0, if_neg (by simp; omega)]
  by_cases h0 : m = 0
  · rw [if_pos (by omega), if_pos h0]
  · rw [if_neg (by omega), if_neg h0, ext_l0 l.length l m true [] k (by omega) hm (Nat.le_refl _) hs (by simp; omega) (by simp; omega)]
    rfl
theorem ext_out (l : List ByteArray) (m : Int) (k : Nat) (h : m < 0 ∨ (l.length : Int) < m) (hk : 0 < k) : digest_Extension.f k l m = some ([], 2) := by
  obtain ⟨k, rfl⟩ : ∃ j, k = j + 1 := ⟨k - 1, by omega⟩
  unfold digest_Extension.f
  by_cases h0 : m < 0
  · rw [if_pos h0, digest_Extension.j0, if_pos rfl]
  · rw [if_neg h0, digest_Extension.j0, if_pos (by rw [decide_eq_true_iff]; omega)]
theorem extP_length : ∀ (b f : Nat) (l : List ByteArray) (m : Nat) (wh : Bool), l.length ≤ 2 ^ b → l.length ≤ 1000000 → 1 ≤ m → m ≤ l.length → (extP f l m wh).length ≤ b + 1 := by
  intro b
  induction b with
  | zero =>
    intro f l m wh h h0 h1 h2
    cases f with
    | zero => simp [extP]
    | succ f =>
      rw [extP, if_neg (by simp at h; omega)]
      split <;> simp
  | succ b ih =>
    intro f l m wh h h0 h1 h2
    cases f with
    | zero => simp [extP]
    | succ f =>
      rw [extP]
      by_cases hm : m < l.length
      · rw [if_pos hm]
        obtain ⟨c, hc, _, h4, h5⟩ := left_exp l.length (by omega) (by omega)
        rw [Nat.pow_succ] at h5
        have hcb : 2 ^ c ≤ 2 ^ b := by
          apply Nat.pow_le_pow_right (by decide)
          rcases Nat.lt_or_ge b c with hh | hh
          · have := Nat.pow_le_pow_right (show 0 < 2 by decide) (show b + 1 ≤ c by omega); omega
          · exact hh
        split
        · rename_i hk
          have := ih f (l.drop (leftN l.length)) (m - leftN l.length) false (by rw [List.length_drop]; omega) (by rw [List.length_drop]; omega) (by omega) (by rw [List.length_drop]; omega)
          simp; omega
        · rename_i hk
          have := ih f (l.take (leftN l.length)) m wh (by rw [List.length_take]; omega) (by rw [List.length_take]; omega) (by omega) (by rw [List.length_take]; omega)
          simp; omega
      · rw [if_neg hm]
        split <;> simp
end Go.Proofs.YtjkdenldddjcnaaDoor.Sha

set_option linter.unusedVariables false
set_option linter.unusedSimpArgs false
namespace Go.Proofs.YtjkdenldddjcnaaDoor.Sha
open Go Go.RowKit Go.Proofs.YtjkdenldddjcnaaDoor.Df Go.Proofs.YtjkdenldddjcnaaDoorW.PrintWords Go.Proofs.YtjkdenldddjcnaaDoorW.PrintLast Go.Proofs.YtjkdenldddjcnaaDoorW.PrintMore
set_option maxRecDepth 100000
set_option maxRecDepth 100000 in
theorem dsn1 : digest_Proof.f 200 [(⟨#[97]⟩ : ByteArray), (⟨#[98]⟩ : ByteArray), (⟨#[99]⟩ : ByteArray)] 2 = some ([(⟨#[177, 55, 152, 95, 244, 132, 251, 96, 13, 185, 49, 7, 199, 123, 3, 101, 200, 13, 120, 245, 180, 41, 222, 208, 253, 151, 54, 29, 7, 121, 153, 235]⟩ : ByteArray)], 0) := by kernel_rfl
set_option maxRecDepth 100000 in
theorem dsn2 : digest_Extension.f 200 [(⟨#[97]⟩ : ByteArray), (⟨#[98]⟩ : ByteArray), (⟨#[99]⟩ : ByteArray)] 1 = some ([(⟨#[87, 235, 53, 97, 93, 71, 243, 78, 199, 20, 202, 205, 245, 253, 116, 96, 138, 94, 142, 16, 39, 36, 232, 11, 36, 178, 135, 192, 194, 123, 106, 49]⟩ : ByteArray), (⟨#[89, 127, 203, 49, 40, 45, 52, 101, 76, 32, 13, 52, 24, 252, 165, 112, 92, 100, 142, 191, 50, 110, 199, 61, 141, 222, 241, 24, 65, 248, 118, 216]⟩ : ByteArray)], 0) := by kernel_rfl
set_option maxRecDepth 100000 in
theorem dsn3 : digest_Proof.f 200 [(⟨#[97]⟩ : ByteArray), (⟨#[98]⟩ : ByteArray), (⟨#[99]⟩ : ByteArray)] 3 = some ([], 2) := by kernel_rfl
set_option maxRecDepth 100000 in
theorem dsn4 : digest_Root.f [(⟨#[97]⟩ : ByteArray), (⟨#[98]⟩ : ByteArray), (⟨#[99]⟩ : ByteArray)] = some (⟨#[54, 100, 46, 115, 194, 84, 10, 177, 33, 227, 166, 191, 149, 69, 176, 162, 73, 130, 205, 131, 14, 177, 61, 60, 209, 157, 227, 206, 108, 2, 30, 193]⟩ : ByteArray) := by kernel_rfl
set_option maxRecDepth 100000 in
theorem dsn5 : digest_Sum.f (⟨#[]⟩ : ByteArray) = some (⟨#[227, 176, 196, 66, 152, 252, 28, 20, 154, 251, 244, 200, 153, 111, 185, 36, 39, 174, 65, 228, 100, 155, 147, 76, 164, 149, 153, 27, 120, 82, 184, 85]⟩ : ByteArray) := by kernel_rfl
set_option maxRecDepth 100000 in
theorem dsn6 : digest_Sum.f (⟨#[97, 98, 99]⟩ : ByteArray) = some (⟨#[186, 120, 22, 191, 143, 1, 207, 234, 65, 65, 64, 222, 93, 174, 34, 35, 176, 3, 97, 163, 150, 23, 122, 156, 180, 16, 255, 97, 242, 0, 21, 173]⟩ : ByteArray) := by kernel_rfl
set_option maxRecDepth 100000 in
theorem dsn7 : clearwaylaw02_hex.f (⟨#[227, 176, 196, 66, 152, 252, 28, 20, 154, 251, 244, 200, 153, 111, 185, 36, 39, 174, 65, 228, 100, 155, 147, 76, 164, 149, 153, 27, 120, 82, 184, 85]⟩ : ByteArray) = some (⟨#[101, 51, 98, 48, 99, 52, 52, 50, 57, 56, 102, 99, 49, 99, 49, 52, 57, 97, 102, 98, 102, 52, 99, 56, 57, 57, 54, 102, 98, 57, 50, 52, 50, 55, 97, 101, 52, 49, 101, 52, 54, 52, 57, 98, 57, 51, 52, 99, 97, 52, 57, 53, 57, 57, 49, 98, 55, 56, 53, 50, 98, 56, 53, 53]⟩ : ByteArray) := by kernel_rfl
set_option maxRecDepth 100000 in
theorem dsn8 : clearwaylaw02_hex.f (⟨#[186, 120, 22, 191, 143, 1, 207, 234, 65, 65, 64, 222, 93, 174, 34, 35, 176, 3, 97, 163, 150, 23, 122, 156, 180, 16, 255, 97, 242, 0, 21, 173]⟩ : ByteArray) = some (⟨#[98, 97, 55, 56, 49, 54, 98, 102, 56, 102, 48, 49, 99, 102, 101, 97, 52, 49, 52, 49, 52, 48, 100, 101, 53, 100, 97, 101, 50, 50, 50, 51, 98, 48, 48, 51, 54, 49, 97, 51, 57, 54, 49, 55, 55, 97, 57, 99, 98, 52, 49, 48, 102, 102, 54, 49, 102, 50, 48, 48, 49, 53, 97, 100]⟩ : ByteArray) := by kernel_rfl
set_option maxRecDepth 100000 in
theorem dsn9 : digest_Verify.f (⟨#[54, 100, 46, 115, 194, 84, 10, 177, 33, 227, 166, 191, 149, 69, 176, 162, 73, 130, 205, 131, 14, 177, 61, 60, 209, 157, 227, 206, 108, 2, 30, 193]⟩ : ByteArray) 3 2 (⟨#[99]⟩ : ByteArray) [(⟨#[177, 55, 152, 95, 244, 132, 251, 96, 13, 185, 49, 7, 199, 123, 3, 101, 200, 13, 120, 245, 180, 41, 222, 208, 253, 151, 54, 29, 7, 121, 153, 235]⟩ : ByteArray)] = some true := by kernel_rfl
set_option maxRecDepth 100000 in
theorem dsn10 : digest_Verify.f (⟨#[54, 100, 46, 115, 194, 84, 10, 177, 33, 227, 166, 191, 149, 69, 176, 162, 73, 130, 205, 131, 14, 177, 61, 60, 209, 157, 227, 206, 108, 2, 30, 193]⟩ : ByteArray) 3 2 (⟨#[100]⟩ : ByteArray) [(⟨#[177, 55, 152, 95, 244, 132, 251, 96, 13, 185, 49, 7, 199, 123, 3, 101, 200, 13, 120, 245, 180, 41, 222, 208, 253, 151, 54, 29, 7, 121, 153, 235]⟩ : ByteArray)] = some false := by kernel_rfl
set_option maxRecDepth 100000 in
theorem dsn11 : digest_Root.f [(⟨#[97]⟩ : ByteArray)] = some (⟨#[2, 42, 105, 121, 230, 218, 183, 170, 90, 228, 195, 229, 228, 95, 126, 151, 113, 18, 167, 230, 53, 147, 130, 13, 190, 193, 236, 115, 138, 36, 249, 60]⟩ : ByteArray) := by kernel_rfl
set_option maxRecDepth 100000 in
theorem dsn12 : digest_Root.f [(⟨#[97]⟩ : ByteArray), (⟨#[98]⟩ : ByteArray)] = some (⟨#[177, 55, 152, 95, 244, 132, 251, 96, 13, 185, 49, 7, 199, 123, 3, 101, 200, 13, 120, 245, 180, 41, 222, 208, 253, 151, 54, 29, 7, 121, 153, 235]⟩ : ByteArray) := by kernel_rfl
set_option maxRecDepth 100000 in
theorem dsn13 : digest_VerifyExtension.f (⟨#[2, 42, 105, 121, 230, 218, 183, 170, 90, 228, 195, 229, 228, 95, 126, 151, 113, 18, 167, 230, 53, 147, 130, 13, 190, 193, 236, 115, 138, 36, 249, 60]⟩ : ByteArray) 1 (⟨#[54, 100, 46, 115, 194, 84, 10, 177, 33, 227, 166, 191, 149, 69, 176, 162, 73, 130, 205, 131, 14, 177, 61, 60, 209, 157, 227, 206, 108, 2, 30, 193]⟩ : ByteArray) 3 [(⟨#[87, 235, 53, 97, 93, 71, 243, 78, 199, 20, 202, 205, 245, 253, 116, 96, 138, 94, 142, 16, 39, 36, 232, 11, 36, 178, 135, 192, 194, 123, 106, 49]⟩ : ByteArray), (⟨#[89, 127, 203, 49, 40, 45, 52, 101, 76, 32, 13, 52, 24, 252, 165, 112, 92, 100, 142, 191, 50, 110, 199, 61, 141, 222, 241, 24, 65, 248, 118, 216]⟩ : ByteArray)] = some true := by kernel_rfl
set_option maxRecDepth 100000 in
theorem dsn14 : digest_VerifyExtension.f (⟨#[177, 55, 152, 95, 244, 132, 251, 96, 13, 185, 49, 7, 199, 123, 3, 101, 200, 13, 120, 245, 180, 41, 222, 208, 253, 151, 54, 29, 7, 121, 153, 235]⟩ : ByteArray) 1 (⟨#[54, 100, 46, 115, 194, 84, 10, 177, 33, 227, 166, 191, 149, 69, 176, 162, 73, 130, 205, 131, 14, 177, 61, 60, 209, 157, 227, 206, 108, 2, 30, 193]⟩ : ByteArray) 3 [(⟨#[87, 235, 53, 97, 93, 71, 243, 78, 199, 20, 202, 205, 245, 253, 116, 96, 138, 94, 142, 16, 39, 36, 232, 11, 36, 178, 135, 192, 194, 123, 106, 49]⟩ : ByteArray), (⟨#[89, 127, 203, 49, 40, 45, 52, 101, 76, 32, 13, 52, 24, 252, 165, 112, 92, 100, 142, 191, 50, 110, 199, 61, 141, 222, 241, 24, 65, 248, 118, 216]⟩ : ByteArray)] = some false := by kernel_rfl
theorem sane_f : clearwaylaw02_sane.f 200 = some true := by
  unfold clearwaylaw02_sane.f
  rw [Option.bind_some, dsn1, Option.bind_some, dsn2, Option.bind_some, dsn3, Option.bind_some, dsn4, Option.bind_some, dsn5, Option.bind_some, dsn7, Option.bind_some, if_pos (by rw [toList_data]), dsn6, Option.bind_some, dsn8, Option.bind_some]
  rw [show (ByteArray.toList (⟨#[98, 97, 55, 56, 49, 54, 98, 102, 56, 102, 48, 49, 99, 102, 101, 97, 52, 49, 52, 49, 52, 48, 100, 101, 53, 100, 97, 101, 50, 50, 50, 51, 98, 48, 48, 51, 54, 49, 97, 51, 57, 54, 49, 55, 55, 97, 57, 99, 98, 52, 49, 48, 102, 102, 54, 49, 102, 50, 48, 48, 49, 53, 97, 100]⟩ : ByteArray) == [98, 97, 55, 56, 49, 54, 98, 102, 56, 102, 48, 49, 99, 102, 101, 97, 52, 49, 52, 49, 52, 48, 100, 101, 53, 100, 97, 101, 50, 50, 50, 51, 98, 48, 48, 51, 54, 49, 97, 51, 57, 54, 49, 55, 55, 97, 57, 99, 98, 52, 49, 48, 102, 102, 54, 49, 102, 50, 48, 48, 49, 53, 97, 100]) = true by rw [toList_data]; decide]
  rw [clearwaylaw02_sane.j0, if_pos (by decide), if_pos (by decide), if_pos (by decide), if_pos (by decide), clearwaylaw02_sane.j1, if_pos rfl, if_pos (by decide), dsn9, Option.bind_some, if_pos rfl, dsn10, Option.bind_some, if_neg (by decide), if_pos (by decide)]
  rw [show List.take 1 [(⟨#[97]⟩ : ByteArray), (⟨#[98]⟩ : ByteArray), (⟨#[99]⟩ : ByteArray)] = [(⟨#[97]⟩ : ByteArray)] from rfl, dsn11, Option.bind_some, dsn13, Option.bind_some, if_pos rfl, if_pos (by decide), show List.take 2 [(⟨#[97]⟩ : ByteArray), (⟨#[98]⟩ : ByteArray), (⟨#[99]⟩ : ByteArray)] = [(⟨#[97]⟩ : ByteArray), (⟨#[98]⟩ : ByteArray)] from rfl, dsn12, Option.bind_some, dsn14, Option.bind_some]
  rfl
end Go.Proofs.YtjkdenldddjcnaaDoor.Sha

namespace Go.Proofs.YtjkdenldddjcnaaDoor.Dj
open Go.RowKit Go.Proofs.YtjkdenldddjcnaaDoor.Sha Go.Proofs.YtjkdenldddjcnaaDoor.Df Go.Proofs.YtjkdenldddjcnaaDoorW.PrintWords Go.Proofs.YtjkdenldddjcnaaDoorW.PrintLast Go.Proofs.YtjkdenldddjcnaaDoorW.PrintMore
attribute [local go_sem] max2_int min2_int max_two min_two max_three min_three max_four min_four   -- for this text's walks alone
set_option linter.unusedVariables false
set_option linter.unusedSimpArgs false



def errW : Option Int → Value
  | none => .nilIface
  | some c => .iface 0 (.int .i64 c)
theorem errW_none : errW none = .nilIface := rfl
theorem errW_some (c : Int) : errW (some c) = .iface 0 (.int .i64 c) := rfl

theorem info9 : (Tryd.prog.info? 9).map (fun i => (i.zero, i.size, i.bytes)) = some (some (.string ⟨#[]⟩), 1, 16) := by kernel_rfl
-- the values' own types

end Go.Proofs.YtjkdenldddjcnaaDoor.Dj

set_option linter.unusedVariables false
namespace Go.Proofs.YtjkdenldddjcnaaDoor.Sha
open Go Go.RowKit Go.Proofs.YtjkdenldddjcnaaDoor.Df Go.Proofs.YtjkdenldddjcnaaDoorW.PrintWords Go.Proofs.YtjkdenldddjcnaaDoorW.PrintLast Go.Proofs.YtjkdenldddjcnaaDoorW.PrintMore

def extC.f (k : Nat) (l0 : List ByteArray) (a1 : Int) : Option (List ByteArray × Int) := digest_Extension.f k l0 a1
theorem extC.mono : ∀ a0 a1 k, LeO (extC.f k a0 a1) (extC.f (k + 1) a0 a1) := digest_Extension.mono
theorem extC.calls (k : Nat) (A0 : Option Addr) (c0 : Nat) (l0 : List ByteArray) (a1 : Int) (r1 : List ByteArray) (r2 : Int) (w : World) (hr0 : Kd.C Kd.string w A0 l0.length l0) (hc0 : l0.length ≤ c0) (hG_ : Amb w) (h : extC.f k l0 a1 = some (r1, r2)) :
    Calls Tryd.prog 16 #[.slice A0 l0.length c0, .int .i64 a1] w fun e w' => ∃ v0_ : Value, e = .returned (.tuple #[v0_, .int .i64 r2]) ∧ Kd.R Kd.string 9 w' w.heap.size (fun _ => True) v0_ r1 ∧ Below w.heap.size w w' := by
  refine (digest_Extension.calls k (fun k_ => k_ < w.heap.size) A0 c0 l0 a1 r1 r2 w (Kd.V_mk hc0 (Kd.C_F Kd.heap_string hr0)) hG_ h).mono ?_
  rintro e w' ⟨v0_, rfl, hR, hB⟩
  exact ⟨v0_, rfl, Kd.R_mono hR (fun _ _ => trivial), hB⟩
def proofC.f (k : Nat) (l0 : List ByteArray) (a1 : Int) : Option (List ByteArray × Int) := digest_Proof.f k l0 a1
theorem proofC.mono : ∀ a0 a1 k, LeO (proofC.f k a0 a1) (proofC.f (k + 1) a0 a1) := digest_Proof.mono
theorem proofC.calls (k : Nat) (A0 : Option Addr) (c0 : Nat) (l0 : List ByteArray) (a1 : Int) (r1 : List ByteArray) (r2 : Int) (w : World) (hr0 : Kd.C Kd.string w A0 l0.length l0) (hc0 : l0.length ≤ c0) (hG_ : Amb w) (h : proofC.f k l0 a1 = some (r1, r2)) :
    Calls Tryd.prog 14 #[.slice A0 l0.length c0, .int .i64 a1] w fun e w' => ∃ v0_ : Value, e = .returned (.tuple #[v0_, .int .i64 r2]) ∧ Kd.R Kd.string 9 w' w.heap.size (fun _ => True) v0_ r1 ∧ Below w.heap.size w w' := by
  refine (digest_Proof.calls k (fun k_ => k_ < w.heap.size) A0 c0 l0 a1 r1 r2 w (Kd.V_mk hc0 (Kd.C_F Kd.heap_string hr0)) hG_ h).mono ?_
  rintro e w' ⟨v0_, rfl, hR, hB⟩
  exact ⟨v0_, rfl, Kd.R_mono hR (fun _ _ => trivial), hB⟩
theorem extC_f : extC.f = digest_Extension.f := rfl
end Go.Proofs.YtjkdenldddjcnaaDoor.Sha

namespace Go.Proofs.YtjkdenldddjcnaaDoor.Dj
open Go.RowKit Go.Proofs.YtjkdenldddjcnaaDoor.Sha Go.Proofs.YtjkdenldddjcnaaDoor.Df Go.Proofs.YtjkdenldddjcnaaDoorW.PrintWords Go.Proofs.YtjkdenldddjcnaaDoorW.PrintLast Go.Proofs.YtjkdenldddjcnaaDoorW.PrintMore
attribute [local go_sem] max2_int min2_int max_two min_two max_three min_three max_four min_four   -- for this text's walks alone
set_option linter.unusedVariables false
set_option linter.unusedSimpArgs false

/-! ### clearwaylaw02_binary: function 25 -/
def clearwaylaw02_binary.l0 : Nat → Int → Int → Option (Int)
 | 0, _, _ => none
 | k + 1, x0, x3 => if x0 > 0 then (clearwaylaw02_binary.l0 k (wrap64 (Int.tdiv x0 2)) (wrap64 (x3 + 1))) else (some x3)
def clearwaylaw02_binary.f (k : Nat) (a0 : Int) : Option (Int) := clearwaylaw02_binary.l0 k a0 0
theorem clearwaylaw02_binary.mono_l : ∀ k, (∀ y0 y1, LeO (clearwaylaw02_binary.l0 k y0 y1) (clearwaylaw02_binary.l0 (k + 1) y0 y1))
 | 0 => fun _ _ r h => by simp [clearwaylaw02_binary.l0] at h
 | k + 1 => by
  have ih0 := clearwaylaw02_binary.mono_l k
  ·intro y0 y1
   unfold clearwaylaw02_binary.l0
   repeat' first
   | (with_reducible exact ih0 _ _)
   | (with_reducible exact LeO.refl _)
   | (with_reducible exact LeO.none _)
   | (with_reducible refine LeO.ite ?_ ?_)
   | (with_reducible refine LeO.bind ?_ (fun _ => ?_))
   | exact ih0 _ _
   | exact LeO.none _
   | refine LeO.ite ?_ ?_
   | refine LeO.bind ?_ (fun _ => ?_)
theorem clearwaylaw02_binary.mono : ∀ a0 k, LeO (clearwaylaw02_binary.f k a0) (clearwaylaw02_binary.f (k + 1) a0) := by
 intro a0 k
 have ih0 := clearwaylaw02_binary.mono_l k
 unfold clearwaylaw02_binary.f
 repeat' first
   | (with_reducible exact ih0 _ _)
   | (with_reducible exact LeO.refl _)
   | (with_reducible exact LeO.none _)
   | (with_reducible refine LeO.ite ?_ ?_)
   | (with_reducible refine LeO.bind ?_ (fun _ => ?_))
   | exact ih0 _ _
   | exact LeO.none _
   | refine LeO.ite ?_ ?_
   | refine LeO.bind ?_ (fun _ => ?_)
set_option maxHeartbeats 8000000 in
set_option maxRecDepth 100000 in
theorem clearwaylaw02_binary.calls (k : Nat) (a0 : Int) (r : Int) (w : World) (h : clearwaylaw02_binary.f k a0 = some r) :
  Calls Tryd.prog 25 #[.int .i64 a0] w fun e w' => e = .returned (.int .i64 r) ∧ Drawn0 w w' := by
 have H : (clearwaylaw02_binary.l0 k a0 0) = some r := h
 clear h
 have H' := Aside0.mk H
 clear H
 go_enter Tryd.func25, Tryd.ntmps25
 go_wp2
 go_loopg [0, 3] k (fun kq v0 v3 w' => ∃ (x0_1 : Int) (x3_1 : Int), v0 = .int .i64 x0_1 ∧ v3 = .int .i64 x3_1 ∧ Aside0 (clearwaylaw02_binary.l0 kq x0_1 x3_1 = some r) ∧ Aside0 (kq ≤ k) ∧ Drawn0 w w')
 case atStart => exact ⟨(a0), (0), (by first | rfl | (simp; done) | (simp [*]; done)), (by first | rfl | (simp; done) | (simp [*]; done)), H', ⟨Nat.le_refl _⟩, by repeat (first | exact Drawn0.refl _ | apply Drawn0.step)⟩
 case round =>
  clear H'
  obtain ⟨x0_1, x3_1, rfl, rfl, HA, HK1, ⟨m1, rfl⟩⟩ := hrel
  cases gk with
  | zero => exact absurd HA.out (by simp [clearwaylaw02_binary.l0])
  | succ k1 =>
   have H := HA.out
   clear HA
   simp only [clearwaylaw02_binary.l0] at H
   by_cases c2 : x0_1 > 0
   ·rw [if_pos c2] at H
    have c2b0 : decide (0 < x0_1) = true := decide_eq_true c2
    clear c2
    have H' := Aside0.mk H
    clear H
    go_wp2
    go_roundg k1
    case measure => have := HK1.out; omega
    case rel => exact ⟨(wrap64 (Int.tdiv x0_1 2)), (wrap64 (x3_1 + 1)), (by first | rfl | (simp; done) | (simp [*]; done)), (by first | rfl | (simp; done) | (simp [*]; done)), H', ⟨by have := HK1.out; omega⟩, by repeat (first | exact Drawn0.refl _ | apply Drawn0.step)⟩
   ·rw [if_neg c2] at H
    have c2b0 : decide (0 < x0_1) = false := decide_eq_false c2
    clear c2
    obtain rfl := Option.some.inj H
    go_wp2
    go_ret
    exact ⟨by first | rfl | (simp; done) | (simp [*]; done), by repeat (first | exact Drawn0.refl _ | apply Drawn0.step)⟩

/-! ### clearwaylaw02_DigestExtensionAccepted: function 6 -/
def clearwaylaw02_DigestExtensionAccepted.l0 : Nat → List ByteArray → Int → Bool → ByteArray → Int → Option (Bool)
 | 0, _, _, _, _, _ => none
 | k + 1, x0, x1, x5, x6, x7 => if x7 ≤ (x0.length : Int) then ((extC.f k x0 x7).bind fun bt119 => (if bt119.2 = 0 then ((clearwaylaw02_binary.f k (x0.length : Int)).bind fun t123 => (if (bt119.1.length : Int) > (wrap64 (2 * t123)) then (some false) else (if 0 ≤ x7 then ((digest_Root.f (x0.take (x7 : Int).toNat)).bind fun t128 => ((digest_VerifyExtension.f t128 x7 x6 (x0.length : Int) bt119.1).bind fun t129 => (if t129 = true then (clearwaylaw02_DigestExtensionAccepted.l0 k x0 x1 x5 x6 (wrap64 (x7 + 1))) else (some false)))) else (none)))) else (some false))) else ((extC.f k x0 x1).bind fun bt113 => (if x1 ≥ 0 then (if x5 = true then (if ((decide (x1 ≤ (x0.length : Int))) == (bt113.2 == 0)) = true then (if x1 ≤ (x0.length : Int) then (some true) else (if bt113.2 = 2 then (if (bt113.1.length : Int) = 0 then ((digest_VerifyExtension.f x6 x1 x6 (x0.length : Int) bt113.1).bind fun t117 => (some (!t117))) else (some false)) else (some false))) else (some false)) else (some false)) else (if x5 = true then (if (false == (bt113.2 == 0)) = true then (if bt113.2 = 2 then (if (bt113.1.length : Int) = 0 then ((digest_VerifyExtension.f x6 x1 x6 (x0.length : Int) bt113.1).bind fun t118 => (some (!t118))) else (some false)) else (some false)) else (some false)) else (some false))))
def clearwaylaw02_DigestExtensionAccepted.f (k : Nat) (l0 : List ByteArray) (a1 : Int) : Option (Bool) := (clearwaylaw02_sane.f k).bind fun t108 => ((clearwaylaw02_few.f k l0 25).bind fun t109 => ((digest_Root.f t109).bind fun t112 => (clearwaylaw02_DigestExtensionAccepted.l0 k t109 a1 t108 t112 0)))
theorem clearwaylaw02_DigestExtensionAccepted.mono_l : ∀ k, (∀ y0 y1 y2 y3 y4, LeO (clearwaylaw02_DigestExtensionAccepted.l0 k y0 y1 y2 y3 y4) (clearwaylaw02_DigestExtensionAccepted.l0 (k + 1) y0 y1 y2 y3 y4))
 | 0 => fun _ _ _ _ _ r h => by simp [clearwaylaw02_DigestExtensionAccepted.l0] at h
 | k + 1 => by
  have ih0 := clearwaylaw02_DigestExtensionAccepted.mono_l k
  ·intro y0 y1 y2 y3 y4
   unfold clearwaylaw02_DigestExtensionAccepted.l0
   repeat' first
   | (with_reducible exact ih0 _ _ _ _ _)
   | (with_reducible exact clearwaylaw02_binary.mono _ _)
   | (with_reducible exact clearwaylaw02_few.mono _ _ _)
   | (with_reducible exact clearwaylaw02_sane.mono _)
   | (with_reducible exact extC.mono _ _ _)
   | (with_reducible exact LeO.refl _)
   | (with_reducible exact LeO.none _)
   | (with_reducible refine LeO.ite ?_ ?_)
   | (with_reducible refine LeO.bind ?_ (fun _ => ?_))
   | exact ih0 _ _ _ _ _
   | exact clearwaylaw02_binary.mono _ _
   | exact clearwaylaw02_few.mono _ _ _
   | exact clearwaylaw02_sane.mono _
   | exact extC.mono _ _ _
   | exact LeO.none _
   | refine LeO.ite ?_ ?_
   | refine LeO.bind ?_ (fun _ => ?_)
theorem clearwaylaw02_DigestExtensionAccepted.mono : ∀ a0 a1 k, LeO (clearwaylaw02_DigestExtensionAccepted.f k a0 a1) (clearwaylaw02_DigestExtensionAccepted.f (k + 1) a0 a1) := by
 intro a0 a1 k
 have ih0 := clearwaylaw02_DigestExtensionAccepted.mono_l k
 unfold clearwaylaw02_DigestExtensionAccepted.f
 repeat' first
   | (with_reducible exact ih0 _ _ _ _ _)
   | (with_reducible exact clearwaylaw02_binary.mono _ _)
   | (with_reducible exact clearwaylaw02_few.mono _ _ _)
   | (with_reducible exact clearwaylaw02_sane.mono _)
   | (with_reducible exact extC.mono _ _ _)
   | (with_reducible exact LeO.refl _)
   | (with_reducible exact LeO.none _)
   | (with_reducible refine LeO.ite ?_ ?_)
   | (with_reducible refine LeO.bind ?_ (fun _ => ?_))
   | exact ih0 _ _ _ _ _
   | exact clearwaylaw02_binary.mono _ _
   | exact clearwaylaw02_few.mono _ _ _
   | exact clearwaylaw02_sane.mono _
   | exact extC.mono _ _ _
   | exact LeO.none _
   | refine LeO.ite ?_ ?_
   | refine LeO.bind ?_ (fun _ => ?_)
set_option maxHeartbeats 8000000 in
set_option maxRecDepth 100000 in
theorem clearwaylaw02_DigestExtensionAccepted.calls (k : Nat) (A0 : Option Addr) (c0 : Nat) (l0 : List ByteArray) (a1 : Int) (r : Bool) (w : World) (hr0 : Kd.C Kd.string w A0 l0.length l0) (hc0 : l0.length ≤ c0) (hG_ : Amb w) (h : clearwaylaw02_DigestExtensionAccepted.f k l0 a1 = some r) :
  Calls Tryd.prog 6 #[.slice A0 l0.length c0, .int .i64 a1] w fun e w' => e = .returned (.bool r) ∧ Below w.heap.size w w' := by
 have HR0 := Aside0.mk hr0
 have HC0 := Aside0.mk hc0
 clear hr0 hc0
 have HB := Aside0.mk (Below.refl w.heap.size w)
 have H : ((clearwaylaw02_sane.f k).bind fun t108 => ((clearwaylaw02_few.f k l0 25).bind fun t109 => ((digest_Root.f t109).bind fun t112 => (clearwaylaw02_DigestExtensionAccepted.l0 k t109 a1 t108 t112 0)))) = some r := h
 clear h
 replace H := Option.bind_eq_some_iff.mp H
 obtain ⟨t108, A30, H⟩ := H
 replace H : ((clearwaylaw02_few.f k l0 25).bind fun t109 => ((digest_Root.f t109).bind fun t112 => (clearwaylaw02_DigestExtensionAccepted.l0 k t109 a1 t108 t112 0))) = some r := H
 have A3 := Aside0.mk A30
 clear A30
 replace H := Option.bind_eq_some_iff.mp H
 obtain ⟨t109, A40, H⟩ := H
 replace H : ((digest_Root.f t109).bind fun t112 => (clearwaylaw02_DigestExtensionAccepted.l0 k t109 a1 t108 t112 0)) = some r := H
 have A4 := Aside0.mk A40
 clear A40
 replace H := Option.bind_eq_some_iff.mp H
 obtain ⟨t112, A50, H⟩ := H
 replace H : (clearwaylaw02_DigestExtensionAccepted.l0 k t109 a1 t108 t112 0) = some r := H
 have A5 := Aside0.mk A50
 clear A50
 have H' := Aside0.mk H
 clear H
 go_enter Tryd.func6, Tryd.ntmps6
 go_wp2_with (first | ((with_reducible refine gate_callee (f := 12) rfl ?_); refine goesL_ (some 13) rfl rfl Tryd.func12 (by kernel_rfl) rfl #[] rfl (by (try simp only [List.map_toArray, List.map_cons, List.map_nil]); first | done | rfl | (simp only [List.length_drop, List.length_take]; rfl)) ?_; (with_reducible refine (clearwaylaw02_sane.calls k  t108 _ ?side1 A3.out).mono ?_); (case side1 => exact Amb.below hG_ (by repeat (first | (with_reducible first | exact HB.out | apply below_alloc | apply pw_below_drewN | apply below_drew1) | exact HB.out))); rintro e w6 ⟨rfl, hb⟩; refine ⟨_, rfl, ?_⟩; have n0_ := Aside0.mk (below_step (by repeat (first | (with_reducible first | exact HB.out | apply below_alloc | apply pw_below_drewN | apply below_drew1) | exact HB.out)) hb); clear HB; have HB := n0_; clear n0_; (try clear hb); (try clear hb2); (try clear hk); (try clear hi)) | ((with_reducible refine gate_callee (f := 13) rfl ?_); refine goesL_ (some 15) rfl rfl Tryd.func13 (by kernel_rfl) rfl #[.slice A0 l0.length c0, .int .i64 25] rfl (by (try simp only [List.map_toArray, List.map_cons, List.map_nil]); first | done | rfl | (simp only [List.length_drop, List.length_take]; rfl)) ?_; (with_reducible refine (clearwaylaw02_few.calls k _ _ l0 25 t109 _ ?side1 ?side2 A4.out).mono ?_); (case side1 => repeat (first | exact (Kd.C_below HR0.out HB.out) | (with_reducible refine Kd.C_alloc ?_ _) | (with_reducible refine Kd.C_drewN ?_ _) | (with_reducible refine Kd.C_drew ?_))); (case side2 => exact HC0.out); rintro e w7 ⟨v110, rfl, ho0, hb⟩; refine ⟨_, rfl, ?_⟩; have n0_ := Aside0.mk (Kd.R_lower ho0 (below_size (by repeat (first | (with_reducible first | exact HB.out | apply below_alloc | apply pw_below_drewN | apply below_drew1) | exact HB.out)))); have n1_ := Aside0.mk (below_step (by repeat (first | (with_reducible first | exact HB.out | apply below_alloc | apply pw_below_drewN | apply below_drew1) | exact HB.out)) hb); clear HB; have HO111 := n0_; have HB := n1_; clear n0_ n1_; (try clear hb); (try clear hb2); (try clear hk); (try clear hi); (try clear ho0); obtain ⟨Ao8, co8, eo8⟩ := Kd.R_slice HO111.out; subst eo8) | ((with_reducible refine gate_callee (f := 19) rfl ?_); refine goesL_ (some 17) rfl rfl Tryd.func19 (by kernel_rfl) rfl #[.slice Ao8 t109.length co8] rfl (by (try simp only [List.map_toArray, List.map_cons, List.map_nil]); first | done | rfl | (simp only [List.length_drop, List.length_take]; rfl)) ?_; (with_reducible refine (digest_Root.calls _ _ t109 t112 _ ?side1 ?side2 ?side3 A5.out).mono ?_); (case side1 => repeat (first | exact (Kd.R_reads' HO111.out).2.2 | (with_reducible refine Kd.C_alloc ?_ _) | (with_reducible refine Kd.C_drewN ?_ _) | (with_reducible refine Kd.C_drew ?_))); (case side2 => exact (Kd.R_reads' HO111.out).2.1); (case side3 => exact Amb.below hG_ (by repeat (first | (with_reducible first | exact HB.out | apply below_alloc | apply pw_below_drewN | apply below_drew1) | exact HB.out))); rintro e w9 ⟨rfl, hb⟩; refine ⟨_, rfl, ?_⟩; have n0_ := Aside0.mk (Kd.R_below (by (with_reducible repeat (first | apply Kd.R_alloc | apply Kd.R_drewN | apply Kd.R_drew)); exact HO111.out) hb); have n1_ := Aside0.mk (below_step (by repeat (first | (with_reducible first | exact HB.out | apply below_alloc | apply pw_below_drewN | apply below_drew1) | exact HB.out)) hb); clear HO111; clear HB; have HO111 := n0_; have HB := n1_; clear n0_ n1_; (try clear hb); (try clear hb2); (try clear hk); (try clear hi)))
 go_loopg [7] k (fun kq v7 w' => ∃ (x7_1 : Int), v7 = .int .i64 x7_1 ∧ Aside0 (clearwaylaw02_DigestExtensionAccepted.l0 kq t109 a1 t108 t112 x7_1 = some r) ∧ Aside0 (kq ≤ k) ∧ Aside0 (Kd.R Kd.string 9 w' w.heap.size (fun _ => True) (.slice Ao8 t109.length co8) t109) ∧ Aside0 (Below w.heap.size w w'))
 case atStart => exact ⟨(0), (by first | rfl | (simp; done) | (simp [*]; done)), H', ⟨Nat.le_refl _⟩, ⟨by (with_reducible repeat (first | apply Kd.R_alloc | apply Kd.R_drewN | apply Kd.R_drew)); exact HO111.out⟩, ⟨by repeat (first | (with_reducible first | exact HB.out | apply below_alloc | apply pw_below_drewN | apply below_drew1) | exact HB.out)⟩⟩
 case round =>
  clear H'
  try clear c1
  try clear p2
  try clear c6
  obtain ⟨x7_1, rfl, HA, HK1, HO_0, HB⟩ := hrel
  cases gk with
  | zero => exact absurd HA.out (by simp [clearwaylaw02_DigestExtensionAccepted.l0])
  | succ k1 =>
   have H := HA.out
   clear HA
   simp only [clearwaylaw02_DigestExtensionAccepted.l0] at H
   by_cases c10 : x7_1 ≤ (t109.length : Int)
   ·rw [if_pos c10] at H
    have c10b0 : decide (x7_1 ≤ (t109.length : Int)) = true := decide_eq_true c10
    clear c10
    replace H := Option.bind_eq_some_iff.mp H
    obtain ⟨⟨t119, t120⟩, A110, H⟩ := H
    replace H : (if t120 = 0 then ((clearwaylaw02_binary.f k1 (t109.length : Int)).bind fun t123 => (if (t119.length : Int) > (wrap64 (2 * t123)) then (some false) else (if 0 ≤ x7_1 then ((digest_Root.f (t109.take (x7_1 : Int).toNat)).bind fun t128 => ((digest_VerifyExtension.f t128 x7_1 t112 (t109.length : Int) t119).bind fun t129 => (if t129 = true then (clearwaylaw02_DigestExtensionAccepted.l0 k1 t109 a1 t108 t112 (wrap64 (x7_1 + 1))) else (some false)))) else (none)))) else (some false)) = some r := H
    have A11 := Aside0.mk A110
    clear A110
    by_cases c12 : t120 = 0
    ·rw [if_pos c12] at H
     have c12b0 : (t120 == 0) = true := beq_iff_eq.mpr c12
     have c12b1 : (t120 != 0) = false := bne_eq_false_iff_eq.mpr c12
     clear c12
     replace H := Option.bind_eq_some_iff.mp H
     obtain ⟨t123, A130, H⟩ := H
     replace H : (if (t119.length : Int) > (wrap64 (2 * t123)) then (some false) else (if 0 ≤ x7_1 then ((digest_Root.f (t109.take (x7_1 : Int).toNat)).bind fun t128 => ((digest_VerifyExtension.f t128 x7_1 t112 (t109.length : Int) t119).bind fun t129 => (if t129 = true then (clearwaylaw02_DigestExtensionAccepted.l0 k1 t109 a1 t108 t112 (wrap64 (x7_1 + 1))) else (some false)))) else (none))) = some r := H
     have A13 := Aside0.mk A130
     clear A130
     by_cases c14 : (t119.length : Int) > (wrap64 (2 * t123))
     ·rw [if_pos c14] at H
      have c14b0 : decide ((wrap64 (2 * t123)) < (t119.length : Int)) = true := decide_eq_true c14
      clear c14
      obtain rfl := Option.some.inj H
      go_wp2_with (first | ((with_reducible refine gate_callee (f := 16) rfl ?_); refine goesL_ (some 27) rfl rfl Tryd.func16 (by kernel_rfl) rfl #[.slice Ao8 t109.length co8, .int .i64 x7_1] rfl (by (try simp only [List.map_toArray, List.map_cons, List.map_nil]); first | done | rfl | (simp only [List.length_drop, List.length_take]; rfl)) ?_; (with_reducible refine (extC.calls k1 _ _ t109 x7_1 t119 t120 _ ?side1 ?side2 ?side3 A11.out).mono ?_); (case side1 => repeat (first | exact (Kd.R_reads' HO_0.out).2.2 | (with_reducible refine Kd.C_alloc ?_ _) | (with_reducible refine Kd.C_drewN ?_ _) | (with_reducible refine Kd.C_drew ?_))); (case side2 => exact (Kd.R_reads' HO_0.out).2.1); (case side3 => exact Amb.below hG_ (by repeat (first | (with_reducible first | exact HB.out | apply below_alloc | apply pw_below_drewN | apply below_drew1) | exact HB.out))); rintro e w15 ⟨v121, rfl, ho0, hb⟩; refine ⟨_, rfl, ?_⟩; have n0_ := Aside0.mk (Kd.R_elder' (by (with_reducible repeat (first | apply Kd.R_alloc | apply Kd.R_drewN | apply Kd.R_drew)); exact HO_0.out) (Kd.R_base ho0) hb); have n1_ := Aside0.mk (Kd.R_lower (Kd.R_new' ho0 (Kd.R_lt (by (with_reducible repeat (first | apply Kd.R_alloc | apply Kd.R_drewN | apply Kd.R_drew)); exact HO_0.out))) (below_size (by repeat (first | (with_reducible first | exact HB.out | apply below_alloc | apply pw_below_drewN | apply below_drew1) | exact HB.out)))); have n2_ := Aside0.mk (below_step (by repeat (first | (with_reducible first | exact HB.out | apply below_alloc | apply pw_below_drewN | apply below_drew1) | exact HB.out)) hb); clear HO_0; clear HB; have HO_0 := n0_; have HO122 := n1_; have HB := n2_; clear n0_ n1_ n2_; (try clear hb); (try clear hb2); (try clear hk); (try clear hi); (try clear ho0); obtain ⟨Ao16, co16, eo16⟩ := Kd.R_slice HO122.out; subst eo16) | (go_at_call 25; (with_reducible refine (clearwaylaw02_binary.calls k1 (t109.length : Int) t123 _ A13.out).mono ?_); rintro e w' ⟨rfl, ⟨nd, rfl⟩⟩))
      go_ret
      exact ⟨by first | rfl | (simp [errW_none, errW_some] <;> rfl) | (simp [*, errW_none, errW_some] <;> rfl), by repeat (first | (with_reducible first | exact HB.out | apply below_alloc | apply pw_below_drewN | apply below_drew1) | exact HB.out)⟩
     ·rw [if_neg c14] at H
      have c14b0 : decide ((wrap64 (2 * t123)) < (t119.length : Int)) = false := decide_eq_false c14
      clear c14
      by_cases c17 : 0 ≤ x7_1
      ·rw [if_pos c17] at H
       have c17b0 := eq_true c17
       have c17b1 : decide (0 ≤ x7_1) = true := decide_eq_true c17
       clear c17
       have c18b0 := eq_true (of_decide_eq_true (by first | (with_reducible assumption) | assumption) : x7_1 ≤ (t109.length : Int))
       obtain ⟨y124, hy124⟩ : ∃ y_ : List ByteArray, y_ = (t109.take (x7_1 : Int).toNat) := ⟨_, rfl⟩
       replace H : ((digest_Root.f y124).bind fun t128 => ((digest_VerifyExtension.f t128 x7_1 t112 (t109.length : Int) t119).bind fun t129 => (if t129 = true then (clearwaylaw02_DigestExtensionAccepted.l0 k1 t109 a1 t108 t112 (wrap64 (x7_1 + 1))) else (some false)))) = some r := by first | (rw [hy124]; with_reducible exact H) | (have H2_ := (Option.bind_some _ _).symm.trans H; rw [hy124]; with_reducible exact H2_) | (have H2_ := (Option.bind_some _ _).symm.trans H; with_reducible exact H2_) | with_reducible exact H | (rw [hy124]; exact H) | exact H
       have Ny124 := Aside0.mk hy124
       clear hy124
       replace H := Option.bind_eq_some_iff.mp H
       obtain ⟨t128, A190, H⟩ := H
       replace H : ((digest_VerifyExtension.f t128 x7_1 t112 (t109.length : Int) t119).bind fun t129 => (if t129 = true then (clearwaylaw02_DigestExtensionAccepted.l0 k1 t109 a1 t108 t112 (wrap64 (x7_1 + 1))) else (some false))) = some r := H
       have A19 := Aside0.mk A190
       clear A190
       replace H := Option.bind_eq_some_iff.mp H
       obtain ⟨t129, A200, H⟩ := H
       replace H : (if t129 = true then (clearwaylaw02_DigestExtensionAccepted.l0 k1 t109 a1 t108 t112 (wrap64 (x7_1 + 1))) else (some false)) = some r := H
       have A20 := Aside0.mk A200
       clear A200
       by_cases c21 : t129 = true
       ·subst c21
        have H1 : (clearwaylaw02_DigestExtensionAccepted.l0 k1 t109 a1 t108 t112 (wrap64 (x7_1 + 1))) = some r := by rw [if_pos rfl] at H; exact H
        clear H
        have H := H1
        clear H1
        have H' := Aside0.mk H
        clear H
        go_wp2_with (first | ((with_reducible refine gate_callee (f := 16) rfl ?_); refine goesL_ (some 27) rfl rfl Tryd.func16 (by kernel_rfl) rfl #[.slice Ao8 t109.length co8, .int .i64 x7_1] rfl (by (try simp only [List.map_toArray, List.map_cons, List.map_nil]); first | done | rfl | (simp only [List.length_drop, List.length_take]; rfl)) ?_; (with_reducible refine (extC.calls k1 _ _ t109 x7_1 t119 t120 _ ?side1 ?side2 ?side3 A11.out).mono ?_); (case side1 => repeat (first | exact (Kd.R_reads' HO_0.out).2.2 | (with_reducible refine Kd.C_alloc ?_ _) | (with_reducible refine Kd.C_drewN ?_ _) | (with_reducible refine Kd.C_drew ?_))); (case side2 => exact (Kd.R_reads' HO_0.out).2.1); (case side3 => exact Amb.below hG_ (by repeat (first | (with_reducible first | exact HB.out | apply below_alloc | apply pw_below_drewN | apply below_drew1) | exact HB.out))); rintro e w22 ⟨v121, rfl, ho0, hb⟩; refine ⟨_, rfl, ?_⟩; have n0_ := Aside0.mk (Kd.R_elder' (by (with_reducible repeat (first | apply Kd.R_alloc | apply Kd.R_drewN | apply Kd.R_drew)); exact HO_0.out) (Kd.R_base ho0) hb); have n1_ := Aside0.mk (Kd.R_lower (Kd.R_new' ho0 (Kd.R_lt (by (with_reducible repeat (first | apply Kd.R_alloc | apply Kd.R_drewN | apply Kd.R_drew)); exact HO_0.out))) (below_size (by repeat (first | (with_reducible first | exact HB.out | apply below_alloc | apply pw_below_drewN | apply below_drew1) | exact HB.out)))); have n2_ := Aside0.mk (below_step (by repeat (first | (with_reducible first | exact HB.out | apply below_alloc | apply pw_below_drewN | apply below_drew1) | exact HB.out)) hb); clear HO_0; clear HB; have HO_0 := n0_; have HO122 := n1_; have HB := n2_; clear n0_ n1_ n2_; (try clear hb); (try clear hb2); (try clear hk); (try clear hi); (try clear ho0); obtain ⟨Ao23, co23, eo23⟩ := Kd.R_slice HO122.out; subst eo23) | (go_at_call 25; (with_reducible refine (clearwaylaw02_binary.calls k1 (t109.length : Int) t123 _ A13.out).mono ?_); rintro e w' ⟨rfl, ⟨nd, rfl⟩⟩; have q24 : (x7_1 : Int) ≤ ((t109.length : Int) : Int) := of_decide_eq_true (by first | (with_reducible assumption) | assumption); obtain ⟨i024, hi024, _, hsz24, _⟩ := info_parts info9; have hroom24 : t109.length ≤ co8 := (Kd.R_reads' HO_0.out).2.1; have hC24 : Kd.C Kd.string _ Ao8 t109.length t109 := (Kd.R_reads' HO_0.out).2.2; have hcut24 := cut_to (P := Tryd.prog) 22 9 .i64 Tryd.underlying22 hi024 Ao8 t109.length co8 x7_1 (of_decide_eq_true (by first | (with_reducible assumption) | assumption)) q24 hroom24; have hr24 := Kd.C_take (m := (x7_1 : Int).toNat) hC24 (by omega); have hy24 : y124.length = (x7_1 : Int).toNat := (by rw [Ny124.out, List.length_take]; omega); rw [← Ny124.out] at hr24; rw [← hy24] at hcut24; have HR127 := Aside0.mk hr24; have HC127 := Aside0.mk (show y124.length ≤ co8 from by omega); clear hr24 hC24 hroom24 hi024 hsz24; have KY24 := Aside0.mk hy24; clear hy24; have KL24 := Aside0.mk (show (x7_1 : Int).toNat ≤ t109.length from by omega); replace q24 := eq_true q24) | (go_at_call 19; (with_reducible refine (digest_Root.calls _ _ y124 t128 _ ?side1 ?side2 ?side3 A19.out).mono ?_); (case side1 => repeat (first | exact (by repeat (first | (with_reducible exact HR127.out) | (with_reducible refine Kd.C_alloc ?_ _) | (with_reducible refine Kd.C_drewN ?_ _) | (with_reducible refine Kd.C_drew ?_) | exact HR127.out)) | (with_reducible refine Kd.C_alloc ?_ _) | (with_reducible refine Kd.C_drewN ?_ _) | (with_reducible refine Kd.C_drew ?_))); (case side2 => exact HC127.out); (case side3 => exact Amb.below hG_ (by repeat (first | (with_reducible first | exact HB.out | apply below_alloc | apply pw_below_drewN | apply below_drew1) | exact HB.out))); rintro e w25 ⟨rfl, hb⟩; have n0_ := Aside0.mk (Kd.R_below (by (with_reducible repeat (first | apply Kd.R_alloc | apply Kd.R_drewN | apply Kd.R_drew)); exact HO_0.out) hb); have n1_ := Aside0.mk (Kd.R_below (by (with_reducible repeat (first | apply Kd.R_alloc | apply Kd.R_drewN | apply Kd.R_drew)); exact HO122.out) hb); have n2_ := Aside0.mk (Kd.C_below (by repeat (first | (with_reducible exact HR127.out) | (with_reducible refine Kd.C_alloc ?_ _) | (with_reducible refine Kd.C_drewN ?_ _) | (with_reducible refine Kd.C_drew ?_) | exact HR127.out)) hb); have n3_ := Aside0.mk (below_step (by repeat (first | (with_reducible first | exact HB.out | apply below_alloc | apply pw_below_drewN | apply below_drew1) | exact HB.out)) hb); clear HO_0; clear HO122; clear HR127; clear HB; have HO_0 := n0_; have HO122 := n1_; have HR127 := n2_; have HB := n3_; clear n0_ n1_ n2_ n3_; (try clear hb); (try clear hb2); (try clear hk); (try clear hi)) | (go_at_call 23; (with_reducible refine (digest_VerifyExtension.calls t128 x7_1 t112 (t109.length : Int) _ _ t119 true _ ?side1 ?side2 ?side3 A20.out).mono ?_); (case side1 => repeat (first | exact (Kd.R_reads' HO122.out).2.2 | (with_reducible refine Kd.C_alloc ?_ _) | (with_reducible refine Kd.C_drewN ?_ _) | (with_reducible refine Kd.C_drew ?_))); (case side2 => exact (Kd.R_reads' HO122.out).2.1); (case side3 => exact Amb.below hG_ (by repeat (first | (with_reducible first | exact HB.out | apply below_alloc | apply pw_below_drewN | apply below_drew1) | exact HB.out))); rintro e w26 ⟨rfl, hb⟩; have n0_ := Aside0.mk (Kd.R_below (by (with_reducible repeat (first | apply Kd.R_alloc | apply Kd.R_drewN | apply Kd.R_drew)); exact HO_0.out) hb); have n1_ := Aside0.mk (Kd.R_below (by (with_reducible repeat (first | apply Kd.R_alloc | apply Kd.R_drewN | apply Kd.R_drew)); exact HO122.out) hb); have n2_ := Aside0.mk (Kd.C_below (by repeat (first | (with_reducible exact HR127.out) | (with_reducible refine Kd.C_alloc ?_ _) | (with_reducible refine Kd.C_drewN ?_ _) | (with_reducible refine Kd.C_drew ?_) | exact HR127.out)) hb); have n3_ := Aside0.mk (below_step (by repeat (first | (with_reducible first | exact HB.out | apply below_alloc | apply pw_below_drewN | apply below_drew1) | exact HB.out)) hb); clear HO_0; clear HO122; clear HR127; clear HB; have HO_0 := n0_; have HO122 := n1_; have HR127 := n2_; have HB := n3_; clear n0_ n1_ n2_ n3_; (try clear hb); (try clear hb2); (try clear hk); (try clear hi)))
        go_roundg k1
        case measure => have := HK1.out; omega
        case rel => exact ⟨(wrap64 (x7_1 + 1)), (by first | rfl | (simp; done) | (simp [*]; done)), H', ⟨by have := HK1.out; omega⟩, ⟨by (with_reducible repeat (first | apply Kd.R_alloc | apply Kd.R_drewN | apply Kd.R_drew)); exact Kd.R_mono HO_0.out (fun _ hk => trivial)⟩, ⟨by repeat (first | (with_reducible first | exact HB.out | apply below_alloc | apply pw_below_drewN | apply below_drew1) | exact HB.out)⟩⟩
       ·replace c21 := Bool.eq_false_iff.mpr c21
        subst c21
        have H1 : (some false) = some r := by rw [if_neg (show ¬ (false = true) by decide)] at H; exact H
        clear H
        have H := H1
        clear H1
        obtain rfl := Option.some.inj H
        go_wp2_with (first | ((with_reducible refine gate_callee (f := 16) rfl ?_); refine goesL_ (some 27) rfl rfl Tryd.func16 (by kernel_rfl) rfl #[.slice Ao8 t109.length co8, .int .i64 x7_1] rfl (by (try simp only [List.map_toArray, List.map_cons, List.map_nil]); first | done | rfl | (simp only [List.length_drop, List.length_take]; rfl)) ?_; (with_reducible refine (extC.calls k1 _ _ t109 x7_1 t119 t120 _ ?side1 ?side2 ?side3 A11.out).mono ?_); (case side1 => repeat (first | exact (Kd.R_reads' HO_0.out).2.2 | (with_reducible refine Kd.C_alloc ?_ _) | (with_reducible refine Kd.C_drewN ?_ _) | (with_reducible refine Kd.C_drew ?_))); (case side2 => exact (Kd.R_reads' HO_0.out).2.1); (case side3 => exact Amb.below hG_ (by repeat (first | (with_reducible first | exact HB.out | apply below_alloc | apply pw_below_drewN | apply below_drew1) | exact HB.out))); rintro e w27 ⟨v121, rfl, ho0, hb⟩; refine ⟨_, rfl, ?_⟩; have n0_ := Aside0.mk (Kd.R_elder' (by (with_reducible repeat (first | apply Kd.R_alloc | apply Kd.R_drewN | apply Kd.R_drew)); exact HO_0.out) (Kd.R_base ho0) hb); have n1_ := Aside0.mk (Kd.R_lower (Kd.R_new' ho0 (Kd.R_lt (by (with_reducible repeat (first | apply Kd.R_alloc | apply Kd.R_drewN | apply Kd.R_drew)); exact HO_0.out))) (below_size (by repeat (first | (with_reducible first | exact HB.out | apply below_alloc | apply pw_below_drewN | apply below_drew1) | exact HB.out)))); have n2_ := Aside0.mk (below_step (by repeat (first | (with_reducible first | exact HB.out | apply below_alloc | apply pw_below_drewN | apply below_drew1) | exact HB.out)) hb); clear HO_0; clear HB; have HO_0 := n0_; have HO122 := n1_; have HB := n2_; clear n0_ n1_ n2_; (try clear hb); (try clear hb2); (try clear hk); (try clear hi); (try clear ho0); obtain ⟨Ao28, co28, eo28⟩ := Kd.R_slice HO122.out; subst eo28) | (go_at_call 25; (with_reducible refine (clearwaylaw02_binary.calls k1 (t109.length : Int) t123 _ A13.out).mono ?_); rintro e w' ⟨rfl, ⟨nd, rfl⟩⟩; have q29 : (x7_1 : Int) ≤ ((t109.length : Int) : Int) := of_decide_eq_true (by first | (with_reducible assumption) | assumption); obtain ⟨i029, hi029, _, hsz29, _⟩ := info_parts info9; have hroom29 : t109.length ≤ co8 := (Kd.R_reads' HO_0.out).2.1; have hC29 : Kd.C Kd.string _ Ao8 t109.length t109 := (Kd.R_reads' HO_0.out).2.2; have hcut29 := cut_to (P := Tryd.prog) 22 9 .i64 Tryd.underlying22 hi029 Ao8 t109.length co8 x7_1 (of_decide_eq_true (by first | (with_reducible assumption) | assumption)) q29 hroom29; have hr29 := Kd.C_take (m := (x7_1 : Int).toNat) hC29 (by omega); have hy29 : y124.length = (x7_1 : Int).toNat := (by rw [Ny124.out, List.length_take]; omega); rw [← Ny124.out] at hr29; rw [← hy29] at hcut29; have HR127 := Aside0.mk hr29; have HC127 := Aside0.mk (show y124.length ≤ co8 from by omega); clear hr29 hC29 hroom29 hi029 hsz29; have KY29 := Aside0.mk hy29; clear hy29; have KL29 := Aside0.mk (show (x7_1 : Int).toNat ≤ t109.length from by omega); replace q29 := eq_true q29) | (go_at_call 19; (with_reducible refine (digest_Root.calls _ _ y124 t128 _ ?side1 ?side2 ?side3 A19.out).mono ?_); (case side1 => repeat (first | exact (by repeat (first | (with_reducible exact HR127.out) | (with_reducible refine Kd.C_alloc ?_ _) | (with_reducible refine Kd.C_drewN ?_ _) | (with_reducible refine Kd.C_drew ?_) | exact HR127.out)) | (with_reducible refine Kd.C_alloc ?_ _) | (with_reducible refine Kd.C_drewN ?_ _) | (with_reducible refine Kd.C_drew ?_))); (case side2 => exact HC127.out); (case side3 => exact Amb.below hG_ (by repeat (first | (with_reducible first | exact HB.out | apply below_alloc | apply pw_below_drewN | apply below_drew1) | exact HB.out))); rintro e w30 ⟨rfl, hb⟩; have n0_ := Aside0.mk (Kd.R_below (by (with_reducible repeat (first | apply Kd.R_alloc | apply Kd.R_drewN | apply Kd.R_drew)); exact HO_0.out) hb); have n1_ := Aside0.mk (Kd.R_below (by (with_reducible repeat (first | apply Kd.R_alloc | apply Kd.R_drewN | apply Kd.R_drew)); exact HO122.out) hb); have n2_ := Aside0.mk (Kd.C_below (by repeat (first | (with_reducible exact HR127.out) | (with_reducible refine Kd.C_alloc ?_ _) | (with_reducible refine Kd.C_drewN ?_ _) | (with_reducible refine Kd.C_drew ?_) | exact HR127.out)) hb); have n3_ := Aside0.mk (below_step (by repeat (first | (with_reducible first | exact HB.out | apply below_alloc | apply pw_below_drewN | apply below_drew1) | exact HB.out)) hb); clear HO_0; clear HO122; clear HR127; clear HB; have HO_0 := n0_; have HO122 := n1_; have HR127 := n2_; have HB := n3_; clear n0_ n1_ n2_ n3_; (try clear hb); (try clear hb2); (try clear hk); (try clear hi)) | (go_at_call 23; (with_reducible refine (digest_VerifyExtension.calls t128 x7_1 t112 (t109.length : Int) _ _ t119 false _ ?side1 ?side2 ?side3 A20.out).mono ?_); (case side1 => repeat (first | exact (Kd.R_reads' HO122.out).2.2 | (with_reducible refine Kd.C_alloc ?_ _) | (with_reducible refine Kd.C_drewN ?_ _) | (with_reducible refine Kd.C_drew ?_))); (case side2 => exact (Kd.R_reads' HO122.out).2.1); (case side3 => exact Amb.below hG_ (by repeat (first | (with_reducible first | exact HB.out | apply below_alloc | apply pw_below_drewN | apply below_drew1) | exact HB.out))); rintro e w31 ⟨rfl, hb⟩; have n0_ := Aside0.mk (Kd.R_below (by (with_reducible repeat (first | apply Kd.R_alloc | apply Kd.R_drewN | apply Kd.R_drew)); exact HO_0.out) hb); have n1_ := Aside0.mk (Kd.R_below (by (with_reducible repeat (first | apply Kd.R_alloc | apply Kd.R_drewN | apply Kd.R_drew)); exact HO122.out) hb); have n2_ := Aside0.mk (Kd.C_below (by repeat (first | (with_reducible exact HR127.out) | (with_reducible refine Kd.C_alloc ?_ _) | (with_reducible refine Kd.C_drewN ?_ _) | (with_reducible refine Kd.C_drew ?_) | exact HR127.out)) hb); have n3_ := Aside0.mk (below_step (by repeat (first | (with_reducible first | exact HB.out | apply below_alloc | apply pw_below_drewN | apply below_drew1) | exact HB.out)) hb); clear HO_0; clear HO122; clear HR127; clear HB; have HO_0 := n0_; have HO122 := n1_; have HR127 := n2_; have HB := n3_; clear n0_ n1_ n2_ n3_; (try clear hb); (try clear hb2); (try clear hk); (try clear hi)))
        go_ret
        exact ⟨by first | rfl | (simp [errW_none, errW_some] <;> rfl) | (simp [*, errW_none, errW_some] <;> rfl), by repeat (first | (with_reducible first | exact HB.out | apply below_alloc | apply pw_below_drewN | apply below_drew1) | exact HB.out)⟩
      ·rw [if_neg c17] at H
       exact absurd H (by simp)
    ·rw [if_neg c12] at H
     have c12b0 : (t120 == 0) = false := beq_eq_false_iff_ne.mpr c12
     have c12b1 : (t120 != 0) = true := bne_iff_ne.mpr c12
     obtain rfl := Option.some.inj H
     go_wp2_with (first | ((with_reducible refine gate_callee (f := 16) rfl ?_); refine goesL_ (some 27) rfl rfl Tryd.func16 (by kernel_rfl) rfl #[.slice Ao8 t109.length co8, .int .i64 x7_1] rfl (by (try simp only [List.map_toArray, List.map_cons, List.map_nil]); first | done | rfl | (simp only [List.length_drop, List.length_take]; rfl)) ?_; (with_reducible refine (extC.calls k1 _ _ t109 x7_1 t119 t120 _ ?side1 ?side2 ?side3 A11.out).mono ?_); (case side1 => repeat (first | exact (Kd.R_reads' HO_0.out).2.2 | (with_reducible refine Kd.C_alloc ?_ _) | (with_reducible refine Kd.C_drewN ?_ _) | (with_reducible refine Kd.C_drew ?_))); (case side2 => exact (Kd.R_reads' HO_0.out).2.1); (case side3 => exact Amb.below hG_ (by repeat (first | (with_reducible first | exact HB.out | apply below_alloc | apply pw_below_drewN | apply below_drew1) | exact HB.out))); rintro e w32 ⟨v121, rfl, ho0, hb⟩; refine ⟨_, rfl, ?_⟩; have n0_ := Aside0.mk (Kd.R_elder' (by (with_reducible repeat (first | apply Kd.R_alloc | apply Kd.R_drewN | apply Kd.R_drew)); exact HO_0.out) (Kd.R_base ho0) hb); have n1_ := Aside0.mk (Kd.R_lower (Kd.R_new' ho0 (Kd.R_lt (by (with_reducible repeat (first | apply Kd.R_alloc | apply Kd.R_drewN | apply Kd.R_drew)); exact HO_0.out))) (below_size (by repeat (first | (with_reducible first | exact HB.out | apply below_alloc | apply pw_below_drewN | apply below_drew1) | exact HB.out)))); have n2_ := Aside0.mk (below_step (by repeat (first | (with_reducible first | exact HB.out | apply below_alloc | apply pw_below_drewN | apply below_drew1) | exact HB.out)) hb); clear HO_0; clear HB; have HO_0 := n0_; have HO122 := n1_; have HB := n2_; clear n0_ n1_ n2_; (try clear hb); (try clear hb2); (try clear hk); (try clear hi); (try clear ho0)))
     go_ret
     exact ⟨by first | rfl | (simp [errW_none, errW_some] <;> rfl) | (simp [*, errW_none, errW_some] <;> rfl), by repeat (first | (with_reducible first | exact HB.out | apply below_alloc | apply pw_below_drewN | apply below_drew1) | exact HB.out)⟩
   ·rw [if_neg c10] at H
    have c10b0 : decide (x7_1 ≤ (t109.length : Int)) = false := decide_eq_false c10
    clear c10
    replace H := Option.bind_eq_some_iff.mp H
    obtain ⟨⟨t113, t114⟩, A330, H⟩ := H
    replace H : (if a1 ≥ 0 then (if t108 = true then (if ((decide (a1 ≤ (t109.length : Int))) == (t114 == 0)) = true then (if a1 ≤ (t109.length : Int) then (some true) else (if t114 = 2 then (if (t113.length : Int) = 0 then ((digest_VerifyExtension.f t112 a1 t112 (t109.length : Int) t113).bind fun t117 => (some (!t117))) else (some false)) else (some false))) else (some false)) else (some false)) else (if t108 = true then (if (false == (t114 == 0)) = true then (if t114 = 2 then (if (t113.length : Int) = 0 then ((digest_VerifyExtension.f t112 a1 t112 (t109.length : Int) t113).bind fun t118 => (some (!t118))) else (some false)) else (some false)) else (some false)) else (some false))) = some r := H
    have A33 := Aside0.mk A330
    clear A330
    by_cases c34 : a1 ≥ 0
    ·rw [if_pos c34] at H
     have c34b0 : decide (0 ≤ a1) = true := decide_eq_true c34
     clear c34
     by_cases c35 : t108 = true
     ·subst c35
      have H1 : (if ((decide (a1 ≤ (t109.length : Int))) == (t114 == 0)) = true then (if a1 ≤ (t109.length : Int) then (some true) else (if t114 = 2 then (if (t113.length : Int) = 0 then ((digest_VerifyExtension.f t112 a1 t112 (t109.length : Int) t113).bind fun t117 => (some (!t117))) else (some false)) else (some false))) else (some false)) = some r := by rw [if_pos rfl] at H; exact H
      clear H
      have H := H1
      clear H1
      by_cases c36 : ((decide (a1 ≤ (t109.length : Int))) == (t114 == 0)) = true
      ·rw [if_pos c36] at H
       have c36b0 : ((decide (a1 ≤ (t109.length : Int))) == (t114 == 0)) = true := c36
       (try (have c36b1 : decide ((decide (a1 ≤ (t109.length : Int))) = (t114 == 0)) = true := by simpa using c36))
       (try (have c36b2 : ((decide (a1 ≤ (t109.length : Int))) == (t114 == 0)) = true := by simpa using c36))
       clear c36
       by_cases c37 : a1 ≤ (t109.length : Int)
       ·rw [if_pos c37] at H
        have c37b0 : decide (a1 ≤ (t109.length : Int)) = true := decide_eq_true c37
        (try (have c36d := c36b0; simp only [c37b0, Bool.true_beq, Bool.false_beq] at c36d))
        clear c37
        obtain rfl := Option.some.inj H
        go_wp2_with (first | ((with_reducible refine gate_callee (f := 16) rfl ?_); refine goesL_ (some 57) rfl rfl Tryd.func16 (by kernel_rfl) rfl #[.slice Ao8 t109.length co8, .int .i64 a1] rfl (by (try simp only [List.map_toArray, List.map_cons, List.map_nil]); first | done | rfl | (simp only [List.length_drop, List.length_take]; rfl)) ?_; (with_reducible refine (extC.calls k1 _ _ t109 a1 t113 t114 _ ?side1 ?side2 ?side3 A33.out).mono ?_); (case side1 => repeat (first | exact (Kd.R_reads' HO_0.out).2.2 | (with_reducible refine Kd.C_alloc ?_ _) | (with_reducible refine Kd.C_drewN ?_ _) | (with_reducible refine Kd.C_drew ?_))); (case side2 => exact (Kd.R_reads' HO_0.out).2.1); (case side3 => exact Amb.below hG_ (by repeat (first | (with_reducible first | exact HB.out | apply below_alloc | apply pw_below_drewN | apply below_drew1) | exact HB.out))); rintro e w38 ⟨v115, rfl, ho0, hb⟩; refine ⟨_, rfl, ?_⟩; have n0_ := Aside0.mk (Kd.R_elder' (by (with_reducible repeat (first | apply Kd.R_alloc | apply Kd.R_drewN | apply Kd.R_drew)); exact HO_0.out) (Kd.R_base ho0) hb); have n1_ := Aside0.mk (Kd.R_lower (Kd.R_new' ho0 (Kd.R_lt (by (with_reducible repeat (first | apply Kd.R_alloc | apply Kd.R_drewN | apply Kd.R_drew)); exact HO_0.out))) (below_size (by repeat (first | (with_reducible first | exact HB.out | apply below_alloc | apply pw_below_drewN | apply below_drew1) | exact HB.out)))); have n2_ := Aside0.mk (below_step (by repeat (first | (with_reducible first | exact HB.out | apply below_alloc | apply pw_below_drewN | apply below_drew1) | exact HB.out)) hb); clear HO_0; clear HB; have HO_0 := n0_; have HO116 := n1_; have HB := n2_; clear n0_ n1_ n2_; (try clear hb); (try clear hb2); (try clear hk); (try clear hi); (try clear ho0)))
        go_ret
        exact ⟨by first | rfl | (simp [errW_none, errW_some] <;> rfl) | (simp [*, errW_none, errW_some] <;> rfl), by repeat (first | (with_reducible first | exact HB.out | apply below_alloc | apply pw_below_drewN | apply below_drew1) | exact HB.out)⟩
       ·rw [if_neg c37] at H
        have c37b0 : decide (a1 ≤ (t109.length : Int)) = false := decide_eq_false c37
        (try (have c36d := c36b0; simp only [c37b0, Bool.true_beq, Bool.false_beq] at c36d))
        clear c37
        by_cases c39 : t114 = 2
        ·rw [if_pos c39] at H
         have c39b0 : (t114 == 2) = true := beq_iff_eq.mpr c39
         have c39b1 : (t114 != 2) = false := bne_eq_false_iff_eq.mpr c39
         clear c39
         by_cases c40 : (t113.length : Int) = 0
         ·rw [if_pos c40] at H
          have c40b0 : ((t113.length : Int) == 0) = true := beq_iff_eq.mpr c40
          have c40b1 : ((t113.length : Int) != 0) = false := bne_eq_false_iff_eq.mpr c40
          clear c40
          replace H := Option.bind_eq_some_iff.mp H
          obtain ⟨t117, A410, H⟩ := H
          replace H : (some (!t117)) = some r := H
          have A41 := Aside0.mk A410
          clear A410
          obtain rfl := Option.some.inj H
          go_wp2_with (first | ((with_reducible refine gate_callee (f := 16) rfl ?_); refine goesL_ (some 57) rfl rfl Tryd.func16 (by kernel_rfl) rfl #[.slice Ao8 t109.length co8, .int .i64 a1] rfl (by (try simp only [List.map_toArray, List.map_cons, List.map_nil]); first | done | rfl | (simp only [List.length_drop, List.length_take]; rfl)) ?_; (with_reducible refine (extC.calls k1 _ _ t109 a1 t113 t114 _ ?side1 ?side2 ?side3 A33.out).mono ?_); (case side1 => repeat (first | exact (Kd.R_reads' HO_0.out).2.2 | (with_reducible refine Kd.C_alloc ?_ _) | (with_reducible refine Kd.C_drewN ?_ _) | (with_reducible refine Kd.C_drew ?_))); (case side2 => exact (Kd.R_reads' HO_0.out).2.1); (case side3 => exact Amb.below hG_ (by repeat (first | (with_reducible first | exact HB.out | apply below_alloc | apply pw_below_drewN | apply below_drew1) | exact HB.out))); rintro e w42 ⟨v115, rfl, ho0, hb⟩; refine ⟨_, rfl, ?_⟩; have n0_ := Aside0.mk (Kd.R_elder' (by (with_reducible repeat (first | apply Kd.R_alloc | apply Kd.R_drewN | apply Kd.R_drew)); exact HO_0.out) (Kd.R_base ho0) hb); have n1_ := Aside0.mk (Kd.R_lower (Kd.R_new' ho0 (Kd.R_lt (by (with_reducible repeat (first | apply Kd.R_alloc | apply Kd.R_drewN | apply Kd.R_drew)); exact HO_0.out))) (below_size (by repeat (first | (with_reducible first | exact HB.out | apply below_alloc | apply pw_below_drewN | apply below_drew1) | exact HB.out)))); have n2_ := Aside0.mk (below_step (by repeat (first | (with_reducible first | exact HB.out | apply below_alloc | apply pw_below_drewN | apply below_drew1) | exact HB.out)) hb); clear HO_0; clear HB; have HO_0 := n0_; have HO116 := n1_; have HB := n2_; clear n0_ n1_ n2_; (try clear hb); (try clear hb2); (try clear hk); (try clear hi); (try clear ho0); obtain ⟨Ao43, co43, eo43⟩ := Kd.R_slice HO116.out; subst eo43) | (go_at_call 23; (with_reducible refine (digest_VerifyExtension.calls t112 a1 t112 (t109.length : Int) _ _ t113 t117 _ ?side1 ?side2 ?side3 A41.out).mono ?_); (case side1 => repeat (first | exact (Kd.R_reads' HO116.out).2.2 | (with_reducible refine Kd.C_alloc ?_ _) | (with_reducible refine Kd.C_drewN ?_ _) | (with_reducible refine Kd.C_drew ?_))); (case side2 => exact (Kd.R_reads' HO116.out).2.1); (case side3 => exact Amb.below hG_ (by repeat (first | (with_reducible first | exact HB.out | apply below_alloc | apply pw_below_drewN | apply below_drew1) | exact HB.out))); rintro e w44 ⟨rfl, hb⟩; have n0_ := Aside0.mk (Kd.R_below (by (with_reducible repeat (first | apply Kd.R_alloc | apply Kd.R_drewN | apply Kd.R_drew)); exact HO_0.out) hb); have n1_ := Aside0.mk (Kd.R_below (by (with_reducible repeat (first | apply Kd.R_alloc | apply Kd.R_drewN | apply Kd.R_drew)); exact HO116.out) hb); have n2_ := Aside0.mk (below_step (by repeat (first | (with_reducible first | exact HB.out | apply below_alloc | apply pw_below_drewN | apply below_drew1) | exact HB.out)) hb); clear HO_0; clear HO116; clear HB; have HO_0 := n0_; have HO116 := n1_; have HB := n2_; clear n0_ n1_ n2_; (try clear hb); (try clear hb2); (try clear hk); (try clear hi)))
          go_ret
          exact ⟨by first | rfl | (simp [errW_none, errW_some] <;> rfl) | (simp [*, errW_none, errW_some] <;> rfl), by repeat (first | (with_reducible first | exact HB.out | apply below_alloc | apply pw_below_drewN | apply below_drew1) | exact HB.out)⟩
         ·rw [if_neg c40] at H
          have c40b0 : ((t113.length : Int) == 0) = false := beq_eq_false_iff_ne.mpr c40
          have c40b1 : ((t113.length : Int) != 0) = true := bne_iff_ne.mpr c40
          have c40b2 : ¬ (t113 = []) := fun h_ => c40 (by rw [h_]; rfl)
          obtain rfl := Option.some.inj H
          go_wp2_with (first | ((with_reducible refine gate_callee (f := 16) rfl ?_); refine goesL_ (some 57) rfl rfl Tryd.func16 (by kernel_rfl) rfl #[.slice Ao8 t109.length co8, .int .i64 a1] rfl (by (try simp only [List.map_toArray, List.map_cons, List.map_nil]); first | done | rfl | (simp only [List.length_drop, List.length_take]; rfl)) ?_; (with_reducible refine (extC.calls k1 _ _ t109 a1 t113 t114 _ ?side1 ?side2 ?side3 A33.out).mono ?_); (case side1 => repeat (first | exact (Kd.R_reads' HO_0.out).2.2 | (with_reducible refine Kd.C_alloc ?_ _) | (with_reducible refine Kd.C_drewN ?_ _) | (with_reducible refine Kd.C_drew ?_))); (case side2 => exact (Kd.R_reads' HO_0.out).2.1); (case side3 => exact Amb.below hG_ (by repeat (first | (with_reducible first | exact HB.out | apply below_alloc | apply pw_below_drewN | apply below_drew1) | exact HB.out))); rintro e w45 ⟨v115, rfl, ho0, hb⟩; refine ⟨_, rfl, ?_⟩; have n0_ := Aside0.mk (Kd.R_elder' (by (with_reducible repeat (first | apply Kd.R_alloc | apply Kd.R_drewN | apply Kd.R_drew)); exact HO_0.out) (Kd.R_base ho0) hb); have n1_ := Aside0.mk (Kd.R_lower (Kd.R_new' ho0 (Kd.R_lt (by (with_reducible repeat (first | apply Kd.R_alloc | apply Kd.R_drewN | apply Kd.R_drew)); exact HO_0.out))) (below_size (by repeat (first | (with_reducible first | exact HB.out | apply below_alloc | apply pw_below_drewN | apply below_drew1) | exact HB.out)))); have n2_ := Aside0.mk (below_step (by repeat (first | (with_reducible first | exact HB.out | apply below_alloc | apply pw_below_drewN | apply below_drew1) | exact HB.out)) hb); clear HO_0; clear HB; have HO_0 := n0_; have HO116 := n1_; have HB := n2_; clear n0_ n1_ n2_; (try clear hb); (try clear hb2); (try clear hk); (try clear hi); (try clear ho0); obtain ⟨Ao46, co46, eo46⟩ := Kd.R_slice HO116.out; subst eo46))
          go_ret
          exact ⟨by first | rfl | (simp [errW_none, errW_some] <;> rfl) | (simp [*, errW_none, errW_some] <;> rfl), by repeat (first | (with_reducible first | exact HB.out | apply below_alloc | apply pw_below_drewN | apply below_drew1) | exact HB.out)⟩
        ·rw [if_neg c39] at H
         have c39b0 : (t114 == 2) = false := beq_eq_false_iff_ne.mpr c39
         have c39b1 : (t114 != 2) = true := bne_iff_ne.mpr c39
         obtain rfl := Option.some.inj H
         go_wp2_with (first | ((with_reducible refine gate_callee (f := 16) rfl ?_); refine goesL_ (some 57) rfl rfl Tryd.func16 (by kernel_rfl) rfl #[.slice Ao8 t109.length co8, .int .i64 a1] rfl (by (try simp only [List.map_toArray, List.map_cons, List.map_nil]); first | done | rfl | (simp only [List.length_drop, List.length_take]; rfl)) ?_; (with_reducible refine (extC.calls k1 _ _ t109 a1 t113 t114 _ ?side1 ?side2 ?side3 A33.out).mono ?_); (case side1 => repeat (first | exact (Kd.R_reads' HO_0.out).2.2 | (with_reducible refine Kd.C_alloc ?_ _) | (with_reducible refine Kd.C_drewN ?_ _) | (with_reducible refine Kd.C_drew ?_))); (case side2 => exact (Kd.R_reads' HO_0.out).2.1); (case side3 => exact Amb.below hG_ (by repeat (first | (with_reducible first | exact HB.out | apply below_alloc | apply pw_below_drewN | apply below_drew1) | exact HB.out))); rintro e w47 ⟨v115, rfl, ho0, hb⟩; refine ⟨_, rfl, ?_⟩; have n0_ := Aside0.mk (Kd.R_elder' (by (with_reducible repeat (first | apply Kd.R_alloc | apply Kd.R_drewN | apply Kd.R_drew)); exact HO_0.out) (Kd.R_base ho0) hb); have n1_ := Aside0.mk (Kd.R_lower (Kd.R_new' ho0 (Kd.R_lt (by (with_reducible repeat (first | apply Kd.R_alloc | apply Kd.R_drewN | apply Kd.R_drew)); exact HO_0.out))) (below_size (by repeat (first | (with_reducible first | exact HB.out | apply below_alloc | apply pw_below_drewN | apply below_drew1) | exact HB.out)))); have n2_ := Aside0.mk (below_step (by repeat (first | (with_reducible first | exact HB.out | apply below_alloc | apply pw_below_drewN | apply below_drew1) | exact HB.out)) hb); clear HO_0; clear HB; have HO_0 := n0_; have HO116 := n1_; have HB := n2_; clear n0_ n1_ n2_; (try clear hb); (try clear hb2); (try clear hk); (try clear hi); (try clear ho0)))
         go_ret
         exact ⟨by first | rfl | (simp [errW_none, errW_some] <;> rfl) | (simp [*, errW_none, errW_some] <;> rfl), by repeat (first | (with_reducible first | exact HB.out | apply below_alloc | apply pw_below_drewN | apply below_drew1) | exact HB.out)⟩
      ·rw [if_neg c36] at H
       have c36b0 : ((decide (a1 ≤ (t109.length : Int))) == (t114 == 0)) = false := by simpa using c36
       (try (have c36b1 : decide ((decide (a1 ≤ (t109.length : Int))) = (t114 == 0)) = false := by simpa using c36))
       (try (have c36b2 : ((decide (a1 ≤ (t109.length : Int))) == (t114 == 0)) = false := by simpa using c36))
       (try (have c36b3 : ¬ ((decide (a1 ≤ (t109.length : Int))) = (t114 == 0)) := by simpa using c36))
       clear c36
       obtain rfl := Option.some.inj H
       go_wp2_with (first | ((with_reducible refine gate_callee (f := 16) rfl ?_); refine goesL_ (some 57) rfl rfl Tryd.func16 (by kernel_rfl) rfl #[.slice Ao8 t109.length co8, .int .i64 a1] rfl (by (try simp only [List.map_toArray, List.map_cons, List.map_nil]); first | done | rfl | (simp only [List.length_drop, List.length_take]; rfl)) ?_; (with_reducible refine (extC.calls k1 _ _ t109 a1 t113 t114 _ ?side1 ?side2 ?side3 A33.out).mono ?_); (case side1 => repeat (first | exact (Kd.R_reads' HO_0.out).2.2 | (with_reducible refine Kd.C_alloc ?_ _) | (with_reducible refine Kd.C_drewN ?_ _) | (with_reducible refine Kd.C_drew ?_))); (case side2 => exact (Kd.R_reads' HO_0.out).2.1); (case side3 => exact Amb.below hG_ (by repeat (first | (with_reducible first | exact HB.out | apply below_alloc | apply pw_below_drewN | apply below_drew1) | exact HB.out))); rintro e w48 ⟨v115, rfl, ho0, hb⟩; refine ⟨_, rfl, ?_⟩; have n0_ := Aside0.mk (Kd.R_elder' (by (with_reducible repeat (first | apply Kd.R_alloc | apply Kd.R_drewN | apply Kd.R_drew)); exact HO_0.out) (Kd.R_base ho0) hb); have n1_ := Aside0.mk (Kd.R_lower (Kd.R_new' ho0 (Kd.R_lt (by (with_reducible repeat (first | apply Kd.R_alloc | apply Kd.R_drewN | apply Kd.R_drew)); exact HO_0.out))) (below_size (by repeat (first | (with_reducible first | exact HB.out | apply below_alloc | apply pw_below_drewN | apply below_drew1) | exact HB.out)))); have n2_ := Aside0.mk (below_step (by repeat (first | (with_reducible first | exact HB.out | apply below_alloc | apply pw_below_drewN | apply below_drew1) | exact HB.out)) hb); clear HO_0; clear HB; have HO_0 := n0_; have HO116 := n1_; have HB := n2_; clear n0_ n1_ n2_; (try clear hb); (try clear hb2); (try clear hk); (try clear hi); (try clear ho0)))
       go_ret
       exact ⟨by first | rfl | (simp [errW_none, errW_some] <;> rfl) | (simp [*, errW_none, errW_some] <;> rfl), by repeat (first | (with_reducible first | exact HB.out | apply below_alloc | apply pw_below_drewN | apply below_drew1) | exact HB.out)⟩
     ·replace c35 := Bool.eq_false_iff.mpr c35
      subst c35
      have H1 : (some false) = some r := by rw [if_neg (show ¬ (false = true) by decide)] at H; exact H
      clear H
      have H := H1
      clear H1
      obtain rfl := Option.some.inj H
      go_wp2_with (first | ((with_reducible refine gate_callee (f := 16) rfl ?_); refine goesL_ (some 57) rfl rfl Tryd.func16 (by kernel_rfl) rfl #[.slice Ao8 t109.length co8, .int .i64 a1] rfl (by (try simp only [List.map_toArray, List.map_cons, List.map_nil]); first | done | rfl | (simp only [List.length_drop, List.length_take]; rfl)) ?_; (with_reducible refine (extC.calls k1 _ _ t109 a1 t113 t114 _ ?side1 ?side2 ?side3 A33.out).mono ?_); (case side1 => repeat (first | exact (Kd.R_reads' HO_0.out).2.2 | (with_reducible refine Kd.C_alloc ?_ _) | (with_reducible refine Kd.C_drewN ?_ _) | (with_reducible refine Kd.C_drew ?_))); (case side2 => exact (Kd.R_reads' HO_0.out).2.1); (case side3 => exact Amb.below hG_ (by repeat (first | (with_reducible first | exact HB.out | apply below_alloc | apply pw_below_drewN | apply below_drew1) | exact HB.out))); rintro e w49 ⟨v115, rfl, ho0, hb⟩; refine ⟨_, rfl, ?_⟩; have n0_ := Aside0.mk (Kd.R_elder' (by (with_reducible repeat (first | apply Kd.R_alloc | apply Kd.R_drewN | apply Kd.R_drew)); exact HO_0.out) (Kd.R_base ho0) hb); have n1_ := Aside0.mk (Kd.R_lower (Kd.R_new' ho0 (Kd.R_lt (by (with_reducible repeat (first | apply Kd.R_alloc | apply Kd.R_drewN | apply Kd.R_drew)); exact HO_0.out))) (below_size (by repeat (first | (with_reducible first | exact HB.out | apply below_alloc | apply pw_below_drewN | apply below_drew1) | exact HB.out)))); have n2_ := Aside0.mk (below_step (by repeat (first | (with_reducible first | exact HB.out | apply below_alloc | apply pw_below_drewN | apply below_drew1) | exact HB.out)) hb); clear HO_0; clear HB; have HO_0 := n0_; have HO116 := n1_; have HB := n2_; clear n0_ n1_ n2_; (try clear hb); (try clear hb2); (try clear hk); (try clear hi); (try clear ho0)))
      go_ret
      exact ⟨by first | rfl | (simp [errW_none, errW_some] <;> rfl) | (simp [*, errW_none, errW_some] <;> rfl), by repeat (first | (with_reducible first | exact HB.out | apply below_alloc | apply pw_below_drewN | apply below_drew1) | exact HB.out)⟩
    ·rw [if_neg c34] at H
     have c34b0 : decide (0 ≤ a1) = false := decide_eq_false c34
     clear c34
     by_cases c50 : t108 = true
     ·subst c50
      have H1 : (if (false == (t114 == 0)) = true then (if t114 = 2 then (if (t113.length : Int) = 0 then ((digest_VerifyExtension.f t112 a1 t112 (t109.length : Int) t113).bind fun t118 => (some (!t118))) else (some false)) else (some false)) else (some false)) = some r := by rw [if_pos rfl] at H; exact H
      clear H
      have H := H1
      clear H1
      by_cases c51 : (false == (t114 == 0)) = true
      ·rw [if_pos c51] at H
       have c51b0 : (false == (t114 == 0)) = true := c51
       (try (have c51b1 : decide (false = (t114 == 0)) = true := by simpa using c51))
       (try (have c51b2 : (false == (t114 == 0)) = true := by simpa using c51))
       clear c51
       by_cases c52 : t114 = 2
       ·rw [if_pos c52] at H
        have c52b0 : (t114 == 2) = true := beq_iff_eq.mpr c52
        have c52b1 : (t114 != 2) = false := bne_eq_false_iff_eq.mpr c52
        clear c52
        by_cases c53 : (t113.length : Int) = 0
        ·rw [if_pos c53] at H
         have c53b0 : ((t113.length : Int) == 0) = true := beq_iff_eq.mpr c53
         have c53b1 : ((t113.length : Int) != 0) = false := bne_eq_false_iff_eq.mpr c53
         clear c53
         replace H := Option.bind_eq_some_iff.mp H
         obtain ⟨t118, A540, H⟩ := H
         replace H : (some (!t118)) = some r := H
         have A54 := Aside0.mk A540
         clear A540
         obtain rfl := Option.some.inj H
         go_wp2_with (first | ((with_reducible refine gate_callee (f := 16) rfl ?_); refine goesL_ (some 57) rfl rfl Tryd.func16 (by kernel_rfl) rfl #[.slice Ao8 t109.length co8, .int .i64 a1] rfl (by (try simp only [List.map_toArray, List.map_cons, List.map_nil]); first | done | rfl | (simp only [List.length_drop, List.length_take]; rfl)) ?_; (with_reducible refine (extC.calls k1 _ _ t109 a1 t113 t114 _ ?side1 ?side2 ?side3 A33.out).mono ?_); (case side1 => repeat (first | exact (Kd.R_reads' HO_0.out).2.2 | (with_reducible refine Kd.C_alloc ?_ _) | (with_reducible refine Kd.C_drewN ?_ _) | (with_reducible refine Kd.C_drew ?_))); (case side2 => exact (Kd.R_reads' HO_0.out).2.1); (case side3 => exact Amb.below hG_ (by repeat (first | (with_reducible first | exact HB.out | apply below_alloc | apply pw_below_drewN | apply below_drew1) | exact HB.out))); rintro e w55 ⟨v115, rfl, ho0, hb⟩; refine ⟨_, rfl, ?_⟩; have n0_ := Aside0.mk (Kd.R_elder' (by (with_reducible repeat (first | apply Kd.R_alloc | apply Kd.R_drewN | apply Kd.R_drew)); exact HO_0.out) (Kd.R_base ho0) hb); have n1_ := Aside0.mk (Kd.R_lower (Kd.R_new' ho0 (Kd.R_lt (by (with_reducible repeat (first | apply Kd.R_alloc | apply Kd.R_drewN | apply Kd.R_drew)); exact HO_0.out))) (below_size (by repeat (first | (with_reducible first | exact HB.out | apply below_alloc | apply pw_below_drewN | apply below_drew1) | exact HB.out)))); have n2_ := Aside0.mk (below_step (by repeat (first | (with_reducible first | exact HB.out | apply below_alloc | apply pw_below_drewN | apply below_drew1) | exact HB.out)) hb); clear HO_0; clear HB; have HO_0 := n0_; have HO116 := n1_; have HB := n2_; clear n0_ n1_ n2_; (try clear hb); (try clear hb2); (try clear hk); (try clear hi); (try clear ho0); obtain ⟨Ao56, co56, eo56⟩ := Kd.R_slice HO116.out; subst eo56) | (go_at_call 23; (with_reducible refine (digest_VerifyExtension.calls t112 a1 t112 (t109.length : Int) _ _ t113 t118 _ ?side1 ?side2 ?side3 A54.out).mono ?_); (case side1 => repeat (first | exact (Kd.R_reads' HO116.out).2.2 | (with_reducible refine Kd.C_alloc ?_ _) | (with_reducible refine Kd.C_drewN ?_ _) | (with_reducible refine Kd.C_drew ?_))); (case side2 => exact (Kd.R_reads' HO116.out).2.1); (case side3 => exact Amb.below hG_ (by repeat (first | (with_reducible first | exact HB.out | apply below_alloc | apply pw_below_drewN | apply below_drew1) | exact HB.out))); rintro e w57 ⟨rfl, hb⟩; have n0_ := Aside0.mk (Kd.R_below (by (with_reducible repeat (first | apply Kd.R_alloc | apply Kd.R_drewN | apply Kd.R_drew)); exact HO_0.out) hb); have n1_ := Aside0.mk (Kd.R_below (by (with_reducible repeat (first | apply Kd.R_alloc | apply Kd.R_drewN | apply Kd.R_drew)); exact HO116.out) hb); have n2_ := Aside0.mk (below_step (by repeat (first | (with_reducible first | exact HB.out | apply below_alloc | apply pw_below_drewN | apply below_drew1) | exact HB.out)) hb); clear HO_0; clear HO116; clear HB; have HO_0 := n0_; have HO116 := n1_; have HB := n2_; clear n0_ n1_ n2_; (try clear hb); (try clear hb2); (try clear hk); (try clear hi)))
         go_ret
         exact ⟨by first | rfl | (simp [errW_none, errW_some] <;> rfl) | (simp [*, errW_none, errW_some] <;> rfl), by repeat (first | (with_reducible first | exact HB.out | apply below_alloc | apply pw_below_drewN | apply below_drew1) | exact HB.out)⟩
        ·rw [if_neg c53] at H
         have c53b0 : ((t113.length : Int) == 0) = false := beq_eq_false_iff_ne.mpr c53
         have c53b1 : ((t113.length : Int) != 0) = true := bne_iff_ne.mpr c53
         have c53b2 : ¬ (t113 = []) := fun h_ => c53 (by rw [h_]; rfl)
         obtain rfl := Option.some.inj H
         go_wp2_with (first | ((with_reducible refine gate_callee (f := 16) rfl ?_); refine goesL_ (some 57) rfl rfl Tryd.func16 (by kernel_rfl) rfl #[.slice Ao8 t109.length co8, .int .i64 a1] rfl (by (try simp only [List.map_toArray, List.map_cons, List.map_nil]); first | done | rfl | (simp only [List.length_drop, List.length_take]; rfl)) ?_; (with_reducible refine (extC.calls k1 _ _ t109 a1 t113 t114 _ ?side1 ?side2 ?side3 A33.out).mono ?_); (case side1 => repeat (first | exact (Kd.R_reads' HO_0.out).2.2 | (with_reducible refine Kd.C_alloc ?_ _) | (with_reducible refine Kd.C_drewN ?_ _) | (with_reducible refine Kd.C_drew ?_))); (case side2 => exact (Kd.R_reads' HO_0.out).2.1); (case side3 => exact Amb.below hG_ (by repeat (first | (with_reducible first | exact HB.out | apply below_alloc | apply pw_below_drewN | apply below_drew1) | exact HB.out))); rintro e w58 ⟨v115, rfl, ho0, hb⟩; refine ⟨_, rfl, ?_⟩; have n0_ := Aside0.mk (Kd.R_elder' (by (with_reducible repeat (first | apply Kd.R_alloc | apply Kd.R_drewN | apply Kd.R_drew)); exact HO_0.out) (Kd.R_base ho0) hb); have n1_ := Aside0.mk (Kd.R_lower (Kd.R_new' ho0 (Kd.R_lt (by (with_reducible repeat (first | apply Kd.R_alloc | apply Kd.R_drewN | apply Kd.R_drew)); exact HO_0.out))) (below_size (by repeat (first | (with_reducible first | exact HB.out | apply below_alloc | apply pw_below_drewN | apply below_drew1) | exact HB.out)))); have n2_ := Aside0.mk (below_step (by repeat (first | (with_reducible first | exact HB.out | apply below_alloc | apply pw_below_drewN | apply below_drew1) | exact HB.out)) hb); clear HO_0; clear HB; have HO_0 := n0_; have HO116 := n1_; have HB := n2_; clear n0_ n1_ n2_; (try clear hb); (try clear hb2); (try clear hk); (try clear hi); (try clear ho0); obtain ⟨Ao59, co59, eo59⟩ := Kd.R_slice HO116.out; subst eo59))
         go_ret
         exact ⟨by first | rfl | (simp [errW_none, errW_some] <;> rfl) | (simp [*, errW_none, errW_some] <;> rfl), by repeat (first | (with_reducible first | exact HB.out | apply below_alloc | apply pw_below_drewN | apply below_drew1) | exact HB.out)⟩
       ·rw [if_neg c52] at H
        have c52b0 : (t114 == 2) = false := beq_eq_false_iff_ne.mpr c52
        have c52b1 : (t114 != 2) = true := bne_iff_ne.mpr c52
        obtain rfl := Option.some.inj H
        go_wp2_with (first | ((with_reducible refine gate_callee (f := 16) rfl ?_); refine goesL_ (some 57) rfl rfl Tryd.func16 (by kernel_rfl) rfl #[.slice Ao8 t109.length co8, .int .i64 a1] rfl (by (try simp only [List.map_toArray, List.map_cons, List.map_nil]); first | done | rfl | (simp only [List.length_drop, List.length_take]; rfl)) ?_; (with_reducible refine (extC.calls k1 _ _ t109 a1 t113 t114 _ ?side1 ?side2 ?side3 A33.out).mono ?_); (case side1 => repeat (first | exact (Kd.R_reads' HO_0.out).2.2 | (with_reducible refine Kd.C_alloc ?_ _) | (with_reducible refine Kd.C_drewN ?_ _) | (with_reducible refine Kd.C_drew ?_))); (case side2 => exact (Kd.R_reads' HO_0.out).2.1); (case side3 => exact Amb.below hG_ (by repeat (first | (with_reducible first | exact HB.out | apply below_alloc | apply pw_below_drewN | apply below_drew1) | exact HB.out))); rintro e w60 ⟨v115, rfl, ho0, hb⟩; refine ⟨_, rfl, ?_⟩; have n0_ := Aside0.mk (Kd.R_elder' (by (with_reducible repeat (first | apply Kd.R_alloc | apply Kd.R_drewN | apply Kd.R_drew)); exact HO_0.out) (Kd.R_base ho0) hb); have n1_ := Aside0.mk (Kd.R_lower (Kd.R_new' ho0 (Kd.R_lt (by (with_reducible repeat (first | apply Kd.R_alloc | apply Kd.R_drewN | apply Kd.R_drew)); exact HO_0.out))) (below_size (by repeat (first | (with_reducible first | exact HB.out | apply below_alloc | apply pw_below_drewN | apply below_drew1) | exact HB.out)))); have n2_ := Aside0.mk (below_step (by repeat (first | (with_reducible first | exact HB.out | apply below_alloc | apply pw_below_drewN | apply below_drew1) | exact HB.out)) hb); clear HO_0; clear HB; have HO_0 := n0_; have HO116 := n1_; have HB := n2_; clear n0_ n1_ n2_; (try clear hb); (try clear hb2); (try clear hk); (try clear hi); (try clear ho0)))
        go_ret
        exact ⟨by first | rfl | (simp [errW_none, errW_some] <;> rfl) | (simp [*, errW_none, errW_some] <;> rfl), by repeat (first | (with_reducible first | exact HB.out | apply below_alloc | apply pw_below_drewN | apply below_drew1) | exact HB.out)⟩
      ·rw [if_neg c51] at H
       have c51b0 : (false == (t114 == 0)) = false := by simpa using c51
       (try (have c51b1 : decide (false = (t114 == 0)) = false := by simpa using c51))
       (try (have c51b2 : (false == (t114 == 0)) = false := by simpa using c51))
       (try (have c51b3 : ¬ (false = (t114 == 0)) := by simpa using c51))
       clear c51
       obtain rfl := Option.some.inj H
       go_wp2_with (first | ((with_reducible refine gate_callee (f := 16) rfl ?_); refine goesL_ (some 57) rfl rfl Tryd.func16 (by kernel_rfl) rfl #[.slice Ao8 t109.length co8, .int .i64 a1] rfl (by (try simp only [List.map_toArray, List.map_cons, List.map_nil]); first | done | rfl | (simp only [List.length_drop, List.length_take]; rfl)) ?_; (with_reducible refine (extC.calls k1 _ _ t109 a1 t113 t114 _ ?side1 ?side2 ?side3 A33.out).mono ?_); (case side1 => repeat (first | exact (Kd.R_reads' HO_0.out).2.2 | (with_reducible refine Kd.C_alloc ?_ _) | (with_reducible refine Kd.C_drewN ?_ _) | (with_reducible refine Kd.C_drew ?_))); (case side2 => exact (Kd.R_reads' HO_0.out).2.1); (case side3 => exact Amb.below hG_ (by repeat (first | (with_reducible first | exact HB.out | apply below_alloc | apply pw_below_drewN | apply below_drew1) | exact HB.out))); rintro e w61 ⟨v115, rfl, ho0, hb⟩; refine ⟨_, rfl, ?_⟩; have n0_ := Aside0.mk (Kd.R_elder' (by (with_reducible repeat (first | apply Kd.R_alloc | apply Kd.R_drewN | apply Kd.R_drew)); exact HO_0.out) (Kd.R_base ho0) hb); have n1_ := Aside0.mk (Kd.R_lower (Kd.R_new' ho0 (Kd.R_lt (by (with_reducible repeat (first | apply Kd.R_alloc | apply Kd.R_drewN | apply Kd.R_drew)); exact HO_0.out))) (below_size (by repeat (first | (with_reducible first | exact HB.out | apply below_alloc | apply pw_below_drewN | apply below_drew1) | exact HB.out)))); have n2_ := Aside0.mk (below_step (by repeat (first | (with_reducible first | exact HB.out | apply below_alloc | apply pw_below_drewN | apply below_drew1) | exact HB.out)) hb); clear HO_0; clear HB; have HO_0 := n0_; have HO116 := n1_; have HB := n2_; clear n0_ n1_ n2_; (try clear hb); (try clear hb2); (try clear hk); (try clear hi); (try clear ho0)))
       go_ret
       exact ⟨by first | rfl | (simp [errW_none, errW_some] <;> rfl) | (simp [*, errW_none, errW_some] <;> rfl), by repeat (first | (with_reducible first | exact HB.out | apply below_alloc | apply pw_below_drewN | apply below_drew1) | exact HB.out)⟩
     ·replace c50 := Bool.eq_false_iff.mpr c50
      subst c50
      have H1 : (some false) = some r := by rw [if_neg (show ¬ (false = true) by decide)] at H; exact H
      clear H
      have H := H1
      clear H1
      obtain rfl := Option.some.inj H
      go_wp2_with (first | ((with_reducible refine gate_callee (f := 16) rfl ?_); refine goesL_ (some 57) rfl rfl Tryd.func16 (by kernel_rfl) rfl #[.slice Ao8 t109.length co8, .int .i64 a1] rfl (by (try simp only [List.map_toArray, List.map_cons, List.map_nil]); first | done | rfl | (simp only [List.length_drop, List.length_take]; rfl)) ?_; (with_reducible refine (extC.calls k1 _ _ t109 a1 t113 t114 _ ?side1 ?side2 ?side3 A33.out).mono ?_); (case side1 => repeat (first | exact (Kd.R_reads' HO_0.out).2.2 | (with_reducible refine Kd.C_alloc ?_ _) | (with_reducible refine Kd.C_drewN ?_ _) | (with_reducible refine Kd.C_drew ?_))); (case side2 => exact (Kd.R_reads' HO_0.out).2.1); (case side3 => exact Amb.below hG_ (by repeat (first | (with_reducible first | exact HB.out | apply below_alloc | apply pw_below_drewN | apply below_drew1) | exact HB.out))); rintro e w62 ⟨v115, rfl, ho0, hb⟩; refine ⟨_, rfl, ?_⟩; have n0_ := Aside0.mk (Kd.R_elder' (by (with_reducible repeat (first | apply Kd.R_alloc | apply Kd.R_drewN | apply Kd.R_drew)); exact HO_0.out) (Kd.R_base ho0) hb); have n1_ := Aside0.mk (Kd.R_lower (Kd.R_new' ho0 (Kd.R_lt (by (with_reducible repeat (first | apply Kd.R_alloc | apply Kd.R_drewN | apply Kd.R_drew)); exact HO_0.out))) (below_size (by repeat (first | (with_reducible first | exact HB.out | apply below_alloc | apply pw_below_drewN | apply below_drew1) | exact HB.out)))); have n2_ := Aside0.mk (below_step (by repeat (first | (with_reducible first | exact HB.out | apply below_alloc | apply pw_below_drewN | apply below_drew1) | exact HB.out)) hb); clear HO_0; clear HB; have HO_0 := n0_; have HO116 := n1_; have HB := n2_; clear n0_ n1_ n2_; (try clear hb); (try clear hb2); (try clear hk); (try clear hi); (try clear ho0)))
      go_ret
      exact ⟨by first | rfl | (simp [errW_none, errW_some] <;> rfl) | (simp [*, errW_none, errW_some] <;> rfl), by repeat (first | (with_reducible first | exact HB.out | apply below_alloc | apply pw_below_drewN | apply below_drew1) | exact HB.out)⟩

end Go.Proofs.YtjkdenldddjcnaaDoor.Dj
set_option linter.unusedVariables false
set_option linter.unusedSimpArgs false
namespace Go.Proofs.YtjkdenldddjcnaaDoor.Sha
open Go Go.RowKit Go.Proofs.YtjkdenldddjcnaaDoor.Df Go.Proofs.YtjkdenldddjcnaaDoor.Dj Go.Proofs.YtjkdenldddjcnaaDoorW.PrintWords Go.Proofs.YtjkdenldddjcnaaDoorW.PrintLast Go.Proofs.YtjkdenldddjcnaaDoorW.PrintMore

def binN (n : Nat) : Nat := if n = 0 then 0 else Nat.log2 n + 1
theorem bin_all : ∀ n : Fin 64, clearwaylaw02_binary.f 10 ((n.1 : Nat) : Int) = some ((binN n.1 : Nat) : Int) := by decide +kernel
theorem bin_up (n : Nat) (h : n < 64) : ∀ d, clearwaylaw02_binary.f (10 + d) (n : Int) = some ((binN n : Nat) : Int) := by
  intro d
  induction d with
  | zero => exact bin_all ⟨n, h⟩
  | succ d ih => exact clearwaylaw02_binary.mono _ (10 + d) _ ih
theorem bin_f (n k : Nat) (h : n < 64) (hk : 10 ≤ k) : clearwaylaw02_binary.f k (n : Int) = some ((binN n : Nat) : Int) := by
  obtain ⟨d, rfl⟩ : ∃ d, k = 10 + d := ⟨k - 10, by omega⟩
  exact bin_up n h d
theorem bin_pow : ∀ n : Fin 64, n.1 ≤ 2 ^ binN n.1 ∧ binN n.1 ≤ 6 ∧ (1 ≤ n.1 → 1 ≤ binN n.1) := by decide +kernel
theorem eacc_end (l : List ByteArray) (hs : small l = true) (hl : l.length ≤ 25) (m : Int) (k i : Nat) (hk : 200 ≤ k) (hi : i = l.length + 1) :
    clearwaylaw02_DigestExtensionAccepted.l0 (k + 1) l m true (rootF l) (i : Int) = some true := by
  rw [clearwaylaw02_DigestExtensionAccepted.l0, if_neg (by omega)]
  simp only [extC_f]
  by_cases hm : m < 0 ∨ (l.length : Int) < m
  · rw [ext_out l m k hm (by omega), Option.bind_some]
    have v0 : verifyEF (rootF l) m (rootF l) (l.length : Int) [] = false := by
      unfold verifyEF
      rcases hm with h | h
      · rw [if_pos h]
      · rw [if_neg (by omega), if_pos h]
    have v1 : digest_VerifyExtension.f (rootF l) m (rootF l) (l.length : Int) [] = some false := by
      unfold digest_VerifyExtension.f
      rw [if_pos ⟨by omega, by simp⟩, v0]
    by_cases h0 : m ≥ 0
    · have h2 : ¬ m ≤ (l.length : Int) := by omega
      rw [if_pos h0]
      simp [v1, h2]
    · rw [if_neg h0]
      simp [v1]
  · obtain ⟨j, rfl⟩ : ∃ j : Nat, m = (j : Int) := ⟨m.toNat, by omega⟩
    rw [ext_f l j k (by omega) hs (by omega), Option.bind_some, if_pos (by omega)]
    simp [show j ≤ l.length by omega]
theorem eacc_loop (l : List ByteArray) (hs : small l = true) (hl : l.length ≤ 25) (m : Int) : ∀ (d i k : Nat), i + d = l.length + 1 → d + 300 ≤ k →
    clearwaylaw02_DigestExtensionAccepted.l0 k l m true (rootF l) (i : Int) = some true := by
  intro d
  induction d with
  | zero =>
    intro i k hi hk
    obtain ⟨k, rfl⟩ : ∃ j, k = j + 1 := ⟨k - 1, by omega⟩
    exact eacc_end l hs hl m k i (by omega) (by omega)
  | succ d ih =>
    intro i k hi hk
    obtain ⟨k, rfl⟩ : ∃ j, k = j + 1 := ⟨k - 1, by omega⟩
    obtain ⟨x, hx⟩ : ∃ x, (if i = 0 then [] else (extP l.length l i true).reverse : List ByteArray) = x := ⟨_, rfl⟩
    have hv := ext_accept l i l.length (by omega) (Nat.le_refl _) (by omega)
    rw [hx] at hv
    obtain ⟨b1, b2, b3⟩ := bin_pow ⟨l.length, by omega⟩
    simp only at b1 b2 b3
    have hxl : x.length ≤ 2 * binN l.length := by
      rw [← hx]
      split
      · simp
      · rename_i h0
        have := extP_length (binN l.length) l.length l i true b1 (by omega) (by omega) (by omega)
        have := b3 (by omega)
        rw [List.length_reverse]
        omega
    have v1 : digest_VerifyExtension.f (rootF (l.take i)) (i : Int) (rootF l) (l.length : Int) x = some true := by
      unfold digest_VerifyExtension.f
      rw [if_pos ⟨by omega, by omega⟩, hv]
    rw [clearwaylaw02_DigestExtensionAccepted.l0, if_pos (by omega)]
    simp only [extC_f]
    rw [ext_f l i k (by omega) hs (by omega), hx, Option.bind_some, if_pos rfl, bin_f l.length k (by omega) (by omega), Option.bind_some]
    have hw : wrap64 (2 * ((binN l.length : Nat) : Int)) = 2 * ((binN l.length : Nat) : Int) := by unfold wrap64; omega
    rw [hw, if_neg (show ¬ (((x, (0 : Int)).1.length : Int) > 2 * ((binN l.length : Nat) : Int)) by show ¬ ((x.length : Int) > _); omega), if_pos (by omega), Int.toNat_natCast, root_f (small_take hs _), Option.bind_some]
    show (digest_VerifyExtension.f (rootF (l.take i)) (i : Int) (rootF l) (l.length : Int) x).bind _ = _
    rw [v1, Option.bind_some, if_pos rfl]
    have hw2 : wrap64 ((i : Int) + 1) = ((i + 1 : Nat) : Int) := by unfold wrap64; omega
    rw [hw2]
    exact ih (i + 1) k (by omega) (by omega)
theorem sane_up : ∀ n, clearwaylaw02_sane.f (200 + n) = some true := by
  intro n
  induction n with
  | zero => exact sane_f
  | succ n ih => exact clearwaylaw02_sane.mono (200 + n) _ ih
theorem eacc_f (l0 : List ByteArray) (a1 : Int) : ∃ k, clearwaylaw02_DigestExtensionAccepted.f k l0 a1 = some true := by
  refine ⟨1000, ?_⟩
  have sane1000 : clearwaylaw02_sane.f 1000 = some true := sane_up 800
  obtain ⟨l, hl, hll, hls⟩ := few_f l0 25 1000 (by decide) (by decide)
  have hl' : clearwaylaw02_few.f 1000 l0 25 = some l := hl
  have sl : small l = true := small_of 25 hll (by decide) hls
  unfold clearwaylaw02_DigestExtensionAccepted.f
  rw [sane1000, Option.bind_some, hl', Option.bind_some, root_f sl, Option.bind_some]
  exact eacc_loop l sl hll a1 (l.length + 1) 0 1000 (by omega) (by omega)
theorem eaccepted (A0 : Option Addr) (n0 c0 : Nat) (l0 : List ByteArray) (a1 : Int) (w : World)
    (w0 : l0.length = n0 ∧ n0 ≤ c0 ∧ c0 ≤ maxLen ∧ Kd.C Kd.string w A0 n0 l0 ∧ ∀ x ∈ l0, x.size ≤ maxLen) (w1 : (Lit.int .i64 a1).wf = true) (hG : Amb w) :
    Calls Tryd.prog 6 #[.slice A0 n0 c0, .int .i64 a1] w fun e w' => e = .returned (.bool true) ∧ Below w.heap.size w w' := by
  obtain ⟨rfl, h1, _, k1, _⟩ := w0
  obtain ⟨k, hk⟩ := eacc_f l0 a1
  exact clearwaylaw02_DigestExtensionAccepted.calls k A0 c0 l0 a1 true w k1 h1 hG hk
end Go.Proofs.YtjkdenldddjcnaaDoor.Sha

