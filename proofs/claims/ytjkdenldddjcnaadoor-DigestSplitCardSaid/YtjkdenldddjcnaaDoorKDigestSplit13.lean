/- The contracts of functions, written by this session's program (wip/pp.py): what the list functions answer, the code comes to. No condition. Plain law of DigestExtensionBinding: the strings of two extension proofs that come to the same root. No condition but bounds on lengths. Plain laws of the root of a list: it is the node of the roots of its two parts; extensions and proofs of a list climb to its root. No condition but bounds on lengths. Plain laws of Extension: what the printed list functions answer. Conditions: at most 1,000,000 strings, of at most 2^39 bytes. The fixed examples of layer 2 hold: what 'sane' computes is true. No condition. Extension and Proof, with a row that is only read. No condition. DigestSplit returns true for all arguments: the printed contract joined with the plain law. Condition: none but the sizes that any call has. -/
import Derived.Test.YtjkdenldddjcnaaDoorProg
import Derived.Below
import Derived.Deep.Draws
import Derived.Deep.AppendLies
import Derived.Maps.AppendAt
import Derived.OwnWalk
import Derived.Laws.BytesArg
import Derived.Laws.MakeOwn
import Derived.Laws.OwnMore
import Derived.Deep.OwnRows
import Derived.Tactics
import Derived.Lib.ConvBytes
import Derived.Laws.Slices
import Derived.WalkKit
import Derived.KernelRfl
import Derived.RowKit3
import Derived.Deep.LoopGhost
import Derived.Deep.QuietTactic
import Derived.BigQuiet
import Derived.WideLaws
import Derived.Deep.DeepCutAuto
import Derived.Deep.CutBlock
import Derived.Deep.RegionHeld3
import Derived.Laws.Rows
import Derived.Lib.AppendStr
import Derived.ArgAppend
import Derived.Laws.IdiomCopy
import Derived.OrdersHeld
import Derived.Laws.BitsLemmas
import Derived.RowKit
import Derived.Test.YtjkdenldddjcnaaDoorKDigestSplit9
import Derived.Test.YtjkdenldddjcnaaDoorKDigestSplit12
import Derived.Test.YtjkdenldddjcnaaDoorWWords
import Derived.Test.YtjkdenldddjcnaaDoorWLast
import Derived.Test.YtjkdenldddjcnaaDoorWTab
import Derived.Test.YtjkdenldddjcnaaDoorWQPut
import Derived.Test.YtjkdenldddjcnaaDoorWApart
import Derived.Test.YtjkdenldddjcnaaDoorWArr
import Derived.Test.YtjkdenldddjcnaaDoorWZeros
import Derived.Test.YtjkdenldddjcnaaDoorWFoot
import Derived.Test.YtjkdenldddjcnaaDoorWKept
import Derived.Test.YtjkdenldddjcnaaDoorWShare
import Derived.Test.YtjkdenldddjcnaaDoorWN
import Derived.Test.YtjkdenldddjcnaaDoorWRepsOne
import Derived.Test.YtjkdenldddjcnaaDoorWGuard
import Derived.Test.YtjkdenldddjcnaaDoorWNEv
import Derived.Test.YtjkdenldddjcnaaDoorWMore
import Derived.Test.YtjkdenldddjcnaaDoorKDigestSplit11
namespace Go.Proofs.YtjkdenldddjcnaaDoor.Dh
open Go.RowKit Go.Proofs.YtjkdenldddjcnaaDoor.Sha Go.Proofs.YtjkdenldddjcnaaDoor.Df Go.Proofs.YtjkdenldddjcnaaDoorW.PrintWords Go.Proofs.YtjkdenldddjcnaaDoorW.PrintLast Go.Proofs.YtjkdenldddjcnaaDoorW.PrintMore
attribute [local go_sem] max2_int min2_int max_two min_two max_three min_three max_four min_four   -- for this text's walks alone
set_option linter.unusedVariables false
set_option linter.unusedSimpArgs false



def errW : Option Int → Value
  | none => .nilIface
  | some c => .iface 0 (.int .i64 c)
theorem errW_none : errW none = .nilIface := rfl
theorem errW_some (c : Int) : errW (some c) = .iface 0 (.int .i64 c) := rfl

theorem info9 : (Tryd.prog.info? 9).map (fun i => (i.zero, i.size, i.bytes)) = some (some (.string ⟨#[]⟩), 1, 16) := by kernel_rfl
-- the values' own types

end Go.Proofs.YtjkdenldddjcnaaDoor.Dh

namespace Go.Proofs.YtjkdenldddjcnaaDoor.Dh
open Go.RowKit Go.Proofs.YtjkdenldddjcnaaDoor.Sha Go.Proofs.YtjkdenldddjcnaaDoor.Df Go.Proofs.YtjkdenldddjcnaaDoorW.PrintWords Go.Proofs.YtjkdenldddjcnaaDoorW.PrintLast Go.Proofs.YtjkdenldddjcnaaDoorW.PrintMore
attribute [local go_sem] max2_int min2_int max_two min_two max_three min_three max_four min_four   -- for this text's walks alone
set_option linter.unusedVariables false
set_option linter.unusedSimpArgs false

end Go.Proofs.YtjkdenldddjcnaaDoor.Dh
set_option linter.unusedVariables false
set_option linter.unusedSimpArgs false
namespace Go.Proofs.YtjkdenldddjcnaaDoor.Sha
open Go Go.RowKit Go.Proofs.YtjkdenldddjcnaaDoor.Df Go.Proofs.YtjkdenldddjcnaaDoor.Dh Go.Proofs.YtjkdenldddjcnaaDoorW.PrintWords Go.Proofs.YtjkdenldddjcnaaDoorW.PrintLast Go.Proofs.YtjkdenldddjcnaaDoorW.PrintMore

theorem up_cons (x : ByteArray) (b : Bool) (way : Way) (s : ByteArray) : upF ((x, b) :: way) s = upF way (joinF (x, b) s) := by unfold upF; rw [List.foldl_cons]
theorem upE_cons (x : ByteArray) (b : Bool) (way : Way) (s : ByteArray) : upE ((x, b) :: way) s = upE way (joinE (x, b) s) := by unfold upE; rw [List.foldl_cons]
theorem joinF_t (x s : ByteArray) : joinF (x, true) s = nodeF x s := by rw [joinF, if_pos rfl]
theorem joinF_f (x s : ByteArray) : joinF (x, false) s = nodeF s x := by rw [joinF, if_neg (by simp)]
theorem joinE_t (x s : ByteArray) : joinE (x, true) s = nodeF x s := by rw [joinE, if_pos rfl, joinF_t]
theorem joinE_f (x s : ByteArray) : joinE (x, false) s = s := by rw [joinE, if_neg (by simp)]
end Go.Proofs.YtjkdenldddjcnaaDoor.Sha

set_option linter.unusedVariables false
set_option linter.unusedSimpArgs false
namespace Go.Proofs.YtjkdenldddjcnaaDoor.Sha
open Go Go.RowKit Go.Proofs.YtjkdenldddjcnaaDoor.Df Go.Proofs.YtjkdenldddjcnaaDoorW.PrintWords Go.Proofs.YtjkdenldddjcnaaDoorW.PrintLast Go.Proofs.YtjkdenldddjcnaaDoorW.PrintMore

theorem merge_fuel : ∀ (k k' : Nat) (st : St), st.length ≤ k → st.length ≤ k' → mergeF k st = mergeF k' st := by
  intro k
  induction k with
  | zero =>
    intro k' st h h'
    have : st = [] := List.length_eq_zero_iff.1 (by omega)
    subst this
    cases k' <;> simp [mergeF]
  | succ k ih =>
    intro k' st h h'
    cases k' with
    | zero =>
      have : st = [] := List.length_eq_zero_iff.1 (by omega)
      subst this
      simp [mergeF]
    | succ k' =>
      match st, h, h' with
      | [], _, _ => simp [mergeF]
      | [p], _, _ => simp [mergeF]
      | (b, s) :: (a, t) :: r, h, h' =>
        simp only [mergeF]
        split
        · exact ih _ _ (by simp at h ⊢; omega) (by simp at h' ⊢; omega)
        · rfl
theorem merge_bottom (x : ByteArray) (s : Nat) : ∀ (k : Nat) (st : St), st ≠ [] → (st.map (·.2)).sum < s → mergeF k (st ++ [(x, s)]) = mergeF k st ++ [(x, s)] := by
  intro k
  induction k with
  | zero => intro st _ _; rfl
  | succ k ih =>
    intro st hne hs
    match st, hne, hs with
    | [(b, u)], _, hs =>
      simp only [List.cons_append, List.nil_append, mergeF]
      rw [if_neg (by simp at hs; omega)]
    | (b, u) :: (a, t) :: r, _, hs =>
      simp only [List.cons_append, mergeF]
      split
      · have := ih ((nodeF a b, 2 * u) :: r) (by simp) (by simp at hs ⊢; omega)
        simpa using this
      · rfl
theorem step_good {st : St} {i : Nat} (h : Good st i) (x : ByteArray) : Good (stepF st x) (i + 1) := Good.mergeF _ (h.leaf x)
theorem fold_bottom (x : ByteArray) (s : Nat) : ∀ (l : List ByteArray) (st : St) (i : Nat), Good st i → i + l.length < s → l.foldl stepF (st ++ [(x, s)]) = l.foldl stepF st ++ [(x, s)] := by
  intro l
  induction l with
  | nil => intro st i _ _; rfl
  | cons y l ih =>
    intro st i hg hs
    simp only [List.length_cons] at hs
    rw [List.foldl_cons, List.foldl_cons]
    have e : stepF (st ++ [(x, s)]) y = stepF st y ++ [(x, s)] := by
      unfold stepF
      have h1 := merge_bottom x s ((st ++ [(x, s)]).length + 1) ((leafF y, 1) :: st) (by simp) (by have := hg.sum; simp; omega)
      rw [List.cons_append] at h1
      rw [h1, merge_fuel _ (st.length + 1) ((leafF y, 1) :: st) (by simp) (by simp)]
    rw [e]
    exact ih _ (i + 1) (step_good hg y) (by omega)
theorem root_one (x : ByteArray) : rootF [x] = leafF x := by
  unfold rootF foldF
  rw [List.foldl_cons, List.foldl_nil]
  simp [stepF, mergeF, endF]
theorem merge_apart (k : Nat) (x : ByteArray) (s : Nat) (st : St) (h : ∀ p ∈ st.head?, p.2 ≠ s) : mergeF k ((x, s) :: st) = (x, s) :: st := by
  cases k with
  | zero => rfl
  | succ k =>
    match st, h with
    | [], _ => simp [mergeF]
    | (a, t) :: r, h =>
      simp only [mergeF]
      rw [if_neg (h (a, t) (by simp))]
theorem fold_full : ∀ (e : Nat) (l : List ByteArray), l.length = 2 ^ e → ∀ st : St, (∀ p ∈ st.head?, 2 ^ e ≤ p.2) → l.foldl stepF st = mergeF (st.length + 1) ((rootF l, 2 ^ e) :: st) := by
  intro e
  induction e with
  | zero =>
    intro l hl st _
    match l, hl with
    | [x], _ => rw [root_one, List.foldl_cons, List.foldl_nil]; rfl
  | succ e ih =>
    intro l hl st hst
    have hp : 0 < 2 ^ e := Nat.two_pow_pos e
    have h2 : 2 ^ (e + 1) = 2 * 2 ^ e := by rw [Nat.pow_succ]; omega
    have hla : (l.take (2 ^ e)).length = 2 ^ e := by rw [List.length_take]; omega
    have hlb : (l.drop (2 ^ e)).length = 2 ^ e := by rw [List.length_drop]; omega
    have key : ∀ st : St, (∀ p ∈ st.head?, 2 ^ (e + 1) ≤ p.2) → l.foldl stepF st = mergeF (st.length + 1) ((nodeF (rootF (l.take (2 ^ e))) (rootF (l.drop (2 ^ e))), 2 ^ (e + 1)) :: st) := by
      intro st hst
      have h1 : l.foldl stepF st = (l.drop (2 ^ e)).foldl stepF ((l.take (2 ^ e)).foldl stepF st) := by rw [← List.foldl_append, List.take_append_drop]
      rw [h1, ih _ hla st (fun p hp' => by have := hst p hp'; omega), merge_apart _ _ _ _ (fun p hp' => by have := hst p hp'; omega), ih _ hlb _ (fun p hp' => by simp at hp'; subst hp'; simp)]
      rw [List.length_cons]
      show (if 2 ^ e = 2 ^ e then mergeF (st.length + 1) ((nodeF (rootF (l.take (2 ^ e))) (rootF (l.drop (2 ^ e))), 2 * 2 ^ e) :: st) else _) = _
      rw [if_pos rfl, h2]
    have hr : rootF l = nodeF (rootF (l.take (2 ^ e))) (rootF (l.drop (2 ^ e))) := by
      have h3 := key [] (fun p hp' => by simp at hp')
      have h4 : foldF l = mergeF 1 [(nodeF (rootF (l.take (2 ^ e))) (rootF (l.drop (2 ^ e))), 2 ^ (e + 1))] := h3
      unfold rootF
      rw [h4]
      simp [mergeF, endF]
      rfl
    rw [key st hst, hr]
theorem foldF_full (e : Nat) (l : List ByteArray) (h : l.length = 2 ^ e) : foldF l = [(rootF l, 2 ^ e)] := by
  have h1 := fold_full e l h [] (fun p hp => by simp at hp)
  have h2 : foldF l = mergeF 1 [(rootF l, 2 ^ e)] := h1
  rw [h2]
  simp [mergeF]
theorem end_cons (x : ByteArray) (s : Nat) (r : St) : endF ((x, s) :: r) = r.foldl (fun out p => nodeF p.1 out) x := rfl
theorem end_bottom (x : ByteArray) (s : Nat) : ∀ (st : St), st ≠ [] → endF (st ++ [(x, s)]) = nodeF x (endF st) := by
  intro st h
  match st, h with
  | (y, t) :: r, _ =>
    rw [List.cons_append, end_cons, end_cons, List.foldl_append]
    rfl
theorem root_split (l : List ByteArray) (b : Nat) (h1 : 2 ^ b < l.length) (h2 : l.length ≤ 2 ^ (b + 1)) : rootF l = nodeF (rootF (l.take (2 ^ b))) (rootF (l.drop (2 ^ b))) := by
  rw [Nat.pow_succ] at h2
  have hla : (l.take (2 ^ b)).length = 2 ^ b := by rw [List.length_take]; omega
  have hld : (l.drop (2 ^ b)).length = l.length - 2 ^ b := by rw [List.length_drop]
  have h3 : foldF l = (l.drop (2 ^ b)).foldl stepF [(rootF (l.take (2 ^ b)), 2 ^ b)] := by
    rw [← foldF_full b _ hla]
    unfold foldF
    rw [← List.foldl_append, List.take_append_drop]
  by_cases hq : (l.drop (2 ^ b)).length = 2 ^ b
  · rw [fold_full b _ hq _ (fun p hp => by simp at hp; subst hp; simp)] at h3
    have h4 : foldF l = [(nodeF (rootF (l.take (2 ^ b))) (rootF (l.drop (2 ^ b))), 2 * 2 ^ b)] := by
      rw [h3]
      simp [mergeF]
    show endF (foldF l) = _
    rw [h4]
    rfl
  · have hg : Good ([] : St) 0 := ⟨fun p hp => (by cases hp), rfl⟩
    have h4 := fold_bottom (rootF (l.take (2 ^ b))) (2 ^ b) (l.drop (2 ^ b)) [] 0 hg (by omega)
    rw [List.nil_append] at h4
    rw [h4] at h3
    have hg2 := foldF_good (l.drop (2 ^ b)) [] 0 hg
    have hne : (l.drop (2 ^ b)).foldl stepF [] ≠ [] := by
      intro hn
      have := hg2.sum
      rw [hn] at this
      simp at this
      omega
    show endF (foldF l) = _
    rw [h3, end_bottom _ _ _ hne]
    rfl
theorem left_unique (n b : Nat) (h1 : 2 ^ b < n) (h2 : n ≤ 2 ^ (b + 1)) (h3 : n ≤ 9223372036854775807) : leftN n = 2 ^ b := by
  have hp : 0 < 2 ^ b := Nat.two_pow_pos b
  obtain ⟨c, hc, _, h4, h5⟩ := left_exp n (by omega) h3
  rw [hc]
  have : b = c := by
    rcases Nat.lt_trichotomy b c with h | h | h
    · have := Nat.pow_le_pow_right (show 0 < 2 by decide) (show b + 1 ≤ c by omega); omega
    · exact h
    · have := Nat.pow_le_pow_right (show 0 < 2 by decide) (show c + 1 ≤ b by omega); omega
  rw [this]
theorem root_left (l : List ByteArray) (h : 2 ≤ l.length) (h3 : l.length ≤ 9223372036854775807) : rootF l = nodeF (rootF (l.take (leftN l.length))) (rootF (l.drop (leftN l.length))) := by
  obtain ⟨b, hb, _, h4, h5⟩ := left_exp l.length h h3
  rw [hb]
  exact root_split l b h4 h5
theorem left_same (n m : Nat) (h : 2 ≤ n) (h3 : n ≤ 9223372036854775807) (h1 : leftN n < m) (h2 : m ≤ n) : leftN m = leftN n := by
  obtain ⟨b, hb, _, h4, h5⟩ := left_exp n h h3
  rw [hb] at h1 ⊢
  exact left_unique m b h1 (by omega) (by omega)
theorem end_size : ∀ (st : St) (i : Nat), Good st i → (endF st).size = 32 := by
  intro st i h
  match st, h with
  | [], _ => exact sumF_size _
  | (x, s) :: r, h =>
    rw [end_cons]
    exact fold_size (fun p : ByteArray × Nat => p.1) r x (h.h (x, s) List.mem_cons_self).1
theorem root_size (l : List ByteArray) : (rootF l).size = 32 := end_size _ _ (foldF_good l [] 0 ⟨fun p hp => (by cases hp), rfl⟩)
/-- What Extension pushes: the roots along the path, and at last the root of the part, if it is not a begin of the whole. -/
def extP : Nat → List ByteArray → Nat → Bool → List ByteArray
  | 0, _, _, _ => []
  | f + 1, l, m, wh => if m < l.length then (if leftN l.length < m then rootF (l.take (leftN l.length)) :: extP f (l.drop (leftN l.length)) (m - leftN l.length) false else rootF (l.drop (leftN l.length)) :: extP f (l.take (leftN l.length)) m wh) else if wh = true then [] else [rootF l]
theorem extP_size : ∀ (f : Nat) (l : List ByteArray) (m : Nat) (wh : Bool), ∀ x ∈ extP f l m wh, x.size = 32 := by
  intro f
  induction f with
  | zero => intro l m wh x hx; cases hx
  | succ f ih =>
    intro l m wh x hx
    rw [extP] at hx
    split at hx
    · split at hx
      · rcases List.mem_cons.1 hx with rfl | hx
        · exact root_size _
        · exact ih _ _ _ x hx
      · rcases List.mem_cons.1 hx with rfl | hx
        · exact root_size _
        · exact ih _ _ _ x hx
    · split at hx
      · cases hx
      · rw [List.mem_singleton.1 hx]; exact root_size _
theorem ext_desc : ∀ (f : Nat) (l : List ByteArray) (m : Nat) (wh : Bool) (way : Way), 1 ≤ m → m ≤ l.length → l.length ≤ f → l.length ≤ 9223372036854775807 →
    ∃ way' tail u e, descE (extP f l m wh) m l.length wh way = some (way', tail, u) ∧ (u = true ∧ wh = true ∧ tail = [] ∧ e = rootF (l.take m) ∨ u = false ∧ tail = [e]) ∧ upF way' e = upF way (rootF l) ∧ upE way' e = upE way (rootF (l.take m)) := by
  intro f
  induction f with
  | zero => intro l m wh way h1 h2 h3 _; omega
  | succ f ih =>
    intro l m wh way h1 h2 h3 h4
    rw [extP]
    by_cases hm : m < l.length
    · rw [if_pos hm]
      have hlt := leftN_lt l.length (by omega) h4
      have hrl := root_left l (by omega) h4
      by_cases hk : leftN l.length < m
      · rw [if_pos hk]
        obtain ⟨way', tail, u, e, g1, g2, g3, g4⟩ := ih (l.drop (leftN l.length)) (m - leftN l.length) false ((rootF (l.take (leftN l.length)), true) :: way) (by omega) (by rw [List.length_drop]; omega) (by rw [List.length_drop]; omega) (by rw [List.length_drop]; omega)
        rw [List.length_drop] at g1
        refine ⟨way', tail, u, e, ?_, ?_, ?_, ?_⟩
        · rw [descE, if_neg (by omega), if_pos hk]; exact g1
        · rcases g2 with ⟨_, h, _⟩ | g2
          · cases h
          · exact .inr g2
        · rw [g3, up_cons, joinF_t, hrl]
        · rw [g4, upE_cons, joinE_t]
          have hlm : (l.take m).length = m := by rw [List.length_take]; omega
          have e1 := root_left (l.take m) (by omega) (by omega)
          rw [hlm, left_same l.length m (by omega) h4 hk h2, List.take_take, Nat.min_eq_left (by omega), List.drop_take] at e1
          rw [e1]
      · rw [if_neg hk]
        have hll : (l.take (leftN l.length)).length = leftN l.length := by rw [List.length_take]; omega
        obtain ⟨way', tail, u, e, g1, g2, g3, g4⟩ := ih (l.take (leftN l.length)) m wh ((rootF (l.drop (leftN l.length)), false) :: way) h1 (by omega) (by omega) (by omega)
        rw [hll] at g1
        rw [List.take_take, Nat.min_eq_left (by omega)] at g2 g4
        refine ⟨way', tail, u, e, ?_, g2, ?_, ?_⟩
        · rw [descE, if_neg (by omega), if_neg hk]; exact g1
        · rw [g3, up_cons, joinF_f, hrl]
        · rw [g4, upE_cons, joinE_f]
    · rw [if_neg hm]
      have hml : m = l.length := by omega
      have htk : l.take m = l := by rw [hml, List.take_length]
      cases wh with
      | true =>
        rw [if_pos rfl]
        refine ⟨way, [], true, rootF l, ?_, .inl ⟨rfl, rfl, rfl, by rw [htk]⟩, rfl, by rw [htk]⟩
        rw [descE, if_pos (by omega)]
      | false =>
        rw [if_neg (by simp)]
        refine ⟨way, [rootF l], false, rootF l, ?_, .inr ⟨rfl, rfl⟩, rfl, by rw [htk]⟩
        rw [descE, if_pos (by omega)]
theorem all32_of {l : List ByteArray} (h : ∀ x ∈ l, x.size = 32) : all32 l = true := by
  unfold all32
  rw [List.all_eq_true]
  intro x hx
  rw [beq_iff_eq, h x hx]
  rfl
theorem beq_same (a : ByteArray) : (a == a) = true := by rw [beq_toListBytes]; simp
theorem size_beq {a : ByteArray} (h : a.size = 32) : ((a.size : Int) == 32) = true := by rw [beq_iff_eq, h]; rfl
theorem endE_t (old root : ByteArray) (way : Way) (pr : List ByteArray) : endE old root (some (way, pr, true)) = (pr.isEmpty && (upE way old == old) && (upF way old == root)) := rfl
theorem endE_f (old root y : ByteArray) (way : Way) : endE old root (some (way, [y], false)) = ((upE way y == old) && (upF way y == root)) := rfl
/-- The extension of a list's begin is accepted. -/
theorem ext_accept (l : List ByteArray) (m f : Nat) (hm : m ≤ l.length) (hf : l.length ≤ f) (hl : l.length ≤ 9223372036854775807) :
    verifyEF (rootF (l.take m)) (m : Int) (rootF l) (l.length : Int) (if m = 0 then [] else (extP f l m true).reverse) = true := by
  have h32 : all32 (if m = 0 then [] else (extP f l m true).reverse) = true := by
    apply all32_of
    intro x hx
    split at hx
    · cases hx
    · exact extP_size f l m true x (List.mem_reverse.1 hx)
  unfold verifyEF
  rw [if_neg (by omega), if_neg (by omega), if_neg (by rw [h32]; decide), if_neg (by rw [size_beq (root_size _)]; decide), if_neg (by rw [size_beq (root_size _)]; decide)]
  by_cases h0 : m = 0
  · subst h0
    rw [if_pos rfl, if_pos (show ((0 : Nat) : Int) = 0 from rfl)]
    have : rootF (l.take 0) = sumF ⟨#[]⟩ := rfl
    rw [this, beq_same]
    rfl
  · rw [if_neg (by omega), if_neg h0]
    by_cases h1 : m = l.length
    · rw [if_pos (by omega)]
      have hx : extP f l m true = [] := by
        cases f with
        | zero => rfl
        | succ f => rw [extP, if_neg (by omega), if_pos rfl]
      rw [hx, h1, List.take_length, beq_same]
      rfl
    · rw [if_neg (by omega), List.reverse_reverse, Int.toNat_natCast, Int.toNat_natCast]
      obtain ⟨way', tail, u, e, g1, g2, g3, g4⟩ := ext_desc f l m true [] (by omega) hm hf hl
      rw [g1]
      have u1 : ∀ s, upF [] s = s := fun _ => rfl
      have u2 : ∀ s, upE [] s = s := fun _ => rfl
      rw [u1] at g3
      rw [u2] at g4
      rcases g2 with ⟨rfl, _, rfl, rfl⟩ | ⟨rfl, rfl⟩
      · rw [endE_t, g3, g4, beq_same, beq_same]
        rfl
      · rw [endE_f]
        rw [g3, g4, beq_same, beq_same]
        rfl
end Go.Proofs.YtjkdenldddjcnaaDoor.Sha

set_option linter.unusedVariables false
set_option linter.unusedSimpArgs false
namespace Go.Proofs.YtjkdenldddjcnaaDoor.Sha
open Go Go.RowKit Go.Proofs.YtjkdenldddjcnaaDoor.Df Go.Proofs.YtjkdenldddjcnaaDoorW.PrintWords Go.Proofs.YtjkdenldddjcnaaDoorW.PrintLast Go.Proofs.YtjkdenldddjcnaaDoorW.PrintMore

theorem small_iff (l : List ByteArray) : small l = true ↔ l.length ≤ 1000000 ∧ ∀ s ∈ l, s.size ≤ 549755813888 := by
  unfold small
  rw [Bool.and_eq_true, decide_eq_true_iff, List.all_eq_true]
  constructor
  · rintro ⟨h1, h2⟩
    exact ⟨h1, fun s hs => of_decide_eq_true (h2 s hs)⟩
  · rintro ⟨h1, h2⟩
    exact ⟨h1, fun s hs => decide_eq_true (h2 s hs)⟩
theorem small_take {l : List ByteArray} (h : small l = true) (k : Nat) : small (l.take k) = true := by
  rw [small_iff] at h ⊢
  exact ⟨by rw [List.length_take]; omega, fun s hs => h.2 s (List.mem_of_mem_take hs)⟩
theorem small_drop {l : List ByteArray} (h : small l = true) (k : Nat) : small (l.drop k) = true := by
  rw [small_iff] at h ⊢
  exact ⟨by rw [List.length_drop]; omega, fun s hs => h.2 s (List.mem_of_mem_drop hs)⟩
theorem root_f {l : List ByteArray} (h : small l = true) : digest_Root.f l = some (rootF l) := by unfold digest_Root.f; rw [if_pos h]
theorem small_of {l : List ByteArray} (n : Nat) (h : l.length ≤ n) (hn : n ≤ 1000000) (h2 : ∀ s ∈ l, s.size ≤ 60) : small l = true := by
  rw [small_iff]
  exact ⟨by omega, fun s hs => by have := h2 s hs; omega⟩
theorem digleft_f (n : Nat) (h : 2 ≤ n) (h2 : n ≤ 9223372036854775807) : digest_left.f (n : Int) = some (leftN n : Int) := by
  unfold digest_left.f
  rw [if_pos ⟨by omega, by omega⟩, Int.toNat_natCast]
theorem reverse_loop : ∀ (k : Nat) (A M B : List ByteArray), M.length < k → (A ++ (M ++ B)).length ≤ 1000000000 → slices_Reverse_string_string.l0 k (A ++ (M ++ B)) (A.length : Int) ((A.length : Int) + (M.length : Int) - 1) = some (A ++ (M.reverse ++ B)) := by
  intro k
  induction k with
  | zero => intro A M B h; omega
  | succ k ih =>
    intro A M B h hl
    rw [slices_Reverse_string_string.l0]
    match M, h, hl with
    | [], _, _ => rw [if_neg (by simp; omega)]; rfl
    | [x], _, _ => rw [if_neg (by simp)]; rfl
    | x :: z :: R, h, hl =>
      obtain ⟨M', y, hM⟩ : ∃ M' y, z :: R = M' ++ [y] := ⟨(z :: R).dropLast, (z :: R).getLast (List.cons_ne_nil _ _), (List.dropLast_concat_getLast (List.cons_ne_nil _ _)).symm⟩
      rw [hM] at h hl ⊢
      have e0 : A ++ (x :: (M' ++ [y]) ++ B) = A ++ (x :: (M' ++ (y :: B))) := by simp
      rw [e0] at hl ⊢
      have hlen : ((x :: (M' ++ [y])).length : Int) = (M'.length : Int) + 2 := by simp; omega
      have hll : ((A ++ (x :: (M' ++ (y :: B)))).length : Int) = (A.length : Int) + (M'.length : Int) + (B.length : Int) + 2 := by simp; omega
      have hh : A.length + M'.length + B.length + 2 ≤ 1000000000 := by omega
      rw [hlen, hll, if_pos (by omega), if_pos (by omega), if_pos (by omega), if_pos (by omega), if_pos (by omega)]
      have i1 : (A.length : Int) + ((M'.length : Int) + 2) - 1 = ((A.length + (M'.length + 1) : Nat) : Int) := by omega
      rw [i1]
      have r1 : rdOf ByteArray.empty (A ++ (x :: (M' ++ (y :: B)))) ((A.length + (M'.length + 1) : Nat) : Int) = y := rdOf_at (by
        rw [List.getElem?_append_right (by omega), Nat.add_sub_cancel_left, List.getElem?_cons_succ, List.getElem?_append_right (Nat.le_refl _), Nat.sub_self, List.getElem?_cons_zero])
      have r2 : rdOf ByteArray.empty (A ++ (x :: (M' ++ (y :: B)))) (A.length : Int) = x := rdOf_at (by
        rw [List.getElem?_append_right (Nat.le_refl _), Nat.sub_self, List.getElem?_cons_zero])
      rw [r1, r2, Int.toNat_natCast, Int.toNat_natCast]
      have h1 : (A ++ (x :: (M' ++ (y :: B)))).set A.length y = A ++ (y :: (M' ++ (y :: B))) := by
        rw [List.set_append_right _ _ (Nat.le_refl _), Nat.sub_self, List.set_cons_zero]
      have h2 : (A ++ (y :: (M' ++ (y :: B)))).set (A.length + (M'.length + 1)) x = A ++ (y :: (M' ++ (x :: B))) := by
        rw [List.set_append_right _ _ (by omega), Nat.add_sub_cancel_left, List.set_cons_succ, List.set_append_right _ _ (Nat.le_refl _), Nat.sub_self, List.set_cons_zero]
      rw [h1, h2]
      have h3 : A ++ (y :: (M' ++ (x :: B))) = (A ++ [y]) ++ (M' ++ (x :: B)) := by simp
      have w1 : wrap64 ((A.length : Int) + 1) = ((A ++ [y]).length : Int) := by unfold wrap64; simp; omega
      have w2 : wrap64 (((A.length + (M'.length + 1) : Nat) : Int) - 1) = ((A ++ [y]).length : Int) + (M'.length : Int) - 1 := by unfold wrap64; simp; omega
      rw [h3, w1, w2, ih (A ++ [y]) M' (x :: B) (by simp at h; omega) (by simp; omega)]
      simp
theorem reverse_f (l : List ByteArray) (k : Nat) (h : l.length < k) (hl : l.length ≤ 1000000000) : slices_Reverse_string_string.f k l = some l.reverse := by
  unfold slices_Reverse_string_string.f
  have := reverse_loop k [] l [] h (by simpa using hl)
  simp only [List.nil_append, List.append_nil, List.length_nil] at this
  rw [show wrap64 ((l.length : Int) - 1) = ((0 : Nat) : Int) + (l.length : Int) - 1 by unfold wrap64; omega]
  exact this
theorem ext_l0 : ∀ (f : Nat) (l : List ByteArray) (m : Nat) (wh : Bool) (acc : List ByteArray) (k : Nat), 1 ≤ m → m ≤ l.length → l.length ≤ f → small l = true → acc.length + f ≤ 2000000 → acc.length + 2 * f + 5 < k →
    digest_Extension.l0 k l (m : Int) acc wh = some ((acc ++ extP f l m wh).reverse, 0) := by
  intro f
  induction f with
  | zero => intro l m wh acc k h1 h2 h3; omega
  | succ f ih =>
    intro l m wh acc k h1 h2 h3 h4 h5 h6
    have hsl := (small_iff l).1 h4
    obtain ⟨k, rfl⟩ : ∃ j, k = j + 1 := ⟨k - 1, by omega⟩
    rw [digest_Extension.l0, extP]
    by_cases hm : m < l.length
    · have hlt := leftN_lt l.length (by omega) (by omega)
      rw [if_pos (by omega), if_pos hm, digleft_f _ (by omega) (by omega), Option.bind_some, if_pos (by omega), if_pos (by omega), Option.bind_some, Option.bind_some, Int.toNat_natCast]
      by_cases hk : leftN l.length < m
      · have hw : wrap64 ((m : Int) - (leftN l.length : Int)) = ((m - leftN l.length : Nat) : Int) := by unfold wrap64; omega
        rw [if_pos (show (m : Int) > (leftN l.length : Int) by omega), if_pos hk, root_f (small_take h4 _), Option.bind_some, if_pos (by omega), hw]
        rw [ih (l.drop (leftN l.length)) _ false _ k (by omega) (by rw [List.length_drop]; omega) (by rw [List.length_drop]; omega) (small_drop h4 _) (by simp; omega) (by simp; omega)]
        simp
      · rw [if_neg (show ¬((m : Int) > (leftN l.length : Int)) by omega), if_neg hk, root_f (small_drop h4 _), Option.bind_some, if_pos (by omega)]
        rw [ih (l.take (leftN l.length)) _ wh _ k h1 (by rw [List.length_take]; omega) (by rw [List.length_take]; omega) (small_take h4 _) (by simp; omega) (by simp; omega)]
        simp
    · rw [if_neg (by omega), if_neg hm]
      cases wh with
      | true =>
        rw [if_pos rfl, if_pos rfl, reverse_f _ _ (by omega) (by omega)]
        simp
      | false =>
        rw [if_neg (by decide), if_neg (by decide), root_f h4, Option.bind_some, if_pos (by omega), reverse_f _ _ (by simp; omega) (by simp; omega)]
        simp
/-- What Extension answers. -/
theorem ext_f (l : List ByteArray) (m k : Nat) (hm : m ≤ l.length) (hs : small l = true) (hk : 2 * l.length + 10 < k) : digest_Extension.f k l (m : Int) = some (if m = 0 then [] else (extP l.length l m true).reverse, 0) := by
  have hsl := (small_iff l).1 hs
  obtain ⟨k, rfl⟩ : ∃ j, k = j + 1 := ⟨k - 1, by omega⟩
  unfold digest_Extension.f
  rw [if_neg (by omega), digest_Extension.j0, if_neg (by simp; omega)]
  by_cases h0 : m = 0
  · rw [if_pos (by omega), if_pos h0]
  · rw [if_neg (by omega), if_neg h0, ext_l0 l.length l m true [] k (by omega) hm (Nat.le_refl _) hs (by simp; omega) (by simp; omega)]
    rfl
theorem extP_length : ∀ (b f : Nat) (l : List ByteArray) (m : Nat) (wh : Bool), l.length ≤ 2 ^ b → l.length ≤ 1000000 → 1 ≤ m → m ≤ l.length → (extP f l m wh).length ≤ b + 1 := by
  intro b
  induction b with
  | zero =>
    intro f l m wh h h0 h1 h2
    cases f with
    | zero => simp [extP]
    | succ f =>
      rw [extP, if_neg (by simp at h; omega)]
      split <;> simp
  | succ b ih =>
    intro f l m wh h h0 h1 h2
    cases f with
    | zero => simp [extP]
    | succ f =>
      rw [extP]
      by_cases hm : m < l.length
      · rw [if_pos hm]
        obtain ⟨c, hc, _, h4, h5⟩ := left_exp l.length (by omega) (by omega)
        rw [Nat.pow_succ] at h5
        have hcb : 2 ^ c ≤ 2 ^ b := by
          apply Nat.pow_le_pow_right (by decide)
          rcases Nat.lt_or_ge b c with hh | hh
          · have := Nat.pow_le_pow_right (show 0 < 2 by decide) (show b + 1 ≤ c by omega); omega
          · exact hh
        split
        · rename_i hk
          have := ih f (l.drop (leftN l.length)) (m - leftN l.length) false (by rw [List.length_drop]; omega) (by rw [List.length_drop]; omega) (by omega) (by rw [List.length_drop]; omega)
          simp; omega
        · rename_i hk
          have := ih f (l.take (leftN l.length)) m wh (by rw [List.length_take]; omega) (by rw [List.length_take]; omega) (by omega) (by rw [List.length_take]; omega)
          simp; omega
      · rw [if_neg hm]
        split <;> simp
end Go.Proofs.YtjkdenldddjcnaaDoor.Sha

set_option linter.unusedVariables false
set_option linter.unusedSimpArgs false
namespace Go.Proofs.YtjkdenldddjcnaaDoor.Sha
open Go Go.RowKit Go.Proofs.YtjkdenldddjcnaaDoor.Df Go.Proofs.YtjkdenldddjcnaaDoorW.PrintWords Go.Proofs.YtjkdenldddjcnaaDoorW.PrintLast Go.Proofs.YtjkdenldddjcnaaDoorW.PrintMore
set_option maxRecDepth 100000
set_option maxRecDepth 100000 in
theorem dsn1 : digest_Proof.f 200 [(⟨#[97]⟩ : ByteArray), (⟨#[98]⟩ : ByteArray), (⟨#[99]⟩ : ByteArray)] 2 = some ([(⟨#[177, 55, 152, 95, 244, 132, 251, 96, 13, 185, 49, 7, 199, 123, 3, 101, 200, 13, 120, 245, 180, 41, 222, 208, 253, 151, 54, 29, 7, 121, 153, 235]⟩ : ByteArray)], 0) := by kernel_rfl
set_option maxRecDepth 100000 in
theorem dsn2 : digest_Extension.f 200 [(⟨#[97]⟩ : ByteArray), (⟨#[98]⟩ : ByteArray), (⟨#[99]⟩ : ByteArray)] 1 = some ([(⟨#[87, 235, 53, 97, 93, 71, 243, 78, 199, 20, 202, 205, 245, 253, 116, 96, 138, 94, 142, 16, 39, 36, 232, 11, 36, 178, 135, 192, 194, 123, 106, 49]⟩ : ByteArray), (⟨#[89, 127, 203, 49, 40, 45, 52, 101, 76, 32, 13, 52, 24, 252, 165, 112, 92, 100, 142, 191, 50, 110, 199, 61, 141, 222, 241, 24, 65, 248, 118, 216]⟩ : ByteArray)], 0) := by kernel_rfl
set_option maxRecDepth 100000 in
theorem dsn3 : digest_Proof.f 200 [(⟨#[97]⟩ : ByteArray), (⟨#[98]⟩ : ByteArray), (⟨#[99]⟩ : ByteArray)] 3 = some ([], 2) := by kernel_rfl
set_option maxRecDepth 100000 in
theorem dsn4 : digest_Root.f [(⟨#[97]⟩ : ByteArray), (⟨#[98]⟩ : ByteArray), (⟨#[99]⟩ : ByteArray)] = some (⟨#[54, 100, 46, 115, 194, 84, 10, 177, 33, 227, 166, 191, 149, 69, 176, 162, 73, 130, 205, 131, 14, 177, 61, 60, 209, 157, 227, 206, 108, 2, 30, 193]⟩ : ByteArray) := by kernel_rfl
set_option maxRecDepth 100000 in
theorem dsn5 : digest_Sum.f (⟨#[]⟩ : ByteArray) = some (⟨#[227, 176, 196, 66, 152, 252, 28, 20, 154, 251, 244, 200, 153, 111, 185, 36, 39, 174, 65, 228, 100, 155, 147, 76, 164, 149, 153, 27, 120, 82, 184, 85]⟩ : ByteArray) := by kernel_rfl
set_option maxRecDepth 100000 in
theorem dsn6 : digest_Sum.f (⟨#[97, 98, 99]⟩ : ByteArray) = some (⟨#[186, 120, 22, 191, 143, 1, 207, 234, 65, 65, 64, 222, 93, 174, 34, 35, 176, 3, 97, 163, 150, 23, 122, 156, 180, 16, 255, 97, 242, 0, 21, 173]⟩ : ByteArray) := by kernel_rfl
set_option maxRecDepth 100000 in
theorem dsn7 : clearwaylaw02_hex.f (⟨#[227, 176, 196, 66, 152, 252, 28, 20, 154, 251, 244, 200, 153, 111, 185, 36, 39, 174, 65, 228, 100, 155, 147, 76, 164, 149, 153, 27, 120, 82, 184, 85]⟩ : ByteArray) = some (⟨#[101, 51, 98, 48, 99, 52, 52, 50, 57, 56, 102, 99, 49, 99, 49, 52, 57, 97, 102, 98, 102, 52, 99, 56, 57, 57, 54, 102, 98, 57, 50, 52, 50, 55, 97, 101, 52, 49, 101, 52, 54, 52, 57, 98, 57, 51, 52, 99, 97, 52, 57, 53, 57, 57, 49, 98, 55, 56, 53, 50, 98, 56, 53, 53]⟩ : ByteArray) := by kernel_rfl
set_option maxRecDepth 100000 in
theorem dsn8 : clearwaylaw02_hex.f (⟨#[186, 120, 22, 191, 143, 1, 207, 234, 65, 65, 64, 222, 93, 174, 34, 35, 176, 3, 97, 163, 150, 23, 122, 156, 180, 16, 255, 97, 242, 0, 21, 173]⟩ : ByteArray) = some (⟨#[98, 97, 55, 56, 49, 54, 98, 102, 56, 102, 48, 49, 99, 102, 101, 97, 52, 49, 52, 49, 52, 48, 100, 101, 53, 100, 97, 101, 50, 50, 50, 51, 98, 48, 48, 51, 54, 49, 97, 51, 57, 54, 49, 55, 55, 97, 57, 99, 98, 52, 49, 48, 102, 102, 54, 49, 102, 50, 48, 48, 49, 53, 97, 100]⟩ : ByteArray) := by kernel_rfl
set_option maxRecDepth 100000 in
theorem dsn9 : digest_Verify.f (⟨#[54, 100, 46, 115, 194, 84, 10, 177, 33, 227, 166, 191, 149, 69, 176, 162, 73, 130, 205, 131, 14, 177, 61, 60, 209, 157, 227, 206, 108, 2, 30, 193]⟩ : ByteArray) 3 2 (⟨#[99]⟩ : ByteArray) [(⟨#[177, 55, 152, 95, 244, 132, 251, 96, 13, 185, 49, 7, 199, 123, 3, 101, 200, 13, 120, 245, 180, 41, 222, 208, 253, 151, 54, 29, 7, 121, 153, 235]⟩ : ByteArray)] = some true := by kernel_rfl
set_option maxRecDepth 100000 in
theorem dsn10 : digest_Verify.f (⟨#[54, 100, 46, 115, 194, 84, 10, 177, 33, 227, 166, 191, 149, 69, 176, 162, 73, 130, 205, 131, 14, 177, 61, 60, 209, 157, 227, 206, 108, 2, 30, 193]⟩ : ByteArray) 3 2 (⟨#[100]⟩ : ByteArray) [(⟨#[177, 55, 152, 95, 244, 132, 251, 96, 13, 185, 49, 7, 199, 123, 3, 101, 200, 13, 120, 245, 180, 41, 222, 208, 253, 151, 54, 29, 7, 121, 153, 235]⟩ : ByteArray)] = some false := by kernel_rfl
set_option maxRecDepth 100000 in
theorem dsn11 : digest_Root.f [(⟨#[97]⟩ : ByteArray)] = some (⟨#[2, 42, 105, 121, 230, 218, 183, 170, 90, 228, 195, 229, 228, 95, 126, 151, 113, 18, 167, 230, 53, 147, 130, 13, 190, 193, 236, 115, 138, 36, 249, 60]⟩ : ByteArray) := by kernel_rfl
set_option maxRecDepth 100000 in
theorem dsn12 : digest_Root.f [(⟨#[97]⟩ : ByteArray), (⟨#[98]⟩ : ByteArray)] = some (⟨#[177, 55, 152, 95, 244, 132, 251, 96, 13, 185, 49, 7, 199, 123, 3, 101, 200, 13, 120, 245, 180, 41, 222, 208, 253, 151, 54, 29, 7, 121, 153, 235]⟩ : ByteArray) := by kernel_rfl
set_option maxRecDepth 100000 in
theorem dsn13 : digest_VerifyExtension.f (⟨#[2, 42, 105, 121, 230, 218, 183, 170, 90, 228, 195, 229, 228, 95, 126, 151, 113, 18, 167, 230, 53, 147, 130, 13, 190, 193, 236, 115, 138, 36, 249, 60]⟩ : ByteArray) 1 (⟨#[54, 100, 46, 115, 194, 84, 10, 177, 33, 227, 166, 191, 149, 69, 176, 162, 73, 130, 205, 131, 14, 177, 61, 60, 209, 157, 227, 206, 108, 2, 30, 193]⟩ : ByteArray) 3 [(⟨#[87, 235, 53, 97, 93, 71, 243, 78, 199, 20, 202, 205, 245, 253, 116, 96, 138, 94, 142, 16, 39, 36, 232, 11, 36, 178, 135, 192, 194, 123, 106, 49]⟩ : ByteArray), (⟨#[89, 127, 203, 49, 40, 45, 52, 101, 76, 32, 13, 52, 24, 252, 165, 112, 92, 100, 142, 191, 50, 110, 199, 61, 141, 222, 241, 24, 65, 248, 118, 216]⟩ : ByteArray)] = some true := by kernel_rfl
set_option maxRecDepth 100000 in
theorem dsn14 : digest_VerifyExtension.f (⟨#[177, 55, 152, 95, 244, 132, 251, 96, 13, 185, 49, 7, 199, 123, 3, 101, 200, 13, 120, 245, 180, 41, 222, 208, 253, 151, 54, 29, 7, 121, 153, 235]⟩ : ByteArray) 1 (⟨#[54, 100, 46, 115, 194, 84, 10, 177, 33, 227, 166, 191, 149, 69, 176, 162, 73, 130, 205, 131, 14, 177, 61, 60, 209, 157, 227, 206, 108, 2, 30, 193]⟩ : ByteArray) 3 [(⟨#[87, 235, 53, 97, 93, 71, 243, 78, 199, 20, 202, 205, 245, 253, 116, 96, 138, 94, 142, 16, 39, 36, 232, 11, 36, 178, 135, 192, 194, 123, 106, 49]⟩ : ByteArray), (⟨#[89, 127, 203, 49, 40, 45, 52, 101, 76, 32, 13, 52, 24, 252, 165, 112, 92, 100, 142, 191, 50, 110, 199, 61, 141, 222, 241, 24, 65, 248, 118, 216]⟩ : ByteArray)] = some false := by kernel_rfl
theorem sane_f : clearwaylaw02_sane.f 200 = some true := by
  unfold clearwaylaw02_sane.f
  rw [Option.bind_some, dsn1, Option.bind_some, dsn2, Option.bind_some, dsn3, Option.bind_some, dsn4, Option.bind_some, dsn5, Option.bind_some, dsn7, Option.bind_some, if_pos (by rw [toList_data]), dsn6, Option.bind_some, dsn8, Option.bind_some]
  rw [show (ByteArray.toList (⟨#[98, 97, 55, 56, 49, 54, 98, 102, 56, 102, 48, 49, 99, 102, 101, 97, 52, 49, 52, 49, 52, 48, 100, 101, 53, 100, 97, 101, 50, 50, 50, 51, 98, 48, 48, 51, 54, 49, 97, 51, 57, 54, 49, 55, 55, 97, 57, 99, 98, 52, 49, 48, 102, 102, 54, 49, 102, 50, 48, 48, 49, 53, 97, 100]⟩ : ByteArray) == [98, 97, 55, 56, 49, 54, 98, 102, 56, 102, 48, 49, 99, 102, 101, 97, 52, 49, 52, 49, 52, 48, 100, 101, 53, 100, 97, 101, 50, 50, 50, 51, 98, 48, 48, 51, 54, 49, 97, 51, 57, 54, 49, 55, 55, 97, 57, 99, 98, 52, 49, 48, 102, 102, 54, 49, 102, 50, 48, 48, 49, 53, 97, 100]) = true by rw [toList_data]; decide]
  rw [clearwaylaw02_sane.j0, if_pos (by decide), if_pos (by decide), if_pos (by decide), if_pos (by decide), clearwaylaw02_sane.j1, if_pos rfl, if_pos (by decide), dsn9, Option.bind_some, if_pos rfl, dsn10, Option.bind_some, if_neg (by decide), if_pos (by decide)]
  rw [show List.take 1 [(⟨#[97]⟩ : ByteArray), (⟨#[98]⟩ : ByteArray), (⟨#[99]⟩ : ByteArray)] = [(⟨#[97]⟩ : ByteArray)] from rfl, dsn11, Option.bind_some, dsn13, Option.bind_some, if_pos rfl, if_pos (by decide), show List.take 2 [(⟨#[97]⟩ : ByteArray), (⟨#[98]⟩ : ByteArray), (⟨#[99]⟩ : ByteArray)] = [(⟨#[97]⟩ : ByteArray), (⟨#[98]⟩ : ByteArray)] from rfl, dsn12, Option.bind_some, dsn14, Option.bind_some]
  rfl
end Go.Proofs.YtjkdenldddjcnaaDoor.Sha

namespace Go.Proofs.YtjkdenldddjcnaaDoor.Di
open Go.RowKit Go.Proofs.YtjkdenldddjcnaaDoor.Sha Go.Proofs.YtjkdenldddjcnaaDoor.Df Go.Proofs.YtjkdenldddjcnaaDoorW.PrintWords Go.Proofs.YtjkdenldddjcnaaDoorW.PrintLast Go.Proofs.YtjkdenldddjcnaaDoorW.PrintMore
attribute [local go_sem] max2_int min2_int max_two min_two max_three min_three max_four min_four   -- for this text's walks alone
set_option linter.unusedVariables false
set_option linter.unusedSimpArgs false



def errW : Option Int → Value
  | none => .nilIface
  | some c => .iface 0 (.int .i64 c)
theorem errW_none : errW none = .nilIface := rfl
theorem errW_some (c : Int) : errW (some c) = .iface 0 (.int .i64 c) := rfl

theorem info9 : (Tryd.prog.info? 9).map (fun i => (i.zero, i.size, i.bytes)) = some (some (.string ⟨#[]⟩), 1, 16) := by kernel_rfl
-- the values' own types

end Go.Proofs.YtjkdenldddjcnaaDoor.Di

set_option linter.unusedVariables false
namespace Go.Proofs.YtjkdenldddjcnaaDoor.Sha
open Go Go.RowKit Go.Proofs.YtjkdenldddjcnaaDoor.Df Go.Proofs.YtjkdenldddjcnaaDoorW.PrintWords Go.Proofs.YtjkdenldddjcnaaDoorW.PrintLast Go.Proofs.YtjkdenldddjcnaaDoorW.PrintMore

def extC.f (k : Nat) (l0 : List ByteArray) (a1 : Int) : Option (List ByteArray × Int) := digest_Extension.f k l0 a1
theorem extC.mono : ∀ a0 a1 k, LeO (extC.f k a0 a1) (extC.f (k + 1) a0 a1) := digest_Extension.mono
theorem extC.calls (k : Nat) (A0 : Option Addr) (c0 : Nat) (l0 : List ByteArray) (a1 : Int) (r1 : List ByteArray) (r2 : Int) (w : World) (hr0 : Kd.C Kd.string w A0 l0.length l0) (hc0 : l0.length ≤ c0) (hG_ : Amb w) (h : extC.f k l0 a1 = some (r1, r2)) :
    Calls Tryd.prog 16 #[.slice A0 l0.length c0, .int .i64 a1] w fun e w' => ∃ v0_ : Value, e = .returned (.tuple #[v0_, .int .i64 r2]) ∧ Kd.R Kd.string 9 w' w.heap.size (fun _ => True) v0_ r1 ∧ Below w.heap.size w w' := by
  refine (digest_Extension.calls k (fun k_ => k_ < w.heap.size) A0 c0 l0 a1 r1 r2 w (Kd.V_mk hc0 (Kd.C_F Kd.heap_string hr0)) hG_ h).mono ?_
  rintro e w' ⟨v0_, rfl, hR, hB⟩
  exact ⟨v0_, rfl, Kd.R_mono hR (fun _ _ => trivial), hB⟩
def proofC.f (k : Nat) (l0 : List ByteArray) (a1 : Int) : Option (List ByteArray × Int) := digest_Proof.f k l0 a1
theorem proofC.mono : ∀ a0 a1 k, LeO (proofC.f k a0 a1) (proofC.f (k + 1) a0 a1) := digest_Proof.mono
theorem proofC.calls (k : Nat) (A0 : Option Addr) (c0 : Nat) (l0 : List ByteArray) (a1 : Int) (r1 : List ByteArray) (r2 : Int) (w : World) (hr0 : Kd.C Kd.string w A0 l0.length l0) (hc0 : l0.length ≤ c0) (hG_ : Amb w) (h : proofC.f k l0 a1 = some (r1, r2)) :
    Calls Tryd.prog 14 #[.slice A0 l0.length c0, .int .i64 a1] w fun e w' => ∃ v0_ : Value, e = .returned (.tuple #[v0_, .int .i64 r2]) ∧ Kd.R Kd.string 9 w' w.heap.size (fun _ => True) v0_ r1 ∧ Below w.heap.size w w' := by
  refine (digest_Proof.calls k (fun k_ => k_ < w.heap.size) A0 c0 l0 a1 r1 r2 w (Kd.V_mk hc0 (Kd.C_F Kd.heap_string hr0)) hG_ h).mono ?_
  rintro e w' ⟨v0_, rfl, hR, hB⟩
  exact ⟨v0_, rfl, Kd.R_mono hR (fun _ _ => trivial), hB⟩
theorem extC_f : extC.f = digest_Extension.f := rfl
end Go.Proofs.YtjkdenldddjcnaaDoor.Sha

namespace Go.Proofs.YtjkdenldddjcnaaDoor.Di
open Go.RowKit Go.Proofs.YtjkdenldddjcnaaDoor.Sha Go.Proofs.YtjkdenldddjcnaaDoor.Df Go.Proofs.YtjkdenldddjcnaaDoorW.PrintWords Go.Proofs.YtjkdenldddjcnaaDoorW.PrintLast Go.Proofs.YtjkdenldddjcnaaDoorW.PrintMore
attribute [local go_sem] max2_int min2_int max_two min_two max_three min_three max_four min_four   -- for this text's walks alone
set_option linter.unusedVariables false
set_option linter.unusedSimpArgs false

/-! ### clearwaylaw02_DigestSplit: function 9 -/
def clearwaylaw02_DigestSplit.j0 : Nat → List ByteArray → ByteArray → Bool → List ByteArray → Bool → Option (Bool)
 | 0, _, _, _, _, _ => none
 | k + 1, x0, x1, x5, x6, x45 => if x45 = true then (some false) else (if (x0.length : Int) = 0 then (if x5 = true then ((digest_Root.f x6).bind fun t128 => ((digest_Leaf.f x1).bind fun t129 => (if t128.toList = t129.toList then ((digest_Root.f x0).bind fun t130 => ((digest_Sum.f (⟨#[]⟩ : ByteArray)).bind fun t131 => (some (t130.toList == t131.toList)))) else (some false)))) else (some false)) else ((clearwaylaw02_left.f k (x6.length : Int)).bind fun t132 => (if x5 = true then ((digest_Root.f x6).bind fun t133 => (if 0 ≤ t132 then (if t132 ≤ (x6.length : Int) then ((digest_Root.f (x6.take (t132 : Int).toNat)).bind fun t138 => ((digest_Root.f (x6.drop (t132 : Int).toNat)).bind fun t143 => ((digest_Node.f t138 t143).bind fun t144 => (some (t133.toList == t144.toList))))) else (none)) else (none))) else (some false))))
def clearwaylaw02_DigestSplit.f (k : Nat) (l0 : List ByteArray) (a1 : ByteArray) : Option (Bool) := (clearwaylaw02_sane.f k).bind fun t108 => ((clearwaylaw02_few.f k l0 40).bind fun t109 => (if 0 ≤ (mn (a1.size : Int) 60) then (if (mn (a1.size : Int) 60) ≤ (a1.size : Int) then ((some (([] : List ByteArray) : List ByteArray)).bind fun y112 => (if y112.length + t109.length < 8796093022208 then ((some (y112 ++ t109 : List ByteArray)).bind fun y115 => (if y115.length < 8796093022208 then ((some (y115 ++ [a1.extract 0 ((mn (a1.size : Int) 60) : Int).toNat] : List ByteArray)).bind fun y118 => ((extC.f k y118 (t109.length : Int)).bind fun bt121 => (if bt121.2 = 0 then ((digest_Root.f t109).bind fun t125 => ((digest_Root.f y118).bind fun t126 => ((digest_VerifyExtension.f t125 (t109.length : Int) t126 (y118.length : Int) bt121.1).bind fun t127 => (clearwaylaw02_DigestSplit.j0 k t109 (a1.extract 0 ((mn (a1.size : Int) 60) : Int).toNat) t108 y118 (!t127))))) else (clearwaylaw02_DigestSplit.j0 k t109 (a1.extract 0 ((mn (a1.size : Int) 60) : Int).toNat) t108 y118 true)))) else (none))) else (none))) else (none)) else (none)))
theorem clearwaylaw02_DigestSplit.mono_l : ∀ k, (∀ y0 y1 y2 y3 y4, LeO (clearwaylaw02_DigestSplit.j0 k y0 y1 y2 y3 y4) (clearwaylaw02_DigestSplit.j0 (k + 1) y0 y1 y2 y3 y4))
 | 0 => fun _ _ _ _ _ r h => by simp [clearwaylaw02_DigestSplit.j0] at h
 | k + 1 => by
  have ih0 := clearwaylaw02_DigestSplit.mono_l k
  ·intro y0 y1 y2 y3 y4
   unfold clearwaylaw02_DigestSplit.j0
   repeat' first
   | (with_reducible exact ih0 _ _ _ _ _)
   | (with_reducible exact clearwaylaw02_few.mono _ _ _)
   | (with_reducible exact clearwaylaw02_left.mono _ _)
   | (with_reducible exact clearwaylaw02_sane.mono _)
   | (with_reducible exact extC.mono _ _ _)
   | (with_reducible exact LeO.refl _)
   | (with_reducible exact LeO.none _)
   | (with_reducible refine LeO.ite ?_ ?_)
   | (with_reducible refine LeO.bind ?_ (fun _ => ?_))
   | exact ih0 _ _ _ _ _
   | exact clearwaylaw02_few.mono _ _ _
   | exact clearwaylaw02_left.mono _ _
   | exact clearwaylaw02_sane.mono _
   | exact extC.mono _ _ _
   | exact LeO.none _
   | refine LeO.ite ?_ ?_
   | refine LeO.bind ?_ (fun _ => ?_)
theorem clearwaylaw02_DigestSplit.mono : ∀ a0 a1 k, LeO (clearwaylaw02_DigestSplit.f k a0 a1) (clearwaylaw02_DigestSplit.f (k + 1) a0 a1) := by
 intro a0 a1 k
 have ih0 := clearwaylaw02_DigestSplit.mono_l k
 unfold clearwaylaw02_DigestSplit.f
 repeat' first
   | (with_reducible exact ih0 _ _ _ _ _)
   | (with_reducible exact clearwaylaw02_few.mono _ _ _)
   | (with_reducible exact clearwaylaw02_left.mono _ _)
   | (with_reducible exact clearwaylaw02_sane.mono _)
   | (with_reducible exact extC.mono _ _ _)
   | (with_reducible exact LeO.refl _)
   | (with_reducible exact LeO.none _)
   | (with_reducible refine LeO.ite ?_ ?_)
   | (with_reducible refine LeO.bind ?_ (fun _ => ?_))
   | exact ih0 _ _ _ _ _
   | exact clearwaylaw02_few.mono _ _ _
   | exact clearwaylaw02_left.mono _ _
   | exact clearwaylaw02_sane.mono _
   | exact extC.mono _ _ _
   | exact LeO.none _
   | refine LeO.ite ?_ ?_
   | refine LeO.bind ?_ (fun _ => ?_)
def clearwaylaw02_DigestSplit.T11 : Bool × List (List Nat × List Nat) := (true, [([], []), ([0], [0]), ([1], [1]), ([2, 1, 1], [1, 2]), ([1], [1]), ([1], [1]), ([4, 5, 1], [1, 4, 5]), ([6, 3, 1], [1, 6]), ([1], [1]), ([1], [1]), ([8, 9, 1], [1, 8, 9]), ([10, 7, 1], [1, 10]), ([7, 11, 11, 1], [1, 7, 11]), ([3, 12, 1], [1, 3, 12]), ([1, 13], [1, 13]), ([14, 12, 0, 1, 2, 3, 4, 5, 6, 7, 8, 9, 10, 11, 12, 13, 14], [14])])
def clearwaylaw02_DigestSplit.B11 : List Nat := [0, 1, 3, 7, 3, 3, 51, 127, 3, 3, 771, 2047, 4095, 8191, 16383, 32767]
theorem clearwaylaw02_DigestSplit.tab11 : rtab .any (opsOf Tryd.f9 11) = clearwaylaw02_DigestSplit.T11 := by kernel_rfl
theorem clearwaylaw02_DigestSplit.bits11 : waitsOk clearwaylaw02_DigestSplit.T11.2 clearwaylaw02_DigestSplit.B11 = true := by kernel_rfl
set_option maxHeartbeats 8000000 in
set_option maxRecDepth 100000 in
theorem clearwaylaw02_DigestSplit.calls (k : Nat) (A0 : Option Addr) (c0 : Nat) (l0 : List ByteArray) (a1 : ByteArray) (r : Bool) (w : World) (hr0 : Kd.C Kd.string w A0 l0.length l0) (hc0 : l0.length ≤ c0) (hG_ : Amb w) (h : clearwaylaw02_DigestSplit.f k l0 a1 = some r) :
  Calls Tryd.prog 9 #[.slice A0 l0.length c0, .string a1] w fun e w' => e = .returned (.bool r) ∧ Below w.heap.size w w' := by
 have HR0 := Aside0.mk hr0
 have HC0 := Aside0.mk hc0
 clear hr0 hc0
 have HB := Aside0.mk (Below.refl w.heap.size w)
 have H : ((clearwaylaw02_sane.f k).bind fun t108 => ((clearwaylaw02_few.f k l0 40).bind fun t109 => (if 0 ≤ (mn (a1.size : Int) 60) then (if (mn (a1.size : Int) 60) ≤ (a1.size : Int) then ((some (([] : List ByteArray) : List ByteArray)).bind fun y112 => (if y112.length + t109.length < 8796093022208 then ((some (y112 ++ t109 : List ByteArray)).bind fun y115 => (if y115.length < 8796093022208 then ((some (y115 ++ [a1.extract 0 ((mn (a1.size : Int) 60) : Int).toNat] : List ByteArray)).bind fun y118 => ((extC.f k y118 (t109.length : Int)).bind fun bt121 => (if bt121.2 = 0 then ((digest_Root.f t109).bind fun t125 => ((digest_Root.f y118).bind fun t126 => ((digest_VerifyExtension.f t125 (t109.length : Int) t126 (y118.length : Int) bt121.1).bind fun t127 => (clearwaylaw02_DigestSplit.j0 k t109 (a1.extract 0 ((mn (a1.size : Int) 60) : Int).toNat) t108 y118 (!t127))))) else (clearwaylaw02_DigestSplit.j0 k t109 (a1.extract 0 ((mn (a1.size : Int) 60) : Int).toNat) t108 y118 true)))) else (none))) else (none))) else (none)) else (none)))) = some r := h
 clear h
 replace H := Option.bind_eq_some_iff.mp H
 obtain ⟨t108, A30, H⟩ := H
 replace H : ((clearwaylaw02_few.f k l0 40).bind fun t109 => (if 0 ≤ (mn (a1.size : Int) 60) then (if (mn (a1.size : Int) 60) ≤ (a1.size : Int) then ((some (([] : List ByteArray) : List ByteArray)).bind fun y112 => (if y112.length + t109.length < 8796093022208 then ((some (y112 ++ t109 : List ByteArray)).bind fun y115 => (if y115.length < 8796093022208 then ((some (y115 ++ [a1.extract 0 ((mn (a1.size : Int) 60) : Int).toNat] : List ByteArray)).bind fun y118 => ((extC.f k y118 (t109.length : Int)).bind fun bt121 => (if bt121.2 = 0 then ((digest_Root.f t109).bind fun t125 => ((digest_Root.f y118).bind fun t126 => ((digest_VerifyExtension.f t125 (t109.length : Int) t126 (y118.length : Int) bt121.1).bind fun t127 => (clearwaylaw02_DigestSplit.j0 k t109 (a1.extract 0 ((mn (a1.size : Int) 60) : Int).toNat) t108 y118 (!t127))))) else (clearwaylaw02_DigestSplit.j0 k t109 (a1.extract 0 ((mn (a1.size : Int) 60) : Int).toNat) t108 y118 true)))) else (none))) else (none))) else (none)) else (none))) = some r := H
 have A3 := Aside0.mk A30
 clear A30
 replace H := Option.bind_eq_some_iff.mp H
 obtain ⟨t109, A40, H⟩ := H
 replace H : (if 0 ≤ (mn (a1.size : Int) 60) then (if (mn (a1.size : Int) 60) ≤ (a1.size : Int) then ((some (([] : List ByteArray) : List ByteArray)).bind fun y112 => (if y112.length + t109.length < 8796093022208 then ((some (y112 ++ t109 : List ByteArray)).bind fun y115 => (if y115.length < 8796093022208 then ((some (y115 ++ [a1.extract 0 ((mn (a1.size : Int) 60) : Int).toNat] : List ByteArray)).bind fun y118 => ((extC.f k y118 (t109.length : Int)).bind fun bt121 => (if bt121.2 = 0 then ((digest_Root.f t109).bind fun t125 => ((digest_Root.f y118).bind fun t126 => ((digest_VerifyExtension.f t125 (t109.length : Int) t126 (y118.length : Int) bt121.1).bind fun t127 => (clearwaylaw02_DigestSplit.j0 k t109 (a1.extract 0 ((mn (a1.size : Int) 60) : Int).toNat) t108 y118 (!t127))))) else (clearwaylaw02_DigestSplit.j0 k t109 (a1.extract 0 ((mn (a1.size : Int) 60) : Int).toNat) t108 y118 true)))) else (none))) else (none))) else (none)) else (none)) = some r := H
 have A4 := Aside0.mk A40
 clear A40
 obtain ⟨ji5, hji5⟩ : ∃ j_ : Int, (mn (a1.size : Int) 60) = j_ := ⟨_, rfl⟩
 replace H : (if 0 ≤ (ji5) then (if (ji5) ≤ (a1.size : Int) then ((some (([] : List ByteArray) : List ByteArray)).bind fun y112 => (if y112.length + t109.length < 8796093022208 then ((some (y112 ++ t109 : List ByteArray)).bind fun y115 => (if y115.length < 8796093022208 then ((some (y115 ++ [a1.extract 0 ((ji5) : Int).toNat] : List ByteArray)).bind fun y118 => ((extC.f k y118 (t109.length : Int)).bind fun bt121 => (if bt121.2 = 0 then ((digest_Root.f t109).bind fun t125 => ((digest_Root.f y118).bind fun t126 => ((digest_VerifyExtension.f t125 (t109.length : Int) t126 (y118.length : Int) bt121.1).bind fun t127 => (clearwaylaw02_DigestSplit.j0 k t109 (a1.extract 0 ((ji5) : Int).toNat) t108 y118 (!t127))))) else (clearwaylaw02_DigestSplit.j0 k t109 (a1.extract 0 ((ji5) : Int).toNat) t108 y118 true)))) else (none))) else (none))) else (none)) else (none)) = some r := by first | (rw [hji5] at H; exact H) | (simp only [hji5] at H ⊢; exact H)
 (try rw [hji5] at A3)
 (try rw [hji5] at A4)
 (try (have hji5h : ji5 ≤ 60 := by (rw [← hji5]; unfold mn; (repeat' split) <;> omega)))
 (try (have hji5g : ji5 ≤ 64 := by omega))
 (try (have hji5l : 0 ≤ ji5 := by (rw [← hji5]; unfold mn; (repeat' split) <;> omega)))
 (try (have hji5m : 0 ≤ ji5 := by omega))
 have hji5_ : (if 60 < (a1.size : Int) then 60 else (a1.size : Int)) = ji5 := hji5
 by_cases c6 : 0 ≤ (ji5)
 ·rw [if_pos c6] at H
  have c6b0 := eq_true c6
  have c6b1 : decide (0 ≤ (ji5)) = true := decide_eq_true c6
  clear c6
  by_cases c7 : (ji5) ≤ (a1.size : Int)
  ·rw [if_pos c7] at H
   have c7b0 := eq_true c7
   have c7b1 : decide ((ji5) ≤ (a1.size : Int)) = true := decide_eq_true c7
   clear c7
   obtain ⟨ua1_ji5, hua1_ji5⟩ : ∃ u_ : ByteArray, a1.extract 0 ((ji5) : Int).toNat = u_ := ⟨_, rfl⟩
   rw [hua1_ji5] at H
   obtain ⟨y112, hy112⟩ : ∃ y_ : List ByteArray, y_ = (([] : List ByteArray)) := ⟨_, rfl⟩
   replace H : (if y112.length + t109.length < 8796093022208 then ((some (y112 ++ t109 : List ByteArray)).bind fun y115 => (if y115.length < 8796093022208 then ((some (y115 ++ [ua1_ji5] : List ByteArray)).bind fun y118 => ((extC.f k y118 (t109.length : Int)).bind fun bt121 => (if bt121.2 = 0 then ((digest_Root.f t109).bind fun t125 => ((digest_Root.f y118).bind fun t126 => ((digest_VerifyExtension.f t125 (t109.length : Int) t126 (y118.length : Int) bt121.1).bind fun t127 => (clearwaylaw02_DigestSplit.j0 k t109 ua1_ji5 t108 y118 (!t127))))) else (clearwaylaw02_DigestSplit.j0 k t109 ua1_ji5 t108 y118 true)))) else (none))) else (none)) = some r := by first | (rw [hy112]; with_reducible exact H) | (have H2_ := (Option.bind_some _ _).symm.trans H; rw [hy112]; with_reducible exact H2_) | (have H2_ := (Option.bind_some _ _).symm.trans H; with_reducible exact H2_) | with_reducible exact H | (rw [hy112]; exact H) | exact H
   have Ny112 := Aside0.mk hy112
   clear hy112
   by_cases c8 : y112.length + t109.length < 8796093022208
   ·rw [if_pos c8] at H
    have LMc8 := Aside0.mk c8
    clear c8
    obtain ⟨y115, hy115⟩ : ∃ y_ : List ByteArray, y_ = (y112 ++ t109) := ⟨_, rfl⟩
    replace H : (if y115.length < 8796093022208 then ((some (y115 ++ [ua1_ji5] : List ByteArray)).bind fun y118 => ((extC.f k y118 (t109.length : Int)).bind fun bt121 => (if bt121.2 = 0 then ((digest_Root.f t109).bind fun t125 => ((digest_Root.f y118).bind fun t126 => ((digest_VerifyExtension.f t125 (t109.length : Int) t126 (y118.length : Int) bt121.1).bind fun t127 => (clearwaylaw02_DigestSplit.j0 k t109 ua1_ji5 t108 y118 (!t127))))) else (clearwaylaw02_DigestSplit.j0 k t109 ua1_ji5 t108 y118 true)))) else (none)) = some r := by first | (rw [hy115]; with_reducible exact H) | (have H2_ := (Option.bind_some _ _).symm.trans H; rw [hy115]; with_reducible exact H2_) | (have H2_ := (Option.bind_some _ _).symm.trans H; with_reducible exact H2_) | with_reducible exact H | (rw [hy115]; exact H) | exact H
    have Ny115 := Aside0.mk hy115
    clear hy115
    by_cases c9 : y115.length < 8796093022208
    ·rw [if_pos c9] at H
     have LMc9 := Aside0.mk c9
     clear c9
     obtain ⟨y118, hy118⟩ : ∃ y_ : List ByteArray, y_ = (y115 ++ [ua1_ji5]) := ⟨_, rfl⟩
     replace H : ((extC.f k y118 (t109.length : Int)).bind fun bt121 => (if bt121.2 = 0 then ((digest_Root.f t109).bind fun t125 => ((digest_Root.f y118).bind fun t126 => ((digest_VerifyExtension.f t125 (t109.length : Int) t126 (y118.length : Int) bt121.1).bind fun t127 => (clearwaylaw02_DigestSplit.j0 k t109 ua1_ji5 t108 y118 (!t127))))) else (clearwaylaw02_DigestSplit.j0 k t109 ua1_ji5 t108 y118 true))) = some r := by first | (rw [hy118]; with_reducible exact H) | (have H2_ := (Option.bind_some _ _).symm.trans H; rw [hy118]; with_reducible exact H2_) | (have H2_ := (Option.bind_some _ _).symm.trans H; with_reducible exact H2_) | with_reducible exact H | (rw [hy118]; exact H) | exact H
     have Ny118 := Aside0.mk hy118
     clear hy118
     replace H := Option.bind_eq_some_iff.mp H
     obtain ⟨⟨t121, t122⟩, A100, H⟩ := H
     replace H : (if t122 = 0 then ((digest_Root.f t109).bind fun t125 => ((digest_Root.f y118).bind fun t126 => ((digest_VerifyExtension.f t125 (t109.length : Int) t126 (y118.length : Int) t121).bind fun t127 => (clearwaylaw02_DigestSplit.j0 k t109 ua1_ji5 t108 y118 (!t127))))) else (clearwaylaw02_DigestSplit.j0 k t109 ua1_ji5 t108 y118 true)) = some r := H
     have A10 := Aside0.mk A100
     clear A100
     have HC11 := Aside0.mk H
     clear H
     go_enter Tryd.func9, Tryd.ntmps9
     go_upto_region 6 with (first | ((with_reducible refine gate_callee (f := 12) rfl ?_); refine goesL_ (some 10) rfl rfl Tryd.func12 (by kernel_rfl) rfl #[] rfl (by (try simp only [List.map_toArray, List.map_cons, List.map_nil]); first | done | rfl | (simp only [List.length_drop, List.length_take]; rfl)) ?_; (with_reducible refine (clearwaylaw02_sane.calls k  t108 _ ?side1 A3.out).mono ?_); (case side1 => exact Amb.below hG_ (by repeat (first | (with_reducible first | exact HB.out | apply below_alloc | apply pw_below_drewN | apply below_drew1) | exact HB.out))); rintro e w12 ⟨rfl, hb⟩; refine ⟨_, rfl, ?_⟩; have n0_ := Aside0.mk (below_step (by repeat (first | (with_reducible first | exact HB.out | apply below_alloc | apply pw_below_drewN | apply below_drew1) | exact HB.out)) hb); clear HB; have HB := n0_; clear n0_; (try clear hb); (try clear hb2); (try clear hk); (try clear hi)) | ((with_reducible refine gate_callee (f := 13) rfl ?_); refine goesL_ (some 12) rfl rfl Tryd.func13 (by kernel_rfl) rfl #[.slice A0 l0.length c0, .int .i64 40] rfl (by (try simp only [List.map_toArray, List.map_cons, List.map_nil]); first | done | rfl | (simp only [List.length_drop, List.length_take]; rfl)) ?_; (with_reducible refine (clearwaylaw02_few.calls k _ _ l0 40 t109 _ ?side1 ?side2 A4.out).mono ?_); (case side1 => repeat (first | exact (Kd.C_below HR0.out HB.out) | (with_reducible refine Kd.C_alloc ?_ _) | (with_reducible refine Kd.C_drewN ?_ _) | (with_reducible refine Kd.C_drew ?_))); (case side2 => exact HC0.out); rintro e w13 ⟨v110, rfl, ho0, hb⟩; refine ⟨_, rfl, ?_⟩; have n0_ := Aside0.mk (Kd.R_lower ho0 (below_size (by repeat (first | (with_reducible first | exact HB.out | apply below_alloc | apply pw_below_drewN | apply below_drew1) | exact HB.out)))); have n1_ := Aside0.mk (below_step (by repeat (first | (with_reducible first | exact HB.out | apply below_alloc | apply pw_below_drewN | apply below_drew1) | exact HB.out)) hb); clear HB; have HO111 := n0_; have HB := n1_; clear n0_ n1_; (try clear hb); (try clear hb2); (try clear hk); (try clear hi); (try clear ho0)) | ((with_reducible refine gate_dst (N := 18) rfl ?_); (try (refine gate_guard (by rfl) ?_; dsimp only)); refine Kd.R_lit Kd.string _ 9 ?hg (N := 18) ?hd (xs := ([] : List ByteArray)) (inner := []) (ok := fun _ => True) (okp := fun _ => True) ?hr ?hp (fun _ hk => hk) trivial (Below.refl _ _) (Nat.le_refl _) (by simp) ?_; (case hd => rfl); (case hg => rfl); (case hr => first | (go_simp; done) | (go_simp; rfl)); (case hp => exact (Reps.none _ _)); intro v113 w14 ho15 hb hg_ hnew_; clear hg_ hnew_; (first | rw [← Ny112.out] at ho15 | (simp only [Int.reduceToNat] at ho15; rw [← Ny112.out] at ho15)); have n0_ := Aside0.mk (Kd.R_elder' (by (with_reducible repeat (first | apply Kd.R_alloc | apply Kd.R_drewN | apply Kd.R_drew)); exact HO111.out) (Kd.R_base ho15) hb); have n1_ := Aside0.mk (Kd.R_lower (Kd.R_new' ho15 (Kd.R_lt (by (with_reducible repeat (first | apply Kd.R_alloc | apply Kd.R_drewN | apply Kd.R_drew)); exact HO111.out))) (below_size (by repeat (first | (with_reducible first | exact HB.out | apply below_alloc | apply pw_below_drewN | apply below_drew1) | exact HB.out)))); have n2_ := Aside0.mk (below_step (by repeat (first | (with_reducible first | exact HB.out | apply below_alloc | apply pw_below_drewN | apply below_drew1) | exact HB.out)) hb); clear HO111; clear HB; have HO111 := n0_; have HO114 := n1_; have HB := n2_; clear n0_ n1_ n2_; clear hb ho15; obtain ⟨Ao17, co17, eo17⟩ := Kd.R_slice HO111.out; subst eo17) | ((with_reducible refine gate_builtin (b := .append) (xs := #[.tmp 18, .tmp 19]) rfl ?_); (try (refine gate_guard (by rfl) ?_; dsimp only)); at_builtin; refine Kd.R_append_rows Kd.string (w0 := w) w.heap.size rfl (.tmp 18) (.tmp 19) 22 9 (.string ⟨#[]⟩) 16 rfl Tryd.underlying22 info9 rfl (by decide) (by omega) v113 y112 t109 _ _ _ (fun k_ => some k_ ≠ (.slice Ao17 t109.length co17 : Value).ownBlock) (fun _ => False) rfl rfl ?aO ?aR (fun _ _ h => h) (fun _ h => h.elim) ?aF ?aB ?aS ?aL ?_; (case aR => repeat (first | exact (Kd.R_reads' HO111.out).2.2 | (with_reducible refine Kd.C_alloc ?_ _) | (with_reducible refine Kd.C_drewN ?_ _) | (with_reducible refine Kd.C_drew ?_))); (case aB => exact (by repeat (first | (with_reducible first | exact HB.out | apply below_alloc | apply pw_below_drewN | apply below_drew1) | exact HB.out))); (case aF => exact (fun k_ hk => Kd.fresh' (Kd.R_lt (by (with_reducible repeat (first | apply Kd.R_alloc | apply Kd.R_drewN | apply Kd.R_drew)); exact HO111.out)) k_ hk)); (case aO => exact (by (with_reducible repeat (first | apply Kd.R_alloc | apply Kd.R_drewN | apply Kd.R_drew)); exact Kd.R_mono HO114.out (fun _ hk => hk.2))); (case aS => exact (below_size (by repeat (first | (with_reducible first | exact HB.out | apply below_alloc | apply pw_below_drewN | apply below_drew1) | exact HB.out)))); (case aL => have := LMc8.out; omega); intro v116 w16 ho hb hg hat; rw [← Ny115.out] at ho; have n0_ := Aside0.mk (Kd.R_after (ok := (fun _ => True)) (by (with_reducible repeat (first | apply Kd.R_alloc | apply Kd.R_drewN | apply Kd.R_drew)); exact HO111.out) hg hat); have n1_ := Aside0.mk (hb); have n2_ := Aside0.mk (ho); clear HO111; clear HB; clear HO114; have HO111 := n0_; have HB := n1_; have HO117 := n2_; clear n0_ n1_ n2_; clear ho hb hg hat) | ((with_reducible refine gate_builtin (b := .append) (xs := #[.tmp 20, .tmp 22]) rfl ?_); (try (refine gate_guard (by rfl) ?_; dsimp only)); at_builtin; refine Kd.R_append Kd.string (w0 := w) w.heap.size rfl (.tmp 20) (.tmp 22) 22 9 (.string ⟨#[]⟩) 16 rfl Tryd.underlying22 info9 rfl (by decide) (by omega) v116 y115 ua1_ji5 [.string ua1_ji5] (fun k_ => some k_ ≠ (.slice Ao17 t109.length co17 : Value).ownBlock) (fun _ => False) rfl rfl ?aP (fun _ hk => hk.elim) ?aF ?aO ?aB ?aS ?aL ?_; (case aP => exact rfl); (case aB => exact (by repeat (first | (with_reducible first | exact HB.out | apply below_alloc | apply pw_below_drewN | apply below_drew1) | exact HB.out))); (case aF => exact (fun k_ hk => Kd.fresh' (Kd.R_lt (by (with_reducible repeat (first | apply Kd.R_alloc | apply Kd.R_drewN | apply Kd.R_drew)); exact HO111.out)) k_ hk)); (case aO => exact (by (with_reducible repeat (first | apply Kd.R_alloc | apply Kd.R_drewN | apply Kd.R_drew)); exact HO117.out)); (case aS => exact (below_size (by repeat (first | (with_reducible first | exact HB.out | apply below_alloc | apply pw_below_drewN | apply below_drew1) | exact HB.out)))); (case aL => have := LMc9.out; omega); intro v119 w18 ho hb hg hat; rw [← Ny118.out] at ho; have n0_ := Aside0.mk (Kd.R_after (ok := (fun _ => True)) (by (with_reducible repeat (first | apply Kd.R_alloc | apply Kd.R_drewN | apply Kd.R_drew)); exact HO111.out) hg hat); have n1_ := Aside0.mk (hb); have n2_ := Aside0.mk (ho); clear HO111; clear HB; clear HO117; have HO111 := n0_; have HB := n1_; have HO120 := n2_; clear n0_ n1_ n2_; clear ho hb hg hat; obtain ⟨Ao19, co19, eo19⟩ := Kd.R_slice HO120.out; subst eo19) | ((with_reducible refine gate_callee (f := 16) rfl ?_); refine goesL_ (some 28) rfl rfl Tryd.func16 (by kernel_rfl) rfl #[.slice Ao19 y118.length co19, .int .i64 (t109.length : Int)] rfl (by (try simp only [List.map_toArray, List.map_cons, List.map_nil]); first | done | rfl | (simp only [List.length_drop, List.length_take]; rfl)) ?_; (with_reducible refine (extC.calls k _ _ y118 (t109.length : Int) t121 t122 _ ?side1 ?side2 ?side3 A10.out).mono ?_); (case side1 => repeat (first | exact (Kd.R_reads' HO120.out).2.2 | (with_reducible refine Kd.C_alloc ?_ _) | (with_reducible refine Kd.C_drewN ?_ _) | (with_reducible refine Kd.C_drew ?_))); (case side2 => exact (Kd.R_reads' HO120.out).2.1); (case side3 => exact Amb.below hG_ (by repeat (first | (with_reducible first | exact HB.out | apply below_alloc | apply pw_below_drewN | apply below_drew1) | exact HB.out))); rintro e w20 ⟨v123, rfl, ho0, hb⟩; refine ⟨_, rfl, ?_⟩; have n0_ := Aside0.mk (Kd.R_elder' (by (with_reducible repeat (first | apply Kd.R_alloc | apply Kd.R_drewN | apply Kd.R_drew)); exact HO111.out) (Kd.R_base ho0) hb); have n1_ := Aside0.mk (Kd.R_elder' (by (with_reducible repeat (first | apply Kd.R_alloc | apply Kd.R_drewN | apply Kd.R_drew)); exact HO120.out) (Kd.R_base ho0) hb); have n2_ := Aside0.mk (Kd.R_lower (Kd.R_new' (Kd.R_new' ho0 (Kd.R_lt (by (with_reducible repeat (first | apply Kd.R_alloc | apply Kd.R_drewN | apply Kd.R_drew)); exact HO111.out))) (Kd.R_lt (by (with_reducible repeat (first | apply Kd.R_alloc | apply Kd.R_drewN | apply Kd.R_drew)); exact HO120.out))) (below_size (by repeat (first | (with_reducible first | exact HB.out | apply below_alloc | apply pw_below_drewN | apply below_drew1) | exact HB.out)))); have n3_ := Aside0.mk (below_step (by repeat (first | (with_reducible first | exact HB.out | apply below_alloc | apply pw_below_drewN | apply below_drew1) | exact HB.out)) hb); clear HO111; clear HO120; clear HB; have HO111 := n0_; have HO120 := n1_; have HO124 := n2_; have HB := n3_; clear n0_ n1_ n2_ n3_; (try clear hb); (try clear hb2); (try clear hk); (try clear hi); (try clear ho0)))
     (try simp only [Act.put, List.setIfInBounds_toArray, List.set_cons_zero, List.set_cons_succ])
     go_cut [45] (fun v45 wc => ∃ (kq : Nat) (x45_10 : Bool), v45 = .bool x45_10 ∧ Aside0 (clearwaylaw02_DigestSplit.j0 kq t109 ua1_ji5 t108 y118 x45_10 = some r) ∧ Aside0 (kq ≤ k) ∧ Aside0 (Kd.R Kd.string 9 wc w.heap.size (fun k_ => some k_ ≠ ((.slice Ao19 y118.length co19) : Value).ownBlock) (.slice Ao17 t109.length co17) t109) ∧ Aside0 (Kd.R Kd.string 9 wc w.heap.size (fun k_ => some k_ ≠ ((.slice Ao17 t109.length co17) : Value).ownBlock) (.slice Ao19 y118.length co19) y118) ∧ Aside0 (Below w.heap.size w wc))
     case first =>
      have H := HC11.out
      clear HC11
      by_cases c21 : t122 = 0
      ·rw [if_pos c21] at H
       have c21b0 : (t122 == 0) = true := beq_iff_eq.mpr c21
       have c21b1 : (t122 != 0) = false := bne_eq_false_iff_eq.mpr c21
       clear c21
       (first | rw [c21b0] | (simp only [i64_w, i32_w]; rw [c21b0]) | skip)
       replace H := Option.bind_eq_some_iff.mp H
       obtain ⟨t125, A220, H⟩ := H
       replace H : ((digest_Root.f y118).bind fun t126 => ((digest_VerifyExtension.f t125 (t109.length : Int) t126 (y118.length : Int) t121).bind fun t127 => (clearwaylaw02_DigestSplit.j0 k t109 ua1_ji5 t108 y118 (!t127)))) = some r := H
       have A22 := Aside0.mk A220
       clear A220
       replace H := Option.bind_eq_some_iff.mp H
       obtain ⟨t126, A230, H⟩ := H
       replace H : ((digest_VerifyExtension.f t125 (t109.length : Int) t126 (y118.length : Int) t121).bind fun t127 => (clearwaylaw02_DigestSplit.j0 k t109 ua1_ji5 t108 y118 (!t127))) = some r := H
       have A23 := Aside0.mk A230
       clear A230
       replace H := Option.bind_eq_some_iff.mp H
       obtain ⟨t127, A240, H⟩ := H
       replace H : (clearwaylaw02_DigestSplit.j0 k t109 ua1_ji5 t108 y118 (!t127)) = some r := H
       have A24 := Aside0.mk A240
       clear A240
       have H' := Aside0.mk H
       clear H
       go_wp2_with (first | (go_at_call 19; (with_reducible refine (digest_Root.calls _ _ t109 t125 _ ?side1 ?side2 ?side3 A22.out).mono ?_); (case side1 => repeat (first | exact (Kd.R_reads' HO111.out).2.2 | (with_reducible refine Kd.C_alloc ?_ _) | (with_reducible refine Kd.C_drewN ?_ _) | (with_reducible refine Kd.C_drew ?_))); (case side2 => exact (Kd.R_reads' HO111.out).2.1); (case side3 => exact Amb.below hG_ (by repeat (first | (with_reducible first | exact HB.out | apply below_alloc | apply pw_below_drewN | apply below_drew1) | exact HB.out))); rintro e w25 ⟨rfl, hb⟩; have n0_ := Aside0.mk (Kd.R_below (by (with_reducible repeat (first | apply Kd.R_alloc | apply Kd.R_drewN | apply Kd.R_drew)); exact HO111.out) hb); have n1_ := Aside0.mk (Kd.R_below (by (with_reducible repeat (first | apply Kd.R_alloc | apply Kd.R_drewN | apply Kd.R_drew)); exact HO120.out) hb); have n2_ := Aside0.mk (Kd.R_below (by (with_reducible repeat (first | apply Kd.R_alloc | apply Kd.R_drewN | apply Kd.R_drew)); exact HO124.out) hb); have n3_ := Aside0.mk (below_step (by repeat (first | (with_reducible first | exact HB.out | apply below_alloc | apply pw_below_drewN | apply below_drew1) | exact HB.out)) hb); clear HO111; clear HO120; clear HO124; clear HB; have HO111 := n0_; have HO120 := n1_; have HO124 := n2_; have HB := n3_; clear n0_ n1_ n2_ n3_; (try clear hb); (try clear hb2); (try clear hk); (try clear hi)) | (go_at_call 19; (with_reducible refine (digest_Root.calls _ _ y118 t126 _ ?side1 ?side2 ?side3 A23.out).mono ?_); (case side1 => repeat (first | exact (Kd.R_reads' HO120.out).2.2 | (with_reducible refine Kd.C_alloc ?_ _) | (with_reducible refine Kd.C_drewN ?_ _) | (with_reducible refine Kd.C_drew ?_))); (case side2 => exact (Kd.R_reads' HO120.out).2.1); (case side3 => exact Amb.below hG_ (by repeat (first | (with_reducible first | exact HB.out | apply below_alloc | apply pw_below_drewN | apply below_drew1) | exact HB.out))); rintro e w26 ⟨rfl, hb⟩; have n0_ := Aside0.mk (Kd.R_below (by (with_reducible repeat (first | apply Kd.R_alloc | apply Kd.R_drewN | apply Kd.R_drew)); exact HO111.out) hb); have n1_ := Aside0.mk (Kd.R_below (by (with_reducible repeat (first | apply Kd.R_alloc | apply Kd.R_drewN | apply Kd.R_drew)); exact HO120.out) hb); have n2_ := Aside0.mk (Kd.R_below (by (with_reducible repeat (first | apply Kd.R_alloc | apply Kd.R_drewN | apply Kd.R_drew)); exact HO124.out) hb); have n3_ := Aside0.mk (below_step (by repeat (first | (with_reducible first | exact HB.out | apply below_alloc | apply pw_below_drewN | apply below_drew1) | exact HB.out)) hb); clear HO111; clear HO120; clear HO124; clear HB; have HO111 := n0_; have HO120 := n1_; have HO124 := n2_; have HB := n3_; clear n0_ n1_ n2_ n3_; (try clear hb); (try clear hb2); (try clear hk); (try clear hi); obtain ⟨Ao27, co27, eo27⟩ := Kd.R_slice HO124.out; subst eo27) | (go_at_call 23; (with_reducible refine (digest_VerifyExtension.calls t125 (t109.length : Int) t126 (y118.length : Int) _ _ t121 t127 _ ?side1 ?side2 ?side3 A24.out).mono ?_); (case side1 => repeat (first | exact (Kd.R_reads' HO124.out).2.2 | (with_reducible refine Kd.C_alloc ?_ _) | (with_reducible refine Kd.C_drewN ?_ _) | (with_reducible refine Kd.C_drew ?_))); (case side2 => exact (Kd.R_reads' HO124.out).2.1); (case side3 => exact Amb.below hG_ (by repeat (first | (with_reducible first | exact HB.out | apply below_alloc | apply pw_below_drewN | apply below_drew1) | exact HB.out))); rintro e w28 ⟨rfl, hb⟩; have n0_ := Aside0.mk (Kd.R_below (by (with_reducible repeat (first | apply Kd.R_alloc | apply Kd.R_drewN | apply Kd.R_drew)); exact HO111.out) hb); have n1_ := Aside0.mk (Kd.R_below (by (with_reducible repeat (first | apply Kd.R_alloc | apply Kd.R_drewN | apply Kd.R_drew)); exact HO120.out) hb); have n2_ := Aside0.mk (Kd.R_below (by (with_reducible repeat (first | apply Kd.R_alloc | apply Kd.R_drewN | apply Kd.R_drew)); exact HO124.out) hb); have n3_ := Aside0.mk (below_step (by repeat (first | (with_reducible first | exact HB.out | apply below_alloc | apply pw_below_drewN | apply below_drew1) | exact HB.out)) hb); clear HO111; clear HO120; clear HO124; clear HB; have HO111 := n0_; have HO120 := n1_; have HO124 := n2_; have HB := n3_; clear n0_ n1_ n2_ n3_; (try clear hb); (try clear hb2); (try clear hk); (try clear hi)))
       go_meet
       case rel => exact ⟨_, (!t127), (by first | rfl | (simp; done) | (simp [*]; done)), H', ⟨by first | omega | exact Nat.le_refl _⟩, ⟨by (with_reducible repeat (first | apply Kd.R_alloc | apply Kd.R_drewN | apply Kd.R_drew)); exact Kd.R_mono HO111.out (fun _ hk => hk.1.2)⟩, ⟨by (with_reducible repeat (first | apply Kd.R_alloc | apply Kd.R_drewN | apply Kd.R_drew)); exact Kd.R_mono HO120.out (fun _ hk => hk.1)⟩, ⟨by repeat (first | (with_reducible first | exact HB.out | apply below_alloc | apply pw_below_drewN | apply below_drew1) | exact HB.out)⟩⟩
      ·rw [if_neg c21] at H
       have c21b0 : (t122 == 0) = false := beq_eq_false_iff_ne.mpr c21
       have c21b1 : (t122 != 0) = true := bne_iff_ne.mpr c21
       (first | rw [c21b0] | (simp only [i64_w, i32_w]; rw [c21b0]) | skip)
       have H' := Aside0.mk H
       clear H
       go_wp2
       go_meet
       case rel => exact ⟨_, (true), (by first | rfl | (simp; done) | (simp [*]; done)), H', ⟨by first | omega | exact Nat.le_refl _⟩, ⟨by (with_reducible repeat (first | apply Kd.R_alloc | apply Kd.R_drewN | apply Kd.R_drew)); exact Kd.R_mono HO111.out (fun _ hk => hk.1.2)⟩, ⟨by (with_reducible repeat (first | apply Kd.R_alloc | apply Kd.R_drewN | apply Kd.R_drew)); exact Kd.R_mono HO120.out (fun _ hk => hk.1)⟩, ⟨by repeat (first | (with_reducible first | exact HB.out | apply below_alloc | apply pw_below_drewN | apply below_drew1) | exact HB.out)⟩⟩
     case rest =>
      clear HC11
      try clear c1
      try clear c2
      try clear p2
      try clear c6
      try clear c6b0
      try clear c6b1
      try clear c7
      try clear c7b0
      try clear c7b1
      try clear c8
      try clear c9
      try clear c12
      try clear c13
      try clear c16
      try clear c21
      try clear c21b0
      try clear c21b1
      obtain ⟨kq, x45_10, rfl, HA, HJ10, HO_0, HO_6, HB⟩ := hcut
      cases kq with
      | zero => exact absurd HA.out (by simp [clearwaylaw02_DigestSplit.j0])
      | succ kj10 =>
       have H := HA.out
       clear HA
       simp only [clearwaylaw02_DigestSplit.j0] at H
       by_cases c29 : x45_10 = true
       ·subst c29
        have H1 : (some false) = some r := by rw [if_pos rfl] at H; exact H
        clear H
        have H := H1
        clear H1
        obtain rfl := Option.some.inj H
        go_wp2
        go_ret
        exact ⟨by first | rfl | (simp [errW_none, errW_some] <;> rfl) | (simp only [← hji5]; first | rfl | (simp [errW_none, errW_some] <;> rfl)) | (simp [*, errW_none, errW_some] <;> rfl), by repeat (first | (with_reducible first | exact HB.out | apply below_alloc | apply pw_below_drewN | apply below_drew1) | exact HB.out)⟩
       ·replace c29 := Bool.eq_false_iff.mpr c29
        subst c29
        have H1 : (if (t109.length : Int) = 0 then (if t108 = true then ((digest_Root.f y118).bind fun t128 => ((digest_Leaf.f ua1_ji5).bind fun t129 => (if t128.toList = t129.toList then ((digest_Root.f t109).bind fun t130 => ((digest_Sum.f (⟨#[]⟩ : ByteArray)).bind fun t131 => (some (t130.toList == t131.toList)))) else (some false)))) else (some false)) else ((clearwaylaw02_left.f kj10 (y118.length : Int)).bind fun t132 => (if t108 = true then ((digest_Root.f y118).bind fun t133 => (if 0 ≤ t132 then (if t132 ≤ (y118.length : Int) then ((digest_Root.f (y118.take (t132 : Int).toNat)).bind fun t138 => ((digest_Root.f (y118.drop (t132 : Int).toNat)).bind fun t143 => ((digest_Node.f t138 t143).bind fun t144 => (some (t133.toList == t144.toList))))) else (none)) else (none))) else (some false)))) = some r := by rw [if_neg (show ¬ (false = true) by decide)] at H; exact H
        clear H
        have H := H1
        clear H1
        by_cases c30 : (t109.length : Int) = 0
        ·rw [if_pos c30] at H
         have c30b0 : ((t109.length : Int) == 0) = true := beq_iff_eq.mpr c30
         have c30b1 : ((t109.length : Int) != 0) = false := bne_eq_false_iff_eq.mpr c30
         clear c30
         by_cases c31 : t108 = true
         ·subst c31
          have H1 : ((digest_Root.f y118).bind fun t128 => ((digest_Leaf.f ua1_ji5).bind fun t129 => (if t128.toList = t129.toList then ((digest_Root.f t109).bind fun t130 => ((digest_Sum.f (⟨#[]⟩ : ByteArray)).bind fun t131 => (some (t130.toList == t131.toList)))) else (some false)))) = some r := by rw [if_pos rfl] at H; exact H
          clear H
          have H := H1
          clear H1
          replace H := Option.bind_eq_some_iff.mp H
          obtain ⟨t128, A320, H⟩ := H
          replace H : ((digest_Leaf.f ua1_ji5).bind fun t129 => (if t128.toList = t129.toList then ((digest_Root.f t109).bind fun t130 => ((digest_Sum.f (⟨#[]⟩ : ByteArray)).bind fun t131 => (some (t130.toList == t131.toList)))) else (some false))) = some r := H
          have A32 := Aside0.mk A320
          clear A320
          replace H := Option.bind_eq_some_iff.mp H
          obtain ⟨t129, A330, H⟩ := H
          replace H : (if t128.toList = t129.toList then ((digest_Root.f t109).bind fun t130 => ((digest_Sum.f (⟨#[]⟩ : ByteArray)).bind fun t131 => (some (t130.toList == t131.toList)))) else (some false)) = some r := H
          have A33 := Aside0.mk A330
          clear A330
          by_cases c34 : t128.toList = t129.toList
          ·rw [if_pos c34] at H
           have c34b0 : (t128.toList == t129.toList) = true := beq_iff_eq.mpr c34
           have c34b1 : (t128.toList != t129.toList) = false := bne_eq_false_iff_eq.mpr c34
           clear c34
           replace H := Option.bind_eq_some_iff.mp H
           obtain ⟨t130, A350, H⟩ := H
           replace H : ((digest_Sum.f (⟨#[]⟩ : ByteArray)).bind fun t131 => (some (t130.toList == t131.toList))) = some r := H
           have A35 := Aside0.mk A350
           clear A350
           replace H := Option.bind_eq_some_iff.mp H
           obtain ⟨t131, A360, H⟩ := H
           replace H : (some (t130.toList == t131.toList)) = some r := H
           have A36 := Aside0.mk A360
           clear A360
           obtain rfl := Option.some.inj H
           go_wp2_with (first | (go_at_call 19; (with_reducible refine (digest_Root.calls _ _ y118 t128 _ ?side1 ?side2 ?side3 A32.out).mono ?_); (case side1 => repeat (first | exact (Kd.R_reads' HO_6.out).2.2 | (with_reducible refine Kd.C_alloc ?_ _) | (with_reducible refine Kd.C_drewN ?_ _) | (with_reducible refine Kd.C_drew ?_))); (case side2 => exact (Kd.R_reads' HO_6.out).2.1); (case side3 => exact Amb.below hG_ (by repeat (first | (with_reducible first | exact HB.out | apply below_alloc | apply pw_below_drewN | apply below_drew1) | exact HB.out))); rintro e w37 ⟨rfl, hb⟩; have n0_ := Aside0.mk (Kd.R_below (by (with_reducible repeat (first | apply Kd.R_alloc | apply Kd.R_drewN | apply Kd.R_drew)); exact HO_0.out) hb); have n1_ := Aside0.mk (Kd.R_below (by (with_reducible repeat (first | apply Kd.R_alloc | apply Kd.R_drewN | apply Kd.R_drew)); exact HO_6.out) hb); have n2_ := Aside0.mk (below_step (by repeat (first | (with_reducible first | exact HB.out | apply below_alloc | apply pw_below_drewN | apply below_drew1) | exact HB.out)) hb); clear HO_0; clear HO_6; clear HB; have HO_0 := n0_; have HO_6 := n1_; have HB := n2_; clear n0_ n1_ n2_; (try clear hb); (try clear hb2); (try clear hk); (try clear hi)) | (go_at_call 29; (with_reducible refine (digest_Leaf.calls ua1_ji5 t129 _ ?side1 A33.out).mono ?_); (case side1 => exact Amb.below hG_ (by repeat (first | (with_reducible first | exact HB.out | apply below_alloc | apply pw_below_drewN | apply below_drew1) | exact HB.out))); rintro e w38 ⟨rfl, hb⟩; have n0_ := Aside0.mk (Kd.R_below (by (with_reducible repeat (first | apply Kd.R_alloc | apply Kd.R_drewN | apply Kd.R_drew)); exact HO_0.out) hb); have n1_ := Aside0.mk (Kd.R_below (by (with_reducible repeat (first | apply Kd.R_alloc | apply Kd.R_drewN | apply Kd.R_drew)); exact HO_6.out) hb); have n2_ := Aside0.mk (below_step (by repeat (first | (with_reducible first | exact HB.out | apply below_alloc | apply pw_below_drewN | apply below_drew1) | exact HB.out)) hb); clear HO_0; clear HO_6; clear HB; have HO_0 := n0_; have HO_6 := n1_; have HB := n2_; clear n0_ n1_ n2_; (try clear hb); (try clear hb2); (try clear hk); (try clear hi)) | (go_at_call 19; (with_reducible refine (digest_Root.calls _ _ t109 t130 _ ?side1 ?side2 ?side3 A35.out).mono ?_); (case side1 => repeat (first | exact (Kd.R_reads' HO_0.out).2.2 | (with_reducible refine Kd.C_alloc ?_ _) | (with_reducible refine Kd.C_drewN ?_ _) | (with_reducible refine Kd.C_drew ?_))); (case side2 => exact (Kd.R_reads' HO_0.out).2.1); (case side3 => exact Amb.below hG_ (by repeat (first | (with_reducible first | exact HB.out | apply below_alloc | apply pw_below_drewN | apply below_drew1) | exact HB.out))); rintro e w39 ⟨rfl, hb⟩; have n0_ := Aside0.mk (Kd.R_below (by (with_reducible repeat (first | apply Kd.R_alloc | apply Kd.R_drewN | apply Kd.R_drew)); exact HO_0.out) hb); have n1_ := Aside0.mk (Kd.R_below (by (with_reducible repeat (first | apply Kd.R_alloc | apply Kd.R_drewN | apply Kd.R_drew)); exact HO_6.out) hb); have n2_ := Aside0.mk (below_step (by repeat (first | (with_reducible first | exact HB.out | apply below_alloc | apply pw_below_drewN | apply below_drew1) | exact HB.out)) hb); clear HO_0; clear HO_6; clear HB; have HO_0 := n0_; have HO_6 := n1_; have HB := n2_; clear n0_ n1_ n2_; (try clear hb); (try clear hb2); (try clear hk); (try clear hi)) | (go_at_call 30; (with_reducible refine (digest_Sum.calls (⟨#[]⟩ : ByteArray) t131 _ ?side1 A36.out).mono ?_); (case side1 => exact Amb.below hG_ (by repeat (first | (with_reducible first | exact HB.out | apply below_alloc | apply pw_below_drewN | apply below_drew1) | exact HB.out))); rintro e w40 ⟨rfl, hb⟩; have n0_ := Aside0.mk (Kd.R_below (by (with_reducible repeat (first | apply Kd.R_alloc | apply Kd.R_drewN | apply Kd.R_drew)); exact HO_0.out) hb); have n1_ := Aside0.mk (Kd.R_below (by (with_reducible repeat (first | apply Kd.R_alloc | apply Kd.R_drewN | apply Kd.R_drew)); exact HO_6.out) hb); have n2_ := Aside0.mk (below_step (by repeat (first | (with_reducible first | exact HB.out | apply below_alloc | apply pw_below_drewN | apply below_drew1) | exact HB.out)) hb); clear HO_0; clear HO_6; clear HB; have HO_0 := n0_; have HO_6 := n1_; have HB := n2_; clear n0_ n1_ n2_; (try clear hb); (try clear hb2); (try clear hk); (try clear hi)))
           go_ret
           exact ⟨by first | rfl | (simp [errW_none, errW_some] <;> rfl) | (simp only [← hji5]; first | rfl | (simp [errW_none, errW_some] <;> rfl)) | (simp [*, errW_none, errW_some] <;> rfl), by repeat (first | (with_reducible first | exact HB.out | apply below_alloc | apply pw_below_drewN | apply below_drew1) | exact HB.out)⟩
          ·rw [if_neg c34] at H
           have c34b0 : (t128.toList == t129.toList) = false := beq_eq_false_iff_ne.mpr c34
           have c34b1 : (t128.toList != t129.toList) = true := bne_iff_ne.mpr c34
           obtain rfl := Option.some.inj H
           go_wp2_with (first | (go_at_call 19; (with_reducible refine (digest_Root.calls _ _ y118 t128 _ ?side1 ?side2 ?side3 A32.out).mono ?_); (case side1 => repeat (first | exact (Kd.R_reads' HO_6.out).2.2 | (with_reducible refine Kd.C_alloc ?_ _) | (with_reducible refine Kd.C_drewN ?_ _) | (with_reducible refine Kd.C_drew ?_))); (case side2 => exact (Kd.R_reads' HO_6.out).2.1); (case side3 => exact Amb.below hG_ (by repeat (first | (with_reducible first | exact HB.out | apply below_alloc | apply pw_below_drewN | apply below_drew1) | exact HB.out))); rintro e w41 ⟨rfl, hb⟩; have n0_ := Aside0.mk (Kd.R_below (by (with_reducible repeat (first | apply Kd.R_alloc | apply Kd.R_drewN | apply Kd.R_drew)); exact HO_0.out) hb); have n1_ := Aside0.mk (Kd.R_below (by (with_reducible repeat (first | apply Kd.R_alloc | apply Kd.R_drewN | apply Kd.R_drew)); exact HO_6.out) hb); have n2_ := Aside0.mk (below_step (by repeat (first | (with_reducible first | exact HB.out | apply below_alloc | apply pw_below_drewN | apply below_drew1) | exact HB.out)) hb); clear HO_0; clear HO_6; clear HB; have HO_0 := n0_; have HO_6 := n1_; have HB := n2_; clear n0_ n1_ n2_; (try clear hb); (try clear hb2); (try clear hk); (try clear hi)) | (go_at_call 29; (with_reducible refine (digest_Leaf.calls ua1_ji5 t129 _ ?side1 A33.out).mono ?_); (case side1 => exact Amb.below hG_ (by repeat (first | (with_reducible first | exact HB.out | apply below_alloc | apply pw_below_drewN | apply below_drew1) | exact HB.out))); rintro e w42 ⟨rfl, hb⟩; have n0_ := Aside0.mk (Kd.R_below (by (with_reducible repeat (first | apply Kd.R_alloc | apply Kd.R_drewN | apply Kd.R_drew)); exact HO_0.out) hb); have n1_ := Aside0.mk (Kd.R_below (by (with_reducible repeat (first | apply Kd.R_alloc | apply Kd.R_drewN | apply Kd.R_drew)); exact HO_6.out) hb); have n2_ := Aside0.mk (below_step (by repeat (first | (with_reducible first | exact HB.out | apply below_alloc | apply pw_below_drewN | apply below_drew1) | exact HB.out)) hb); clear HO_0; clear HO_6; clear HB; have HO_0 := n0_; have HO_6 := n1_; have HB := n2_; clear n0_ n1_ n2_; (try clear hb); (try clear hb2); (try clear hk); (try clear hi)))
           go_ret
           exact ⟨by first | rfl | (simp [errW_none, errW_some] <;> rfl) | (simp only [← hji5]; first | rfl | (simp [errW_none, errW_some] <;> rfl)) | (simp [*, errW_none, errW_some] <;> rfl), by repeat (first | (with_reducible first | exact HB.out | apply below_alloc | apply pw_below_drewN | apply below_drew1) | exact HB.out)⟩
         ·replace c31 := Bool.eq_false_iff.mpr c31
          subst c31
          have H1 : (some false) = some r := by rw [if_neg (show ¬ (false = true) by decide)] at H; exact H
          clear H
          have H := H1
          clear H1
          obtain rfl := Option.some.inj H
          go_wp2
          go_ret
          exact ⟨by first | rfl | (simp [errW_none, errW_some] <;> rfl) | (simp only [← hji5]; first | rfl | (simp [errW_none, errW_some] <;> rfl)) | (simp [*, errW_none, errW_some] <;> rfl), by repeat (first | (with_reducible first | exact HB.out | apply below_alloc | apply pw_below_drewN | apply below_drew1) | exact HB.out)⟩
        ·rw [if_neg c30] at H
         have c30b0 : ((t109.length : Int) == 0) = false := beq_eq_false_iff_ne.mpr c30
         have c30b1 : ((t109.length : Int) != 0) = true := bne_iff_ne.mpr c30
         have c30b2 : ¬ (t109 = []) := fun h_ => c30 (by rw [h_]; rfl)
         replace H := Option.bind_eq_some_iff.mp H
         obtain ⟨t132, A430, H⟩ := H
         replace H : (if t108 = true then ((digest_Root.f y118).bind fun t133 => (if 0 ≤ t132 then (if t132 ≤ (y118.length : Int) then ((digest_Root.f (y118.take (t132 : Int).toNat)).bind fun t138 => ((digest_Root.f (y118.drop (t132 : Int).toNat)).bind fun t143 => ((digest_Node.f t138 t143).bind fun t144 => (some (t133.toList == t144.toList))))) else (none)) else (none))) else (some false)) = some r := H
         have A43 := Aside0.mk A430
         clear A430
         by_cases c44 : t108 = true
         ·subst c44
          have H1 : ((digest_Root.f y118).bind fun t133 => (if 0 ≤ t132 then (if t132 ≤ (y118.length : Int) then ((digest_Root.f (y118.take (t132 : Int).toNat)).bind fun t138 => ((digest_Root.f (y118.drop (t132 : Int).toNat)).bind fun t143 => ((digest_Node.f t138 t143).bind fun t144 => (some (t133.toList == t144.toList))))) else (none)) else (none))) = some r := by rw [if_pos rfl] at H; exact H
          clear H
          have H := H1
          clear H1
          replace H := Option.bind_eq_some_iff.mp H
          obtain ⟨t133, A450, H⟩ := H
          replace H : (if 0 ≤ t132 then (if t132 ≤ (y118.length : Int) then ((digest_Root.f (y118.take (t132 : Int).toNat)).bind fun t138 => ((digest_Root.f (y118.drop (t132 : Int).toNat)).bind fun t143 => ((digest_Node.f t138 t143).bind fun t144 => (some (t133.toList == t144.toList))))) else (none)) else (none)) = some r := H
          have A45 := Aside0.mk A450
          clear A450
          by_cases c46 : 0 ≤ t132
          ·rw [if_pos c46] at H
           have c46b0 := eq_true c46
           have c46b1 : decide (0 ≤ t132) = true := decide_eq_true c46
           clear c46
           by_cases c47 : t132 ≤ (y118.length : Int)
           ·rw [if_pos c47] at H
            have c47b0 := eq_true c47
            have c47b1 : decide (t132 ≤ (y118.length : Int)) = true := decide_eq_true c47
            clear c47
            obtain ⟨y134, hy134⟩ : ∃ y_ : List ByteArray, y_ = (y118.take (t132 : Int).toNat) := ⟨_, rfl⟩
            replace H : ((digest_Root.f y134).bind fun t138 => ((digest_Root.f (y118.drop (t132 : Int).toNat)).bind fun t143 => ((digest_Node.f t138 t143).bind fun t144 => (some (t133.toList == t144.toList))))) = some r := by first | (rw [hy134]; with_reducible exact H) | (have H2_ := (Option.bind_some _ _).symm.trans H; rw [hy134]; with_reducible exact H2_) | (have H2_ := (Option.bind_some _ _).symm.trans H; with_reducible exact H2_) | with_reducible exact H | (rw [hy134]; exact H) | exact H
            have Ny134 := Aside0.mk hy134
            clear hy134
            replace H := Option.bind_eq_some_iff.mp H
            obtain ⟨t138, A480, H⟩ := H
            replace H : ((digest_Root.f (y118.drop (t132 : Int).toNat)).bind fun t143 => ((digest_Node.f t138 t143).bind fun t144 => (some (t133.toList == t144.toList)))) = some r := H
            have A48 := Aside0.mk A480
            clear A480
            have c49b0 := eq_true (of_decide_eq_true (by first | (with_reducible assumption) | assumption) : 0 ≤ t132)
            have c50b0 := eq_true (of_decide_eq_true (by first | (with_reducible assumption) | assumption) : t132 ≤ (y118.length : Int))
            obtain ⟨y139, hy139⟩ : ∃ y_ : List ByteArray, y_ = (y118.drop (t132 : Int).toNat) := ⟨_, rfl⟩
            replace H : ((digest_Root.f y139).bind fun t143 => ((digest_Node.f t138 t143).bind fun t144 => (some (t133.toList == t144.toList)))) = some r := by first | (rw [hy139]; with_reducible exact H) | (have H2_ := (Option.bind_some _ _).symm.trans H; rw [hy139]; with_reducible exact H2_) | (have H2_ := (Option.bind_some _ _).symm.trans H; with_reducible exact H2_) | with_reducible exact H | (rw [hy139]; exact H) | exact H
            have Ny139 := Aside0.mk hy139
            clear hy139
            replace H := Option.bind_eq_some_iff.mp H
            obtain ⟨t143, A510, H⟩ := H
            replace H : ((digest_Node.f t138 t143).bind fun t144 => (some (t133.toList == t144.toList))) = some r := H
            have A51 := Aside0.mk A510
            clear A510
            replace H := Option.bind_eq_some_iff.mp H
            obtain ⟨t144, A520, H⟩ := H
            replace H : (some (t133.toList == t144.toList)) = some r := H
            have A52 := Aside0.mk A520
            clear A520
            obtain rfl := Option.some.inj H
            try go_wp2_with (first | ((with_reducible refine gate_callee (f := 31) rfl ?_); refine goesL_ (some 65) rfl rfl Tryd.func31 (by kernel_rfl) rfl #[.int .i64 (y118.length : Int)] rfl (by (try simp only [List.map_toArray, List.map_cons, List.map_nil]); first | done | rfl | (simp only [List.length_drop, List.length_take]; rfl)) ?_; (with_reducible refine (clearwaylaw02_left.calls kj10 (y118.length : Int) t132 _ A43.out).mono ?_); rintro e w' ⟨rfl, ⟨nd, rfl⟩⟩; refine ⟨_, rfl, ?_⟩))
            (try (rw [drewN_self wc]; generalize hq_ : World.drewN wc _ = wc; have n0_ : Aside0 (Kd.R Kd.string 9 wc w.heap.size (fun k_ => some k_ ≠ (.slice Ao19 y118.length co19 : Value).ownBlock) (.slice Ao17 t109.length co17) t109) := ⟨by rw [← hq_]; exact (by (with_reducible repeat (first | apply Kd.R_alloc | apply Kd.R_drewN | apply Kd.R_drew)); exact HO_0.out)⟩; have n1_ : Aside0 (Kd.R Kd.string 9 wc w.heap.size (fun k_ => some k_ ≠ (.slice Ao17 t109.length co17 : Value).ownBlock) (.slice Ao19 y118.length co19) y118) := ⟨by rw [← hq_]; exact (by (with_reducible repeat (first | apply Kd.R_alloc | apply Kd.R_drewN | apply Kd.R_drew)); exact HO_6.out)⟩; have n2_ : Aside0 (Below w.heap.size w wc) := ⟨by rw [← hq_]; exact (by repeat (first | (with_reducible first | exact HB.out | apply below_alloc | apply pw_below_drewN | apply below_drew1) | exact HB.out))⟩; clear HO_0 HO_6 HB hq_; have HO_0 := n0_; have HO_6 := n1_; have HB := n2_; clear n0_ n1_ n2_))
            have n0_ := Aside0.mk (Kd.R_drew HO_0.out)
            have n1_ := Aside0.mk (Kd.R_drew HO_6.out)
            have n2_ := Aside0.mk (below_drew1 HB.out)
            clear HO_0
            clear HO_6
            clear HB
            have HO_0 := n0_
            have HO_6 := n1_
            have HB := n2_
            clear n0_ n1_ n2_
            have q54 : (t132 : Int) ≤ ((y118.length : Int) : Int) := of_decide_eq_true (by first | (with_reducible assumption) | assumption)
            obtain ⟨i054, hi054, _, hsz54, _⟩ := info_parts info9
            have hroom54 : y118.length ≤ co19 := (Kd.R_reads' HO_6.out).2.1
            have hC54 : Kd.C Kd.string _ Ao19 y118.length y118 := (Kd.R_reads' HO_6.out).2.2
            have hcut54 := cut_to (P := Tryd.prog) 22 9 .i64 Tryd.underlying22 hi054 Ao19 y118.length co19 t132 (of_decide_eq_true (by first | (with_reducible assumption) | assumption)) q54 hroom54
            have hr54 := Kd.C_take (m := (t132 : Int).toNat) hC54 (by omega)
            have hy54 : y134.length = (t132 : Int).toNat := (by rw [Ny134.out, List.length_take]; omega)
            rw [← Ny134.out] at hr54
            rw [← hy54] at hcut54
            have HR137 := Aside0.mk hr54
            have HC137 := Aside0.mk (show y134.length ≤ co19 from by omega)
            clear hr54 hC54 hroom54 hi054 hsz54
            have KY54 := Aside0.mk hy54
            clear hy54
            have KL54 := Aside0.mk (show (t132 : Int).toNat ≤ y118.length from by omega)
            replace q54 := eq_true q54
            have q55 : (t132 : Int) ≤ ((y118.length : Int) : Int) := of_decide_eq_true (by first | (with_reducible assumption) | assumption)
            obtain ⟨i055, hi055, _, hsz55, _⟩ := info_parts info9
            have hroom55 : y118.length ≤ co19 := (Kd.R_reads' HO_6.out).2.1
            have hC55 : Kd.C Kd.string _ Ao19 y118.length y118 := (Kd.R_reads' HO_6.out).2.2
            have q055 : (0 : Int) ≤ (t132 : Int) := of_decide_eq_true (by first | (with_reducible assumption) | assumption)
            have hcut55 := cut_from (P := Tryd.prog) 22 9 .i64 Tryd.underlying22 hi055 1 hsz55 Ao19 y118.length co19 t132 q055 q55
            have hr55 := Kd.C_drop (m := (t132 : Int).toNat) (c := co19) hC55 (by omega) hroom55
            obtain ⟨A55, hA55⟩ : ∃ A1, A1 = (if co19 = (t132 : Int).toNat then Ao19 else (Ao19 : Option Addr).map (·.add ((t132 : Int).toNat * 1))) := ⟨_, rfl⟩
            obtain ⟨c55, hc55⟩ : ∃ c1, c1 = co19 - (t132 : Int).toNat := ⟨_, rfl⟩
            have hy55 : y139.length = y118.length - (t132 : Int).toNat := (by rw [Ny139.out, List.length_drop] <;> omega)
            rw [show (y118).drop (t132 : Int).toNat = y139 from Ny139.out.symm] at hr55
            replace hr55 : Kd.C Kd.string _ A55 y139.length y139 := (by rw [hA55]; exact hr55)
            rw [← hy55, ← hA55, ← hc55] at hcut55
            have HR142 := Aside0.mk hr55
            have HC142 := Aside0.mk (show y139.length ≤ c55 from by rw [hy55, hc55]; exact Nat.sub_le_sub_right hroom55 _)
            clear hr55 hC55 hroom55 hi055 hsz55 hc55
            have KY55 := Aside0.mk hy55
            have KA55 := Aside0.mk hA55
            clear hy55 hA55
            have KL55 := Aside0.mk (show (t132 : Int).toNat ≤ y118.length from by omega)
            replace q55 := eq_true q55
            refine start_ (n := 16) (S := fun w' => True) (ds := []) #[false, false, false, false, false, false, false, false, false, false, false, false, false, false, false, false] (by kernel_rfl) rfl rfl trivial (fun hHeld => ?_); refine with_tabW clearwaylaw02_DigestSplit.tab11 clearwaylaw02_DigestSplit.bits11 (fun HT_ HW_ => ?_)
            generalize wc.drew = w53 at HO_0 HO_6 HB HR137 HR142 hHeld ⊢
            refine pure_ (i := 0) (N := some 66) (v := ?_) (a' := ?_) #[true, false, false, false, false, false, false, false, false, false, false, false, false, false, false, false] rfl rfl (any_of HT_.out (by kernel_rfl)) (fun _ _ _ h => h) (Or.inl ⟨by rfl, ?_⟩) ?_ ?_
            rotate_left
            ·intro w'
             go_simp
             with_reducible rfl
            rotate_left
            ·simp only [Act.put, List.setIfInBounds_toArray, List.set_cons_zero, List.set_cons_succ, i64_w, i32_w]
             rfl
            refine pure_ (i := 1) (N := some 67) (v := ?_) (a' := ?_) #[true, true, false, false, false, false, false, false, false, false, false, false, false, false, false, false] rfl rfl (any_of HT_.out (by kernel_rfl)) (fun _ _ _ h => h) (Or.inl ⟨by rfl, ?_⟩) ?_ ?_
            rotate_left
            ·intro w'
             go_simp
             with_reducible rfl
            rotate_left
            ·simp only [Act.put, List.setIfInBounds_toArray, List.set_cons_zero, List.set_cons_succ, i64_w, i32_w]
             rfl
            refine pure_ (i := 2) (N := some 68) (v := ?_) (a' := ?_) #[true, true, true, false, false, false, false, false, false, false, false, false, false, false, false, false] rfl rfl (any_of HT_.out (by kernel_rfl)) (fun _ _ _ h => h) (Or.inl ⟨by rfl, ?_⟩) ?_ ?_
            rotate_left
            ·intro w'
             go_simp
             with_reducible rfl
            rotate_left
            ·simp only [Act.put, List.setIfInBounds_toArray, List.set_cons_zero, List.set_cons_succ, i64_w, i32_w]
             rfl
            refine pure_ (i := 4) (N := some 70) (v := ?_) (a' := ?_) #[true, true, true, false, true, false, false, false, false, false, false, false, false, false, false, false] rfl rfl (any_of HT_.out (by kernel_rfl)) (fun _ _ _ h => h) (Or.inl ⟨by rfl, ?_⟩) ?_ ?_
            rotate_left
            ·intro w'
             go_simp
             with_reducible rfl
            rotate_left
            ·simp only [Act.put, List.setIfInBounds_toArray, List.set_cons_zero, List.set_cons_succ, i64_w, i32_w]
             rfl
            refine pure_ (i := 5) (N := some 71) (v := ?_) (a' := ?_) #[true, true, true, false, true, true, false, false, false, false, false, false, false, false, false, false] rfl rfl (any_of HT_.out (by kernel_rfl)) (fun _ _ _ h => h) (Or.inl ⟨by rfl, ?_⟩) ?_ ?_
            rotate_left
            ·intro w'
             go_simp
             with_reducible rfl
            rotate_left
            ·simp only [Act.put, List.setIfInBounds_toArray, List.set_cons_zero, List.set_cons_succ, i64_w, i32_w]
             rfl
            refine pure_ (i := 6) (N := some 72) (v := ?_) (a' := ?_) #[true, true, true, false, true, true, true, false, false, false, false, false, false, false, false, false] rfl rfl (any_of HT_.out (by kernel_rfl)) (fun _ _ _ h => h) (Or.inl ⟨by rfl, ?_⟩) ?_ ?_
            rotate_left
            ·intro w'
             go_simp
             with_reducible rfl
            rotate_left
            ·simp only [Act.put, List.setIfInBounds_toArray, List.set_cons_zero, List.set_cons_succ, i64_w, i32_w]
             rfl
            refine pure_ (i := 8) (N := some 74) (v := ?_) (a' := ?_) #[true, true, true, false, true, true, true, false, true, false, false, false, false, false, false, false] rfl rfl (any_of HT_.out (by kernel_rfl)) (fun _ _ _ h => h) (Or.inl ⟨by rfl, ?_⟩) ?_ ?_
            rotate_left
            ·intro w'
             go_simp
             with_reducible rfl
            rotate_left
            ·simp only [Act.put, List.setIfInBounds_toArray, List.set_cons_zero, List.set_cons_succ, i64_w, i32_w]
             rfl
            refine pure_ (i := 9) (N := some 75) (v := ?_) (a' := ?_) #[true, true, true, false, true, true, true, false, true, true, false, false, false, false, false, false] rfl rfl (any_of HT_.out (by kernel_rfl)) (fun _ _ _ h => h) (Or.inl ⟨by rfl, ?_⟩) ?_ ?_
            rotate_left
            ·intro w'
             go_simp
             with_reducible rfl
            rotate_left
            ·simp only [Act.put, List.setIfInBounds_toArray, List.set_cons_zero, List.set_cons_succ, i64_w, i32_w]
             rfl
            refine pure_ (i := 10) (N := some 76) (v := ?_) (a' := ?_) #[true, true, true, false, true, true, true, false, true, true, true, false, false, false, false, false] rfl rfl (any_of HT_.out (by kernel_rfl)) (fun _ _ _ h => h) (Or.inl ⟨by rfl, ?_⟩) ?_ ?_
            rotate_left
            ·intro w'
             go_simp
             with_reducible rfl
            rotate_left
            ·simp only [Act.put, List.setIfInBounds_toArray, List.set_cons_zero, List.set_cons_succ, i64_w, i32_w]
             rfl
            refine one_ (i := 3) (N := some 69) #[true, true, true, true, true, true, true, false, true, true, true, false, false, false, false, false] rfl rfl (one_of HT_.out (by kernel_rfl)) (by decide) (fun K hK => ?_)
            refine goes_ Tryd.func19 (by kernel_rfl) rfl #[.slice Ao19 y118.length co19] (by rfl) rfl rfl (by (try simp only [List.map_toArray, List.map_cons, List.map_nil]); first | done | rfl | (simp only [List.length_drop, List.length_take]; rfl)) ?_
            with_reducible refine (digest_Root.calls _ _ y118 t133 _ ?side1 ?side2 ?side3 A45.out).mono ?_
            (case side1 => repeat (first | exact (Kd.R_reads' HO_6.out).2.2 | (with_reducible refine Kd.C_alloc ?_ _) | (with_reducible refine Kd.C_drewN ?_ _) | (with_reducible refine Kd.C_drew ?_)))
            (case side2 => exact (Kd.R_reads' HO_6.out).2.1)
            (case side3 => exact Amb.below hG_ (by repeat (first | (with_reducible first | exact HB.out | apply below_alloc | apply pw_below_drewN | apply below_drew1) | exact HB.out)))
            rintro e w56 ⟨rfl, hb⟩
            refine ⟨_, rfl, ?_⟩
            have n0_ := Aside0.mk (Kd.R_below (by (with_reducible repeat (first | apply Kd.R_alloc | apply Kd.R_drewN | apply Kd.R_drew)); exact HO_0.out) hb)
            have n1_ := Aside0.mk (Kd.R_below (by (with_reducible repeat (first | apply Kd.R_alloc | apply Kd.R_drewN | apply Kd.R_drew)); exact HO_6.out) hb)
            have n2_ := Aside0.mk (Kd.C_below (by repeat (first | (with_reducible exact HR137.out) | (with_reducible refine Kd.C_alloc ?_ _) | (with_reducible refine Kd.C_drewN ?_ _) | (with_reducible refine Kd.C_drew ?_) | exact HR137.out)) hb)
            have n3_ := Aside0.mk (Kd.C_below (by repeat (first | (with_reducible exact HR142.out) | (with_reducible refine Kd.C_alloc ?_ _) | (with_reducible refine Kd.C_drewN ?_ _) | (with_reducible refine Kd.C_drew ?_) | exact HR142.out)) hb)
            have n4_ := Aside0.mk (below_step (by repeat (first | (with_reducible first | exact HB.out | apply below_alloc | apply pw_below_drewN | apply below_drew1) | exact HB.out)) hb)
            clear HO_0
            clear HO_6
            clear HR137
            clear HR142
            clear HB
            have HO_0 := n0_
            have HO_6 := n1_
            have HR137 := n2_
            have HR142 := n3_
            have HB := n4_
            clear n0_ n1_ n2_ n3_ n4_
            (try clear hb)
            (try clear hb2)
            (try clear hk)
            (try clear hi)
            refine hK.out _ _ trivial (fun hHeld => ?_)
            clear hK K
            refine norm_ (a' := ?_) ?_ ?_
            rotate_left
            ·show Act.put _ (some 69) _ = _
             simp only [Act.put, List.setIfInBounds_toArray, List.set_cons_zero, List.set_cons_succ, i64_w, i32_w]
             rfl
            refine one_ (i := 7) (N := some 73) #[true, true, true, true, true, true, true, true, true, true, true, false, false, false, false, false] rfl rfl (one_of HT_.out (by kernel_rfl)) (by decide) (fun K hK => ?_)
            refine goes_ Tryd.func19 (by kernel_rfl) rfl #[.slice Ao19 y134.length co19] (by rfl) rfl rfl (by (try simp only [List.map_toArray, List.map_cons, List.map_nil]); first | done | rfl | (simp only [List.length_drop, List.length_take]; rfl)) ?_
            with_reducible refine (digest_Root.calls _ _ y134 t138 _ ?side1 ?side2 ?side3 A48.out).mono ?_
            (case side1 => repeat (first | exact (by repeat (first | (with_reducible exact HR137.out) | (with_reducible refine Kd.C_alloc ?_ _) | (with_reducible refine Kd.C_drewN ?_ _) | (with_reducible refine Kd.C_drew ?_) | exact HR137.out)) | (with_reducible refine Kd.C_alloc ?_ _) | (with_reducible refine Kd.C_drewN ?_ _) | (with_reducible refine Kd.C_drew ?_)))
            (case side2 => exact HC137.out)
            (case side3 => exact Amb.below hG_ (by repeat (first | (with_reducible first | exact HB.out | apply below_alloc | apply pw_below_drewN | apply below_drew1) | exact HB.out)))
            rintro e w57 ⟨rfl, hb⟩
            refine ⟨_, rfl, ?_⟩
            have n0_ := Aside0.mk (Kd.R_below (by (with_reducible repeat (first | apply Kd.R_alloc | apply Kd.R_drewN | apply Kd.R_drew)); exact HO_0.out) hb)
            have n1_ := Aside0.mk (Kd.R_below (by (with_reducible repeat (first | apply Kd.R_alloc | apply Kd.R_drewN | apply Kd.R_drew)); exact HO_6.out) hb)
            have n2_ := Aside0.mk (Kd.C_below (by repeat (first | (with_reducible exact HR137.out) | (with_reducible refine Kd.C_alloc ?_ _) | (with_reducible refine Kd.C_drewN ?_ _) | (with_reducible refine Kd.C_drew ?_) | exact HR137.out)) hb)
            have n3_ := Aside0.mk (Kd.C_below (by repeat (first | (with_reducible exact HR142.out) | (with_reducible refine Kd.C_alloc ?_ _) | (with_reducible refine Kd.C_drewN ?_ _) | (with_reducible refine Kd.C_drew ?_) | exact HR142.out)) hb)
            have n4_ := Aside0.mk (below_step (by repeat (first | (with_reducible first | exact HB.out | apply below_alloc | apply pw_below_drewN | apply below_drew1) | exact HB.out)) hb)
            clear HO_0
            clear HO_6
            clear HR137
            clear HR142
            clear HB
            have HO_0 := n0_
            have HO_6 := n1_
            have HR137 := n2_
            have HR142 := n3_
            have HB := n4_
            clear n0_ n1_ n2_ n3_ n4_
            (try clear hb)
            (try clear hb2)
            (try clear hk)
            (try clear hi)
            refine hK.out _ _ trivial (fun hHeld => ?_)
            clear hK K
            refine norm_ (a' := ?_) ?_ ?_
            rotate_left
            ·show Act.put _ (some 73) _ = _
             simp only [Act.put, List.setIfInBounds_toArray, List.set_cons_zero, List.set_cons_succ, i64_w, i32_w]
             rfl
            refine one_ (i := 11) (N := some 77) #[true, true, true, true, true, true, true, true, true, true, true, true, false, false, false, false] rfl rfl (one_of HT_.out (by kernel_rfl)) (by decide) (fun K hK => ?_)
            refine goes_ Tryd.func19 (by kernel_rfl) rfl #[.slice A55 y139.length c55] (by rfl) rfl rfl (by (try simp only [List.map_toArray, List.map_cons, List.map_nil]); first | done | rfl | (simp only [List.length_drop, List.length_take]; rfl)) ?_
            with_reducible refine (digest_Root.calls _ _ y139 t143 _ ?side1 ?side2 ?side3 A51.out).mono ?_
            (case side1 => repeat (first | exact (by repeat (first | (with_reducible exact HR142.out) | (with_reducible refine Kd.C_alloc ?_ _) | (with_reducible refine Kd.C_drewN ?_ _) | (with_reducible refine Kd.C_drew ?_) | exact HR142.out)) | (with_reducible refine Kd.C_alloc ?_ _) | (with_reducible refine Kd.C_drewN ?_ _) | (with_reducible refine Kd.C_drew ?_)))
            (case side2 => exact HC142.out)
            (case side3 => exact Amb.below hG_ (by repeat (first | (with_reducible first | exact HB.out | apply below_alloc | apply pw_below_drewN | apply below_drew1) | exact HB.out)))
            rintro e w58 ⟨rfl, hb⟩
            refine ⟨_, rfl, ?_⟩
            have n0_ := Aside0.mk (Kd.R_below (by (with_reducible repeat (first | apply Kd.R_alloc | apply Kd.R_drewN | apply Kd.R_drew)); exact HO_0.out) hb)
            have n1_ := Aside0.mk (Kd.R_below (by (with_reducible repeat (first | apply Kd.R_alloc | apply Kd.R_drewN | apply Kd.R_drew)); exact HO_6.out) hb)
            have n2_ := Aside0.mk (Kd.C_below (by repeat (first | (with_reducible exact HR137.out) | (with_reducible refine Kd.C_alloc ?_ _) | (with_reducible refine Kd.C_drewN ?_ _) | (with_reducible refine Kd.C_drew ?_) | exact HR137.out)) hb)
            have n3_ := Aside0.mk (Kd.C_below (by repeat (first | (with_reducible exact HR142.out) | (with_reducible refine Kd.C_alloc ?_ _) | (with_reducible refine Kd.C_drewN ?_ _) | (with_reducible refine Kd.C_drew ?_) | exact HR142.out)) hb)
            have n4_ := Aside0.mk (below_step (by repeat (first | (with_reducible first | exact HB.out | apply below_alloc | apply pw_below_drewN | apply below_drew1) | exact HB.out)) hb)
            clear HO_0
            clear HO_6
            clear HR137
            clear HR142
            clear HB
            have HO_0 := n0_
            have HO_6 := n1_
            have HR137 := n2_
            have HR142 := n3_
            have HB := n4_
            clear n0_ n1_ n2_ n3_ n4_
            (try clear hb)
            (try clear hb2)
            (try clear hk)
            (try clear hi)
            refine hK.out _ _ trivial (fun hHeld => ?_)
            clear hK K
            refine norm_ (a' := ?_) ?_ ?_
            rotate_left
            ·show Act.put _ (some 77) _ = _
             simp only [Act.put, List.setIfInBounds_toArray, List.set_cons_zero, List.set_cons_succ, i64_w, i32_w]
             rfl
            refine one_ (i := 12) (N := some 78) #[true, true, true, true, true, true, true, true, true, true, true, true, true, false, false, false] rfl rfl (one_of HT_.out (by kernel_rfl)) (by decide) (fun K hK => ?_)
            refine goes_ Tryd.func32 (by kernel_rfl) rfl #[.string t138, .string t143] (by rfl) rfl rfl (by (try simp only [List.map_toArray, List.map_cons, List.map_nil]); first | done | rfl | (simp only [List.length_drop, List.length_take]; rfl)) ?_
            with_reducible refine (digest_Node.calls t138 t143 t144 _ ?side1 A52.out).mono ?_
            (case side1 => exact Amb.below hG_ (by repeat (first | (with_reducible first | exact HB.out | apply below_alloc | apply pw_below_drewN | apply below_drew1) | exact HB.out)))
            rintro e w59 ⟨rfl, hb⟩
            refine ⟨_, rfl, ?_⟩
            have n0_ := Aside0.mk (Kd.R_below (by (with_reducible repeat (first | apply Kd.R_alloc | apply Kd.R_drewN | apply Kd.R_drew)); exact HO_0.out) hb)
            have n1_ := Aside0.mk (Kd.R_below (by (with_reducible repeat (first | apply Kd.R_alloc | apply Kd.R_drewN | apply Kd.R_drew)); exact HO_6.out) hb)
            have n2_ := Aside0.mk (Kd.C_below (by repeat (first | (with_reducible exact HR137.out) | (with_reducible refine Kd.C_alloc ?_ _) | (with_reducible refine Kd.C_drewN ?_ _) | (with_reducible refine Kd.C_drew ?_) | exact HR137.out)) hb)
            have n3_ := Aside0.mk (Kd.C_below (by repeat (first | (with_reducible exact HR142.out) | (with_reducible refine Kd.C_alloc ?_ _) | (with_reducible refine Kd.C_drewN ?_ _) | (with_reducible refine Kd.C_drew ?_) | exact HR142.out)) hb)
            have n4_ := Aside0.mk (below_step (by repeat (first | (with_reducible first | exact HB.out | apply below_alloc | apply pw_below_drewN | apply below_drew1) | exact HB.out)) hb)
            clear HO_0
            clear HO_6
            clear HR137
            clear HR142
            clear HB
            have HO_0 := n0_
            have HO_6 := n1_
            have HR137 := n2_
            have HR142 := n3_
            have HB := n4_
            clear n0_ n1_ n2_ n3_ n4_
            (try clear hb)
            (try clear hb2)
            (try clear hk)
            (try clear hi)
            refine hK.out _ _ trivial (fun hHeld => ?_)
            clear hK K
            refine norm_ (a' := ?_) ?_ ?_
            rotate_left
            ·show Act.put _ (some 78) _ = _
             simp only [Act.put, List.setIfInBounds_toArray, List.set_cons_zero, List.set_cons_succ, i64_w, i32_w]
             rfl
            refine pure_ (i := 13) (N := some 79) (v := ?_) (a' := ?_) #[true, true, true, true, true, true, true, true, true, true, true, true, true, true, false, false] rfl rfl (any_of HT_.out (by kernel_rfl)) (fun _ _ _ h => h) (Or.inl ⟨by rfl, ?_⟩) ?_ ?_
            rotate_left
            ·intro w'
             go_simp
             with_reducible rfl
            rotate_left
            ·simp only [Act.put, List.setIfInBounds_toArray, List.set_cons_zero, List.set_cons_succ, i64_w, i32_w]
             rfl
            refine pure_ (i := 14) (N := some 80) (v := ?_) (a' := ?_) #[true, true, true, true, true, true, true, true, true, true, true, true, true, true, true, false] rfl rfl (any_of HT_.out (by kernel_rfl)) (fun _ _ _ h => h) (Or.inl ⟨by rfl, ?_⟩) ?_ ?_
            rotate_left
            ·intro w'
             go_simp
             with_reducible rfl
            rotate_left
            ·simp only [Act.put, List.setIfInBounds_toArray, List.set_cons_zero, List.set_cons_succ, i64_w, i32_w]
             rfl
            refine pure_ (i := 15) (N := some 4) (v := ?_) (a' := ?_) #[true, true, true, true, true, true, true, true, true, true, true, true, true, true, true, true] rfl rfl (any_of HT_.out (by kernel_rfl)) (fun _ _ _ h => h) (Or.inl ⟨by rfl, ?_⟩) ?_ ?_
            rotate_left
            ·intro w'
             go_simp
             with_reducible rfl
            rotate_left
            ·simp only [Act.put, List.setIfInBounds_toArray, List.set_cons_zero, List.set_cons_succ, i64_w, i32_w]
             rfl
            refine done_ (done_of HT_.out (by kernel_rfl)) ?_
            try go_wp2
            go_ret
            exact ⟨by first | rfl | (simp [errW_none, errW_some] <;> rfl) | (simp only [← hji5]; first | rfl | (simp [errW_none, errW_some] <;> rfl)) | (simp [*, errW_none, errW_some] <;> rfl), by repeat (first | (with_reducible first | exact HB.out | apply below_alloc | apply pw_below_drewN | apply below_drew1) | exact HB.out)⟩
           ·rw [if_neg c47] at H
            exact absurd H (by simp)
          ·rw [if_neg c46] at H
           exact absurd H (by simp)
         ·replace c44 := Bool.eq_false_iff.mpr c44
          subst c44
          have H1 : (some false) = some r := by rw [if_neg (show ¬ (false = true) by decide)] at H; exact H
          clear H
          have H := H1
          clear H1
          obtain rfl := Option.some.inj H
          try go_wp2_with (first | ((with_reducible refine gate_callee (f := 31) rfl ?_); refine goesL_ (some 65) rfl rfl Tryd.func31 (by kernel_rfl) rfl #[.int .i64 (y118.length : Int)] rfl (by (try simp only [List.map_toArray, List.map_cons, List.map_nil]); first | done | rfl | (simp only [List.length_drop, List.length_take]; rfl)) ?_; (with_reducible refine (clearwaylaw02_left.calls kj10 (y118.length : Int) t132 _ A43.out).mono ?_); rintro e w' ⟨rfl, ⟨nd, rfl⟩⟩; refine ⟨_, rfl, ?_⟩))
          (try (rw [drewN_self wc]; generalize hq_ : World.drewN wc _ = wc; have n0_ : Aside0 (Kd.R Kd.string 9 wc w.heap.size (fun k_ => some k_ ≠ (.slice Ao19 y118.length co19 : Value).ownBlock) (.slice Ao17 t109.length co17) t109) := ⟨by rw [← hq_]; exact (by (with_reducible repeat (first | apply Kd.R_alloc | apply Kd.R_drewN | apply Kd.R_drew)); exact HO_0.out)⟩; have n1_ : Aside0 (Kd.R Kd.string 9 wc w.heap.size (fun k_ => some k_ ≠ (.slice Ao17 t109.length co17 : Value).ownBlock) (.slice Ao19 y118.length co19) y118) := ⟨by rw [← hq_]; exact (by (with_reducible repeat (first | apply Kd.R_alloc | apply Kd.R_drewN | apply Kd.R_drew)); exact HO_6.out)⟩; have n2_ : Aside0 (Below w.heap.size w wc) := ⟨by rw [← hq_]; exact (by repeat (first | (with_reducible first | exact HB.out | apply below_alloc | apply pw_below_drewN | apply below_drew1) | exact HB.out))⟩; clear HO_0 HO_6 HB hq_; have HO_0 := n0_; have HO_6 := n1_; have HB := n2_; clear n0_ n1_ n2_))
          have n0_ := Aside0.mk (Kd.R_drew HO_0.out)
          have n1_ := Aside0.mk (Kd.R_drew HO_6.out)
          have n2_ := Aside0.mk (below_drew1 HB.out)
          clear HO_0
          clear HO_6
          clear HB
          have HO_0 := n0_
          have HO_6 := n1_
          have HB := n2_
          clear n0_ n1_ n2_
          refine start_ (n := 16) (S := fun w' => True) (ds := []) #[false, false, false, false, false, false, false, false, false, false, false, false, false, false, false, false] (by kernel_rfl) rfl rfl trivial (fun hHeld => ?_); refine with_tabW clearwaylaw02_DigestSplit.tab11 clearwaylaw02_DigestSplit.bits11 (fun HT_ HW_ => ?_)
          generalize wc.drew = w60 at HO_0 HO_6 HB hHeld ⊢
          refine pure_ (i := 0) (N := some 66) (v := ?_) (a' := ?_) #[true, false, false, false, false, false, false, false, false, false, false, false, false, false, false, false] rfl rfl (any_of HT_.out (by kernel_rfl)) (fun _ _ _ h => h) (Or.inl ⟨by rfl, ?_⟩) ?_ ?_
          rotate_left
          ·intro w'
           go_simp
           with_reducible rfl
          rotate_left
          ·simp only [Act.put, List.setIfInBounds_toArray, List.set_cons_zero, List.set_cons_succ, i64_w, i32_w]
           rfl
          refine pure_ (i := 1) (N := some 67) (v := ?_) (a' := ?_) #[true, true, false, false, false, false, false, false, false, false, false, false, false, false, false, false] rfl rfl (any_of HT_.out (by kernel_rfl)) (fun _ _ _ h => h) (Or.inl ⟨by rfl, ?_⟩) ?_ ?_
          rotate_left
          ·intro w'
           go_simp
           with_reducible rfl
          rotate_left
          ·simp only [Act.put, List.setIfInBounds_toArray, List.set_cons_zero, List.set_cons_succ, i64_w, i32_w]
           rfl
          refine pure_ (i := 2) (N := some 68) (v := undef) (a' := ?_) #[true, true, true, false, false, false, false, false, false, false, false, false, false, false, false, false] rfl rfl (any_of HT_.out (by kernel_rfl)) (fun _ _ _ h => h) (Or.inr ⟨by rfl, rfl⟩) ?_ ?_
          rotate_left
          ·simp only [Act.put, List.setIfInBounds_toArray, List.set_cons_zero, List.set_cons_succ, i64_w, i32_w]
           rfl
          refine pure_ (i := 3) (N := some 69) (v := undef) (a' := ?_) #[true, true, true, true, false, false, false, false, false, false, false, false, false, false, false, false] rfl rfl (any_of HT_.out (by kernel_rfl)) (fun _ _ _ h => h) (Or.inr ⟨by rfl, rfl⟩) ?_ ?_
          rotate_left
          ·simp only [Act.put, List.setIfInBounds_toArray, List.set_cons_zero, List.set_cons_succ, i64_w, i32_w]
           rfl
          refine pure_ (i := 4) (N := some 70) (v := undef) (a' := ?_) #[true, true, true, true, true, false, false, false, false, false, false, false, false, false, false, false] rfl rfl (any_of HT_.out (by kernel_rfl)) (fun _ _ _ h => h) (Or.inr ⟨by rfl, rfl⟩) ?_ ?_
          rotate_left
          ·simp only [Act.put, List.setIfInBounds_toArray, List.set_cons_zero, List.set_cons_succ, i64_w, i32_w]
           rfl
          refine pure_ (i := 5) (N := some 71) (v := undef) (a' := ?_) #[true, true, true, true, true, true, false, false, false, false, false, false, false, false, false, false] rfl rfl (any_of HT_.out (by kernel_rfl)) (fun _ _ _ h => h) (Or.inr ⟨by rfl, rfl⟩) ?_ ?_
          rotate_left
          ·simp only [Act.put, List.setIfInBounds_toArray, List.set_cons_zero, List.set_cons_succ, i64_w, i32_w]
           rfl
          refine pure_ (i := 6) (N := some 72) (v := undef) (a' := ?_) #[true, true, true, true, true, true, true, false, false, false, false, false, false, false, false, false] rfl rfl (any_of HT_.out (by kernel_rfl)) (fun _ _ _ h => h) (Or.inr ⟨by rfl, rfl⟩) ?_ ?_
          rotate_left
          ·simp only [Act.put, List.setIfInBounds_toArray, List.set_cons_zero, List.set_cons_succ, i64_w, i32_w]
           rfl
          refine pure_ (i := 7) (N := some 73) (v := undef) (a' := ?_) #[true, true, true, true, true, true, true, true, false, false, false, false, false, false, false, false] rfl rfl (any_of HT_.out (by kernel_rfl)) (fun _ _ _ h => h) (Or.inr ⟨by rfl, rfl⟩) ?_ ?_
          rotate_left
          ·simp only [Act.put, List.setIfInBounds_toArray, List.set_cons_zero, List.set_cons_succ, i64_w, i32_w]
           rfl
          refine pure_ (i := 8) (N := some 74) (v := undef) (a' := ?_) #[true, true, true, true, true, true, true, true, true, false, false, false, false, false, false, false] rfl rfl (any_of HT_.out (by kernel_rfl)) (fun _ _ _ h => h) (Or.inr ⟨by rfl, rfl⟩) ?_ ?_
          rotate_left
          ·simp only [Act.put, List.setIfInBounds_toArray, List.set_cons_zero, List.set_cons_succ, i64_w, i32_w]
           rfl
          refine pure_ (i := 9) (N := some 75) (v := undef) (a' := ?_) #[true, true, true, true, true, true, true, true, true, true, false, false, false, false, false, false] rfl rfl (any_of HT_.out (by kernel_rfl)) (fun _ _ _ h => h) (Or.inr ⟨by rfl, rfl⟩) ?_ ?_
          rotate_left
          ·simp only [Act.put, List.setIfInBounds_toArray, List.set_cons_zero, List.set_cons_succ, i64_w, i32_w]
           rfl
          refine pure_ (i := 10) (N := some 76) (v := undef) (a' := ?_) #[true, true, true, true, true, true, true, true, true, true, true, false, false, false, false, false] rfl rfl (any_of HT_.out (by kernel_rfl)) (fun _ _ _ h => h) (Or.inr ⟨by rfl, rfl⟩) ?_ ?_
          rotate_left
          ·simp only [Act.put, List.setIfInBounds_toArray, List.set_cons_zero, List.set_cons_succ, i64_w, i32_w]
           rfl
          refine pure_ (i := 11) (N := some 77) (v := undef) (a' := ?_) #[true, true, true, true, true, true, true, true, true, true, true, true, false, false, false, false] rfl rfl (any_of HT_.out (by kernel_rfl)) (fun _ _ _ h => h) (Or.inr ⟨by rfl, rfl⟩) ?_ ?_
          rotate_left
          ·simp only [Act.put, List.setIfInBounds_toArray, List.set_cons_zero, List.set_cons_succ, i64_w, i32_w]
           rfl
          refine pure_ (i := 12) (N := some 78) (v := undef) (a' := ?_) #[true, true, true, true, true, true, true, true, true, true, true, true, true, false, false, false] rfl rfl (any_of HT_.out (by kernel_rfl)) (fun _ _ _ h => h) (Or.inr ⟨by rfl, rfl⟩) ?_ ?_
          rotate_left
          ·simp only [Act.put, List.setIfInBounds_toArray, List.set_cons_zero, List.set_cons_succ, i64_w, i32_w]
           rfl
          refine pure_ (i := 13) (N := some 79) (v := undef) (a' := ?_) #[true, true, true, true, true, true, true, true, true, true, true, true, true, true, false, false] rfl rfl (any_of HT_.out (by kernel_rfl)) (fun _ _ _ h => h) (Or.inr ⟨by rfl, rfl⟩) ?_ ?_
          rotate_left
          ·simp only [Act.put, List.setIfInBounds_toArray, List.set_cons_zero, List.set_cons_succ, i64_w, i32_w]
           rfl
          refine pure_ (i := 14) (N := some 80) (v := ?_) (a' := ?_) #[true, true, true, true, true, true, true, true, true, true, true, true, true, true, true, false] rfl rfl (any_of HT_.out (by kernel_rfl)) (fun _ _ _ h => h) (Or.inl ⟨by rfl, ?_⟩) ?_ ?_
          rotate_left
          ·intro w'
           go_simp
           with_reducible rfl
          rotate_left
          ·simp only [Act.put, List.setIfInBounds_toArray, List.set_cons_zero, List.set_cons_succ, i64_w, i32_w]
           rfl
          refine pure_ (i := 15) (N := some 4) (v := ?_) (a' := ?_) #[true, true, true, true, true, true, true, true, true, true, true, true, true, true, true, true] rfl rfl (any_of HT_.out (by kernel_rfl)) (fun _ _ _ h => h) (Or.inl ⟨by rfl, ?_⟩) ?_ ?_
          rotate_left
          ·intro w'
           go_simp
           with_reducible rfl
          rotate_left
          ·simp only [Act.put, List.setIfInBounds_toArray, List.set_cons_zero, List.set_cons_succ, i64_w, i32_w]
           rfl
          refine done_ (done_of HT_.out (by kernel_rfl)) ?_
          try go_wp2
          go_ret
          exact ⟨by first | rfl | (simp [errW_none, errW_some] <;> rfl) | (simp only [← hji5]; first | rfl | (simp [errW_none, errW_some] <;> rfl)) | (simp [*, errW_none, errW_some] <;> rfl), by repeat (first | (with_reducible first | exact HB.out | apply below_alloc | apply pw_below_drewN | apply below_drew1) | exact HB.out)⟩
    ·rw [if_neg c9] at H
     exact absurd H (by simp)
   ·rw [if_neg c8] at H
    exact absurd H (by simp)
  ·rw [if_neg c7] at H
   exact absurd H (by simp)
 ·rw [if_neg c6] at H
  exact absurd H (by simp)

end Go.Proofs.YtjkdenldddjcnaaDoor.Di
set_option linter.unusedVariables false
set_option linter.unusedSimpArgs false
namespace Go.Proofs.YtjkdenldddjcnaaDoor.Sha
open Go Go.RowKit Go.Proofs.YtjkdenldddjcnaaDoor.Df Go.Proofs.YtjkdenldddjcnaaDoor.Di Go.Proofs.YtjkdenldddjcnaaDoorW.PrintWords Go.Proofs.YtjkdenldddjcnaaDoorW.PrintLast Go.Proofs.YtjkdenldddjcnaaDoorW.PrintMore

theorem split_f (l0 : List ByteArray) (a1 : ByteArray) : ∃ k, clearwaylaw02_DigestSplit.f k l0 a1 = some true := by
  refine ⟨1000, ?_⟩
  have sane1000 : clearwaylaw02_sane.f 1000 = some true := by
    have step : ∀ n, clearwaylaw02_sane.f (200 + n) = some true := by
      intro n
      induction n with
      | zero => exact sane_f
      | succ n ih => exact clearwaylaw02_sane.mono (200 + n) _ ih
    exact step 800
  obtain ⟨l, hl, hll, hls⟩ := few_f l0 40 1000 (by decide) (by decide)
  have hl' : clearwaylaw02_few.f 1000 l0 40 = some l := hl
  obtain ⟨s, hs⟩ : ∃ s, a1.extract 0 (mn (a1.size : Int) 60).toNat = s := ⟨_, rfl⟩
  obtain ⟨c0, c1, c2⟩ := mn_cut a1 60 (by decide)
  rw [hs] at c2
  have sl : small l = true := small_of 40 hll (by decide) hls
  have sm : small (l ++ [s]) = true := small_of 41 (by simp; omega) (by decide) (fun x hx => by
    rcases List.mem_append.1 hx with h | h
    · exact hls x h
    · rw [List.mem_singleton.1 h]; omega)
  have hml : (l ++ [s]).length = l.length + 1 := by simp
  unfold clearwaylaw02_DigestSplit.f
  simp only [extC_f]
  rw [sane1000, Option.bind_some, hl', Option.bind_some, if_pos c0, if_pos c1, hs, Option.bind_some, if_pos (by simp; omega), Option.bind_some, if_pos (by simp; omega), Option.bind_some, List.nil_append]
  rw [ext_f (l ++ [s]) l.length 1000 (by omega) sm (by omega), Option.bind_some, if_pos rfl, root_f sl, Option.bind_some, root_f sm, Option.bind_some]
  have hv := ext_accept (l ++ [s]) l.length (l ++ [s]).length (by omega) (Nat.le_refl _) (by omega)
  rw [List.take_left' rfl] at hv
  have hxl : ((if l.length = 0 then [] else (extP (l ++ [s]).length (l ++ [s]) l.length true).reverse) : List ByteArray).length ≤ 1000000 := by
    split
    · simp
    · rename_i h0
      have := extP_length 6 (l ++ [s]).length (l ++ [s]) l.length true (by omega) (by omega) (by omega) (by omega)
      rw [List.length_reverse]
      omega
  have v1 : digest_VerifyExtension.f (rootF l) (l.length : Int) (rootF (l ++ [s])) ((l ++ [s]).length : Int) (if l.length = 0 then [] else (extP (l ++ [s]).length (l ++ [s]) l.length true).reverse) = some true := by
    unfold digest_VerifyExtension.f
    rw [if_pos ⟨by omega, hxl⟩, hv]
  show ((digest_VerifyExtension.f (rootF l) (l.length : Int) (rootF (l ++ [s])) ((l ++ [s]).length : Int) (if l.length = 0 then [] else (extP (l ++ [s]).length (l ++ [s]) l.length true).reverse)).bind _) = _
  rw [v1, Option.bind_some, show (1000 : Nat) = 999 + 1 from rfl, clearwaylaw02_DigestSplit.j0, if_neg (by decide)]
  by_cases h0 : l.length = 0
  · have hn : l = [] := List.length_eq_zero_iff.1 h0
    have hlf : digest_Leaf.f s = some (leafF s) := by unfold digest_Leaf.f; rw [if_pos (by omega)]
    have hsf : digest_Sum.f (⟨#[]⟩ : ByteArray) = some (sumF ⟨#[]⟩) := by unfold digest_Sum.f; rw [if_pos (by decide)]
    rw [if_pos (by omega), if_pos rfl, root_f sm, Option.bind_some, hlf, Option.bind_some, hn, List.nil_append, root_one, if_pos rfl, root_f (by decide), Option.bind_some, hsf, Option.bind_some]
    have : rootF [] = sumF ⟨#[]⟩ := rfl
    rw [this]
    simp
  · have hlt := leftN_lt (l ++ [s]).length (by omega) (by omega)
    rw [if_neg (by omega), left_f (l ++ [s]).length 999 (by omega) (by omega) (by omega), Option.bind_some, if_pos rfl, root_f sm, Option.bind_some, if_pos (by omega), if_pos (by omega), Int.toNat_natCast, root_f (small_take sm _), Option.bind_some, root_f (small_drop sm _), Option.bind_some]
    unfold digest_Node.f
    rw [if_pos (by rw [root_size, root_size]; omega), Option.bind_some, ← root_left (l ++ [s]) (by omega) (by omega)]
    simp
theorem split (A0 : Option Addr) (n0 c0 : Nat) (l0 : List ByteArray) (a1 : ByteArray) (w : World)
    (w0 : l0.length = n0 ∧ n0 ≤ c0 ∧ c0 ≤ maxLen ∧ Kd.C Kd.string w A0 n0 l0 ∧ ∀ x ∈ l0, x.size ≤ maxLen) (w1 : a1.size ≤ 140737488351232) (hG : Amb w) :
    Calls Tryd.prog 9 #[.slice A0 n0 c0, .string a1] w fun e w' => e = .returned (.bool true) ∧ Below w.heap.size w w' := by
  obtain ⟨rfl, h1, _, k1, _⟩ := w0
  obtain ⟨k, hk⟩ := split_f l0 a1
  exact clearwaylaw02_DigestSplit.calls k A0 c0 l0 a1 true w k1 h1 hG hk
end Go.Proofs.YtjkdenldddjcnaaDoor.Sha

