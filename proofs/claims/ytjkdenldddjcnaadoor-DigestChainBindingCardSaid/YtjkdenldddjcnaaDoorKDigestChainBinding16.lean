/- DigestChainBinding returns true for all arguments: the printed contract joined with the plain law. Condition: none but the sizes that any call has. -/
import Derived.Test.YtjkdenldddjcnaaDoorKDigestChainBinding14
import Derived.Test.YtjkdenldddjcnaaDoorKDigestChainBinding15
set_option linter.unusedVariables false
set_option linter.unusedSimpArgs false
namespace Go.Proofs.YtjkdenldddjcnaaDoor.Sha
open Go Go.RowKit Go.Proofs.YtjkdenldddjcnaaDoor.Df Go.Proofs.YtjkdenldddjcnaaDoor.Dl Go.Proofs.YtjkdenldddjcnaaDoorW.PrintWords Go.Proofs.YtjkdenldddjcnaaDoorW.PrintLast Go.Proofs.YtjkdenldddjcnaaDoorW.PrintMore

def zS : ByteArray := strOfNums (List.replicate 32 0)
theorem zS_size : zS.size = 32 := by unfold zS; rw [strOfNums_size]; rfl
/-- The head of the records, the last one first. -/
def hdR : List ByteArray → ByteArray
  | [] => zS
  | x :: r => chainF (hdR r) x
/-- The strings that are digested for it. -/
def stR : List ByteArray → List ByteArray
  | [] => []
  | x :: r => (((⟨#[2]⟩ : ByteArray) ++ hdR r) ++ x) :: stR r
theorem hdR_size : ∀ r, (hdR r).size = 32
  | [] => zS_size
  | x :: r => sumF_size _
theorem stR_len : ∀ r, (stR r).length = r.length
  | [] => rfl
  | x :: r => by rw [stR, List.length_cons, List.length_cons, stR_len r]
theorem one_size (b : UInt8) : (⟨#[b]⟩ : ByteArray).size = 1 := rfl
theorem stR_size (n : Nat) : ∀ r : List ByteArray, (∀ x ∈ r, x.size ≤ n) → ∀ s ∈ stR r, s.size ≤ 33 + n
  | [], _, s, hs => by cases hs
  | x :: r, h, s, hs => by
    rw [stR] at hs
    rcases List.mem_cons.1 hs with rfl | hs
    · rw [ByteArray.size_append, ByteArray.size_append, hdR_size, one_size]
      have := h x List.mem_cons_self
      omega
    · exact stR_size n r (fun y hy => h y (List.mem_cons_of_mem _ hy)) s hs
theorem st_sum (x : ByteArray) (r : List ByteArray) : sumF (((⟨#[2]⟩ : ByteArray) ++ hdR r) ++ x) = hdR (x :: r) := by
  rw [hdR, chainF, app3]
theorem heads_loop : ∀ (q p l : List ByteArray) (k : Nat), l = p ++ q → q.length < k → l.length ≤ 1000 → (∀ x ∈ l, x.size ≤ 1000) →
    clearwaylaw02_heads.l0 k l (hdR p.reverse) (stR p.reverse) (p.length : Int) = some (stR l.reverse, hdR l.reverse) := by
  intro q
  induction q with
  | nil =>
    intro p l k hl hk h1 h2
    obtain ⟨k, rfl⟩ : ∃ j, k = j + 1 := ⟨k - 1, by omega⟩
    rw [List.append_nil] at hl
    subst hl
    rw [clearwaylaw02_heads.l0, if_neg (by omega)]
  | cons x q ih =>
    intro p l k hl hk h1 h2
    obtain ⟨k, rfl⟩ : ∃ j, k = j + 1 := ⟨k - 1, by omega⟩
    have hll : l.length = p.length + (q.length + 1) := by rw [hl]; simp
    have hx : l[p.length]? = some x := by rw [hl, List.getElem?_append_right (Nat.le_refl _), Nat.sub_self]; rfl
    have hxs := h2 x (List.mem_of_getElem? hx)
    have hw : wrap64 ((p.length : Int) + 1) = ((p ++ [x]).length : Int) := by unfold wrap64; simp; omega
    have hst := stR_len p.reverse
    rw [List.length_reverse] at hst
    have hch : digest_Chain.f (hdR p.reverse) x = some (chainF (hdR p.reverse) x) := by
      unfold digest_Chain.f
      rw [if_pos (by rw [hdR_size]; omega)]
    rw [clearwaylaw02_heads.l0, if_pos (by omega), if_pos (by rw [hdR_size]; omega), if_pos (by omega), rdOf_at hx, if_pos (by rw [ByteArray.size_append, hdR_size, one_size]; omega), Option.bind_some, if_pos (by simp only [List.length_cons, List.length_nil]; omega), hch, Option.bind_some, hw]
    have e1 : chainF (hdR p.reverse) x = hdR (p ++ [x]).reverse := by rw [List.reverse_append]; rfl
    have e2 : [((⟨#[2]⟩ : ByteArray) ++ hdR p.reverse) ++ x] ++ stR p.reverse = stR (p ++ [x]).reverse := by rw [List.reverse_append]; rfl
    rw [e1, e2]
    exact ih (p ++ [x]) l k (by rw [hl]; simp) (by simp at hk; omega) h1 h2
theorem heads_f (l : List ByteArray) (k : Nat) (hk : l.length < k) (h1 : l.length ≤ 1000) (h2 : ∀ x ∈ l, x.size ≤ 1000) : clearwaylaw02_heads.f k l = some (stR l.reverse, hdR l.reverse) := by
  unfold clearwaylaw02_heads.f
  rw [if_pos (by decide)]
  exact heads_loop l [] l k rfl hk h1 h2
theorem same_loop : ∀ (q : List ByteArray) (p r a b : List ByteArray) (k : Nat), a = p ++ q → b = p ++ r → q.length = r.length → q.length < k → a.length ≤ 1000 →
    clearwayref02_Same.l0 k a b (p.length : Int) = some (decide (a = b)) := by
  intro q
  induction q with
  | nil =>
    intro p r a b k ha hb hl hk h1
    obtain ⟨k, rfl⟩ : ∃ j, k = j + 1 := ⟨k - 1, by omega⟩
    have hr : r = [] := List.length_eq_zero_iff.1 hl.symm
    subst hr
    rw [List.append_nil] at ha hb
    subst ha
    subst hb
    rw [clearwayref02_Same.l0, if_neg (by omega)]
    simp
  | cons x q ih =>
    intro p r a b k ha hb hl hk h1
    obtain ⟨k, rfl⟩ : ∃ j, k = j + 1 := ⟨k - 1, by omega⟩
    cases r with
    | nil => simp at hl
    | cons y r =>
      have hal : a.length = p.length + (q.length + 1) := by rw [ha]; simp
      have hbl : b.length = p.length + (r.length + 1) := by rw [hb]; simp
      have hlq : q.length = r.length := by simpa using hl
      have hx : a[p.length]? = some x := by rw [ha, List.getElem?_append_right (Nat.le_refl _), Nat.sub_self]; rfl
      have hy : b[p.length]? = some y := by rw [hb, List.getElem?_append_right (Nat.le_refl _), Nat.sub_self]; rfl
      have hw : wrap64 ((p.length : Int) + 1) = ((p ++ [x]).length : Int) := by unfold wrap64; simp; omega
      rw [clearwayref02_Same.l0, if_pos (by omega), if_pos (by omega), if_pos (by omega), rdOf_at hx, rdOf_at hy]
      by_cases hxy : x = y
      · rw [if_pos ((toList_eq _ _).2 hxy), hw]
        exact ih (p ++ [x]) r a b k (by rw [ha]; simp) (by rw [hb, hxy]; simp) hlq (by simp at hk; omega) h1
      · rw [if_neg (fun h => hxy ((toList_eq _ _).1 h)), decide_eq_false]
        intro hab
        rw [hab, hy] at hx
        exact hxy (Option.some.inj hx).symm
theorem same_f (a b : List ByteArray) (k : Nat) (hk : a.length < k) (h1 : a.length ≤ 1000) : clearwayref02_Same.f k a b = some (decide (a = b)) := by
  unfold clearwayref02_Same.f
  by_cases hl : a.length = b.length
  · rw [if_pos (by omega)]
    exact same_loop a [] b a b k rfl rfl hl hk h1
  · rw [if_neg (by omega), decide_eq_false]
    intro h
    exact hl (by rw [h])
/-- What two different lists of records with one head contain. -/
def Coll (A B : List ByteArray) : Prop := ∃ (j : Nat) (x y : ByteArray), A[j]? = some x ∧ B[j]? = some y ∧ x ≠ y ∧ sumF x = sumF y
theorem chain_coll : ∀ a b : List ByteArray, a ≠ b → hdR a = hdR b → Coll (stR a) (stR b) ∨ (b.length > a.length ∧ ∃ s, (stR b)[a.length]? = some s ∧ sumF s = zS) ∨ (a.length > b.length ∧ ∃ s, (stR a)[b.length]? = some s ∧ sumF s = zS) := by
  intro a
  induction a with
  | nil =>
    intro b h he
    cases b with
    | nil => exact absurd rfl h
    | cons y q => exact .inr (.inl ⟨by simp, _, rfl, by rw [st_sum]; exact he.symm⟩)
  | cons x r ih =>
    intro b h he
    cases b with
    | nil => exact .inr (.inr ⟨by simp, _, rfl, by rw [st_sum]; exact he⟩)
    | cons y q =>
      by_cases hs : (((⟨#[2]⟩ : ByteArray) ++ hdR r) ++ x) = (((⟨#[2]⟩ : ByteArray) ++ hdR q) ++ y)
      · have h1 := app_inj hs (by rw [ByteArray.size_append, ByteArray.size_append, hdR_size, hdR_size])
        have h2 := app_inj h1.1 rfl
        have hrq : r ≠ q := fun e => h (by rw [e, h1.2])
        rcases ih q hrq h2.2 with ⟨j, u, v, z1, z2, z3, z4⟩ | ⟨hl, s, z1, z2⟩ | ⟨hl, s, z1, z2⟩
        · exact .inl ⟨j + 1, u, v, by rw [stR, List.getElem?_cons_succ]; exact z1, by rw [stR, List.getElem?_cons_succ]; exact z2, z3, z4⟩
        · exact .inr (.inl ⟨by simp; omega, s, by rw [stR, List.length_cons, List.getElem?_cons_succ]; exact z1, z2⟩)
        · exact .inr (.inr ⟨by simp; omega, s, by rw [stR, List.length_cons, List.getElem?_cons_succ]; exact z1, z2⟩)
      · exact .inl ⟨0, _, _, rfl, rfl, hs, by rw [st_sum, st_sum]; exact he⟩
theorem collide_any (a b : List ByteArray) (ha : ∀ s ∈ a, s.size ≤ 549755813888) (hb : ∀ s ∈ b, s.size ≤ 549755813888) (hl : a.length ≤ 1000000) :
    ∀ (d i k : Nat), a.length - i ≤ d → 2 * d + 2 ≤ k → ∃ r, clearwaylaw02_collide.l0 k a b (i : Int) = some r := by
  intro d
  induction d with
  | zero =>
    intro i k h hk
    obtain ⟨k, rfl⟩ : ∃ j, k = j + 1 + 1 := ⟨k - 2, by omega⟩
    rw [clearwaylaw02_collide.l0, if_neg (by omega), clearwaylaw02_collide.j1, if_neg (by decide)]
    exact ⟨_, rfl⟩
  | succ d ih =>
    intro i k h hk
    obtain ⟨k, rfl⟩ : ∃ j, k = j + 1 + 1 := ⟨k - 2, by omega⟩
    rw [clearwaylaw02_collide.l0]
    by_cases h0 : (i : Int) < (a.length : Int)
    · rw [if_pos h0, clearwaylaw02_collide.j1]
      by_cases h1 : (i : Int) < (b.length : Int)
      · rw [decide_eq_true h1, if_pos rfl, if_pos (by omega), if_pos h0, if_pos h1]
        obtain ⟨u, hu⟩ : ∃ u, a[i]? = some u := ⟨_, List.getElem?_eq_getElem (by omega)⟩
        obtain ⟨v, hv⟩ : ∃ v, b[i]? = some v := ⟨_, List.getElem?_eq_getElem (by omega)⟩
        have hw : wrap64 ((i : Int) + 1) = ((i + 1 : Nat) : Int) := by unfold wrap64; omega
        have hn := ih (i + 1) k (by omega) (by omega)
        rw [rdOf_at hu, rdOf_at hv, hw]
        split
        · exact hn
        · unfold digest_Sum.f
          rw [if_pos (ha u (List.mem_of_getElem? hu)), if_pos (hb v (List.mem_of_getElem? hv)), Option.bind_some, Option.bind_some]
          split
          · exact ⟨_, rfl⟩
          · exact hn
      · rw [decide_eq_false h1, if_neg (by decide)]
        exact ⟨_, rfl⟩
    · rw [if_neg h0, clearwaylaw02_collide.j1, if_neg (by decide)]
      exact ⟨_, rfl⟩
theorem zero_beq : (zS.toList == (strOfNums (List.replicate 32 0)).toList) = true := by
  show (zS.toList == zS.toList) = true
  simp
theorem jend2 (A B : List ByteArray) (k : Nat) (c : Bool) (z : Bool) (h : clearwaylaw02_collide.f k A B = some c) (hz : c = true ∨ z = true) : clearwaylaw02_DigestChainBinding.j2 (k + 1) true A B z = some true := by
  rw [clearwaylaw02_DigestChainBinding.j2, if_pos rfl, h, Option.bind_some]
  rcases hz with rfl | rfl
  · rfl
  · cases c <;> rfl
theorem jend3 (A B : List ByteArray) (k : Nat) (c : Bool) (z : Bool) (h : clearwaylaw02_collide.f k A B = some c) (hz : c = true ∨ z = true) : clearwaylaw02_DigestChainBinding.j3 (k + 1) true A B z = some true := by
  rw [clearwaylaw02_DigestChainBinding.j3, if_pos rfl, h, Option.bind_some]
  rcases hz with rfl | rfl
  · rfl
  · cases c <;> rfl
theorem chain_f (l0 l1 : List ByteArray) : ∃ k, clearwaylaw02_DigestChainBinding.f k l0 l1 = some true := by
  refine ⟨1000, ?_⟩
  have sane1000 : clearwaylaw02_sane.f 1000 = some true := by
    have step : ∀ n, clearwaylaw02_sane.f (200 + n) = some true := by
      intro n
      induction n with
      | zero => exact sane_f
      | succ n ih => exact clearwaylaw02_sane.mono (200 + n) _ ih
    exact step 800
  obtain ⟨a, ha, hal, has⟩ := few_f l0 20 1000 (by decide) (by decide)
  obtain ⟨b, hb, hbl, hbs⟩ := few_f l1 20 1000 (by decide) (by decide)
  have ha' : clearwaylaw02_few.f 1000 l0 20 = some a := ha
  have hb' : clearwaylaw02_few.f 1000 l1 20 = some b := hb
  have sa := stR_size 60 a.reverse (by simpa using has)
  have sb := stR_size 60 b.reverse (by simpa using hbs)
  have la := stR_len a.reverse
  have lb := stR_len b.reverse
  rw [List.length_reverse] at la lb
  unfold clearwaylaw02_DigestChainBinding.f
  rw [sane1000, Option.bind_some, ha', Option.bind_some, hb', Option.bind_some, heads_f a 1000 (by omega) (by omega) (fun x hx => by have := has x hx; omega), Option.bind_some, heads_f b 1000 (by omega) (by omega) (fun x hx => by have := hbs x hx; omega), Option.bind_some, same_f a b 1000 (by omega) (by omega), Option.bind_some]
  show (if ((hdR a.reverse).size : Int) = 32 then _ else _) = _
  rw [if_pos (by rw [hdR_size]; rfl)]
  by_cases hab : a = b
  · subst hab
    rw [decide_eq_true rfl, if_pos rfl]
    show clearwaylaw02_DigestChainBinding.j0 (998 + 1 + 1) true (stR a.reverse) (hdR a.reverse) (stR a.reverse) (hdR a.reverse) true ((hdR a.reverse).toList != (hdR a.reverse).toList) = _
    rw [bne_self_eq_false, clearwaylaw02_DigestChainBinding.j0, if_neg (by decide), if_pos rfl, clearwaylaw02_DigestChainBinding.j1, if_pos rfl]
  · rw [decide_eq_false hab, if_neg (by decide)]
    show clearwaylaw02_DigestChainBinding.j0 (997 + 1 + 1 + 1) true (stR a.reverse) (hdR a.reverse) (stR b.reverse) (hdR b.reverse) false false = _
    rw [clearwaylaw02_DigestChainBinding.j0, if_neg (by decide), if_neg (by decide), clearwaylaw02_DigestChainBinding.j1]
    by_cases hh : hdR a.reverse = hdR b.reverse
    · rw [if_neg (by rw [hh]; simp)]
      have hab' : a.reverse ≠ b.reverse := fun e => hab (by simpa using congrArg List.reverse e)
      have hc := chain_coll a.reverse b.reverse hab' hh
      rw [List.length_reverse, List.length_reverse] at hc
      obtain ⟨c, hcc⟩ : ∃ c, clearwaylaw02_collide.f 997 (stR a.reverse) (stR b.reverse) = some c := by
        unfold clearwaylaw02_collide.f
        exact collide_any _ _ (fun s hs => by have := sa s hs; omega) (fun s hs => by have := sb s hs; omega) (by omega) (stR a.reverse).length 0 997 (by omega) (by omega)
      have hcol : Coll (stR a.reverse) (stR b.reverse) → c = true := by
        rintro ⟨j, x, y, z1, z2, z3, z4⟩
        have hj := (List.getElem?_eq_some_iff.1 z1).1
        have := collide_f (stR a.reverse) (stR b.reverse) (fun s hs => by have := sa s hs; omega) (fun s hs => by have := sb s hs; omega) (by omega) j x y z1 z2 z3 z4 997 (by omega)
        rw [this] at hcc
        exact (Option.some.inj hcc).symm
      have mmn : ∀ p q : Nat, mn (p : Int) (q : Int) = ((min p q : Nat) : Int) := by intro p q; unfold mn; split <;> omega
      have sum_at : ∀ (L : List ByteArray) (s : ByteArray) (i : Nat), L[i]? = some s → (∀ u ∈ L, u.size ≤ 33 + 60) → digest_Sum.f (rdOf ByteArray.empty L (i : Int)) = some (sumF s) := by
        intro L s i hi hu
        rw [rdOf_at hi]
        unfold digest_Sum.f
        rw [if_pos (by have := hu s (List.mem_of_getElem? hi); omega)]
      by_cases h1 : a.length < b.length
      · rw [if_pos (by omega), if_neg (by omega), mmn, la, lb, Nat.min_eq_left (by omega), if_pos (by omega), if_pos (by omega)]
        obtain ⟨s, hs⟩ : ∃ s, (stR b.reverse)[a.length]? = some s := ⟨_, List.getElem?_eq_getElem (by omega)⟩
        rw [sum_at _ s _ hs sb, Option.bind_some, if_pos (by decide)]
        refine jend2 _ _ 997 c _ hcc ?_
        rcases hc with hc | ⟨_, s', z1, z2⟩ | ⟨hl, _⟩
        · exact .inl (hcol hc)
        · rw [hs] at z1
          obtain rfl := Option.some.inj z1
          right
          rw [z2]
          exact zero_beq
        · omega
      · rw [if_neg (by omega)]
        by_cases h2 : a.length = b.length
        · rw [if_pos (by omega)]
          refine jend3 _ _ 997 c _ hcc ?_
          rcases hc with hc | ⟨hl, _⟩ | ⟨hl, _⟩
          · exact .inl (hcol hc)
          · omega
          · omega
        · rw [if_neg (by omega), mmn, la, lb, Nat.min_eq_right (by omega), if_pos (by omega), if_pos (by omega)]
          obtain ⟨s, hs⟩ : ∃ s, (stR a.reverse)[b.length]? = some s := ⟨_, List.getElem?_eq_getElem (by omega)⟩
          rw [sum_at _ s _ hs sa, Option.bind_some, if_pos (by decide)]
          refine jend3 _ _ 997 c _ hcc ?_
          rcases hc with hc | ⟨hl, _⟩ | ⟨_, s', z1, z2⟩
          · exact .inl (hcol hc)
          · omega
          · rw [hs] at z1
            obtain rfl := Option.some.inj z1
            right
            rw [z2]
            exact zero_beq
    · rw [if_pos (by rw [bne_iff_ne]; exact fun e => hh ((toList_eq _ _).1 e))]
theorem chbinding (A0 : Option Addr) (n0 c0 : Nat) (l0 : List ByteArray) (A1 : Option Addr) (n1 c1 : Nat) (l1 : List ByteArray) (w : World)
    (w0 : l0.length = n0 ∧ n0 ≤ c0 ∧ c0 ≤ maxLen ∧ Kd.C Kd.string w A0 n0 l0 ∧ ∀ x ∈ l0, x.size ≤ maxLen) (w1 : l1.length = n1 ∧ n1 ≤ c1 ∧ c1 ≤ maxLen ∧ Kd.C Kd.string w A1 n1 l1 ∧ ∀ x ∈ l1, x.size ≤ maxLen) (hG : Amb w) :
    Calls Tryd.prog 11 #[.slice A0 n0 c0, .slice A1 n1 c1] w fun e w' => e = .returned (.bool true) ∧ Below w.heap.size w w' := by
  obtain ⟨rfl, h0, _, k0, _⟩ := w0
  obtain ⟨rfl, h1, _, k1, _⟩ := w1
  obtain ⟨k, hk⟩ := chain_f l0 l1
  exact clearwaylaw02_DigestChainBinding.calls k A0 c0 l0 A1 c1 l1 true w k0 h0 k1 h1 hG hk
end Go.Proofs.YtjkdenldddjcnaaDoor.Sha

