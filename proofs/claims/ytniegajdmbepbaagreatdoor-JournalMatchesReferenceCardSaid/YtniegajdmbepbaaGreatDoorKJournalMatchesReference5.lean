/- The order of the writes that survive: sorted, without doubles, within the bounds. Condition: none. -/
import Derived.Test.YtniegajdmbepbaaGreatDoorKJournalMatchesReference4
import Derived.Lib.SlicesCompact
set_option linter.unusedSimpArgs false
set_option linter.unusedVariables false
namespace Go.Proofs.YtniegajdmbepbaaGreatDoor.Jm
open Go Go.Lib
theorem upTo_spec (d : Array Int) (hs : ∀ i j : Nat, i < j → j < d.size → d[i]! ≤ d[j]!) : ∀ m, m ≤ d.size →
  (compactUpTo d m).Pairwise (· < ·) ∧ (∀ x, x ∈ compactUpTo d m ↔ ∃ i, i < m ∧ d[i]! = x) := by
 intro m
 induction m with
 | zero => intro _; exact ⟨by simp [compactUpTo], by simp [compactUpTo]⟩
 | succ m ih =>
  intro hm
  obtain ⟨h1, h2⟩ := ih (by omega)
  rw [compactUpTo_succ]
  by_cases hk : keeps d m = true
  ·rw [if_pos hk]
   have hk' : m = 0 ∨ d[m]! ≠ d[m - 1]! := of_decide_eq_true hk
   have hlt : ∀ x ∈ compactUpTo d m, x < d[m]! := by
    intro x hx
    obtain ⟨i, hi, rfl⟩ := (h2 x).1 hx
    have a1 := hs i m hi (by omega)
    rcases hk' with h0 | h0
    ·omega
    ·have a2 : d[i]! ≤ d[m - 1]! := by
      rcases Nat.lt_or_ge i (m - 1) with q | q
      ·exact hs i (m - 1) q (by omega)
      ·rw [show i = m - 1 by omega]; exact Int.le_refl _
     have a3 : d[m - 1]! ≤ d[m]! := hs (m - 1) m (by omega) (by omega)
     omega
   refine ⟨?_, ?_⟩
   ·rw [List.pairwise_append]
    exact ⟨h1, by simp, fun x hx y hy => by simp at hy; subst hy; exact hlt x hx⟩
   ·intro x
    rw [List.mem_append, h2]
    constructor
    ·rintro (⟨i, hi, rfl⟩ | hx)
     ·exact ⟨i, by omega, rfl⟩
     ·simp at hx; exact ⟨m, by omega, hx.symm⟩
    ·rintro ⟨i, hi, rfl⟩
     rcases Nat.lt_or_ge i m with q | q
     ·exact .inl ⟨i, q, rfl⟩
     ·rw [show i = m by omega]; exact .inr (by simp)
  ·have hk2 : keeps d m = false := by simpa using hk
   rw [if_neg hk, List.append_nil]
   have hk' : ¬ (m = 0 ∨ d[m]! ≠ d[m - 1]!) := of_decide_eq_false hk2
   have m0 : m ≠ 0 := fun h => hk' (.inl h)
   have e : d[m]! = d[m - 1]! := Classical.byContradiction fun h => hk' (.inr h)
   refine ⟨h1, fun x => ?_⟩
   rw [h2]
   constructor
   ·rintro ⟨i, hi, rfl⟩; exact ⟨i, by omega, rfl⟩
   ·rintro ⟨i, hi, rfl⟩
    rcases Nat.lt_or_ge i m with q | q
    ·exact ⟨i, q, rfl⟩
    ·rw [show i = m by omega, e]; exact ⟨m - 1, by omega, rfl⟩
theorem eq_of_lt : ∀ (a b : List Int), a.Pairwise (· < ·) → b.Pairwise (· < ·) → (∀ x, x ∈ a ↔ x ∈ b) → a = b
 | [], [], _, _, _ => rfl
 | [], y :: b, _, _, h => absurd ((h y).2 List.mem_cons_self) (by simp)
 | x :: a, [], _, _, h => absurd ((h x).1 List.mem_cons_self) (by simp)
 | x :: a, y :: b, ha, hb, h => by
  rw [List.pairwise_cons] at ha hb
  have e : x = y := by
   rcases List.mem_cons.1 ((h x).1 List.mem_cons_self) with e | e
   ·exact e
   ·rcases List.mem_cons.1 ((h y).2 List.mem_cons_self) with e' | e'
    ·exact e'.symm
    ·have := hb.1 x e; have := ha.1 y e'; omega
  subst e
  rw [eq_of_lt a b ha.2 hb.2 fun z => ?_]
  constructor
  ·intro hz
   rcases List.mem_cons.1 ((h z).1 (List.mem_cons_of_mem _ hz)) with e | e
   ·subst e; have := ha.1 z hz; omega
   ·exact e
  ·intro hz
   rcases List.mem_cons.1 ((h z).2 (List.mem_cons_of_mem _ hz)) with e | e
   ·subst e; have := hb.1 z hz; omega
   ·exact e
def sortI (l : List Int) : List Int := l.mergeSort fun x y => decide (x ≤ y)
theorem sortI_pair (l : List Int) : (sortI l).Pairwise (· ≤ ·) := by
 have := List.pairwise_mergeSort (le := fun x y : Int => decide (x ≤ y)) (fun a b c h1 h2 => by simp only [decide_eq_true_eq] at *; omega) (fun a b => by simp only [Bool.or_eq_true, decide_eq_true_eq]; omega) l
 exact this.imp fun h => of_decide_eq_true h
theorem sortI_mem (l : List Int) (x : Int) : x ∈ sortI l ↔ x ∈ l := (List.mergeSort_perm l _).mem_iff
theorem compact_sort (l : List Int) : (compact (sortI l)).Pairwise (· < ·) ∧ ∀ x, x ∈ compact (sortI l) ↔ x ∈ l := by
 have hs : ∀ i j : Nat, i < j → j < (sortI l).toArray.size → (sortI l).toArray[i]! ≤ (sortI l).toArray[j]! := by
  intro i j hij hj
  have hj' : j < (sortI l).length := by simpa using hj
  rw [getElem!_pos _ i (by simp; omega), getElem!_pos _ j hj]
  simpa using (List.pairwise_iff_getElem.1 (sortI_pair l)) i j (by omega) hj' hij
 obtain ⟨h1, h2⟩ := upTo_spec (sortI l).toArray hs (sortI l).length (by simp)
 refine ⟨h1, fun x => ?_⟩
 rw [show compact (sortI l) = compactUpTo (sortI l).toArray (sortI l).length from rfl, h2, ← sortI_mem l]
 constructor
 ·rintro ⟨i, hi, rfl⟩
  rw [getElem!_pos _ i (by simpa using hi)]
  simp
 ·intro hx
  obtain ⟨i, hi, e⟩ := List.getElem_of_mem hx
  exact ⟨i, hi, by rw [getElem!_pos _ i (by simpa using hi)]; simpa using e⟩
theorem order_eq (n : Nat) (keep : List Int) : ((compact (sortI keep)).filter fun i => !(decide (i < 0) || decide ((n : Int) ≤ i))) = (Dk.order n keep).map fun i : Nat => (i : Int) := by
 obtain ⟨h1, h2⟩ := compact_sort keep
 refine eq_of_lt _ _ (h1.filter _) ?_ fun x => ?_
 ·unfold Dk.order
  rw [List.pairwise_map]
  refine List.Pairwise.filter _ ?_
  exact List.pairwise_lt_range.imp fun h => by omega
 ·rw [List.mem_filter, h2, List.mem_map]
  unfold Dk.order
  constructor
  ·rintro ⟨hx, hc⟩
   simp only [Bool.not_eq_true', Bool.or_eq_false_iff, decide_eq_false_iff_not] at hc
   refine ⟨x.toNat, ?_, by omega⟩
   rw [List.mem_filter, List.mem_range]
   refine ⟨by omega, ?_⟩
   rw [show ((x.toNat : Nat) : Int) = x by omega]
   simpa using hx
  ·rintro ⟨i, hi, rfl⟩
   rw [List.mem_filter, List.mem_range] at hi
   refine ⟨by simpa using hi.2, ?_⟩
   simp only [Bool.not_eq_true', Bool.or_eq_false_iff, decide_eq_false_iff_not]
   omega
end Go.Proofs.YtniegajdmbepbaaGreatDoor.Jm
