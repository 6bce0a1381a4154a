/- slices.Collect, Sorted of slices.Values, slices.Compact over ints. Condition: at most 1,000,000 ints. -/
import Derived.Test.YtniegajdmbepbaaGreatDoorKJournalMatchesReference6
import Derived.Test.YtniegajdmbepbaaGreatDoorKJournalMatchesReference7
import Derived.Lib.SlKeysI
set_option linter.unusedSimpArgs false
set_option linter.unusedVariables false
namespace Go.Proofs.YtniegajdmbepbaaGreatDoor.Jm
open Go Go.RowKit Go.Shelf Go.Sort Go.Proofs.YtniegajdmbepbaaGreatDoor.Rf Go.Proofs.YtniegajdmbepbaaGreatDoorW.PrintWords
theorem collect_calls (Bx bk o n c : Nat) (A : Option Addr) (xs : List Int) (hn : xs.length = n) (hs : n ≤ 1000000) (hA : 0 < n → A = some ⟨bk, o, none⟩) (w : World)
  (hBx : Bx < w.heap.size) (hbk : bk < w.heap.size) (hB : Boxed w Bx 56 (.slice A n c)) (hR : intR xs bk o w) :
  Calls Tryz.prog 89 #[.func (.func 91) #[] #[.pointer (some ⟨Bx, 0, none⟩)]] w fun e w' => ∃ v, e = .returned v ∧ w'.ownsRow w.heap.size 3 1 v n (iv xs) ∧ Below w.heap.size w w' := by
 go_enter Tryz.func89, Tryz.ntmps89
 go_wp2_with (go_at_call 106; refine (appendSeq_calls Bx bk o n c A xs hn hs hA w hBx hbk hB hR).mono ?_; rintro e w' ⟨v, rfl, hr, hb⟩)
 go_ret
 exact ⟨v, rfl, hr, hb⟩
theorem own_parts {W : World} {base n : Nat} {v : Value} {xs : List Int} (h : W.ownsRow base 3 1 v n (iv xs)) : xs.length = n ∧ ((v = .slice none 0 0 ∧ n = 0) ∨ ∃ g cap cur, v = .slice (some ⟨g, 0, none⟩) n cap ∧ base ≤ g ∧ W.heap[g]? = some (.cells cur 3 (0, 0)) ∧ n ≤ cap ∧ cap ≤ maxLen ∧ cur.size = cap * 1 ∧ cur.toList.take (n * 1) = iv xs) := by
 refine ⟨?_, h.2⟩
 have := h.1
 unfold iv at this
 simpa using this
theorem own_put {w : World} {base g cap n k q : Nat} {os : Array Obj} {cur : Array Value} (ys : List Int) (hbase : base ≤ g) (hb : w.heap[g]? = some (.cells cur 3 (0, 0)))
  (h1 : n ≤ cap) (h2 : cap ≤ maxLen) (h3 : cur.size = cap * 1) (hy : ys.length = n) (hk : k ≤ n) :
  (grow (putRow (Value.int .i64) (Sort.ahead w q) g 0 ys.toArray) os).ownsRow base 3 1 (.slice (some ⟨g, 0, none⟩) k cap) k (iv (ys.take k)) := by
 refine ⟨by unfold iv; rw [List.length_map, List.length_take]; omega, .inr ⟨g, cap, _, rfl, hbase, heap_sorted_i _ hb, by omega, h2, by simp [putCells, h3], ?_⟩⟩
 have := take_putCells_i cur ys (by omega)
 rw [Nat.mul_one, show k = min k ys.length by omega, ← List.take_take, this]
 unfold iv encZ
 rw [List.map_take, Nat.min_eq_left (by omega)]
theorem put_grown {w : World} {g q : Nat} {os : Array Obj} (ys : Array Int) : w.grownBy (grow (putRow (Value.int .i64) (Sort.ahead w q) g 0 ys) os) (some g) := grownBy_sorted_i ys
theorem sort_calls {W : World} {base n : Nat} {v : Value} {xs : List Int} (h : W.ownsRow base 3 1 v n (iv xs)) (hs : n ≤ 1000000) :
  Calls Tryz.prog 90 #[v] W fun e w' => e = .returned (.tuple #[]) ∧ w'.ownsRow base 3 1 v n (iv (sortI xs)) ∧ W.grownBy w' v.ownBlock := by
 obtain ⟨hl, ⟨rfl, h0⟩ | ⟨g, cap, cur, rfl, hg, hb, h1, h2, h3, h4⟩⟩ := own_parts h
 ·have hx : xs = [] := List.eq_nil_of_length_eq_zero (by omega)
  subst hx
  refine (Tryz.slices_Sort_int_none none 0 W).mono ?_
  rintro e w' ⟨rfl, rfl⟩
  exact ⟨rfl, by simpa [sortI] using h, ⟨rfl, rfl, rfl, Nat.le_refl _, fun _ _ _ => rfl⟩⟩
 ·have hgl : g < W.heap.size := (Array.getElem?_eq_some_iff.1 hb).1
  have hH : Holds (Value.int .i64) W g 0 xs.toArray := holds_of_block_i hb (by rw [hl]; simpa [iv, encZ] using h4)
  have hc := Tryz.slices_Sort_int g 0 cap xs W hH hgl (by omega)
  rw [hl] at hc
  refine hc.mono ?_
  rintro e w' ⟨rfl, q, os, rfl⟩
  have hsl : (sortI xs).length = n := by unfold sortI; rw [List.length_mergeSort]; exact hl
  have := own_put (q := q) (os := os) (k := n) (sortI xs) hg hb h1 h2 h3 hsl (Nat.le_refl _)
  rw [List.take_of_length_le (by omega)] at this
  exact ⟨rfl, this, put_grown _⟩
theorem grown_below {n₀ : Nat} {w W W' : World} {row : Option Nat} (h : Below n₀ w W) (hn : n₀ ≤ w.heap.size) (hg : W.grownBy W' row) (hr : ∀ k, row = some k → n₀ ≤ k) : Below n₀ w W' := h.grown hg (Nat.le_trans hn h.size) hr
theorem sorted_calls (Bx bk o n c : Nat) (A : Option Addr) (xs : List Int) (hn : xs.length = n) (hs : n ≤ 1000000) (hA : 0 < n → A = some ⟨bk, o, none⟩) (w : World)
  (hBx : Bx < w.heap.size) (hbk : bk < w.heap.size) (hB : Boxed w Bx 56 (.slice A n c)) (hR : intR xs bk o w) :
  Calls Tryz.prog 61 #[.func (.func 91) #[] #[.pointer (some ⟨Bx, 0, none⟩)]] w fun e w' => ∃ v, e = .returned v ∧ w'.ownsRow w.heap.size 3 1 v n (iv (sortI xs)) ∧ Below w.heap.size w w' := by
 go_enter Tryz.func61, Tryz.ntmps61
 go_wp2_with (first
  | (go_at_call 90; refine (sort_calls hr hs).mono ?_; rintro e w2 ⟨rfl, hr2, hg2⟩)
  | (go_at_call 89; refine (collect_calls Bx bk o n c A xs hn hs hA w hBx hbk hB hR).mono ?_; rintro e w' ⟨v, rfl, hr, hb⟩))
 go_ret
 exact ⟨v, rfl, hr2, grown_below hb (Nat.le_refl _) hg2 fun k e => (hr.lt k e).1⟩
theorem compact_calls {W : World} {base n : Nat} {v : Value} {xs : List Int} (h : W.ownsRow base 3 1 v n (iv xs)) (hs : n ≤ 1000000) :
  Calls Tryz.prog 60 #[v] W fun e w' => ∃ v', e = .returned v' ∧ w'.ownsRow base 3 1 v' (Lib.compact xs).length (iv (Lib.compact xs)) ∧ W.grownBy w' v.ownBlock := by
 obtain ⟨hl, ⟨rfl, h0⟩ | ⟨g, cap, cur, rfl, hg, hb, h1, h2, h3, h4⟩⟩ := own_parts h
 ·have hx : xs = [] := List.eq_nil_of_length_eq_zero (by omega)
  subst hx
  refine (Tryz.slices_Compact_int_empty none 0 W).mono ?_
  rintro e w' ⟨rfl, rfl⟩
  subst h0
  exact ⟨_, rfl, h, ⟨rfl, rfl, rfl, Nat.le_refl _, fun _ _ _ => rfl⟩⟩
 ·have hgl : g < W.heap.size := (Array.getElem?_eq_some_iff.1 hb).1
  have hH : Holds (Value.int .i64) W g 0 xs.toArray := holds_of_block_i hb (by rw [hl]; simpa [iv, encZ] using h4)
  have hc := Tryz.slices_Compact_int g 0 cap xs W hH (by omega) (by omega)
  rw [hl] at hc
  have hcl : (Lib.compact xs).length ≤ xs.length := by
   unfold Lib.compact Lib.compactUpTo
   rw [List.length_map]
   exact Nat.le_trans (List.length_filter_le _ _) (by simp)
  refine hc.mono ?_
  rintro e w' ⟨rfl, q, rfl⟩
  have := own_put (w := W) (q := q) (os := #[]) (k := (Lib.compact xs).length) (Lib.compact xs ++ List.replicate (n - (Lib.compact xs).length) 0) hg hb h1 h2 h3 (by rw [List.length_append, List.length_replicate]; omega) (by omega)
  rw [List.take_left' rfl] at this
  have hg2 := put_grown (w := W) (g := g) (q := q) (os := #[]) (Lib.compact xs ++ List.replicate (n - (Lib.compact xs).length) 0).toArray
  rw [grow_empty] at this hg2
  exact ⟨_, rfl, this, hg2⟩
end Go.Proofs.YtniegajdmbepbaaGreatDoor.Jm
