/- slices.Values over ints, and slices.AppendSeq, Collect of it. Condition: at most 1,000,000 ints. -/
import Derived.Test.YtniegajdmbepbaaGreatDoorKJournalMatchesReference3
import Derived.Test.YtniegajdmbepbaaGreatDoorKJournalMatchesReference5
import Derived.KernelRfl
set_option linter.unusedSimpArgs false
set_option linter.unusedVariables false
namespace Go.Proofs.YtniegajdmbepbaaGreatDoor.Jm
open Go Go.RowKit Go.Shelf Go.Proofs.YtniegajdmbepbaaGreatDoor.Rf Go.Proofs.YtniegajdmbepbaaGreatDoorW.PrintWords
attribute [local go_sem] Oper.semAt_some
theorem infoI : (Tryz.prog.info? 3).map (fun i => (i.zero, i.size, i.bytes)) = some (some (.int .i64 0), 1, 8) := by kernel_rfl
theorem vals_fn (A : Option Addr) (n c : Nat) (w : World) :
  Calls Tryz.prog 62 #[.slice A n c] w fun e w' => e = .returned (.func (.func 91) #[] #[.pointer (some ⟨w.heap.size, 0, none⟩)]) ∧ w' = w.alloc (.cells #[.slice A n c] 56) := by
 go_enter Tryz.func62, Tryz.ntmps62
 go_wp2
 go_ret
 exact ⟨rfl, rfl⟩
def intR (xs : List Int) (bk o : Nat) (W : World) : Prop := ∀ (j : Nat) (x : Int), xs[j]? = some x → W.cell? ⟨bk, o + j, none⟩ = some (.int .i64 x)
theorem intR.block {xs : List Int} {bk o : Nat} {W W' : World} (h : intR xs bk o W) (k : W'.heap[bk]? = W.heap[bk]?) : intR xs bk o W' := by
 intro j x hx
 have := h j x hx
 simp only [World.cell?] at this ⊢
 rw [k]
 exact this
set_option maxHeartbeats 2000000 in
theorem vals_in (l Bx bk o n c : Nat) (A : Option Addr) (xs : List Int) (hn : xs.length = n) (hs : n ≤ 1000000) (hA : 0 < n → A = some ⟨bk, o, none⟩) (J Jx : List Int → World → Prop)
  (hY : ∀ pre (x : Int) W, J pre W → pre.length < n → YieldAt Fence.wide 2 Tryz.prog l #[.int .i64 x] W fun e W' =>
   (e = .returned (.bool true) ∧ J (pre ++ [x]) W' ∧ (W'.heap[Bx]? = W.heap[Bx]? ∧ W'.heap[bk]? = W.heap[bk]?)) ∨ (e = .returned (.bool false) ∧ Jx (pre ++ [x]) W'))
  (W : World) (hB : Boxed W Bx 56 (.slice A n c)) (hR : intR xs bk o W) (hJ0 : J [] W) :
  CallsIn Fence.wide 3 Tryz.prog 91 #[.func (.yield l) #[] #[], .pointer (some ⟨Bx, 0, none⟩)] W fun e W' => (∃ v, e = .returned v) ∧
   ((∃ ys : List Int, ys = xs ∧ J ys W') ∨ (∃ pre : List Int, True ∧ Jx pre W')) := by
 refine callsIn_of_wp Tryz.func91 rfl trivial ?_ rfl
 simp only [Tryz.ntmps91, List.size_toArray, List.length_cons, List.length_nil, Nat.reduceAdd, Nat.reduceSub, Array.replicate_succ, Array.replicate_zero, List.push_toArray, List.append_toArray, List.nil_append, List.cons_append]
 have hc := hB.cell
 gi_wp2
 gi_loopw [7] (fun v wr => ∃ j : Nat, v = .int .i64 (j : Int) ∧ j ≤ n ∧ Boxed wr Bx 56 (.slice A n c) ∧ intR xs bk o wr ∧ J (xs.take j) wr)
  (fun v _ => n - (intOf v).toNat)
 case atStart => exact ⟨0, rfl, by omega, hB, hR, hJ0⟩
 case round =>
  clear hc hB hR hJ0
  obtain ⟨j, rfl, hj, hB, hR, hJ⟩ := hrel
  have hpl : (xs.take j).length = j := by rw [List.length_take]; omega
  have hc := hB.cell
  by_cases hlt : j < n
  ·obtain rfl := hA (by omega)
   obtain ⟨x, hx⟩ : ∃ x, xs[j]? = some x := ⟨_, List.getElem?_eq_getElem (by omega)⟩
   have hcx := hR j x hx
   obtain ⟨fn, tmps, assign, body, hy, hY'⟩ := hY (xs.take j) x wr hJ (by omega)
   have e1 : decide ((j : Int) < (n : Int)) = true := decide_eq_true (by omega)
   have x1 : ((j : Int) < (n : Int)) = True := eq_true (by omega)
   have x2 : (j < n) = True := eq_true (by omega)
   gi_wp2
   refine hY'.mono ?_
   rintro e W3 (⟨rfl, hJ3, hk1, hk2⟩ | ⟨rfl, hJx3⟩)
   ·have hb3 : Boxed W3 Bx 56 (.slice (some ⟨bk, o, none⟩) n c) := hk1.trans hB
    have hR3 := hR.block hk2
    have hc3 := hb3.cell
    gi_wp2
    go_roundw
    case rel =>
     refine ⟨j + 1, by simp, by omega, hb3, hR3, ?_⟩
     rw [List.take_add_one, hx]
     exact hJ3
    case measure => simp [intOf]; omega
   ·gi_wp2
    refine bodyPost_ret (results_none rfl _ _ _) rfl ?_
    exact ⟨⟨_, rfl⟩, .inr ⟨_, trivial, hJx3⟩⟩
  ·have ej : j = n := by omega
   subst ej
   gi_wp2
   go_end0
   exact ⟨⟨_, rfl⟩, .inl ⟨_, by rw [List.take_of_length_le (by omega)], hJ⟩⟩
theorem boxI_Z (Bo B1 : Nat) (t e : TypeId) (hB : Bo < B1) (B : Nat) (hB1 : B1 ≤ B) (f : List Int → List Value) :
  OwnZ (fun _ => False) B (fun (s : List Int) W => ∃ v, Boxed W Bo t v ∧ W.ownsRow B1 e 1 v s.length (f s)) := by
 rintro s X Y row ⟨v, hv, hr⟩ hg hrow
 refine ⟨v, hv.kept hg (fun e' => ?_), hr.kept hg ?_⟩
 ·rcases hrow Bo e'.symm with h | ⟨h, _⟩
  ·exact h.elim
  ·omega
 ·rcases hr.2 with ⟨rfl, _⟩ | ⟨g, cap, cur, rfl, hg1, hgb, _⟩
  ·exact .inl rfl
  ·refine .inr fun e' => ?_
   rcases hrow g (by simpa [Value.ownBlock] using e'.symm) with h | ⟨_, o, ho, hc⟩
   ·exact h.elim
   ·rw [hgb] at ho; cases ho; cases hc
theorem belowI_Z (n₀ : Nat) (w : World) (hn : n₀ ≤ w.heap.size) (B : Nat) (hB : n₀ ≤ B) (m : Nat) :
  OwnZ (fun _ => False) B (fun (_ : List Int) W => Below n₀ w W ∧ m ≤ W.heap.size) := by
 rintro s X Y row ⟨hb, hm⟩ hg hrow
 refine ⟨hb.grown hg (Nat.le_trans hn hb.size) (fun k e => ?_), Nat.le_trans hm hg.size⟩
 rcases hrow k e with h | ⟨h, _⟩
 ·exact h.elim
 ·omega
theorem own_dfr {W : World} {base : Nat} {e : TypeId} {size : Nat} {v : Value} {k : Nat} {xs : List Value} (h : W.ownsRow base e size v k xs) {j : Nat} {o : Obj} (hj : W.heap[j]? = some o) (hno : o.isCells = false) : v.ownBlock = none ∨ v.ownBlock ≠ some j := by
 rcases h.2 with ⟨rfl, _⟩ | ⟨g, cap, cur, rfl, hg1, hgb, _⟩
 ·exact .inl rfl
 ·refine .inr fun e' => ?_
  simp [Value.ownBlock] at e'
  subst e'
  rw [hgb] at hj; cases hj; cases hno
def iv (l : List Int) : List Value := l.map (Value.int .i64)
set_option maxHeartbeats 2000000 in
set_option maxRecDepth 100000 in
theorem appendSeq_calls (Bx bk o n c : Nat) (A : Option Addr) (xs : List Int) (hn : xs.length = n) (hs : n ≤ 1000000) (hA : 0 < n → A = some ⟨bk, o, none⟩) (w : World)
  (hBx : Bx < w.heap.size) (hbk : bk < w.heap.size) (hB : Boxed w Bx 56 (.slice A n c)) (hR : intR xs bk o w) :
  Calls Tryz.prog 106 #[.slice none 0 0, .func (.func 91) #[] #[.pointer (some ⟨Bx, 0, none⟩)]] w fun e w' => ∃ v, e = .returned v ∧ w'.ownsRow w.heap.size 3 1 v n (iv xs) ∧ Below w.heap.size w w' := by
 obtain ⟨i0, hi, hi0, hi1, hi2⟩ := info_parts infoI
 refine (callsIn_wide (n := 4)).1 ?_
 refine callsIn_of_wp_marks Tryz.func106 rfl trivial ?_ rfl
 simp only [Tryz.ntmps106, List.size_toArray, List.length_cons, List.length_nil, Nat.reduceAdd, Nat.reduceSub, Array.replicate_succ, Array.replicate_zero, List.push_toArray, List.append_toArray, List.nil_append, List.cons_append]
 gi_wp2_with fail
 have bO := Boxed.new w 56 (.slice none 0 0)
 have hB0 : Below w.heap.size w (w.alloc (.cells #[.slice none 0 0] 56)) := (Below.refl _ w).alloc (Nat.le_refl _) _
 have bV : Boxed (w.alloc (.cells #[.slice none 0 0] 56)) Bx 56 (.slice A n c) := (hB0.block Bx hBx).trans hB
 have bR : intR xs bk o (w.alloc (.cells #[.slice none 0 0] 56)) := hR.block (hB0.block bk hbk)
 refine rangeFunc_Z rfl (by decide) (gf := 91) (lb := #[.pointer (some ⟨Bx, 0, none⟩)]) rfl trivial (enters_of Tryz.func91 (by kernel_rfl) rfl)
  (Z := fun _ => False) (fun k hk => hk.elim)
  (encs := fun x : Int => #[.int .i64 x]) (Kp := fun A B => B.heap[Bx]? = A.heap[Bx]? ∧ B.heap[bk]? = A.heap[bk]?) (S := fun ys => ys = xs) (Sp := fun _ => True) (N := n) ?iter
  (fun h k => ⟨k.1.trans h.1, k.2.trans h.2⟩) (fun W l o hl => ⟨World.putObj_heap_other (by simp at hl; omega), World.putObj_heap_other (by simp at hl; omega)⟩) (fun _ => rfl)
  (fun pre W => (∃ v, Boxed W w.heap.size 56 v ∧ W.ownsRow (w.heap.size + 1) 3 1 v pre.length (iv pre)) ∧ (Below w.heap.size w W ∧ w.heap.size + 1 ≤ W.heap.size))
  (fun _ _ _ => False)
  (OwnZ.and (boxI_Z w.heap.size (w.heap.size + 1) 56 3 (by omega) _ (by simp) iv) (belowI_Z _ w (Nat.le_refl _) _ (by simp) _))
  (fun _ _ _ _ _ hs _ _ => hs)
  ⟨⟨_, bO, World.ownsRow_nil _ _ _ _⟩, hB0, by simp⟩ ?round ?done ?stop
 case iter =>
  intro l J Jx W hW hJ hJx hY hJ0
  exact vals_in l Bx bk o n c A xs hn hs hA J Jx hY W (bV.kept hW (by simp)) (bR.block (hW.block bk (by simp; omega) (by simp))) hJ0
 case round =>
  rintro l pre x W ⟨⟨v, hv, hrow⟩, hB, hs⟩ hlt
  gi_wp2
  refine ⟨trivial, ?_⟩
  clear hv hrow hB hs v
  rintro V ⟨⟨v, hv, hrow⟩, hB, hs⟩
  have hc := hv.cell
  have hrow0 := hrow.mono (base' := w.heap.size) (by omega)
  have hown : ∀ k, v.ownBlock = some k → w.heap.size + 1 ≤ k := fun k e => (hrow.lt k e).1
  gi_wp2_with (gi_at_builtin; refine wpListIn_append_own _ rfl _ _ 56 rfl (w.heap.size + 1) 3 i0 (.int .i64 0) 1 8 Tryz.underlying56 hi hi0 hi1 hi2 rfl (by decide) _ _ _ rfl (hrow.alloc _) ⟨V.heap.size, 0, none⟩ 1 1 [_] rfl rfl (cell_one_new _ _ _) (by simp [Value.oneCell']) (by unfold maxLen; omega) (by omega) (by simp; omega) ?_; intro v' w1 hown' hgrow _; obtain ⟨g', cap', rfl⟩ := ownsRow_succ hown'; obtain ⟨hv1, hv2, hr2, hk2, hb2⟩ := hv.appended (by decide) hrow0 hB.size (Nat.le_refl _) (hown'.mono (base' := w.heap.size) (by omega)) hgrow; have hr3 := hown'.kept (grownBy_setCell' w1 w.heap.size (.slice (some ⟨g', 0, none⟩) (pre.length + 1) cap')) (.inr (by have := (hown'.lt g' rfl).1; simp [Value.ownBlock]; omega)); have hc1 := hv1.cell; have hf1 := hv1.frozen)
  have kB : ∀ k, k < w.heap.size → (w1.setCell ⟨w.heap.size, 0, none⟩ (.slice (some ⟨g', 0, none⟩) (pre.length + 1) cap')).heap[k]? = V.heap[k]? := fun k hk => by
   refine (Below.heap_setCell _ _ _ _ (by simp; omega)).trans ((hgrow.block _ (by simp; omega) (fun e => ?_)).trans (Below.heap_alloc _ _ _ (by omega)))
   have := hown _ e.symm
   omega
  refine ⟨hk2.from _, ⟨kB Bx hBx, kB bk hbk⟩, ⟨_, hv2, ?_⟩, hB.trans hb2, Nat.le_trans hs hb2.size⟩
  simpa [iv] using hr3
 case done =>
  rintro D ys W hD rfl ⟨⟨v, hv, hrow⟩, hB, _⟩ hK
  have hc := hv.cell
  gi_wp2
  refine ⟨by simp, .inl ⟨_, _, rfl, run_takeDeferred hK, ?_⟩⟩
  refine ⟨_, results_tmp rfl _ _ _, v, rfl, ?_, hB.trans (belowK_b (w := w) (Nat.le_refl _) W D _ _ (by simp at hD; omega) hK rfl rfl)⟩
  rw [hn] at hrow
  exact (hrow.mono (base' := w.heap.size) (by omega)).kept (grownBy_putObj' W D _) (own_dfr (hrow.mono (base' := w.heap.size) (by omega)) hK rfl)
 case stop =>
  rintro D c pre W _ _ h _
  exact h.elim
end Go.Proofs.YtniegajdmbepbaaGreatDoor.Jm
