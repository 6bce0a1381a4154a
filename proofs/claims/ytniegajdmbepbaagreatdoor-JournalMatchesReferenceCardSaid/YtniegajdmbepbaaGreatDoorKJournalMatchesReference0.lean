/- A range over a function whose iterator keeps state of its own in cells that lay ahead of the loop: the statement's law, proved once.
   Conditions: the iterator meets 'IterZ' (it writes blocks of Z alone between two rounds); the body keeps 'Kp'. -/
import Derived.RangeFuncBox
import Derived.RangeFuncLeaves
import Derived.RangeFuncWrites
import Derived.Shelf.Abstract
import Derived.WalkKit
import Derived.OwnWalkIn
import Derived.TacticsInMore
import Derived.LoopNIn
import Derived.LoopIn
set_option linter.unusedSimpArgs false
set_option linter.unusedVariables false
namespace Go.Proofs.YtniegajdmbepbaaGreatDoor.Rf
open Go Go.RowKit Go.Shelf
def AbZ {β : Type} (Z : Nat → Prop) (J : β → World → Prop) : Prop :=
  ∀ s W W' row, J s W → W.grownBy W' row → (∀ r, row = some r → Z r) → J s W'
def OwnZ {β : Type} (Z : Nat → Prop) (B : Nat) (I : β → World → Prop) : Prop :=
  ∀ s W W' row, I s W → W.grownBy W' row → (∀ r, row = some r → Z r ∨ (B ≤ r ∧ ∃ o : Obj, W.heap[r]? = some o ∧ o.isCells = false)) → I s W'
theorem OwnZ.and {β : Type} {Z : Nat → Prop} {B : Nat} {I I' : β → World → Prop} (h : OwnZ Z B I) (h' : OwnZ Z B I') : OwnZ Z B (fun s W => I s W ∧ I' s W) :=
  fun s W W' row hs hg hr => ⟨h s W W' row hs.1 hg hr, h' s W W' row hs.2 hg hr⟩
def IterZ {α : Type} (F : Fence) (n : Nat) (P : Program) (gf : Nat) (lb : Array Value) (Z : Nat → Prop) (encs : α → Array Value) (Kp : World → World → Prop) (S Sp : List α → Prop) (N : Nat) (w : World) : Prop :=
  ∀ (l : Nat) (J Jx : List α → World → Prop) (W : World), w.grownBy W none → AbZ Z J → AbZ Z Jx →
    (∀ pre x W1, J pre W1 → pre.length < N → YieldAt F (n - 1) P l (encs x) W1 fun e W' =>
      (e = .returned (.bool true) ∧ J (pre ++ [x]) W' ∧ Kp W1 W') ∨ (e = .returned (.bool false) ∧ Jx (pre ++ [x]) W')) →
    J [] W →
    CallsIn F n P gf (#[.func (.yield l) #[] #[]] ++ lb) W fun e W' => (∃ v, e = .returned v) ∧ ((∃ xs, S xs ∧ J xs W') ∨ (∃ pre, Sp pre ∧ Jx pre W'))
theorem grown_trans {a b c : World} {row : Option Nat} (h : a.grownBy b none) (k : b.grownBy c row) : a.grownBy c row :=
  ⟨k.os.trans h.os, k.tape.trans h.tape, k.output.trans h.output, Nat.le_trans h.size k.size, fun i hi hne => (k.block i (Nat.lt_of_lt_of_le hi h.size) hne).trans (h.block i hi (by simp))⟩
section
variable {F : Fence} {n : Nat} {P : Program}
theorem rangeFunc_Z {α : Type} {g : Operand} {ps : Array Tmp} {assign body : Code} {Q : Exit → Act → World → Prop} {a : Act} {w : World}
    (hro : F.round = none) (h1 : 1 ≤ n) {gf : Nat} {lb : Array Value} (hg : a.eval g = .func (.func gf) #[] lb) (hFg : F.fn gf) (eg : ∀ args w, (callFunc gf args).run P w = .ok (.enter gf args) w)
    {Z : Nat → Prop} (hZ : ∀ k, Z k → k < w.heap.size)
    {encs : α → Array Value} {Kp : World → World → Prop} {S Sp : List α → Prop} {N : Nat} (hit : IterZ F (n - 1) P gf lb Z encs Kp S Sp N w)
    (hKt : ∀ {A B C : World}, Kp A B → Kp B C → Kp A C)
    (hKb : ∀ (W : World) (l : Nat) (o : Obj), w.heap.size ≤ l → Kp W (W.putObj l o)) (hps : ∀ x, (encs x).size = ps.size)
    (I : List α → World → Prop) (Ix : Code → List α → World → Prop) (hI : OwnZ Z w.heap.size I) (hIx : ∀ c, OwnZ Z w.heap.size (Ix c)) (h0 : I [] w) 
    (hround : ∀ (l : Nat) (pre : List α) (x : α) (W : World), I pre W → pre.length < N →
      assign.wpIn (F.inRound l) (n - 1 - 1) P (Exit.then (fun a₁ W₁ => W₁ = W ∧ ∀ V, I pre V → body.wpIn (F.inRound l) (n - 1 - 1) P (ownPostG w.heap.size Kp I Ix (pre ++ [x]) V) a₁ V) (fun _ _ _ => False))
        { tmps := (ps.zip (encs x)).foldl (fun t (p, v) => t.setIfInBounds p v) a.tmps, defers := [] } W)
    (hdone : ∀ (D : Nat) (xs : List α) (W : World), w.heap.size ≤ D → S xs → I xs W → W.heap[D]? = some (.deferred (some [])) → Q .normal { a with defers := { target := .collected D, args := #[] } :: a.defers } W)
    (hstop : ∀ (D : Nat) (c : Code) (pre : List α) (W : World), w.heap.size ≤ D → Sp pre → Ix c pre W → W.heap[D]? = some (.deferred (some [])) → c.wpIn F n P Q { a with defers := { target := .collected D, args := #[] } :: a.defers } W) :
    (Code.rangeFunc g ps assign body).wpIn F n P Q a w := by
  refine wpIn_rangeFunc fun fn hfn => ?_
  rw [hro]
  -- the record, by its state and its pending jump
  obtain ⟨R, hR⟩ : ∃ R : LoopState → Option Code → Obj, R = fun st pe => Obj.loop { state := st, pending := pe, fn, tmps := a.tmps, params := ps, assign, body, defers := w.heap.size } := ⟨_, rfl⟩
  have nc : ∀ st pe, (R st pe).isCells = false := fun st pe => by rw [hR]; rfl
  let B := w.heap.size
  obtain ⟨U, hU⟩ : ∃ U, (w.alloc (.deferred (some []))).alloc (R .ready none) = U := ⟨_, rfl⟩
  have gU : w.grownBy U none := by rw [← hU]; exact grown_trans (World.grownBy_alloc w _ none) (World.grownBy_alloc _ _ none)
  have kU : U.heap[B]? = some (.deferred (some [])) := by
    rw [← hU]; exact (Below.heap_alloc _ _ _ (by simp [B])).trans (World.alloc_heap_new w _)
  have lU : U.heap[B + 1]? = some (R .ready none) := by
    rw [← hU]; have := World.alloc_heap_new (w.alloc (.deferred (some []))) (R .ready none); rwa [World.size_alloc] at this
  have iU : I [] U := hI _ _ _ none h0 gU (fun r e => by cases e)
  -- what a turn of the record leaves
  have turn : ∀ {s : List α} {I' : List α → World → Prop} {W : World} {o : Obj} (o' : Obj), OwnZ Z B I' → I' s W → W.heap[B + 1]? = some o → o.isCells = false → I' s (W.putObj (B + 1) o') :=
    fun o' hI' hs hl ho => hI' _ _ _ (some (B + 1)) hs (grownBy_putObj' _ _ o') (fun r e => by cases e; exact .inr ⟨by omega, _, hl, ho⟩)
  refine ⟨B + 1, [{ target := .collected B, args := #[] }], U, { target := .fn (.func gf) lb, args := #[.func (.yield (B + 1)) #[] #[]] }, U, gf,
    #[.func (.yield (B + 1)) #[] #[]] ++ lb, U, ?_, ?_, ?_, ?_, fun _ => h1, ?_⟩
  · rw [← hU, hR]; exact run_enterLoop_outer _ _ _ _ _
  · simp only [resolve, hg]
    simp [go_sem]
  · intro f' hf'
    simp only [Target.leads, Option.some.injEq] at hf'
    subst hf'
    exact hFg
  · simp [invoke, go_sem, eg]
  · have zne : ∀ {r : Nat}, Z r → r ≠ B ∧ r ≠ B + 1 := fun h => by have := hZ _ h; omega
    have kept : ∀ {X Y : World} {row : Option Nat} {k : Nat} {o : Obj}, X.grownBy Y row → (∀ r, row = some r → Z r) → (k = B ∨ k = B + 1) → X.heap[k]? = some o → Y.heap[k]? = some o :=
      fun hg' hr hk ho => (hg'.block _ (Array.getElem?_eq_some_iff.1 ho).1 (fun e => by have := zne (hr _ e.symm); omega)).trans ho
    refine (hit (B + 1)
      (fun pre W => I pre W ∧ W.heap[B + 1]? = some (R .ready none) ∧ W.heap[B]? = some (.deferred (some [])))
      (fun pre W => ∃ c, Ix c pre W ∧ W.heap[B + 1]? = some (R .done (some c)) ∧ W.heap[B]? = some (.deferred (some [])))
      U gU
      (fun s X Y row hs hg' hr => ⟨hI s X Y row hs.1 hg' (fun r e => .inl (hr r e)), kept hg' hr (.inr rfl) hs.2.1, kept hg' hr (.inl rfl) hs.2.2⟩)
      (fun s X Y row hs hg' hr => by
        obtain ⟨c, hc, hl, hk⟩ := hs
        exact ⟨c, hIx c s X Y row hc hg' (fun r e => .inl (hr r e)), kept hg' hr (.inr rfl) hl, kept hg' hr (.inl rfl) hk⟩)
      ?_ ⟨iU, lU, kU⟩).mono ?_
    · rintro pre x W ⟨hi, hl, hk⟩ hlen
      have lt : B + 1 < W.heap.size := (Array.getElem?_eq_some_iff.1 hl).1
      have hl' := hl
      rw [hR] at hl'
      have hy := run_yield (P := P) (args := encs x) hl' (by exact hps x)
      refine ⟨fn, _, assign, body, hy, roundIn_of_wpIn hfn (wpIn_mono (hround _ pre x W hi hlen) ?_)⟩
      rintro e0 a₁ W₁ h₁
      cases e0 with
      | exit id => exact h₁
      | goto t => exact h₁
      | ret => exact h₁
      | panic ch => exact h₁
      | outgrown => exact h₁
      | normal =>
      obtain ⟨rfl, hbody⟩ := h₁
      refine ⟨_, run_beginRound hl' rfl, ?_⟩
      obtain ⟨V, hV⟩ : ∃ V, W₁.putObj (B + 1) (R .busy none) = V := ⟨_, rfl⟩
      have eV : W₁.putObj (B + 1) (.loop { state := .busy, pending := none, fn, tmps := a.tmps, params := ps, assign, body, defers := w.heap.size }) = V := by rw [← hV, hR]
      rw [eV]
      have lV : V.heap[B + 1]? = some (R .busy none) := by rw [← hV]; exact World.putObj_heap_same lt
      have kV : V.heap[B]? = some (.deferred (some [])) := by rw [← hV]; exact (World.putObj_heap_other (by omega)).trans hk
      have pV : Kp W₁ V := by rw [← hV]; exact hKb _ _ _ (by omega)
      have iV : I pre V := by rw [← hV]; exact turn _ hI hi hl (nc _ _)
      have fin : ∀ (jump : Option Code) (X : World), KeepsFrom B V X →
          (Instr.endRound (B + 1) jump).run P X = .ok (.bool jump.isNone) (X.putObj (B + 1) (R (if jump.isNone then .ready else .done) jump)) ∧
          X.heap[B + 1]? = some (R .busy none) ∧
          (X.putObj (B + 1) (R (if jump.isNone then .ready else .done) jump)).heap[B + 1]? = some (R (if jump.isNone then .ready else .done) jump) ∧
          (X.putObj (B + 1) (R (if jump.isNone then .ready else .done) jump)).heap[B]? = some (.deferred (some [])) := fun jump X hX => by
        have lX := hX.same _ _ (by omega) lV (nc _ _)
        have kX := hX.same _ _ (Nat.le_refl _) kV rfl
        refine ⟨?_, lX, World.putObj_heap_same (Array.getElem?_eq_some_iff.1 lX).1, (World.putObj_heap_other (by omega)).trans kX⟩
        rw [hR] at lX
        have := run_endRound (P := P) jump lX
        rw [hR]
        exact this
      refine wpIn_mono (hbody V iV) ?_
      rintro e a3 X hp
      cases e with
      | normal =>
        obtain ⟨hX, hkp, hi3⟩ := hp
        obtain ⟨hr, l3, l4, k4⟩ := fin none X hX
        exact ⟨_, _, hr, .inl ⟨rfl, ⟨turn _ hI hi3 l3 (nc _ _), l4, k4⟩, hKt (hKt pV hkp) (hKb _ _ _ (by omega))⟩⟩
      | ret =>
        obtain ⟨hr, l3, l4, k4⟩ := fin (some .ret) X hp.1
        exact ⟨_, _, hr, .inr ⟨rfl, .ret, turn _ (hIx _) hp.2 l3 (nc _ _), l4, k4⟩⟩
      | exit id =>
        obtain ⟨hr, l3, l4, k4⟩ := fin (some (.exit id)) X hp.1
        exact ⟨_, _, hr, .inr ⟨rfl, .exit id, turn _ (hIx _) hp.2 l3 (nc _ _), l4, k4⟩⟩
      | goto t =>
        obtain ⟨hr, l3, l4, k4⟩ := fin (some (.goto t)) X hp.1
        exact ⟨_, _, hr, .inr ⟨rfl, .goto t, turn _ (hIx _) hp.2 l3 (nc _ _), l4, k4⟩⟩
      | panic ch => exact hp.elim
      | outgrown => exact hp.elim
    · rintro e X ⟨⟨v, rfl⟩, (⟨xs, hS, hi, hl, hk⟩ | ⟨pre, hSp, c, hi, hl, hk⟩)⟩
      · have hl' := hl
        rw [hR] at hl'
        exact ⟨none, _, run_endLoop (P := P) hl' (by simp), hdone _ xs _ (Nat.le_refl _) hS (turn _ hI hi hl (nc _ _)) ((World.putObj_heap_other (by omega)).trans hk)⟩
      · have hl' := hl
        rw [hR] at hl'
        exact ⟨some c, _, run_endLoop (P := P) hl' (by simp), hstop _ c pre _ (Nat.le_refl _) hSp (turn _ (hIx c) hi hl (nc _ _)) ((World.putObj_heap_other (by omega)).trans hk)⟩
end
end Go.Proofs.YtniegajdmbepbaaGreatDoor.Rf
