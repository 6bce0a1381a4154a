/- From a row's reading of its arguments to what the printed contracts ask: integers, bools, strings, slices, arrays of two strings. No condition. -/
import Derived.Test.YtniegajdmbepbaaGreatDoorProg
import Derived.Test.YtniegajdmbepbaaGreatDoorKJournalOpensAnything2
import Derived.Lib.LaidTab
import Derived.WalkKit
import Derived.ProofKit
import Derived.OpenShut
import Derived.ShutString
import Derived.ChangeOld
import Derived.Below
set_option linter.unusedVariables false
set_option linter.unusedSimpArgs false
namespace Go.Proofs.YtniegajdmbepbaaGreatDoor.Open
open Go Go.RowKit Go.ChangeShapes Go.WideShapes Go.ChangeAt Go.Proofs.YtniegajdmbepbaaGreatDoorW.PrintWords

/-- A type whose cells read as data of kind d, with p known of each. -/
def Opens {α : Type} (P : Program) (t : TypeId) (d : Kd α) (p : α → Prop) : Prop :=
 ∀ {H : Type} (enc : TypeId × Value → H) (w : World) (base : Nat) (spare : Nat → Bool) (held : Bool) (fuel : Nat) (cs : List Value) (x : DataW H × List MemPlace),
  DataW.trod enc P w base spare held fuel t cs = some x → ∃ a, d.K w a cs ∧ p a

theorem opens_string {P : Program} {t : TypeId} (ht : P.underlying t = some .string) : Opens P t Kd.string (fun s => s.size ≤ maxLen) := by
 intro H enc w base spare held fuel cs x h
 obtain ⟨s, rfl, _, hw⟩ := DataW.trod_string ht h
 exact ⟨s, rfl, hw⟩
theorem slice_C {α : Type} {P : Program} {t e : TypeId} {d : Kd α} {p : α → Prop} (ht : P.underlying t = some (.slice e)) (he : Opens P e d p) (hs : P.cellsOf e = d.sz)
  {H : Type} {enc : TypeId × Value → H} {w : World} {base : Nat} {spare : Nat → Bool} {held : Bool} {A : Option Addr} {len cap : Nat} {dd : DataW H} {ps : List MemPlace}
  (h : DataW.Trod enc P w base spare held t (.slice A len cap) dd ps) : ∃ xs : List α, xs.length = len ∧ len ≤ cap ∧ cap ≤ maxLen ∧ d.C w A len xs ∧ ∀ x ∈ xs, p x := by
 obtain ⟨fuel, hf⟩ := h
 rcases DataW.trod_slice ht hf with ⟨hcs, _⟩ | ⟨a, l, c, elems, rest, n, _, hcs, _, hb, hl, hm, hlen, hel, _, _⟩
 ·simp [Value.cells] at hcs
  obtain ⟨rfl, rfl, rfl⟩ := hcs
  exact ⟨[], rfl, Nat.le_refl _, by decide, ⟨rfl, by decide, fun h => absurd h (by decide)⟩, fun x hx => by cases hx⟩
 ·simp [Value.cells] at hcs
  obtain ⟨rfl, rfl, rfl⟩ := hcs
  have each : ∀ i, i < len → ∃ x cs, w.cells? base (a.add (i * P.cellsOf e)) (P.cellsOf e) = some cs ∧ d.K w x cs ∧ p x := by
   intro i hi
   have h1 := hel i hi
   rw [List.getElem?_eq_getElem (show i < elems.length by omega)] at h1
   obtain ⟨cs, hc1, hc2⟩ := Option.bind_eq_some_iff.1 h1
   obtain ⟨x, hx, hp⟩ := he enc w base spare held n cs _ hc2
   exact ⟨x, cs, hc1, hx, hp⟩
  have pick : ∀ m, m ≤ len → ∃ xs : List α, xs.length = m ∧ (∀ i x, xs[i]? = some x → ∃ cs, w.cells? base (a.add (i * P.cellsOf e)) (P.cellsOf e) = some cs ∧ d.K w x cs ∧ p x) := by
   intro m
   induction m with
   | zero => exact fun _ => ⟨[], rfl, fun i x hx => by simp at hx⟩
   | succ m ih =>
    intro hm
    obtain ⟨xs, hl, hx⟩ := ih (by omega)
    obtain ⟨x, cs, h1, h2, h3⟩ := each m (by omega)
    refine ⟨xs ++ [x], by simp [hl], fun i y hy => ?_⟩
    rw [List.getElem?_append] at hy
    split at hy
    ·exact hx i y hy
    ·have hi : i = m := by
      have := (List.getElem?_eq_some_iff.1 hy).1
      simp at this; omega
     subst hi
     rw [hl] at hy
     simp at hy
     subst hy
     exact ⟨cs, h1, h2, h3⟩
  obtain ⟨xs, hxl, hx⟩ := pick len (Nat.le_refl _)
  refine ⟨xs, hxl, hl, hm, ⟨hxl, by unfold maxLen at hm; omega, fun _ => ⟨a, rfl, fun j x hj => ?_⟩⟩, fun x hx' => ?_⟩
  ·obtain ⟨cs, h1, h2, _⟩ := hx j x hj
   refine ⟨cs, d.K_len h2, h2, fun i u hu => ?_⟩
   rw [hs] at h1
   have hi : i < d.sz := by have := (List.getElem?_eq_some_iff.1 hu).1; rw [d.K_len h2] at this; exact this
   have h3 := (World.cells?_some h1).2.2 i hi
   have ha : (a.add (j * d.sz)).add i = a.add (j * d.sz + i) := by
    unfold Addr.add
    by_cases h1 : j * d.sz = 0 <;> by_cases h2 : i = 0 <;> simp [h1, h2, Nat.add_assoc]
   rw [← ha, h3, hu]
  ·obtain ⟨j, hj⟩ := List.getElem?_of_mem hx'
   obtain ⟨_, _, _, h3⟩ := hx j x hj
   exact h3
end Go.Proofs.YtniegajdmbepbaaGreatDoor.Open

