/- No condition. -/
import Derived.Test.YtniegajdmbepbaaGreatDoorProg
import Derived.Test.YtniegajdmbepbaaGreatDoorKJournalMatchesReference2
import Derived.Lib.LaidTab
import Derived.WalkKit
import Derived.ProofKit
import Derived.OpenShut
import Derived.ShutString
import Derived.ChangeOld
import Derived.Below
import Derived.KernelRfl
namespace Go.Proofs.YtniegajdmbepbaaGreatDoor.Open
open Go Go.RowKit Go.ChangeShapes Go.WideShapes Go.ChangeAt Go.Proofs.YtniegajdmbepbaaGreatDoorW.PrintWords
def Opens {α : Type} (P : Program) (t : TypeId) (d : Kd α) (p : α → Prop) : Prop :=
 ∀ {H : Type} (enc : TypeId × Value → H) (w : World) (base : Nat) (spare : Nat → Bool) (held : Bool) (fuel : Nat) (cs : List Value) (x : DataW H × List MemPlace),
  DataW.trod enc P w base spare held fuel t cs = some x → ∃ a, d.K w a cs ∧ p a
theorem opens_int {P : Program} {t : TypeId} {k : IntKind} (ht : P.underlying t = some (.int k)) : Opens P t (Kd.int k) (fun n => (Lit.int k n).wf = true) := by
 intro H enc w base spare held fuel cs x h
 obtain ⟨n, rfl, _, hw⟩ := DataW.trod_int ht h
 exact ⟨n, rfl, hw⟩
theorem opens_string {P : Program} {t : TypeId} (ht : P.underlying t = some .string) : Opens P t Kd.string (fun s => s.size ≤ maxLen) := by
 intro H enc w base spare held fuel cs x h
 obtain ⟨s, rfl, _, hw⟩ := DataW.trod_string ht h
 exact ⟨s, rfl, hw⟩
theorem slice_C {α : Type} {P : Program} {t e : TypeId} {d : Kd α} {p : α → Prop} (ht : P.underlying t = some (.slice e)) (he : Opens P e d p) (hs : P.cellsOf e = d.sz)
  {H : Type} {enc : TypeId × Value → H} {w : World} {base : Nat} {spare : Nat → Bool} {held : Bool} {A : Option Addr} {len cap : Nat} {dd : DataW H} {ps : List MemPlace}
  (h : DataW.Trod enc P w base spare held t (.slice A len cap) dd ps) : ∃ xs : List α, xs.length = len ∧ len ≤ cap ∧ cap ≤ maxLen ∧ d.C w A len xs ∧ ∀ x ∈ xs, p x := by
 obtain ⟨fuel, hf⟩ := h
 rcases DataW.trod_slice ht hf with ⟨hcs, _⟩ | ⟨a, l, c, elems, rest, n, _, hcs, _, hb, hl, hm, hlen, hel, _, _⟩
 ·simp [Value.cells] at hcs
  obtain ⟨rfl, rfl, rfl⟩ := hcs
  exact ⟨[], rfl, Nat.le_refl _, by decide, ⟨rfl, by decide, fun h => absurd h (by decide)⟩, fun x hx => by cases hx⟩
 ·simp [Value.cells] at hcs
  obtain ⟨rfl, rfl, rfl⟩ := hcs
  have each : ∀ i, i < len → ∃ x cs, w.cells? base (a.add (i * P.cellsOf e)) (P.cellsOf e) = some cs ∧ d.K w x cs ∧ p x := by
   intro i hi
   have h1 := hel i hi
   rw [List.getElem?_eq_getElem (show i < elems.length by omega)] at h1
   obtain ⟨cs, hc1, hc2⟩ := Option.bind_eq_some_iff.1 h1
   obtain ⟨x, hx, hp⟩ := he enc w base spare held n cs _ hc2
   exact ⟨x, cs, hc1, hx, hp⟩
  have pick : ∀ m, m ≤ len → ∃ xs : List α, xs.length = m ∧ (∀ i x, xs[i]? = some x → ∃ cs, w.cells? base (a.add (i * P.cellsOf e)) (P.cellsOf e) = some cs ∧ d.K w x cs ∧ p x) := by
   intro m
   induction m with
   | zero => exact fun _ => ⟨[], rfl, fun i x hx => by simp at hx⟩
   | succ m ih =>
    intro hm
    obtain ⟨xs, hl, hx⟩ := ih (by omega)
    obtain ⟨x, cs, h1, h2, h3⟩ := each m (by omega)
    refine ⟨xs ++ [x], by simp [hl], fun i y hy => ?_⟩
    rw [List.getElem?_append] at hy
    split at hy
    ·exact hx i y hy
    ·have hi : i = m := by
      have := (List.getElem?_eq_some_iff.1 hy).1
      simp at this; omega
     subst hi
     rw [hl] at hy
     simp at hy
     subst hy
     exact ⟨cs, h1, h2, h3⟩
  obtain ⟨xs, hxl, hx⟩ := pick len (Nat.le_refl _)
  refine ⟨xs, hxl, hl, hm, ⟨hxl, by unfold maxLen at hm; omega, fun _ => ⟨a, rfl, fun j x hj => ?_⟩⟩, fun x hx' => ?_⟩
  ·obtain ⟨cs, h1, h2, _⟩ := hx j x hj
   refine ⟨cs, d.K_len h2, h2, fun i u hu => ?_⟩
   rw [hs] at h1
   have hi : i < d.sz := by have := (List.getElem?_eq_some_iff.1 hu).1; rw [d.K_len h2] at this; exact this
   have h3 := (World.cells?_some h1).2.2 i hi
   have ha : (a.add (j * d.sz)).add i = a.add (j * d.sz + i) := by
    unfold Addr.add
    by_cases h1 : j * d.sz = 0 <;> by_cases h2 : i = 0 <;> simp [h1, h2, Nat.add_assoc]
   rw [← ha, h3, hu]
  ·obtain ⟨j, hj⟩ := List.getElem?_of_mem hx'
   obtain ⟨_, _, _, h3⟩ := hx j x hj
   exact h3
theorem opens_slice {α : Type} {P : Program} {t e e' : TypeId} {d : Kd α} {p : α → Prop} (ht : P.underlying t = some (.slice e)) (he : Opens P e d p) (hs : P.cellsOf e = d.sz) : Opens P t (Kd.slice e' d) (fun _ => True) := by
 intro H enc w base spare held fuel cs x h
 rcases DataW.trod_slice ht h with ⟨hcs, _⟩ | ⟨a, l, c, elems, rest, n, _, hcs, _⟩
 ·exact ⟨[], ⟨none, 0, hcs, Nat.le_refl _, ⟨rfl, Nat.zero_le _, fun h => absurd h (Nat.lt_irrefl 0)⟩⟩, trivial⟩
 ·subst hcs
  obtain ⟨xs, h1, h2, _, h3, _⟩ := slice_C (A := some a) (len := l) (cap := c) (dd := x.1) (ps := x.2) ht he hs ⟨fuel, h⟩
  subst h1
  exact ⟨xs, ⟨some a, c, rfl, h2, h3⟩, trivial⟩
open Go Go.RowKit Go.ChangeShapes Go.WideShapes Go.ChangeAt Go.Proofs.YtniegajdmbepbaaGreatDoorW.PrintWords
theorem opens_four {α β γ δ : Type} {P : Program} {t : TypeId} {f0 f1 f2 f3 : Field} (ht : P.underlying t = some (.struct #[f0, f1, f2, f3]))
    {d0 : Kd α} {d1 : Kd β} {d2 : Kd γ} {d3 : Kd δ} {p0 : α → Prop} {p1 : β → Prop} {p2 : γ → Prop} {p3 : δ → Prop}
    (h0 : Opens P f0.type d0 p0) (h1 : Opens P f1.type d1 p1) (h2 : Opens P f2.type d2 p2) (h3 : Opens P f3.type d3 p3)
    (o0 : f0.offset = 0) (o1 : f1.offset = 1) (o2 : f2.offset = 2) (o3 : f3.offset = 3) (c0 : P.cellsOf f0.type = 1) (c1 : P.cellsOf f1.type = 1) (c2 : P.cellsOf f2.type = 1) (c3 : P.cellsOf f3.type = 1) (ct : P.cellsOf t = 4) :
    Opens P t (Kd.pair d0 (Kd.pair d1 (Kd.pair d2 d3))) (fun x => p0 x.1 ∧ p1 x.2.1 ∧ p2 x.2.2.1 ∧ p3 x.2.2.2) := by
  intro H enc w base spare held fuel cs x h
  cases fuel with
  | zero => simp [DataW.trod] at h
  | succ fuel =>
    simp only [DataW.trod, ht, ct] at h
    split at h
    · rename_i hl
      obtain ⟨ys, hm, _⟩ := Option.map_eq_some_iff.1 h
      match cs, hl with
      | [x0, x1, x2, x3], _ =>
        obtain ⟨b0, _, hf0⟩ := Lib.mapM_at hm 0 f0 rfl
        obtain ⟨b1, _, hf1⟩ := Lib.mapM_at hm 1 f1 rfl
        obtain ⟨b2, _, hf2⟩ := Lib.mapM_at hm 2 f2 rfl
        obtain ⟨b3, _, hf3⟩ := Lib.mapM_at hm 3 f3 rfl
        rw [o0, c0] at hf0
        rw [o1, c1] at hf1
        rw [o2, c2] at hf2
        rw [o3, c3] at hf3
        obtain ⟨a0, k0, q0⟩ := h0 enc w base spare held fuel _ b0 hf0
        obtain ⟨a1, k1, q1⟩ := h1 enc w base spare held fuel _ b1 hf1
        obtain ⟨a2, k2, q2⟩ := h2 enc w base spare held fuel _ b2 hf2
        obtain ⟨a3, k3, q3⟩ := h3 enc w base spare held fuel _ b3 hf3
        exact ⟨(a0, a1, a2, a3), ⟨[x0], [x1, x2, x3], rfl, k0, [x1], [x2, x3], rfl, k1, [x2], [x3], rfl, k2, k3⟩, q0, q1, q2, q3⟩
    · cases h
def opKd : Kd (Int × List ByteArray × Int × List Int) := Kd.pair (Kd.int .i64) (Kd.pair (Kd.slice 9 Kd.string) (Kd.pair (Kd.int .i64) (Kd.slice 3 (Kd.int .i64))))
theorem opens_op : Opens Tryz.prog 62 opKd (fun x => (Lit.int .i64 x.1).wf = true ∧ True ∧ (Lit.int .i64 x.2.2.1).wf = true ∧ True) :=
  opens_four Tryz.underlying62 (opens_int Tryz.underlying3) (opens_slice Tryz.underlying22 (opens_string Tryz.underlying9) (by kernel_rfl)) (opens_int Tryz.underlying3) (opens_slice Tryz.underlying56 (opens_int Tryz.underlying3) (by kernel_rfl))
    rfl rfl rfl rfl (by kernel_rfl) (by kernel_rfl) (by kernel_rfl) (by kernel_rfl) (by kernel_rfl)
end Go.Proofs.YtniegajdmbepbaaGreatDoor.Open
