/- From a row's reading of its arguments to what the printed contracts ask: integers, bools, strings, slices, arrays of two strings. No condition. -/
import Derived.Test.YtjkdenldddjcnaaDoorProg
import Derived.Test.YtjkdenldddjcnaaDoorWWords
import Derived.Test.YtjkdenldddjcnaaDoorWArr
import Derived.Lib.LaidTab
import Derived.WalkKit
import Derived.ProofKit
import Derived.OpenShut
import Derived.ShutString
import Derived.ChangeOld
import Derived.Below
set_option linter.unusedVariables false
set_option linter.unusedSimpArgs false
namespace Go.Proofs.YtjkdenldddjcnaaDoor.Open
open Go Go.RowKit Go.ChangeShapes Go.WideShapes Go.ChangeAt Go.Proofs.YtjkdenldddjcnaaDoorW.PrintWords

/-- A type whose cells read as data of kind d, with p known of each. -/
def Opens {α : Type} (P : Program) (t : TypeId) (d : Kd α) (p : α → Prop) : Prop :=
  ∀ {H : Type} (enc : TypeId × Value → H) (w : World) (base : Nat) (spare : Nat → Bool) (held : Bool) (fuel : Nat) (cs : List Value) (x : DataW H × List MemPlace),
    DataW.trod enc P w base spare held fuel t cs = some x → ∃ a, d.K w a cs ∧ p a

theorem opens_int {P : Program} {t : TypeId} {k : IntKind} (ht : P.underlying t = some (.int k)) : Opens P t (Kd.int k) (fun n => (Lit.int k n).wf = true) := by
  intro H enc w base spare held fuel cs x h
  obtain ⟨n, rfl, _, hw⟩ := DataW.trod_int ht h
  exact ⟨n, rfl, hw⟩
theorem opens_string {P : Program} {t : TypeId} (ht : P.underlying t = some .string) : Opens P t Kd.string (fun s => s.size ≤ maxLen) := by
  intro H enc w base spare held fuel cs x h
  obtain ⟨s, rfl, _, hw⟩ := DataW.trod_string ht h
  exact ⟨s, rfl, hw⟩
theorem slice_C {α : Type} {P : Program} {t e : TypeId} {d : Kd α} {p : α → Prop} (ht : P.underlying t = some (.slice e)) (he : Opens P e d p) (hs : P.cellsOf e = d.sz)
    {H : Type} {enc : TypeId × Value → H} {w : World} {base : Nat} {spare : Nat → Bool} {held : Bool} {A : Option Addr} {len cap : Nat} {dd : DataW H} {ps : List MemPlace}
    (h : DataW.Trod enc P w base spare held t (.slice A len cap) dd ps) : ∃ xs : List α, xs.length = len ∧ len ≤ cap ∧ cap ≤ maxLen ∧ d.C w A len xs ∧ ∀ x ∈ xs, p x := by
  obtain ⟨fuel, hf⟩ := h
  rcases DataW.trod_slice ht hf with ⟨hcs, _⟩ | ⟨a, l, c, elems, rest, n, _, hcs, _, hb, hl, hm, hlen, hel, _, _⟩
  · simp [Value.cells] at hcs
    obtain ⟨rfl, rfl, rfl⟩ := hcs
    exact ⟨[], rfl, Nat.le_refl _, by decide, ⟨rfl, by decide, fun h => absurd h (by decide)⟩, fun x hx => by cases hx⟩
  · simp [Value.cells] at hcs
    obtain ⟨rfl, rfl, rfl⟩ := hcs
    have each : ∀ i, i < len → ∃ x cs, w.cells? base (a.add (i * P.cellsOf e)) (P.cellsOf e) = some cs ∧ d.K w x cs ∧ p x := by
      intro i hi
      have h1 := hel i hi
      rw [List.getElem?_eq_getElem (show i < elems.length by omega)] at h1
      obtain ⟨cs, hc1, hc2⟩ := Option.bind_eq_some_iff.1 h1
      obtain ⟨x, hx, hp⟩ := he enc w base spare held n cs _ hc2
      exact ⟨x, cs, hc1, hx, hp⟩
    have pick : ∀ m, m ≤ len → ∃ xs : List α, xs.length = m ∧ (∀ i x, xs[i]? = some x → ∃ cs, w.cells? base (a.add (i * P.cellsOf e)) (P.cellsOf e) = some cs ∧ d.K w x cs ∧ p x) := by
      intro m
      induction m with
      | zero => exact fun _ => ⟨[], rfl, fun i x hx => by simp at hx⟩
      | succ m ih =>
        intro hm
        obtain ⟨xs, hl, hx⟩ := ih (by omega)
        obtain ⟨x, cs, h1, h2, h3⟩ := each m (by omega)
        refine ⟨xs ++ [x], by simp [hl], fun i y hy => ?_⟩
        rw [List.getElem?_append] at hy
        split at hy
        · exact hx i y hy
        · have hi : i = m := by
            have := (List.getElem?_eq_some_iff.1 hy).1
            simp at this; omega
          subst hi
          rw [hl] at hy
          simp at hy
          subst hy
          exact ⟨cs, h1, h2, h3⟩
    obtain ⟨xs, hxl, hx⟩ := pick len (Nat.le_refl _)
    refine ⟨xs, hxl, hl, hm, ⟨hxl, by unfold maxLen at hm; omega, fun _ => ⟨a, rfl, fun j x hj => ?_⟩⟩, fun x hx' => ?_⟩
    · obtain ⟨cs, h1, h2, _⟩ := hx j x hj
      refine ⟨cs, d.K_len h2, h2, fun i u hu => ?_⟩
      rw [hs] at h1
      have hi : i < d.sz := by have := (List.getElem?_eq_some_iff.1 hu).1; rw [d.K_len h2] at this; exact this
      have h3 := (World.cells?_some h1).2.2 i hi
      have ha : (a.add (j * d.sz)).add i = a.add (j * d.sz + i) := by
        unfold Addr.add
        by_cases h1 : j * d.sz = 0 <;> by_cases h2 : i = 0 <;> simp [h1, h2, Nat.add_assoc]
      rw [← ha, h3, hu]
    · obtain ⟨j, hj⟩ := List.getElem?_of_mem hx'
      obtain ⟨_, _, _, h3⟩ := hx j x hj
      exact h3
theorem okWide_array {P : Program} {w : World} {r : Reach} {base : Nat} {t e : TypeId} {n : Nat} {v : Value} (ht : P.underlying t = some (.array n e)) (h : Value.okWide P w r base t v) : ∃ cs, v = .agg cs ∧ cs.size = P.cellsOf t := by
  simp only [Value.okWide, ht] at h
  obtain ⟨cs, h1, h2, _⟩ := h
  exact ⟨cs, h1, h2⟩
theorem opens_array {α : Type} {P : Program} {t e : TypeId} {n : Nat} {d : Kd α} {p : α → Prop} (ht : P.underlying t = some (.array n e)) (he : Opens P e d p) (hs : P.cellsOf e = d.sz) (hc : P.cellsOf t = n * d.sz) (h0 : 0 < d.sz) :
    Opens P t (Kd.arr n d h0) (fun xs => xs.length = n ∧ ∀ x ∈ xs, p x) := by
  intro H enc w base spare held fuel cs x h
  cases fuel with
  | zero => simp [DataW.trod] at h
  | succ fuel =>
    simp only [DataW.trod, ht, hs, hc] at h
    split at h
    · rename_i hl
      obtain ⟨ys, hm, _⟩ := Option.map_eq_some_iff.1 h
      have each : ∀ i, i < n → ∃ a, d.K w a ((cs.drop (i * d.sz)).take d.sz) ∧ p a := by
        intro i hi
        obtain ⟨b, _, hf⟩ := Lib.mapM_at hm i i (by simp [hi])
        exact he enc w base spare held fuel _ b hf
      have pick : ∀ m, m ≤ n → ∃ xs : List α, xs.length = m ∧ (∀ i x, xs[i]? = some x → d.K w x ((cs.drop (i * d.sz)).take d.sz) ∧ p x) := by
        intro m
        induction m with
        | zero => exact fun _ => ⟨[], rfl, fun i x hx => by simp at hx⟩
        | succ m ih =>
          intro hm
          obtain ⟨xs, hl, hx⟩ := ih (by omega)
          obtain ⟨x, h2, h3⟩ := each m (by omega)
          refine ⟨xs ++ [x], by simp [hl], fun i y hy => ?_⟩
          rw [List.getElem?_append] at hy
          split at hy
          · exact hx i y hy
          · have hi : i = m := by
              have := (List.getElem?_eq_some_iff.1 hy).1
              simp at this; omega
            subst hi
            rw [hl] at hy
            simp at hy
            subst hy
            exact ⟨h2, h3⟩
      obtain ⟨xs, hxl, hx⟩ := pick n (Nat.le_refl _)
      refine ⟨xs, ⟨hxl, by rw [hl, hxl], fun j y hy => (hx j y hy).1⟩, hxl, fun y hy => ?_⟩
      obtain ⟨j, hj⟩ := List.getElem?_of_mem hy
      exact (hx j y hj).2
    · cases h
/-- An array argument, by value. -/
theorem open_array {α : Type} {H : Type} {enc : TypeId × Value → H} {P : Program} {w : World} {r : Reach} {base : Nat} {spare : Nat → Bool} {held : Bool} {t e : TypeId} {n b0 : Nat} {v : Value} {dd : DataW H} {ps : List MemPlace} {d : Kd α} {p : α → Prop}
    (ht : P.underlying t = some (.array n e)) (ho : Opens P t d p) (hv : Value.okWide P w r b0 t v) (h : DataW.Trod enc P w base spare held t v dd ps) :
    ∃ (cs : Array Value) (a : α), v = .agg cs ∧ d.K w a cs.toList ∧ p a := by
  obtain ⟨cs, rfl, hsz⟩ := okWide_array ht hv
  obtain ⟨fuel, hf⟩ := h
  obtain ⟨a, ha, hp⟩ := ho enc w base spare held fuel _ _ hf
  exact ⟨cs, a, rfl, by simpa [Value.cells] using ha, hp⟩
theorem open_two_strings {H : Type} {enc : TypeId × Value → H} {P : Program} {w : World} {r : Reach} {base : Nat} {spare : Nat → Bool} {held : Bool} {t e : TypeId} {b0 : Nat} {v : Value} {d : DataW H} {p : List MemPlace}
    (ht : P.underlying t = some (.array 2 e)) (he : P.underlying e = some .string) (hct : P.cellsOf t = 2) (hce : P.cellsOf e = 1) (hv : Value.okWide P w r b0 t v) (h : DataW.Trod enc P w base spare held t v d p) :
    ∃ a b : ByteArray, v = .agg #[.string a, .string b] ∧ a.size ≤ maxLen ∧ b.size ≤ maxLen := by
  obtain ⟨cs, xs, rfl, hk, hl, hx⟩ := open_array ht (opens_array (d := Kd.string) ht (opens_string he) hce hct Nat.one_pos) hv h
  match xs, hl with
  | [a, b], _ =>
    have h1 := hk.2.2 0 a rfl
    have h2 := hk.2.2 1 b rfl
    have hs := hk.2.1
    refine ⟨a, b, ?_, hx a (by simp), hx b (by simp)⟩
    rcases cs with ⟨l⟩
    have h1' : List.take 1 (List.drop (0 * 1) l) = [Value.string a] := h1
    have h2' : List.take 1 (List.drop (1 * 1) l) = [Value.string b] := h2
    have hs' : 2 * 1 = l.length ∨ l.length = 2 * 1 := by first | exact .inl hs | exact .inr hs
    match l, hs' with
    | [x, y], _ =>
      simp at h1' h2'
      rw [h1', h2']
end Go.Proofs.YtjkdenldddjcnaaDoor.Open
