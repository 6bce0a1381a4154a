/- slices.Values over ints, and slices.AppendSeq, Collect of it. Condition: at most 1,000,000 ints. -/
import Derived.Test.YtniegajdmbepbaaGreatDoorKJournalOpensAnything3
import Derived.Test.YtniegajdmbepbaaGreatDoorKJournalOpensAnything5
import Derived.KernelRfl
set_option linter.unusedVariables false
set_option linter.unusedSimpArgs false
namespace Go.Proofs.YtniegajdmbepbaaGreatDoor.Jm
open Go Go.RowKit Go.Shelf Go.Proofs.YtniegajdmbepbaaGreatDoor.Rf Go.Proofs.YtniegajdmbepbaaGreatDoorW.PrintWords
attribute [local go_sem] Oper.semAt_some

def intR (xs : List Int) (bk o : Nat) (W : World) : Prop := ∀ (j : Nat) (x : Int), xs[j]? = some x → W.cell? ⟨bk, o + j, none⟩ = some (.int .i64 x)
theorem intR.block {xs : List Int} {bk o : Nat} {W W' : World} (h : intR xs bk o W) (k : W'.heap[bk]? = W.heap[bk]?) : intR xs bk o W' := by
  intro j x hx
  have := h j x hx
  simp only [World.cell?] at this ⊢
  rw [k]
  exact this
def iv (l : List Int) : List Value := l.map (Value.int .i64)
end Go.Proofs.YtniegajdmbepbaaGreatDoor.Jm

