/- No condition. -/
import Derived.Test.YtniegajdmbepbaaGreatDoorRows
import Derived.Test.YtniegajdmbepbaaGreatDoorKJournalMatchesReference40
import Derived.Test.YtniegajdmbepbaaGreatDoorKJournalMatchesReference23
import Derived.Stop.LaidErr
import Derived.KernelRfl
namespace Go.Proofs.YtniegajdmbepbaaGreatDoor.Jm
open Go Go.ChangeShapes
theorem gErr : Tryz.prog.globalNamed "clearway/journal.errDamaged" = some 0 := by kernel_rfl
theorem gErrType : (Tryz.prog.globals[0]?).map (·.type) = some 80 := by kernel_rfl
theorem cellsErr : Tryz.prog.cellsOf 244 = 1 := by kernel_rfl
theorem cellsStr : Tryz.prog.cellsOf 9 = 1 := by kernel_rfl
theorem starErr : "*" ++ "errors.errorString" = "*errors.errorString" := by decide
theorem rowErr (u : TypeId) (h : Tryz.prog.typeName? 3 u = some "*errors.errorString") : u = 222 :=
  typeName_ptr_named (nm := "errors.errorString") (by rw [starErr]; kernel_rfl) (by kernel_rfl) (by decide) u (by rw [starErr]; exact h)
theorem amb29 {W : World} (h : laidMetH Tryz.prog [("unicode/utf8.acceptRanges", Rows.laid_unicode_utf8_acceptRanges), ("clearway/digest.round", Rows.laid_clearway_digest_round), ("clearway/journal.errDamaged", Rows.laid_clearway_journal_errDamaged), ("unicode/utf8.first", Rows.laid_unicode_utf8_first)] W) :
    Sha.Amb W ∧ ∃ a, AmbE a W := by
  have h0 : laidMet Tryz.prog [("unicode/utf8.acceptRanges", Rows.laid_unicode_utf8_acceptRanges), ("clearway/digest.round", Rows.laid_clearway_digest_round), ("clearway/journal.errDamaged", Rows.laid_clearway_journal_errDamaged), ("unicode/utf8.first", Rows.laid_unicode_utf8_first)] W := h
  have h1 := laidMet.tail h0
  have h2 := laidMet.tail h1
  refine ⟨?_, ?_⟩
  · have e1 : Lib.TabIs Tryz.prog W "clearway/digest.round" .u32 (Sha.rk.map Sha.u) :=
      Lib.tabIs_of_head Sha.gRound Sha.gRoundType Tryz.underlying214 Tryz.underlying109 Sha.cellsW32 Sha.cellsRound (by rw [← Sha.laid_round]; exact h1)
    exact Sha.amb_tab e1
  · obtain ⟨a, s, hv, _⟩ := laid_sentinel h2 gErr gErrType Tryz.underlying80 rowErr Tryz.underlying222 Tryz.underlying244 rfl rfl Tryz.underlying9 cellsErr cellsStr
    refine ⟨a, ?_⟩
    unfold World.var? at hv
    rw [gErr] at hv
    simp only [Option.bind_some] at hv
    split at hv
    · rename_i cs t fr hh
      exact ⟨t, fr, by rw [hh, Option.some.inj hv]⟩
    · cases hv
end Go.Proofs.YtniegajdmbepbaaGreatDoor.Jm
