/- slices.Collect, Sorted of slices.Values, slices.Compact over ints. Condition: at most 1,000,000 ints. -/
import Derived.Test.YtniegajdmbepbaaGreatDoorKJournalOpensAnything6
import Derived.Test.YtniegajdmbepbaaGreatDoorKJournalOpensAnything7
import Derived.Lib.SlKeysI
set_option linter.unusedVariables false
set_option linter.unusedSimpArgs false
namespace Go.Proofs.YtniegajdmbepbaaGreatDoor.Jm
open Go Go.RowKit Go.Shelf Go.Sort Go.Proofs.YtniegajdmbepbaaGreatDoor.Rf Go.Proofs.YtniegajdmbepbaaGreatDoorW.PrintWords

end Go.Proofs.YtniegajdmbepbaaGreatDoor.Jm

