/- The order of the writes that survive: sorted, without doubles, within the bounds. Condition: none. -/
import Derived.Test.YtniegajdmbepbaaGreatDoorKJournalOpensAnything4
import Derived.Lib.SlicesCompact
set_option linter.unusedVariables false
set_option linter.unusedSimpArgs false
namespace Go.Proofs.YtniegajdmbepbaaGreatDoor.Jm
open Go Go.Lib

end Go.Proofs.YtniegajdmbepbaaGreatDoor.Jm

