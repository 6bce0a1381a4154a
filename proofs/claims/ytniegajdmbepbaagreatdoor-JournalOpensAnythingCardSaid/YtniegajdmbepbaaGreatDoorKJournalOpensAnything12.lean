/- A disk's settle from the durable content to the visible one; the closure of Crash, and slices.DeleteFunc with it. Condition: the bytes are bytes. slices.DeleteFunc with Crash's closure. Condition: at most 1,000,000 ints. -/
import Derived.Test.YtniegajdmbepbaaGreatDoorKJournalOpensAnything8
import Derived.Test.YtniegajdmbepbaaGreatDoorKJournalOpensAnything11
import Derived.Shelf.GgSortFunc.Insertion
set_option linter.unusedVariables false
set_option linter.unusedSimpArgs false
namespace Go.Proofs.YtniegajdmbepbaaGreatDoor.Jm
open Go Go.RowKit Go.Shelf Go.Sort Go.Proofs.YtniegajdmbepbaaGreatDoorW.PrintWords Go.Proofs.YtniegajdmbepbaaGreatDoorW.PrintMore

end Go.Proofs.YtniegajdmbepbaaGreatDoor.Jm

set_option linter.unusedVariables false
set_option linter.unusedSimpArgs false
namespace Go.Proofs.YtniegajdmbepbaaGreatDoor.Jm
open Go Go.RowKit Go.Shelf Go.Sort Go.Lib Go.Proofs.YtniegajdmbepbaaGreatDoorW.PrintWords Go.Proofs.YtniegajdmbepbaaGreatDoorW.PrintMore

end Go.Proofs.YtniegajdmbepbaaGreatDoor.Jm

