/- From a row's reading of its arguments to what the printed contracts ask: integers, bools, strings, slices, arrays of two strings. No condition. -/
import Derived.Test.YtjkdenldddjcnaaDoorProg
import Derived.Test.YtjkdenldddjcnaaDoorKDigestSumMatchesReference1
import Derived.Lib.LaidTab
import Derived.WalkKit
import Derived.ProofKit
import Derived.OpenShut
import Derived.ShutString
import Derived.ChangeOld
import Derived.Below
set_option linter.unusedVariables false
set_option linter.unusedSimpArgs false
namespace Go.Proofs.YtjkdenldddjcnaaDoor.Open
open Go Go.RowKit Go.ChangeShapes Go.WideShapes Go.ChangeAt Go.Proofs.YtjkdenldddjcnaaDoorW.PrintWords

end Go.Proofs.YtjkdenldddjcnaaDoor.Open

