/- From the row's list of variables to the fact that the contracts hand on: the table of nibbles lies as its initialiser lays it. No condition. -/
import Derived.Test.YtjjbhkaigfggdaaDoorRows
import Derived.Test.YtjjbhkaigfggdaaDoorWire3
set_option linter.unusedVariables false
namespace Go.Proofs.YtjjbhkaigfggdaaDoor.Wire
open Go
theorem gNibType : (Tryd.prog.globals[0]?).map (·.type) = some 52 := by kernel_rfl
theorem cellsNib : Tryd.prog.cellsOf 52 = 16 := by kernel_rfl
theorem cellsU32 : Tryd.prog.cellsOf 43 = 1 := by kernel_rfl
theorem amb_of {W : World} (h : laidMetH Tryd.prog [("clearway/wire.nibbles", Rows.laid_clearway_wire_nibbles)] W) : Amb W :=
  Lib.tabIs_of_head (rest := []) gNib gNibType Tryd.underlying52 Tryd.underlying43 cellsU32 cellsNib h
end Go.Proofs.YtjjbhkaigfggdaaDoor.Wire
