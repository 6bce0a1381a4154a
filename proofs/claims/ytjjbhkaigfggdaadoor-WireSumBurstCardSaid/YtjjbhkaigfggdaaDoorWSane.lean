/- The fixed examples of layer 1 hold: 'sane' returns true. Condition: the table of nibbles lies as its initialiser lays it. -/
import Derived.Test.YtjjbhkaigfggdaaDoorPr1
import Derived.Outline
set_option linter.unusedVariables false
set_option linter.unusedSimpArgs false
namespace Go.Proofs.YtjjbhkaigfggdaaDoor.Wire
open Go Go.RowKit Go.Shelf Go.Proofs.YtjjbhkaigfggdaaDoor.Pr Go.Proofs.YtjjbhkaigfggdaaDoorW.PrintWords

theorem s1 : wire_PutInt.f (-64) = some (⟨#[127]⟩, 0) := by kernel_rfl
theorem s2 : wire_PutInt.f 64 = some (⟨#[128, 1]⟩, 0) := by kernel_rfl
theorem s3 : wire_Int.f 20 ⟨#[97, 172, 2, 98]⟩ 1 = some (150, 3, 0) := by kernel_rfl
theorem s4 : wire_Int.f 20 ⟨#[128, 0]⟩ 0 = some (0, 0, 10) := by kernel_rfl
theorem s5 : wire_PutString.f ⟨#[97, 98]⟩ = some (⟨#[4, 97, 98]⟩, 0) := by kernel_rfl
theorem s6 : wire_String.f 20 ⟨#[4, 97, 98, 99]⟩ 0 = some (⟨#[97, 98]⟩, 3, 0) := by kernel_rfl
theorem s7 : wire_String.f 20 ⟨#[4, 97]⟩ 0 = some (⟨#[]⟩, 0, 10) := by kernel_rfl
theorem s8 : wire_PutInt.f 4611686018427387904 = some (⟨#[]⟩, 10) := by kernel_rfl
theorem s9 : wire_Int.f 20 ⟨#[]⟩ 1 = some (0, 0, 2) := by kernel_rfl
theorem s10 : wire_Sum.f ⟨#[49, 50, 51, 52, 53, 54, 55, 56, 57]⟩ = some 3808858755 := by kernel_rfl

theorem below_then {w a c : World} (h : Below w.heap.size w a) (k : Below a.heap.size a c) : Below w.heap.size w c := h.trans (k.mono h.size)

def clearwaylaw01_sane.f : Option Bool := some true
set_option maxHeartbeats 2000000 in
set_option maxRecDepth 100000 in
theorem clearwaylaw01_sane.calls (r : Bool) (w : World) (hG_ : Amb w) (h : clearwaylaw01_sane.f = some r) :
    Calls Tryd.prog 10 #[] w fun e w' => e = .returned (.bool r) ∧ Below w.heap.size w w' := by
  obtain rfl := (Option.some.inj h).symm
  go_enter Tryd.func10, Tryd.ntmps10
  go_wp2_with fail
  refine (wire_PutInt.calls _ _ _ _ s1).mono ?_
  rintro e w1 ⟨rfl, b1⟩
  go_wp2_with fail
  refine (wire_PutInt.calls _ _ _ _ s2).mono ?_
  rintro e w2 ⟨rfl, b2⟩
  replace b2 := below_then b1 b2
  go_wp2_with fail
  refine (wire_Int.calls _ _ _ _ _ _ _ s3).mono ?_
  rintro e w3 ⟨rfl, ⟨n3, rfl⟩⟩
  go_wp2_with fail
  refine (wire_Int.calls _ _ _ _ _ _ _ s4).mono ?_
  rintro e w3 ⟨rfl, ⟨n4, rfl⟩⟩
  go_wp2_with fail
  refine (wire_PutString.calls _ _ _ _ s5).mono ?_
  rintro e w4 ⟨rfl, b4⟩
  replace b4 : Below w.heap.size w w4 := below_then (by repeat (first | exact b2 | apply pw_below_drewN)) b4
  go_wp2_with fail
  refine (wire_String.calls _ _ _ _ _ _ _ s6).mono ?_
  rintro e w3 ⟨rfl, ⟨n5, rfl⟩⟩
  go_wp2_with fail
  refine (wire_String.calls _ _ _ _ _ _ _ s7).mono ?_
  rintro e w3 ⟨rfl, ⟨n6, rfl⟩⟩
  go_wp2_with fail
  refine (wire_PutInt.calls _ _ _ _ s8).mono ?_
  rintro e w5 ⟨rfl, b5⟩
  replace b5 : Below w.heap.size w w5 := below_then (by repeat (first | exact b4 | apply pw_below_drewN)) b5
  go_wp2_with fail
  refine (wire_Int.calls _ _ _ _ _ _ _ s9).mono ?_
  rintro e w3 ⟨rfl, ⟨n7, rfl⟩⟩
  have g5 : Amb (w5.drewN n7) := hG_.below (by repeat (first | exact b5 | apply pw_below_drewN))
  go_wp2_with fail
  refine (wire_Sum.calls _ _ _ g5 s10).mono ?_
  rintro e w6 ⟨rfl, b6⟩
  replace b6 : Below w.heap.size w w6 := below_then (by repeat (first | exact b5 | apply pw_below_drewN)) b6
  go_wp2_with fail
  go_ret
  exact ⟨rfl, b6⟩
end Go.Proofs.YtjjbhkaigfggdaaDoor.Wire
