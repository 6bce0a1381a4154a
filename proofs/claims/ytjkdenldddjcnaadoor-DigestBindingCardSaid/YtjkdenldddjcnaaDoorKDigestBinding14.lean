/- The fixed examples of layer 2 hold: what 'sane' computes is true. No condition. The contracts of functions, written by this session's program (wip/pp.py): what the list functions answer, the code comes to. No condition. DigestBinding returns true for all arguments: the printed contract joined with the plain law. Condition: none but the sizes that any call has. -/
import Derived.Test.YtjkdenldddjcnaaDoorKDigestBinding11
import Derived.Test.YtjkdenldddjcnaaDoorKDigestBinding13
import Derived.Test.YtjkdenldddjcnaaDoorProg
import Derived.Below
import Derived.Deep.Draws
import Derived.Deep.AppendLies
import Derived.Maps.AppendAt
import Derived.OwnWalk
import Derived.Laws.BytesArg
import Derived.Laws.MakeOwn
import Derived.Laws.OwnMore
import Derived.Deep.OwnRows
import Derived.Tactics
import Derived.Lib.ConvBytes
import Derived.Laws.Slices
import Derived.WalkKit
import Derived.KernelRfl
import Derived.RowKit3
import Derived.Deep.LoopGhost
import Derived.Deep.QuietTactic
import Derived.BigQuiet
import Derived.WideLaws
import Derived.Deep.DeepCutAuto
import Derived.Deep.CutBlock
import Derived.Deep.RegionHeld3
import Derived.Laws.Rows
import Derived.Lib.AppendStr
import Derived.ArgAppend
import Derived.Laws.IdiomCopy
import Derived.OrdersHeld
import Derived.Laws.BitsLemmas
import Derived.RowKit
import Derived.Test.YtjkdenldddjcnaaDoorKDigestBinding9
import Derived.Test.YtjkdenldddjcnaaDoorWWords
import Derived.Test.YtjkdenldddjcnaaDoorWLast
import Derived.Test.YtjkdenldddjcnaaDoorWTab
import Derived.Test.YtjkdenldddjcnaaDoorWQPut
import Derived.Test.YtjkdenldddjcnaaDoorWApart
import Derived.Test.YtjkdenldddjcnaaDoorWArr
import Derived.Test.YtjkdenldddjcnaaDoorWZeros
import Derived.Test.YtjkdenldddjcnaaDoorWFoot
import Derived.Test.YtjkdenldddjcnaaDoorWKept
import Derived.Test.YtjkdenldddjcnaaDoorWShare
import Derived.Test.YtjkdenldddjcnaaDoorWN
import Derived.Test.YtjkdenldddjcnaaDoorWRepsOne
import Derived.Test.YtjkdenldddjcnaaDoorWGuard
import Derived.Test.YtjkdenldddjcnaaDoorWNEv
import Derived.Test.YtjkdenldddjcnaaDoorWMore
import Derived.Test.YtjkdenldddjcnaaDoorKDigestBinding10
set_option linter.unusedVariables false
set_option linter.unusedSimpArgs false
namespace Go.Proofs.YtjkdenldddjcnaaDoor.Sha
open Go Go.RowKit Go.Proofs.YtjkdenldddjcnaaDoor.Df Go.Proofs.YtjkdenldddjcnaaDoorW.PrintWords Go.Proofs.YtjkdenldddjcnaaDoorW.PrintLast Go.Proofs.YtjkdenldddjcnaaDoorW.PrintMore
set_option maxRecDepth 100000
set_option maxRecDepth 100000 in
theorem dsn1 : digest_Proof.f 200 [(⟨#[97]⟩ : ByteArray), (⟨#[98]⟩ : ByteArray), (⟨#[99]⟩ : ByteArray)] 2 = some ([(⟨#[177, 55, 152, 95, 244, 132, 251, 96, 13, 185, 49, 7, 199, 123, 3, 101, 200, 13, 120, 245, 180, 41, 222, 208, 253, 151, 54, 29, 7, 121, 153, 235]⟩ : ByteArray)], 0) := by kernel_rfl
set_option maxRecDepth 100000 in
theorem dsn2 : digest_Extension.f 200 [(⟨#[97]⟩ : ByteArray), (⟨#[98]⟩ : ByteArray), (⟨#[99]⟩ : ByteArray)] 1 = some ([(⟨#[87, 235, 53, 97, 93, 71, 243, 78, 199, 20, 202, 205, 245, 253, 116, 96, 138, 94, 142, 16, 39, 36, 232, 11, 36, 178, 135, 192, 194, 123, 106, 49]⟩ : ByteArray), (⟨#[89, 127, 203, 49, 40, 45, 52, 101, 76, 32, 13, 52, 24, 252, 165, 112, 92, 100, 142, 191, 50, 110, 199, 61, 141, 222, 241, 24, 65, 248, 118, 216]⟩ : ByteArray)], 0) := by kernel_rfl
set_option maxRecDepth 100000 in
theorem dsn3 : digest_Proof.f 200 [(⟨#[97]⟩ : ByteArray), (⟨#[98]⟩ : ByteArray), (⟨#[99]⟩ : ByteArray)] 3 = some ([], 2) := by kernel_rfl
set_option maxRecDepth 100000 in
theorem dsn4 : digest_Root.f [(⟨#[97]⟩ : ByteArray), (⟨#[98]⟩ : ByteArray), (⟨#[99]⟩ : ByteArray)] = some (⟨#[54, 100, 46, 115, 194, 84, 10, 177, 33, 227, 166, 191, 149, 69, 176, 162, 73, 130, 205, 131, 14, 177, 61, 60, 209, 157, 227, 206, 108, 2, 30, 193]⟩ : ByteArray) := by kernel_rfl
set_option maxRecDepth 100000 in
theorem dsn5 : digest_Sum.f (⟨#[]⟩ : ByteArray) = some (⟨#[227, 176, 196, 66, 152, 252, 28, 20, 154, 251, 244, 200, 153, 111, 185, 36, 39, 174, 65, 228, 100, 155, 147, 76, 164, 149, 153, 27, 120, 82, 184, 85]⟩ : ByteArray) := by kernel_rfl
set_option maxRecDepth 100000 in
theorem dsn6 : digest_Sum.f (⟨#[97, 98, 99]⟩ : ByteArray) = some (⟨#[186, 120, 22, 191, 143, 1, 207, 234, 65, 65, 64, 222, 93, 174, 34, 35, 176, 3, 97, 163, 150, 23, 122, 156, 180, 16, 255, 97, 242, 0, 21, 173]⟩ : ByteArray) := by kernel_rfl
set_option maxRecDepth 100000 in
theorem dsn7 : clearwaylaw02_hex.f (⟨#[227, 176, 196, 66, 152, 252, 28, 20, 154, 251, 244, 200, 153, 111, 185, 36, 39, 174, 65, 228, 100, 155, 147, 76, 164, 149, 153, 27, 120, 82, 184, 85]⟩ : ByteArray) = some (⟨#[101, 51, 98, 48, 99, 52, 52, 50, 57, 56, 102, 99, 49, 99, 49, 52, 57, 97, 102, 98, 102, 52, 99, 56, 57, 57, 54, 102, 98, 57, 50, 52, 50, 55, 97, 101, 52, 49, 101, 52, 54, 52, 57, 98, 57, 51, 52, 99, 97, 52, 57, 53, 57, 57, 49, 98, 55, 56, 53, 50, 98, 56, 53, 53]⟩ : ByteArray) := by kernel_rfl
set_option maxRecDepth 100000 in
theorem dsn8 : clearwaylaw02_hex.f (⟨#[186, 120, 22, 191, 143, 1, 207, 234, 65, 65, 64, 222, 93, 174, 34, 35, 176, 3, 97, 163, 150, 23, 122, 156, 180, 16, 255, 97, 242, 0, 21, 173]⟩ : ByteArray) = some (⟨#[98, 97, 55, 56, 49, 54, 98, 102, 56, 102, 48, 49, 99, 102, 101, 97, 52, 49, 52, 49, 52, 48, 100, 101, 53, 100, 97, 101, 50, 50, 50, 51, 98, 48, 48, 51, 54, 49, 97, 51, 57, 54, 49, 55, 55, 97, 57, 99, 98, 52, 49, 48, 102, 102, 54, 49, 102, 50, 48, 48, 49, 53, 97, 100]⟩ : ByteArray) := by kernel_rfl
set_option maxRecDepth 100000 in
theorem dsn9 : digest_Verify.f (⟨#[54, 100, 46, 115, 194, 84, 10, 177, 33, 227, 166, 191, 149, 69, 176, 162, 73, 130, 205, 131, 14, 177, 61, 60, 209, 157, 227, 206, 108, 2, 30, 193]⟩ : ByteArray) 3 2 (⟨#[99]⟩ : ByteArray) [(⟨#[177, 55, 152, 95, 244, 132, 251, 96, 13, 185, 49, 7, 199, 123, 3, 101, 200, 13, 120, 245, 180, 41, 222, 208, 253, 151, 54, 29, 7, 121, 153, 235]⟩ : ByteArray)] = some true := by kernel_rfl
set_option maxRecDepth 100000 in
theorem dsn10 : digest_Verify.f (⟨#[54, 100, 46, 115, 194, 84, 10, 177, 33, 227, 166, 191, 149, 69, 176, 162, 73, 130, 205, 131, 14, 177, 61, 60, 209, 157, 227, 206, 108, 2, 30, 193]⟩ : ByteArray) 3 2 (⟨#[100]⟩ : ByteArray) [(⟨#[177, 55, 152, 95, 244, 132, 251, 96, 13, 185, 49, 7, 199, 123, 3, 101, 200, 13, 120, 245, 180, 41, 222, 208, 253, 151, 54, 29, 7, 121, 153, 235]⟩ : ByteArray)] = some false := by kernel_rfl
set_option maxRecDepth 100000 in
theorem dsn11 : digest_Root.f [(⟨#[97]⟩ : ByteArray)] = some (⟨#[2, 42, 105, 121, 230, 218, 183, 170, 90, 228, 195, 229, 228, 95, 126, 151, 113, 18, 167, 230, 53, 147, 130, 13, 190, 193, 236, 115, 138, 36, 249, 60]⟩ : ByteArray) := by kernel_rfl
set_option maxRecDepth 100000 in
theorem dsn12 : digest_Root.f [(⟨#[97]⟩ : ByteArray), (⟨#[98]⟩ : ByteArray)] = some (⟨#[177, 55, 152, 95, 244, 132, 251, 96, 13, 185, 49, 7, 199, 123, 3, 101, 200, 13, 120, 245, 180, 41, 222, 208, 253, 151, 54, 29, 7, 121, 153, 235]⟩ : ByteArray) := by kernel_rfl
set_option maxRecDepth 100000 in
theorem dsn13 : digest_VerifyExtension.f (⟨#[2, 42, 105, 121, 230, 218, 183, 170, 90, 228, 195, 229, 228, 95, 126, 151, 113, 18, 167, 230, 53, 147, 130, 13, 190, 193, 236, 115, 138, 36, 249, 60]⟩ : ByteArray) 1 (⟨#[54, 100, 46, 115, 194, 84, 10, 177, 33, 227, 166, 191, 149, 69, 176, 162, 73, 130, 205, 131, 14, 177, 61, 60, 209, 157, 227, 206, 108, 2, 30, 193]⟩ : ByteArray) 3 [(⟨#[87, 235, 53, 97, 93, 71, 243, 78, 199, 20, 202, 205, 245, 253, 116, 96, 138, 94, 142, 16, 39, 36, 232, 11, 36, 178, 135, 192, 194, 123, 106, 49]⟩ : ByteArray), (⟨#[89, 127, 203, 49, 40, 45, 52, 101, 76, 32, 13, 52, 24, 252, 165, 112, 92, 100, 142, 191, 50, 110, 199, 61, 141, 222, 241, 24, 65, 248, 118, 216]⟩ : ByteArray)] = some true := by kernel_rfl
set_option maxRecDepth 100000 in
theorem dsn14 : digest_VerifyExtension.f (⟨#[177, 55, 152, 95, 244, 132, 251, 96, 13, 185, 49, 7, 199, 123, 3, 101, 200, 13, 120, 245, 180, 41, 222, 208, 253, 151, 54, 29, 7, 121, 153, 235]⟩ : ByteArray) 1 (⟨#[54, 100, 46, 115, 194, 84, 10, 177, 33, 227, 166, 191, 149, 69, 176, 162, 73, 130, 205, 131, 14, 177, 61, 60, 209, 157, 227, 206, 108, 2, 30, 193]⟩ : ByteArray) 3 [(⟨#[87, 235, 53, 97, 93, 71, 243, 78, 199, 20, 202, 205, 245, 253, 116, 96, 138, 94, 142, 16, 39, 36, 232, 11, 36, 178, 135, 192, 194, 123, 106, 49]⟩ : ByteArray), (⟨#[89, 127, 203, 49, 40, 45, 52, 101, 76, 32, 13, 52, 24, 252, 165, 112, 92, 100, 142, 191, 50, 110, 199, 61, 141, 222, 241, 24, 65, 248, 118, 216]⟩ : ByteArray)] = some false := by kernel_rfl
theorem sane_f : clearwaylaw02_sane.f 200 = some true := by
  unfold clearwaylaw02_sane.f
  rw [Option.bind_some, dsn1, Option.bind_some, dsn2, Option.bind_some, dsn3, Option.bind_some, dsn4, Option.bind_some, dsn5, Option.bind_some, dsn7, Option.bind_some, if_pos (by rw [toList_data]), dsn6, Option.bind_some, dsn8, Option.bind_some]
  rw [show (ByteArray.toList (⟨#[98, 97, 55, 56, 49, 54, 98, 102, 56, 102, 48, 49, 99, 102, 101, 97, 52, 49, 52, 49, 52, 48, 100, 101, 53, 100, 97, 101, 50, 50, 50, 51, 98, 48, 48, 51, 54, 49, 97, 51, 57, 54, 49, 55, 55, 97, 57, 99, 98, 52, 49, 48, 102, 102, 54, 49, 102, 50, 48, 48, 49, 53, 97, 100]⟩ : ByteArray) == [98, 97, 55, 56, 49, 54, 98, 102, 56, 102, 48, 49, 99, 102, 101, 97, 52, 49, 52, 49, 52, 48, 100, 101, 53, 100, 97, 101, 50, 50, 50, 51, 98, 48, 48, 51, 54, 49, 97, 51, 57, 54, 49, 55, 55, 97, 57, 99, 98, 52, 49, 48, 102, 102, 54, 49, 102, 50, 48, 48, 49, 53, 97, 100]) = true by rw [toList_data]; decide]
  rw [clearwaylaw02_sane.j0, if_pos (by decide), if_pos (by decide), if_pos (by decide), if_pos (by decide), clearwaylaw02_sane.j1, if_pos rfl, if_pos (by decide), dsn9, Option.bind_some, if_pos rfl, dsn10, Option.bind_some, if_neg (by decide), if_pos (by decide)]
  rw [show List.take 1 [(⟨#[97]⟩ : ByteArray), (⟨#[98]⟩ : ByteArray), (⟨#[99]⟩ : ByteArray)] = [(⟨#[97]⟩ : ByteArray)] from rfl, dsn11, Option.bind_some, dsn13, Option.bind_some, if_pos rfl, if_pos (by decide), show List.take 2 [(⟨#[97]⟩ : ByteArray), (⟨#[98]⟩ : ByteArray), (⟨#[99]⟩ : ByteArray)] = [(⟨#[97]⟩ : ByteArray), (⟨#[98]⟩ : ByteArray)] from rfl, dsn12, Option.bind_some, dsn14, Option.bind_some]
  rfl
end Go.Proofs.YtjkdenldddjcnaaDoor.Sha
namespace Go.Proofs.YtjkdenldddjcnaaDoor.Dg
open Go.RowKit Go.Proofs.YtjkdenldddjcnaaDoor.Sha Go.Proofs.YtjkdenldddjcnaaDoor.Df Go.Proofs.YtjkdenldddjcnaaDoorW.PrintWords Go.Proofs.YtjkdenldddjcnaaDoorW.PrintLast Go.Proofs.YtjkdenldddjcnaaDoorW.PrintMore
attribute [local go_sem] max2_int min2_int max_two min_two max_three min_three max_four min_four   -- for this text's walks alone
set_option linter.unusedVariables false
set_option linter.unusedSimpArgs false



def errW : Option Int → Value
  | none => .nilIface
  | some c => .iface 0 (.int .i64 c)
theorem errW_none : errW none = .nilIface := rfl
theorem errW_some (c : Int) : errW (some c) = .iface 0 (.int .i64 c) := rfl

-- the values' own types

end Go.Proofs.YtjkdenldddjcnaaDoor.Dg
namespace Go.Proofs.YtjkdenldddjcnaaDoor.Dg
open Go.RowKit Go.Proofs.YtjkdenldddjcnaaDoor.Sha Go.Proofs.YtjkdenldddjcnaaDoor.Df Go.Proofs.YtjkdenldddjcnaaDoorW.PrintWords Go.Proofs.YtjkdenldddjcnaaDoorW.PrintLast Go.Proofs.YtjkdenldddjcnaaDoorW.PrintMore
attribute [local go_sem] max2_int min2_int max_two min_two max_three min_three max_four min_four   -- for this text's walks alone
set_option linter.unusedVariables false
set_option linter.unusedSimpArgs false

/-! ### clearwaylaw02_DigestBinding: function 7 -/
def clearwaylaw02_DigestBinding.j0 : Nat → Int → Int → ByteArray → List ByteArray → ByteArray → List ByteArray → Bool → Bool → Option (Bool)
 | 0, _, _, _, _, _, _, _, _ => none
 | k + 1, x1, x2, x3, x4, x5, x6, x15, x59 => if x59 = true then (some x15) else ((clearwaylaw02_way.f k x1 x2 x3 x4).bind fun bt117 => ((clearwaylaw02_way.f k x1 x2 x5 x6).bind fun bt121 => (if x15 = true then ((clearwaylaw02_collide.f k bt117.1 bt121.1).bind fun t125 => (some t125)) else (some false))))
def clearwaylaw02_DigestBinding.f (k : Nat) (a0 : ByteArray) (a1 : Int) (a2 : Int) (a3 : ByteArray) (l4 : List ByteArray) (a5 : ByteArray) (l6 : List ByteArray) : Option (Bool) := (clearwaylaw02_sane.f k).bind fun t108 => ((clearwaylaw02_few.f k l4 70).bind fun t109 => ((clearwaylaw02_few.f k l6 70).bind fun t112 => (if 0 ≤ (mn (a3.size : Int) 60) then (if (mn (a3.size : Int) 60) ≤ (a3.size : Int) then (if 0 ≤ (mn (a5.size : Int) 60) then (if (mn (a5.size : Int) 60) ≤ (a5.size : Int) then ((digest_Verify.f a0 a1 a2 (a3.extract 0 ((mn (a3.size : Int) 60) : Int).toNat) t109).bind fun t115 => ((digest_Verify.f a0 a1 a2 (a5.extract 0 ((mn (a5.size : Int) 60) : Int).toNat) t112).bind fun t116 => (if t115 = true then (if t116 = true then (clearwaylaw02_DigestBinding.j0 k a1 a2 (a3.extract 0 ((mn (a3.size : Int) 60) : Int).toNat) t109 (a5.extract 0 ((mn (a5.size : Int) 60) : Int).toNat) t112 t108 ((a3.extract 0 ((mn (a3.size : Int) 60) : Int).toNat).toList == (a5.extract 0 ((mn (a5.size : Int) 60) : Int).toNat).toList)) else (clearwaylaw02_DigestBinding.j0 k a1 a2 (a3.extract 0 ((mn (a3.size : Int) 60) : Int).toNat) t109 (a5.extract 0 ((mn (a5.size : Int) 60) : Int).toNat) t112 t108 true)) else (clearwaylaw02_DigestBinding.j0 k a1 a2 (a3.extract 0 ((mn (a3.size : Int) 60) : Int).toNat) t109 (a5.extract 0 ((mn (a5.size : Int) 60) : Int).toNat) t112 t108 true)))) else (none)) else (none)) else (none)) else (none))))
theorem clearwaylaw02_DigestBinding.mono_l : ∀ k, (∀ y0 y1 y2 y3 y4 y5 y6 y7, LeO (clearwaylaw02_DigestBinding.j0 k y0 y1 y2 y3 y4 y5 y6 y7) (clearwaylaw02_DigestBinding.j0 (k + 1) y0 y1 y2 y3 y4 y5 y6 y7))
 | 0 => fun _ _ _ _ _ _ _ _ r h => by simp [clearwaylaw02_DigestBinding.j0] at h
 | k + 1 => by
  have ih0 := clearwaylaw02_DigestBinding.mono_l k
  ·intro y0 y1 y2 y3 y4 y5 y6 y7
   unfold clearwaylaw02_DigestBinding.j0
   repeat' first
   | (with_reducible exact ih0 _ _ _ _ _ _ _ _)
   | (with_reducible exact clearwaylaw02_collide.mono _ _ _)
   | (with_reducible exact clearwaylaw02_few.mono _ _ _)
   | (with_reducible exact clearwaylaw02_sane.mono _)
   | (with_reducible exact clearwaylaw02_way.mono _ _ _ _ _)
   | (with_reducible exact LeO.refl _)
   | (with_reducible exact LeO.none _)
   | (with_reducible refine LeO.ite ?_ ?_)
   | (with_reducible refine LeO.bind ?_ (fun _ => ?_))
   | exact ih0 _ _ _ _ _ _ _ _
   | exact clearwaylaw02_collide.mono _ _ _
   | exact clearwaylaw02_few.mono _ _ _
   | exact clearwaylaw02_sane.mono _
   | exact clearwaylaw02_way.mono _ _ _ _ _
   | exact LeO.none _
   | refine LeO.ite ?_ ?_
   | refine LeO.bind ?_ (fun _ => ?_)
theorem clearwaylaw02_DigestBinding.mono : ∀ a0 a1 a2 a3 a4 a5 a6 k, LeO (clearwaylaw02_DigestBinding.f k a0 a1 a2 a3 a4 a5 a6) (clearwaylaw02_DigestBinding.f (k + 1) a0 a1 a2 a3 a4 a5 a6) := by
 intro a0 a1 a2 a3 a4 a5 a6 k
 have ih0 := clearwaylaw02_DigestBinding.mono_l k
 unfold clearwaylaw02_DigestBinding.f
 repeat' first
   | (with_reducible exact ih0 _ _ _ _ _ _ _ _)
   | (with_reducible exact clearwaylaw02_collide.mono _ _ _)
   | (with_reducible exact clearwaylaw02_few.mono _ _ _)
   | (with_reducible exact clearwaylaw02_sane.mono _)
   | (with_reducible exact clearwaylaw02_way.mono _ _ _ _ _)
   | (with_reducible exact LeO.refl _)
   | (with_reducible exact LeO.none _)
   | (with_reducible refine LeO.ite ?_ ?_)
   | (with_reducible refine LeO.bind ?_ (fun _ => ?_))
   | exact ih0 _ _ _ _ _ _ _ _
   | exact clearwaylaw02_collide.mono _ _ _
   | exact clearwaylaw02_few.mono _ _ _
   | exact clearwaylaw02_sane.mono _
   | exact clearwaylaw02_way.mono _ _ _ _ _
   | exact LeO.none _
   | refine LeO.ite ?_ ?_
   | refine LeO.bind ?_ (fun _ => ?_)
set_option maxHeartbeats 8000000 in
set_option maxRecDepth 100000 in
theorem clearwaylaw02_DigestBinding.calls (k : Nat) (a0 : ByteArray) (a1 : Int) (a2 : Int) (a3 : ByteArray) (A4 : Option Addr) (c4 : Nat) (l4 : List ByteArray) (a5 : ByteArray) (A6 : Option Addr) (c6 : Nat) (l6 : List ByteArray) (r : Bool) (w : World) (hr4 : Kd.C Kd.string w A4 l4.length l4) (hc4 : l4.length ≤ c4) (hr6 : Kd.C Kd.string w A6 l6.length l6) (hc6 : l6.length ≤ c6) (hG_ : Amb w) (h : clearwaylaw02_DigestBinding.f k a0 a1 a2 a3 l4 a5 l6 = some r) :
  Calls Tryd.prog 7 #[.string a0, .int .i64 a1, .int .i64 a2, .string a3, .slice A4 l4.length c4, .string a5, .slice A6 l6.length c6] w fun e w' => e = .returned (.bool r) ∧ Below w.heap.size w w' := by
 have HR4 := Aside0.mk hr4
 have HC4 := Aside0.mk hc4
 clear hr4 hc4
 have HR6 := Aside0.mk hr6
 have HC6 := Aside0.mk hc6
 clear hr6 hc6
 have HB := Aside0.mk (Below.refl w.heap.size w)
 have H : ((clearwaylaw02_sane.f k).bind fun t108 => ((clearwaylaw02_few.f k l4 70).bind fun t109 => ((clearwaylaw02_few.f k l6 70).bind fun t112 => (if 0 ≤ (mn (a3.size : Int) 60) then (if (mn (a3.size : Int) 60) ≤ (a3.size : Int) then (if 0 ≤ (mn (a5.size : Int) 60) then (if (mn (a5.size : Int) 60) ≤ (a5.size : Int) then ((digest_Verify.f a0 a1 a2 (a3.extract 0 ((mn (a3.size : Int) 60) : Int).toNat) t109).bind fun t115 => ((digest_Verify.f a0 a1 a2 (a5.extract 0 ((mn (a5.size : Int) 60) : Int).toNat) t112).bind fun t116 => (if t115 = true then (if t116 = true then (clearwaylaw02_DigestBinding.j0 k a1 a2 (a3.extract 0 ((mn (a3.size : Int) 60) : Int).toNat) t109 (a5.extract 0 ((mn (a5.size : Int) 60) : Int).toNat) t112 t108 ((a3.extract 0 ((mn (a3.size : Int) 60) : Int).toNat).toList == (a5.extract 0 ((mn (a5.size : Int) 60) : Int).toNat).toList)) else (clearwaylaw02_DigestBinding.j0 k a1 a2 (a3.extract 0 ((mn (a3.size : Int) 60) : Int).toNat) t109 (a5.extract 0 ((mn (a5.size : Int) 60) : Int).toNat) t112 t108 true)) else (clearwaylaw02_DigestBinding.j0 k a1 a2 (a3.extract 0 ((mn (a3.size : Int) 60) : Int).toNat) t109 (a5.extract 0 ((mn (a5.size : Int) 60) : Int).toNat) t112 t108 true)))) else (none)) else (none)) else (none)) else (none))))) = some r := h
 clear h
 replace H := Option.bind_eq_some_iff.mp H
 obtain ⟨t108, A80, H⟩ := H
 replace H : ((clearwaylaw02_few.f k l4 70).bind fun t109 => ((clearwaylaw02_few.f k l6 70).bind fun t112 => (if 0 ≤ (mn (a3.size : Int) 60) then (if (mn (a3.size : Int) 60) ≤ (a3.size : Int) then (if 0 ≤ (mn (a5.size : Int) 60) then (if (mn (a5.size : Int) 60) ≤ (a5.size : Int) then ((digest_Verify.f a0 a1 a2 (a3.extract 0 ((mn (a3.size : Int) 60) : Int).toNat) t109).bind fun t115 => ((digest_Verify.f a0 a1 a2 (a5.extract 0 ((mn (a5.size : Int) 60) : Int).toNat) t112).bind fun t116 => (if t115 = true then (if t116 = true then (clearwaylaw02_DigestBinding.j0 k a1 a2 (a3.extract 0 ((mn (a3.size : Int) 60) : Int).toNat) t109 (a5.extract 0 ((mn (a5.size : Int) 60) : Int).toNat) t112 t108 ((a3.extract 0 ((mn (a3.size : Int) 60) : Int).toNat).toList == (a5.extract 0 ((mn (a5.size : Int) 60) : Int).toNat).toList)) else (clearwaylaw02_DigestBinding.j0 k a1 a2 (a3.extract 0 ((mn (a3.size : Int) 60) : Int).toNat) t109 (a5.extract 0 ((mn (a5.size : Int) 60) : Int).toNat) t112 t108 true)) else (clearwaylaw02_DigestBinding.j0 k a1 a2 (a3.extract 0 ((mn (a3.size : Int) 60) : Int).toNat) t109 (a5.extract 0 ((mn (a5.size : Int) 60) : Int).toNat) t112 t108 true)))) else (none)) else (none)) else (none)) else (none)))) = some r := H
 have A8 := Aside0.mk A80
 clear A80
 replace H := Option.bind_eq_some_iff.mp H
 obtain ⟨t109, A90, H⟩ := H
 replace H : ((clearwaylaw02_few.f k l6 70).bind fun t112 => (if 0 ≤ (mn (a3.size : Int) 60) then (if (mn (a3.size : Int) 60) ≤ (a3.size : Int) then (if 0 ≤ (mn (a5.size : Int) 60) then (if (mn (a5.size : Int) 60) ≤ (a5.size : Int) then ((digest_Verify.f a0 a1 a2 (a3.extract 0 ((mn (a3.size : Int) 60) : Int).toNat) t109).bind fun t115 => ((digest_Verify.f a0 a1 a2 (a5.extract 0 ((mn (a5.size : Int) 60) : Int).toNat) t112).bind fun t116 => (if t115 = true then (if t116 = true then (clearwaylaw02_DigestBinding.j0 k a1 a2 (a3.extract 0 ((mn (a3.size : Int) 60) : Int).toNat) t109 (a5.extract 0 ((mn (a5.size : Int) 60) : Int).toNat) t112 t108 ((a3.extract 0 ((mn (a3.size : Int) 60) : Int).toNat).toList == (a5.extract 0 ((mn (a5.size : Int) 60) : Int).toNat).toList)) else (clearwaylaw02_DigestBinding.j0 k a1 a2 (a3.extract 0 ((mn (a3.size : Int) 60) : Int).toNat) t109 (a5.extract 0 ((mn (a5.size : Int) 60) : Int).toNat) t112 t108 true)) else (clearwaylaw02_DigestBinding.j0 k a1 a2 (a3.extract 0 ((mn (a3.size : Int) 60) : Int).toNat) t109 (a5.extract 0 ((mn (a5.size : Int) 60) : Int).toNat) t112 t108 true)))) else (none)) else (none)) else (none)) else (none))) = some r := H
 have A9 := Aside0.mk A90
 clear A90
 replace H := Option.bind_eq_some_iff.mp H
 obtain ⟨t112, A100, H⟩ := H
 replace H : (if 0 ≤ (mn (a3.size : Int) 60) then (if (mn (a3.size : Int) 60) ≤ (a3.size : Int) then (if 0 ≤ (mn (a5.size : Int) 60) then (if (mn (a5.size : Int) 60) ≤ (a5.size : Int) then ((digest_Verify.f a0 a1 a2 (a3.extract 0 ((mn (a3.size : Int) 60) : Int).toNat) t109).bind fun t115 => ((digest_Verify.f a0 a1 a2 (a5.extract 0 ((mn (a5.size : Int) 60) : Int).toNat) t112).bind fun t116 => (if t115 = true then (if t116 = true then (clearwaylaw02_DigestBinding.j0 k a1 a2 (a3.extract 0 ((mn (a3.size : Int) 60) : Int).toNat) t109 (a5.extract 0 ((mn (a5.size : Int) 60) : Int).toNat) t112 t108 ((a3.extract 0 ((mn (a3.size : Int) 60) : Int).toNat).toList == (a5.extract 0 ((mn (a5.size : Int) 60) : Int).toNat).toList)) else (clearwaylaw02_DigestBinding.j0 k a1 a2 (a3.extract 0 ((mn (a3.size : Int) 60) : Int).toNat) t109 (a5.extract 0 ((mn (a5.size : Int) 60) : Int).toNat) t112 t108 true)) else (clearwaylaw02_DigestBinding.j0 k a1 a2 (a3.extract 0 ((mn (a3.size : Int) 60) : Int).toNat) t109 (a5.extract 0 ((mn (a5.size : Int) 60) : Int).toNat) t112 t108 true)))) else (none)) else (none)) else (none)) else (none)) = some r := H
 have A10 := Aside0.mk A100
 clear A100
 obtain ⟨ji11, hji11⟩ : ∃ j_ : Int, (mn (a3.size : Int) 60) = j_ := ⟨_, rfl⟩
 replace H : (if 0 ≤ (ji11) then (if (ji11) ≤ (a3.size : Int) then (if 0 ≤ (mn (a5.size : Int) 60) then (if (mn (a5.size : Int) 60) ≤ (a5.size : Int) then ((digest_Verify.f a0 a1 a2 (a3.extract 0 ((ji11) : Int).toNat) t109).bind fun t115 => ((digest_Verify.f a0 a1 a2 (a5.extract 0 ((mn (a5.size : Int) 60) : Int).toNat) t112).bind fun t116 => (if t115 = true then (if t116 = true then (clearwaylaw02_DigestBinding.j0 k a1 a2 (a3.extract 0 ((ji11) : Int).toNat) t109 (a5.extract 0 ((mn (a5.size : Int) 60) : Int).toNat) t112 t108 ((a3.extract 0 ((ji11) : Int).toNat).toList == (a5.extract 0 ((mn (a5.size : Int) 60) : Int).toNat).toList)) else (clearwaylaw02_DigestBinding.j0 k a1 a2 (a3.extract 0 ((ji11) : Int).toNat) t109 (a5.extract 0 ((mn (a5.size : Int) 60) : Int).toNat) t112 t108 true)) else (clearwaylaw02_DigestBinding.j0 k a1 a2 (a3.extract 0 ((ji11) : Int).toNat) t109 (a5.extract 0 ((mn (a5.size : Int) 60) : Int).toNat) t112 t108 true)))) else (none)) else (none)) else (none)) else (none)) = some r := by first | (rw [hji11] at H; exact H) | (simp only [hji11] at H ⊢; exact H)
 (try rw [hji11] at A8)
 (try rw [hji11] at A9)
 (try rw [hji11] at A10)
 (try (have hji11h : ji11 ≤ 60 := by (rw [← hji11]; unfold mn; (repeat' split) <;> omega)))
 (try (have hji11g : ji11 ≤ 64 := by omega))
 (try (have hji11l : 0 ≤ ji11 := by (rw [← hji11]; unfold mn; (repeat' split) <;> omega)))
 (try (have hji11m : 0 ≤ ji11 := by omega))
 have hji11_ : (if 60 < (a3.size : Int) then 60 else (a3.size : Int)) = ji11 := hji11
 by_cases c12 : 0 ≤ (ji11)
 ·rw [if_pos c12] at H
  have c12b0 := eq_true c12
  have c12b1 : decide (0 ≤ (ji11)) = true := decide_eq_true c12
  clear c12
  by_cases c13 : (ji11) ≤ (a3.size : Int)
  ·rw [if_pos c13] at H
   have c13b0 := eq_true c13
   have c13b1 : decide ((ji11) ≤ (a3.size : Int)) = true := decide_eq_true c13
   clear c13
   obtain ⟨ua3_ji11, hua3_ji11⟩ : ∃ u_ : ByteArray, a3.extract 0 ((ji11) : Int).toNat = u_ := ⟨_, rfl⟩
   rw [hua3_ji11] at H
   obtain ⟨ji14, hji14⟩ : ∃ j_ : Int, (mn (a5.size : Int) 60) = j_ := ⟨_, rfl⟩
   replace H : (if 0 ≤ (ji14) then (if (ji14) ≤ (a5.size : Int) then ((digest_Verify.f a0 a1 a2 ua3_ji11 t109).bind fun t115 => ((digest_Verify.f a0 a1 a2 (a5.extract 0 ((ji14) : Int).toNat) t112).bind fun t116 => (if t115 = true then (if t116 = true then (clearwaylaw02_DigestBinding.j0 k a1 a2 ua3_ji11 t109 (a5.extract 0 ((ji14) : Int).toNat) t112 t108 (ua3_ji11.toList == (a5.extract 0 ((ji14) : Int).toNat).toList)) else (clearwaylaw02_DigestBinding.j0 k a1 a2 ua3_ji11 t109 (a5.extract 0 ((ji14) : Int).toNat) t112 t108 true)) else (clearwaylaw02_DigestBinding.j0 k a1 a2 ua3_ji11 t109 (a5.extract 0 ((ji14) : Int).toNat) t112 t108 true)))) else (none)) else (none)) = some r := by first | (rw [hji14] at H; exact H) | (simp only [hji14] at H ⊢; exact H)
   (try rw [hji14] at A8)
   (try rw [hji14] at A9)
   (try rw [hji14] at A10)
   (try (have hji14h : ji14 ≤ 60 := by (rw [← hji14]; unfold mn; (repeat' split) <;> omega)))
   (try (have hji14g : ji14 ≤ 64 := by omega))
   (try (have hji14l : 0 ≤ ji14 := by (rw [← hji14]; unfold mn; (repeat' split) <;> omega)))
   (try (have hji14m : 0 ≤ ji14 := by omega))
   have hji14_ : (if 60 < (a5.size : Int) then 60 else (a5.size : Int)) = ji14 := hji14
   by_cases c15 : 0 ≤ (ji14)
   ·rw [if_pos c15] at H
    have c15b0 := eq_true c15
    have c15b1 : decide (0 ≤ (ji14)) = true := decide_eq_true c15
    clear c15
    by_cases c16 : (ji14) ≤ (a5.size : Int)
    ·rw [if_pos c16] at H
     have c16b0 := eq_true c16
     have c16b1 : decide ((ji14) ≤ (a5.size : Int)) = true := decide_eq_true c16
     clear c16
     obtain ⟨ua5_ji14, hua5_ji14⟩ : ∃ u_ : ByteArray, a5.extract 0 ((ji14) : Int).toNat = u_ := ⟨_, rfl⟩
     rw [hua5_ji14] at H
     replace H := Option.bind_eq_some_iff.mp H
     obtain ⟨t115, A170, H⟩ := H
     replace H : ((digest_Verify.f a0 a1 a2 ua5_ji14 t112).bind fun t116 => (if t115 = true then (if t116 = true then (clearwaylaw02_DigestBinding.j0 k a1 a2 ua3_ji11 t109 ua5_ji14 t112 t108 (ua3_ji11.toList == ua5_ji14.toList)) else (clearwaylaw02_DigestBinding.j0 k a1 a2 ua3_ji11 t109 ua5_ji14 t112 t108 true)) else (clearwaylaw02_DigestBinding.j0 k a1 a2 ua3_ji11 t109 ua5_ji14 t112 t108 true))) = some r := H
     have A17 := Aside0.mk A170
     clear A170
     replace H := Option.bind_eq_some_iff.mp H
     obtain ⟨t116, A180, H⟩ := H
     replace H : (if t115 = true then (if t116 = true then (clearwaylaw02_DigestBinding.j0 k a1 a2 ua3_ji11 t109 ua5_ji14 t112 t108 (ua3_ji11.toList == ua5_ji14.toList)) else (clearwaylaw02_DigestBinding.j0 k a1 a2 ua3_ji11 t109 ua5_ji14 t112 t108 true)) else (clearwaylaw02_DigestBinding.j0 k a1 a2 ua3_ji11 t109 ua5_ji14 t112 t108 true)) = some r := H
     have A18 := Aside0.mk A180
     clear A180
     have HC19 := Aside0.mk H
     clear H
     go_enter Tryd.func7, Tryd.ntmps7
     go_upto_region 8 with (first | ((with_reducible refine gate_callee (f := 12) rfl ?_); refine goesL_ (some 22) rfl rfl Tryd.func12 (by kernel_rfl) rfl #[] rfl (by (try simp only [List.map_toArray, List.map_cons, List.map_nil]); first | done | rfl | (simp only [List.length_drop, List.length_take]; rfl)) ?_; (with_reducible refine (clearwaylaw02_sane.calls k  t108 _ ?side1 A8.out).mono ?_); (case side1 => exact Amb.below hG_ (by repeat (first | (with_reducible first | exact HB.out | apply below_alloc | apply pw_below_drewN | apply below_drew1) | exact HB.out))); rintro e w20 ⟨rfl, hb⟩; refine ⟨_, rfl, ?_⟩; have n0_ := Aside0.mk (below_step (by repeat (first | (with_reducible first | exact HB.out | apply below_alloc | apply pw_below_drewN | apply below_drew1) | exact HB.out)) hb); clear HB; have HB := n0_; clear n0_; (try clear hb); (try clear hb2); (try clear hk); (try clear hi)) | ((with_reducible refine gate_callee (f := 13) rfl ?_); refine goesL_ (some 24) rfl rfl Tryd.func13 (by kernel_rfl) rfl #[.slice A4 l4.length c4, .int .i64 70] rfl (by (try simp only [List.map_toArray, List.map_cons, List.map_nil]); first | done | rfl | (simp only [List.length_drop, List.length_take]; rfl)) ?_; (with_reducible refine (clearwaylaw02_few.calls k _ _ l4 70 t109 _ ?side1 ?side2 A9.out).mono ?_); (case side1 => repeat (first | exact (Kd.C_below HR4.out HB.out) | (with_reducible refine Kd.C_alloc ?_ _) | (with_reducible refine Kd.C_drewN ?_ _) | (with_reducible refine Kd.C_drew ?_))); (case side2 => exact HC4.out); rintro e w21 ⟨v110, rfl, ho0, hb⟩; refine ⟨_, rfl, ?_⟩; have n0_ := Aside0.mk (Kd.R_lower ho0 (below_size (by repeat (first | (with_reducible first | exact HB.out | apply below_alloc | apply pw_below_drewN | apply below_drew1) | exact HB.out)))); have n1_ := Aside0.mk (below_step (by repeat (first | (with_reducible first | exact HB.out | apply below_alloc | apply pw_below_drewN | apply below_drew1) | exact HB.out)) hb); clear HB; have HO111 := n0_; have HB := n1_; clear n0_ n1_; (try clear hb); (try clear hb2); (try clear hk); (try clear hi); (try clear ho0)) | ((with_reducible refine gate_callee (f := 13) rfl ?_); refine goesL_ (some 26) rfl rfl Tryd.func13 (by kernel_rfl) rfl #[.slice A6 l6.length c6, .int .i64 70] rfl (by (try simp only [List.map_toArray, List.map_cons, List.map_nil]); first | done | rfl | (simp only [List.length_drop, List.length_take]; rfl)) ?_; (with_reducible refine (clearwaylaw02_few.calls k _ _ l6 70 t112 _ ?side1 ?side2 A10.out).mono ?_); (case side1 => repeat (first | exact (Kd.C_below HR6.out HB.out) | (with_reducible refine Kd.C_alloc ?_ _) | (with_reducible refine Kd.C_drewN ?_ _) | (with_reducible refine Kd.C_drew ?_))); (case side2 => exact HC6.out); rintro e w22 ⟨v113, rfl, ho0, hb⟩; refine ⟨_, rfl, ?_⟩; have n0_ := Aside0.mk (Kd.R_elder' (by (with_reducible repeat (first | apply Kd.R_alloc | apply Kd.R_drewN | apply Kd.R_drew)); exact HO111.out) (Kd.R_base ho0) hb); have n1_ := Aside0.mk (Kd.R_lower (Kd.R_new' ho0 (Kd.R_lt (by (with_reducible repeat (first | apply Kd.R_alloc | apply Kd.R_drewN | apply Kd.R_drew)); exact HO111.out))) (below_size (by repeat (first | (with_reducible first | exact HB.out | apply below_alloc | apply pw_below_drewN | apply below_drew1) | exact HB.out)))); have n2_ := Aside0.mk (below_step (by repeat (first | (with_reducible first | exact HB.out | apply below_alloc | apply pw_below_drewN | apply below_drew1) | exact HB.out)) hb); clear HO111; clear HB; have HO111 := n0_; have HO114 := n1_; have HB := n2_; clear n0_ n1_ n2_; (try clear hb); (try clear hb2); (try clear hk); (try clear hi); (try clear ho0); obtain ⟨Ao23, co23, eo23⟩ := Kd.R_slice HO111.out; subst eo23) | ((with_reducible refine gate_callee (f := 21) rfl ?_); refine goesL_ (some 42) rfl rfl Tryd.func21 (by kernel_rfl) rfl #[.string a0, .int .i64 a1, .int .i64 a2, .string ua3_ji11, .slice Ao23 t109.length co23] rfl (by (try simp only [List.map_toArray, List.map_cons, List.map_nil]); first | done | (simp only [hji11]; rfl) | rfl | (simp only [List.length_drop, List.length_take]; rfl)) ?_; (with_reducible refine (digest_Verify.calls a0 a1 a2 ua3_ji11 _ _ t109 t115 _ ?side1 ?side2 ?side3 A17.out).mono ?_); (case side1 => repeat (first | exact (Kd.R_reads' HO111.out).2.2 | (with_reducible refine Kd.C_alloc ?_ _) | (with_reducible refine Kd.C_drewN ?_ _) | (with_reducible refine Kd.C_drew ?_))); (case side2 => exact (Kd.R_reads' HO111.out).2.1); (case side3 => exact Amb.below hG_ (by repeat (first | (with_reducible first | exact HB.out | apply below_alloc | apply pw_below_drewN | apply below_drew1) | exact HB.out))); rintro e w24 ⟨rfl, hb⟩; refine ⟨_, rfl, ?_⟩; have n0_ := Aside0.mk (Kd.R_below (by (with_reducible repeat (first | apply Kd.R_alloc | apply Kd.R_drewN | apply Kd.R_drew)); exact HO111.out) hb); have n1_ := Aside0.mk (Kd.R_below (by (with_reducible repeat (first | apply Kd.R_alloc | apply Kd.R_drewN | apply Kd.R_drew)); exact HO114.out) hb); have n2_ := Aside0.mk (below_step (by repeat (first | (with_reducible first | exact HB.out | apply below_alloc | apply pw_below_drewN | apply below_drew1) | exact HB.out)) hb); clear HO111; clear HO114; clear HB; have HO111 := n0_; have HO114 := n1_; have HB := n2_; clear n0_ n1_ n2_; (try clear hb); (try clear hb2); (try clear hk); (try clear hi); obtain ⟨Ao25, co25, eo25⟩ := Kd.R_slice HO114.out; subst eo25) | ((with_reducible refine gate_callee (f := 21) rfl ?_); refine goesL_ (some 48) rfl rfl Tryd.func21 (by kernel_rfl) rfl #[.string a0, .int .i64 a1, .int .i64 a2, .string ua5_ji14, .slice Ao25 t112.length co25] rfl (by (try simp only [List.map_toArray, List.map_cons, List.map_nil]); first | done | (simp only [hji14]; rfl) | rfl | (simp only [List.length_drop, List.length_take]; rfl)) ?_; (with_reducible refine (digest_Verify.calls a0 a1 a2 ua5_ji14 _ _ t112 t116 _ ?side1 ?side2 ?side3 A18.out).mono ?_); (case side1 => repeat (first | exact (Kd.R_reads' HO114.out).2.2 | (with_reducible refine Kd.C_alloc ?_ _) | (with_reducible refine Kd.C_drewN ?_ _) | (with_reducible refine Kd.C_drew ?_))); (case side2 => exact (Kd.R_reads' HO114.out).2.1); (case side3 => exact Amb.below hG_ (by repeat (first | (with_reducible first | exact HB.out | apply below_alloc | apply pw_below_drewN | apply below_drew1) | exact HB.out))); rintro e w26 ⟨rfl, hb⟩; refine ⟨_, rfl, ?_⟩; have n0_ := Aside0.mk (Kd.R_below (by (with_reducible repeat (first | apply Kd.R_alloc | apply Kd.R_drewN | apply Kd.R_drew)); exact HO111.out) hb); have n1_ := Aside0.mk (Kd.R_below (by (with_reducible repeat (first | apply Kd.R_alloc | apply Kd.R_drewN | apply Kd.R_drew)); exact HO114.out) hb); have n2_ := Aside0.mk (below_step (by repeat (first | (with_reducible first | exact HB.out | apply below_alloc | apply pw_below_drewN | apply below_drew1) | exact HB.out)) hb); clear HO111; clear HO114; clear HB; have HO111 := n0_; have HO114 := n1_; have HB := n2_; clear n0_ n1_ n2_; (try clear hb); (try clear hb2); (try clear hk); (try clear hi)))
     (try simp only [Act.put, List.setIfInBounds_toArray, List.set_cons_zero, List.set_cons_succ])
     go_cut [59] (fun v59 wc => ∃ (kq : Nat) (x59_18 : Bool), v59 = .bool x59_18 ∧ Aside0 (clearwaylaw02_DigestBinding.j0 kq a1 a2 ua3_ji11 t109 ua5_ji14 t112 t108 x59_18 = some r) ∧ Aside0 (kq ≤ k) ∧ Aside0 (Kd.R Kd.string 9 wc w.heap.size (fun k_ => some k_ ≠ ((.slice Ao25 t112.length co25) : Value).ownBlock) (.slice Ao23 t109.length co23) t109) ∧ Aside0 (Kd.R Kd.string 9 wc w.heap.size (fun k_ => some k_ ≠ ((.slice Ao23 t109.length co23) : Value).ownBlock) (.slice Ao25 t112.length co25) t112) ∧ Aside0 (Below w.heap.size w wc))
     case first =>
      have H := HC19.out
      clear HC19
      by_cases c27 : t115 = true
      ·subst c27
       have H1 : (if t116 = true then (clearwaylaw02_DigestBinding.j0 k a1 a2 ua3_ji11 t109 ua5_ji14 t112 t108 (ua3_ji11.toList == ua5_ji14.toList)) else (clearwaylaw02_DigestBinding.j0 k a1 a2 ua3_ji11 t109 ua5_ji14 t112 t108 true)) = some r := by rw [if_pos rfl] at H; exact H
       clear H
       have H := H1
       clear H1
       by_cases c28 : t116 = true
       ·subst c28
        have H1 : (clearwaylaw02_DigestBinding.j0 k a1 a2 ua3_ji11 t109 ua5_ji14 t112 t108 (ua3_ji11.toList == ua5_ji14.toList)) = some r := by rw [if_pos rfl] at H; exact H
        clear H
        have H := H1
        clear H1
        have H' := Aside0.mk H
        clear H
        go_wp2
        go_meet
        case rel => exact ⟨_, ((ua3_ji11.toList == ua5_ji14.toList)), (by first | rfl | (simp; done) | (simp only [← hji11, ← hji14] <;> (first | rfl | simp)) | (simp [*]; done)), H', ⟨by first | omega | exact Nat.le_refl _⟩, ⟨by (with_reducible repeat (first | apply Kd.R_alloc | apply Kd.R_drewN | apply Kd.R_drew)); exact Kd.R_mono HO111.out (fun _ hk => hk.2)⟩, ⟨by (with_reducible repeat (first | apply Kd.R_alloc | apply Kd.R_drewN | apply Kd.R_drew)); exact Kd.R_mono HO114.out (fun _ hk => hk.2)⟩, ⟨by repeat (first | (with_reducible first | exact HB.out | apply below_alloc | apply pw_below_drewN | apply below_drew1) | exact HB.out)⟩⟩
       ·replace c28 := Bool.eq_false_iff.mpr c28
        subst c28
        have H1 : (clearwaylaw02_DigestBinding.j0 k a1 a2 ua3_ji11 t109 ua5_ji14 t112 t108 true) = some r := by rw [if_neg (show ¬ (false = true) by decide)] at H; exact H
        clear H
        have H := H1
        clear H1
        have H' := Aside0.mk H
        clear H
        go_wp2
        go_meet
        case rel => exact ⟨_, (true), (by first | rfl | (simp; done) | (simp [*]; done)), H', ⟨by first | omega | exact Nat.le_refl _⟩, ⟨by (with_reducible repeat (first | apply Kd.R_alloc | apply Kd.R_drewN | apply Kd.R_drew)); exact Kd.R_mono HO111.out (fun _ hk => hk.2)⟩, ⟨by (with_reducible repeat (first | apply Kd.R_alloc | apply Kd.R_drewN | apply Kd.R_drew)); exact Kd.R_mono HO114.out (fun _ hk => hk.2)⟩, ⟨by repeat (first | (with_reducible first | exact HB.out | apply below_alloc | apply pw_below_drewN | apply below_drew1) | exact HB.out)⟩⟩
      ·replace c27 := Bool.eq_false_iff.mpr c27
       subst c27
       have H1 : (clearwaylaw02_DigestBinding.j0 k a1 a2 ua3_ji11 t109 ua5_ji14 t112 t108 true) = some r := by rw [if_neg (show ¬ (false = true) by decide)] at H; exact H
       clear H
       have H := H1
       clear H1
       have H' := Aside0.mk H
       clear H
       go_wp2
       go_meet
       case rel => exact ⟨_, (true), (by first | rfl | (simp; done) | (simp [*]; done)), H', ⟨by first | omega | exact Nat.le_refl _⟩, ⟨by (with_reducible repeat (first | apply Kd.R_alloc | apply Kd.R_drewN | apply Kd.R_drew)); exact Kd.R_mono HO111.out (fun _ hk => hk.2)⟩, ⟨by (with_reducible repeat (first | apply Kd.R_alloc | apply Kd.R_drewN | apply Kd.R_drew)); exact Kd.R_mono HO114.out (fun _ hk => hk.2)⟩, ⟨by repeat (first | (with_reducible first | exact HB.out | apply below_alloc | apply pw_below_drewN | apply below_drew1) | exact HB.out)⟩⟩
     case rest =>
      clear HC19
      try clear c1
      try clear c2
      try clear p2
      try clear c4
      try clear c6
      try clear c7
      try clear c12
      try clear c12b0
      try clear c12b1
      try clear c13
      try clear c13b0
      try clear c13b1
      try clear c15
      try clear c15b0
      try clear c15b1
      try clear c16
      try clear c16b0
      try clear c16b1
      try clear c21
      try clear c27
      try clear c28
      obtain ⟨kq, x59_18, rfl, HA, HJ18, HO_4, HO_6, HB⟩ := hcut
      cases kq with
      | zero => exact absurd HA.out (by simp [clearwaylaw02_DigestBinding.j0])
      | succ kj18 =>
       have H := HA.out
       clear HA
       simp only [clearwaylaw02_DigestBinding.j0] at H
       by_cases c29 : x59_18 = true
       ·subst c29
        have H1 : (some t108) = some r := by rw [if_pos rfl] at H; exact H
        clear H
        have H := H1
        clear H1
        obtain rfl := Option.some.inj H
        go_wp2
        go_ret
        exact ⟨by first | rfl | (simp [errW_none, errW_some] <;> rfl) | (simp only [← hji11, ← hji14]; first | rfl | (simp [errW_none, errW_some] <;> rfl)) | (simp [*, errW_none, errW_some] <;> rfl), by repeat (first | (with_reducible first | exact HB.out | apply below_alloc | apply pw_below_drewN | apply below_drew1) | exact HB.out)⟩
       ·replace c29 := Bool.eq_false_iff.mpr c29
        subst c29
        have H1 : ((clearwaylaw02_way.f kj18 a1 a2 ua3_ji11 t109).bind fun bt117 => ((clearwaylaw02_way.f kj18 a1 a2 ua5_ji14 t112).bind fun bt121 => (if t108 = true then ((clearwaylaw02_collide.f kj18 bt117.1 bt121.1).bind fun t125 => (some t125)) else (some false)))) = some r := by rw [if_neg (show ¬ (false = true) by decide)] at H; exact H
        clear H
        have H := H1
        clear H1
        replace H := Option.bind_eq_some_iff.mp H
        obtain ⟨⟨t117, t118⟩, A300, H⟩ := H
        replace H : ((clearwaylaw02_way.f kj18 a1 a2 ua5_ji14 t112).bind fun bt121 => (if t108 = true then ((clearwaylaw02_collide.f kj18 t117 bt121.1).bind fun t125 => (some t125)) else (some false))) = some r := H
        have A30 := Aside0.mk A300
        clear A300
        replace H := Option.bind_eq_some_iff.mp H
        obtain ⟨⟨t121, t122⟩, A310, H⟩ := H
        replace H : (if t108 = true then ((clearwaylaw02_collide.f kj18 t117 t121).bind fun t125 => (some t125)) else (some false)) = some r := H
        have A31 := Aside0.mk A310
        clear A310
        by_cases c32 : t108 = true
        ·subst c32
         have H1 : ((clearwaylaw02_collide.f kj18 t117 t121).bind fun t125 => (some t125)) = some r := by rw [if_pos rfl] at H; exact H
         clear H
         have H := H1
         clear H1
         replace H := Option.bind_eq_some_iff.mp H
         obtain ⟨t125, A330, H⟩ := H
         replace H : (some t125) = some r := H
         have A33 := Aside0.mk A330
         clear A330
         obtain rfl := Option.some.inj H
         go_wp2_with (first | ((with_reducible refine gate_callee (f := 26) rfl ?_); refine goesL_ (some 66) rfl rfl Tryd.func26 (by kernel_rfl) rfl #[.int .i64 a1, .int .i64 a2, .string ua3_ji11, .slice Ao23 t109.length co23] rfl (by (try simp only [List.map_toArray, List.map_cons, List.map_nil]); first | done | (simp only [hji11]; rfl) | rfl | (simp only [List.length_drop, List.length_take]; rfl)) ?_; (with_reducible refine (clearwaylaw02_way.calls kj18 a1 a2 ua3_ji11 _ _ t109 t117 t118 _ ?side1 ?side2 ?side3 A30.out).mono ?_); (case side1 => repeat (first | exact (Kd.R_reads' HO_4.out).2.2 | (with_reducible refine Kd.C_alloc ?_ _) | (with_reducible refine Kd.C_drewN ?_ _) | (with_reducible refine Kd.C_drew ?_))); (case side2 => exact (Kd.R_reads' HO_4.out).2.1); (case side3 => exact Amb.below hG_ (by repeat (first | (with_reducible first | exact HB.out | apply below_alloc | apply pw_below_drewN | apply below_drew1) | exact HB.out))); rintro e w34 ⟨v119, rfl, ho0, hb⟩; refine ⟨_, rfl, ?_⟩; have n0_ := Aside0.mk (Kd.R_elder' (by (with_reducible repeat (first | apply Kd.R_alloc | apply Kd.R_drewN | apply Kd.R_drew)); exact HO_4.out) (Kd.R_base ho0) hb); have n1_ := Aside0.mk (Kd.R_elder' (by (with_reducible repeat (first | apply Kd.R_alloc | apply Kd.R_drewN | apply Kd.R_drew)); exact HO_6.out) (Kd.R_base ho0) hb); have n2_ := Aside0.mk (Kd.R_lower (Kd.R_new' (Kd.R_new' ho0 (Kd.R_lt (by (with_reducible repeat (first | apply Kd.R_alloc | apply Kd.R_drewN | apply Kd.R_drew)); exact HO_4.out))) (Kd.R_lt (by (with_reducible repeat (first | apply Kd.R_alloc | apply Kd.R_drewN | apply Kd.R_drew)); exact HO_6.out))) (below_size (by repeat (first | (with_reducible first | exact HB.out | apply below_alloc | apply pw_below_drewN | apply below_drew1) | exact HB.out)))); have n3_ := Aside0.mk (below_step (by repeat (first | (with_reducible first | exact HB.out | apply below_alloc | apply pw_below_drewN | apply below_drew1) | exact HB.out)) hb); clear HO_4; clear HO_6; clear HB; have HO_4 := n0_; have HO_6 := n1_; have HO120 := n2_; have HB := n3_; clear n0_ n1_ n2_ n3_; (try clear hb); (try clear hb2); (try clear hk); (try clear hi); (try clear ho0)) | ((with_reducible refine gate_callee (f := 26) rfl ?_); refine goesL_ (some 74) rfl rfl Tryd.func26 (by kernel_rfl) rfl #[.int .i64 a1, .int .i64 a2, .string ua5_ji14, .slice Ao25 t112.length co25] rfl (by (try simp only [List.map_toArray, List.map_cons, List.map_nil]); first | done | (simp only [hji14]; rfl) | rfl | (simp only [List.length_drop, List.length_take]; rfl)) ?_; (with_reducible refine (clearwaylaw02_way.calls kj18 a1 a2 ua5_ji14 _ _ t112 t121 t122 _ ?side1 ?side2 ?side3 A31.out).mono ?_); (case side1 => repeat (first | exact (Kd.R_reads' HO_6.out).2.2 | (with_reducible refine Kd.C_alloc ?_ _) | (with_reducible refine Kd.C_drewN ?_ _) | (with_reducible refine Kd.C_drew ?_))); (case side2 => exact (Kd.R_reads' HO_6.out).2.1); (case side3 => exact Amb.below hG_ (by repeat (first | (with_reducible first | exact HB.out | apply below_alloc | apply pw_below_drewN | apply below_drew1) | exact HB.out))); rintro e w35 ⟨v123, rfl, ho0, hb⟩; refine ⟨_, rfl, ?_⟩; have n0_ := Aside0.mk (Kd.R_elder' (by (with_reducible repeat (first | apply Kd.R_alloc | apply Kd.R_drewN | apply Kd.R_drew)); exact HO_4.out) (Kd.R_base ho0) hb); have n1_ := Aside0.mk (Kd.R_elder' (by (with_reducible repeat (first | apply Kd.R_alloc | apply Kd.R_drewN | apply Kd.R_drew)); exact HO_6.out) (Kd.R_base ho0) hb); have n2_ := Aside0.mk (Kd.R_elder' (by (with_reducible repeat (first | apply Kd.R_alloc | apply Kd.R_drewN | apply Kd.R_drew)); exact HO120.out) (Kd.R_base ho0) hb); have n3_ := Aside0.mk (Kd.R_lower (Kd.R_new' (Kd.R_new' (Kd.R_new' ho0 (Kd.R_lt (by (with_reducible repeat (first | apply Kd.R_alloc | apply Kd.R_drewN | apply Kd.R_drew)); exact HO_4.out))) (Kd.R_lt (by (with_reducible repeat (first | apply Kd.R_alloc | apply Kd.R_drewN | apply Kd.R_drew)); exact HO_6.out))) (Kd.R_lt (by (with_reducible repeat (first | apply Kd.R_alloc | apply Kd.R_drewN | apply Kd.R_drew)); exact HO120.out))) (below_size (by repeat (first | (with_reducible first | exact HB.out | apply below_alloc | apply pw_below_drewN | apply below_drew1) | exact HB.out)))); have n4_ := Aside0.mk (below_step (by repeat (first | (with_reducible first | exact HB.out | apply below_alloc | apply pw_below_drewN | apply below_drew1) | exact HB.out)) hb); clear HO_4; clear HO_6; clear HO120; clear HB; have HO_4 := n0_; have HO_6 := n1_; have HO120 := n2_; have HO124 := n3_; have HB := n4_; clear n0_ n1_ n2_ n3_ n4_; (try clear hb); (try clear hb2); (try clear hk); (try clear hi); (try clear ho0); obtain ⟨Ao36, co36, eo36⟩ := Kd.R_slice HO120.out; subst eo36; obtain ⟨Ao37, co37, eo37⟩ := Kd.R_slice HO124.out; subst eo37) | (go_at_call 27; (with_reducible refine (clearwaylaw02_collide.calls kj18 _ _ t117 _ _ t121 t125 _ ?side1 ?side2 ?side3 ?side4 ?side5 A33.out).mono ?_); (case side1 => repeat (first | exact (Kd.R_reads' HO120.out).2.2 | (with_reducible refine Kd.C_alloc ?_ _) | (with_reducible refine Kd.C_drewN ?_ _) | (with_reducible refine Kd.C_drew ?_))); (case side2 => exact (Kd.R_reads' HO120.out).2.1); (case side3 => repeat (first | exact (Kd.R_reads' HO124.out).2.2 | (with_reducible refine Kd.C_alloc ?_ _) | (with_reducible refine Kd.C_drewN ?_ _) | (with_reducible refine Kd.C_drew ?_))); (case side4 => exact (Kd.R_reads' HO124.out).2.1); (case side5 => exact Amb.below hG_ (by repeat (first | (with_reducible first | exact HB.out | apply below_alloc | apply pw_below_drewN | apply below_drew1) | exact HB.out))); rintro e w38 ⟨rfl, hb⟩; have n0_ := Aside0.mk (Kd.R_below (by (with_reducible repeat (first | apply Kd.R_alloc | apply Kd.R_drewN | apply Kd.R_drew)); exact HO_4.out) hb); have n1_ := Aside0.mk (Kd.R_below (by (with_reducible repeat (first | apply Kd.R_alloc | apply Kd.R_drewN | apply Kd.R_drew)); exact HO_6.out) hb); have n2_ := Aside0.mk (Kd.R_below (by (with_reducible repeat (first | apply Kd.R_alloc | apply Kd.R_drewN | apply Kd.R_drew)); exact HO120.out) hb); have n3_ := Aside0.mk (Kd.R_below (by (with_reducible repeat (first | apply Kd.R_alloc | apply Kd.R_drewN | apply Kd.R_drew)); exact HO124.out) hb); have n4_ := Aside0.mk (below_step (by repeat (first | (with_reducible first | exact HB.out | apply below_alloc | apply pw_below_drewN | apply below_drew1) | exact HB.out)) hb); clear HO_4; clear HO_6; clear HO120; clear HO124; clear HB; have HO_4 := n0_; have HO_6 := n1_; have HO120 := n2_; have HO124 := n3_; have HB := n4_; clear n0_ n1_ n2_ n3_ n4_; (try clear hb); (try clear hb2); (try clear hk); (try clear hi)))
         go_ret
         exact ⟨by first | rfl | (simp [errW_none, errW_some] <;> rfl) | (simp only [← hji11, ← hji14]; first | rfl | (simp [errW_none, errW_some] <;> rfl)) | (simp [*, errW_none, errW_some] <;> rfl), by repeat (first | (with_reducible first | exact HB.out | apply below_alloc | apply pw_below_drewN | apply below_drew1) | exact HB.out)⟩
        ·replace c32 := Bool.eq_false_iff.mpr c32
         subst c32
         have H1 : (some false) = some r := by rw [if_neg (show ¬ (false = true) by decide)] at H; exact H
         clear H
         have H := H1
         clear H1
         obtain rfl := Option.some.inj H
         go_wp2_with (first | ((with_reducible refine gate_callee (f := 26) rfl ?_); refine goesL_ (some 66) rfl rfl Tryd.func26 (by kernel_rfl) rfl #[.int .i64 a1, .int .i64 a2, .string ua3_ji11, .slice Ao23 t109.length co23] rfl (by (try simp only [List.map_toArray, List.map_cons, List.map_nil]); first | done | (simp only [hji11]; rfl) | rfl | (simp only [List.length_drop, List.length_take]; rfl)) ?_; (with_reducible refine (clearwaylaw02_way.calls kj18 a1 a2 ua3_ji11 _ _ t109 t117 t118 _ ?side1 ?side2 ?side3 A30.out).mono ?_); (case side1 => repeat (first | exact (Kd.R_reads' HO_4.out).2.2 | (with_reducible refine Kd.C_alloc ?_ _) | (with_reducible refine Kd.C_drewN ?_ _) | (with_reducible refine Kd.C_drew ?_))); (case side2 => exact (Kd.R_reads' HO_4.out).2.1); (case side3 => exact Amb.below hG_ (by repeat (first | (with_reducible first | exact HB.out | apply below_alloc | apply pw_below_drewN | apply below_drew1) | exact HB.out))); rintro e w39 ⟨v119, rfl, ho0, hb⟩; refine ⟨_, rfl, ?_⟩; have n0_ := Aside0.mk (Kd.R_elder' (by (with_reducible repeat (first | apply Kd.R_alloc | apply Kd.R_drewN | apply Kd.R_drew)); exact HO_4.out) (Kd.R_base ho0) hb); have n1_ := Aside0.mk (Kd.R_elder' (by (with_reducible repeat (first | apply Kd.R_alloc | apply Kd.R_drewN | apply Kd.R_drew)); exact HO_6.out) (Kd.R_base ho0) hb); have n2_ := Aside0.mk (Kd.R_lower (Kd.R_new' (Kd.R_new' ho0 (Kd.R_lt (by (with_reducible repeat (first | apply Kd.R_alloc | apply Kd.R_drewN | apply Kd.R_drew)); exact HO_4.out))) (Kd.R_lt (by (with_reducible repeat (first | apply Kd.R_alloc | apply Kd.R_drewN | apply Kd.R_drew)); exact HO_6.out))) (below_size (by repeat (first | (with_reducible first | exact HB.out | apply below_alloc | apply pw_below_drewN | apply below_drew1) | exact HB.out)))); have n3_ := Aside0.mk (below_step (by repeat (first | (with_reducible first | exact HB.out | apply below_alloc | apply pw_below_drewN | apply below_drew1) | exact HB.out)) hb); clear HO_4; clear HO_6; clear HB; have HO_4 := n0_; have HO_6 := n1_; have HO120 := n2_; have HB := n3_; clear n0_ n1_ n2_ n3_; (try clear hb); (try clear hb2); (try clear hk); (try clear hi); (try clear ho0)) | ((with_reducible refine gate_callee (f := 26) rfl ?_); refine goesL_ (some 74) rfl rfl Tryd.func26 (by kernel_rfl) rfl #[.int .i64 a1, .int .i64 a2, .string ua5_ji14, .slice Ao25 t112.length co25] rfl (by (try simp only [List.map_toArray, List.map_cons, List.map_nil]); first | done | (simp only [hji14]; rfl) | rfl | (simp only [List.length_drop, List.length_take]; rfl)) ?_; (with_reducible refine (clearwaylaw02_way.calls kj18 a1 a2 ua5_ji14 _ _ t112 t121 t122 _ ?side1 ?side2 ?side3 A31.out).mono ?_); (case side1 => repeat (first | exact (Kd.R_reads' HO_6.out).2.2 | (with_reducible refine Kd.C_alloc ?_ _) | (with_reducible refine Kd.C_drewN ?_ _) | (with_reducible refine Kd.C_drew ?_))); (case side2 => exact (Kd.R_reads' HO_6.out).2.1); (case side3 => exact Amb.below hG_ (by repeat (first | (with_reducible first | exact HB.out | apply below_alloc | apply pw_below_drewN | apply below_drew1) | exact HB.out))); rintro e w40 ⟨v123, rfl, ho0, hb⟩; refine ⟨_, rfl, ?_⟩; have n0_ := Aside0.mk (Kd.R_elder' (by (with_reducible repeat (first | apply Kd.R_alloc | apply Kd.R_drewN | apply Kd.R_drew)); exact HO_4.out) (Kd.R_base ho0) hb); have n1_ := Aside0.mk (Kd.R_elder' (by (with_reducible repeat (first | apply Kd.R_alloc | apply Kd.R_drewN | apply Kd.R_drew)); exact HO_6.out) (Kd.R_base ho0) hb); have n2_ := Aside0.mk (Kd.R_elder' (by (with_reducible repeat (first | apply Kd.R_alloc | apply Kd.R_drewN | apply Kd.R_drew)); exact HO120.out) (Kd.R_base ho0) hb); have n3_ := Aside0.mk (Kd.R_lower (Kd.R_new' (Kd.R_new' (Kd.R_new' ho0 (Kd.R_lt (by (with_reducible repeat (first | apply Kd.R_alloc | apply Kd.R_drewN | apply Kd.R_drew)); exact HO_4.out))) (Kd.R_lt (by (with_reducible repeat (first | apply Kd.R_alloc | apply Kd.R_drewN | apply Kd.R_drew)); exact HO_6.out))) (Kd.R_lt (by (with_reducible repeat (first | apply Kd.R_alloc | apply Kd.R_drewN | apply Kd.R_drew)); exact HO120.out))) (below_size (by repeat (first | (with_reducible first | exact HB.out | apply below_alloc | apply pw_below_drewN | apply below_drew1) | exact HB.out)))); have n4_ := Aside0.mk (below_step (by repeat (first | (with_reducible first | exact HB.out | apply below_alloc | apply pw_below_drewN | apply below_drew1) | exact HB.out)) hb); clear HO_4; clear HO_6; clear HO120; clear HB; have HO_4 := n0_; have HO_6 := n1_; have HO120 := n2_; have HO124 := n3_; have HB := n4_; clear n0_ n1_ n2_ n3_ n4_; (try clear hb); (try clear hb2); (try clear hk); (try clear hi); (try clear ho0)))
         go_ret
         exact ⟨by first | rfl | (simp [errW_none, errW_some] <;> rfl) | (simp only [← hji11, ← hji14]; first | rfl | (simp [errW_none, errW_some] <;> rfl)) | (simp [*, errW_none, errW_some] <;> rfl), by repeat (first | (with_reducible first | exact HB.out | apply below_alloc | apply pw_below_drewN | apply below_drew1) | exact HB.out)⟩
    ·rw [if_neg c16] at H
     exact absurd H (by simp)
   ·rw [if_neg c15] at H
    exact absurd H (by simp)
  ·rw [if_neg c13] at H
   exact absurd H (by simp)
 ·rw [if_neg c12] at H
  exact absurd H (by simp)

end Go.Proofs.YtjkdenldddjcnaaDoor.Dg
set_option linter.unusedVariables false
set_option linter.unusedSimpArgs false
namespace Go.Proofs.YtjkdenldddjcnaaDoor.Sha
open Go Go.RowKit Go.Proofs.YtjkdenldddjcnaaDoor.Df Go.Proofs.YtjkdenldddjcnaaDoor.Dg Go.Proofs.YtjkdenldddjcnaaDoorW.PrintWords Go.Proofs.YtjkdenldddjcnaaDoorW.PrintLast Go.Proofs.YtjkdenldddjcnaaDoorW.PrintMore

theorem verify_parts {root : ByteArray} {n i : Int} {s : ByteArray} {l : List ByteArray} (h : verifyF root n i s l = true) :
    0 ≤ i ∧ i < n ∧ (∀ x ∈ l, x.size = 32) ∧ ∃ w', descF l.reverse n.toNat i.toNat [] = some (w', []) ∧ (wv l.reverse n.toNat i.toNat s).2 = root := by
  unfold verifyF at h
  by_cases h1 : i < 0
  · rw [if_pos h1] at h; cases h
  · rw [if_neg h1] at h
    by_cases h2 : n ≤ i
    · rw [if_pos h2] at h; cases h
    · rw [if_neg h2] at h
      by_cases h3 : all32 l = false
      · rw [if_pos h3] at h; cases h
      · rw [if_neg h3] at h
        refine ⟨by omega, by omega, ?_, ?_⟩
        · intro x hx
          have := (Bool.not_eq_false _).mp h3
          unfold all32 at this
          have := List.all_eq_true.1 this x hx
          have := beq_iff_eq.1 this
          omega
        · cases hd : descF l.reverse n.toNat i.toNat [] with
          | none => rw [hd] at h; cases h
          | some p =>
            obtain ⟨w', pr⟩ := p
            rw [hd] at h
            unfold endV at h
            have h4 := Bool.and_eq_true_iff.1 h
            have h5 : pr = [] := List.isEmpty_iff.1 h4.1
            subst h5
            refine ⟨w', rfl, ?_⟩
            have h6 := desc_up s l.reverse n.toNat i.toNat [] w' hd
            have h7 : upF w' (leafF s) = root := by
              have := h4.2
              rw [beq_toListBytes] at this
              exact (toList_eq _ _).1 (beq_iff_eq.1 this)
            rw [← h7, h6]
            rfl
theorem binding_f (a0 : ByteArray) (a1 a2 : Int) (h1 : a1 ≤ 9223372036854775807) (a3 : ByteArray) (l4 : List ByteArray) (a5 : ByteArray) (l6 : List ByteArray) : ∃ k, clearwaylaw02_DigestBinding.f k a0 a1 a2 a3 l4 a5 l6 = some true := by
  obtain ⟨p, hp, hpl, hps⟩ := few_f l4 70 200 (by decide) (by decide)
  obtain ⟨q, hq, hql, hqs⟩ := few_f l6 70 200 (by decide) (by decide)
  obtain ⟨s, hs⟩ : ∃ s, a3.extract 0 (mn (a3.size : Int) 60).toNat = s := ⟨_, rfl⟩
  obtain ⟨t, ht⟩ : ∃ t, a5.extract 0 (mn (a5.size : Int) 60).toNat = t := ⟨_, rfl⟩
  obtain ⟨c0, c1, c2⟩ := mn_cut a3 60 (by decide)
  obtain ⟨d0, d1, d2⟩ := mn_cut a5 60 (by decide)
  rw [hs] at c2
  rw [ht] at d2
  have j_true : ∀ k, clearwaylaw02_DigestBinding.j0 (k + 1) a1 a2 s p t q true true = some true := fun k => by rw [clearwaylaw02_DigestBinding.j0, if_pos rfl]
  refine ⟨1000, ?_⟩
  have sane1000 : clearwaylaw02_sane.f 1000 = some true := by
    have h := sane_f
    have step : ∀ n, clearwaylaw02_sane.f (200 + n) = some true := by
      intro n
      induction n with
      | zero => exact h
      | succ n ih => exact clearwaylaw02_sane.mono (200 + n) _ ih
    exact step 800
  obtain ⟨p, hp, hpl, hps⟩ := few_f l4 70 1000 (by decide) (by decide)
  obtain ⟨q, hq, hql, hqs⟩ := few_f l6 70 1000 (by decide) (by decide)
  unfold clearwaylaw02_DigestBinding.f
  have hp' : clearwaylaw02_few.f 1000 l4 70 = some p := hp
  have hq' : clearwaylaw02_few.f 1000 l6 70 = some q := hq
  rw [sane1000, Option.bind_some, hp', Option.bind_some, hq', Option.bind_some, if_pos c0, if_pos c1, if_pos d0, if_pos d1, hs, ht]
  have v1 : digest_Verify.f a0 a1 a2 s p = some (verifyF a0 a1 a2 s p) := by unfold digest_Verify.f; rw [if_pos ⟨by omega, h1, by omega⟩]
  have v2 : digest_Verify.f a0 a1 a2 t q = some (verifyF a0 a1 a2 t q) := by unfold digest_Verify.f; rw [if_pos ⟨by omega, h1, by omega⟩]
  rw [v1, Option.bind_some, v2, Option.bind_some]
  by_cases e1 : verifyF a0 a1 a2 s p = true
  · rw [if_pos e1]
    by_cases e2 : verifyF a0 a1 a2 t q = true
    · rw [if_pos e2]
      rw [show (1000 : Nat) = 999 + 1 from rfl, clearwaylaw02_DigestBinding.j0]
      by_cases hst : s = t
      · rw [if_pos (by rw [hst]; simp)]
      · rw [if_neg (by rw [beq_iff_eq]; exact fun h => hst ((toList_eq _ _).1 h))]
        obtain ⟨g1, g2, g3, w1, g4, g5⟩ := verify_parts e1
        obtain ⟨_, _, k3, w2, k4, k5⟩ := verify_parts e2
        have y1 := way_f s (by omega) p.reverse (by simpa using g3) (by simp; omega) 999 a1.toNat a2.toNat (by omega) (by omega) (by simp; omega)
        have y2 := way_f t (by omega) q.reverse (by simpa using k3) (by simp; omega) 999 a1.toNat a2.toNat (by omega) (by omega) (by simp; omega)
        rw [List.reverse_reverse, Int.toNat_of_nonneg (by omega), Int.toNat_of_nonneg (by omega)] at y1 y2
        rw [y1, Option.bind_some, y2, Option.bind_some, if_pos rfl]
        obtain ⟨j, x, y, z1, z2, z3, z4, z5⟩ := wv_collide s t hst p.reverse q.reverse (by simpa using g3) (by simpa using k3) a1.toNat a2.toNat [] [] w1 w2 g4 k4 (g5.trans k5.symm)
        have b1 := wv_sizes p.reverse (by simpa using g3) s (by omega) a1.toNat a2.toNat
        have b2 := wv_sizes q.reverse (by simpa using k3) t (by omega) a1.toNat a2.toNat
        have b3 := (wv_size p.reverse a1.toNat a2.toNat s).2
        simp only [List.length_reverse] at z5 b3
        rw [collide_f _ _ (fun u hu => by have := b1 u hu; omega) (fun u hu => by have := b2 u hu; omega) (by omega) j x y z1 z2 z3 z4 999 (by omega), Option.bind_some]
    · rw [if_neg e2]
      exact (by rw [show (1000 : Nat) = 999 + 1 from rfl, clearwaylaw02_DigestBinding.j0, if_pos rfl] : clearwaylaw02_DigestBinding.j0 1000 a1 a2 s p t q true true = some true)
  · rw [if_neg e1]
    exact (by rw [show (1000 : Nat) = 999 + 1 from rfl, clearwaylaw02_DigestBinding.j0, if_pos rfl] : clearwaylaw02_DigestBinding.j0 1000 a1 a2 s p t q true true = some true)
theorem int_hi {n : Int} (h : (Lit.int .i64 n).wf = true) : -9223372036854775808 ≤ n ∧ n ≤ 9223372036854775807 := by
  simp [Lit.wf] at h
  exact ⟨h.1, h.2⟩
theorem binding (a0 : ByteArray) (a1 a2 : Int) (a3 : ByteArray) (A4 : Option Addr) (n4 c4 : Nat) (l4 : List ByteArray) (a5 : ByteArray) (A6 : Option Addr) (n6 c6 : Nat) (l6 : List ByteArray) (w : World)
    (w0 : a0.size ≤ 140737488351232) (w1 : (Lit.int .i64 a1).wf = true) (w2 : (Lit.int .i64 a2).wf = true) (w3 : a3.size ≤ 140737488351232) (w4 : l4.length = n4 ∧ n4 ≤ c4 ∧ c4 ≤ maxLen ∧ Kd.C Kd.string w A4 n4 l4 ∧ ∀ x ∈ l4, x.size ≤ maxLen) (w5 : a5.size ≤ 140737488351232) (w6 : l6.length = n6 ∧ n6 ≤ c6 ∧ c6 ≤ maxLen ∧ Kd.C Kd.string w A6 n6 l6 ∧ ∀ x ∈ l6, x.size ≤ maxLen) (hG : Amb w) :
    Calls Tryd.prog 7 #[.string a0, .int .i64 a1, .int .i64 a2, .string a3, .slice A4 n4 c4, .string a5, .slice A6 n6 c6] w fun e w' => e = .returned (.bool true) ∧ Below w.heap.size w w' := by
  obtain ⟨rfl, h4, _, k4, _⟩ := w4
  obtain ⟨rfl, h6, _, k6, _⟩ := w6
  obtain ⟨k, hk⟩ := binding_f a0 a1 a2 (int_hi w1).2 a3 l4 a5 l6
  exact clearwaylaw02_DigestBinding.calls k a0 a1 a2 a3 A4 c4 l4 a5 A6 c6 l6 true w k4 h4 k6 h6 hG hk
end Go.Proofs.YtjkdenldddjcnaaDoor.Sha
