/- The contracts of functions, written by this session's program (wip/pp.py): what the list functions answer, the code comes to. No condition. -/
import Derived.Test.YtniegajdmbepbaaGreatDoorKJournalMatchesReference14
set_option linter.unusedSimpArgs false
set_option linter.unusedVariables false
open Go.Proofs.YtniegajdmbepbaaGreatDoor
namespace Go.Proofs.YtniegajdmbepbaaGreatDoor.Dm
open Go.RowKit Go.Proofs.YtniegajdmbepbaaGreatDoorW.PrintWords Go.Proofs.YtniegajdmbepbaaGreatDoorW.PrintLast Go.Proofs.YtniegajdmbepbaaGreatDoorW.PrintMore
attribute [local go_sem] max2_int min2_int max_two min_two max_three min_three max_four min_four   -- for this text's walks alone
mutual
def clearwayref02_block.l0 : Nat → List Int → List Int → List Int → Int → Option (List Int)
 | 0, _, _, _, _ => none
 | k + 1, x0, x1, x5, x6 => if x6 < 16 then (if 0 ≤ (wrap64 (4 * x6)) then (if (wrap64 (4 * x6)) < (x1.length : Int) then (if 0 ≤ (wrap64 ((wrap64 (4 * x6)) + 1)) then (if (wrap64 ((wrap64 (4 * x6)) + 1)) < (x1.length : Int) then (if 0 ≤ (wrap64 ((wrap64 (4 * x6)) + 2)) then (if (wrap64 ((wrap64 (4 * x6)) + 2)) < (x1.length : Int) then (if 0 ≤ (wrap64 ((wrap64 (4 * x6)) + 3)) then (if (wrap64 ((wrap64 (4 * x6)) + 3)) < (x1.length : Int) then (if x5.length < 35184372088832 then (clearwayref02_block.l0 k x0 x1 (x5 ++ [Go.bits .or .u32 (Go.bits .or .u32 (Go.bits .or .u32 ((((rd x1 (wrap64 (4 * x6))) % 4294967296) * 16777216) % 4294967296) ((((rd x1 (wrap64 ((wrap64 (4 * x6)) + 1))) % 4294967296) * 65536) % 4294967296)) ((((rd x1 (wrap64 ((wrap64 (4 * x6)) + 2))) % 4294967296) * 256) % 4294967296)) ((rd x1 (wrap64 ((wrap64 (4 * x6)) + 3))) % 4294967296)]) (wrap64 (x6 + 1))) else (none)) else (none)) else (none)) else (none)) else (none)) else (none)) else (none)) else (none)) else (none)) else (clearwayref02_block.l1 k x0 x5 16)
def clearwayref02_block.l1 : Nat → List Int → List Int → Int → Option (List Int)
 | 0, _, _, _ => none
 | k + 1, x0, x5, x7 => if x7 < 64 then (if 0 ≤ (wrap64 (x7 - 15)) then (if (wrap64 (x7 - 15)) < (x5.length : Int) then ((clearwayref02_rotated.f (rd x5 (wrap64 (x7 - 15))) 7).bind fun t124 => ((clearwayref02_rotated.f (rd x5 (wrap64 (x7 - 15))) 18).bind fun t126 => (clearwayref02_block.j2 k x0 x5 x7 (Go.bits .xor .u32 (Go.bits .xor .u32 t124 t126) ((rd x5 (wrap64 (x7 - 15))) / 8))))) else (none)) else (none)) else ((clearwayref02_constants.f).bind fun t138 => (if ([] : List Int).length + x0.length < 35184372088832 then (clearwayref02_block.l2 k x0 x5 t138 (([] : List Int) ++ x0) 0) else (none)))
def clearwayref02_block.j2 : Nat → List Int → List Int → Int → Int → Option (List Int)
 | 0, _, _, _, _ => none
 | k + 1, x0, x5, x7, x8 => if 0 ≤ (wrap64 (x7 - 2)) then (if (wrap64 (x7 - 2)) < (x5.length : Int) then ((clearwayref02_rotated.f (rd x5 (wrap64 (x7 - 2))) 17).bind fun t129 => ((clearwayref02_rotated.f (rd x5 (wrap64 (x7 - 2))) 19).bind fun t131 => (clearwayref02_block.j3 k x0 x5 x7 x8 (Go.bits .xor .u32 (Go.bits .xor .u32 t129 t131) ((rd x5 (wrap64 (x7 - 2))) / 1024))))) else (none)) else (none)
def clearwayref02_block.j3 : Nat → List Int → List Int → Int → Int → Int → Option (List Int)
 | 0, _, _, _, _, _ => none
 | k + 1, x0, x5, x7, x8, x9 => if 0 ≤ (wrap64 (x7 - 16)) then (if (wrap64 (x7 - 16)) < (x5.length : Int) then (if 0 ≤ (wrap64 (x7 - 7)) then (if (wrap64 (x7 - 7)) < (x5.length : Int) then (if x5.length < 35184372088832 then (clearwayref02_block.l1 k x0 (x5 ++ [((((((rd x5 (wrap64 (x7 - 16))) + x8) % 4294967296) + (rd x5 (wrap64 (x7 - 7)))) % 4294967296) + x9) % 4294967296]) (wrap64 (x7 + 1))) else (none)) else (none)) else (none)) else (none)) else (none)
def clearwayref02_block.l2 : Nat → List Int → List Int → List Int → List Int → Int → Option (List Int)
 | 0, _, _, _, _, _ => none
 | k + 1, x0, x5, x10, x11, x12 => if x12 < 64 then (if 0 < (x11.length : Int) then (if 4 < (x11.length : Int) then (if 7 < (x11.length : Int) then ((clearwayref02_rotated.f (rd x11 4) 6).bind fun t147 => ((clearwayref02_rotated.f (rd x11 4) 11).bind fun t148 => ((clearwayref02_rotated.f (rd x11 4) 25).bind fun t149 => (if 5 < (x11.length : Int) then (if 6 < (x11.length : Int) then (if 0 ≤ x12 then (if x12 < (x10.length : Int) then (if x12 < (x5.length : Int) then (clearwayref02_block.j5 k x0 x5 x10 x11 x12 (rd x11 0) (rd x11 4) (((((((((rd x11 7) + (Go.bits .xor .u32 (Go.bits .xor .u32 t147 t148) t149)) % 4294967296) + (Go.bits .xor .u32 (Go.bits .and .u32 (rd x11 4) (rd x11 5)) (Go.bits .and .u32 (Go.bits .xor .u32 IntKind.u32.max (rd x11 4)) (rd x11 6)))) % 4294967296) + (rd x10 x12)) % 4294967296) + (rd x5 x12)) % 4294967296)) else (none)) else (none)) else (none)) else (none)) else (none))))) else (none)) else (none)) else (none)) else (clearwayref02_block.l3 k x0 x11 ([] : List Int) 0)
def clearwayref02_block.j5 : Nat → List Int → List Int → List Int → List Int → Int → Int → Int → Int → Option (List Int)
 | 0, _, _, _, _, _, _, _, _ => none
 | k + 1, x0, x5, x10, x11, x12, x13, x14, x15 => (clearwayref02_rotated.f x13 2).bind fun t154 => ((clearwayref02_rotated.f x13 13).bind fun t155 => ((clearwayref02_rotated.f x13 22).bind fun t156 => (if 1 < (x11.length : Int) then (if 2 < (x11.length : Int) then (clearwayref02_block.j6 k x0 x5 x10 x11 x12 x13 x14 x15 (((Go.bits .xor .u32 (Go.bits .xor .u32 t154 t155) t156) + (Go.bits .xor .u32 (Go.bits .xor .u32 (Go.bits .and .u32 x13 (rd x11 1)) (Go.bits .and .u32 x13 (rd x11 2))) (Go.bits .and .u32 (rd x11 1) (rd x11 2)))) % 4294967296)) else (none)) else (none))))
def clearwayref02_block.j6 : Nat → List Int → List Int → List Int → List Int → Int → Int → Int → Int → Int → Option (List Int)
 | 0, _, _, _, _, _, _, _, _, _ => none
 | k + 1, x0, x5, x10, x11, x12, x13, x14, x15, x16 => if 1 < (x11.length : Int) then (if 2 < (x11.length : Int) then (if 3 < (x11.length : Int) then (if 5 < (x11.length : Int) then (if 6 < (x11.length : Int) then (clearwayref02_block.l2 k x0 x5 x10 (([(x15 + x16) % 4294967296, x13, rd x11 1, rd x11 2, ((rd x11 3) + x15) % 4294967296, x14, rd x11 5, rd x11 6] : List Int)) (wrap64 (x12 + 1))) else (none)) else (none)) else (none)) else (none)) else (none)
def clearwayref02_block.l3 : Nat → List Int → List Int → List Int → Int → Option (List Int)
 | 0, _, _, _, _ => none
 | k + 1, x0, x11, x17, x18 => if x18 < 8 then (if 0 ≤ x18 then (if x18 < (x0.length : Int) then (if x18 < (x11.length : Int) then (if x17.length < 35184372088832 then (clearwayref02_block.l3 k x0 x11 (x17 ++ [((rd x0 x18) + (rd x11 x18)) % 4294967296]) (wrap64 (x18 + 1))) else (none)) else (none)) else (none)) else (none)) else (some x17)
end
def clearwayref02_block.f (k : Nat) (l0 : List Int) (l1 : List Int) : Option (List Int) := clearwayref02_block.l0 k l0 l1 ([] : List Int) 0
def clearwayref02_block.T5 : Bool × List (List Nat × List Nat) := (true, [([], []), ([], []), ([], []), ([2], [2]), ([1, 3], [1, 3]), ([4], [4]), ([5], [5]), ([6], [6]), ([], []), ([], []), ([9], [9]), ([10], [10]), ([8, 11], [8, 11]), ([12], [12]), ([13], [13]), ([14], [14]), ([7, 15], [7, 15]), ([], []), ([], []), ([18], [18]), ([19], [19]), ([17, 20], [17, 20]), ([21], [21]), ([22], [22]), ([23], [23]), ([16, 24], [16, 24]), ([], []), ([], []), ([27], [27]), ([28], [28]), ([26, 29], [26, 29]), ([30], [30]), ([31], [31]), ([25, 32], [25, 32]), ([33], [33]), ([0, 34], [0, 34]), ([35, 35, 0, 1, 2, 3, 4, 5, 6, 7, 8, 9, 10, 11, 12, 13, 14, 15, 16, 17, 18, 19, 20, 21, 22, 23, 24, 25, 26, 27, 28, 29, 30, 31, 32, 33, 34, 35], [0, 35])])
def clearwayref02_block.B5 : List Nat := [0, 0, 0, 4, 14, 30, 62, 126, 0, 0, 512, 1536, 3840, 7936, 16128, 32512, 65534, 0, 0, 262144, 786432, 1966080, 4063232, 8257536, 16646144, 33554430, 0, 0, 134217728, 402653184, 1006632960, 2080374784, 4227858432, 8589934590, 17179869182, 34359738367, 68719476735]
theorem clearwayref02_block.tab5 : rtab .any (opsOf Tryz.f59 5) = clearwayref02_block.T5 := by kernel_rfl
theorem clearwayref02_block.bits5 : waitsOk clearwayref02_block.T5.2 clearwayref02_block.B5 = true := by kernel_rfl
def clearwayref02_block.T9 : Bool × List (List Nat × List Nat) := (true, [([], []), ([], []), ([1], [1]), ([0, 2], [0, 2]), ([3], [3]), ([4], [4]), ([], []), ([], []), ([7], [7]), ([6, 8], [6, 8]), ([9], [9]), ([10, 5], [10]), ([5, 11], [5, 11]), ([], []), ([], []), ([14], [14]), ([13, 15], [13, 15]), ([16], [16]), ([17], [17]), ([12, 18], [12, 18]), ([19, 11, 0, 1, 2, 3, 4, 5, 6, 7, 8, 9, 10, 11, 12, 13, 14, 15, 16, 17, 18, 19], [19])])
def clearwayref02_block.B9 : List Nat := [0, 0, 2, 7, 15, 31, 0, 0, 128, 448, 960, 2047, 4095, 0, 0, 16384, 57344, 122880, 253952, 524287, 1048575]
theorem clearwayref02_block.tab9 : rtab .any (opsOf Tryz.f59 9) = clearwayref02_block.T9 := by kernel_rfl
theorem clearwayref02_block.bits9 : waitsOk clearwayref02_block.T9.2 clearwayref02_block.B9 = true := by kernel_rfl
def clearwayref02_block.T10 : Bool × List (List Nat × List Nat) := (true, [([], []), ([], []), ([1], [1]), ([0, 2], [0, 2]), ([3], [3]), ([4], [4]), ([], []), ([], []), ([7], [7]), ([6, 8], [6, 8]), ([9], [9]), ([10, 5], [10]), ([5, 11], [5, 11]), ([], []), ([], []), ([14], [14]), ([13, 15], [13, 15]), ([16], [16]), ([17], [17]), ([12, 18], [12, 18]), ([19, 11, 0, 1, 2, 3, 4, 5, 6, 7, 8, 9, 10, 11, 12, 13, 14, 15, 16, 17, 18, 19], [19])])
def clearwayref02_block.B10 : List Nat := [0, 0, 2, 7, 15, 31, 0, 0, 128, 448, 960, 2047, 4095, 0, 0, 16384, 57344, 122880, 253952, 524287, 1048575]
theorem clearwayref02_block.tab10 : rtab .any (opsOf Tryz.f59 10) = clearwayref02_block.T10 := by kernel_rfl
theorem clearwayref02_block.bits10 : waitsOk clearwayref02_block.T10.2 clearwayref02_block.B10 = true := by kernel_rfl
def clearwayref02_block.T11 : Bool × List (List Nat × List Nat) := (true, [([], []), ([], []), ([], []), ([2], [2]), ([1, 3], [1, 3]), ([4], [4]), ([], []), ([5, 6], [5, 6]), ([], []), ([], []), ([9], [9]), ([8, 10], [8, 10]), ([11], [11]), ([7, 12], [7, 12]), ([], []), ([13, 14], [13, 14]), ([15], [15]), ([0, 16], [0, 16]), ([17, 17, 0, 1, 2, 3, 4, 5, 6, 7, 8, 9, 10, 11, 12, 13, 14, 15, 16, 17], [0, 1, 8, 17])])
def clearwayref02_block.B11 : List Nat := [0, 0, 0, 4, 14, 30, 0, 126, 0, 0, 512, 1792, 3840, 8190, 0, 32766, 65534, 131071, 262143]
theorem clearwayref02_block.tab11 : rtab .any (opsOf Tryz.f59 11) = clearwayref02_block.T11 := by kernel_rfl
theorem clearwayref02_block.bits11 : waitsOk clearwayref02_block.T11.2 clearwayref02_block.B11 = true := by kernel_rfl
def clearwayref02_block.T20 : Bool × List (List Nat × List Nat) := (true, [([], []), ([0], [0]), ([1], [1]), ([], []), ([3], [3]), ([], []), ([5, 4], [5]), ([4, 6], [4, 6]), ([], []), ([8, 6], [8]), ([7, 9], [7, 9]), ([2, 10], [2, 10]), ([], []), ([], []), ([13], [13]), ([14], [14]), ([12, 15], [12, 15]), ([], []), ([17], [17]), ([], []), ([19], [19]), ([20], [20]), ([18, 21], [18, 21]), ([16, 22], [16, 22]), ([11, 23], [11, 23]), ([], []), ([], []), ([25, 26], [25, 26]), ([27], [27]), ([24, 28], [24, 28]), ([], []), ([], []), ([30, 31], [30, 31]), ([32], [32]), ([29, 33], [29, 33]), ([34, 9, 0, 1, 2, 3, 4, 5, 6, 7, 8, 9, 10, 11, 12, 13, 14, 15, 16, 17, 18, 19, 20, 21, 22, 23, 24, 25, 26, 27, 28, 29, 30, 31, 32, 33, 34], [34])])
def clearwayref02_block.B20 : List Nat := [0, 1, 3, 0, 8, 0, 56, 120, 0, 376, 1016, 2047, 0, 0, 8192, 24576, 61440, 0, 131072, 0, 524288, 1572864, 4063232, 8384512, 16777215, 0, 0, 100663296, 234881024, 536870911, 0, 0, 3221225472, 7516192768, 17179869183, 34359738367]
theorem clearwayref02_block.tab20 : rtab .any (opsOf Tryz.f59 20) = clearwayref02_block.T20 := by kernel_rfl
theorem clearwayref02_block.bits20 : waitsOk clearwayref02_block.T20.2 clearwayref02_block.B20 = true := by kernel_rfl
def clearwayref02_block.T21 : Bool × List (List Nat × List Nat) := (true, [([], []), ([0], [0]), ([], []), ([2, 1], [2]), ([1, 3], [1, 3]), ([], []), ([5, 3], [5]), ([4, 6], [4, 6]), ([], []), ([], []), ([9], [9]), ([10], [10]), ([8, 11], [8, 11]), ([], []), ([], []), ([14], [14]), ([15], [15]), ([13, 16], [13, 16]), ([12, 17], [12, 17]), ([], []), ([19], [19]), ([20], [20]), ([], []), ([22], [22]), ([23], [23]), ([21, 24], [21, 24]), ([18, 25], [18, 25]), ([7, 26], [7, 26]), ([27, 6, 0, 1, 2, 3, 4, 5, 6, 7, 8, 9, 10, 11, 12, 13, 14, 15, 16, 17, 18, 19, 20, 21, 22, 23, 24, 25, 26, 27], [27])])
def clearwayref02_block.B21 : List Nat := [0, 1, 0, 7, 15, 0, 47, 127, 0, 0, 512, 1536, 3840, 0, 0, 16384, 49152, 122880, 261888, 0, 524288, 1572864, 0, 4194304, 12582912, 33030144, 67108608, 134217727, 268435455]
theorem clearwayref02_block.tab21 : rtab .any (opsOf Tryz.f59 21) = clearwayref02_block.T21 := by kernel_rfl
theorem clearwayref02_block.bits21 : waitsOk clearwayref02_block.T21.2 clearwayref02_block.B21 = true := by kernel_rfl
def clearwayref02_block.T22 : Bool × List (List Nat × List Nat) := (true, [([], []), ([], []), ([0, 1], [0, 1]), ([], []), ([], []), ([4], [4]), ([5], [5]), ([], []), ([7], [7]), ([8], [8]), ([], []), ([10], [10]), ([11], [11]), ([], []), ([12, 13], [12, 13]), ([], []), ([], []), ([16], [16]), ([17], [17]), ([], []), ([19], [19]), ([20], [20]), ([2, 3, 6, 9, 14, 15, 18, 21], [2, 3, 6, 9, 14, 15, 18, 21]), ([22, 0, 1, 2, 3, 4, 5, 6, 7, 8, 9, 10, 11, 12, 13, 14, 15, 16, 17, 18, 19, 20, 21, 22], [4, 7, 10, 16, 19, 22])])
def clearwayref02_block.B22 : List Nat := [0, 0, 3, 0, 0, 16, 48, 0, 128, 384, 0, 1024, 3072, 0, 15360, 0, 0, 65536, 196608, 0, 524288, 1572864, 4194303, 8388607]
theorem clearwayref02_block.tab22 : rtab .any (opsOf Tryz.f59 22) = clearwayref02_block.T22 := by kernel_rfl
theorem clearwayref02_block.bits22 : waitsOk clearwayref02_block.T22.2 clearwayref02_block.B22 = true := by kernel_rfl
def clearwayref02_block.T27 : Bool × List (List Nat × List Nat) := (true, [([], []), ([], []), ([], []), ([1, 2], [1, 2]), ([3], [3]), ([], []), ([], []), ([5, 6], [5, 6]), ([7], [7]), ([4, 8], [4, 8]), ([9], [9]), ([0, 10], [0, 10]), ([11, 11, 0, 1, 2, 3, 4, 5, 6, 7, 8, 9, 10, 11], [0, 11])])
def clearwayref02_block.B27 : List Nat := [0, 0, 0, 6, 14, 0, 0, 96, 224, 510, 1022, 2047, 4095]
theorem clearwayref02_block.tab27 : rtab .any (opsOf Tryz.f59 27) = clearwayref02_block.T27 := by kernel_rfl
theorem clearwayref02_block.bits27 : waitsOk clearwayref02_block.T27.2 clearwayref02_block.B27 = true := by kernel_rfl
set_option maxHeartbeats 8000000 in
set_option maxRecDepth 100000 in
theorem clearwayref02_block.calls (k : Nat) (A0 : Option Addr) (c0 : Nat) (l0 : List Int) (A1 : Option Addr) (c1 : Nat) (l1 : List Int) (r : List Int) (w : World) (hr0 : Kd.C (Kd.int .u32) w A0 l0.length l0) (hc0 : l0.length ≤ c0) (hr1 : Kd.C (Kd.int .u8) w A1 l1.length l1) (hc1 : l1.length ≤ c1) (h : clearwayref02_block.f k l0 l1 = some r) :
  Calls Tryz.prog 59 #[.slice A0 l0.length c0, .slice A1 l1.length c1] w fun e w' => ∃ v0_ : Value, e = .returned (v0_) ∧ Kd.R (Kd.int .u32) 109 w' w.heap.size (fun _ => True) v0_ r ∧ Below w.heap.size w w' := by
 have HR0 := Aside0.mk hr0
 have HC0 := Aside0.mk hc0
 clear hr0 hc0
 have HR1 := Aside0.mk hr1
 have HC1 := Aside0.mk hc1
 clear hr1 hc1
 have HB := Aside0.mk (Below.refl w.heap.size w)
 have H : (clearwayref02_block.l0 k l0 l1 ([] : List Int) 0) = some r := h
 clear h
 have H' := Aside0.mk H
 clear H
 go_enter Tryz.func59, Tryz.ntmps59
 go_wp2
 go_loopg [5, 6] k (fun kq v5 v6 w' => ∃ (x5_1 : List Int) (x6_1 : Int), v6 = .int .i64 x6_1 ∧ Aside0 (clearwayref02_block.l0 kq l0 l1 x5_1 x6_1 = some r) ∧ Aside0 (kq ≤ k) ∧ Aside0 (Kd.R (Kd.int .u32) 109 w' w.heap.size (fun _ => True) v5 x5_1) ∧ Aside0 (Below w.heap.size w w'))
 case atStart => exact ⟨(([] : List Int)), (0), (by first | rfl | (simp; done) | (simp [*]; done)), H', ⟨Nat.le_refl _⟩, ⟨by first | exact Kd.R_nil _ _ _ _ _ | exact Kd.N_nil _ _ _ _ _ | exact Kd.V_nil _ _ _ _ _ | exact Kd.Q_nil _ _ _ _ _ | exact Kd.S_nil _ _ _ _ _⟩, ⟨by repeat (first | (with_reducible first | exact HB.out | apply below_alloc | apply pw_below_drewN | apply below_drew1) | exact HB.out)⟩⟩
 case round =>
  clear H'
  try clear c1
  try clear p2
  obtain ⟨x5_1, x6_1, rfl, HA, HK1, HO_5, HB⟩ := hrel
  cases gk with
  | zero => exact absurd HA.out (by simp [clearwayref02_block.l0])
  | succ k1 =>
   have H := HA.out
   clear HA
   simp only [clearwayref02_block.l0] at H
   by_cases c3 : x6_1 < 16
   ·rw [if_pos c3] at H
    have c3b0 := decide_eq_true c3
    clear c3
    obtain ⟨ji4, hji4⟩ : ∃ j_ : Int, (wrap64 (4 * x6_1)) = j_ := ⟨_, rfl⟩
    replace H : (if 0 ≤ (ji4) then (if (ji4) < (l1.length : Int) then (if 0 ≤ (wrap64 ((ji4) + 1)) then (if (wrap64 ((ji4) + 1)) < (l1.length : Int) then (if 0 ≤ (wrap64 ((ji4) + 2)) then (if (wrap64 ((ji4) + 2)) < (l1.length : Int) then (if 0 ≤ (wrap64 ((ji4) + 3)) then (if (wrap64 ((ji4) + 3)) < (l1.length : Int) then (if x5_1.length < 35184372088832 then (clearwayref02_block.l0 k1 l0 l1 (x5_1 ++ [Go.bits .or .u32 (Go.bits .or .u32 (Go.bits .or .u32 ((((rd l1 (ji4)) % 4294967296) * 16777216) % 4294967296) ((((rd l1 (wrap64 ((ji4) + 1))) % 4294967296) * 65536) % 4294967296)) ((((rd l1 (wrap64 ((ji4) + 2))) % 4294967296) * 256) % 4294967296)) ((rd l1 (wrap64 ((ji4) + 3))) % 4294967296)]) (wrap64 (x6_1 + 1))) else (none)) else (none)) else (none)) else (none)) else (none)) else (none)) else (none)) else (none)) else (none)) = some r := by first | (rw [hji4] at H; exact H) | (simp only [hji4] at H ⊢; exact H)
    have hji4w : (IntKind.i64.wrap (4 * x6_1)) = ji4 := (i64_w _).trans hji4
    by_cases c5 : 0 ≤ (ji4)
    ·rw [if_pos c5] at H
     have c5b0 := decide_eq_true c5
     clear c5
     by_cases c6 : (ji4) < (l1.length : Int)
     ·rw [if_pos c6] at H
      have c6b0 := decide_eq_true c6
      clear c6
      obtain ⟨ji7, hji7⟩ : ∃ j_ : Int, (wrap64 ((ji4) + 1)) = j_ := ⟨_, rfl⟩
      replace H : (if 0 ≤ (ji7) then (if (ji7) < (l1.length : Int) then (if 0 ≤ (wrap64 ((ji4) + 2)) then (if (wrap64 ((ji4) + 2)) < (l1.length : Int) then (if 0 ≤ (wrap64 ((ji4) + 3)) then (if (wrap64 ((ji4) + 3)) < (l1.length : Int) then (if x5_1.length < 35184372088832 then (clearwayref02_block.l0 k1 l0 l1 (x5_1 ++ [Go.bits .or .u32 (Go.bits .or .u32 (Go.bits .or .u32 ((((rd l1 (ji4)) % 4294967296) * 16777216) % 4294967296) ((((rd l1 (ji7)) % 4294967296) * 65536) % 4294967296)) ((((rd l1 (wrap64 ((ji4) + 2))) % 4294967296) * 256) % 4294967296)) ((rd l1 (wrap64 ((ji4) + 3))) % 4294967296)]) (wrap64 (x6_1 + 1))) else (none)) else (none)) else (none)) else (none)) else (none)) else (none)) else (none)) = some r := by first | (rw [hji7] at H; exact H) | (simp only [hji7] at H ⊢; exact H)
      have hji7w : (IntKind.i64.wrap ((ji4) + 1)) = ji7 := (i64_w _).trans hji7
      by_cases c8 : 0 ≤ (ji7)
      ·rw [if_pos c8] at H
       have c8b0 := decide_eq_true c8
       clear c8
       by_cases c9 : (ji7) < (l1.length : Int)
       ·rw [if_pos c9] at H
        have c9b0 := decide_eq_true c9
        clear c9
        obtain ⟨ji10, hji10⟩ : ∃ j_ : Int, (wrap64 ((ji4) + 2)) = j_ := ⟨_, rfl⟩
        replace H : (if 0 ≤ (ji10) then (if (ji10) < (l1.length : Int) then (if 0 ≤ (wrap64 ((ji4) + 3)) then (if (wrap64 ((ji4) + 3)) < (l1.length : Int) then (if x5_1.length < 35184372088832 then (clearwayref02_block.l0 k1 l0 l1 (x5_1 ++ [Go.bits .or .u32 (Go.bits .or .u32 (Go.bits .or .u32 ((((rd l1 (ji4)) % 4294967296) * 16777216) % 4294967296) ((((rd l1 (ji7)) % 4294967296) * 65536) % 4294967296)) ((((rd l1 (ji10)) % 4294967296) * 256) % 4294967296)) ((rd l1 (wrap64 ((ji4) + 3))) % 4294967296)]) (wrap64 (x6_1 + 1))) else (none)) else (none)) else (none)) else (none)) else (none)) = some r := by first | (rw [hji10] at H; exact H) | (simp only [hji10] at H ⊢; exact H)
        have hji10w : (IntKind.i64.wrap ((ji4) + 2)) = ji10 := (i64_w _).trans hji10
        by_cases c11 : 0 ≤ (ji10)
        ·rw [if_pos c11] at H
         have c11b0 := decide_eq_true c11
         clear c11
         by_cases c12 : (ji10) < (l1.length : Int)
         ·rw [if_pos c12] at H
          have c12b0 := decide_eq_true c12
          clear c12
          obtain ⟨ji13, hji13⟩ : ∃ j_ : Int, (wrap64 ((ji4) + 3)) = j_ := ⟨_, rfl⟩
          replace H : (if 0 ≤ (ji13) then (if (ji13) < (l1.length : Int) then (if x5_1.length < 35184372088832 then (clearwayref02_block.l0 k1 l0 l1 (x5_1 ++ [Go.bits .or .u32 (Go.bits .or .u32 (Go.bits .or .u32 ((((rd l1 (ji4)) % 4294967296) * 16777216) % 4294967296) ((((rd l1 (ji7)) % 4294967296) * 65536) % 4294967296)) ((((rd l1 (ji10)) % 4294967296) * 256) % 4294967296)) ((rd l1 (ji13)) % 4294967296)]) (wrap64 (x6_1 + 1))) else (none)) else (none)) else (none)) = some r := by first | (rw [hji13] at H; exact H) | (simp only [hji13] at H ⊢; exact H)
          have hji13w : (IntKind.i64.wrap ((ji4) + 3)) = ji13 := (i64_w _).trans hji13
          by_cases c14 : 0 ≤ (ji13)
          ·rw [if_pos c14] at H
           have c14b0 := decide_eq_true c14
           clear c14
           by_cases c15 : (ji13) < (l1.length : Int)
           ·rw [if_pos c15] at H
            have c15b0 := decide_eq_true c15
            clear c15
            by_cases c16 : x5_1.length < 35184372088832
            ·rw [if_pos c16] at H
             have LMc16 := Aside0.mk c16
             clear c16
             obtain ⟨y120, hy120⟩ : ∃ y_ : List Int, y_ = (x5_1 ++ [Go.bits .or .u32 (Go.bits .or .u32 (Go.bits .or .u32 ((((rd l1 (ji4)) % 4294967296) * 16777216) % 4294967296) ((((rd l1 (ji7)) % 4294967296) * 65536) % 4294967296)) ((((rd l1 (ji10)) % 4294967296) * 256) % 4294967296)) ((rd l1 (ji13)) % 4294967296)]) := ⟨_, rfl⟩
             replace H : (clearwayref02_block.l0 k1 l0 l1 y120 (wrap64 (x6_1 + 1))) = some r := by first | (rw [hy120]; with_reducible exact H) | (have H2_ := (Option.bind_some _ _).symm.trans H; rw [hy120]; with_reducible exact H2_) | (have H2_ := (Option.bind_some _ _).symm.trans H; with_reducible exact H2_) | with_reducible exact H | (rw [hy120]; exact H) | exact H
             have Ny120 := Aside0.mk hy120
             clear hy120
             have H' := Aside0.mk H
             clear H
             try go_wp2
             have n0_ := Aside0.mk (Kd.R_drew HO_5.out)
             have n1_ := Aside0.mk (below_drew1 HB.out)
             clear HO_5
             clear HB
             have HO_5 := n0_
             have HB := n1_
             clear n0_ n1_
             have p116 : 0 ≤ ((ji4) : Int) := of_decide_eq_true (by first | (with_reducible assumption) | assumption)
             have q116 : (ji4) < (l1.length : Int) := of_decide_eq_true (by first | (with_reducible assumption) | assumption)
             obtain ⟨ad116, e116, hx116_0⟩ := Kd.at_int HR1.out (ji4) p116 q116
             have hw116_0 := hx116_0
             cases e116
             replace hx116_0 := (HB.out.cell (World.block_lt_of_cell? w _ hx116_0)).trans hx116_0
             replace p116 := eq_true p116
             replace q116 := eq_true q116
             have p117 : 0 ≤ ((ji7) : Int) := of_decide_eq_true (by first | (with_reducible assumption) | assumption)
             have q117 : (ji7) < (l1.length : Int) := of_decide_eq_true (by first | (with_reducible assumption) | assumption)
             obtain ⟨ad117, e117, hx117_0⟩ := Kd.at_int HR1.out (ji7) p117 q117
             have hw117_0 := hx117_0
             obtain rfl : ad116 = ad117 := (by injection e117)
             replace hx117_0 := (HB.out.cell (World.block_lt_of_cell? w _ hx117_0)).trans hx117_0
             replace p117 := eq_true p117
             replace q117 := eq_true q117
             have p118 : 0 ≤ ((ji10) : Int) := of_decide_eq_true (by first | (with_reducible assumption) | assumption)
             have q118 : (ji10) < (l1.length : Int) := of_decide_eq_true (by first | (with_reducible assumption) | assumption)
             obtain ⟨ad118, e118, hx118_0⟩ := Kd.at_int HR1.out (ji10) p118 q118
             have hw118_0 := hx118_0
             obtain rfl : ad116 = ad118 := (by injection e118)
             replace hx118_0 := (HB.out.cell (World.block_lt_of_cell? w _ hx118_0)).trans hx118_0
             replace p118 := eq_true p118
             replace q118 := eq_true q118
             have p119 : 0 ≤ ((ji13) : Int) := of_decide_eq_true (by first | (with_reducible assumption) | assumption)
             have q119 : (ji13) < (l1.length : Int) := of_decide_eq_true (by first | (with_reducible assumption) | assumption)
             obtain ⟨ad119, e119, hx119_0⟩ := Kd.at_int HR1.out (ji13) p119 q119
             have hw119_0 := hx119_0
             obtain rfl : ad116 = ad119 := (by injection e119)
             replace hx119_0 := (HB.out.cell (World.block_lt_of_cell? w _ hx119_0)).trans hx119_0
             replace p119 := eq_true p119
             replace q119 := eq_true q119
             refine start_ (n := 37) (S := fun w' => w'.cell? (ad116.add ((ji4)).toNat) = some (.int .u8 (rd l1 (ji4))) ∧ w'.cell? (ad116.add ((ji7)).toNat) = some (.int .u8 (rd l1 (ji7))) ∧ w'.cell? (ad116.add ((ji10)).toNat) = some (.int .u8 (rd l1 (ji10))) ∧ w'.cell? (ad116.add ((ji13)).toNat) = some (.int .u8 (rd l1 (ji13)))) (ds := []) (Sx14.b 37 0) (by kernel_rfl) rfl rfl ⟨((HB.out.cell (World.block_lt_of_cell? w _ hw116_0)).trans hw116_0), ((HB.out.cell (World.block_lt_of_cell? w _ hw117_0)).trans hw117_0), ((HB.out.cell (World.block_lt_of_cell? w _ hw118_0)).trans hw118_0), ((HB.out.cell (World.block_lt_of_cell? w _ hw119_0)).trans hw119_0)⟩ (fun hHeld => ?_); refine with_tabW clearwayref02_block.tab5 clearwayref02_block.bits5 (fun HT_ HW_ => ?_)
             generalize wr.drew = w17 at HO_5 HB hx116_0 hx117_0 hx118_0 hx119_0 hHeld ⊢
             refine Sx14.p (i := 0) (N := some 23) HT_.out (Sx14.b 37 1) ?_
             refine Sx14.p (i := 1) (N := some 24) HT_.out (Sx14.b 37 3) ?_
             refine Sx14.p (i := 2) (N := some 25) HT_.out (Sx14.b 37 7) ?_
             refine Sx14.p (i := 3) (N := some 26) HT_.out (Sx14.b 37 15) ?_
             refine Sx14.p (i := 4) (N := some 27) HT_.out (Sx14.b 37 31) ?_
             refine Sx14.p (i := 8) (N := some 31) HT_.out (Sx14.b 37 287) ?_
             refine Sx14.p (i := 9) (N := some 32) HT_.out (Sx14.b 37 799) ?_
             refine Sx14.p (i := 10) (N := some 33) HT_.out (Sx14.b 37 1823) ?_
             refine Sx14.p (i := 11) (N := some 34) HT_.out (Sx14.b 37 3871) ?_
             refine Sx14.p (i := 12) (N := some 35) HT_.out (Sx14.b 37 7967) ?_
             refine Sx14.p (i := 17) (N := some 40) HT_.out (Sx14.b 37 139039) ?_
             refine Sx14.p (i := 18) (N := some 41) HT_.out (Sx14.b 37 401183) ?_
             refine Sx14.p (i := 19) (N := some 42) HT_.out (Sx14.b 37 925471) ?_
             refine Sx14.p (i := 20) (N := some 43) HT_.out (Sx14.b 37 1974047) ?_
             refine Sx14.p (i := 21) (N := some 44) HT_.out (Sx14.b 37 4071199) ?_
             refine Sx14.p (i := 26) (N := some 49) HT_.out (Sx14.b 37 71180063) ?_
             refine Sx14.p (i := 27) (N := some 50) HT_.out (Sx14.b 37 205397791) ?_
             refine Sx14.p (i := 28) (N := some 51) HT_.out (Sx14.b 37 473833247) ?_
             refine Sx14.p (i := 29) (N := some 52) HT_.out (Sx14.b 37 1010704159) ?_
             refine Sx14.p (i := 30) (N := some 53) HT_.out (Sx14.b 37 2084445983) ?_
             refine take_ (i := 5) (N := some 28) (v := ?_) (a' := ?_) (Sx14.b 37 2084446015) rfl rfl (take_ofW HT_.out HW_.out (by kernel_rfl)) (fun _ _ _ h => h) (Or.inl ⟨by rfl, ?_⟩) hHeld ?_ ?_
             rotate_left
             ·rintro w' ⟨s0, s1, s2, s3⟩
              go_simp
              with_reducible rfl
             rotate_left
             ·simp only [Act.put, Sx14.u, Sx14.v, Sx14.w, i64_w, i32_w]
              rfl
             refine Sx14.p (i := 6) (N := some 29) HT_.out (Sx14.b 37 2084446079) ?_
             refine Sx14.p (i := 7) (N := some 30) HT_.out (Sx14.b 37 2084446207) ?_
             refine take_ (i := 13) (N := some 36) (v := ?_) (a' := ?_) (Sx14.b 37 2084454399) rfl rfl (take_ofW HT_.out HW_.out (by kernel_rfl)) (fun _ _ _ h => h) (Or.inl ⟨by rfl, ?_⟩) hHeld ?_ ?_
             rotate_left
             ·rintro w' ⟨s0, s1, s2, s3⟩
              go_simp
              with_reducible rfl
             rotate_left
             ·simp only [Act.put, Sx14.u, Sx14.v, Sx14.w, i64_w, i32_w]
              rfl
             refine Sx14.p (i := 14) (N := some 37) HT_.out (Sx14.b 37 2084470783) ?_
             refine Sx14.p (i := 15) (N := some 38) HT_.out (Sx14.b 37 2084503551) ?_
             refine Sx14.p (i := 16) (N := some 39) HT_.out (Sx14.b 37 2084569087) ?_
             refine take_ (i := 22) (N := some 45) (v := ?_) (a' := ?_) (Sx14.b 37 2088763391) rfl rfl (take_ofW HT_.out HW_.out (by kernel_rfl)) (fun _ _ _ h => h) (Or.inl ⟨by rfl, ?_⟩) hHeld ?_ ?_
             rotate_left
             ·rintro w' ⟨s0, s1, s2, s3⟩
              go_simp
              with_reducible rfl
             rotate_left
             ·simp only [Act.put, Sx14.u, Sx14.v, Sx14.w, i64_w, i32_w]
              rfl
             refine Sx14.p (i := 23) (N := some 46) HT_.out (Sx14.b 37 2097151999) ?_
             refine Sx14.p (i := 24) (N := some 47) HT_.out (Sx14.b 37 2113929215) ?_
             refine Sx14.p (i := 25) (N := some 48) HT_.out (Sx14.b 37 2147483647) ?_
             refine take_ (i := 31) (N := some 54) (v := ?_) (a' := ?_) (Sx14.b 37 4294967295) rfl rfl (take_ofW HT_.out HW_.out (by kernel_rfl)) (fun _ _ _ h => h) (Or.inl ⟨by rfl, ?_⟩) hHeld ?_ ?_
             rotate_left
             ·rintro w' ⟨s0, s1, s2, s3⟩
              go_simp
              with_reducible rfl
             rotate_left
             ·simp only [Act.put, Sx14.u, Sx14.v, Sx14.w, i64_w, i32_w]
              rfl
             refine Sx14.p (i := 32) (N := some 55) HT_.out (Sx14.b 37 8589934591) ?_
             refine Sx14.p (i := 33) (N := some 56) HT_.out (Sx14.b 37 17179869183) ?_
             refine one_ (i := 34) (N := some 57) (Sx14.b 37 34359738367) rfl rfl (one_of HT_.out (by kernel_rfl)) (by decide) (fun K hK => ?_)
             refine value_ (w1 := ?_) (v := ?_) (by rfl) rfl ?_ ?_
             rotate_left 2
             ·go_simp
              constructor
              ·rfl
              ·rfl
             refine hK.out _ _ ⟨(World.cell?_alloc_lt _ _ _ (World.block_lt_of_cell? _ _ (((HB.out.cell (World.block_lt_of_cell? w _ hw116_0)).trans hw116_0)))).trans (((HB.out.cell (World.block_lt_of_cell? w _ hw116_0)).trans hw116_0)), (World.cell?_alloc_lt _ _ _ (World.block_lt_of_cell? _ _ (((HB.out.cell (World.block_lt_of_cell? w _ hw117_0)).trans hw117_0)))).trans (((HB.out.cell (World.block_lt_of_cell? w _ hw117_0)).trans hw117_0)), (World.cell?_alloc_lt _ _ _ (World.block_lt_of_cell? _ _ (((HB.out.cell (World.block_lt_of_cell? w _ hw118_0)).trans hw118_0)))).trans (((HB.out.cell (World.block_lt_of_cell? w _ hw118_0)).trans hw118_0)), (World.cell?_alloc_lt _ _ _ (World.block_lt_of_cell? _ _ (((HB.out.cell (World.block_lt_of_cell? w _ hw119_0)).trans hw119_0)))).trans (((HB.out.cell (World.block_lt_of_cell? w _ hw119_0)).trans hw119_0))⟩ (fun hHeld => ?_)
             clear hK K
             refine norm_ (a' := ?_) ?_ ?_
             rotate_left
             ·show Act.put _ (some 57) _ = _
              simp only [Act.put, Sx14.u, Sx14.v, Sx14.w, i64_w, i32_w]
              rfl
             refine one_ (i := 35) (N := some 58) (Sx14.b 37 68719476735) rfl rfl (one_of HT_.out (by kernel_rfl)) (by decide) (fun K hK => ?_)
             refine Kd.R_append_step (Kd.int .u32) (w0 := w) w.heap.size (by rfl) (.tmp 23) (.tmp 57) 110 109 (.int .u32 0) 4 rfl Tryz.underlying110 info109 rfl (by decide) (by omega) u5 x5_1 (Go.bits .or .u32 (Go.bits .or .u32 (Go.bits .or .u32 ((((rd l1 (ji4)) % 4294967296) * 16777216) % 4294967296) ((((rd l1 (ji7)) % 4294967296) * 65536) % 4294967296)) ((((rd l1 (ji10)) % 4294967296) * 256) % 4294967296)) ((rd l1 (ji13)) % 4294967296)) [.int .u32 (Go.bits .or .u32 (Go.bits .or .u32 (Go.bits .or .u32 ((((rd l1 (ji4)) % 4294967296) * 16777216) % 4294967296) ((((rd l1 (ji7)) % 4294967296) * 65536) % 4294967296)) ((((rd l1 (ji10)) % 4294967296) * 256) % 4294967296)) ((rd l1 (ji13)) % 4294967296))] (fun _ => True) (fun _ => False) rfl rfl ?aP (fun _ hk => hk.elim) ?aF ?aO ?aB ?aS ?aL ?_
             (case aP => exact rfl)
             (case aB => exact (by repeat (first | (with_reducible first | exact HB.out | apply below_alloc | apply pw_below_drewN | apply below_drew1) | exact HB.out)))
             (case aF => exact (fun _ _ => trivial))
             (case aO => exact (by (with_reducible repeat (first | apply Kd.R_alloc | apply Kd.R_drewN | apply Kd.R_drew)); exact HO_5.out))
             (case aS => exact (below_size (by repeat (first | (with_reducible first | exact HB.out | apply below_alloc | apply pw_below_drewN | apply below_drew1) | exact HB.out))))
             (case aL => have := LMc16.out; omega)
             intro v121 w18 ho hb hg hat
             rw [← Ny120.out] at ho
             have n0_ := Aside0.mk (hb)
             have n1_ := Aside0.mk (ho)
             clear HB
             clear HO_5
             have HB := n0_
             have HO122 := n1_
             clear n0_ n1_
             clear ho hb hg hat
             refine hK.out _ _ ⟨((HB.out.cell (World.block_lt_of_cell? w _ hw116_0)).trans hw116_0), ((HB.out.cell (World.block_lt_of_cell? w _ hw117_0)).trans hw117_0), ((HB.out.cell (World.block_lt_of_cell? w _ hw118_0)).trans hw118_0), ((HB.out.cell (World.block_lt_of_cell? w _ hw119_0)).trans hw119_0)⟩ (fun hHeld => ?_)
             clear hK K
             refine norm_ (a' := ?_) ?_ ?_
             rotate_left
             ·show Act.put _ (some 58) _ = _
              simp only [Act.put, Sx14.u, Sx14.v, Sx14.w, i64_w, i32_w]
              rfl
             refine Sx14.p (i := 36) (N := some 5) HT_.out (Sx14.b 37 137438953471) ?_
             refine done_ (done_of HT_.out (by kernel_rfl)) ?_
             try go_wp2
             go_roundg k1
             case measure => have := HK1.out; omega
             case rel => exact ⟨(y120), (wrap64 (x6_1 + 1)), (by first | rfl | (simp; done) | (simp [*]; done)), H', ⟨by have := HK1.out; omega⟩, ⟨by (with_reducible repeat (first | apply Kd.R_alloc | apply Kd.R_drewN | apply Kd.R_drew)); exact HO122.out⟩, ⟨by repeat (first | (with_reducible first | exact HB.out | apply below_alloc | apply pw_below_drewN | apply below_drew1) | exact HB.out)⟩⟩
            ·rw [if_neg c16] at H
             exact absurd H (by simp)
           ·rw [if_neg c15] at H
            exact absurd H (by simp)
          ·rw [if_neg c14] at H
           exact absurd H (by simp)
         ·rw [if_neg c12] at H
          exact absurd H (by simp)
        ·rw [if_neg c11] at H
         exact absurd H (by simp)
       ·rw [if_neg c9] at H
        exact absurd H (by simp)
      ·rw [if_neg c8] at H
       exact absurd H (by simp)
     ·rw [if_neg c6] at H
      exact absurd H (by simp)
    ·rw [if_neg c5] at H
     exact absurd H (by simp)
   ·rw [if_neg c3] at H
    have c3b0 := decide_eq_false c3
    clear c3
    have H' := Aside0.mk H
    clear H
    go_wp2
    go_loopg [5, 7] k1 (fun kq v5 v7 w' => ∃ (x5_2 : List Int) (x7_2 : Int), v7 = .int .i64 x7_2 ∧ Aside0 (clearwayref02_block.l1 kq l0 x5_2 x7_2 = some r) ∧ Aside0 (kq ≤ k1) ∧ Aside0 (Kd.R (Kd.int .u32) 109 w' w.heap.size (fun _ => True) v5 x5_2) ∧ Aside0 (Below w.heap.size w w'))
    case atStart => exact ⟨(x5_1), (16), (by first | rfl | (simp; done) | (simp [*]; done)), H', ⟨Nat.le_refl _⟩, ⟨by (with_reducible repeat (first | apply Kd.R_alloc | apply Kd.R_drewN | apply Kd.R_drew)); exact HO_5.out⟩, ⟨by repeat (first | (with_reducible first | exact HB.out | apply below_alloc | apply pw_below_drewN | apply below_drew1) | exact HB.out)⟩⟩
    case round =>
     clear H'
     try clear c1
     try clear p1
     try clear q1
     try clear hx1
     try clear p2
     try clear c3
     try clear c3b0
     try clear c5
     try clear c5b0
     try clear c6
     try clear c6b0
     try clear p6
     try clear c8
     try clear c8b0
     try clear c9
     try clear c9b0
     try clear c11
     try clear c11b0
     try clear p11
     try clear q11
     try clear hx11
     try clear c12
     try clear c12b0
     try clear c14
     try clear c14b0
     try clear c15
     try clear c15b0
     try clear c16
     try clear hx116_0
     try clear hx117_0
     try clear hx118_0
     try clear hx119_0
     try clear p116
     try clear p117
     try clear p118
     try clear p119
     try clear p2
     try clear q116
     try clear q117
     try clear q118
     try clear q119
     obtain ⟨x5_2, x7_2, rfl, HA, HK2, HO_5, HB⟩ := hrel
     cases gk with
     | zero => exact absurd HA.out (by simp [clearwayref02_block.l1])
     | succ k2 =>
      have H := HA.out
      clear HA
      simp only [clearwayref02_block.l1] at H
      by_cases c19 : x7_2 < 64
      ·rw [if_pos c19] at H
       have c19b0 := decide_eq_true c19
       clear c19
       have HC20 := Aside0.mk H
       clear H
       go_upto_region 9 with (fail)
       go_cut [8] (fun v8 wc => ∃ (kq : Nat) (x8_19 : Int), v8 = .int .u32 x8_19 ∧ Aside0 (clearwayref02_block.j2 kq l0 x5_2 x7_2 x8_19 = some r) ∧ Aside0 (kq ≤ k2) ∧ Aside0 (Kd.R (Kd.int .u32) 109 wc w.heap.size (fun _ => True) u5 x5_2) ∧ Aside0 (Below w.heap.size w wc))
       case first =>
        have H := HC20.out
        clear HC20
        obtain ⟨ji21, hji21⟩ : ∃ j_ : Int, (wrap64 (x7_2 - 15)) = j_ := ⟨_, rfl⟩
        replace H : (if 0 ≤ (ji21) then (if (ji21) < (x5_2.length : Int) then ((clearwayref02_rotated.f (rd x5_2 (ji21)) 7).bind fun t124 => ((clearwayref02_rotated.f (rd x5_2 (ji21)) 18).bind fun t126 => (clearwayref02_block.j2 k2 l0 x5_2 x7_2 (Go.bits .xor .u32 (Go.bits .xor .u32 t124 t126) ((rd x5_2 (ji21)) / 8))))) else (none)) else (none)) = some r := by first | (rw [hji21] at H; exact H) | (simp only [hji21] at H ⊢; exact H)
        have hji21w : (IntKind.i64.wrap (x7_2 - 15)) = ji21 := (i64_w _).trans hji21
        by_cases c22 : 0 ≤ (ji21)
        ·rw [if_pos c22] at H
         have c22b0 := decide_eq_true c22
         clear c22
         (first | rw [c22b0] | (simp only [i64_w, i32_w]; rw [c22b0]) | skip)
         by_cases c23 : (ji21) < (x5_2.length : Int)
         ·rw [if_pos c23] at H
          have c23b0 := decide_eq_true c23
          clear c23
          replace H := Option.bind_eq_some_iff.mp H
          obtain ⟨t124, A240, H⟩ := H
          replace H : ((clearwayref02_rotated.f (rd x5_2 (ji21)) 18).bind fun t126 => (clearwayref02_block.j2 k2 l0 x5_2 x7_2 (Go.bits .xor .u32 (Go.bits .xor .u32 t124 t126) ((rd x5_2 (ji21)) / 8)))) = some r := H
          have A24 := Aside0.mk A240
          clear A240
          replace H := Option.bind_eq_some_iff.mp H
          obtain ⟨t126, A250, H⟩ := H
          replace H : (clearwayref02_block.j2 k2 l0 x5_2 x7_2 (Go.bits .xor .u32 (Go.bits .xor .u32 t124 t126) ((rd x5_2 (ji21)) / 8))) = some r := H
          have A25 := Aside0.mk A250
          clear A250
          have H' := Aside0.mk H
          clear H
          try go_wp2
          have n0_ := Aside0.mk (Kd.R_drew HO_5.out)
          have n1_ := Aside0.mk (below_drew1 HB.out)
          clear HO_5
          clear HB
          have HO_5 := n0_
          have HB := n1_
          clear n0_ n1_
          obtain ⟨Ao27, co27, eo27⟩ := Kd.R_slice HO_5.out
          (first | subst eo27 | (injection eo27 with f1_ f2_ f3_; have f4_ := f1_.symm; have f5_ := f3_.symm; clear f1_ f2_ f3_; subst f4_; subst f5_))
          have p123 : 0 ≤ ((ji21) : Int) := of_decide_eq_true (by first | (with_reducible assumption) | assumption)
          have q123 : (ji21) < (x5_2.length : Int) := of_decide_eq_true (by first | (with_reducible assumption) | assumption)
          obtain ⟨ad123, e123, hx123_0⟩ := Kd.at_int (Kd.R_reads' HO_5.out).2.2 (ji21) p123 q123
          cases e123
          replace p123 := eq_true p123
          replace q123 := eq_true q123
          have p125 : 0 ≤ ((ji21) : Int) := of_decide_eq_true (by first | (with_reducible assumption) | assumption)
          have q125 : (ji21) < (x5_2.length : Int) := of_decide_eq_true (by first | (with_reducible assumption) | assumption)
          obtain ⟨ad125, e125, hx125_0⟩ := Kd.at_int (Kd.R_reads' HO_5.out).2.2 (ji21) p125 q125
          obtain rfl : ad123 = ad125 := (by injection e125)
          replace p125 := eq_true p125
          replace q125 := eq_true q125
          have p127 : 0 ≤ ((ji21) : Int) := of_decide_eq_true (by first | (with_reducible assumption) | assumption)
          have q127 : (ji21) < (x5_2.length : Int) := of_decide_eq_true (by first | (with_reducible assumption) | assumption)
          obtain ⟨ad127, e127, hx127_0⟩ := Kd.at_int (Kd.R_reads' HO_5.out).2.2 (ji21) p127 q127
          obtain rfl : ad123 = ad127 := (by injection e127)
          replace p127 := eq_true p127
          replace q127 := eq_true q127
          refine start_ (n := 21) (S := fun w' => w'.cell? (ad123.add ((ji21)).toNat) = some (.int .u32 (rd x5_2 (ji21))) ∧ w'.cell? (ad123.add ((ji21)).toNat) = some (.int .u32 (rd x5_2 (ji21))) ∧ w'.cell? (ad123.add ((ji21)).toNat) = some (.int .u32 (rd x5_2 (ji21)))) (ds := []) (Sx14.b 21 0) (by kernel_rfl) rfl rfl ⟨hx123_0, hx125_0, hx127_0⟩ (fun hHeld => ?_); refine with_tabW clearwayref02_block.tab9 clearwayref02_block.bits9 (fun HT_ HW_ => ?_)
          generalize wr.drew = w26 at HO_5 HB hx123_0 hx125_0 hx127_0 hHeld ⊢
          refine Sx14.p (i := 0) (N := some 63) HT_.out (Sx14.b 21 1) ?_
          refine Sx14.p (i := 1) (N := some 64) HT_.out (Sx14.b 21 3) ?_
          refine Sx14.p (i := 2) (N := some 65) HT_.out (Sx14.b 21 7) ?_
          refine Sx14.p (i := 3) (N := some 66) HT_.out (Sx14.b 21 15) ?_
          refine Sx14.p (i := 6) (N := some 69) HT_.out (Sx14.b 21 79) ?_
          refine Sx14.p (i := 7) (N := some 70) HT_.out (Sx14.b 21 207) ?_
          refine Sx14.p (i := 8) (N := some 71) HT_.out (Sx14.b 21 463) ?_
          refine Sx14.p (i := 9) (N := some 72) HT_.out (Sx14.b 21 975) ?_
          refine Sx14.p (i := 13) (N := some 76) HT_.out (Sx14.b 21 9167) ?_
          refine Sx14.p (i := 14) (N := some 77) HT_.out (Sx14.b 21 25551) ?_
          refine Sx14.p (i := 15) (N := some 78) HT_.out (Sx14.b 21 58319) ?_
          refine Sx14.p (i := 16) (N := some 79) HT_.out (Sx14.b 21 123855) ?_
          refine take_ (i := 4) (N := some 67) (v := ?_) (a' := ?_) (Sx14.b 21 123871) rfl rfl (take_ofW HT_.out HW_.out (by kernel_rfl)) (fun _ _ _ h => h) (Or.inl ⟨by rfl, ?_⟩) hHeld ?_ ?_
          rotate_left
          ·rintro w' ⟨s0, s1, s2⟩
           go_simp
           with_reducible rfl
          rotate_left
          ·simp only [Act.put, Sx14.u, Sx14.v, Sx14.w, i64_w, i32_w]
           rfl
          refine take_ (i := 10) (N := some 73) (v := ?_) (a' := ?_) (Sx14.b 21 124895) rfl rfl (take_ofW HT_.out HW_.out (by kernel_rfl)) (fun _ _ _ h => h) (Or.inl ⟨by rfl, ?_⟩) hHeld ?_ ?_
          rotate_left
          ·rintro w' ⟨s0, s1, s2⟩
           go_simp
           with_reducible rfl
          rotate_left
          ·simp only [Act.put, Sx14.u, Sx14.v, Sx14.w, i64_w, i32_w]
           rfl
          refine take_ (i := 17) (N := some 80) (v := ?_) (a' := ?_) (Sx14.b 21 255967) rfl rfl (take_ofW HT_.out HW_.out (by kernel_rfl)) (fun _ _ _ h => h) (Or.inl ⟨by rfl, ?_⟩) hHeld ?_ ?_
          rotate_left
          ·rintro w' ⟨s0, s1, s2⟩
           go_simp
           with_reducible rfl
          rotate_left
          ·simp only [Act.put, Sx14.u, Sx14.v, Sx14.w, i64_w, i32_w]
           rfl
          refine Sx14.p (i := 18) (N := some 81) HT_.out (Sx14.b 21 518111) ?_
          refine one_ (i := 5) (N := some 68) (Sx14.b 21 518143) rfl rfl (one_of HT_.out (by kernel_rfl)) (by decide) (fun K hK => ?_)
          refine goes_ Tryz.func87 (by kernel_rfl) rfl #[.int .u32 (rd x5_2 (ji21)), .int .i64 7] (by rfl) rfl rfl (by (try simp only [List.map_toArray, List.map_cons, List.map_nil]); first | done | (simp only [hji21]; rfl) | rfl | (simp only [List.length_drop, List.length_take]; rfl)) ?_
          with_reducible refine (clearwayref02_rotated.calls (rd x5_2 (ji21)) 7 t124 _ A24.out).mono ?_
          rintro e w' ⟨rfl, ⟨nd, rfl⟩⟩
          refine ⟨_, rfl, ?_⟩
          refine hK.out _ _ ⟨hHeld.1, hHeld.2.1, hHeld.2.2⟩ (fun hHeld => ?_)
          clear hK K
          refine norm_ (a' := ?_) ?_ ?_
          rotate_left
          ·show Act.put _ (some 68) _ = _
           simp only [Act.put, Sx14.u, Sx14.v, Sx14.w, i64_w, i32_w]
           rfl
          refine one_ (i := 11) (N := some 74) (Sx14.b 21 520191) rfl rfl (one_of HT_.out (by kernel_rfl)) (by decide) (fun K hK => ?_)
          refine goes_ Tryz.func87 (by kernel_rfl) rfl #[.int .u32 (rd x5_2 (ji21)), .int .i64 18] (by rfl) rfl rfl (by (try simp only [List.map_toArray, List.map_cons, List.map_nil]); first | done | (simp only [hji21]; rfl) | rfl | (simp only [List.length_drop, List.length_take]; rfl)) ?_
          with_reducible refine (clearwayref02_rotated.calls (rd x5_2 (ji21)) 18 t126 _ A25.out).mono ?_
          rintro e w' ⟨rfl, ⟨nd, rfl⟩⟩
          refine ⟨_, rfl, ?_⟩
          refine hK.out _ _ ⟨hHeld.1, hHeld.2.1, hHeld.2.2⟩ (fun hHeld => ?_)
          clear hK K
          refine norm_ (a' := ?_) ?_ ?_
          rotate_left
          ·show Act.put _ (some 74) _ = _
           simp only [Act.put, Sx14.u, Sx14.v, Sx14.w, i64_w, i32_w]
           rfl
          refine Sx14.p (i := 12) (N := some 75) HT_.out (Sx14.b 21 524287) ?_
          refine Sx14.p (i := 19) (N := some 82) HT_.out (Sx14.b 21 1048575) ?_
          refine Sx14.p (i := 20) (N := some 8) HT_.out (Sx14.b 21 2097151) ?_
          refine done_ (done_of HT_.out (by kernel_rfl)) ?_
          try go_wp2
          go_meet
          case rel => exact ⟨_, (Go.bits .xor .u32 (Go.bits .xor .u32 t124 t126) ((rd x5_2 (ji21)) / 8)), (by first | rfl | (simp; done) | (simp only [← hji21] <;> (first | rfl | simp)) | (simp [*]; done)), H', ⟨by have := HK1.out; have := HK2.out; first | omega | exact Nat.le_refl _⟩, ⟨by (with_reducible repeat (first | apply Kd.R_alloc | apply Kd.R_drewN | apply Kd.R_drew)); exact HO_5.out⟩, ⟨by repeat (first | (with_reducible first | exact HB.out | apply below_alloc | apply pw_below_drewN | apply below_drew1) | exact HB.out)⟩⟩
         ·rw [if_neg c23] at H
          exact absurd H (by simp)
        ·rw [if_neg c22] at H
         exact absurd H (by simp)
       case rest =>
        clear HC20
        try clear c1
        try clear p1
        try clear q1
        try clear hx1
        try clear c2
        try clear p2
        try clear c3
        try clear c3b0
        try clear c5
        try clear c5b0
        try clear c6
        try clear c6b0
        try clear p6
        try clear c8
        try clear c8b0
        try clear c9
        try clear c9b0
        try clear c11
        try clear c11b0
        try clear p11
        try clear q11
        try clear hx11
        try clear c12
        try clear c12b0
        try clear p12
        try clear q12
        try clear hx12
        try clear c14
        try clear c14b0
        try clear c15
        try clear c15b0
        try clear c16
        try clear c19
        try clear c19b0
        try clear c22
        try clear c22b0
        try clear c23
        try clear c23b0
        try clear hx116_0
        try clear hx117_0
        try clear hx118_0
        try clear hx119_0
        try clear hx123_0
        try clear hx125_0
        try clear hx127_0
        try clear p1
        try clear p11
        try clear p116
        try clear p117
        try clear p118
        try clear p119
        try clear p123
        try clear p125
        try clear p127
        try clear p2
        try clear p6
        try clear q1
        try clear q11
        try clear q116
        try clear q117
        try clear q118
        try clear q119
        try clear q123
        try clear q125
        try clear q127
        obtain ⟨kq, x8_19, rfl, HA, HJ19, HO_5, HB⟩ := hcut
        cases kq with
        | zero => exact absurd HA.out (by simp [clearwayref02_block.j2])
        | succ kj19 =>
         have H := HA.out
         clear HA
         simp only [clearwayref02_block.j2] at H
         have HC28 := Aside0.mk H
         clear H
         go_upto_region 10 with (fail)
         go_cut [9] (fun v9 wc => ∃ (kq : Nat) (x9_27 : Int), v9 = .int .u32 x9_27 ∧ Aside0 (clearwayref02_block.j3 kq l0 x5_2 x7_2 x8_19 x9_27 = some r) ∧ Aside0 (kq ≤ kj19) ∧ Aside0 (Kd.R (Kd.int .u32) 109 wc w.heap.size (fun _ => True) u5 x5_2) ∧ Aside0 (Below w.heap.size w wc))
         case first =>
          have H := HC28.out
          clear HC28
          obtain ⟨ji29, hji29⟩ : ∃ j_ : Int, (wrap64 (x7_2 - 2)) = j_ := ⟨_, rfl⟩
          replace H : (if 0 ≤ (ji29) then (if (ji29) < (x5_2.length : Int) then ((clearwayref02_rotated.f (rd x5_2 (ji29)) 17).bind fun t129 => ((clearwayref02_rotated.f (rd x5_2 (ji29)) 19).bind fun t131 => (clearwayref02_block.j3 kj19 l0 x5_2 x7_2 x8_19 (Go.bits .xor .u32 (Go.bits .xor .u32 t129 t131) ((rd x5_2 (ji29)) / 1024))))) else (none)) else (none)) = some r := by first | (rw [hji29] at H; exact H) | (simp only [hji29] at H ⊢; exact H)
          have hji29w : (IntKind.i64.wrap (x7_2 - 2)) = ji29 := (i64_w _).trans hji29
          by_cases c30 : 0 ≤ (ji29)
          ·rw [if_pos c30] at H
           have c30b0 := decide_eq_true c30
           clear c30
           (first | rw [c30b0] | (simp only [i64_w, i32_w]; rw [c30b0]) | skip)
           by_cases c31 : (ji29) < (x5_2.length : Int)
           ·rw [if_pos c31] at H
            have c31b0 := decide_eq_true c31
            clear c31
            replace H := Option.bind_eq_some_iff.mp H
            obtain ⟨t129, A320, H⟩ := H
            replace H : ((clearwayref02_rotated.f (rd x5_2 (ji29)) 19).bind fun t131 => (clearwayref02_block.j3 kj19 l0 x5_2 x7_2 x8_19 (Go.bits .xor .u32 (Go.bits .xor .u32 t129 t131) ((rd x5_2 (ji29)) / 1024)))) = some r := H
            have A32 := Aside0.mk A320
            clear A320
            replace H := Option.bind_eq_some_iff.mp H
            obtain ⟨t131, A330, H⟩ := H
            replace H : (clearwayref02_block.j3 kj19 l0 x5_2 x7_2 x8_19 (Go.bits .xor .u32 (Go.bits .xor .u32 t129 t131) ((rd x5_2 (ji29)) / 1024))) = some r := H
            have A33 := Aside0.mk A330
            clear A330
            have H' := Aside0.mk H
            clear H
            try go_wp2
            have n0_ := Aside0.mk (Kd.R_drew HO_5.out)
            have n1_ := Aside0.mk (below_drew1 HB.out)
            clear HO_5
            clear HB
            have HO_5 := n0_
            have HB := n1_
            clear n0_ n1_
            obtain ⟨Ao35, co35, eo35⟩ := Kd.R_slice HO_5.out
            (first | subst eo35 | (injection eo35 with f1_ f2_ f3_; have f4_ := f1_.symm; have f5_ := f3_.symm; clear f1_ f2_ f3_; subst f4_; subst f5_))
            have p128 : 0 ≤ ((ji29) : Int) := of_decide_eq_true (by first | (with_reducible assumption) | assumption)
            have q128 : (ji29) < (x5_2.length : Int) := of_decide_eq_true (by first | (with_reducible assumption) | assumption)
            obtain ⟨ad128, e128, hx128_0⟩ := Kd.at_int (Kd.R_reads' HO_5.out).2.2 (ji29) p128 q128
            cases e128
            replace p128 := eq_true p128
            replace q128 := eq_true q128
            have p130 : 0 ≤ ((ji29) : Int) := of_decide_eq_true (by first | (with_reducible assumption) | assumption)
            have q130 : (ji29) < (x5_2.length : Int) := of_decide_eq_true (by first | (with_reducible assumption) | assumption)
            obtain ⟨ad130, e130, hx130_0⟩ := Kd.at_int (Kd.R_reads' HO_5.out).2.2 (ji29) p130 q130
            obtain rfl : ad128 = ad130 := (by injection e130)
            replace p130 := eq_true p130
            replace q130 := eq_true q130
            have p132 : 0 ≤ ((ji29) : Int) := of_decide_eq_true (by first | (with_reducible assumption) | assumption)
            have q132 : (ji29) < (x5_2.length : Int) := of_decide_eq_true (by first | (with_reducible assumption) | assumption)
            obtain ⟨ad132, e132, hx132_0⟩ := Kd.at_int (Kd.R_reads' HO_5.out).2.2 (ji29) p132 q132
            obtain rfl : ad128 = ad132 := (by injection e132)
            replace p132 := eq_true p132
            replace q132 := eq_true q132
            refine start_ (n := 21) (S := fun w' => w'.cell? (ad128.add ((ji29)).toNat) = some (.int .u32 (rd x5_2 (ji29))) ∧ w'.cell? (ad128.add ((ji29)).toNat) = some (.int .u32 (rd x5_2 (ji29))) ∧ w'.cell? (ad128.add ((ji29)).toNat) = some (.int .u32 (rd x5_2 (ji29)))) (ds := []) (Sx14.b 21 0) (by kernel_rfl) rfl rfl ⟨hx128_0, hx130_0, hx132_0⟩ (fun hHeld => ?_); refine with_tabW clearwayref02_block.tab10 clearwayref02_block.bits10 (fun HT_ HW_ => ?_)
            generalize wc.drew = w34 at HO_5 HB hx128_0 hx130_0 hx132_0 hHeld ⊢
            refine Sx14.p (i := 0) (N := some 83) HT_.out (Sx14.b 21 1) ?_
            refine Sx14.p (i := 1) (N := some 84) HT_.out (Sx14.b 21 3) ?_
            refine Sx14.p (i := 2) (N := some 85) HT_.out (Sx14.b 21 7) ?_
            refine Sx14.p (i := 3) (N := some 86) HT_.out (Sx14.b 21 15) ?_
            refine Sx14.p (i := 6) (N := some 89) HT_.out (Sx14.b 21 79) ?_
            refine Sx14.p (i := 7) (N := some 90) HT_.out (Sx14.b 21 207) ?_
            refine Sx14.p (i := 8) (N := some 91) HT_.out (Sx14.b 21 463) ?_
            refine Sx14.p (i := 9) (N := some 92) HT_.out (Sx14.b 21 975) ?_
            refine Sx14.p (i := 13) (N := some 96) HT_.out (Sx14.b 21 9167) ?_
            refine Sx14.p (i := 14) (N := some 97) HT_.out (Sx14.b 21 25551) ?_
            refine Sx14.p (i := 15) (N := some 98) HT_.out (Sx14.b 21 58319) ?_
            refine Sx14.p (i := 16) (N := some 99) HT_.out (Sx14.b 21 123855) ?_
            refine take_ (i := 4) (N := some 87) (v := ?_) (a' := ?_) (Sx14.b 21 123871) rfl rfl (take_ofW HT_.out HW_.out (by kernel_rfl)) (fun _ _ _ h => h) (Or.inl ⟨by rfl, ?_⟩) hHeld ?_ ?_
            rotate_left
            ·rintro w' ⟨s0, s1, s2⟩
             go_simp
             with_reducible rfl
            rotate_left
            ·simp only [Act.put, Sx14.u, Sx14.v, Sx14.w, i64_w, i32_w]
             rfl
            refine take_ (i := 10) (N := some 93) (v := ?_) (a' := ?_) (Sx14.b 21 124895) rfl rfl (take_ofW HT_.out HW_.out (by kernel_rfl)) (fun _ _ _ h => h) (Or.inl ⟨by rfl, ?_⟩) hHeld ?_ ?_
            rotate_left
            ·rintro w' ⟨s0, s1, s2⟩
             go_simp
             with_reducible rfl
            rotate_left
            ·simp only [Act.put, Sx14.u, Sx14.v, Sx14.w, i64_w, i32_w]
             rfl
            refine take_ (i := 17) (N := some 100) (v := ?_) (a' := ?_) (Sx14.b 21 255967) rfl rfl (take_ofW HT_.out HW_.out (by kernel_rfl)) (fun _ _ _ h => h) (Or.inl ⟨by rfl, ?_⟩) hHeld ?_ ?_
            rotate_left
            ·rintro w' ⟨s0, s1, s2⟩
             go_simp
             with_reducible rfl
            rotate_left
            ·simp only [Act.put, Sx14.u, Sx14.v, Sx14.w, i64_w, i32_w]
             rfl
            refine Sx14.p (i := 18) (N := some 101) HT_.out (Sx14.b 21 518111) ?_
            refine one_ (i := 5) (N := some 88) (Sx14.b 21 518143) rfl rfl (one_of HT_.out (by kernel_rfl)) (by decide) (fun K hK => ?_)
            refine goes_ Tryz.func87 (by kernel_rfl) rfl #[.int .u32 (rd x5_2 (ji29)), .int .i64 17] (by rfl) rfl rfl (by (try simp only [List.map_toArray, List.map_cons, List.map_nil]); first | done | (simp only [hji29]; rfl) | rfl | (simp only [List.length_drop, List.length_take]; rfl)) ?_
            with_reducible refine (clearwayref02_rotated.calls (rd x5_2 (ji29)) 17 t129 _ A32.out).mono ?_
            rintro e w' ⟨rfl, ⟨nd, rfl⟩⟩
            refine ⟨_, rfl, ?_⟩
            refine hK.out _ _ ⟨hHeld.1, hHeld.2.1, hHeld.2.2⟩ (fun hHeld => ?_)
            clear hK K
            refine norm_ (a' := ?_) ?_ ?_
            rotate_left
            ·show Act.put _ (some 88) _ = _
             simp only [Act.put, Sx14.u, Sx14.v, Sx14.w, i64_w, i32_w]
             rfl
            refine one_ (i := 11) (N := some 94) (Sx14.b 21 520191) rfl rfl (one_of HT_.out (by kernel_rfl)) (by decide) (fun K hK => ?_)
            refine goes_ Tryz.func87 (by kernel_rfl) rfl #[.int .u32 (rd x5_2 (ji29)), .int .i64 19] (by rfl) rfl rfl (by (try simp only [List.map_toArray, List.map_cons, List.map_nil]); first | done | (simp only [hji29]; rfl) | rfl | (simp only [List.length_drop, List.length_take]; rfl)) ?_
            with_reducible refine (clearwayref02_rotated.calls (rd x5_2 (ji29)) 19 t131 _ A33.out).mono ?_
            rintro e w' ⟨rfl, ⟨nd, rfl⟩⟩
            refine ⟨_, rfl, ?_⟩
            refine hK.out _ _ ⟨hHeld.1, hHeld.2.1, hHeld.2.2⟩ (fun hHeld => ?_)
            clear hK K
            refine norm_ (a' := ?_) ?_ ?_
            rotate_left
            ·show Act.put _ (some 94) _ = _
             simp only [Act.put, Sx14.u, Sx14.v, Sx14.w, i64_w, i32_w]
             rfl
            refine Sx14.p (i := 12) (N := some 95) HT_.out (Sx14.b 21 524287) ?_
            refine Sx14.p (i := 19) (N := some 102) HT_.out (Sx14.b 21 1048575) ?_
            refine Sx14.p (i := 20) (N := some 9) HT_.out (Sx14.b 21 2097151) ?_
            refine done_ (done_of HT_.out (by kernel_rfl)) ?_
            try go_wp2
            go_meet
            case rel => exact ⟨_, (Go.bits .xor .u32 (Go.bits .xor .u32 t129 t131) ((rd x5_2 (ji29)) / 1024)), (by first | rfl | (simp; done) | (simp only [← hji29] <;> (first | rfl | simp)) | (simp [*]; done)), H', ⟨by have := HK1.out; have := HK2.out; have := HJ19.out; first | omega | exact Nat.le_refl _⟩, ⟨by (with_reducible repeat (first | apply Kd.R_alloc | apply Kd.R_drewN | apply Kd.R_drew)); exact HO_5.out⟩, ⟨by repeat (first | (with_reducible first | exact HB.out | apply below_alloc | apply pw_below_drewN | apply below_drew1) | exact HB.out)⟩⟩
           ·rw [if_neg c31] at H
            exact absurd H (by simp)
          ·rw [if_neg c30] at H
           exact absurd H (by simp)
         case rest =>
          clear HC28
          try clear c1
          try clear p1
          try clear q1
          try clear hx1
          try clear c2
          try clear p2
          try clear c3
          try clear c3b0
          try clear c5
          try clear c5b0
          try clear c6
          try clear c6b0
          try clear p6
          try clear c8
          try clear c8b0
          try clear c9
          try clear c9b0
          try clear c11
          try clear c11b0
          try clear p11
          try clear q11
          try clear hx11
          try clear c12
          try clear c12b0
          try clear p12
          try clear q12
          try clear hx12
          try clear p13
          try clear q13
          try clear hx13
          try clear c14
          try clear c14b0
          try clear c15
          try clear c15b0
          try clear c16
          try clear c19
          try clear c19b0
          try clear c22
          try clear c22b0
          try clear c23
          try clear c23b0
          try clear c30
          try clear c30b0
          try clear c31
          try clear c31b0
          try clear hx116_0
          try clear hx117_0
          try clear hx118_0
          try clear hx119_0
          try clear hx123_0
          try clear hx125_0
          try clear hx127_0
          try clear hx128_0
          try clear hx130_0
          try clear hx132_0
          try clear p1
          try clear p11
          try clear p116
          try clear p117
          try clear p118
          try clear p119
          try clear p12
          try clear p123
          try clear p125
          try clear p127
          try clear p128
          try clear p130
          try clear p132
          try clear p2
          try clear p6
          try clear q1
          try clear q11
          try clear q116
          try clear q117
          try clear q118
          try clear q119
          try clear q12
          try clear q123
          try clear q125
          try clear q127
          try clear q128
          try clear q130
          try clear q132
          obtain ⟨kq, x9_27, rfl, HA, HJ27, HO_5, HB⟩ := hcut
          cases kq with
          | zero => exact absurd HA.out (by simp [clearwayref02_block.j3])
          | succ kj27 =>
           have H := HA.out
           clear HA
           simp only [clearwayref02_block.j3] at H
           obtain ⟨ji36, hji36⟩ : ∃ j_ : Int, (wrap64 (x7_2 - 16)) = j_ := ⟨_, rfl⟩
           replace H : (if 0 ≤ (ji36) then (if (ji36) < (x5_2.length : Int) then (if 0 ≤ (wrap64 (x7_2 - 7)) then (if (wrap64 (x7_2 - 7)) < (x5_2.length : Int) then (if x5_2.length < 35184372088832 then (clearwayref02_block.l1 kj27 l0 (x5_2 ++ [((((((rd x5_2 (ji36)) + x8_19) % 4294967296) + (rd x5_2 (wrap64 (x7_2 - 7)))) % 4294967296) + x9_27) % 4294967296]) (wrap64 (x7_2 + 1))) else (none)) else (none)) else (none)) else (none)) else (none)) = some r := by first | (rw [hji36] at H; exact H) | (simp only [hji36] at H ⊢; exact H)
           have hji36w : (IntKind.i64.wrap (x7_2 - 16)) = ji36 := (i64_w _).trans hji36
           by_cases c37 : 0 ≤ (ji36)
           ·rw [if_pos c37] at H
            have c37b0 := decide_eq_true c37
            clear c37
            by_cases c38 : (ji36) < (x5_2.length : Int)
            ·rw [if_pos c38] at H
             have c38b0 := decide_eq_true c38
             clear c38
             obtain ⟨ji39, hji39⟩ : ∃ j_ : Int, (wrap64 (x7_2 - 7)) = j_ := ⟨_, rfl⟩
             replace H : (if 0 ≤ (ji39) then (if (ji39) < (x5_2.length : Int) then (if x5_2.length < 35184372088832 then (clearwayref02_block.l1 kj27 l0 (x5_2 ++ [((((((rd x5_2 (ji36)) + x8_19) % 4294967296) + (rd x5_2 (ji39))) % 4294967296) + x9_27) % 4294967296]) (wrap64 (x7_2 + 1))) else (none)) else (none)) else (none)) = some r := by first | (rw [hji39] at H; exact H) | (simp only [hji39] at H ⊢; exact H)
             have hji39w : (IntKind.i64.wrap (x7_2 - 7)) = ji39 := (i64_w _).trans hji39
             by_cases c40 : 0 ≤ (ji39)
             ·rw [if_pos c40] at H
              have c40b0 := decide_eq_true c40
              clear c40
              by_cases c41 : (ji39) < (x5_2.length : Int)
              ·rw [if_pos c41] at H
               have c41b0 := decide_eq_true c41
               clear c41
               by_cases c42 : x5_2.length < 35184372088832
               ·rw [if_pos c42] at H
                have LMc42 := Aside0.mk c42
                clear c42
                obtain ⟨y135, hy135⟩ : ∃ y_ : List Int, y_ = (x5_2 ++ [((((((rd x5_2 (ji36)) + x8_19) % 4294967296) + (rd x5_2 (ji39))) % 4294967296) + x9_27) % 4294967296]) := ⟨_, rfl⟩
                replace H : (clearwayref02_block.l1 kj27 l0 y135 (wrap64 (x7_2 + 1))) = some r := by first | (rw [hy135]; with_reducible exact H) | (have H2_ := (Option.bind_some _ _).symm.trans H; rw [hy135]; with_reducible exact H2_) | (have H2_ := (Option.bind_some _ _).symm.trans H; with_reducible exact H2_) | with_reducible exact H | (rw [hy135]; exact H) | exact H
                have Ny135 := Aside0.mk hy135
                clear hy135
                have H' := Aside0.mk H
                clear H
                try go_wp2
                have n0_ := Aside0.mk (Kd.R_drew HO_5.out)
                have n1_ := Aside0.mk (below_drew1 HB.out)
                clear HO_5
                clear HB
                have HO_5 := n0_
                have HB := n1_
                clear n0_ n1_
                obtain ⟨Ao44, co44, eo44⟩ := Kd.R_slice HO_5.out
                (first | subst eo44 | (injection eo44 with f1_ f2_ f3_; have f4_ := f1_.symm; have f5_ := f3_.symm; clear f1_ f2_ f3_; subst f4_; subst f5_))
                have p133 : 0 ≤ ((ji36) : Int) := of_decide_eq_true (by first | (with_reducible assumption) | assumption)
                have q133 : (ji36) < (x5_2.length : Int) := of_decide_eq_true (by first | (with_reducible assumption) | assumption)
                obtain ⟨ad133, e133, hx133_0⟩ := Kd.at_int (Kd.R_reads' HO_5.out).2.2 (ji36) p133 q133
                cases e133
                replace p133 := eq_true p133
                replace q133 := eq_true q133
                have p134 : 0 ≤ ((ji39) : Int) := of_decide_eq_true (by first | (with_reducible assumption) | assumption)
                have q134 : (ji39) < (x5_2.length : Int) := of_decide_eq_true (by first | (with_reducible assumption) | assumption)
                obtain ⟨ad134, e134, hx134_0⟩ := Kd.at_int (Kd.R_reads' HO_5.out).2.2 (ji39) p134 q134
                obtain rfl : ad133 = ad134 := (by injection e134)
                replace p134 := eq_true p134
                replace q134 := eq_true q134
                refine start_ (n := 19) (S := fun w' => w'.cell? (ad133.add ((ji36)).toNat) = some (.int .u32 (rd x5_2 (ji36))) ∧ w'.cell? (ad133.add ((ji39)).toNat) = some (.int .u32 (rd x5_2 (ji39)))) (ds := [16, 17]) (Sx14.b 19 0) (by kernel_rfl) rfl rfl ⟨hx133_0, hx134_0⟩ (fun hHeld => ?_); refine with_tabW clearwayref02_block.tab11 clearwayref02_block.bits11 (fun HT_ HW_ => ?_)
                generalize wc.drew = w43 at HO_5 HB hx133_0 hx134_0 hHeld ⊢
                refine Sx14.p (i := 0) (N := some 103) HT_.out (Sx14.b 19 1) ?_
                refine Sx14.p (i := 1) (N := some 104) HT_.out (Sx14.b 19 3) ?_
                refine Sx14.p (i := 2) (N := some 105) HT_.out (Sx14.b 19 7) ?_
                refine Sx14.p (i := 3) (N := some 106) HT_.out (Sx14.b 19 15) ?_
                refine Sx14.p (i := 4) (N := some 107) HT_.out (Sx14.b 19 31) ?_
                refine Sx14.p (i := 6) (N := some 109) HT_.out (Sx14.b 19 95) ?_
                refine Sx14.p (i := 8) (N := some 111) HT_.out (Sx14.b 19 351) ?_
                refine Sx14.p (i := 9) (N := some 112) HT_.out (Sx14.b 19 863) ?_
                refine Sx14.p (i := 10) (N := some 113) HT_.out (Sx14.b 19 1887) ?_
                refine Sx14.p (i := 11) (N := some 114) HT_.out (Sx14.b 19 3935) ?_
                refine Sx14.p (i := 14) (N := some 117) HT_.out (Sx14.b 19 20319) ?_
                refine take_ (i := 5) (N := some 108) (v := ?_) (a' := ?_) (Sx14.b 19 20351) rfl rfl (take_ofW HT_.out HW_.out (by kernel_rfl)) (fun _ _ _ h => h) (Or.inl ⟨by rfl, ?_⟩) hHeld ?_ ?_
                rotate_left
                ·rintro w' ⟨s0, s1⟩
                 go_simp
                 with_reducible rfl
                rotate_left
                ·simp only [Act.put, Sx14.u, Sx14.v, Sx14.w, i64_w, i32_w]
                 rfl
                refine Sx14.p (i := 7) (N := some 110) HT_.out (Sx14.b 19 20479) ?_
                refine take_ (i := 12) (N := some 115) (v := ?_) (a' := ?_) (Sx14.b 19 24575) rfl rfl (take_ofW HT_.out HW_.out (by kernel_rfl)) (fun _ _ _ h => h) (Or.inl ⟨by rfl, ?_⟩) hHeld ?_ ?_
                rotate_left
                ·rintro w' ⟨s0, s1⟩
                 go_simp
                 with_reducible rfl
                rotate_left
                ·simp only [Act.put, Sx14.u, Sx14.v, Sx14.w, i64_w, i32_w]
                 rfl
                refine Sx14.p (i := 13) (N := some 116) HT_.out (Sx14.b 19 32767) ?_
                refine Sx14.p (i := 15) (N := some 118) HT_.out (Sx14.b 19 65535) ?_
                refine last_ (i := 16) (N := some 119) (Sx14.b 19 131071) rfl rfl (one_of HT_.out (by kernel_rfl)) (by decide) (fun K hK => ?_)
                refine value_ (w1 := ?_) (v := ?_) (by rfl) rfl ?_ ?_
                rotate_left 2
                ·go_simp
                 constructor
                 ·rfl
                 ·rfl
                refine hK.out _ _ ?_
                clear hK K
                refine norm_ (a' := ?_) ?_ ?_
                rotate_left
                ·show Act.put _ (some 119) _ = _
                 simp only [Act.put, Sx14.u, Sx14.v, Sx14.w, i64_w, i32_w]
                 rfl
                refine last_ (i := 17) (N := some 120) (Sx14.b 19 262143) rfl rfl (one_of HT_.out (by kernel_rfl)) (by decide) (fun K hK => ?_)
                refine Kd.R_append_step (Kd.int .u32) (w0 := w) w.heap.size (by rfl) (.tmp 103) (.tmp 119) 110 109 (.int .u32 0) 4 rfl Tryz.underlying110 info109 rfl (by decide) (by omega) (.slice (some ad133) x5_2.length co44) x5_2 (((((((rd x5_2 (ji36)) + x8_19) % 4294967296) + (rd x5_2 (ji39))) % 4294967296) + x9_27) % 4294967296) [.int .u32 (((((((rd x5_2 (ji36)) + x8_19) % 4294967296) + (rd x5_2 (ji39))) % 4294967296) + x9_27) % 4294967296)] (fun _ => True) (fun _ => False) rfl rfl ?aP (fun _ hk => hk.elim) ?aF ?aO ?aB ?aS ?aL ?_
                (case aP => exact rfl)
                (case aB => exact (by repeat (first | (with_reducible first | exact HB.out | apply below_alloc | apply pw_below_drewN | apply below_drew1) | exact HB.out)))
                (case aF => exact (fun _ _ => trivial))
                (case aO => exact (by (with_reducible repeat (first | apply Kd.R_alloc | apply Kd.R_drewN | apply Kd.R_drew)); exact HO_5.out))
                (case aS => exact (below_size (by repeat (first | (with_reducible first | exact HB.out | apply below_alloc | apply pw_below_drewN | apply below_drew1) | exact HB.out))))
                (case aL => have := LMc42.out; omega)
                intro v136 w45 ho hb hg hat
                rw [← Ny135.out] at ho
                have n0_ := Aside0.mk (hb)
                have n1_ := Aside0.mk (ho)
                clear HB
                clear HO_5
                have HB := n0_
                have HO137 := n1_
                clear n0_ n1_
                clear ho hb hg hat
                refine hK.out _ _ ?_
                clear hK K
                refine norm_ (a' := ?_) ?_ ?_
                rotate_left
                ·show Act.put _ (some 120) _ = _
                 simp only [Act.put, Sx14.u, Sx14.v, Sx14.w, i64_w, i32_w]
                 rfl
                refine Sx14.p (i := 18) (N := some 5) HT_.out (Sx14.b 19 524287) ?_
                refine done_ (done_of HT_.out (by kernel_rfl)) ?_
                try go_wp2
                go_roundg kj27
                case measure => have := HK1.out; have := HK2.out; have := HJ19.out; have := HJ27.out; omega
                case rel => exact ⟨(y135), (wrap64 (x7_2 + 1)), (by first | rfl | (simp; done) | (simp [*]; done)), H', ⟨by have := HK1.out; have := HK2.out; have := HJ19.out; have := HJ27.out; omega⟩, ⟨by (with_reducible repeat (first | apply Kd.R_alloc | apply Kd.R_drewN | apply Kd.R_drew)); exact HO137.out⟩, ⟨by repeat (first | (with_reducible first | exact HB.out | apply below_alloc | apply pw_below_drewN | apply below_drew1) | exact HB.out)⟩⟩
               ·rw [if_neg c42] at H
                exact absurd H (by simp)
              ·rw [if_neg c41] at H
               exact absurd H (by simp)
             ·rw [if_neg c40] at H
              exact absurd H (by simp)
            ·rw [if_neg c38] at H
             exact absurd H (by simp)
           ·rw [if_neg c37] at H
            exact absurd H (by simp)
      ·rw [if_neg c19] at H
       have c19b0 := decide_eq_false c19
       clear c19
       replace H := Option.bind_eq_some_iff.mp H
       obtain ⟨t138, A460, H⟩ := H
       replace H : (if ([] : List Int).length + l0.length < 35184372088832 then (clearwayref02_block.l2 k2 l0 x5_2 t138 (([] : List Int) ++ l0) 0) else (none)) = some r := H
       have A46 := Aside0.mk A460
       clear A460
       by_cases c47 : ([] : List Int).length + l0.length < 35184372088832
       ·rw [if_pos c47] at H
        have LMc47 := Aside0.mk c47
        clear c47
        obtain ⟨y141, hy141⟩ : ∃ y_ : List Int, y_ = (([] : List Int) ++ l0) := ⟨_, rfl⟩
        replace H : (clearwayref02_block.l2 k2 l0 x5_2 t138 y141 0) = some r := by first | (rw [hy141]; with_reducible exact H) | (have H2_ := (Option.bind_some _ _).symm.trans H; rw [hy141]; with_reducible exact H2_) | (have H2_ := (Option.bind_some _ _).symm.trans H; with_reducible exact H2_) | with_reducible exact H | (rw [hy141]; exact H) | exact H
        have Ny141 := Aside0.mk hy141
        clear hy141
        have H' := Aside0.mk H
        clear H
        go_wp2_with (first | ((with_reducible refine gate_callee (f := 88) rfl ?_); refine goesL_ (some 121) rfl rfl Tryz.func88 (by kernel_rfl) rfl #[] rfl (by (try simp only [List.map_toArray, List.map_cons, List.map_nil]); first | done | rfl | (simp only [List.length_drop, List.length_take]; rfl)) ?_; (with_reducible refine (clearwayref02_constants.calls  t138 _ A46.out).mono ?_); rintro e w48 ⟨v139, rfl, ho0, hb⟩; refine ⟨_, rfl, ?_⟩; have n0_ := Aside0.mk (Kd.R_elder' (by (with_reducible repeat (first | apply Kd.R_alloc | apply Kd.R_drewN | apply Kd.R_drew)); exact HO_5.out) (Kd.R_base ho0) hb); have n1_ := Aside0.mk (Kd.R_lower (Kd.R_new' ho0 (Kd.R_lt (by (with_reducible repeat (first | apply Kd.R_alloc | apply Kd.R_drewN | apply Kd.R_drew)); exact HO_5.out))) (below_size (by repeat (first | (with_reducible first | exact HB.out | apply below_alloc | apply pw_below_drewN | apply below_drew1) | exact HB.out)))); have n2_ := Aside0.mk (below_step (by repeat (first | (with_reducible first | exact HB.out | apply below_alloc | apply pw_below_drewN | apply below_drew1) | exact HB.out)) hb); clear HO_5; clear HB; have HO_5 := n0_; have HO140 := n1_; have HB := n2_; clear n0_ n1_ n2_; (try clear hb); (try clear hb2); (try clear hk); (try clear hi); (try clear ho0)) | ((with_reducible refine gate_builtin (b := .append) (xs := #[.tmp 122, .tmp 123]) rfl ?_); at_builtin; refine Kd.R_append_rows (Kd.int .u32) (w0 := w) w.heap.size rfl (.tmp 122) (.tmp 123) 110 109 (.int .u32 0) 4 rfl Tryz.underlying110 info109 rfl (by decide) (by omega) (.slice none 0 0) ([] : List Int) l0 _ _ _ (fun k_ => some k_ ≠ (u5 : Value).ownBlock ∧ some k_ ≠ (v139 : Value).ownBlock) (fun _ => False) rfl rfl ?aO ?aR (fun _ _ h => h) (fun _ h => h.elim) ?aF ?aB ?aS ?aL ?_; (case aR => repeat (first | exact (Kd.C_below HR0.out HB.out) | (with_reducible refine Kd.C_alloc ?_ _) | (with_reducible refine Kd.C_drewN ?_ _) | (with_reducible refine Kd.C_drew ?_))); (case aB => exact (by repeat (first | (with_reducible first | exact HB.out | apply below_alloc | apply pw_below_drewN | apply below_drew1) | exact HB.out))); (case aF => exact (fun k_ hk => ⟨Kd.fresh' (Kd.R_lt (by (with_reducible repeat (first | apply Kd.R_alloc | apply Kd.R_drewN | apply Kd.R_drew)); exact HO_5.out)) k_ hk, Kd.fresh' (Kd.R_lt (by (with_reducible repeat (first | apply Kd.R_alloc | apply Kd.R_drewN | apply Kd.R_drew)); exact HO140.out)) k_ hk⟩)); (case aO => exact ((Kd.R_nil _ _ _ _ (fun k_ => some k_ ≠ (u5 : Value).ownBlock ∧ some k_ ≠ (v139 : Value).ownBlock)))); (case aS => exact (below_size (by repeat (first | (with_reducible first | exact HB.out | apply below_alloc | apply pw_below_drewN | apply below_drew1) | exact HB.out)))); (case aL => have := LMc47.out; omega); intro v142 w49 ho hb hg hat; rw [← Ny141.out] at ho; have n0_ := Aside0.mk (Kd.R_after (Kd.R_apart_nil (by (with_reducible repeat (first | apply Kd.R_alloc | apply Kd.R_drewN | apply Kd.R_drew)); exact HO_5.out)) hg hat); have n1_ := Aside0.mk (Kd.R_after (Kd.R_apart_nil (by (with_reducible repeat (first | apply Kd.R_alloc | apply Kd.R_drewN | apply Kd.R_drew)); exact HO140.out)) hg hat); have n2_ := Aside0.mk (hb); have n3_ := Aside0.mk (ho); clear HO_5; clear HO140; clear HB; have HO_5 := n0_; have HO140 := n1_; have HB := n2_; have HO143 := n3_; clear n0_ n1_ n2_ n3_; clear ho hb hg hat))
        go_loopg [11, 12] k2 (fun kq v11 v12 w' => ∃ (x11_3 : List Int) (x12_3 : Int), v12 = .int .i64 x12_3 ∧ Aside0 (clearwayref02_block.l2 kq l0 x5_2 t138 x11_3 x12_3 = some r) ∧ Aside0 (kq ≤ k2) ∧ Aside0 (Kd.R (Kd.int .u32) 109 w' w.heap.size (fun k_ => some k_ ≠ (v139 : Value).ownBlock ∧ some k_ ≠ (v11 : Value).ownBlock) u5 x5_2) ∧ Aside0 (Kd.R (Kd.int .u32) 109 w' w.heap.size (fun k_ => some k_ ≠ (u5 : Value).ownBlock ∧ some k_ ≠ (v11 : Value).ownBlock) v139 t138) ∧ Aside0 (Kd.R (Kd.int .u32) 109 w' w.heap.size (fun k_ => some k_ ≠ (u5 : Value).ownBlock ∧ some k_ ≠ (v139 : Value).ownBlock) v11 x11_3) ∧ Aside0 (Below w.heap.size w w'))
        case atStart => exact ⟨(y141), (0), (by first | rfl | (simp; done) | (simp [*]; done)), H', ⟨Nat.le_refl _⟩, ⟨by (with_reducible repeat (first | apply Kd.R_alloc | apply Kd.R_drewN | apply Kd.R_drew)); exact Kd.R_mono HO_5.out (fun _ hk => ⟨hk.1.2, hk.2⟩)⟩, ⟨by (with_reducible repeat (first | apply Kd.R_alloc | apply Kd.R_drewN | apply Kd.R_drew)); exact Kd.R_mono HO140.out (fun _ hk => ⟨hk.1.2, hk.2⟩)⟩, ⟨by (with_reducible repeat (first | apply Kd.R_alloc | apply Kd.R_drewN | apply Kd.R_drew)); exact HO143.out⟩, ⟨by repeat (first | (with_reducible first | exact HB.out | apply below_alloc | apply pw_below_drewN | apply below_drew1) | exact HB.out)⟩⟩
        case round =>
         clear H'
         try clear c1
         try clear p1
         try clear q1
         try clear hx1
         try clear c2
         try clear p2
         try clear c3
         try clear c3b0
         try clear c4
         try clear c5
         try clear c5b0
         try clear c6
         try clear c6b0
         try clear p6
         try clear c8
         try clear c8b0
         try clear c9
         try clear c9b0
         try clear c11
         try clear c11b0
         try clear p11
         try clear q11
         try clear hx11
         try clear c12
         try clear c12b0
         try clear p12
         try clear q12
         try clear hx12
         try clear p13
         try clear q13
         try clear hx13
         try clear c14
         try clear c14b0
         try clear c15
         try clear c15b0
         try clear c16
         try clear c19
         try clear c19b0
         try clear c22
         try clear c22b0
         try clear c23
         try clear c23b0
         try clear c30
         try clear c30b0
         try clear c31
         try clear c31b0
         try clear c37
         try clear c37b0
         try clear c38
         try clear c38b0
         try clear c40
         try clear c40b0
         try clear c41
         try clear c41b0
         try clear c42
         try clear c47
         try clear hx116_0
         try clear hx117_0
         try clear hx118_0
         try clear hx119_0
         try clear hx123_0
         try clear hx125_0
         try clear hx127_0
         try clear hx128_0
         try clear hx130_0
         try clear hx132_0
         try clear hx133_0
         try clear hx134_0
         try clear p1
         try clear p11
         try clear p116
         try clear p117
         try clear p118
         try clear p119
         try clear p12
         try clear p123
         try clear p125
         try clear p127
         try clear p128
         try clear p13
         try clear p130
         try clear p132
         try clear p133
         try clear p134
         try clear p2
         try clear p6
         try clear q1
         try clear q11
         try clear q116
         try clear q117
         try clear q118
         try clear q119
         try clear q12
         try clear q123
         try clear q125
         try clear q127
         try clear q128
         try clear q13
         try clear q130
         try clear q132
         try clear q133
         try clear q134
         obtain ⟨x11_3, x12_3, rfl, HA, HK3, HO_5, HO_10, HO_11, HB⟩ := hrel
         cases gk with
         | zero => exact absurd HA.out (by simp [clearwayref02_block.l2])
         | succ k3 =>
          have H := HA.out
          clear HA
          simp only [clearwayref02_block.l2] at H
          by_cases c50 : x12_3 < 64
          ·rw [if_pos c50] at H
           have c50b0 := decide_eq_true c50
           clear c50
           by_cases c51 : 0 < (x11_3.length : Int)
           ·rw [if_pos c51] at H
            have c51b0 := decide_eq_true c51
            have c51b1 : decide (0 < x11_3.length) = true := decide_eq_true (by omega)
            clear c51
            by_cases c52 : 4 < (x11_3.length : Int)
            ·rw [if_pos c52] at H
             have c52b0 := decide_eq_true c52
             have c52b1 : decide (4 < x11_3.length) = true := decide_eq_true (by omega)
             clear c52
             have HC53 := Aside0.mk H
             clear H
             obtain ⟨Ao54, co54, eo54⟩ := Kd.R_slice HO_11.out
             subst eo54
             have p144 : 0 ≤ (0 : Int) := (by omega)
             have q144 : 0 < (x11_3.length : Int) := of_decide_eq_true (by first | (with_reducible assumption) | assumption)
             obtain ⟨ad144, e144, hx144_0⟩ := Kd.at_int (Kd.R_reads' HO_11.out).2.2 0 p144 q144
             cases e144
             have qi144 : (0 < x11_3.length) = True := eq_true (by omega)
             (try rw [show ((0 : Int)).toNat = 0 from rfl] at hx144_0)
             (try rw [Addr.add_zero'] at hx144_0)
             replace p144 := eq_true p144
             replace q144 := eq_true q144
             have p145 : 0 ≤ (4 : Int) := (by omega)
             have q145 : 4 < (x11_3.length : Int) := of_decide_eq_true (by first | (with_reducible assumption) | assumption)
             obtain ⟨ad145, e145, hx145_0⟩ := Kd.at_int (Kd.R_reads' HO_11.out).2.2 4 p145 q145
             obtain rfl : ad144 = ad145 := (by injection e145)
             (try simp only [show (4 : Int).toNat = 4 from rfl, Nat.reduceMul, Nat.reduceEqDiff, Go.Addr.add, ↓reduceIte] at hx145_0)
             have qi145 : (4 < x11_3.length) = True := eq_true (by omega)
             (try rw [show ((4 : Int)).toNat = 4 from rfl] at hx145_0)
             replace p145 := eq_true p145
             replace q145 := eq_true q145
             go_upto_region 20 with (fail)
             go_cut [15] (fun v15 wc => ∃ (kq : Nat) (x15_52 : Int), v15 = .int .u32 x15_52 ∧ Aside0 (clearwayref02_block.j5 kq l0 x5_2 t138 x11_3 x12_3 (rd x11_3 0) (rd x11_3 4) x15_52 = some r) ∧ Aside0 (kq ≤ k3) ∧ Aside0 (Kd.R (Kd.int .u32) 109 wc w.heap.size (fun k_ => some k_ ≠ (v139 : Value).ownBlock ∧ some k_ ≠ ((.slice (some ad144) x11_3.length co54) : Value).ownBlock) u5 x5_2) ∧ Aside0 (Kd.R (Kd.int .u32) 109 wc w.heap.size (fun k_ => some k_ ≠ (u5 : Value).ownBlock ∧ some k_ ≠ ((.slice (some ad144) x11_3.length co54) : Value).ownBlock) v139 t138) ∧ Aside0 (Kd.R (Kd.int .u32) 109 wc w.heap.size (fun k_ => some k_ ≠ (u5 : Value).ownBlock ∧ some k_ ≠ (v139 : Value).ownBlock) (.slice (some ad144) x11_3.length co54) x11_3) ∧ Aside0 (Below w.heap.size w wc))
             case first =>
              have H := HC53.out
              clear HC53
              by_cases c55 : 7 < (x11_3.length : Int)
              ·rw [if_pos c55] at H
               have c55b0 := decide_eq_true c55
               have c55b1 : decide (7 < x11_3.length) = true := decide_eq_true (by omega)
               clear c55
               (first | rw [c55b0] | (simp only [i64_w, i32_w]; rw [c55b0]) | skip)
               replace H := Option.bind_eq_some_iff.mp H
               obtain ⟨t147, A560, H⟩ := H
               replace H : ((clearwayref02_rotated.f (rd x11_3 4) 11).bind fun t148 => ((clearwayref02_rotated.f (rd x11_3 4) 25).bind fun t149 => (if 5 < (x11_3.length : Int) then (if 6 < (x11_3.length : Int) then (if 0 ≤ x12_3 then (if x12_3 < (t138.length : Int) then (if x12_3 < (x5_2.length : Int) then (clearwayref02_block.j5 k3 l0 x5_2 t138 x11_3 x12_3 (rd x11_3 0) (rd x11_3 4) (((((((((rd x11_3 7) + (Go.bits .xor .u32 (Go.bits .xor .u32 t147 t148) t149)) % 4294967296) + (Go.bits .xor .u32 (Go.bits .and .u32 (rd x11_3 4) (rd x11_3 5)) (Go.bits .and .u32 (Go.bits .xor .u32 IntKind.u32.max (rd x11_3 4)) (rd x11_3 6)))) % 4294967296) + (rd t138 x12_3)) % 4294967296) + (rd x5_2 x12_3)) % 4294967296)) else (none)) else (none)) else (none)) else (none)) else (none)))) = some r := H
               have A56 := Aside0.mk A560
               clear A560
               replace H := Option.bind_eq_some_iff.mp H
               obtain ⟨t148, A570, H⟩ := H
               replace H : ((clearwayref02_rotated.f (rd x11_3 4) 25).bind fun t149 => (if 5 < (x11_3.length : Int) then (if 6 < (x11_3.length : Int) then (if 0 ≤ x12_3 then (if x12_3 < (t138.length : Int) then (if x12_3 < (x5_2.length : Int) then (clearwayref02_block.j5 k3 l0 x5_2 t138 x11_3 x12_3 (rd x11_3 0) (rd x11_3 4) (((((((((rd x11_3 7) + (Go.bits .xor .u32 (Go.bits .xor .u32 t147 t148) t149)) % 4294967296) + (Go.bits .xor .u32 (Go.bits .and .u32 (rd x11_3 4) (rd x11_3 5)) (Go.bits .and .u32 (Go.bits .xor .u32 IntKind.u32.max (rd x11_3 4)) (rd x11_3 6)))) % 4294967296) + (rd t138 x12_3)) % 4294967296) + (rd x5_2 x12_3)) % 4294967296)) else (none)) else (none)) else (none)) else (none)) else (none))) = some r := H
               have A57 := Aside0.mk A570
               clear A570
               replace H := Option.bind_eq_some_iff.mp H
               obtain ⟨t149, A580, H⟩ := H
               replace H : (if 5 < (x11_3.length : Int) then (if 6 < (x11_3.length : Int) then (if 0 ≤ x12_3 then (if x12_3 < (t138.length : Int) then (if x12_3 < (x5_2.length : Int) then (clearwayref02_block.j5 k3 l0 x5_2 t138 x11_3 x12_3 (rd x11_3 0) (rd x11_3 4) (((((((((rd x11_3 7) + (Go.bits .xor .u32 (Go.bits .xor .u32 t147 t148) t149)) % 4294967296) + (Go.bits .xor .u32 (Go.bits .and .u32 (rd x11_3 4) (rd x11_3 5)) (Go.bits .and .u32 (Go.bits .xor .u32 IntKind.u32.max (rd x11_3 4)) (rd x11_3 6)))) % 4294967296) + (rd t138 x12_3)) % 4294967296) + (rd x5_2 x12_3)) % 4294967296)) else (none)) else (none)) else (none)) else (none)) else (none)) = some r := H
               have A58 := Aside0.mk A580
               clear A580
               by_cases c59 : 5 < (x11_3.length : Int)
               ·rw [if_pos c59] at H
                have c59b0 := decide_eq_true c59
                have c59b1 : decide (5 < x11_3.length) = true := decide_eq_true (by omega)
                clear c59
                by_cases c60 : 6 < (x11_3.length : Int)
                ·rw [if_pos c60] at H
                 have c60b0 := decide_eq_true c60
                 have c60b1 : decide (6 < x11_3.length) = true := decide_eq_true (by omega)
                 clear c60
                 by_cases c61 : 0 ≤ x12_3
                 ·rw [if_pos c61] at H
                  have c61b0 := decide_eq_true c61
                  clear c61
                  by_cases c62 : x12_3 < (t138.length : Int)
                  ·rw [if_pos c62] at H
                   have c62b0 := decide_eq_true c62
                   clear c62
                   by_cases c63 : x12_3 < (x5_2.length : Int)
                   ·rw [if_pos c63] at H
                    have c63b0 := decide_eq_true c63
                    clear c63
                    have H' := Aside0.mk H
                    clear H
                    try go_wp2
                    have n0_ := Aside0.mk (Kd.R_drew HO_5.out)
                    have n1_ := Aside0.mk (Kd.R_drew HO_10.out)
                    have n2_ := Aside0.mk (Kd.R_drew HO_11.out)
                    have n3_ := Aside0.mk (below_drew1 HB.out)
                    clear HO_5
                    clear HO_10
                    clear HO_11
                    clear HB
                    have HO_5 := n0_
                    have HO_10 := n1_
                    have HO_11 := n2_
                    have HB := n3_
                    clear n0_ n1_ n2_ n3_
                    have p146 : 0 ≤ (7 : Int) := (by omega)
                    have q146 : 7 < (x11_3.length : Int) := of_decide_eq_true (by first | (with_reducible assumption) | assumption)
                    obtain ⟨ad146, e146, hx146_0⟩ := Kd.at_int (Kd.R_reads' HO_11.out).2.2 7 p146 q146
                    obtain rfl : ad144 = ad146 := (by injection e146)
                    (try simp only [show (7 : Int).toNat = 7 from rfl, Nat.reduceMul, Nat.reduceEqDiff, Go.Addr.add, ↓reduceIte] at hx146_0)
                    have qi146 : (7 < x11_3.length) = True := eq_true (by omega)
                    (try rw [show ((7 : Int)).toNat = 7 from rfl] at hx146_0)
                    replace p146 := eq_true p146
                    replace q146 := eq_true q146
                    have p150 : 0 ≤ (5 : Int) := (by omega)
                    have q150 : 5 < (x11_3.length : Int) := of_decide_eq_true (by first | (with_reducible assumption) | assumption)
                    obtain ⟨ad150, e150, hx150_0⟩ := Kd.at_int (Kd.R_reads' HO_11.out).2.2 5 p150 q150
                    obtain rfl : ad144 = ad150 := (by injection e150)
                    (try simp only [show (5 : Int).toNat = 5 from rfl, Nat.reduceMul, Nat.reduceEqDiff, Go.Addr.add, ↓reduceIte] at hx150_0)
                    have qi150 : (5 < x11_3.length) = True := eq_true (by omega)
                    (try rw [show ((5 : Int)).toNat = 5 from rfl] at hx150_0)
                    replace p150 := eq_true p150
                    replace q150 := eq_true q150
                    have p151 : 0 ≤ (6 : Int) := (by omega)
                    have q151 : 6 < (x11_3.length : Int) := of_decide_eq_true (by first | (with_reducible assumption) | assumption)
                    obtain ⟨ad151, e151, hx151_0⟩ := Kd.at_int (Kd.R_reads' HO_11.out).2.2 6 p151 q151
                    obtain rfl : ad144 = ad151 := (by injection e151)
                    (try simp only [show (6 : Int).toNat = 6 from rfl, Nat.reduceMul, Nat.reduceEqDiff, Go.Addr.add, ↓reduceIte] at hx151_0)
                    have qi151 : (6 < x11_3.length) = True := eq_true (by omega)
                    (try rw [show ((6 : Int)).toNat = 6 from rfl] at hx151_0)
                    replace p151 := eq_true p151
                    replace q151 := eq_true q151
                    obtain ⟨Ao65, co65, eo65⟩ := Kd.R_slice HO_10.out
                    (first | subst eo65 | (injection eo65 with f1_ f2_ f3_; have f4_ := f1_.symm; have f5_ := f3_.symm; clear f1_ f2_ f3_; subst f4_; subst f5_))
                    have p152 : 0 ≤ (x12_3 : Int) := of_decide_eq_true (by first | (with_reducible assumption) | assumption)
                    have q152 : x12_3 < (t138.length : Int) := of_decide_eq_true (by first | (with_reducible assumption) | assumption)
                    obtain ⟨ad152, e152, hx152_0⟩ := Kd.at_int (Kd.R_reads' HO_10.out).2.2 x12_3 p152 q152
                    cases e152
                    replace p152 := eq_true p152
                    replace q152 := eq_true q152
                    obtain ⟨Ao66, co66, eo66⟩ := Kd.R_slice HO_5.out
                    (first | subst eo66 | (injection eo66 with f1_ f2_ f3_; have f4_ := f1_.symm; have f5_ := f3_.symm; clear f1_ f2_ f3_; subst f4_; subst f5_))
                    have p153 : 0 ≤ (x12_3 : Int) := of_decide_eq_true (by first | (with_reducible assumption) | assumption)
                    have q153 : x12_3 < (x5_2.length : Int) := of_decide_eq_true (by first | (with_reducible assumption) | assumption)
                    obtain ⟨ad153, e153, hx153_0⟩ := Kd.at_int (Kd.R_reads' HO_5.out).2.2 x12_3 p153 q153
                    cases e153
                    replace p153 := eq_true p153
                    replace q153 := eq_true q153
                    refine start_ (n := 36) (S := fun w' => w'.cell? ⟨ad144.block, ad144.off + 7, none⟩ = some (.int .u32 (rd x11_3 7)) ∧ w'.cell? ⟨ad144.block, ad144.off + 5, none⟩ = some (.int .u32 (rd x11_3 5)) ∧ w'.cell? ⟨ad144.block, ad144.off + 6, none⟩ = some (.int .u32 (rd x11_3 6)) ∧ w'.cell? (ad152.add (x12_3).toNat) = some (.int .u32 (rd t138 x12_3)) ∧ w'.cell? (ad153.add (x12_3).toNat) = some (.int .u32 (rd x5_2 x12_3))) (ds := []) (Sx14.b 36 0) (by kernel_rfl) rfl rfl ⟨hx146_0, hx150_0, hx151_0, hx152_0, hx153_0⟩ (fun hHeld => ?_); refine with_tabW clearwayref02_block.tab20 clearwayref02_block.bits20 (fun HT_ HW_ => ?_)
                    generalize wr.drew = w64 at HO_5 HO_10 HO_11 HB hx146_0 hx150_0 hx151_0 hx152_0 hx153_0 hHeld ⊢
                    refine Sx14.p (i := 0) (N := some 135) HT_.out (Sx14.b 36 1) ?_
                    refine Sx14.p (i := 1) (N := some 136) HT_.out (Sx14.b 36 3) ?_
                    refine Sx14.p (i := 3) (N := some 138) HT_.out (Sx14.b 36 11) ?_
                    refine Sx14.p (i := 5) (N := some 140) HT_.out (Sx14.b 36 43) ?_
                    refine Sx14.p (i := 8) (N := some 143) HT_.out (Sx14.b 36 299) ?_
                    refine Sx14.p (i := 12) (N := some 147) HT_.out (Sx14.b 36 4395) ?_
                    refine Sx14.p (i := 13) (N := some 148) HT_.out (Sx14.b 36 12587) ?_
                    refine Sx14.p (i := 14) (N := some 149) HT_.out (Sx14.b 36 28971) ?_
                    refine Sx14.p (i := 17) (N := some 152) HT_.out (Sx14.b 36 160043) ?_
                    refine Sx14.p (i := 18) (N := some 153) HT_.out (Sx14.b 36 422187) ?_
                    refine Sx14.p (i := 19) (N := some 154) HT_.out (Sx14.b 36 946475) ?_
                    refine Sx14.p (i := 20) (N := some 155) HT_.out (Sx14.b 36 1995051) ?_
                    refine Sx14.p (i := 25) (N := some 160) HT_.out (Sx14.b 36 35549483) ?_
                    refine Sx14.p (i := 26) (N := some 161) HT_.out (Sx14.b 36 102658347) ?_
                    refine Sx14.p (i := 27) (N := some 162) HT_.out (Sx14.b 36 236876075) ?_
                    refine Sx14.p (i := 30) (N := some 165) HT_.out (Sx14.b 36 1310617899) ?_
                    refine Sx14.p (i := 31) (N := some 166) HT_.out (Sx14.b 36 3458101547) ?_
                    refine Sx14.p (i := 32) (N := some 167) HT_.out (Sx14.b 36 7753068843) ?_
                    refine take_ (i := 2) (N := some 137) (v := ?_) (a' := ?_) (Sx14.b 36 7753068847) rfl rfl (take_ofW HT_.out HW_.out (by kernel_rfl)) (fun _ _ _ h => h) (Or.inl ⟨by rfl, ?_⟩) hHeld ?_ ?_
                    rotate_left
                    ·rintro w' ⟨s0, s1, s2, s3, s4⟩
                     go_simp
                     with_reducible rfl
                    rotate_left
                    ·simp only [Act.put, Sx14.u, Sx14.v, Sx14.w, i64_w, i32_w]
                     rfl
                    refine take_ (i := 15) (N := some 150) (v := ?_) (a' := ?_) (Sx14.b 36 7753101615) rfl rfl (take_ofW HT_.out HW_.out (by kernel_rfl)) (fun _ _ _ h => h) (Or.inl ⟨by rfl, ?_⟩) hHeld ?_ ?_
                    rotate_left
                    ·rintro w' ⟨s0, s1, s2, s3, s4⟩
                     go_simp
                     with_reducible rfl
                    rotate_left
                    ·simp only [Act.put, Sx14.u, Sx14.v, Sx14.w, i64_w, i32_w]
                     rfl
                    refine Sx14.p (i := 16) (N := some 151) HT_.out (Sx14.b 36 7753167151) ?_
                    refine take_ (i := 21) (N := some 156) (v := ?_) (a' := ?_) (Sx14.b 36 7755264303) rfl rfl (take_ofW HT_.out HW_.out (by kernel_rfl)) (fun _ _ _ h => h) (Or.inl ⟨by rfl, ?_⟩) hHeld ?_ ?_
                    rotate_left
                    ·rintro w' ⟨s0, s1, s2, s3, s4⟩
                     go_simp
                     with_reducible rfl
                    rotate_left
                    ·simp only [Act.put, Sx14.u, Sx14.v, Sx14.w, i64_w, i32_w]
                     rfl
                    refine Sx14.p (i := 22) (N := some 157) HT_.out (Sx14.b 36 7759458607) ?_
                    refine Sx14.p (i := 23) (N := some 158) HT_.out (Sx14.b 36 7767847215) ?_
                    refine take_ (i := 28) (N := some 163) (v := ?_) (a' := ?_) (Sx14.b 36 8036282671) rfl rfl (take_ofW HT_.out HW_.out (by kernel_rfl)) (fun _ _ _ h => h) (Or.inl ⟨by rfl, ?_⟩) hHeld ?_ ?_
                    rotate_left
                    ·rintro w' ⟨s0, s1, s2, s3, s4⟩
                     go_simp
                     with_reducible rfl
                    rotate_left
                    ·simp only [Act.put, Sx14.u, Sx14.v, Sx14.w, i64_w, i32_w]
                     rfl
                    refine take_ (i := 33) (N := some 168) (v := ?_) (a' := ?_) (Sx14.b 36 16626217263) rfl rfl (take_ofW HT_.out HW_.out (by kernel_rfl)) (fun _ _ _ h => h) (Or.inl ⟨by rfl, ?_⟩) hHeld ?_ ?_
                    rotate_left
                    ·rintro w' ⟨s0, s1, s2, s3, s4⟩
                     go_simp
                     with_reducible rfl
                    rotate_left
                    ·simp only [Act.put, Sx14.u, Sx14.v, Sx14.w, i64_w, i32_w]
                     rfl
                    refine one_ (i := 4) (N := some 139) (Sx14.b 36 16626217279) rfl rfl (one_of HT_.out (by kernel_rfl)) (by decide) (fun K hK => ?_)
                    refine goes_ Tryz.func87 (by kernel_rfl) rfl #[.int .u32 (rd x11_3 4), .int .i64 6] (by rfl) rfl rfl (by (try simp only [List.map_toArray, List.map_cons, List.map_nil]); first | done | rfl | (simp only [List.length_drop, List.length_take]; rfl)) ?_
                    with_reducible refine (clearwayref02_rotated.calls (rd x11_3 4) 6 t147 _ A56.out).mono ?_
                    rintro e w' ⟨rfl, ⟨nd, rfl⟩⟩
                    refine ⟨_, rfl, ?_⟩
                    refine hK.out _ _ ⟨hHeld.1, hHeld.2.1, hHeld.2.2.1, hHeld.2.2.2.1, hHeld.2.2.2.2⟩ (fun hHeld => ?_)
                    clear hK K
                    refine norm_ (a' := ?_) ?_ ?_
                    rotate_left
                    ·show Act.put _ (some 139) _ = _
                     simp only [Act.put, Sx14.u, Sx14.v, Sx14.w, i64_w, i32_w]
                     rfl
                    refine one_ (i := 6) (N := some 141) (Sx14.b 36 16626217343) rfl rfl (one_of HT_.out (by kernel_rfl)) (by decide) (fun K hK => ?_)
                    refine goes_ Tryz.func87 (by kernel_rfl) rfl #[.int .u32 (rd x11_3 4), .int .i64 11] (by rfl) rfl rfl (by (try simp only [List.map_toArray, List.map_cons, List.map_nil]); first | done | rfl | (simp only [List.length_drop, List.length_take]; rfl)) ?_
                    with_reducible refine (clearwayref02_rotated.calls (rd x11_3 4) 11 t148 _ A57.out).mono ?_
                    rintro e w' ⟨rfl, ⟨nd, rfl⟩⟩
                    refine ⟨_, rfl, ?_⟩
                    refine hK.out _ _ ⟨hHeld.1, hHeld.2.1, hHeld.2.2.1, hHeld.2.2.2.1, hHeld.2.2.2.2⟩ (fun hHeld => ?_)
                    clear hK K
                    refine norm_ (a' := ?_) ?_ ?_
                    rotate_left
                    ·show Act.put _ (some 141) _ = _
                     simp only [Act.put, Sx14.u, Sx14.v, Sx14.w, i64_w, i32_w]
                     rfl
                    refine Sx14.p (i := 7) (N := some 142) HT_.out (Sx14.b 36 16626217471) ?_
                    refine one_ (i := 9) (N := some 144) (Sx14.b 36 16626217983) rfl rfl (one_of HT_.out (by kernel_rfl)) (by decide) (fun K hK => ?_)
                    refine goes_ Tryz.func87 (by kernel_rfl) rfl #[.int .u32 (rd x11_3 4), .int .i64 25] (by rfl) rfl rfl (by (try simp only [List.map_toArray, List.map_cons, List.map_nil]); first | done | rfl | (simp only [List.length_drop, List.length_take]; rfl)) ?_
                    with_reducible refine (clearwayref02_rotated.calls (rd x11_3 4) 25 t149 _ A58.out).mono ?_
                    rintro e w' ⟨rfl, ⟨nd, rfl⟩⟩
                    refine ⟨_, rfl, ?_⟩
                    refine hK.out _ _ ⟨hHeld.1, hHeld.2.1, hHeld.2.2.1, hHeld.2.2.2.1, hHeld.2.2.2.2⟩ (fun hHeld => ?_)
                    clear hK K
                    refine norm_ (a' := ?_) ?_ ?_
                    rotate_left
                    ·show Act.put _ (some 144) _ = _
                     simp only [Act.put, Sx14.u, Sx14.v, Sx14.w, i64_w, i32_w]
                     rfl
                    refine Sx14.p (i := 10) (N := some 145) HT_.out (Sx14.b 36 16626219007) ?_
                    refine Sx14.p (i := 11) (N := some 146) HT_.out (Sx14.b 36 16626221055) ?_
                    refine Sx14.p (i := 24) (N := some 159) HT_.out (Sx14.b 36 16642998271) ?_
                    refine Sx14.p (i := 29) (N := some 164) HT_.out (Sx14.b 36 17179869183) ?_
                    refine Sx14.p (i := 34) (N := some 169) HT_.out (Sx14.b 36 34359738367) ?_
                    refine Sx14.p (i := 35) (N := some 15) HT_.out (Sx14.b 36 68719476735) ?_
                    refine done_ (done_of HT_.out (by kernel_rfl)) ?_
                    try go_wp2
                    go_meet
                    case rel => exact ⟨_, (((((((((rd x11_3 7) + (Go.bits .xor .u32 (Go.bits .xor .u32 t147 t148) t149)) % 4294967296) + (Go.bits .xor .u32 (Go.bits .and .u32 (rd x11_3 4) (rd x11_3 5)) (Go.bits .and .u32 (Go.bits .xor .u32 IntKind.u32.max (rd x11_3 4)) (rd x11_3 6)))) % 4294967296) + (rd t138 x12_3)) % 4294967296) + (rd x5_2 x12_3)) % 4294967296), (by first | rfl | (simp; done) | (simp [*]; done)), H', ⟨by have := HK1.out; have := HK2.out; have := HK3.out; first | omega | exact Nat.le_refl _⟩, ⟨by (with_reducible repeat (first | apply Kd.R_alloc | apply Kd.R_drewN | apply Kd.R_drew)); exact HO_5.out⟩, ⟨by (with_reducible repeat (first | apply Kd.R_alloc | apply Kd.R_drewN | apply Kd.R_drew)); exact HO_10.out⟩, ⟨by (with_reducible repeat (first | apply Kd.R_alloc | apply Kd.R_drewN | apply Kd.R_drew)); exact HO_11.out⟩, ⟨by repeat (first | (with_reducible first | exact HB.out | apply below_alloc | apply pw_below_drewN | apply below_drew1) | exact HB.out)⟩⟩
                   ·rw [if_neg c63] at H
                    exact absurd H (by simp)
                  ·rw [if_neg c62] at H
                   exact absurd H (by simp)
                 ·rw [if_neg c61] at H
                  exact absurd H (by simp)
                ·rw [if_neg c60] at H
                 exact absurd H (by simp)
               ·rw [if_neg c59] at H
                exact absurd H (by simp)
              ·rw [if_neg c55] at H
               exact absurd H (by simp)
             case rest =>
              clear HC53
              try clear c1
              try clear p1
              try clear q1
              try clear hx1
              try clear qi1
              try clear c2
              try clear p2
              try clear c3
              try clear c3b0
              try clear c4
              try clear c5
              try clear c5b0
              try clear c6
              try clear c6b0
              try clear p6
              try clear c8
              try clear c8b0
              try clear c9
              try clear c9b0
              try clear c11
              try clear c11b0
              try clear p11
              try clear q11
              try clear hx11
              try clear c12
              try clear c12b0
              try clear p12
              try clear q12
              try clear hx12
              try clear p13
              try clear q13
              try clear hx13
              try clear c14
              try clear c14b0
              try clear p14
              try clear q14
              try clear hx14
              try clear qi14
              try clear c15
              try clear c15b0
              try clear p15
              try clear q15
              try clear hx15
              try clear qi15
              try clear c16
              try clear c19
              try clear c19b0
              try clear c22
              try clear c22b0
              try clear c23
              try clear c23b0
              try clear c30
              try clear c30b0
              try clear c31
              try clear c31b0
              try clear c37
              try clear c37b0
              try clear c38
              try clear c38b0
              try clear c40
              try clear c40b0
              try clear c41
              try clear c41b0
              try clear c42
              try clear c47
              try clear c50
              try clear c50b0
              try clear c51
              try clear c51b0
              try clear c51b1
              try clear c52
              try clear c52b0
              try clear c52b1
              try clear c55
              try clear c55b0
              try clear c55b1
              try clear c59
              try clear c59b0
              try clear c59b1
              try clear c60
              try clear c60b0
              try clear c60b1
              try clear c61
              try clear c61b0
              try clear c62
              try clear c62b0
              try clear c63
              try clear c63b0
              try clear hx116_0
              try clear hx117_0
              try clear hx118_0
              try clear hx119_0
              try clear hx123_0
              try clear hx125_0
              try clear hx127_0
              try clear hx128_0
              try clear hx130_0
              try clear hx132_0
              try clear hx133_0
              try clear hx134_0
              try clear hx144_0
              try clear hx145_0
              try clear hx146_0
              try clear hx150_0
              try clear hx151_0
              try clear hx152_0
              try clear hx153_0
              try clear p1
              try clear p11
              try clear p116
              try clear p117
              try clear p118
              try clear p119
              try clear p12
              try clear p123
              try clear p125
              try clear p127
              try clear p128
              try clear p13
              try clear p130
              try clear p132
              try clear p133
              try clear p134
              try clear p144
              try clear p145
              try clear p146
              try clear p150
              try clear p151
              try clear p152
              try clear p153
              try clear p2
              try clear p6
              try clear q1
              try clear q11
              try clear q116
              try clear q117
              try clear q118
              try clear q119
              try clear q12
              try clear q123
              try clear q125
              try clear q127
              try clear q128
              try clear q13
              try clear q130
              try clear q132
              try clear q133
              try clear q134
              try clear q144
              try clear q145
              try clear q146
              try clear q150
              try clear q151
              try clear q152
              try clear q153
              obtain ⟨kq, x15_52, rfl, HA, HJ52, HO_5, HO_10, HO_11, HB⟩ := hcut
              cases kq with
              | zero => exact absurd HA.out (by simp [clearwayref02_block.j5])
              | succ kj52 =>
               have H := HA.out
               clear HA
               simp only [clearwayref02_block.j5] at H
               have HC67 := Aside0.mk H
               clear H
               go_upto_region 21 with (fail)
               go_cut [16] (fun v16 wc => ∃ (kq : Nat) (x16_66 : Int), v16 = .int .u32 x16_66 ∧ Aside0 (clearwayref02_block.j6 kq l0 x5_2 t138 x11_3 x12_3 (rd x11_3 0) (rd x11_3 4) x15_52 x16_66 = some r) ∧ Aside0 (kq ≤ kj52) ∧ Aside0 (Kd.R (Kd.int .u32) 109 wc w.heap.size (fun k_ => some k_ ≠ (v139 : Value).ownBlock ∧ some k_ ≠ ((.slice (some ad144) x11_3.length co54) : Value).ownBlock) u5 x5_2) ∧ Aside0 (Kd.R (Kd.int .u32) 109 wc w.heap.size (fun k_ => some k_ ≠ (u5 : Value).ownBlock ∧ some k_ ≠ ((.slice (some ad144) x11_3.length co54) : Value).ownBlock) v139 t138) ∧ Aside0 (Kd.R (Kd.int .u32) 109 wc w.heap.size (fun k_ => some k_ ≠ (u5 : Value).ownBlock ∧ some k_ ≠ (v139 : Value).ownBlock) (.slice (some ad144) x11_3.length co54) x11_3) ∧ Aside0 (Below w.heap.size w wc))
               case first =>
                have H := HC67.out
                clear HC67
                replace H := Option.bind_eq_some_iff.mp H
                obtain ⟨t154, A680, H⟩ := H
                replace H : ((clearwayref02_rotated.f (rd x11_3 0) 13).bind fun t155 => ((clearwayref02_rotated.f (rd x11_3 0) 22).bind fun t156 => (if 1 < (x11_3.length : Int) then (if 2 < (x11_3.length : Int) then (clearwayref02_block.j6 kj52 l0 x5_2 t138 x11_3 x12_3 (rd x11_3 0) (rd x11_3 4) x15_52 (((Go.bits .xor .u32 (Go.bits .xor .u32 t154 t155) t156) + (Go.bits .xor .u32 (Go.bits .xor .u32 (Go.bits .and .u32 (rd x11_3 0) (rd x11_3 1)) (Go.bits .and .u32 (rd x11_3 0) (rd x11_3 2))) (Go.bits .and .u32 (rd x11_3 1) (rd x11_3 2)))) % 4294967296)) else (none)) else (none)))) = some r := H
                have A68 := Aside0.mk A680
                clear A680
                replace H := Option.bind_eq_some_iff.mp H
                obtain ⟨t155, A690, H⟩ := H
                replace H : ((clearwayref02_rotated.f (rd x11_3 0) 22).bind fun t156 => (if 1 < (x11_3.length : Int) then (if 2 < (x11_3.length : Int) then (clearwayref02_block.j6 kj52 l0 x5_2 t138 x11_3 x12_3 (rd x11_3 0) (rd x11_3 4) x15_52 (((Go.bits .xor .u32 (Go.bits .xor .u32 t154 t155) t156) + (Go.bits .xor .u32 (Go.bits .xor .u32 (Go.bits .and .u32 (rd x11_3 0) (rd x11_3 1)) (Go.bits .and .u32 (rd x11_3 0) (rd x11_3 2))) (Go.bits .and .u32 (rd x11_3 1) (rd x11_3 2)))) % 4294967296)) else (none)) else (none))) = some r := H
                have A69 := Aside0.mk A690
                clear A690
                replace H := Option.bind_eq_some_iff.mp H
                obtain ⟨t156, A700, H⟩ := H
                replace H : (if 1 < (x11_3.length : Int) then (if 2 < (x11_3.length : Int) then (clearwayref02_block.j6 kj52 l0 x5_2 t138 x11_3 x12_3 (rd x11_3 0) (rd x11_3 4) x15_52 (((Go.bits .xor .u32 (Go.bits .xor .u32 t154 t155) t156) + (Go.bits .xor .u32 (Go.bits .xor .u32 (Go.bits .and .u32 (rd x11_3 0) (rd x11_3 1)) (Go.bits .and .u32 (rd x11_3 0) (rd x11_3 2))) (Go.bits .and .u32 (rd x11_3 1) (rd x11_3 2)))) % 4294967296)) else (none)) else (none)) = some r := H
                have A70 := Aside0.mk A700
                clear A700
                by_cases c71 : 1 < (x11_3.length : Int)
                ·rw [if_pos c71] at H
                 have c71b0 := decide_eq_true c71
                 have c71b1 : decide (1 < x11_3.length) = true := decide_eq_true (by omega)
                 clear c71
                 (first | rw [c71b0] | (simp only [i64_w, i32_w]; rw [c71b0]) | skip)
                 by_cases c72 : 2 < (x11_3.length : Int)
                 ·rw [if_pos c72] at H
                  have c72b0 := decide_eq_true c72
                  have c72b1 : decide (2 < x11_3.length) = true := decide_eq_true (by omega)
                  clear c72
                  have H' := Aside0.mk H
                  clear H
                  try go_wp2
                  have n0_ := Aside0.mk (Kd.R_drew HO_5.out)
                  have n1_ := Aside0.mk (Kd.R_drew HO_10.out)
                  have n2_ := Aside0.mk (Kd.R_drew HO_11.out)
                  have n3_ := Aside0.mk (below_drew1 HB.out)
                  clear HO_5
                  clear HO_10
                  clear HO_11
                  clear HB
                  have HO_5 := n0_
                  have HO_10 := n1_
                  have HO_11 := n2_
                  have HB := n3_
                  clear n0_ n1_ n2_ n3_
                  have p157 : 0 ≤ (1 : Int) := (by omega)
                  have q157 : 1 < (x11_3.length : Int) := of_decide_eq_true (by first | (with_reducible assumption) | assumption)
                  obtain ⟨ad157, e157, hx157_0⟩ := Kd.at_int (Kd.R_reads' HO_11.out).2.2 1 p157 q157
                  obtain rfl : ad144 = ad157 := (by injection e157)
                  (try simp only [show (1 : Int).toNat = 1 from rfl, Nat.reduceMul, Nat.reduceEqDiff, Go.Addr.add, ↓reduceIte] at hx157_0)
                  have qi157 : (1 < x11_3.length) = True := eq_true (by omega)
                  (try rw [show ((1 : Int)).toNat = 1 from rfl] at hx157_0)
                  replace p157 := eq_true p157
                  replace q157 := eq_true q157
                  have p158 : 0 ≤ (2 : Int) := (by omega)
                  have q158 : 2 < (x11_3.length : Int) := of_decide_eq_true (by first | (with_reducible assumption) | assumption)
                  obtain ⟨ad158, e158, hx158_0⟩ := Kd.at_int (Kd.R_reads' HO_11.out).2.2 2 p158 q158
                  obtain rfl : ad144 = ad158 := (by injection e158)
                  (try simp only [show (2 : Int).toNat = 2 from rfl, Nat.reduceMul, Nat.reduceEqDiff, Go.Addr.add, ↓reduceIte] at hx158_0)
                  have qi158 : (2 < x11_3.length) = True := eq_true (by omega)
                  (try rw [show ((2 : Int)).toNat = 2 from rfl] at hx158_0)
                  replace p158 := eq_true p158
                  replace q158 := eq_true q158
                  have p159 : 0 ≤ (1 : Int) := (by omega)
                  have q159 : 1 < (x11_3.length : Int) := of_decide_eq_true (by first | (with_reducible assumption) | assumption)
                  obtain ⟨ad159, e159, hx159_0⟩ := Kd.at_int (Kd.R_reads' HO_11.out).2.2 1 p159 q159
                  obtain rfl : ad144 = ad159 := (by injection e159)
                  (try simp only [show (1 : Int).toNat = 1 from rfl, Nat.reduceMul, Nat.reduceEqDiff, Go.Addr.add, ↓reduceIte] at hx159_0)
                  have qi159 : (1 < x11_3.length) = True := eq_true (by omega)
                  (try rw [show ((1 : Int)).toNat = 1 from rfl] at hx159_0)
                  replace p159 := eq_true p159
                  replace q159 := eq_true q159
                  have p160 : 0 ≤ (2 : Int) := (by omega)
                  have q160 : 2 < (x11_3.length : Int) := of_decide_eq_true (by first | (with_reducible assumption) | assumption)
                  obtain ⟨ad160, e160, hx160_0⟩ := Kd.at_int (Kd.R_reads' HO_11.out).2.2 2 p160 q160
                  obtain rfl : ad144 = ad160 := (by injection e160)
                  (try simp only [show (2 : Int).toNat = 2 from rfl, Nat.reduceMul, Nat.reduceEqDiff, Go.Addr.add, ↓reduceIte] at hx160_0)
                  have qi160 : (2 < x11_3.length) = True := eq_true (by omega)
                  (try rw [show ((2 : Int)).toNat = 2 from rfl] at hx160_0)
                  replace p160 := eq_true p160
                  replace q160 := eq_true q160
                  refine start_ (n := 29) (S := fun w' => w'.cell? ⟨ad144.block, ad144.off + 1, none⟩ = some (.int .u32 (rd x11_3 1)) ∧ w'.cell? ⟨ad144.block, ad144.off + 2, none⟩ = some (.int .u32 (rd x11_3 2)) ∧ w'.cell? ⟨ad144.block, ad144.off + 1, none⟩ = some (.int .u32 (rd x11_3 1)) ∧ w'.cell? ⟨ad144.block, ad144.off + 2, none⟩ = some (.int .u32 (rd x11_3 2))) (ds := []) (Sx14.b 29 0) (by kernel_rfl) rfl rfl ⟨hx157_0, hx158_0, hx159_0, hx160_0⟩ (fun hHeld => ?_); refine with_tabW clearwayref02_block.tab21 clearwayref02_block.bits21 (fun HT_ HW_ => ?_)
                  generalize wc.drew = w73 at HO_5 HO_10 HO_11 HB hx157_0 hx158_0 hx159_0 hx160_0 hHeld ⊢
                  refine Sx14.p (i := 0) (N := some 170) HT_.out (Sx14.b 29 1) ?_
                  refine Sx14.p (i := 2) (N := some 172) HT_.out (Sx14.b 29 5) ?_
                  refine Sx14.p (i := 5) (N := some 175) HT_.out (Sx14.b 29 37) ?_
                  refine Sx14.p (i := 8) (N := some 178) HT_.out (Sx14.b 29 293) ?_
                  refine Sx14.p (i := 9) (N := some 179) HT_.out (Sx14.b 29 805) ?_
                  refine Sx14.p (i := 10) (N := some 180) HT_.out (Sx14.b 29 1829) ?_
                  refine Sx14.p (i := 13) (N := some 183) HT_.out (Sx14.b 29 10021) ?_
                  refine Sx14.p (i := 14) (N := some 184) HT_.out (Sx14.b 29 26405) ?_
                  refine Sx14.p (i := 15) (N := some 185) HT_.out (Sx14.b 29 59173) ?_
                  refine Sx14.p (i := 19) (N := some 189) HT_.out (Sx14.b 29 583461) ?_
                  refine Sx14.p (i := 20) (N := some 190) HT_.out (Sx14.b 29 1632037) ?_
                  refine Sx14.p (i := 22) (N := some 192) HT_.out (Sx14.b 29 5826341) ?_
                  refine Sx14.p (i := 23) (N := some 193) HT_.out (Sx14.b 29 14214949) ?_
                  refine take_ (i := 11) (N := some 181) (v := ?_) (a' := ?_) (Sx14.b 29 14216997) rfl rfl (take_ofW HT_.out HW_.out (by kernel_rfl)) (fun _ _ _ h => h) (Or.inl ⟨by rfl, ?_⟩) hHeld ?_ ?_
                  rotate_left
                  ·rintro w' ⟨s0, s1, s2, s3⟩
                   go_simp
                   with_reducible rfl
                  rotate_left
                  ·simp only [Act.put, Sx14.u, Sx14.v, Sx14.w, i64_w, i32_w]
                   rfl
                  refine Sx14.p (i := 12) (N := some 182) HT_.out (Sx14.b 29 14221093) ?_
                  refine take_ (i := 16) (N := some 186) (v := ?_) (a' := ?_) (Sx14.b 29 14286629) rfl rfl (take_ofW HT_.out HW_.out (by kernel_rfl)) (fun _ _ _ h => h) (Or.inl ⟨by rfl, ?_⟩) hHeld ?_ ?_
                  rotate_left
                  ·rintro w' ⟨s0, s1, s2, s3⟩
                   go_simp
                   with_reducible rfl
                  rotate_left
                  ·simp only [Act.put, Sx14.u, Sx14.v, Sx14.w, i64_w, i32_w]
                   rfl
                  refine Sx14.p (i := 17) (N := some 187) HT_.out (Sx14.b 29 14417701) ?_
                  refine Sx14.p (i := 18) (N := some 188) HT_.out (Sx14.b 29 14679845) ?_
                  refine take_ (i := 21) (N := some 191) (v := ?_) (a' := ?_) (Sx14.b 29 16776997) rfl rfl (take_ofW HT_.out HW_.out (by kernel_rfl)) (fun _ _ _ h => h) (Or.inl ⟨by rfl, ?_⟩) hHeld ?_ ?_
                  rotate_left
                  ·rintro w' ⟨s0, s1, s2, s3⟩
                   go_simp
                   with_reducible rfl
                  rotate_left
                  ·simp only [Act.put, Sx14.u, Sx14.v, Sx14.w, i64_w, i32_w]
                   rfl
                  refine take_ (i := 24) (N := some 194) (v := ?_) (a' := ?_) (Sx14.b 29 33554213) rfl rfl (take_ofW HT_.out HW_.out (by kernel_rfl)) (fun _ _ _ h => h) (Or.inl ⟨by rfl, ?_⟩) hHeld ?_ ?_
                  rotate_left
                  ·rintro w' ⟨s0, s1, s2, s3⟩
                   go_simp
                   with_reducible rfl
                  rotate_left
                  ·simp only [Act.put, Sx14.u, Sx14.v, Sx14.w, i64_w, i32_w]
                   rfl
                  refine Sx14.p (i := 25) (N := some 195) HT_.out (Sx14.b 29 67108645) ?_
                  refine Sx14.p (i := 26) (N := some 196) HT_.out (Sx14.b 29 134217509) ?_
                  refine one_ (i := 1) (N := some 171) (Sx14.b 29 134217511) rfl rfl (one_of HT_.out (by kernel_rfl)) (by decide) (fun K hK => ?_)
                  refine goes_ Tryz.func87 (by kernel_rfl) rfl #[.int .u32 (rd x11_3 0), .int .i64 2] (by rfl) rfl rfl (by (try simp only [List.map_toArray, List.map_cons, List.map_nil]); first | done | rfl | (simp only [List.length_drop, List.length_take]; rfl)) ?_
                  with_reducible refine (clearwayref02_rotated.calls (rd x11_3 0) 2 t154 _ A68.out).mono ?_
                  rintro e w' ⟨rfl, ⟨nd, rfl⟩⟩
                  refine ⟨_, rfl, ?_⟩
                  refine hK.out _ _ ⟨hHeld.1, hHeld.2.1, hHeld.2.2.1, hHeld.2.2.2⟩ (fun hHeld => ?_)
                  clear hK K
                  refine norm_ (a' := ?_) ?_ ?_
                  rotate_left
                  ·show Act.put _ (some 171) _ = _
                   simp only [Act.put, Sx14.u, Sx14.v, Sx14.w, i64_w, i32_w]
                   rfl
                  refine one_ (i := 3) (N := some 173) (Sx14.b 29 134217519) rfl rfl (one_of HT_.out (by kernel_rfl)) (by decide) (fun K hK => ?_)
                  refine goes_ Tryz.func87 (by kernel_rfl) rfl #[.int .u32 (rd x11_3 0), .int .i64 13] (by rfl) rfl rfl (by (try simp only [List.map_toArray, List.map_cons, List.map_nil]); first | done | rfl | (simp only [List.length_drop, List.length_take]; rfl)) ?_
                  with_reducible refine (clearwayref02_rotated.calls (rd x11_3 0) 13 t155 _ A69.out).mono ?_
                  rintro e w' ⟨rfl, ⟨nd, rfl⟩⟩
                  refine ⟨_, rfl, ?_⟩
                  refine hK.out _ _ ⟨hHeld.1, hHeld.2.1, hHeld.2.2.1, hHeld.2.2.2⟩ (fun hHeld => ?_)
                  clear hK K
                  refine norm_ (a' := ?_) ?_ ?_
                  rotate_left
                  ·show Act.put _ (some 173) _ = _
                   simp only [Act.put, Sx14.u, Sx14.v, Sx14.w, i64_w, i32_w]
                   rfl
                  refine Sx14.p (i := 4) (N := some 174) HT_.out (Sx14.b 29 134217535) ?_
                  refine one_ (i := 6) (N := some 176) (Sx14.b 29 134217599) rfl rfl (one_of HT_.out (by kernel_rfl)) (by decide) (fun K hK => ?_)
                  refine goes_ Tryz.func87 (by kernel_rfl) rfl #[.int .u32 (rd x11_3 0), .int .i64 22] (by rfl) rfl rfl (by (try simp only [List.map_toArray, List.map_cons, List.map_nil]); first | done | rfl | (simp only [List.length_drop, List.length_take]; rfl)) ?_
                  with_reducible refine (clearwayref02_rotated.calls (rd x11_3 0) 22 t156 _ A70.out).mono ?_
                  rintro e w' ⟨rfl, ⟨nd, rfl⟩⟩
                  refine ⟨_, rfl, ?_⟩
                  refine hK.out _ _ ⟨hHeld.1, hHeld.2.1, hHeld.2.2.1, hHeld.2.2.2⟩ (fun hHeld => ?_)
                  clear hK K
                  refine norm_ (a' := ?_) ?_ ?_
                  rotate_left
                  ·show Act.put _ (some 176) _ = _
                   simp only [Act.put, Sx14.u, Sx14.v, Sx14.w, i64_w, i32_w]
                   rfl
                  refine Sx14.p (i := 7) (N := some 177) HT_.out (Sx14.b 29 134217727) ?_
                  refine Sx14.p (i := 27) (N := some 197) HT_.out (Sx14.b 29 268435455) ?_
                  refine Sx14.p (i := 28) (N := some 16) HT_.out (Sx14.b 29 536870911) ?_
                  refine done_ (done_of HT_.out (by kernel_rfl)) ?_
                  try go_wp2
                  go_meet
                  case rel => exact ⟨_, (((Go.bits .xor .u32 (Go.bits .xor .u32 t154 t155) t156) + (Go.bits .xor .u32 (Go.bits .xor .u32 (Go.bits .and .u32 (rd x11_3 0) (rd x11_3 1)) (Go.bits .and .u32 (rd x11_3 0) (rd x11_3 2))) (Go.bits .and .u32 (rd x11_3 1) (rd x11_3 2)))) % 4294967296), (by first | rfl | (simp; done) | (simp [*]; done)), H', ⟨by have := HK1.out; have := HK2.out; have := HK3.out; have := HJ52.out; first | omega | exact Nat.le_refl _⟩, ⟨by (with_reducible repeat (first | apply Kd.R_alloc | apply Kd.R_drewN | apply Kd.R_drew)); exact HO_5.out⟩, ⟨by (with_reducible repeat (first | apply Kd.R_alloc | apply Kd.R_drewN | apply Kd.R_drew)); exact HO_10.out⟩, ⟨by (with_reducible repeat (first | apply Kd.R_alloc | apply Kd.R_drewN | apply Kd.R_drew)); exact HO_11.out⟩, ⟨by repeat (first | (with_reducible first | exact HB.out | apply below_alloc | apply pw_below_drewN | apply below_drew1) | exact HB.out)⟩⟩
                 ·rw [if_neg c72] at H
                  exact absurd H (by simp)
                ·rw [if_neg c71] at H
                 exact absurd H (by simp)
               case rest =>
                clear HC67
                try clear c1
                try clear p1
                try clear q1
                try clear hx1
                try clear qi1
                try clear c2
                try clear p2
                try clear c3
                try clear c3b0
                try clear c4
                try clear c5
                try clear c5b0
                try clear c6
                try clear c6b0
                try clear p6
                try clear c7
                try clear c8
                try clear c8b0
                try clear c9
                try clear c9b0
                try clear c11
                try clear c11b0
                try clear p11
                try clear q11
                try clear hx11
                try clear c12
                try clear c12b0
                try clear p12
                try clear q12
                try clear hx12
                try clear p13
                try clear q13
                try clear hx13
                try clear c14
                try clear c14b0
                try clear p14
                try clear q14
                try clear hx14
                try clear qi14
                try clear c15
                try clear c15b0
                try clear p15
                try clear q15
                try clear hx15
                try clear qi15
                try clear c16
                try clear p16
                try clear q16
                try clear hx16
                try clear qi16
                try clear c19
                try clear c19b0
                try clear c22
                try clear c22b0
                try clear c23
                try clear c23b0
                try clear c30
                try clear c30b0
                try clear c31
                try clear c31b0
                try clear c37
                try clear c37b0
                try clear c38
                try clear c38b0
                try clear c40
                try clear c40b0
                try clear c41
                try clear c41b0
                try clear c42
                try clear c47
                try clear c50
                try clear c50b0
                try clear c51
                try clear c51b0
                try clear c51b1
                try clear c52
                try clear c52b0
                try clear c52b1
                try clear c55
                try clear c55b0
                try clear c55b1
                try clear c59
                try clear c59b0
                try clear c59b1
                try clear c60
                try clear c60b0
                try clear c60b1
                try clear c61
                try clear c61b0
                try clear c62
                try clear c62b0
                try clear c63
                try clear c63b0
                try clear c71
                try clear c71b0
                try clear c71b1
                try clear c72
                try clear c72b0
                try clear c72b1
                try clear hx116_0
                try clear hx117_0
                try clear hx118_0
                try clear hx119_0
                try clear hx123_0
                try clear hx125_0
                try clear hx127_0
                try clear hx128_0
                try clear hx130_0
                try clear hx132_0
                try clear hx133_0
                try clear hx134_0
                try clear hx144_0
                try clear hx145_0
                try clear hx146_0
                try clear hx150_0
                try clear hx151_0
                try clear hx152_0
                try clear hx153_0
                try clear hx157_0
                try clear hx158_0
                try clear hx159_0
                try clear hx160_0
                try clear p1
                try clear p11
                try clear p116
                try clear p117
                try clear p118
                try clear p119
                try clear p12
                try clear p123
                try clear p125
                try clear p127
                try clear p128
                try clear p13
                try clear p130
                try clear p132
                try clear p133
                try clear p134
                try clear p14
                try clear p144
                try clear p145
                try clear p146
                try clear p15
                try clear p150
                try clear p151
                try clear p152
                try clear p153
                try clear p157
                try clear p158
                try clear p159
                try clear p160
                try clear p2
                try clear p6
                try clear q1
                try clear q11
                try clear q116
                try clear q117
                try clear q118
                try clear q119
                try clear q12
                try clear q123
                try clear q125
                try clear q127
                try clear q128
                try clear q13
                try clear q130
                try clear q132
                try clear q133
                try clear q134
                try clear q14
                try clear q144
                try clear q145
                try clear q146
                try clear q15
                try clear q150
                try clear q151
                try clear q152
                try clear q153
                try clear q157
                try clear q158
                try clear q159
                try clear q160
                obtain ⟨kq, x16_66, rfl, HA, HJ66, HO_5, HO_10, HO_11, HB⟩ := hcut
                cases kq with
                | zero => exact absurd HA.out (by simp [clearwayref02_block.j6])
                | succ kj66 =>
                 have H := HA.out
                 clear HA
                 simp only [clearwayref02_block.j6] at H
                 by_cases c74 : 1 < (x11_3.length : Int)
                 ·rw [if_pos c74] at H
                  have c74b0 := decide_eq_true c74
                  have c74b1 : decide (1 < x11_3.length) = true := decide_eq_true (by omega)
                  clear c74
                  by_cases c75 : 2 < (x11_3.length : Int)
                  ·rw [if_pos c75] at H
                   have c75b0 := decide_eq_true c75
                   have c75b1 : decide (2 < x11_3.length) = true := decide_eq_true (by omega)
                   clear c75
                   by_cases c76 : 3 < (x11_3.length : Int)
                   ·rw [if_pos c76] at H
                    have c76b0 := decide_eq_true c76
                    have c76b1 : decide (3 < x11_3.length) = true := decide_eq_true (by omega)
                    clear c76
                    by_cases c77 : 5 < (x11_3.length : Int)
                    ·rw [if_pos c77] at H
                     have c77b0 := decide_eq_true c77
                     have c77b1 : decide (5 < x11_3.length) = true := decide_eq_true (by omega)
                     clear c77
                     by_cases c78 : 6 < (x11_3.length : Int)
                     ·rw [if_pos c78] at H
                      have c78b0 := decide_eq_true c78
                      have c78b1 : decide (6 < x11_3.length) = true := decide_eq_true (by omega)
                      clear c78
                      obtain ⟨y166, hy166⟩ : ∃ y_ : List Int, y_ = (([(x15_52 + x16_66) % 4294967296, (rd x11_3 0), rd x11_3 1, rd x11_3 2, ((rd x11_3 3) + x15_52) % 4294967296, (rd x11_3 4), rd x11_3 5, rd x11_3 6] : List Int)) := ⟨_, rfl⟩
                      replace H : (clearwayref02_block.l2 kj66 l0 x5_2 t138 y166 (wrap64 (x12_3 + 1))) = some r := by first | (rw [hy166]; with_reducible exact H) | (have H2_ := (Option.bind_some _ _).symm.trans H; rw [hy166]; with_reducible exact H2_) | (have H2_ := (Option.bind_some _ _).symm.trans H; with_reducible exact H2_) | with_reducible exact H | (rw [hy166]; exact H) | exact H
                      have Ny166 := Aside0.mk hy166
                      clear hy166
                      have H' := Aside0.mk H
                      clear H
                      try go_wp2
                      have n0_ := Aside0.mk (Kd.R_drew HO_5.out)
                      have n1_ := Aside0.mk (Kd.R_drew HO_10.out)
                      have n2_ := Aside0.mk (Kd.R_drew HO_11.out)
                      have n3_ := Aside0.mk (below_drew1 HB.out)
                      clear HO_5
                      clear HO_10
                      clear HO_11
                      clear HB
                      have HO_5 := n0_
                      have HO_10 := n1_
                      have HO_11 := n2_
                      have HB := n3_
                      clear n0_ n1_ n2_ n3_
                      have p161 : 0 ≤ (1 : Int) := (by omega)
                      have q161 : 1 < (x11_3.length : Int) := of_decide_eq_true (by first | (with_reducible assumption) | assumption)
                      obtain ⟨ad161, e161, hx161_0⟩ := Kd.at_int (Kd.R_reads' HO_11.out).2.2 1 p161 q161
                      obtain rfl : ad144 = ad161 := (by injection e161)
                      (try simp only [show (1 : Int).toNat = 1 from rfl, Nat.reduceMul, Nat.reduceEqDiff, Go.Addr.add, ↓reduceIte] at hx161_0)
                      have qi161 : (1 < x11_3.length) = True := eq_true (by omega)
                      (try rw [show ((1 : Int)).toNat = 1 from rfl] at hx161_0)
                      replace p161 := eq_true p161
                      replace q161 := eq_true q161
                      have p162 : 0 ≤ (2 : Int) := (by omega)
                      have q162 : 2 < (x11_3.length : Int) := of_decide_eq_true (by first | (with_reducible assumption) | assumption)
                      obtain ⟨ad162, e162, hx162_0⟩ := Kd.at_int (Kd.R_reads' HO_11.out).2.2 2 p162 q162
                      obtain rfl : ad144 = ad162 := (by injection e162)
                      (try simp only [show (2 : Int).toNat = 2 from rfl, Nat.reduceMul, Nat.reduceEqDiff, Go.Addr.add, ↓reduceIte] at hx162_0)
                      have qi162 : (2 < x11_3.length) = True := eq_true (by omega)
                      (try rw [show ((2 : Int)).toNat = 2 from rfl] at hx162_0)
                      replace p162 := eq_true p162
                      replace q162 := eq_true q162
                      have p163 : 0 ≤ (3 : Int) := (by omega)
                      have q163 : 3 < (x11_3.length : Int) := of_decide_eq_true (by first | (with_reducible assumption) | assumption)
                      obtain ⟨ad163, e163, hx163_0⟩ := Kd.at_int (Kd.R_reads' HO_11.out).2.2 3 p163 q163
                      obtain rfl : ad144 = ad163 := (by injection e163)
                      (try simp only [show (3 : Int).toNat = 3 from rfl, Nat.reduceMul, Nat.reduceEqDiff, Go.Addr.add, ↓reduceIte] at hx163_0)
                      have qi163 : (3 < x11_3.length) = True := eq_true (by omega)
                      (try rw [show ((3 : Int)).toNat = 3 from rfl] at hx163_0)
                      replace p163 := eq_true p163
                      replace q163 := eq_true q163
                      have p164 : 0 ≤ (5 : Int) := (by omega)
                      have q164 : 5 < (x11_3.length : Int) := of_decide_eq_true (by first | (with_reducible assumption) | assumption)
                      obtain ⟨ad164, e164, hx164_0⟩ := Kd.at_int (Kd.R_reads' HO_11.out).2.2 5 p164 q164
                      obtain rfl : ad144 = ad164 := (by injection e164)
                      (try simp only [show (5 : Int).toNat = 5 from rfl, Nat.reduceMul, Nat.reduceEqDiff, Go.Addr.add, ↓reduceIte] at hx164_0)
                      have qi164 : (5 < x11_3.length) = True := eq_true (by omega)
                      (try rw [show ((5 : Int)).toNat = 5 from rfl] at hx164_0)
                      replace p164 := eq_true p164
                      replace q164 := eq_true q164
                      have p165 : 0 ≤ (6 : Int) := (by omega)
                      have q165 : 6 < (x11_3.length : Int) := of_decide_eq_true (by first | (with_reducible assumption) | assumption)
                      obtain ⟨ad165, e165, hx165_0⟩ := Kd.at_int (Kd.R_reads' HO_11.out).2.2 6 p165 q165
                      obtain rfl : ad144 = ad165 := (by injection e165)
                      (try simp only [show (6 : Int).toNat = 6 from rfl, Nat.reduceMul, Nat.reduceEqDiff, Go.Addr.add, ↓reduceIte] at hx165_0)
                      have qi165 : (6 < x11_3.length) = True := eq_true (by omega)
                      (try rw [show ((6 : Int)).toNat = 6 from rfl] at hx165_0)
                      replace p165 := eq_true p165
                      replace q165 := eq_true q165
                      refine start_ (n := 24) (S := fun w' => w'.cell? ⟨ad144.block, ad144.off + 1, none⟩ = some (.int .u32 (rd x11_3 1)) ∧ w'.cell? ⟨ad144.block, ad144.off + 2, none⟩ = some (.int .u32 (rd x11_3 2)) ∧ w'.cell? ⟨ad144.block, ad144.off + 3, none⟩ = some (.int .u32 (rd x11_3 3)) ∧ w'.cell? ⟨ad144.block, ad144.off + 5, none⟩ = some (.int .u32 (rd x11_3 5)) ∧ w'.cell? ⟨ad144.block, ad144.off + 6, none⟩ = some (.int .u32 (rd x11_3 6))) (ds := []) (Sx14.b 24 0) (by kernel_rfl) rfl rfl ⟨hx161_0, hx162_0, hx163_0, hx164_0, hx165_0⟩ (fun hHeld => ?_); refine with_tabW clearwayref02_block.tab22 clearwayref02_block.bits22 (fun HT_ HW_ => ?_)
                      generalize wc.drew = w79 at HO_5 HO_10 HO_11 HB hx161_0 hx162_0 hx163_0 hx164_0 hx165_0 hHeld ⊢
                      refine Sx14.p (i := 0) (N := some 198) HT_.out (Sx14.b 24 1) ?_
                      refine Sx14.p (i := 1) (N := some 199) HT_.out (Sx14.b 24 3) ?_
                      refine Sx14.p (i := 2) (N := some 200) HT_.out (Sx14.b 24 7) ?_
                      refine Sx14.p (i := 3) (N := some 201) HT_.out (Sx14.b 24 15) ?_
                      refine Sx14.p (i := 4) (N := some 202) HT_.out (Sx14.b 24 31) ?_
                      refine Sx14.p (i := 5) (N := some 203) HT_.out (Sx14.b 24 63) ?_
                      refine Sx14.p (i := 7) (N := some 205) HT_.out (Sx14.b 24 191) ?_
                      refine Sx14.p (i := 8) (N := some 206) HT_.out (Sx14.b 24 447) ?_
                      refine Sx14.p (i := 10) (N := some 208) HT_.out (Sx14.b 24 1471) ?_
                      refine Sx14.p (i := 11) (N := some 209) HT_.out (Sx14.b 24 3519) ?_
                      refine Sx14.p (i := 13) (N := some 211) HT_.out (Sx14.b 24 11711) ?_
                      refine Sx14.p (i := 15) (N := some 213) HT_.out (Sx14.b 24 44479) ?_
                      refine Sx14.p (i := 16) (N := some 214) HT_.out (Sx14.b 24 110015) ?_
                      refine Sx14.p (i := 17) (N := some 215) HT_.out (Sx14.b 24 241087) ?_
                      refine Sx14.p (i := 19) (N := some 217) HT_.out (Sx14.b 24 765375) ?_
                      refine Sx14.p (i := 20) (N := some 218) HT_.out (Sx14.b 24 1813951) ?_
                      refine take_ (i := 6) (N := some 204) (v := ?_) (a' := ?_) (Sx14.b 24 1814015) rfl rfl (take_ofW HT_.out HW_.out (by kernel_rfl)) (fun _ _ _ h => h) (Or.inl ⟨by rfl, ?_⟩) hHeld ?_ ?_
                      rotate_left
                      ·rintro w' ⟨s0, s1, s2, s3, s4⟩
                       go_simp
                       with_reducible rfl
                      rotate_left
                      ·simp only [Act.put, Sx14.u, Sx14.v, Sx14.w, i64_w, i32_w]
                       rfl
                      refine take_ (i := 9) (N := some 207) (v := ?_) (a' := ?_) (Sx14.b 24 1814527) rfl rfl (take_ofW HT_.out HW_.out (by kernel_rfl)) (fun _ _ _ h => h) (Or.inl ⟨by rfl, ?_⟩) hHeld ?_ ?_
                      rotate_left
                      ·rintro w' ⟨s0, s1, s2, s3, s4⟩
                       go_simp
                       with_reducible rfl
                      rotate_left
                      ·simp only [Act.put, Sx14.u, Sx14.v, Sx14.w, i64_w, i32_w]
                       rfl
                      refine take_ (i := 12) (N := some 210) (v := ?_) (a' := ?_) (Sx14.b 24 1818623) rfl rfl (take_ofW HT_.out HW_.out (by kernel_rfl)) (fun _ _ _ h => h) (Or.inl ⟨by rfl, ?_⟩) hHeld ?_ ?_
                      rotate_left
                      ·rintro w' ⟨s0, s1, s2, s3, s4⟩
                       go_simp
                       with_reducible rfl
                      rotate_left
                      ·simp only [Act.put, Sx14.u, Sx14.v, Sx14.w, i64_w, i32_w]
                       rfl
                      refine Sx14.p (i := 14) (N := some 212) HT_.out (Sx14.b 24 1835007) ?_
                      refine take_ (i := 18) (N := some 216) (v := ?_) (a' := ?_) (Sx14.b 24 2097151) rfl rfl (take_ofW HT_.out HW_.out (by kernel_rfl)) (fun _ _ _ h => h) (Or.inl ⟨by rfl, ?_⟩) hHeld ?_ ?_
                      rotate_left
                      ·rintro w' ⟨s0, s1, s2, s3, s4⟩
                       go_simp
                       with_reducible rfl
                      rotate_left
                      ·simp only [Act.put, Sx14.u, Sx14.v, Sx14.w, i64_w, i32_w]
                       rfl
                      refine take_ (i := 21) (N := some 219) (v := ?_) (a' := ?_) (Sx14.b 24 4194303) rfl rfl (take_ofW HT_.out HW_.out (by kernel_rfl)) (fun _ _ _ h => h) (Or.inl ⟨by rfl, ?_⟩) hHeld ?_ ?_
                      rotate_left
                      ·rintro w' ⟨s0, s1, s2, s3, s4⟩
                       go_simp
                       with_reducible rfl
                      rotate_left
                      ·simp only [Act.put, Sx14.u, Sx14.v, Sx14.w, i64_w, i32_w]
                       rfl
                      refine one_ (i := 22) (N := some 220) (Sx14.b 24 8388607) rfl rfl (one_of HT_.out (by kernel_rfl)) (by decide) (fun K hK => ?_)
                      refine Kd.R_lit_step (Kd.int .u32) _ 109 ?hg (N := 220) ?hd (xs := ([(x15_52 + x16_66) % 4294967296, (rd x11_3 0), rd x11_3 1, rd x11_3 2, ((rd x11_3 3) + x15_52) % 4294967296, (rd x11_3 4), rd x11_3 5, rd x11_3 6] : List Int)) (inner := [.int .u32 ((x15_52 + x16_66) % 4294967296), .int .u32 (rd x11_3 0), .int .u32 (rd x11_3 1), .int .u32 (rd x11_3 2), .int .u32 (((rd x11_3 3) + x15_52) % 4294967296), .int .u32 (rd x11_3 4), .int .u32 (rd x11_3 5), .int .u32 (rd x11_3 6)]) (ok := fun _ => True) (okp := fun _ => True) ?hr ?hp (fun _ hk => hk) trivial (Below.refl _ _) (Nat.le_refl _) (by simp) ?_; (case hd => rfl); (case hg => rfl); (case hr => first | (go_simp; done) | (go_simp; rfl) | (go_simp; simp only [IntKind.wrap_u32]; rfl)); (case hp => exact (Reps.one (show Kd.M (Kd.int .u32) _ _ _ ((x15_52 + x16_66) % 4294967296) [.int .u32 ((x15_52 + x16_66) % 4294967296)] from rfl) (Reps.one (show Kd.M (Kd.int .u32) _ _ _ (rd x11_3 0) [.int .u32 (rd x11_3 0)] from rfl) (Reps.one (show Kd.M (Kd.int .u32) _ _ _ (rd x11_3 1) [.int .u32 (rd x11_3 1)] from rfl) (Reps.one (show Kd.M (Kd.int .u32) _ _ _ (rd x11_3 2) [.int .u32 (rd x11_3 2)] from rfl) (Reps.one (show Kd.M (Kd.int .u32) _ _ _ (((rd x11_3 3) + x15_52) % 4294967296) [.int .u32 (((rd x11_3 3) + x15_52) % 4294967296)] from rfl) (Reps.one (show Kd.M (Kd.int .u32) _ _ _ (rd x11_3 4) [.int .u32 (rd x11_3 4)] from rfl) (Reps.one (show Kd.M (Kd.int .u32) _ _ _ (rd x11_3 5) [.int .u32 (rd x11_3 5)] from rfl) (Reps.one (show Kd.M (Kd.int .u32) _ _ _ (rd x11_3 6) [.int .u32 (rd x11_3 6)] from rfl) (Reps.none _ _))))))))))
                      intro v167 w80 ho81 hb hg_ hnew_
                      have HS0_ := (hb.cell (World.block_lt_of_cell? _ _ (hHeld.1))).trans (hHeld.1)
                      have HS1_ := (hb.cell (World.block_lt_of_cell? _ _ (hHeld.2.1))).trans (hHeld.2.1)
                      have HS2_ := (hb.cell (World.block_lt_of_cell? _ _ (hHeld.2.2.1))).trans (hHeld.2.2.1)
                      have HS3_ := (hb.cell (World.block_lt_of_cell? _ _ (hHeld.2.2.2.1))).trans (hHeld.2.2.2.1)
                      have HS4_ := (hb.cell (World.block_lt_of_cell? _ _ (hHeld.2.2.2.2))).trans (hHeld.2.2.2.2)
                      clear hg_ hnew_
                      (first | rw [← Ny166.out] at ho81 | (simp only [Int.reduceToNat] at ho81; rw [← Ny166.out] at ho81))
                      have n0_ := Aside0.mk (Kd.R_elder' (by (with_reducible repeat (first | apply Kd.R_alloc | apply Kd.R_drewN | apply Kd.R_drew)); exact HO_5.out) (Kd.R_base ho81) hb)
                      have n1_ := Aside0.mk (Kd.R_elder' (by (with_reducible repeat (first | apply Kd.R_alloc | apply Kd.R_drewN | apply Kd.R_drew)); exact HO_10.out) (Kd.R_base ho81) hb)
                      have n2_ := Aside0.mk (Kd.R_elder' (by (with_reducible repeat (first | apply Kd.R_alloc | apply Kd.R_drewN | apply Kd.R_drew)); exact HO_11.out) (Kd.R_base ho81) hb)
                      have n3_ := Aside0.mk (Kd.R_lower (Kd.R_new' (Kd.R_new' (Kd.R_new' ho81 (Kd.R_lt (by (with_reducible repeat (first | apply Kd.R_alloc | apply Kd.R_drewN | apply Kd.R_drew)); exact HO_5.out))) (Kd.R_lt (by (with_reducible repeat (first | apply Kd.R_alloc | apply Kd.R_drewN | apply Kd.R_drew)); exact HO_10.out))) (Kd.R_lt (by (with_reducible repeat (first | apply Kd.R_alloc | apply Kd.R_drewN | apply Kd.R_drew)); exact HO_11.out))) (below_size (by repeat (first | (with_reducible first | exact HB.out | apply below_alloc | apply pw_below_drewN | apply below_drew1) | exact HB.out))))
                      have n4_ := Aside0.mk (below_step (by repeat (first | (with_reducible first | exact HB.out | apply below_alloc | apply pw_below_drewN | apply below_drew1) | exact HB.out)) hb)
                      clear HO_5
                      clear HO_10
                      clear HO_11
                      clear HB
                      have HO_5 := n0_
                      have HO_10 := n1_
                      have HO_11 := n2_
                      have HO168 := n3_
                      have HB := n4_
                      clear n0_ n1_ n2_ n3_ n4_
                      clear hb ho81
                      refine hK.out _ _ ⟨HS0_, HS1_, HS2_, HS3_, HS4_⟩ (fun hHeld => ?_)
                      clear hK K
                      refine norm_ (a' := ?_) ?_ ?_
                      rotate_left
                      ·show Act.put _ (some 220) _ = _
                       simp only [Act.put, Sx14.u, Sx14.v, Sx14.w, i64_w, i32_w]
                       rfl
                      refine Sx14.p (i := 23) (N := some 11) HT_.out (Sx14.b 24 16777215) ?_
                      refine done_ (done_of HT_.out (by kernel_rfl)) ?_
                      try go_wp2
                      go_roundg kj66
                      case measure => have := HK1.out; have := HK2.out; have := HK3.out; have := HJ52.out; have := HJ66.out; omega
                      case rel => exact ⟨(y166), (wrap64 (x12_3 + 1)), (by first | rfl | (simp; done) | (simp [*]; done)), H', ⟨by have := HK1.out; have := HK2.out; have := HK3.out; have := HJ52.out; have := HJ66.out; omega⟩, ⟨by (with_reducible repeat (first | apply Kd.R_alloc | apply Kd.R_drewN | apply Kd.R_drew)); exact Kd.R_mono HO_5.out (fun _ hk => ⟨hk.1.1, hk.2⟩)⟩, ⟨by (with_reducible repeat (first | apply Kd.R_alloc | apply Kd.R_drewN | apply Kd.R_drew)); exact Kd.R_mono HO_10.out (fun _ hk => ⟨hk.1.1, hk.2⟩)⟩, ⟨by (with_reducible repeat (first | apply Kd.R_alloc | apply Kd.R_drewN | apply Kd.R_drew)); exact Kd.R_mono HO168.out (fun _ hk => ⟨hk.1.1.2, hk.1.2⟩)⟩, ⟨by repeat (first | (with_reducible first | exact HB.out | apply below_alloc | apply pw_below_drewN | apply below_drew1) | exact HB.out)⟩⟩
                     ·rw [if_neg c78] at H
                      exact absurd H (by simp)
                    ·rw [if_neg c77] at H
                     exact absurd H (by simp)
                   ·rw [if_neg c76] at H
                    exact absurd H (by simp)
                  ·rw [if_neg c75] at H
                   exact absurd H (by simp)
                 ·rw [if_neg c74] at H
                  exact absurd H (by simp)
            ·rw [if_neg c52] at H
             exact absurd H (by simp)
           ·rw [if_neg c51] at H
            exact absurd H (by simp)
          ·rw [if_neg c50] at H
           have c50b0 := decide_eq_false c50
           clear c50
           have H' := Aside0.mk H
           clear H
           go_wp2
           go_loopg [17, 18] k3 (fun kq v17 v18 w' => ∃ (x17_4 : List Int) (x18_4 : Int), v18 = .int .i64 x18_4 ∧ Aside0 (clearwayref02_block.l3 kq l0 x11_3 x17_4 x18_4 = some r) ∧ Aside0 (kq ≤ k3) ∧ Aside0 (Kd.R (Kd.int .u32) 109 w' w.heap.size (fun k_ => some k_ ≠ (v17 : Value).ownBlock) u11 x11_3) ∧ Aside0 (Kd.R (Kd.int .u32) 109 w' w.heap.size (fun k_ => some k_ ≠ (u11 : Value).ownBlock) v17 x17_4) ∧ Aside0 (Below w.heap.size w w'))
           case atStart => exact ⟨(([] : List Int)), (0), (by first | rfl | (simp; done) | (simp [*]; done)), H', ⟨Nat.le_refl _⟩, ⟨by (with_reducible repeat (first | apply Kd.R_alloc | apply Kd.R_drewN | apply Kd.R_drew)); exact Kd.R_mono HO_11.out (fun _ hk => (by simp [Value.ownBlock]))⟩, ⟨by first | exact Kd.R_nil _ _ _ _ _ | exact Kd.N_nil _ _ _ _ _ | exact Kd.V_nil _ _ _ _ _ | exact Kd.Q_nil _ _ _ _ _ | exact Kd.S_nil _ _ _ _ _⟩, ⟨by repeat (first | (with_reducible first | exact HB.out | apply below_alloc | apply pw_below_drewN | apply below_drew1) | exact HB.out)⟩⟩
           case round =>
            clear H'
            try clear c1
            try clear p1
            try clear q1
            try clear hx1
            try clear qi1
            try clear c2
            try clear p2
            try clear c3
            try clear c3b0
            try clear c4
            try clear c5
            try clear c5b0
            try clear c6
            try clear c6b0
            try clear p6
            try clear c7
            try clear c8
            try clear c8b0
            try clear c9
            try clear c9b0
            try clear c11
            try clear c11b0
            try clear p11
            try clear q11
            try clear hx11
            try clear c12
            try clear c12b0
            try clear p12
            try clear q12
            try clear hx12
            try clear p13
            try clear q13
            try clear hx13
            try clear c14
            try clear c14b0
            try clear p14
            try clear q14
            try clear hx14
            try clear qi14
            try clear c15
            try clear c15b0
            try clear p15
            try clear q15
            try clear hx15
            try clear qi15
            try clear c16
            try clear p16
            try clear q16
            try clear hx16
            try clear qi16
            try clear c19
            try clear c19b0
            try clear c22
            try clear c22b0
            try clear c23
            try clear c23b0
            try clear c30
            try clear c30b0
            try clear c31
            try clear c31b0
            try clear c37
            try clear c37b0
            try clear c38
            try clear c38b0
            try clear c40
            try clear c40b0
            try clear c41
            try clear c41b0
            try clear c42
            try clear c47
            try clear c50
            try clear c50b0
            try clear c51
            try clear c51b0
            try clear c51b1
            try clear c52
            try clear c52b0
            try clear c52b1
            try clear c55
            try clear c55b0
            try clear c55b1
            try clear c59
            try clear c59b0
            try clear c59b1
            try clear c60
            try clear c60b0
            try clear c60b1
            try clear c61
            try clear c61b0
            try clear c62
            try clear c62b0
            try clear c63
            try clear c63b0
            try clear p64
            try clear c71
            try clear c71b0
            try clear c71b1
            try clear c72
            try clear c72b0
            try clear c72b1
            try clear c74
            try clear c74b0
            try clear c74b1
            try clear c75
            try clear c75b0
            try clear c75b1
            try clear c76
            try clear c76b0
            try clear c76b1
            try clear c77
            try clear c77b0
            try clear c77b1
            try clear c78
            try clear c78b0
            try clear c78b1
            try clear hx116_0
            try clear hx117_0
            try clear hx118_0
            try clear hx119_0
            try clear hx123_0
            try clear hx125_0
            try clear hx127_0
            try clear hx128_0
            try clear hx130_0
            try clear hx132_0
            try clear hx133_0
            try clear hx134_0
            try clear hx144_0
            try clear hx145_0
            try clear hx146_0
            try clear hx150_0
            try clear hx151_0
            try clear hx152_0
            try clear hx153_0
            try clear hx157_0
            try clear hx158_0
            try clear hx159_0
            try clear hx160_0
            try clear hx161_0
            try clear hx162_0
            try clear hx163_0
            try clear hx164_0
            try clear hx165_0
            try clear p1
            try clear p11
            try clear p116
            try clear p117
            try clear p118
            try clear p119
            try clear p12
            try clear p123
            try clear p125
            try clear p127
            try clear p128
            try clear p13
            try clear p130
            try clear p132
            try clear p133
            try clear p134
            try clear p14
            try clear p144
            try clear p145
            try clear p146
            try clear p15
            try clear p150
            try clear p151
            try clear p152
            try clear p153
            try clear p157
            try clear p158
            try clear p159
            try clear p16
            try clear p160
            try clear p161
            try clear p162
            try clear p163
            try clear p164
            try clear p165
            try clear p2
            try clear p6
            try clear q1
            try clear q11
            try clear q116
            try clear q117
            try clear q118
            try clear q119
            try clear q12
            try clear q123
            try clear q125
            try clear q127
            try clear q128
            try clear q13
            try clear q130
            try clear q132
            try clear q133
            try clear q134
            try clear q14
            try clear q144
            try clear q145
            try clear q146
            try clear q15
            try clear q150
            try clear q151
            try clear q152
            try clear q153
            try clear q157
            try clear q158
            try clear q159
            try clear q16
            try clear q160
            try clear q161
            try clear q162
            try clear q163
            try clear q164
            try clear q165
            obtain ⟨x17_4, x18_4, rfl, HA, HK4, HO_11, HO_17, HB⟩ := hrel
            cases gk with
            | zero => exact absurd HA.out (by simp [clearwayref02_block.l3])
            | succ k4 =>
             have H := HA.out
             clear HA
             simp only [clearwayref02_block.l3] at H
             by_cases c82 : x18_4 < 8
             ·rw [if_pos c82] at H
              have c82b0 := decide_eq_true c82
              clear c82
              by_cases c83 : 0 ≤ x18_4
              ·rw [if_pos c83] at H
               have c83b0 := decide_eq_true c83
               clear c83
               by_cases c84 : x18_4 < (l0.length : Int)
               ·rw [if_pos c84] at H
                have c84b0 := decide_eq_true c84
                clear c84
                by_cases c85 : x18_4 < (x11_3.length : Int)
                ·rw [if_pos c85] at H
                 have c85b0 := decide_eq_true c85
                 clear c85
                 by_cases c86 : x17_4.length < 35184372088832
                 ·rw [if_pos c86] at H
                  have LMc86 := Aside0.mk c86
                  clear c86
                  obtain ⟨y171, hy171⟩ : ∃ y_ : List Int, y_ = (x17_4 ++ [((rd l0 x18_4) + (rd x11_3 x18_4)) % 4294967296]) := ⟨_, rfl⟩
                  replace H : (clearwayref02_block.l3 k4 l0 x11_3 y171 (wrap64 (x18_4 + 1))) = some r := by first | (rw [hy171]; with_reducible exact H) | (have H2_ := (Option.bind_some _ _).symm.trans H; rw [hy171]; with_reducible exact H2_) | (have H2_ := (Option.bind_some _ _).symm.trans H; with_reducible exact H2_) | with_reducible exact H | (rw [hy171]; exact H) | exact H
                  have Ny171 := Aside0.mk hy171
                  clear hy171
                  have H' := Aside0.mk H
                  clear H
                  try go_wp2
                  have n0_ := Aside0.mk (Kd.R_drew HO_11.out)
                  have n1_ := Aside0.mk (Kd.R_drew HO_17.out)
                  have n2_ := Aside0.mk (below_drew1 HB.out)
                  clear HO_11
                  clear HO_17
                  clear HB
                  have HO_11 := n0_
                  have HO_17 := n1_
                  have HB := n2_
                  clear n0_ n1_ n2_
                  have p169 : 0 ≤ (x18_4 : Int) := of_decide_eq_true (by first | (with_reducible assumption) | assumption)
                  have q169 : x18_4 < (l0.length : Int) := of_decide_eq_true (by first | (with_reducible assumption) | assumption)
                  obtain ⟨ad169, e169, hx169_0⟩ := Kd.at_int HR0.out x18_4 p169 q169
                  have hw169_0 := hx169_0
                  cases e169
                  replace hx169_0 := (HB.out.cell (World.block_lt_of_cell? w _ hx169_0)).trans hx169_0
                  replace p169 := eq_true p169
                  replace q169 := eq_true q169
                  obtain ⟨Ao88, co88, eo88⟩ := Kd.R_slice HO_11.out
                  (first | subst eo88 | (injection eo88 with f1_ f2_ f3_; have f4_ := f1_.symm; have f5_ := f3_.symm; clear f1_ f2_ f3_; subst f4_; subst f5_))
                  have p170 : 0 ≤ (x18_4 : Int) := of_decide_eq_true (by first | (with_reducible assumption) | assumption)
                  have q170 : x18_4 < (x11_3.length : Int) := of_decide_eq_true (by first | (with_reducible assumption) | assumption)
                  obtain ⟨ad170, e170, hx170_0⟩ := Kd.at_int (Kd.R_reads' HO_11.out).2.2 x18_4 p170 q170
                  cases e170
                  replace p170 := eq_true p170
                  replace q170 := eq_true q170
                  refine start_ (n := 13) (S := fun w' => w'.cell? (ad169.add (x18_4).toNat) = some (.int .u32 (rd l0 x18_4)) ∧ w'.cell? (ad170.add (x18_4).toNat) = some (.int .u32 (rd x11_3 x18_4))) (ds := [10, 11]) (Sx14.b 13 0) (by kernel_rfl) rfl rfl ⟨((HB.out.cell (World.block_lt_of_cell? w _ hw169_0)).trans hw169_0), hx170_0⟩ (fun hHeld => ?_); refine with_tabW clearwayref02_block.tab27 clearwayref02_block.bits27 (fun HT_ HW_ => ?_)
                  generalize wr.drew = w87 at HO_11 HO_17 HB hx169_0 hx170_0 hHeld ⊢
                  refine Sx14.p (i := 0) (N := some 225) HT_.out (Sx14.b 13 1) ?_
                  refine Sx14.p (i := 1) (N := some 226) HT_.out (Sx14.b 13 3) ?_
                  refine Sx14.p (i := 2) (N := some 227) HT_.out (Sx14.b 13 7) ?_
                  refine Sx14.p (i := 3) (N := some 228) HT_.out (Sx14.b 13 15) ?_
                  refine Sx14.p (i := 5) (N := some 230) HT_.out (Sx14.b 13 47) ?_
                  refine Sx14.p (i := 6) (N := some 231) HT_.out (Sx14.b 13 111) ?_
                  refine Sx14.p (i := 7) (N := some 232) HT_.out (Sx14.b 13 239) ?_
                  refine take_ (i := 4) (N := some 229) (v := ?_) (a' := ?_) (Sx14.b 13 255) rfl rfl (take_ofW HT_.out HW_.out (by kernel_rfl)) (fun _ _ _ h => h) (Or.inl ⟨by rfl, ?_⟩) hHeld ?_ ?_
                  rotate_left
                  ·rintro w' ⟨s0, s1⟩
                   go_simp
                   with_reducible rfl
                  rotate_left
                  ·simp only [Act.put, Sx14.u, Sx14.v, Sx14.w, i64_w, i32_w]
                   rfl
                  refine take_ (i := 8) (N := some 233) (v := ?_) (a' := ?_) (Sx14.b 13 511) rfl rfl (take_ofW HT_.out HW_.out (by kernel_rfl)) (fun _ _ _ h => h) (Or.inl ⟨by rfl, ?_⟩) hHeld ?_ ?_
                  rotate_left
                  ·rintro w' ⟨s0, s1⟩
                   go_simp
                   with_reducible rfl
                  rotate_left
                  ·simp only [Act.put, Sx14.u, Sx14.v, Sx14.w, i64_w, i32_w]
                   rfl
                  refine Sx14.p (i := 9) (N := some 234) HT_.out (Sx14.b 13 1023) ?_
                  refine last_ (i := 10) (N := some 235) (Sx14.b 13 2047) rfl rfl (one_of HT_.out (by kernel_rfl)) (by decide) (fun K hK => ?_)
                  refine value_ (w1 := ?_) (v := ?_) (by rfl) rfl ?_ ?_
                  rotate_left 2
                  ·go_simp
                   constructor
                   ·rfl
                   ·rfl
                  refine hK.out _ _ ?_
                  clear hK K
                  refine norm_ (a' := ?_) ?_ ?_
                  rotate_left
                  ·show Act.put _ (some 235) _ = _
                   simp only [Act.put, Sx14.u, Sx14.v, Sx14.w, i64_w, i32_w]
                   rfl
                  refine last_ (i := 11) (N := some 236) (Sx14.b 13 4095) rfl rfl (one_of HT_.out (by kernel_rfl)) (by decide) (fun K hK => ?_)
                  refine Kd.R_append_step (Kd.int .u32) (w0 := w) w.heap.size (by rfl) (.tmp 225) (.tmp 235) 110 109 (.int .u32 0) 4 rfl Tryz.underlying110 info109 rfl (by decide) (by omega) u17 x17_4 (((rd l0 x18_4) + (rd x11_3 x18_4)) % 4294967296) [.int .u32 (((rd l0 x18_4) + (rd x11_3 x18_4)) % 4294967296)] (fun k_ => some k_ ≠ (.slice (some ad170) x11_3.length co88 : Value).ownBlock) (fun _ => False) rfl rfl ?aP (fun _ hk => hk.elim) ?aF ?aO ?aB ?aS ?aL ?_
                  (case aP => exact rfl)
                  (case aB => exact (by repeat (first | (with_reducible first | exact HB.out | apply below_alloc | apply pw_below_drewN | apply below_drew1) | exact HB.out)))
                  (case aF => exact (fun k_ hk => Kd.fresh' (Kd.R_lt (by (with_reducible repeat (first | apply Kd.R_alloc | apply Kd.R_drewN | apply Kd.R_drew)); exact HO_11.out)) k_ hk))
                  (case aO => exact (by (with_reducible repeat (first | apply Kd.R_alloc | apply Kd.R_drewN | apply Kd.R_drew)); exact HO_17.out))
                  (case aS => exact (below_size (by repeat (first | (with_reducible first | exact HB.out | apply below_alloc | apply pw_below_drewN | apply below_drew1) | exact HB.out))))
                  (case aL => have := LMc86.out; omega)
                  intro v172 w89 ho hb hg hat
                  rw [← Ny171.out] at ho
                  have n0_ := Aside0.mk (Kd.R_after (ok := (fun _ => True)) (by (with_reducible repeat (first | apply Kd.R_alloc | apply Kd.R_drewN | apply Kd.R_drew)); exact Kd.R_mono HO_11.out (fun _ hk => ⟨trivial, hk⟩)) hg hat)
                  have n1_ := Aside0.mk (hb)
                  have n2_ := Aside0.mk (ho)
                  clear HO_11
                  clear HB
                  clear HO_17
                  have HO_11 := n0_
                  have HB := n1_
                  have HO173 := n2_
                  clear n0_ n1_ n2_
                  clear ho hb hg hat
                  refine hK.out _ _ ?_
                  clear hK K
                  refine norm_ (a' := ?_) ?_ ?_
                  rotate_left
                  ·show Act.put _ (some 236) _ = _
                   simp only [Act.put, Sx14.u, Sx14.v, Sx14.w, i64_w, i32_w]
                   rfl
                  refine Sx14.p (i := 12) (N := some 17) HT_.out (Sx14.b 13 8191) ?_
                  refine done_ (done_of HT_.out (by kernel_rfl)) ?_
                  try go_wp2
                  go_roundg k4
                  case measure => have := HK1.out; have := HK2.out; have := HK3.out; have := HK4.out; omega
                  case rel => exact ⟨(y171), (wrap64 (x18_4 + 1)), (by first | rfl | (simp; done) | (simp [*]; done)), H', ⟨by have := HK1.out; have := HK2.out; have := HK3.out; have := HK4.out; omega⟩, ⟨by (with_reducible repeat (first | apply Kd.R_alloc | apply Kd.R_drewN | apply Kd.R_drew)); exact Kd.R_mono HO_11.out (fun _ hk => hk.2)⟩, ⟨by (with_reducible repeat (first | apply Kd.R_alloc | apply Kd.R_drewN | apply Kd.R_drew)); exact HO173.out⟩, ⟨by repeat (first | (with_reducible first | exact HB.out | apply below_alloc | apply pw_below_drewN | apply below_drew1) | exact HB.out)⟩⟩
                 ·rw [if_neg c86] at H
                  exact absurd H (by simp)
                ·rw [if_neg c85] at H
                 exact absurd H (by simp)
               ·rw [if_neg c84] at H
                exact absurd H (by simp)
              ·rw [if_neg c83] at H
               exact absurd H (by simp)
             ·rw [if_neg c82] at H
              have c82b0 := decide_eq_false c82
              clear c82
              obtain rfl := Option.some.inj H
              go_wp2
              go_ret
              exact ⟨_, by first | rfl | (simp [errW_none, errW_some] <;> rfl) | (simp [*, errW_none, errW_some] <;> rfl), by (with_reducible repeat (first | apply Kd.R_alloc | apply Kd.R_drewN | apply Kd.R_drew)); exact Kd.R_mono HO_17.out (fun _ hk => trivial), by repeat (first | (with_reducible first | exact HB.out | apply below_alloc | apply pw_below_drewN | apply below_drew1) | exact HB.out)⟩
       ·rw [if_neg c47] at H
        exact absurd H (by simp)
end Go.Proofs.YtniegajdmbepbaaGreatDoor.Dm
