/- errors.Is of the sentinel and itself; the deferred closure of journal.open. Condition: none. journal.open, by pointers: the journal of a content, or errDamaged. Condition: none. journal.writing, journal.first, by pointers: calls on a disk up to the first error. Condition: none. journal.writing, by pointers. Condition: none. journal.Open, by pointers. Condition: none. journal.Open's region that wipes what lies behind the records. Condition: none. journal.Open, by pointers: the walk. Condition: none. A journal's Room and Records, by pointers. Condition: none. (*Journal).Append's region that writes a group. Condition: none. -/
import Derived.Test.YtniegajdmbepbaaGreatDoorKJournalMatchesReference14
import Derived.Test.YtniegajdmbepbaaGreatDoorKJournalMatchesReference23
import Derived.LaidEql
import Derived.Stop.Asserts
import Derived.RowKitTokens
import Derived.Defers
import Derived.Recover
import Derived.Laws.Pointers
import Derived.Test.YtniegajdmbepbaaGreatDoorKJournalMatchesReference20
set_option linter.unusedSimpArgs false
set_option linter.unusedVariables false
open Go.Proofs.YtniegajdmbepbaaGreatDoor
namespace Go.Proofs.YtniegajdmbepbaaGreatDoor.Jm
open Go Go.RowKit Go.Extern.Stop Go.Stop Go.Extern
theorem isTypeOf (v : Value) (w : World) : (Extern.ReflectliteType.typeOf #[.iface 222 v]).run Tryz.prog w = .ok (.iface 171 (.agg #[.pointer (some ⟨5, 222, none⟩)])) w := by kernel_rfl
theorem isComparable (w : World) : (callFunc 171 #[.agg #[.pointer (some ⟨5, 222, none⟩)]]).run Tryz.prog w = .ok (.value (.bool true)) w := by kernel_rfl
theorem isMethodComparable (n : Nat) (v : Value) (w : World) : (Go.method (n + 1) 171 v "Comparable").run Tryz.prog w = .ok (171, v) w := by kernel_rfl
theorem isComp : (Tryz.prog.info? 222).map (·.comparable) = some true := by kernel_rfl
theorem isSize : (Tryz.prog.info? 244).map (·.size) = some 1 := by kernel_rfl
set_option maxRecDepth 100000 in
theorem is_same (a : Addr) (w : World) :
  Calls Tryz.prog 77 #[.iface 222 (.pointer (some a)), .iface 222 (.pointer (some a))] w fun e w' => e = .returned (.bool true) ∧ w' = w := by
 obtain ⟨i, hi, hcmp⟩ := Option.map_eq_some_iff.1 isComp
 obtain ⟨j, hj, hjs⟩ := Option.map_eq_some_iff.1 isSize
 have h8 := @run_callFunc_extern Tryz.prog 98 _ Extern.ReflectliteType.typeOf Tryz.func98 (by kernel_rfl) (by kernel_rfl) (by kernel_rfl) (by kernel_rfl)
 have tT := isTypeOf
 have cT := isComparable
 have mR288 : ∀ v w, (Go.method 288 171 v "Comparable").run Tryz.prog w = .ok (171, v) w := isMethodComparable 287
 have mR355 : ∀ v w, (Go.method 355 171 v "Comparable").run Tryz.prog w = .ok (171, v) w := isMethodComparable 354
 have heq := run_eql_iface_ptr_same (P := Tryz.prog) w a Tryz.underlying80 Tryz.underlying222 hi hcmp hj
 go_enter Tryz.func77, Tryz.ntmps77
 go_wp2
 refine wp_loop_rounds 1 ?_
 rw [rounds_succ]
 go_wp2
 go_ret
 exact ⟨rfl, rfl⟩
theorem assert_err (v : Value) (xT : TypeId) (w : World) : (Instr.typeAssert (.iface 222 v) xT 80 true).run Tryz.prog w = .ok (.tuple #[.iface 222 v, .bool true]) w := run_typeAssert_hasB Tryz.underlying80 (by kernel_rfl) v xT w
theorem catch_panicking (pj pe : Addr) (a : Addr) (x y : Value) (older : List PanicEntry) (w : World) (hne : pj.block ≠ pe.block) (hE : AmbE a w) (hj : w.cell? pj = some x) (hjz : w.frozen? pj = false) (he : w.cell? pe = some y) (hez : w.frozen? pe = false) :
  CallsD Tryz.prog 76 #[.pointer (some pj), .pointer (some pe)] (.panicking (dmg a :: older)) w fun e u' w' =>
   e = .returned (.tuple #[]) ∧ u' = .panicking ({ dmg a with recovered := true } :: older) ∧ w' = (w.setCell pj (.pointer none)).setCell pe (.int .i64 292) := by
 have c0 := hE.cell
 have hta := assert_err
 have he' : (w.setCell pj (.pointer none)).cell? pe = some y := by rw [World.cell?_setCell_other]; exact he; exact fun e => hne (by rw [e])
 have hez' : (w.setCell pj (.pointer none)).frozen? pe = false := by rw [World.frozen?_setCell]; exact hez
 unfold dmg
 refine callsD_of_wpS Tryz.func76 rfl fun c₀ cs hu => ?_
 simp only [Tryz.ntmps76, List.size_toArray, List.length_cons, List.length_nil, Nat.reduceAdd, Nat.reduceSub, Array.replicate_succ, Array.replicate_zero, List.push_toArray, List.append_toArray, List.nil_append, List.cons_append]
 apply wpS_seq
 apply wpS_region
 simp [wpOpsS, go_sem, recoverD, hu, Exit.thenS, hta]
 refine wpS_of_wp ?_
 go_wp2_with (go_at_call 77; refine (is_same a _).mono ?_; rintro e w' ⟨rfl, rfl⟩)
 all_goals simp [bodyPostS, results, Tryz.results76]
theorem catch_idle (pj pe : Addr) (w : World) :
  CallsD Tryz.prog 76 #[.pointer (some pj), .pointer (some pe)] .returning w fun e u' w' => e = .returned (.tuple #[]) ∧ u' = .returning ∧ w' = w := by
 have hta : ∀ w, (Instr.typeAssert .nilIface 20 80 true).run Tryz.prog w = .ok (.tuple #[.nilIface, .bool false]) w := fun w => by kernel_rfl
 refine callsD_of_wpS Tryz.func76 rfl fun c₀ cs hu => ?_
 simp only [Tryz.ntmps76, List.size_toArray, List.length_cons, List.length_nil, Nat.reduceAdd, Nat.reduceSub, Array.replicate_succ, Array.replicate_zero, List.push_toArray, List.append_toArray, List.nil_append, List.cons_append]
 apply wpS_seq
 apply wpS_region
 simp [wpOpsS, go_sem, recoverD, hu, Exit.thenS, hta]
 refine wpS_of_wp ?_
 go_wp2_with (fail)
 all_goals trace_state
 all_goals (cases c₀; simp_all [bodyPostS, results, Tryz.results76])
open Go Go.RowKit Go.Proofs.YtniegajdmbepbaaGreatDoorW.PrintWords Go.Proofs.YtniegajdmbepbaaGreatDoorW.PrintMore
def z32 : ByteArray := ofB (zeros 32)
theorem z32_size : z32.size = 32 := by
  unfold z32
  rw [size_ofB (zeros_lt 32), zeros_length]
theorem conv_zeros (n : Nat) (W : World) : (convert 39 9 (.slice (some ⟨W.heap.size, 0, none⟩) n n)).run Tryz.prog (W.alloc (.cells (bv (zeros n)).toArray 5)) = .ok (.string (ofB (zeros n))) (W.alloc (.cells (bv (zeros n)).toArray 5)) := by
  have h := run_convert_bytes_arg (P := Tryz.prog) (W.alloc (.cells (bv (zeros n)).toArray 5)) 39 5 Tryz.underlying39 Tryz.underlying5 W.heap.size 0 n n ((zeros n).map fun (b : Nat) => (b : Int)) (by rw [List.length_map, zeros_length]) (fun i hi => by
    have := heap_alloc_new W (.cells (bv (zeros n)).toArray 5)
    simp only [World.cell?, this, Nat.zero_add]
    simp [bv, zeros, List.getElem?_replicate, hi]) 9 Tryz.underlying9
  rw [h, str_ofB]
def openPost (d : Addr) (w : World) (P : Option (List ByteArray × Nat)) (e : Ending) (w' : World) : Prop :=
  Below w.heap.size w w' ∧ match P with
    | some (rs, n) => ∃ p, e = .returned (.tuple #[.pointer (some ⟨p, 0, none⟩), .int .i64 0]) ∧ TapeAt w' w.heap.size p 74 [.pointer (some d), .bool false] rs (headOf chF z32 rs) n
    | none => e = .returned (.tuple #[.pointer none, .int .i64 292])
theorem TAt.keepBut {w W : World} {base p : Nat} {T : TypeId} {rest : List Value} {rs : List ByteArray} {head : ByteArray} {size : Nat} {rv : Value} (h : TAt w base p T rest rs head size rv) {q : Nat} (hb : But q w W)
    {cs : Array Value} {t : TypeId} {f : Nat × Nat} (hq : w.heap[q]? = some (.cells cs t f)) (ht : t ≠ 9) (hne : q ≠ p) : TAt W base p T rest rs head size rv :=
  ⟨(hb.block _ h.lt (Ne.symm hne)).trans h.blk, own_keep h.own fun g hg => by
    obtain ⟨cs', hc⟩ := own_block h.own hg
    exact hb.block _ (h.own.lt g hg).2 (cells_ne hc hq (Ne.symm ht)), h.ne, h.hp, Nat.le_trans h.hs hb.size⟩
set_option maxRecDepth 100000 in
set_option maxHeartbeats 4000000 in
theorem open_calls (d : Addr) (s : ByteArray) (a : Addr) (w : World) (hs : s.size ≤ 4194304) (hA : Sha.Amb w) (hE : AmbE a w) (P : Option (List ByteArray × Nat)) (hP : P = parse chF (s.size + 1) z32 (bl s)) :
    Calls Tryz.prog 54 #[.pointer (some d), .string s] w fun e w' => openPost d w P e w' := by
  have hmf : ∀ (fn : Fn) (first cap : Array Value) (w : World), (Instr.makeFunc fn first cap).run Tryz.prog w = .ok (.func fn first cap) w := fun _ _ _ _ => rfl
  have hmk : ∀ w, (Instr.makeSlice 39 (.int .i64 32) (.int .i64 32)).run Tryz.prog w = .ok (.slice (some ⟨w.heap.size, 0, none⟩) 32 32) (w.alloc (.cells (bv (zeros 32)).toArray 5)) := run_make_bytes 32 (by decide)
  have hg1 : 3 < w.heap.size := (Array.getElem?_eq_some_iff.1 hA.choose_spec.choose_spec).1
  have hg2 : 0 < w.heap.size := (Array.getElem?_eq_some_iff.1 hE.choose_spec.choose_spec).1
  go_enter_defers Tryz.func54, Tryz.ntmps54
  go_upto_region 2 with (fail)
  have hz : w.heap.size + 1 = (w.alloc (.cells #[.pointer none] 28)).heap.size := by simp
  refine wp_world (fun W => W.heap[w.heap.size]? = some (.cells #[.pointer none] 28 (0, 0)) ∧ W.heap[w.heap.size + 1]? = some (.cells #[.int .i64 0] 33 (0, 0)) ∧ W.heap.size = w.heap.size + 2 ∧ Below w.heap.size w W)
    ⟨((below_alloc (Below.refl _ (w.alloc (.cells #[.pointer none] 28))) _).block w.heap.size (by simp)).trans (heap_alloc_new ..), by rw [hz]; exact heap_alloc_new .., by simp, ((below_alloc (Below.refl _ w) _).trans ((below_alloc (Below.refl _ (w.alloc (.cells #[.pointer none] 28))) _).mono (by simp)))⟩ ?_
  clear hz
  rintro W1 ⟨J1, E1, S1, B1⟩
  have hcv := conv_zeros 32 W1
  rw [show ofB (zeros 32) = z32 from rfl] at hcv
  obtain ⟨W2, hW2⟩ : ∃ W2, W2 = W1.alloc (.cells (bv (zeros 32)).toArray 5) := ⟨_, rfl⟩
  have b2 : Below W1.heap.size W1 W2 := by rw [hW2]; exact below_alloc (Below.refl _ _) _
  have s2 : W2.heap.size = w.heap.size + 3 := by rw [hW2]; simp [S1]
  obtain ⟨W3, hW3⟩ : ∃ W3, W3 = W2.alloc (.cells #[.slice none 0 0, .string z32, .int .i64 0, .pointer (some d), .bool false] 74) := ⟨_, rfl⟩
  have b3 : Below W2.heap.size W2 W3 := by rw [hW3]; exact below_alloc (Below.refl _ _) _
  have q3 : W3.heap[w.heap.size + 3]? = some (.cells #[.slice none 0 0, .string z32, .int .i64 0, .pointer (some d), .bool false] 74 (0, 0)) := by rw [hW3, ← s2]; exact heap_alloc_new ..
  have j3 : W3.heap[w.heap.size]? = some (.cells #[.pointer none] 28 (0, 0)) := (b3.block _ (by omega)).trans ((b2.block _ (by omega)).trans J1)
  have e3 : W3.heap[w.heap.size + 1]? = some (.cells #[.int .i64 0] 33 (0, 0)) := (b3.block _ (by omega)).trans ((b2.block _ (by omega)).trans E1)
  have b13 : Below w.heap.size w W3 := (B1.trans (b2.mono (by omega))).trans (b3.mono (by omega))
  have s3 : W3.heap.size = w.heap.size + 4 := by rw [hW3]; simp [s2]
  have c3 : W3.cell? ⟨w.heap.size, 0, none⟩ = some (.pointer none) := by simp [World.cell?, j3]
  have f3 := frozen_of j3 0
  clear b2 b3
  rw [S1] at hcv
  obtain ⟨V1, hV1⟩ : ∃ V1, V1 = W1.setCell ⟨w.heap.size, 0, none⟩ (.pointer (some ⟨w.heap.size + 3, 0, none⟩)) := ⟨_, rfl⟩
  obtain ⟨V2, hV2⟩ : ∃ V2, V2 = V1.alloc (.cells (bv (zeros 32)).toArray 5) := ⟨_, rfl⟩
  obtain ⟨W4, hW4⟩ : ∃ W4, W4 = V2.alloc (.cells #[.slice none 0 0, .string z32, .int .i64 0, .pointer (some d), .bool false] 74) := ⟨_, rfl⟩
  have T4 : TAt W4 w.heap.size (w.heap.size + 3) 74 [.pointer (some d), .bool false] [] z32 0 (.slice none 0 0) ∧ W4.heap[w.heap.size]? = some (.cells #[.pointer (some ⟨w.heap.size + 3, 0, none⟩)] 28 (0, 0)) ∧
      W4.heap[w.heap.size + 1]? = some (.cells #[.int .i64 0] 33 (0, 0)) ∧ Below w.heap.size w W4 := by
    have hb := But.setCell w.heap.size 0 W1 (.pointer (some ⟨w.heap.size + 3, 0, none⟩))
    have hq := set_blk J1 (j := 0) (.pointer (some ⟨w.heap.size + 3, 0, none⟩))
    rw [← hV1] at hb hq
    have he := (hb.block _ (by omega) (by omega)).trans E1
    have v1 : V1.heap.size = w.heap.size + 2 := by rw [hV1, ← S1]; simp [World.setCell]
    have v2 : V2.heap.size = w.heap.size + 3 := by rw [hV2]; simp [v1]
    have b2 : Below V1.heap.size V1 V2 := by rw [hV2]; exact below_alloc (Below.refl _ _) _
    have b3 : Below V2.heap.size V2 W4 := by rw [hW4]; exact below_alloc (Below.refl _ _) _
    have q4 : W4.heap[w.heap.size + 3]? = some (.cells #[.slice none 0 0, .string z32, .int .i64 0, .pointer (some d), .bool false] 74 (0, 0)) := by rw [hW4, ← v2]; exact heap_alloc_new ..
    have bB : Below w.heap.size w V1 := B1.trans ⟨hb.os, hb.tape, hb.output, hb.size, fun k hk => hb.block k (by omega) (by omega)⟩
    refine ⟨⟨q4, World.ownsRow_nil _ _ _ _, by decide, by omega, by have := b3.size; omega⟩, (b3.block _ (by omega)).trans ((b2.block _ (by omega)).trans hq), (b3.block _ (by omega)).trans ((b2.block _ (by omega)).trans he), (bB.trans (b2.mono (by omega))).trans (b3.mono (by omega))⟩
  subst hW4
  subst hV2
  subst hV1
  subst hW3
  subst hW2
  clear J1 E1
  go_upto_region 3 with (fail)
  refine wp_world (fun W4 => TAt W4 w.heap.size (w.heap.size + 3) 74 [.pointer (some d), .bool false] [] z32 0 (.slice none 0 0) ∧ W4.heap[w.heap.size]? = some (.cells #[.pointer (some ⟨w.heap.size + 3, 0, none⟩)] 28 (0, 0)) ∧
      W4.heap[w.heap.size + 1]? = some (.cells #[.int .i64 0] 33 (0, 0)) ∧ Below w.heap.size w W4) T4 ?_
  clear T4 b13 s3 c3 f3 e3 j3 q3 s2 hcv S1 B1 hmk
  rintro W5 ⟨H5, J5, E5, B5⟩
  have hA5 : Sha.Amb W5 := hA.below_block B5
  have hE5 : AmbE a W5 := hE.keep (B5.block _ hg2)
  have hload := load_calls ⟨_, H5⟩ s a hs z32_size hA5 hE5 hg1 hg2 P hP
  have cj : W5.cell? ⟨w.heap.size, 0, none⟩ = some (.pointer (some ⟨w.heap.size + 3, 0, none⟩)) := by simp [World.cell?, J5]
  have keepJ : ∀ W6, Oft w.heap.size (w.heap.size + 3) W5 W6 → W6.heap[w.heap.size]? = some (.cells #[.pointer (some ⟨w.heap.size + 3, 0, none⟩)] 28 (0, 0)) ∧ W6.heap[w.heap.size + 1]? = some (.cells #[.int .i64 0] 33 (0, 0)) :=
    fun W6 o6 => ⟨o6.block _ _ J5 (.inr ⟨by omega, fun h => absurd (show (28 : Nat) = 9 from h) (by decide)⟩), o6.block _ _ E5 (.inr ⟨by omega, fun h => absurd (show (33 : Nat) = 9 from h) (by decide)⟩)⟩
  cases P with
  | none =>
    go_wp2_with (go_at_call 78; refine hload.mono ?_; rintro e W6 ⟨o6, rfl⟩)
    obtain ⟨J6, E6⟩ := keepJ W6 o6
    have cj6 : W6.cell? ⟨w.heap.size, 0, none⟩ = some (.pointer (some ⟨w.heap.size + 3, 0, none⟩)) := by simp [World.cell?, J6]
    have ce6 : W6.cell? ⟨w.heap.size + 1, 0, none⟩ = some (.int .i64 0) := by simp [World.cell?, E6]
    have fj6 := frozen_of J6 0
    have fe6 := frozen_of E6 0
    have B6 : Below w.heap.size w W6 := B5.trans (o6.below H5.hs)
    have hE6 : AmbE a W6 := hE.keep (B6.block _ hg2)
    refine leaves_cons (f := 76) (args := #[.pointer (some ⟨w.heap.size, 0, none⟩), .pointer (some ⟨w.heap.size + 1, 0, none⟩)]) (by simp) (by simp [go_sem]) ?_
    refine (catch_panicking ⟨w.heap.size, 0, none⟩ ⟨w.heap.size + 1, 0, none⟩ a _ _ [] W6 (by simp) hE6 cj6 fj6 ce6 fe6).mono ?_
    rintro e u' w'' ⟨rfl, rfl, rfl⟩
    have hb := (But.setCell w.heap.size 0 W6 (.pointer none))
    have B7 : Below w.heap.size w ((W6.setCell ⟨w.heap.size, 0, none⟩ (.pointer none)).setCell ⟨w.heap.size + 1, 0, none⟩ (.int .i64 292)) := (B6.setCell (by simp) _).setCell (by simp) _
    simp [Leaves, settle, results, Tryz.results54, go_sem, dmg, cj6, ce6]
    exact ⟨B7, rfl⟩
  | some q =>
    obtain ⟨rs, n⟩ := q
    go_wp2_with (go_at_call 78; refine hload.mono ?_; rintro e W6 ⟨o6, rfl, h6⟩
                 obtain ⟨J6, E6⟩ := keepJ W6 o6
                 have cj6 : W6.cell? ⟨w.heap.size, 0, none⟩ = some (.pointer (some ⟨w.heap.size + 3, 0, none⟩)) := by simp [World.cell?, J6]
                 have fj6 := frozen_of J6 0
                 have ce6 : W6.cell? ⟨w.heap.size + 1, 0, none⟩ = some (.int .i64 0) := by simp [World.cell?, E6]
                 have fe6 := frozen_of E6 0)
    have B6 : Below w.heap.size w W6 := B5.trans (o6.below H5.hs)
    refine leaves_cons (f := 76) (args := #[.pointer (some ⟨w.heap.size, 0, none⟩), .pointer (some ⟨w.heap.size + 1, 0, none⟩)]) (by simp) (by simp [go_sem]) ?_
    refine (catch_idle ⟨w.heap.size, 0, none⟩ ⟨w.heap.size + 1, 0, none⟩ _).mono ?_
    rintro e u' w'' ⟨rfl, rfl, rfl⟩
    have B7 : Below w.heap.size w ((W6.setCell ⟨w.heap.size, 0, none⟩ (.pointer (some ⟨w.heap.size + 3, 0, none⟩))).setCell ⟨w.heap.size + 1, 0, none⟩ (.int .i64 0)) := (B6.setCell (by simp) _).setCell (by simp) _
    obtain ⟨rv, h6⟩ := h6
    have h7 := h6.keepBut (But.setCell w.heap.size 0 W6 (.pointer (some ⟨w.heap.size + 3, 0, none⟩))) J6 (by decide) (by omega)
    have E7 := ((But.setCell w.heap.size 0 W6 (.pointer (some ⟨w.heap.size + 3, 0, none⟩))).block _ (Array.getElem?_eq_some_iff.1 E6).1 (by omega)).trans E6
    have h8 := h7.keepBut (But.setCell (w.heap.size + 1) 0 _ (.int .i64 0)) E7 (by decide) (by omega)
    simp [Leaves, settle, results, Tryz.results54, go_sem, cj6, ce6]
    exact ⟨B7, w.heap.size + 3, rfl, rv, h8⟩
open Go Go.RowKit Go.Proofs.YtniegajdmbepbaaGreatDoorW.PrintWords Go.Proofs.YtniegajdmbepbaaGreatDoorW.PrintMore
inductive Cmd where
 | wr (o : Nat) (s : ByteArray)
 | sy
def Cmd.run (d : Dk) : Cmd → Dk × Int
 | .wr o s => d.write (o : Int) s
 | .sy => d.sync
def runC : Dk → List Cmd → Dk × Int
 | d, [] => (d, 0)
 | d, c :: r => if (c.run d).2 = 0 then runC (c.run d).1 r else c.run d
theorem used_pend (d : Dk) : d.used.pend = d.pend := by
 unfold Dk.used
 split <;> rfl
theorem cmd_pend (d : Dk) (c : Cmd) : (c.run d).1.pend.length ≤ d.pend.length + 1 := by
 cases c with
 | wr o s =>
  show (d.write (o : Int) s).1.pend.length ≤ _
  unfold Dk.write
  split
  ·exact Nat.le_succ _
  ·split
   ·rw [used_pend]
    simp
   ·exact Nat.le_succ _
 | sy =>
  show d.sync.1.pend.length ≤ _
  unfold Dk.sync
  split
  ·exact Nat.le_succ _
  ·exact Nat.zero_le _
def JP (w : World) (j : Nat) (D : Dsk) : Prop := ∃ cs, w.heap[j]? = some (.cells cs 74 (0, 0)) ∧ cs[3]? = some (.pointer (some ⟨D.d, 0, none⟩))
def CmdAt (w : World) (j : Nat) (D : Dsk) : Cmd → Value → Prop
 | .wr o s, v => ∃ bj ba bs, v = .func (.func 72) #[] #[.pointer (some ⟨bj, 0, none⟩), .pointer (some ⟨ba, 0, none⟩), .pointer (some ⟨bs, 0, none⟩)] ∧
   w.heap[bj]? = some (.cells #[.pointer (some ⟨j, 0, none⟩)] 28 (0, 0)) ∧ w.heap[ba]? = some (.cells #[.int .i64 (o : Int)] 3 (0, 0)) ∧ w.heap[bs]? = some (.cells #[.string s] 9 (0, 0))
 | .sy, v => v = .func (.func 42) #[.pointer (some ⟨D.d, 0, none⟩)] #[]
theorem Off.stands {D : Dsk} {w W : World} {dk : Dk} (o : Off D w W) (h : DiskAt w D dk) {k : Nat} {cs : Array Value} {t : TypeId} {f : Nat × Nat} (hk : w.heap[k]? = some (.cells cs t f)) (h1 : t ≠ 97) (h2 : t ≠ 5) (h3 : t ≠ 92) :
  W.heap[k]? = some (.cells cs t f) := by
 obtain ⟨pv, h⟩ := h
 exact o.block k _ hk (.inr ⟨cells_ne hk h.blk h1, cells_ne hk h.dur h2, cells_ne hk h.vis h2, h3⟩)
theorem Off.jp {D : Dsk} {w W : World} {dk : Dk} (o : Off D w W) (h : DiskAt w D dk) {j : Nat} (k : JP w j D) : JP W j D := let ⟨cs, h1, h2⟩ := k; ⟨cs, o.stands h h1 (by decide) (by decide) (by decide), h2⟩
theorem Off.cmd {D : Dsk} {w W : World} {dk : Dk} (o : Off D w W) (h : DiskAt w D dk) {j : Nat} {c : Cmd} {v : Value} (k : CmdAt w j D c v) : CmdAt W j D c v := by
 cases c with
 | wr a s =>
  obtain ⟨bj, ba, bs, hv, h1, h2, h3⟩ := k
  exact ⟨bj, ba, bs, hv, o.stands h h1 (by decide) (by decide) (by decide), o.stands h h2 (by decide) (by decide) (by decide), o.stands h h3 (by decide) (by decide) (by decide)⟩
 | sy => exact k
theorem JP.cell {w : World} {j : Nat} {D : Dsk} (h : JP w j D) : w.cell? ⟨j, 3, none⟩ = some (.pointer (some ⟨D.d, 0, none⟩)) := by
 obtain ⟨cs, h1, h2⟩ := h
 simp [World.cell?, h1, h2]
set_option maxRecDepth 100000 in
set_option maxHeartbeats 4000000 in
theorem writing1_calls {w : World} {D : Dsk} {dk : Dk} {j bj ba bs o : Nat} {s : ByteArray} (h : DiskAt w D dk) (hj : JP w j D) (h1 : w.heap[bj]? = some (.cells #[.pointer (some ⟨j, 0, none⟩)] 28 (0, 0)))
  (h2 : w.heap[ba]? = some (.cells #[.int .i64 (o : Int)] 3 (0, 0))) (h3 : w.heap[bs]? = some (.cells #[.string s] 9 (0, 0))) (hf : dk.pend.length + 1 ≤ 1099511627776) :
  Calls Tryz.prog 72 #[.pointer (some ⟨bj, 0, none⟩), .pointer (some ⟨ba, 0, none⟩), .pointer (some ⟨bs, 0, none⟩)] w fun e w' =>
   e = .returned (.int .i64 (dk.write o s).2) ∧ DiskAt w' D (dk.write o s).1 ∧ Off D w w' := by
 have c1 : w.cell? ⟨bj, 0, none⟩ = some (.pointer (some ⟨j, 0, none⟩)) := by simp [World.cell?, h1]
 have c2 : w.cell? ⟨ba, 0, none⟩ = some (.int .i64 (o : Int)) := by simp [World.cell?, h2]
 have c3 : w.cell? ⟨bs, 0, none⟩ = some (.string s) := by simp [World.cell?, h3]
 have c4 := hj.cell
 have hW := write_calls (h.keep (Below.refl w.heap.size w).drew) (o : Int) s hf
 go_enter Tryz.func72, Tryz.ntmps72
 go_upto_region 1 with (fail)
 go_region_with (go_at_call 13; refine hW.mono ?_; rintro e w2 ⟨rfl, hd, o2⟩)
 all_goals
  go_wp2_with (fail)
  go_ret
  exact ⟨rfl, hd, ⟨o2.os, o2.tape, o2.output, o2.size, o2.block⟩⟩
set_option maxRecDepth 100000 in
set_option maxHeartbeats 4000000 in
theorem first_calls {w : World} {D : Dsk} {dk : Dk} {j gc c : Nat} (cmds : List Cmd) (vs : List Value) (h : DiskAt w D dk) (hj : JP w j D) (hg : w.heap[gc]? = some (.cells vs.toArray 85 (0, 0)))
  (hl : vs.length = cmds.length) (hc : ∀ (i : Nat) (c : Cmd) (v : Value), cmds[i]? = some c → vs[i]? = some v → CmdAt w j D c v) (hn : cmds.length ≤ 1000) (hf : dk.pend.length + cmds.length ≤ 1099511627776) :
  Calls Tryz.prog 40 #[.slice (some ⟨gc, 0, none⟩) cmds.length c] w fun e w' => e = .returned (.int .i64 (runC dk cmds).2) ∧ DiskAt w' D (runC dk cmds).1 ∧ Off D w w' := by
 obtain ⟨N, hN⟩ : ∃ N, cmds.length = N := ⟨_, rfl⟩
 obtain ⟨R, hR⟩ : ∃ R, runC dk cmds = R := ⟨_, rfl⟩
 rw [hR, hN]
 rw [hN] at hl hn hf
 go_enter Tryz.func40, Tryz.ntmps40
 go_wp2_with fail
 go_loopg [8] N (fun k t8 wr => ∃ (i : Nat) (d : Dk), t8 = .int .i64 (i : Int) ∧ i ≤ N ∧ k = N - i ∧ DiskAt wr D d ∧ Off D w wr ∧ runC d (cmds.drop i) = R ∧ d.pend.length + (N - i) ≤ 1099511627776)
 case atStart => exact ⟨0, dk, rfl, Nat.zero_le _, rfl, h, Off.refl _ _, hR, hf⟩
 case round =>
  obtain ⟨i, d, rfl, hi, hk, hd, ho, hr, hp⟩ := hrel
  by_cases h1 : i < N
  ·have x1 : decide ((i : Int) < (N : Int)) = true := decide_eq_true (by omega)
   have x2 : ((i : Int) < (N : Int)) = True := eq_true (by omega)
   obtain ⟨cm, hcm⟩ : ∃ cm, cmds[i]? = some cm := ⟨_, List.getElem?_eq_getElem (by omega)⟩
   obtain ⟨v, hv⟩ : ∃ v, vs[i]? = some v := ⟨_, List.getElem?_eq_getElem (by omega)⟩
   have hca := ho.cmd h (hc i cm v hcm hv)
   have hgr := ho.stands h hg (by decide) (by decide) (by decide)
   have hjr := ho.jp h hj
   have cv : wr.cell? ⟨gc, i, none⟩ = some v := by simp [World.cell?, hgr, hv]
   have hdrop : cmds.drop i = cm :: cmds.drop (i + 1) := by
    obtain ⟨hlt, hget⟩ := List.getElem?_eq_some_iff.1 hcm
    rw [List.drop_eq_getElem_cons hlt, hget]
   rw [hdrop] at hr
   have hn1 : IntKind.i64.wrap ((i : Int) + 1) = ((i + 1 : Nat) : Int) := by rw [IntKind.wrap_i64]; omega
   have nextP := cmd_pend d cm
   cases cm with
   | wr o s =>
    obtain ⟨bj, ba, bs, rfl, q1, q2, q3⟩ := hca
    have hcall := writing1_calls hd hjr q1 q2 q3 (by omega)
    have hr' : (if (d.write o s).2 = 0 then runC (d.write o s).1 (cmds.drop (i + 1)) else d.write o s) = R := hr
    by_cases he : (d.write (o : Int) s).2 = 0
    ·rw [if_pos he] at hr'
     rw [he] at hcall
     go_wp2_with (go_at_call 72; refine hcall.mono ?_; rintro e w2 ⟨rfl, hd2, o2⟩)
     go_roundg (N - (i + 1))
     case measure => omega
     case rel => exact ⟨i + 1, _, rfl, by omega, rfl, hd2, ho.trans o2, hr', by have := nextP; show _ + (N - (i + 1)) ≤ _; have e2 : (Cmd.run d (.wr o s)).1 = (d.write o s).1 := rfl; rw [e2] at this; omega⟩
    ·rw [if_neg he] at hr'
     obtain ⟨E, hE⟩ : ∃ E, (d.write (o : Int) s).2 = E := ⟨_, rfl⟩
     rw [hE] at hcall he
     have y1 : (E != 0) = true := bne_iff_ne.mpr he
     have y2 : (E = 0) = False := eq_false he
     go_wp2_with (go_at_call 72; refine hcall.mono ?_; rintro e w2 ⟨rfl, hd2, o2⟩)
     go_ret
     rw [← hr']
     exact ⟨by rw [hE]; rfl, hd2, ho.trans o2⟩
   | sy =>
    obtain rfl := hca
    have hcall := sync_calls hd
    have hr' : (if d.sync.2 = 0 then runC d.sync.1 (cmds.drop (i + 1)) else d.sync) = R := hr
    by_cases he : d.sync.2 = 0
    ·rw [if_pos he] at hr'
     rw [he] at hcall
     go_wp2_with (go_at_call 42; refine hcall.mono ?_; rintro e w2 ⟨rfl, hd2, o2⟩)
     go_roundg (N - (i + 1))
     case measure => omega
     case rel => exact ⟨i + 1, _, rfl, by omega, rfl, hd2, ho.trans o2, hr', by have := nextP; show _ + (N - (i + 1)) ≤ _; have e2 : (Cmd.run d .sy).1 = d.sync.1 := rfl; rw [e2] at this; omega⟩
    ·rw [if_neg he] at hr'
     obtain ⟨E, hE⟩ : ∃ E, d.sync.2 = E := ⟨_, rfl⟩
     rw [hE] at hcall he
     have y1 : (E != 0) = true := bne_iff_ne.mpr he
     have y2 : (E = 0) = False := eq_false he
     go_wp2_with (go_at_call 42; refine hcall.mono ?_; rintro e w2 ⟨rfl, hd2, o2⟩)
     go_ret
     rw [← hr']
     exact ⟨by rw [hE]; rfl, hd2, ho.trans o2⟩
  ·have x1 : decide ((i : Int) < (N : Int)) = false := decide_eq_false (by omega)
   have x2 : ((i : Int) < (N : Int)) = False := eq_false (by omega)
   have hd0 : cmds.drop i = [] := List.drop_eq_nil_of_le (by omega)
   rw [hd0] at hr
   go_wp2_with fail
   go_ret
   rw [← hr]
   exact ⟨rfl, hd, ho⟩
open Go Go.RowKit Go.Proofs.YtniegajdmbepbaaGreatDoorW.PrintWords Go.Proofs.YtniegajdmbepbaaGreatDoorW.PrintMore
set_option maxRecDepth 100000 in
theorem writing_calls (w : World) (j o : Nat) (s : ByteArray) :
    Calls Tryz.prog 41 #[.pointer (some ⟨j, 0, none⟩), .int .i64 (o : Int), .string s] w fun e w' => ∃ bj ba bs,
      e = .returned (.func (.func 72) #[] #[.pointer (some ⟨bj, 0, none⟩), .pointer (some ⟨ba, 0, none⟩), .pointer (some ⟨bs, 0, none⟩)]) ∧
      w'.heap[bj]? = some (.cells #[.pointer (some ⟨j, 0, none⟩)] 28 (0, 0)) ∧ w'.heap[ba]? = some (.cells #[.int .i64 (o : Int)] 3 (0, 0)) ∧ w'.heap[bs]? = some (.cells #[.string s] 9 (0, 0)) ∧ Below w.heap.size w w' := by
  have hmf : ∀ (fn : Fn) (first cap : Array Value) (w : World), (Instr.makeFunc fn first cap).run Tryz.prog w = .ok (.func fn first cap) w := fun _ _ _ _ => rfl
  have E : ∀ W, W = ((w.alloc (.cells #[.pointer (some ⟨j, 0, none⟩)] 28)).alloc (.cells #[.int .i64 (o : Int)] 3)).alloc (.cells #[.string s] 9) →
      W.heap[w.heap.size]? = some (.cells #[.pointer (some ⟨j, 0, none⟩)] 28 (0, 0)) ∧ W.heap[w.heap.size + 1]? = some (.cells #[.int .i64 (o : Int)] 3 (0, 0)) ∧ W.heap[w.heap.size + 1 + 1]? = some (.cells #[.string s] 9 (0, 0)) ∧ Below w.heap.size w W := by
    intro W hW
    obtain ⟨w1, e1⟩ : ∃ w1, w1 = w.alloc (.cells #[.pointer (some ⟨j, 0, none⟩)] 28) := ⟨_, rfl⟩
    obtain ⟨w2, e2⟩ : ∃ w2, w2 = w1.alloc (.cells #[.int .i64 (o : Int)] 3) := ⟨_, rfl⟩
    rw [← e1, ← e2] at hW
    have s1 : w1.heap.size = w.heap.size + 1 := by rw [e1]; simp
    have s2 : w2.heap.size = w.heap.size + 1 + 1 := by rw [e2, ← s1]; simp
    have b1 : Below w.heap.size w w1 := by rw [e1]; exact below_alloc (Below.refl _ _) _
    have b2 : Below w1.heap.size w1 w2 := by rw [e2]; exact below_alloc (Below.refl _ _) _
    have b3 : Below w2.heap.size w2 W := by rw [hW]; exact below_alloc (Below.refl _ _) _
    have q1 : w1.heap[w.heap.size]? = some (.cells #[.pointer (some ⟨j, 0, none⟩)] 28 (0, 0)) := by rw [e1]; exact heap_alloc_new ..
    have q2 : w2.heap[w.heap.size + 1]? = some (.cells #[.int .i64 (o : Int)] 3 (0, 0)) := by rw [e2, ← s1]; exact heap_alloc_new ..
    have q3 : W.heap[w.heap.size + 1 + 1]? = some (.cells #[.string s] 9 (0, 0)) := by rw [hW, ← s2]; exact heap_alloc_new ..
    exact ⟨(b3.block _ (by omega)).trans ((b2.block _ (by omega)).trans q1), (b3.block _ (by omega)).trans q2, q3, (b1.trans (b2.mono (by omega))).trans (b3.mono (by omega))⟩
  go_enter Tryz.func41, Tryz.ntmps41
  go_wp2
  go_ret
  obtain ⟨q1, q2, q3, hb⟩ := E _ rfl
  exact ⟨_, _, _, rfl, q1, q2, q3, hb⟩
open Go Go.RowKit Go.Proofs.YtniegajdmbepbaaGreatDoorW.PrintWords Go.Proofs.YtniegajdmbepbaaGreatDoorW.PrintMore Go.Proofs.YtniegajdmbepbaaGreatDoor.WPure
theorem dropWhile_all {α : Type} (p : α → Bool) : ∀ m : List α, (∀ b ∈ m.dropWhile p, p b = true) → m.dropWhile p = []
 | [], _ => rfl
 | x :: t, h => by
  by_cases hx : p x = true
  ·rw [List.dropWhile_cons_of_pos hx] at h ⊢
   exact dropWhile_all p t h
  ·rw [List.dropWhile_cons_of_neg hx] at h
   exact absurd (h x List.mem_cons_self) hx
theorem dropWhile_nil {α : Type} (p : α → Bool) : ∀ m : List α, m.dropWhile p = [] ↔ ∀ b ∈ m, p b = true
 | [] => by simp
 | x :: t => by
  by_cases hx : p x = true
  ·rw [List.dropWhile_cons_of_pos hx, dropWhile_nil p t]
   simp [hx]
  ·rw [List.dropWhile_cons_of_neg hx]
   constructor
   ·intro h; cases h
   ·intro h; exact absurd (h x List.mem_cons_self) hx
theorem trimB_nil (l : List UInt8) (c : UInt8) : Lib.trimB l c = [] ↔ ∀ b ∈ l, b = c := by
 unfold Lib.trimB Lib.trimLeftB Lib.trimRightB
 rw [dropWhile_nil]
 constructor
 ·intro h
  have h2 : l.reverse.dropWhile (· == c) = [] := dropWhile_all _ _ fun b hb => h b (List.mem_reverse.2 hb)
  rw [dropWhile_nil] at h2
  intro b hb
  simpa using h2 b (List.mem_reverse.2 hb)
 ·intro h b hb
  have hb2 := List.dropWhile_sublist (fun x => x == c) |>.mem (List.mem_reverse.1 hb)
  simpa using h b (List.mem_reverse.1 hb2)
theorem trim_zero (s : ByteArray) : (⟨(Lib.trimB s.data.toList 0).toArray⟩ : ByteArray) = ⟨#[]⟩ ↔ (bl s).all (· == 0) = true := by
 have e1 : (⟨(Lib.trimB s.data.toList 0).toArray⟩ : ByteArray) = ⟨#[]⟩ ↔ Lib.trimB s.data.toList 0 = [] := by
  constructor
  ·intro h
   have := congrArg (fun x => x.data.toList) h
   simpa using this
  ·intro h; rw [h]
 rw [e1, trimB_nil, List.all_eq_true]
 unfold bl
 constructor
 ·intro h b hb
  obtain ⟨x, hx, rfl⟩ := List.mem_map.1 hb
  rw [h x hx]
  rfl
 ·intro h b hb
  have := h b.toNat (List.mem_map.2 ⟨b, hb, rfl⟩)
  have h0 : b.toNat = 0 := by simpa using this
  exact UInt8.toNat_inj.1 h0
structure JAt (w : World) (B j : Nat) (D : Dsk) (jr : Jr) (rv : Value) : Prop where
 tape : TAt w B j 74 [.pointer (some ⟨D.d, 0, none⟩), .bool jr.broken] jr.records jr.head jr.size rv
def JrAt (w : World) (B j : Nat) (D : Dsk) (jr : Jr) : Prop := ∃ rv, JAt w B j D jr rv
theorem TAt.off {w W : World} {base p : Nat} {T : TypeId} {rest : List Value} {rs : List ByteArray} {head : ByteArray} {size : Nat} {rv : Value} (h : TAt w base p T rest rs head size rv) {D : Dsk} {dk : Dk} (o : Off D w W) (hd : DiskAt w D dk)
  (h1 : T ≠ 97) (h2 : T ≠ 5) (h3 : T ≠ 92) : TAt W base p T rest rs head size rv :=
 ⟨o.stands hd h.blk h1 h2 h3, own_keep h.own fun g hg => by
  obtain ⟨cs, hc⟩ := own_block h.own hg
  rw [hc]
  exact o.stands hd hc (by decide) (by decide) (by decide), h.ne, h.hp, Nat.le_trans h.hs o.size⟩
theorem JrAt.off {w W : World} {B j : Nat} {D : Dsk} {jr : Jr} (h : JrAt w B j D jr) {dk : Dk} (o : Off D w W) (hd : DiskAt w D dk) : JrAt W B j D jr :=
 let ⟨rv, h⟩ := h; ⟨rv, ⟨h.tape.off o hd (by decide) (by decide) (by decide)⟩⟩
theorem JrAt.keep {w W : World} {B j : Nat} {D : Dsk} {jr : Jr} (h : JrAt w B j D jr) (k : Below w.heap.size w W) : JrAt W B j D jr := let ⟨rv, h⟩ := h; ⟨rv, ⟨h.tape.keep k⟩⟩
theorem JrAt.jp {w : World} {B j : Nat} {D : Dsk} {jr : Jr} (h : JrAt w B j D jr) : JP w j D := let ⟨rv, h⟩ := h; ⟨_, h.tape.blk, rfl⟩
def jres (w' : World) (B : Nat) (D : Dsk) : Option Jr × Int → Ending → Prop
 | (some jr, _), e => ∃ j, e = .returned (.tuple #[.pointer (some ⟨j, 0, none⟩), .int .i64 0]) ∧ JrAt w' B j D jr
 | (none, c), e => e = .returned (.tuple #[.pointer none, .int .i64 c])
theorem openM_off (d : Dk) (h : d.off = true) : openM chF z32 d = (d, none, 281) := by unfold openM; rw [if_pos h]
theorem openM_bad (d : Dk) (h : d.off = false) (hp : parse chF (d.vis.length + 1) z32 d.vis = none) : openM chF z32 d = (d, none, 292) := by unfold openM; rw [if_neg (by rw [h]; decide), hp]
theorem openM_clean (d : Dk) (h : d.off = false) (rs : List ByteArray) (n : Nat) (hp : parse chF (d.vis.length + 1) z32 d.vis = some (rs, n)) (hz : (d.vis.drop n).all (· == 0) = true) : openM chF z32 d = (d, some ⟨rs, headOf chF z32 rs, n, false⟩, 0) := by
 unfold openM; rw [if_neg (by rw [h]; decide), hp]; dsimp only; rw [if_pos hz]
theorem openM_wipe (d : Dk) (h : d.off = false) (rs : List ByteArray) (n : Nat) (hp : parse chF (d.vis.length + 1) z32 d.vis = some (rs, n)) (hz : ¬ (d.vis.drop n).all (· == 0) = true) :
  openM chF z32 d = if (runC d [.wr n (ofB (zeros (d.vis.length - n))), .sy]).2 = 0 then ((runC d [.wr n (ofB (zeros (d.vis.length - n))), .sy]).1, some ⟨rs, headOf chF z32 rs, n, false⟩, 0) else ((runC d [.wr n (ofB (zeros (d.vis.length - n))), .sy]).1, none, (runC d [.wr n (ofB (zeros (d.vis.length - n))), .sy]).2) := by
 unfold openM; rw [if_neg (by rw [h]; decide), hp]; dsimp only; rw [if_neg hz]
 have r1 : runC d [.wr n (ofB (zeros (d.vis.length - n))), .sy] = if (d.write (n : Int) (ofB (zeros (d.vis.length - n)))).2 = 0 then runC (d.write (n : Int) (ofB (zeros (d.vis.length - n)))).1 [.sy] else d.write (n : Int) (ofB (zeros (d.vis.length - n))) := rfl
 have r2 : ∀ d1 : Dk, runC d1 [.sy] = if d1.sync.2 = 0 then (d1.sync.1, 0) else d1.sync := fun _ => rfl
 by_cases h1 : (d.write (n : Int) (ofB (zeros (d.vis.length - n)))).2 = 0
 ·rw [if_neg (fun k => k h1), r1, if_pos h1, r2]
  by_cases h2 : (d.write (n : Int) (ofB (zeros (d.vis.length - n)))).1.sync.2 = 0
  ·rw [if_neg (fun k => k h2), if_pos h2, if_pos rfl]
  ·rw [if_pos h2, if_neg h2, if_neg h2]
 ·rw [if_pos h1, r1, if_neg h1, if_neg h1]
open Go Go.RowKit Go.Shelf Go.Proofs.YtniegajdmbepbaaGreatDoor.Rf Go.Proofs.YtniegajdmbepbaaGreatDoorW.PrintWords Go.Proofs.YtniegajdmbepbaaGreatDoorW.PrintLast Go.Proofs.YtniegajdmbepbaaGreatDoorW.PrintMore Go.Proofs.YtniegajdmbepbaaGreatDoor.Sha
theorem first2 {w5 : World} {D : Dsk} {dk : Dk} {p n bj ba bs : Nat} {Z : ByteArray} (hD : DiskAt w5 D dk) (hj : JP w5 p D) (q1 : w5.heap[bj]? = some (.cells #[.pointer (some ⟨p, 0, none⟩)] 28 (0, 0)))
  (q2 : w5.heap[ba]? = some (.cells #[.int .i64 (n : Int)] 3 (0, 0))) (q3 : w5.heap[bs]? = some (.cells #[.string Z] 9 (0, 0))) (hf : dk.pend.length + 2 ≤ 1099511627776) :
  Calls Tryz.prog 40 #[.slice (some ⟨w5.heap.size, 0, none⟩) 2 2] (w5.alloc (.cells #[.func (.func 72) #[] #[.pointer (some ⟨bj, 0, none⟩), .pointer (some ⟨ba, 0, none⟩), .pointer (some ⟨bs, 0, none⟩)], .func (.func 42) #[.pointer (some ⟨D.d, 0, none⟩)] #[]] 85)) fun e w' =>
   e = .returned (.int .i64 (runC dk [.wr n Z, .sy]).2) ∧ DiskAt w' D (runC dk [.wr n Z, .sy]).1 ∧ Off D w5 w' := by
 obtain ⟨vs, hvs⟩ : ∃ vs : List Value, vs = [.func (.func 72) #[] #[.pointer (some ⟨bj, 0, none⟩), .pointer (some ⟨ba, 0, none⟩), .pointer (some ⟨bs, 0, none⟩)], .func (.func 42) #[.pointer (some ⟨D.d, 0, none⟩)] #[]] := ⟨_, rfl⟩
 obtain ⟨W, hW⟩ : ∃ W, W = w5.alloc (.cells vs.toArray 85) := ⟨_, rfl⟩
 have b6 : Below w5.heap.size w5 W := by rw [hW]; exact below_alloc (Below.refl _ _) _
 have g6 : W.heap[w5.heap.size]? = some (.cells vs.toArray 85 (0, 0)) := by rw [hW]; exact heap_alloc_new ..
 have hj6 : JP W p D := let ⟨cs, h1, h2⟩ := hj; ⟨cs, (b6.block _ (Array.getElem?_eq_some_iff.1 h1).1).trans h1, h2⟩
 have h := first_calls (c := 2) [.wr n Z, .sy] vs (hD.keep b6) hj6 g6 (by rw [hvs]; rfl)
  (by
   intro i cm v hc hv
   rw [hvs] at hv
   match i, hc, hv with
   | 0, hc, hv =>
    obtain rfl := Option.some.inj hc
    obtain rfl := Option.some.inj hv
    exact ⟨bj, ba, bs, rfl, (b6.block _ (Array.getElem?_eq_some_iff.1 q1).1).trans q1, (b6.block _ (Array.getElem?_eq_some_iff.1 q2).1).trans q2, (b6.block _ (Array.getElem?_eq_some_iff.1 q3).1).trans q3⟩
   | 1, hc, hv =>
    obtain rfl := Option.some.inj hc
    obtain rfl := Option.some.inj hv
    rfl
   | i + 2, hc, hv => cases hc) (by show 2 ≤ 1000; omega) (by show _ + 2 ≤ _; omega)
 rw [hW, hvs] at h
 rw [hW, hvs] at b6
 refine h.mono ?_
 rintro e w' ⟨he, hd, ho⟩
 exact ⟨he, hd, (Off.of_below b6).trans ho⟩
structure TJ (w : World) (B p : Nat) (D : Dsk) (n : Nat) (h0 : ByteArray) (rs : List ByteArray) (rv : Value) : Prop where
 tape : TAt w B p 74 [.pointer (some ⟨D.d, 0, none⟩), .bool false] rs h0 n rv
theorem TJ.cell {w : World} {B p : Nat} {D : Dsk} {n : Nat} {h0 : ByteArray} {rs : List ByteArray} {rv : Value} (h : TJ w B p D n h0 rs rv) : w.cell? ⟨p, 2, none⟩ = some (.int .i64 (n : Int)) := h.tape.cell2
theorem TJ.jp {w : World} {B p : Nat} {D : Dsk} {n : Nat} {h0 : ByteArray} {rs : List ByteArray} {rv : Value} (h : TJ w B p D n h0 rs rv) : JP w p D := ⟨_, h.tape.blk, rfl⟩
def SJo (v : World) (D : Dsk) (dk : Dk) (p n : Nat) (h0 : ByteArray × Nat × Value) (rs : List ByteArray) (W : World) : Prop := TJ W h0.2.1 p D n h0.1 rs h0.2.2 ∧ DiskAt W D dk ∧ Off D v W
theorem keepSJo {v : World} {D : Dsk} {dk : Dk} {p n : Nat} {h0 : ByteArray × Nat × Value} {rs : List ByteArray} {W W' : World} (h : SJo v D dk p n h0 rs W) (hb : Below W.heap.size W W') : SJo v D dk p n h0 rs W' :=
 ⟨⟨h.1.tape.keep hb⟩, h.2.1.keep hb, h.2.2.then hb⟩
def jopen.T10 : Bool × List (List Nat × List Nat) := (true, [([], []), ([], []), ([1], [1]), ([2], [2]), ([3], [3]), ([4], [4]), ([], []), ([6], [6]), ([], []), ([8], [8]), ([9], [9]), ([10], [10]), ([11], [11]), ([7, 12], [7, 12]), ([13, 13], [13]), ([14], [14]), ([0, 5, 15], [0, 5, 15]), ([], []), ([17], [17]), ([16, 18], [16, 18]), ([19, 16], [19]), ([20, 20, 0, 1, 2, 3, 4, 5, 6, 7, 8, 9, 10, 11, 12, 13, 14, 15, 16, 17, 18, 19, 20], [20])])
def jopen.B10 : List Nat := [0, 0, 2, 6, 14, 30, 0, 64, 0, 256, 768, 1792, 3840, 8128, 16320, 32704, 65535, 0, 131072, 524287, 1048575, 2097151]
theorem jopen.tab10 : rtab .any (opsOf Tryz.f25 10) = jopen.T10 := by kernel_rfl
theorem jopen.bits10 : waitsOk jopen.T10.2 jopen.B10 = true := by kernel_rfl
noncomputable def jopenR10 : Code := ((Tryz.f25.body.bind (regionOf 10)).getD .skip)
set_option maxHeartbeats 8000000 in
set_option maxRecDepth 100000 in
theorem jopen_r10 (R : Act → World → Prop) (v W : World) (v1 v2 v3 v5 v7 v8 v9 v10 v11 v12 v13 v14 v15 v16 v17 v18 v19 v20 v21 v22 v23 v24 v25 v26 v27 v28 v29 v30 v31 v32 v33 v34 v35 v36 v37 v38 v39 v40 v41 v42 v43 v44 v45 v46 v47 v48 v49 v50 v51 v52 v53 v54 v55 v56 v57 v58 v59 v60 v61 : Value) (D : Dsk) (dk : Dk) (p n M : Nat) (s Z : ByteArray) (h0 : ByteArray × Nat × Value) (rs : List ByteArray) (hw : IntKind.i64.wrap ((s.size : Int) - (n : Int)) = (M : Int)) (hM : M ≤ 281474976710656) (hZ : ofB (zeros M) = Z) (hf : dk.pend.length + 2 ≤ 1099511627776)
  (hS : SJo v D dk p n h0 rs W)
  (hQ : ∀ (z37 z38 z39 z40 z41 z42 z43 z44 z45 z46 z47 z48 z49 z50 z51 z52 z53 z54 z55 z56 z57 : Value) (W' : World), DiskAt W' D (runC dk [.wr n Z, .sy]).1 → TapeAt W' h0.2.1 p 74 [.pointer (some ⟨D.d, 0, none⟩), .bool false] rs h0.1 n → Off D v W' → R ⟨#[Value.pointer (some ⟨D.d, 0, none⟩), v1, v2, v3, Value.string s, Value.int IntKind.i64 (runC dk [.wr n Z, .sy]).2, Value.pointer (some ⟨p, 0, none⟩), v7, v8, v9, v10, v11, v12, v13, v14, v15, v16, v17, v18, v19, v20, v21, v22, v23, v24, v25, v26, v27, v28, v29, v30, v31, v32, v33, v34, v35, v36, z37, z38, z39, z40, z41, z42, z43, z44, z45, z46, z47, z48, z49, z50, z51, z52, z53, z54, z55, z56, z57, v58, v59, v60, v61], []⟩ W') :
  jopenR10.wp Tryz.prog (Norm R) ⟨#[Value.pointer (some ⟨D.d, 0, none⟩), v1, v2, v3, Value.string s, v5, Value.pointer (some ⟨p, 0, none⟩), v7, v8, v9, v10, v11, v12, v13, v14, v15, v16, v17, v18, v19, v20, v21, v22, v23, v24, v25, v26, v27, v28, v29, v30, v31, v32, v33, v34, v35, v36, v37, v38, v39, v40, v41, v42, v43, v44, v45, v46, v47, v48, v49, v50, v51, v52, v53, v54, v55, v56, v57, v58, v59, v60, v61], []⟩ W := by
 have hmk := run_make_bytes M hM
 have hmf : ∀ (fn : Fn) (first cap : Array Value) (w : World), (Instr.makeFunc fn first cap).run Tryz.prog w = .ok (.func fn first cap) w := fun _ _ _ _ => rfl
 unfold jopenR10
 conv => arg 2; whnf
 refine start_ (n := 22) (S := SJo v D dk p n h0 rs) (ds := [20]) (Sx14.b 22 0) (by kernel_rfl) rfl rfl (keepSJo hS (below_drew1 (Below.refl _ _))) (fun hHeld => ?_); refine with_tabW jopen.tab10 jopen.bits10 (fun HT_ HW_ => ?_)
 generalize W.drew = w0_ at hHeld ⊢
 refine Sx14.p (i := 0) (N := some 37) HT_.out (Sx14.b 22 1) ?_
 refine Sx14.p (i := 1) (N := some 38) HT_.out (Sx14.b 22 3) ?_
 refine Sx14.p (i := 2) (N := some 39) HT_.out (Sx14.b 22 7) ?_
 refine Sx14.p (i := 3) (N := some 40) HT_.out (Sx14.b 22 15) ?_
 refine Sx14.p (i := 4) (N := some 41) HT_.out (Sx14.b 22 31) ?_
 refine Sx14.p (i := 6) (N := some 43) HT_.out (Sx14.b 22 95) ?_
 refine Sx14.p (i := 7) (N := some 44) HT_.out (Sx14.b 22 223) ?_
 refine Sx14.p (i := 8) (N := some 45) HT_.out (Sx14.b 22 479) ?_
 refine Sx14.p (i := 9) (N := some 46) HT_.out (Sx14.b 22 991) ?_
 refine Sx14.p (i := 10) (N := some 47) HT_.out (Sx14.b 22 2015) ?_
 refine Sx14.p (i := 11) (N := some 48) HT_.out (Sx14.b 22 4063) ?_
 refine Sx14.p (i := 17) (N := some 54) HT_.out (Sx14.b 22 135135) ?_
 refine Sx14.p (i := 18) (N := some 55) HT_.out (Sx14.b 22 397279) ?_
 refine take_ (i := 5) (N := some 42) (v := ?_) (a' := ?_) (Sx14.b 22 397311) rfl rfl (take_ofW HT_.out HW_.out (by kernel_rfl)) (fun _ _ _ h => h) (Or.inl ⟨by rfl, ?_⟩) hHeld ?_ ?_
 rotate_left
 ·intro w' hS_
  have c_ := hS_.1.cell
  go_simp
  with_reducible rfl
 rotate_left
 ·simp only [Act.put, Sx14.u, Sx14.v, Sx14.w, i64_w, i32_w]
  rfl
 refine take_ (i := 12) (N := some 49) (v := ?_) (a' := ?_) (Sx14.b 22 401407) rfl rfl (take_ofW HT_.out HW_.out (by kernel_rfl)) (fun _ _ _ h => h) (Or.inl ⟨by rfl, ?_⟩) hHeld ?_ ?_
 rotate_left
 ·intro w' hS_
  have c_ := hS_.1.cell
  go_simp
  with_reducible rfl
 rotate_left
 ·simp only [Act.put, Sx14.u, Sx14.v, Sx14.w, i64_w, i32_w]
  rfl
 refine Sx14.p (i := 13) (N := some 50) HT_.out (Sx14.b 22 409599) ?_
 refine one_ (i := 14) (N := some 51) (Sx14.b 22 425983) rfl rfl (one_of HT_.out (by kernel_rfl)) (by decide) (fun K hK => ?_)
 go_simp
 refine hK.out _ _ (keepSJo hHeld (below_alloc (Below.refl _ _) _)) (fun hHeld => ?_)
 clear hK K
 have hcv := conv_zeros M w0_
 rw [hZ] at hcv
 generalize w0_.alloc (.cells (bv (zeros M)).toArray 5) = w14 at hHeld hcv ⊢
 refine one_ (i := 15) (N := some 52) (Sx14.b 22 458751) rfl rfl (one_of HT_.out (by kernel_rfl)) (by decide) (fun K hK => ?_)
 go_simp
 refine hK.out _ _ hHeld (fun hHeld => ?_)
 clear hK K hcv
 refine one_ (i := 16) (N := some 53) (Sx14.b 22 524287) rfl rfl (one_of HT_.out (by kernel_rfl)) (by decide) (fun K hK => ?_)
 refine goes_ Tryz.func41 (by kernel_rfl) rfl #[.pointer (some ⟨p, 0, none⟩), .int .i64 (n : Int), .string Z] (by rfl) rfl rfl (by (try simp only [List.map_toArray, List.map_cons, List.map_nil]); first | done | rfl) ?_
 refine (writing_calls _ p n Z).mono ?_
 rintro e w16 ⟨bj, ba, bs, rfl, q1, q2, q3, hd⟩
 refine ⟨_, rfl, ?_⟩
 refine hK.out _ _ (keepSJo hHeld hd) (fun hHeld => ?_)
 clear hK K
 refine norm_ (a' := ?_) ?_ ?_
 rotate_left
 ·show Act.put _ (some 53) _ = _
  simp only [Act.put, Sx14.u, Sx14.v, Sx14.w, i64_w, i32_w]
  rfl
 refine one_ (i := 19) (N := some 56) (Sx14.b 22 1048575) rfl rfl (one_of HT_.out (by kernel_rfl)) (by decide) (fun K hK => ?_)
 have hfi := first2 hHeld.2.1 hHeld.1.jp q1 q2 q3 hf
 go_simp
 refine hK.out _ _ (keepSJo hHeld (below_alloc (Below.refl _ _) _)) (fun hHeld2 => ?_)
 clear hK K
 refine last_ (i := 20) (N := some 57) (Sx14.b 22 2097151) rfl rfl (one_of HT_.out (by kernel_rfl)) (by decide) (fun K hK => ?_)
 refine goes_ Tryz.func40 (by kernel_rfl) rfl #[.slice (some ⟨w16.heap.size, 0, none⟩) 2 2] (by rfl) rfl rfl (by (try simp only [List.map_toArray, List.map_cons, List.map_nil]); first | done | rfl) ?_
 refine hfi.mono ?_
 rintro e w20 ⟨rfl, hd20, o20⟩
 refine ⟨_, rfl, ?_⟩
 refine hK.out _ _ ?_
 clear hK K
 refine norm_ (a' := ?_) ?_ ?_
 rotate_left
 ·show Act.put _ (some 57) _ = _
  simp only [Act.put, Sx14.u, Sx14.v, Sx14.w, i64_w, i32_w]
  rfl
 refine Sx14.p (i := 21) (N := some 5) HT_.out (Sx14.b 22 4194303) ?_
 refine done_ (done_of HT_.out (by kernel_rfl)) ?_
 exact hQ _ _ _ _ _ _ _ _ _ _ _ _ _ _ _ _ _ _ _ _ _ _ hd20 ⟨_, hHeld.1.tape.off o20 hHeld.2.1 (by decide) (by decide) (by decide)⟩ (hHeld.2.2.trans o20)
open Go Go.RowKit Go.Proofs.YtniegajdmbepbaaGreatDoorW.PrintWords Go.Proofs.YtniegajdmbepbaaGreatDoorW.PrintMore Go.Proofs.YtniegajdmbepbaaGreatDoor.WPure
theorem Hid.mk' {p : Prop} (h : p) : Hid p := h
set_option maxRecDepth 100000 in
set_option maxHeartbeats 8000000 in
theorem jopen_calls {w : World} {D : Dsk} {dk : Dk} (h : DiskAt w D dk) (a : Addr) (hA : Sha.Amb w) (hE : AmbE a w) (hf : dk.pend.length + 2 ≤ 1099511627776) :
    Calls Tryz.prog 25 #[.pointer (some ⟨D.d, 0, none⟩)] w fun e w' => DiskAt w' D (openM chF z32 dk).1 ∧ Off D w w' ∧ jres w' w.heap.size D (openM chF z32 dk).2 e := by
  have hS := size_calls h
  have hR := read_calls h
  obtain ⟨N, hN⟩ : ∃ N, dk.dur.length = N := ⟨_, rfl⟩
  have hlen : dk.vis.length = N := by obtain ⟨pv, h⟩ := h; exact h.len.trans hN
  have hNs : N ≤ 4194304 := by obtain ⟨pv, h⟩ := h; have := h.small; omega
  have hlt : ∀ b ∈ dk.vis, b < 256 := by obtain ⟨pv, h⟩ := h; exact h.lt
  rw [hN] at hS hR
  cases ho : dk.off with
  | true =>
    rw [ho, if_pos rfl, if_pos rfl] at hR
    rw [openM_off dk ho]
    go_enter Tryz.func25, Tryz.ntmps25
    go_wp2_with (first
      | (go_at_call 51; refine hS.mono ?_; rintro e w' ⟨rfl, rfl⟩)
      | (go_at_call 52; refine hR.mono ?_; rintro e w' ⟨rfl, rfl⟩))
    go_ret2
    exact ⟨h, Off.refl _ _, rfl⟩
  | false =>
    rw [ho, if_neg (by decide), if_neg (by decide)] at hR
    obtain ⟨s, hs⟩ : ∃ s, ofB dk.vis = s := ⟨_, rfl⟩
    have hbl : bl s = dk.vis := by rw [← hs]; exact bl_ofB hlt
    have hsz : s.size = N := by rw [← bl_length, hbl, hlen]
    rw [hs] at hR
    obtain ⟨P, hP⟩ : ∃ P, P = parse chF (s.size + 1) z32 (bl s) := ⟨_, rfl⟩
    have hO := open_calls ⟨D.d, 0, none⟩ s a w (by omega) hA hE P hP
    rw [hbl, hsz, ← hlen] at hP
    cases P with
    | none =>
      rw [openM_bad dk ho hP.symm]
      go_enter Tryz.func25, Tryz.ntmps25
      go_wp2_with (first
        | (go_at_call 51; refine hS.mono ?_; rintro e w' ⟨rfl, rfl⟩)
        | (go_at_call 52; refine hR.mono ?_; rintro e w' ⟨rfl, rfl⟩)
        | (go_at_call 54; refine hO.mono ?_; rintro e w2 ⟨hb2, rfl⟩))
      go_ret2
      exact ⟨h.keep hb2, Off.of_below hb2, rfl⟩
    | some q =>
      obtain ⟨rs, n⟩ := q
      have hn : n ≤ N := by rw [← hlen]; exact (parse_some chF _ _ _ _ _ hlt (Nat.lt_succ_self _) hP.symm).1
      have x1 : ((n : Int) ≤ (s.size : Int)) = True := eq_true (by omega)
      have x2 : n ≤ s.size := by omega
      have htr : bl (s.extract n s.size) = dk.vis.drop n := by rw [bl_extract, hbl, hsz, ← hlen, List.take_length]
      have hT := fun W => Tryz.strings_Trim_one (s.extract n s.size) 0 (by decide) W (by
        have := congrArg List.length htr
        rw [bl_length, List.length_drop] at this
        omega)
      have hX := trim_zero (s.extract n s.size)
      rw [htr] at hX
      obtain ⟨X, hXe⟩ : ∃ X, (⟨(Lib.trimB (s.extract n s.size).data.toList 0).toArray⟩ : ByteArray) = X := ⟨_, rfl⟩
      rw [hXe] at hX hT
      by_cases hz : (dk.vis.drop n).all (· == 0) = true
      · rw [openM_clean dk ho rs n hP.symm hz]
        obtain rfl := hX.2 hz
        clear hX hXe htr hz hP hs hbl hlen hlt
        clear hsz
        go_enter Tryz.func25, Tryz.ntmps25
        go_wp2_with (first
          | (go_at_call 51; refine hS.mono ?_; rintro e w' ⟨rfl, rfl⟩)
          | (go_at_call 52; refine hR.mono ?_; rintro e w' ⟨rfl, rfl⟩)
          | (go_at_call 54; refine hO.mono ?_; rintro e w2 ⟨hb2, p, rfl, rv, h2⟩
             have c2 := h2.cell2)
          | (go_at_call 55; refine (hT _).mono ?_; rintro e w3 ⟨rfl, hw3⟩
             have hb3 : Below w2.heap.size w2 w3 := by rcases hw3 with rfl | rfl; exact Below.refl _ _; exact (Below.refl _ _).drew))
        go_ret2
        exact ⟨(h.keep hb2).keep hb3, (Off.of_below hb2).then hb3, p, rfl, rv, ⟨h2.keep hb3⟩⟩
      · rw [openM_wipe dk ho rs n hP.symm hz, hlen]
        have hXn : X ≠ ⟨#[]⟩ := fun e => hz (hX.1 e)
        have y1 : (X.toList == (⟨#[]⟩ : ByteArray).toList) = false := by
          rw [beq_eq_false_iff_ne]
          intro e
          exact hXn (nl_toList.1 e)
        have y2 : (X.toList != (⟨#[]⟩ : ByteArray).toList) = true := by
          rw [bne_iff_ne]
          intro e
          exact hXn (nl_toList.1 e)
        obtain ⟨M, hM⟩ : ∃ M, N - n = M := ⟨_, rfl⟩
        rw [hM]
        have hw : IntKind.i64.wrap ((s.size : Int) - (n : Int)) = (M : Int) := by rw [IntKind.wrap_i64, hsz]; omega
        have hmk := run_make_bytes M (by omega)
        have hmf : ∀ (fn : Fn) (first cap : Array Value) (w : World), (Instr.makeFunc fn first cap).run Tryz.prog w = .ok (.func fn first cap) w := fun _ _ _ _ => rfl
        obtain ⟨Z, hZ⟩ : ∃ Z, ofB (zeros M) = Z := ⟨_, rfl⟩
        rw [hZ]
        obtain ⟨R, hR2⟩ : ∃ R, runC dk [.wr n Z, .sy] = R := ⟨_, rfl⟩
        rw [hR2]
        obtain ⟨G, hG⟩ : ∃ G, (if R.2 = 0 then (R.1, some (⟨rs, headOf chF z32 rs, n, false⟩ : Jr), (0 : Int)) else (R.1, none, R.2)) = G := ⟨_, rfl⟩
        rw [hG]
        have hGH := Hid.mk' hG
        clear hG
        have y3 : X.toList.isEmpty = false := by
          cases hl : X.toList with
          | nil => exact absurd (nl_toList.1 (hl.trans (show ([] : List UInt8) = (⟨#[]⟩ : ByteArray).toList from by kernel_rfl))) hXn
          | cons x l => rfl
        have hZ' := hZ
        clear hX hXe htr hz hP hs hbl hlen hlt hXn hsz hZ hmk hmf
        go_enter Tryz.func25, Tryz.ntmps25
        go_upto_region 10 with (first
          | (go_at_call 51; refine hS.mono ?_; rintro e w' ⟨rfl, rfl⟩)
          | (go_at_call 52; refine hR.mono ?_; rintro e w' ⟨rfl, rfl⟩)
          | (go_at_call 54; refine hO.mono ?_; rintro e w2 ⟨hb2, p, rfl, rv, h2⟩
             have c2 := h2.cell2)
          | (go_at_call 55; refine (hT _).mono ?_; rintro e w3 ⟨rfl, hw3⟩
             have hb3 : Below w2.heap.size w2 w3 := by rcases hw3 with rfl | rfl; exact Below.refl _ _; exact (Below.refl _ _).drew))
        clear hw3
        have h3 := h2.keep hb3
        have hD3 := (h.keep hb2).keep hb3
        have O3 : Off D w' w3 := (Off.of_below hb2).then hb3
        clear c2 h2 hb3 hb2
        refine Sha.norm_wp ?_
        refine jopen_r10 _ w' w3 _ _ _ _ _ _ _ _ _ _ _ _ _ _ _ _ _ _ _ _ _ _ _ _ _ _ _ _ _ _ _ _ _ _ _ _ _ _ _ _ _ _ _ _ _ _ _ _ _ _ _ _ _ _ _ _ _ _ _ D dk p n M s Z (headOf chF z32 rs, w'.heap.size, rv) rs hw (by omega) hZ' (by omega) ⟨⟨h3⟩, hD3, O3⟩ ?_
        intro z37 z38 z39 z40 z41 z42 z43 z44 z45 z46 z47 z48 z49 z50 z51 z52 z53 z54 z55 z56 z57 W' hd7 ht7 ho7
        rw [hR2] at hd7
        rw [hR2]
        by_cases hR0 : R.2 = 0
        · have hG2 := hGH.out
          rw [if_pos hR0] at hG2
          clear hGH
          obtain ⟨E, hE2⟩ : ∃ E, R.2 = E := ⟨_, rfl⟩
          rw [hE2] at hR0 ⊢
          subst hR0
          go_wp2_with fail
          go_ret2
          rw [← hG2]
          exact ⟨hd7, ho7, p, rfl, (let ⟨rv7, h7⟩ := ht7; ⟨rv7, ⟨h7⟩⟩)⟩
        · have hG2 := hGH.out
          rw [if_neg hR0] at hG2
          clear hGH
          obtain ⟨E, hE2⟩ : ∃ E, R.2 = E := ⟨_, rfl⟩
          rw [hE2] at hR0 ⊢
          have u1 : (E != 0) = true := bne_iff_ne.mpr hR0
          have u2 : (E = 0) = False := eq_false hR0
          go_wp2_with fail
          go_ret2
          rw [← hG2]
          exact ⟨hd7, ho7, by show _ = _; rw [hE2]; rfl⟩
open Go Go.RowKit Go.Proofs.YtniegajdmbepbaaGreatDoorW.PrintWords Go.Proofs.YtniegajdmbepbaaGreatDoorW.PrintMore
theorem clone_calls {w : World} {base : Nat} {v : Value} {rs : List ByteArray} (h : w.ownsRow base 9 1 v rs.length (rs.map Value.string)) (hn : rs.length ≤ 1099511627776) :
  Calls Tryz.prog 36 #[v] w fun e w' => ∃ v', e = .returned v' ∧ w'.ownsRow w.heap.size 9 1 v' rs.length (rs.map Value.string) ∧ Below w.heap.size w w' := by
 rcases h.2 with ⟨rfl, h0⟩ | ⟨g, cap, cur, rfl, hb, hg, hnc, hcm, hcs, htake⟩
 ·obtain rfl := List.eq_nil_of_length_eq_zero h0
  refine (Tryz.slices_Clone_string_nil 0 0 w).mono ?_
  rintro e w' ⟨rfl, rfl⟩
  exact ⟨_, rfl, World.ownsRow_nil _ _ _ _, Below.refl _ _⟩
 ·by_cases h0 : rs.length = 0
  ·obtain rfl := List.eq_nil_of_length_eq_zero h0
   refine (Tryz.slices_Clone_string_zero ⟨g, 0, none⟩ cap w).mono ?_
   rintro e w' ⟨v', rfl, ho, _, hbl⟩
   exact ⟨_, rfl, ho, hbl⟩
  ·refine (Tryz.slices_Clone_string g 0 rs.length cap rs w (Nat.le_refl _) (by omega) ?_).mono ?_
   ·intro j hj
    have hc := h.cells (g := g) rfl j (.string (rs.getD j ByteArray.empty)) (by
     rw [List.getElem?_map, List.getElem?_eq_getElem hj, List.getD_eq_getElem?_getD, List.getElem?_eq_getElem hj]
     rfl)
    have hadd : (⟨g, 0, none⟩ : Addr).add j = ⟨g, j, none⟩ := by unfold Addr.add; split <;> simp_all
    rw [hadd] at hc
    rw [Nat.zero_add]
    exact hc
   ·rintro e w' ⟨v', rfl, ho, _, hbl⟩
    rw [List.take_length] at ho
    exact ⟨_, rfl, ho, hbl⟩
theorem records_calls {w : World} {B j : Nat} {D : Dsk} {jr : Jr} (h : JrAt w B j D jr) (hn : jr.records.length ≤ 1099511627776) :
  Calls Tryz.prog 19 #[.pointer (some ⟨j, 0, none⟩)] w fun e w' => ∃ v', e = .returned v' ∧ w'.ownsRow w.heap.size 9 1 v' jr.records.length (jr.records.map Value.string) ∧ Below w.heap.size w w' := by
 obtain ⟨rv, h⟩ := h
 have c0 := h.tape.cell0
 have hC := clone_calls h.tape.own hn
 go_enter Tryz.func19, Tryz.ntmps19
 go_wp2_with (go_at_call 36; refine hC.mono ?_; rintro e w2 ⟨v', rfl, h2, b2⟩)
 go_ret
 exact ⟨_, rfl, h2, b2⟩
set_option maxRecDepth 100000 in
theorem room_calls {w : World} {B j : Nat} {D : Dsk} {jr : Jr} (h : JrAt w B j D jr) {dk : Dk} (hd : DiskAt w D dk) (hs : jr.size ≤ 1099511627776) :
  Calls Tryz.prog 20 #[.pointer (some ⟨j, 0, none⟩)] w fun e w' => e = .returned (.int .i64 ((dk.dur.length : Int) - (jr.size : Int))) ∧ Below w.heap.size w w' := by
 have hj := h.jp.cell
 obtain ⟨rv, h⟩ := h
 have c2 := h.tape.cell2
 have hsm : dk.dur.length ≤ 4194304 := let ⟨_, hd⟩ := hd; hd.small
 have hS := size_calls (hd.keep (Below.refl w.heap.size w).drew)
 have hw : IntKind.i64.wrap ((dk.dur.length : Int) - (jr.size : Int)) = (dk.dur.length : Int) - (jr.size : Int) := by rw [IntKind.wrap_i64]; omega
 go_enter Tryz.func20, Tryz.ntmps20
 go_upto_region 3 with (fail)
 go_region_with (go_at_call 51; refine hS.mono ?_; rintro e w2 ⟨rfl, rfl⟩)
 all_goals
  go_wp2_with fail
  go_ret
  exact ⟨rfl, (Below.refl _ _).drew⟩
open Go Go.RowKit Go.Shelf Go.Proofs.YtniegajdmbepbaaGreatDoor.Rf Go.Proofs.YtniegajdmbepbaaGreatDoorW.PrintWords Go.Proofs.YtniegajdmbepbaaGreatDoorW.PrintLast Go.Proofs.YtniegajdmbepbaaGreatDoorW.PrintMore Go.Proofs.YtniegajdmbepbaaGreatDoor.Sha
theorem first4 {w5 : World} {D : Dsk} {dk : Dk} {p m n bj ba bs cj ca cs : Nat} {Y Z : ByteArray} (hD : DiskAt w5 D dk) (hj : JP w5 p D) (q1 : w5.heap[bj]? = some (.cells #[.pointer (some ⟨p, 0, none⟩)] 28 (0, 0))) (q2 : w5.heap[ba]? = some (.cells #[.int .i64 (m : Int)] 3 (0, 0))) (q3 : w5.heap[bs]? = some (.cells #[.string Y] 9 (0, 0)))
  (r1 : w5.heap[cj]? = some (.cells #[.pointer (some ⟨p, 0, none⟩)] 28 (0, 0))) (r2 : w5.heap[ca]? = some (.cells #[.int .i64 (n : Int)] 3 (0, 0))) (r3 : w5.heap[cs]? = some (.cells #[.string Z] 9 (0, 0))) (hf : dk.pend.length + 4 ≤ 1099511627776) :
  Calls Tryz.prog 40 #[.slice (some ⟨w5.heap.size, 0, none⟩) 4 4] (w5.alloc (.cells #[.func (.func 72) #[] #[.pointer (some ⟨bj, 0, none⟩), .pointer (some ⟨ba, 0, none⟩), .pointer (some ⟨bs, 0, none⟩)], .func (.func 42) #[.pointer (some ⟨D.d, 0, none⟩)] #[], .func (.func 72) #[] #[.pointer (some ⟨cj, 0, none⟩), .pointer (some ⟨ca, 0, none⟩), .pointer (some ⟨cs, 0, none⟩)], .func (.func 42) #[.pointer (some ⟨D.d, 0, none⟩)] #[]] 85)) fun e w' =>
   e = .returned (.int .i64 (runC dk [.wr m Y, .sy, .wr n Z, .sy]).2) ∧ DiskAt w' D (runC dk [.wr m Y, .sy, .wr n Z, .sy]).1 ∧ Off D w5 w' := by
 obtain ⟨vs, hvs⟩ : ∃ vs : List Value, vs = [.func (.func 72) #[] #[.pointer (some ⟨bj, 0, none⟩), .pointer (some ⟨ba, 0, none⟩), .pointer (some ⟨bs, 0, none⟩)], .func (.func 42) #[.pointer (some ⟨D.d, 0, none⟩)] #[], .func (.func 72) #[] #[.pointer (some ⟨cj, 0, none⟩), .pointer (some ⟨ca, 0, none⟩), .pointer (some ⟨cs, 0, none⟩)], .func (.func 42) #[.pointer (some ⟨D.d, 0, none⟩)] #[]] := ⟨_, rfl⟩
 obtain ⟨W, hW⟩ : ∃ W, W = w5.alloc (.cells vs.toArray 85) := ⟨_, rfl⟩
 have b6 : Below w5.heap.size w5 W := by rw [hW]; exact below_alloc (Below.refl _ _) _
 have g6 : W.heap[w5.heap.size]? = some (.cells vs.toArray 85 (0, 0)) := by rw [hW]; exact heap_alloc_new ..
 have hj6 : JP W p D := let ⟨cs, h1, h2⟩ := hj; ⟨cs, (b6.block _ (Array.getElem?_eq_some_iff.1 h1).1).trans h1, h2⟩
 have h := first_calls (c := 4) [.wr m Y, .sy, .wr n Z, .sy] vs (hD.keep b6) hj6 g6 (by rw [hvs]; rfl)
  (by
   intro i cm v hc hv
   rw [hvs] at hv
   match i, hc, hv with
   | 0, hc, hv =>
    obtain rfl := Option.some.inj hc
    obtain rfl := Option.some.inj hv
    exact ⟨bj, ba, bs, rfl, (b6.block _ (Array.getElem?_eq_some_iff.1 q1).1).trans q1, (b6.block _ (Array.getElem?_eq_some_iff.1 q2).1).trans q2, (b6.block _ (Array.getElem?_eq_some_iff.1 q3).1).trans q3⟩
   | 1, hc, hv =>
    obtain rfl := Option.some.inj hc
    obtain rfl := Option.some.inj hv
    rfl
   | 2, hc, hv =>
    obtain rfl := Option.some.inj hc
    obtain rfl := Option.some.inj hv
    exact ⟨cj, ca, cs, rfl, (b6.block _ (Array.getElem?_eq_some_iff.1 r1).1).trans r1, (b6.block _ (Array.getElem?_eq_some_iff.1 r2).1).trans r2, (b6.block _ (Array.getElem?_eq_some_iff.1 r3).1).trans r3⟩
   | 3, hc, hv =>
    obtain rfl := Option.some.inj hc
    obtain rfl := Option.some.inj hv
    rfl
   | i + 4, hc, hv => cases hc) (by show 4 ≤ 1000; omega) (by show _ + 4 ≤ _; omega)
 rw [hW, hvs] at h
 rw [hW, hvs] at b6
 refine h.mono ?_
 rintro e w' ⟨he, hd, ho⟩
 exact ⟨he, hd, (Off.of_below b6).trans ho⟩
def japp.T19 : Bool × List (List Nat × List Nat) := (true, [([], []), ([], []), ([1], [1]), ([2], [2]), ([3], [3]), ([4], [4]), ([5], [5]), ([], []), ([7], [7]), ([0, 6, 8], [0, 6, 8]), ([], []), ([10], [10]), ([11], [11]), ([12], [12]), ([13], [13]), ([], []), ([], []), ([16], [16]), ([17], [17]), ([18], [18]), ([19], [19]), ([], []), ([21], [21]), ([15, 20, 22, 9], [15, 20, 22]), ([], []), ([24], [24]), ([25], [25]), ([26], [26]), ([27], [27]), ([9, 14, 23, 28], [9, 14, 23, 28]), ([29, 23], [29]), ([30, 30, 0, 1, 2, 3, 4, 5, 6, 7, 8, 9, 10, 11, 12, 13, 14, 15, 16, 17, 18, 19, 20, 21, 22, 23, 24, 25, 26, 27, 28, 29, 30], [30])])
def japp.B19 : List Nat := [0, 0, 2, 6, 14, 30, 62, 0, 128, 511, 0, 1024, 3072, 7168, 15360, 0, 0, 65536, 196608, 458752, 983040, 0, 2097152, 8356863, 0, 16777216, 50331648, 117440512, 251658240, 536870911, 1073741823, 2147483647]
theorem japp.tab19 : rtab .any (opsOf Tryz.f10 19) = japp.T19 := by kernel_rfl
theorem japp.bits19 : waitsOk japp.T19.2 japp.B19 = true := by kernel_rfl
noncomputable def jappR19 : Code := ((Tryz.f10.body.bind (regionOf 19)).getD .skip)
set_option maxHeartbeats 8000000 in
set_option maxRecDepth 100000 in
theorem japp_r19 (R : Act → World → Prop) (v W : World) (v1 v2 v3 v4 v5 v6 v7 v8 v9 v11 v12 v13 v14 v15 v16 v17 v18 v19 v20 v21 v22 v23 v24 v25 v26 v27 v28 v29 v30 v31 v32 v33 v34 v35 v36 v37 v38 v39 v40 v41 v42 v43 v44 v45 v46 v47 v48 v49 v50 v51 v52 v53 v54 v55 v56 v57 v58 v59 v60 v61 v62 v63 v64 v65 v66 v67 v68 v69 v70 v71 v72 v73 v74 v75 v76 v77 v78 v79 v80 v81 v82 v83 v84 v85 v86 v87 v88 v89 v90 v91 : Value) (D : Dsk) (dk : Dk) (p n m : Nat) (s : ByteArray) (h0 : ByteArray × Nat × Value) (rs : List ByteArray) (hw : IntKind.i64.wrap ((n : Int) + 1) = (m : Int)) (hf : dk.pend.length + 4 ≤ 1099511627776)
  (hx1 : ((1 : Int) ≤ (s.size : Int)) = True) (hx2 : 1 ≤ s.size)
  (hS : SJo v D dk p n h0 rs W)
  (hQ : ∀ (z51 z52 z53 z54 z55 z56 z57 z58 z59 z60 z61 z62 z63 z64 z65 z66 z67 z68 z69 z70 z71 z72 z73 z74 z75 z76 z77 z78 z79 z80 z81 : Value) (W' : World), DiskAt W' D (runC dk [.wr m (s.extract 1 s.size), .sy, .wr n (s.extract 0 1), .sy]).1 → TapeAt W' h0.2.1 p 74 [.pointer (some ⟨D.d, 0, none⟩), .bool false] rs h0.1 n → Off D v W' → R ⟨#[Value.pointer (some ⟨p, 0, none⟩), v1, v2, v3, v4, v5, v6, v7, v8, v9, Value.string s, Value.int IntKind.i64 (runC dk [.wr m (s.extract 1 s.size), .sy, .wr n (s.extract 0 1), .sy]).2, v12, v13, v14, v15, v16, v17, v18, v19, v20, v21, v22, v23, v24, v25, v26, v27, v28, v29, v30, v31, v32, v33, v34, v35, v36, v37, v38, v39, v40, v41, v42, v43, v44, v45, v46, v47, v48, v49, v50, z51, z52, z53, z54, z55, z56, z57, z58, z59, z60, z61, z62, z63, z64, z65, z66, z67, z68, z69, z70, z71, z72, z73, z74, z75, z76, z77, z78, z79, z80, z81, v82, v83, v84, v85, v86, v87, v88, v89, v90, v91], []⟩ W') :
  jappR19.wp Tryz.prog (Norm R) ⟨#[Value.pointer (some ⟨p, 0, none⟩), v1, v2, v3, v4, v5, v6, v7, v8, v9, Value.string s, v11, v12, v13, v14, v15, v16, v17, v18, v19, v20, v21, v22, v23, v24, v25, v26, v27, v28, v29, v30, v31, v32, v33, v34, v35, v36, v37, v38, v39, v40, v41, v42, v43, v44, v45, v46, v47, v48, v49, v50, v51, v52, v53, v54, v55, v56, v57, v58, v59, v60, v61, v62, v63, v64, v65, v66, v67, v68, v69, v70, v71, v72, v73, v74, v75, v76, v77, v78, v79, v80, v81, v82, v83, v84, v85, v86, v87, v88, v89, v90, v91], []⟩ W := by
 have hmf : ∀ (fn : Fn) (first cap : Array Value) (w : World), (Instr.makeFunc fn first cap).run Tryz.prog w = .ok (.func fn first cap) w := fun _ _ _ _ => rfl
 unfold jappR19
 conv => arg 2; whnf
 refine start_ (n := 32) (S := SJo v D dk p n h0 rs) (ds := [30]) (Sx14.b 32 0) (by kernel_rfl) rfl rfl (keepSJo hS (below_drew1 (Below.refl _ _))) (fun hHeld => ?_); refine with_tabW japp.tab19 japp.bits19 (fun HT_ HW_ => ?_)
 generalize W.drew = w0_ at hHeld ⊢
 refine Sx14.p (i := 0) (N := some 51) HT_.out (Sx14.b 32 1) ?_
 refine Sx14.p (i := 1) (N := some 52) HT_.out (Sx14.b 32 3) ?_
 refine Sx14.p (i := 2) (N := some 53) HT_.out (Sx14.b 32 7) ?_
 refine Sx14.p (i := 3) (N := some 54) HT_.out (Sx14.b 32 15) ?_
 refine Sx14.p (i := 4) (N := some 55) HT_.out (Sx14.b 32 31) ?_
 refine Sx14.p (i := 7) (N := some 58) HT_.out (Sx14.b 32 159) ?_
 refine Sx14.p (i := 8) (N := some 59) HT_.out (Sx14.b 32 415) ?_
 refine Sx14.p (i := 10) (N := some 61) HT_.out (Sx14.b 32 1439) ?_
 refine Sx14.p (i := 11) (N := some 62) HT_.out (Sx14.b 32 3487) ?_
 refine Sx14.p (i := 12) (N := some 63) HT_.out (Sx14.b 32 7583) ?_
 refine Sx14.p (i := 15) (N := some 66) HT_.out (Sx14.b 32 40351) ?_
 refine Sx14.p (i := 16) (N := some 67) HT_.out (Sx14.b 32 105887) ?_
 refine Sx14.p (i := 17) (N := some 68) HT_.out (Sx14.b 32 236959) ?_
 refine Sx14.p (i := 18) (N := some 69) HT_.out (Sx14.b 32 499103) ?_
 refine Sx14.p (i := 19) (N := some 70) HT_.out (Sx14.b 32 1023391) ?_
 refine Sx14.p (i := 21) (N := some 72) HT_.out (Sx14.b 32 3120543) ?_
 refine Sx14.p (i := 22) (N := some 73) HT_.out (Sx14.b 32 7314847) ?_
 refine Sx14.p (i := 24) (N := some 75) HT_.out (Sx14.b 32 24092063) ?_
 refine Sx14.p (i := 25) (N := some 76) HT_.out (Sx14.b 32 57646495) ?_
 refine Sx14.p (i := 26) (N := some 77) HT_.out (Sx14.b 32 124755359) ?_
 refine take_ (i := 5) (N := some 56) (v := ?_) (a' := ?_) (Sx14.b 32 124755391) rfl rfl (take_ofW HT_.out HW_.out (by kernel_rfl)) (fun _ _ _ h => h) (Or.inl ⟨by rfl, ?_⟩) hHeld ?_ ?_
 rotate_left
 ·intro w' hS_
  have c_ := hS_.1.cell
  have d_ := hS_.1.jp.cell
  go_simp
  with_reducible rfl
 rotate_left
 ·simp only [Act.put, Sx14.u, Sx14.v, Sx14.w, i64_w, i32_w]
  rfl
 refine Sx14.p (i := 6) (N := some 57) HT_.out (Sx14.b 32 124755455) ?_
 refine take_ (i := 13) (N := some 64) (v := ?_) (a' := ?_) (Sx14.b 32 124763647) rfl rfl (take_ofW HT_.out HW_.out (by kernel_rfl)) (fun _ _ _ h => h) (Or.inl ⟨by rfl, ?_⟩) hHeld ?_ ?_
 rotate_left
 ·intro w' hS_
  have c_ := hS_.1.cell
  have d_ := hS_.1.jp.cell
  go_simp
  with_reducible rfl
 rotate_left
 ·simp only [Act.put, Sx14.u, Sx14.v, Sx14.w, i64_w, i32_w]
  rfl
 refine Sx14.p (i := 14) (N := some 65) HT_.out (Sx14.b 32 124780031) ?_
 refine take_ (i := 20) (N := some 71) (v := ?_) (a' := ?_) (Sx14.b 32 125828607) rfl rfl (take_ofW HT_.out HW_.out (by kernel_rfl)) (fun _ _ _ h => h) (Or.inl ⟨by rfl, ?_⟩) hHeld ?_ ?_
 rotate_left
 ·intro w' hS_
  have c_ := hS_.1.cell
  have d_ := hS_.1.jp.cell
  go_simp
  with_reducible rfl
 rotate_left
 ·simp only [Act.put, Sx14.u, Sx14.v, Sx14.w, i64_w, i32_w]
  rfl
 refine take_ (i := 27) (N := some 78) (v := ?_) (a' := ?_) (Sx14.b 32 260046335) rfl rfl (take_ofW HT_.out HW_.out (by kernel_rfl)) (fun _ _ _ h => h) (Or.inl ⟨by rfl, ?_⟩) hHeld ?_ ?_
 rotate_left
 ·intro w' hS_
  have c_ := hS_.1.cell
  have d_ := hS_.1.jp.cell
  go_simp
  with_reducible rfl
 rotate_left
 ·simp only [Act.put, Sx14.u, Sx14.v, Sx14.w, i64_w, i32_w]
  rfl
 refine Sx14.p (i := 28) (N := some 79) HT_.out (Sx14.b 32 528481791) ?_
 refine one_ (i := 9) (N := some 60) (Sx14.b 32 528482303) rfl rfl (one_of HT_.out (by kernel_rfl)) (by decide) (fun K hK => ?_)
 refine goes_ Tryz.func41 (by kernel_rfl) rfl #[.pointer (some ⟨p, 0, none⟩), .int .i64 (m : Int), .string (s.extract 1 s.size)] (by rfl) rfl rfl (by (try simp only [List.map_toArray, List.map_cons, List.map_nil]); first | done | rfl) ?_
 refine (writing_calls _ p m (s.extract 1 s.size)).mono ?_
 rintro e w9 ⟨bj, ba, bs, rfl, q1, q2, q3, hd⟩
 refine ⟨_, rfl, ?_⟩
 refine hK.out _ _ (keepSJo hHeld hd) (fun hHeld => ?_)
 clear hK K
 refine norm_ (a' := ?_) ?_ ?_
 rotate_left
 ·show Act.put _ (some 60) _ = _
  simp only [Act.put, Sx14.u, Sx14.v, Sx14.w, i64_w, i32_w]
  rfl
 refine one_ (i := 23) (N := some 74) (Sx14.b 32 536870911) rfl rfl (one_of HT_.out (by kernel_rfl)) (by decide) (fun K hK => ?_)
 refine goes_ Tryz.func41 (by kernel_rfl) rfl #[.pointer (some ⟨p, 0, none⟩), .int .i64 (n : Int), .string (s.extract 0 1)] (by rfl) rfl rfl (by (try simp only [List.map_toArray, List.map_cons, List.map_nil]); first | done | rfl) ?_
 refine (writing_calls _ p n (s.extract 0 1)).mono ?_
 rintro e w23 ⟨cj, ca, cs, rfl, r1, r2, r3, hd'⟩
 refine ⟨_, rfl, ?_⟩
 refine hK.out _ _ (keepSJo hHeld hd') (fun hHeld => ?_)
 replace q1 := (hd'.block _ (Array.getElem?_eq_some_iff.1 q1).1).trans q1
 replace q2 := (hd'.block _ (Array.getElem?_eq_some_iff.1 q2).1).trans q2
 replace q3 := (hd'.block _ (Array.getElem?_eq_some_iff.1 q3).1).trans q3
 clear hK K
 refine norm_ (a' := ?_) ?_ ?_
 rotate_left
 ·show Act.put _ (some 74) _ = _
  simp only [Act.put, Sx14.u, Sx14.v, Sx14.w, i64_w, i32_w]
  rfl
 refine one_ (i := 29) (N := some 80) (Sx14.b 32 1073741823) rfl rfl (one_of HT_.out (by kernel_rfl)) (by decide) (fun K hK => ?_)
 have hfi := first4 hHeld.2.1 hHeld.1.jp q1 q2 q3 r1 r2 r3 hf
 go_simp
 refine hK.out _ _ (keepSJo hHeld (below_alloc (Below.refl _ _) _)) (fun hHeld2 => ?_)
 clear hK K
 refine last_ (i := 30) (N := some 81) (Sx14.b 32 2147483647) rfl rfl (one_of HT_.out (by kernel_rfl)) (by decide) (fun K hK => ?_)
 refine goes_ Tryz.func40 (by kernel_rfl) rfl #[.slice (some ⟨w23.heap.size, 0, none⟩) 4 4] (by rfl) rfl rfl (by (try simp only [List.map_toArray, List.map_cons, List.map_nil]); first | done | rfl) ?_
 refine hfi.mono ?_
 rintro e w30 ⟨rfl, hd30, o30⟩
 refine ⟨_, rfl, ?_⟩
 refine hK.out _ _ ?_
 clear hK K
 refine norm_ (a' := ?_) ?_ ?_
 rotate_left
 ·show Act.put _ (some 81) _ = _
  simp only [Act.put, Sx14.u, Sx14.v, Sx14.w, i64_w, i32_w]
  rfl
 refine Sx14.p (i := 31) (N := some 11) HT_.out (Sx14.b 32 4294967295) ?_
 refine done_ (done_of HT_.out (by kernel_rfl)) ?_
 exact hQ _ _ _ _ _ _ _ _ _ _ _ _ _ _ _ _ _ _ _ _ _ _ _ _ _ _ _ _ _ _ _ _ hd30 ⟨_, hHeld.1.tape.off o30 hHeld.2.1 (by decide) (by decide) (by decide)⟩ (hHeld.2.2.trans o30)
end Go.Proofs.YtniegajdmbepbaaGreatDoor.Jm
