/- PutInt, whole: within the bounds it returns the bytes of the groups of the zigzag number; else the empty string and the error 10.
   No condition. wire.PutInt and wire.Sum by contracts of the printed form: what 'wire_PutInt.f' and 'wire_Sum.f' answer, the code comes to.
   Condition of Sum: the table of nibbles lies as its initialiser lays it. -/
import Derived.Test.YtafdmehcadkplaaDoorKJournalRoom12
import Derived.Test.YtafdmehcadkplaaDoorWWords
import Derived.Deep.Onto
import Derived.Outline
import Derived.Test.YtafdmehcadkplaaDoorKJournalRoom2
set_option linter.unusedVariables false
set_option linter.unusedSimpArgs false
namespace Go.Proofs.YtafdmehcadkplaaDoor.Wire
open Go Go.RowKit Go.Shelf Go.Proofs.YtafdmehcadkplaaDoor.Rf Go.Proofs.YtafdmehcadkplaaDoorW.PrintWords

attribute [local go_sem] Oper.semAt_some

theorem groups_fn (z : Int) (w : World) :
    CallsIn Fence.wide 3 Tryd.prog 73 #[.int .u64 z] w fun e w' => e = .returned (.func (.func 82) #[] #[.pointer (some ⟨w.heap.size, 0, none⟩)]) ∧ w' = w.alloc (.cells #[.int .u64 z] 90) := by
  refine callsIn_of_wp Tryd.func73 rfl trivial ?_ rfl
  simp only [Tryd.ntmps73, List.size_toArray, List.length_cons, List.length_nil, Nat.reduceAdd, Nat.reduceSub, Array.replicate_succ, Array.replicate_zero, List.push_toArray, List.append_toArray, List.nil_append, List.cons_append]
  gi_wp2
  go_ret
  exact ⟨rfl, rfl⟩

/-- The byte that a group becomes. -/
def byteOf (x : Int × Bool) : Int := if x.2 then x.1 else Go.bits .or .u8 x.1 128
def zig (n : Int) : Int := Go.bits .xor .u64 (IntKind.u64.wrap (IntKind.u64.wrap n * 2)) (IntKind.u64.wrap (n / 9223372036854775808))
def leb (z : Int) : ByteArray := strOfNums ((groups 9 z).map byteOf)

theorem infoB : (Tryd.prog.info? 5).map (fun i => (i.zero, i.size, i.bytes)) = some (some (.int .u8 0), 1, 1) := by kernel_rfl

/-- What the loop's body keeps, and what the iterator may turn: block B1 - 1 lies outside of it. -/
theorem holds_Z (n₀ Bo B1 : Nat) (t e : TypeId) (hB : Bo < B1) (B : Nat) (hB1 : B1 ≤ B) (f : List (Int × Bool) → List Value) :
    OwnZ (fun r => r = B1 - 1 ∧ r ≠ Bo) B (fun (s : List (Int × Bool)) W => ∃ v, Boxed W Bo t v ∧ W.ownsRow B1 e 1 v s.length (f s)) := by
  rintro s X Y row ⟨v, hv, hr⟩ hg hrow
  refine ⟨v, hv.kept hg (fun e' => ?_), hr.kept hg ?_⟩
  · rcases hrow Bo e'.symm with h | ⟨h, _⟩
    · exact h.2 rfl
    · omega
  · rcases hr.2 with ⟨rfl, _⟩ | ⟨g, cap, cur, rfl, hg1, hgb, _⟩
    · exact .inl rfl
    · refine .inr fun e' => ?_
      rcases hrow g (by simpa [Value.ownBlock] using e'.symm) with h | ⟨_, o, ho, hc⟩
      · omega
      · rw [hgb] at ho; cases ho; cases hc
theorem below_Z (n₀ : Nat) (w : World) (hn : n₀ ≤ w.heap.size) (Z : Nat → Prop) (hZ : ∀ r, Z r → n₀ ≤ r) (B : Nat) (hB : n₀ ≤ B) (m : Nat) :
    OwnZ Z B (fun (_ : List (Int × Bool)) W => Below n₀ w W ∧ m ≤ W.heap.size) := by
  rintro s X Y row ⟨hb, hm⟩ hg hrow
  refine ⟨hb.grown hg (Nat.le_trans hn hb.size) (fun k e => ?_), Nat.le_trans hm hg.size⟩
  rcases hrow k e with h | ⟨h, _⟩
  · exact hZ _ h
  · omega

set_option maxHeartbeats 1000000 in
set_option maxRecDepth 100000 in
theorem putInt_in (n z : Int) (w : World) (h0 : -4611686018427387903 ≤ n) (h1 : n ≤ 4611686018427387903) (HZ : Hid0 (zig n = z)) (Z0 : Hid0 (0 ≤ z)) (Z1 : Hid0 (z < 128 ^ 9)) :
    CallsIn Fence.wide 4 Tryd.prog 65 #[.int .i64 n] w fun e w' => e = .returned (.tuple #[.string (leb z), .int .i64 0]) ∧ Below w.heap.size w w' := by
  obtain ⟨i0, hi, hi0, hi1, hi2⟩ := info_parts infoB
  refine callsIn_of_wp_marks Tryd.func65 rfl trivial ?_ rfl
  simp only [Tryd.ntmps65, List.size_toArray, List.length_cons, List.length_nil, Nat.reduceAdd, Nat.reduceSub, Array.replicate_succ, Array.replicate_zero, List.push_toArray, List.append_toArray, List.nil_append, List.cons_append]
  have hF : Fence.wide.fn 73 := trivial
  gi_wp2_with (gi_at_call 73; refine (groups_fn _ _).mono ?_; rintro e w' ⟨rfl, rfl⟩)
  have hz0 := Z0.out
  have hz1 := Z1.out
  clear Z0 Z1
  have hz := HZ.out
  unfold zig at hz
  rw [hz]
  clear hz
  have bO := Boxed.new w 38 (.slice none 0 0)
  have bZ := Boxed.new (w.alloc (.cells #[.slice none 0 0] 38)) 90 (.int .u64 z)
  rw [World.size_alloc] at bZ
  have hB0 : Below w.heap.size w ((w.alloc (.cells #[.slice none 0 0] 38)).alloc (.cells #[.int .u64 z] 90)) := ((Below.refl _ w).alloc (Nat.le_refl _) _).alloc (by simp) _
  refine rangeFunc_Z rfl (by decide) (gf := 82) (lb := #[.pointer (some ⟨w.heap.size + 1, 0, none⟩)]) rfl trivial (enters_of Tryd.func82 (by kernel_rfl) rfl)
    (Z := fun r => r = w.heap.size + 2 - 1 ∧ r ≠ w.heap.size) (fun k hk => by simp; omega)
    (encs := fun x : Int × Bool => #[.int .u8 x.1, .bool x.2]) (Kp := fun A B => B.heap[w.heap.size + 1]? = A.heap[w.heap.size + 1]?) (S := fun ys => ys = groups 9 z) (Sp := fun _ => True) (N := 9) ?iter
    (fun h k => k.trans h) (fun W l o hl => World.putObj_heap_other (by simp at hl; omega)) (fun _ => rfl)
    (fun pre W => (∃ v, Boxed W w.heap.size 38 v ∧ W.ownsRow (w.heap.size + 2) 5 1 v pre.length ((pre.map byteOf).map (Value.int .u8))) ∧ (Below w.heap.size w W ∧ w.heap.size + 2 ≤ W.heap.size))
    (fun _ _ _ => False)
    (OwnZ.and (holds_Z w.heap.size w.heap.size (w.heap.size + 2) 38 5 (by omega) _ (by simp) (fun pre => (pre.map byteOf).map (Value.int .u8))) (below_Z _ w (Nat.le_refl _) _ (by intro r hr; omega) _ (by simp; omega) _))
    (fun _ _ _ _ _ hs _ _ => hs)
    ⟨⟨_, bO.alloc _, World.ownsRow_nil _ _ _ _⟩, hB0, by simp⟩ ?round ?done ?stop
  case iter =>
    intro l J Jx W hW hJ hJx hY hJ0
    exact iter_in l (w.heap.size + 1) 8 z hz0 (by omega) (by simpa using hz1) J Jx _ (fun r hr => by omega) hJ hY W (bZ.kept hW (by simp)) hJ0
  case round =>
    rintro l pre x W ⟨⟨v, hv, hrow⟩, hB, hs⟩ hlt
    gi_wp2
    refine ⟨trivial, ?_⟩
    clear hv hrow hB hs v
    rintro V ⟨⟨v, hv, hrow⟩, hB, hs⟩
    have hc := hv.cell
    have hrow0 := hrow.mono (base' := w.heap.size) (by omega)
    have hown : ∀ k, v.ownBlock = some k → w.heap.size + 2 ≤ k := fun k e => (hrow.lt k e).1
    obtain ⟨g, last⟩ := x
    cases last
    all_goals
      gi_wp2_with (gi_at_builtin; refine wpListIn_append_own _ rfl _ _ 38 rfl (w.heap.size + 2) 5 i0 (.int .u8 0) 1 1 Tryd.underlying38 hi hi0 hi1 hi2 rfl (by decide) _ _ _ rfl (hrow.alloc _) ⟨V.heap.size, 0, none⟩ 1 1 [_] rfl rfl (cell_one_new _ _ _) (by simp [Value.oneCell']) (by unfold maxLen; omega) (by omega) (by simp; omega) ?_; intro v' w1 hown' hgrow _; obtain ⟨g', cap', rfl⟩ := ownsRow_succ hown'; obtain ⟨hv1, hv2, hr2, hk2, hb2⟩ := hv.appended (by decide) hrow0 hB.size (Nat.le_refl _) (hown'.mono (base' := w.heap.size) (by omega)) hgrow; have hr3 := hown'.kept (grownBy_setCell' w1 w.heap.size (.slice (some ⟨g', 0, none⟩) (pre.length + 1) cap')) (.inr (by have := (hown'.lt g' rfl).1; simp [Value.ownBlock]; omega)); have hc1 := hv1.cell; have hf1 := hv1.frozen)
      refine ⟨hk2.from _, ?_, ⟨_, hv2, ?_⟩, hB.trans hb2, Nat.le_trans hs hb2.size⟩
      · refine (Below.heap_setCell _ _ _ _ (by simp)).trans ((hgrow.block _ (by simp; omega) (fun e => ?_)).trans (Below.heap_alloc _ _ _ (by omega)))
        have := hown _ e.symm
        omega
      · simpa [byteOf] using hr3
  case done =>
    rintro D ys W hD rfl ⟨⟨v, hv, hrow⟩, hB, _⟩ hK
    have hc := hv.cell
    have kv := own_string (P := Tryd.prog) (src := 38) (dst := 9) Tryd.underlying38 Tryd.underlying5 Tryd.underlying9 hrow
    gi_wp2
    refine ⟨by simp, .inl ⟨_, _, rfl, run_takeDeferred hK, ?_⟩⟩
    exact ⟨.tuple #[.string (leb z), .int .i64 0], by simp [results, Tryd.results65, go_sem, leb], rfl, hB.trans (belowK_b (w := w) (Nat.le_refl _) W D _ _ (by simp at hD; omega) hK rfl rfl)⟩
  case stop =>
    rintro D c pre W _ _ h _
    exact h.elim
end Go.Proofs.YtafdmehcadkplaaDoor.Wire

set_option linter.unusedVariables false
set_option linter.unusedSimpArgs false
namespace Go.Proofs.YtafdmehcadkplaaDoor.Wire
open Go Go.RowKit Go.Shelf Go.PlainAid Go.Proofs.YtafdmehcadkplaaDoorW.PrintWords

theorem zig_pos (n : Int) (h0 : 0 ≤ n) (h1 : n ≤ 4611686018427387903) : zig n = 2 * n := by
  unfold zig
  rw [u64_nonneg h0 (by omega), u64_nonneg (by omega) (by omega), show n / 9223372036854775808 = 0 by omega, show IntKind.u64.wrap 0 = 0 by rw [IntKind.wrap_u64]; rfl, Bits.u64_xor0 _ (by omega) (by omega)]
  omega
theorem zig_neg (n : Int) (h0 : n < 0) (h1 : -4611686018427387903 ≤ n) : zig n = -2 * n - 1 := by
  unfold zig
  rw [u64_neg h0 (by omega), show n / 9223372036854775808 = -1 by omega, u64_neg (show (-1 : Int) < 0 by decide) (by decide)]
  rw [show IntKind.u64.wrap ((n + 18446744073709551616) * 2) = 2 * n + 18446744073709551616 by rw [IntKind.wrap_u64]; omega]
  rw [show (-1 + 18446744073709551616 : Int) = 18446744073709551615 by decide, Bits.u64_not _ (by omega) (by omega)]
  omega
def zz (n : Int) : Int := if n < 0 then -2 * n - 1 else 2 * n
theorem zig_eq (n : Int) (h0 : -4611686018427387903 ≤ n) (h1 : n ≤ 4611686018427387903) : zig n = zz n := by
  unfold zz
  split
  · exact zig_neg n (by assumption) h0
  · exact zig_pos n (by omega) h1

def wire_PutInt.f (n : Int) : Option (ByteArray × Int) := if n < -4611686018427387903 then some (⟨#[]⟩, 10) else if 4611686018427387903 < n then some (⟨#[]⟩, 10) else some (leb (zz n), 0)
set_option maxHeartbeats 1000000 in
theorem wire_PutInt.calls (n : Int) (r1 : ByteArray) (r2 : Int) (w : World) (h : wire_PutInt.f n = some (r1, r2)) :
    Calls Tryd.prog 65 #[.int .i64 n] w fun e w' => e = .returned (.tuple #[.string r1, .int .i64 r2]) ∧ Below w.heap.size w w' := by
  unfold wire_PutInt.f at h
  by_cases h0 : n < -4611686018427387903
  · rw [if_pos h0] at h
    simp only [Option.some.injEq, Prod.mk.injEq] at h
    obtain ⟨rfl, rfl⟩ := h
    go_enter Tryd.func65, Tryd.ntmps65
    go_wp2
    go_ret2
    exact ⟨rfl, Below.refl _ _⟩
  · rw [if_neg h0] at h
    by_cases h1 : 4611686018427387903 < n
    · rw [if_pos h1] at h
      simp only [Option.some.injEq, Prod.mk.injEq] at h
      obtain ⟨rfl, rfl⟩ := h
      go_enter Tryd.func65, Tryd.ntmps65
      go_wp2
      go_ret2
      exact ⟨rfl, Below.refl _ _⟩
    · rw [if_neg h1] at h
      simp only [Option.some.injEq, Prod.mk.injEq] at h
      obtain ⟨rfl, rfl⟩ := h
      refine callsIn_wide.1 (putInt_in n (zz n) w (by omega) (by omega) ⟨zig_eq n (by omega) (by omega)⟩ ⟨?_⟩ ⟨?_⟩)
      · unfold zz; split <;> omega
      · unfold zz; split <;> omega
end Go.Proofs.YtafdmehcadkplaaDoor.Wire

