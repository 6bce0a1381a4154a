/- PutInt, whole: within the bounds it returns the bytes of the groups of the zigzag number; else the empty string and the error 10.
   No condition. -/
import Derived.Test.YtniegajdmbepbaaGreatDoorKJournalMatchesReference1
import Derived.Test.YtniegajdmbepbaaGreatDoorKJournalMatchesReference2
import Derived.Deep.Onto
import Derived.Outline
set_option linter.unusedSimpArgs false
set_option linter.unusedVariables false
namespace Go.Proofs.YtniegajdmbepbaaGreatDoor.Wire
open Go Go.RowKit Go.Shelf Go.Proofs.YtniegajdmbepbaaGreatDoor.Rf Go.Proofs.YtniegajdmbepbaaGreatDoorW.PrintWords
attribute [local go_sem] Oper.semAt_some
theorem groups_fn (z : Int) (w : World) :
    CallsIn Fence.wide 3 Tryz.prog 112 #[.int .u64 z] w fun e w' => e = .returned (.func (.func 132) #[] #[.pointer (some ⟨w.heap.size, 0, none⟩)]) ∧ w' = w.alloc (.cells #[.int .u64 z] 141) := by
  refine callsIn_of_wp Tryz.func112 rfl trivial ?_ rfl
  simp only [Tryz.ntmps112, List.size_toArray, List.length_cons, List.length_nil, Nat.reduceAdd, Nat.reduceSub, Array.replicate_succ, Array.replicate_zero, List.push_toArray, List.append_toArray, List.nil_append, List.cons_append]
  gi_wp2
  go_ret
  exact ⟨rfl, rfl⟩
def byteOf (x : Int × Bool) : Int := if x.2 then x.1 else Go.bits .or .u8 x.1 128
def zig (n : Int) : Int := Go.bits .xor .u64 (IntKind.u64.wrap (IntKind.u64.wrap n * 2)) (IntKind.u64.wrap (n / 9223372036854775808))
def leb (z : Int) : ByteArray := strOfNums ((groups 9 z).map byteOf)
theorem infoB : (Tryz.prog.info? 5).map (fun i => (i.zero, i.size, i.bytes)) = some (some (.int .u8 0), 1, 1) := by kernel_rfl
theorem holds_Z (n₀ Bo B1 : Nat) (t e : TypeId) (hB : Bo < B1) (B : Nat) (hB1 : B1 ≤ B) (f : List (Int × Bool) → List Value) :
    OwnZ (fun r => r = B1 - 1 ∧ r ≠ Bo) B (fun (s : List (Int × Bool)) W => ∃ v, Boxed W Bo t v ∧ W.ownsRow B1 e 1 v s.length (f s)) := by
  rintro s X Y row ⟨v, hv, hr⟩ hg hrow
  refine ⟨v, hv.kept hg (fun e' => ?_), hr.kept hg ?_⟩
  · rcases hrow Bo e'.symm with h | ⟨h, _⟩
    · exact h.2 rfl
    · omega
  · rcases hr.2 with ⟨rfl, _⟩ | ⟨g, cap, cur, rfl, hg1, hgb, _⟩
    · exact .inl rfl
    · refine .inr fun e' => ?_
      rcases hrow g (by simpa [Value.ownBlock] using e'.symm) with h | ⟨_, o, ho, hc⟩
      · omega
      · rw [hgb] at ho; cases ho; cases hc
theorem below_Z (n₀ : Nat) (w : World) (hn : n₀ ≤ w.heap.size) (Z : Nat → Prop) (hZ : ∀ r, Z r → n₀ ≤ r) (B : Nat) (hB : n₀ ≤ B) (m : Nat) :
    OwnZ Z B (fun (_ : List (Int × Bool)) W => Below n₀ w W ∧ m ≤ W.heap.size) := by
  rintro s X Y row ⟨hb, hm⟩ hg hrow
  refine ⟨hb.grown hg (Nat.le_trans hn hb.size) (fun k e => ?_), Nat.le_trans hm hg.size⟩
  rcases hrow k e with h | ⟨h, _⟩
  · exact hZ _ h
  · omega
set_option maxHeartbeats 1000000 in
set_option maxRecDepth 100000 in
theorem putInt_in (n z : Int) (w : World) (h0 : -4611686018427387903 ≤ n) (h1 : n ≤ 4611686018427387903) (HZ : Hid0 (zig n = z)) (Z0 : Hid0 (0 ≤ z)) (Z1 : Hid0 (z < 128 ^ 9)) :
    CallsIn Fence.wide 4 Tryz.prog 96 #[.int .i64 n] w fun e w' => e = .returned (.tuple #[.string (leb z), .int .i64 0]) ∧ Below w.heap.size w w' := by
  obtain ⟨i0, hi, hi0, hi1, hi2⟩ := info_parts infoB
  refine callsIn_of_wp_marks Tryz.func96 rfl trivial ?_ rfl
  simp only [Tryz.ntmps96, List.size_toArray, List.length_cons, List.length_nil, Nat.reduceAdd, Nat.reduceSub, Array.replicate_succ, Array.replicate_zero, List.push_toArray, List.append_toArray, List.nil_append, List.cons_append]
  have hF : Fence.wide.fn 112 := trivial
  gi_wp2_with (gi_at_call 112; refine (groups_fn _ _).mono ?_; rintro e w' ⟨rfl, rfl⟩)
  have hz0 := Z0.out
  have hz1 := Z1.out
  clear Z0 Z1
  have hz := HZ.out
  unfold zig at hz
  rw [hz]
  clear hz
  have bO := Boxed.new w 39 (.slice none 0 0)
  have bZ := Boxed.new (w.alloc (.cells #[.slice none 0 0] 39)) 141 (.int .u64 z)
  rw [World.size_alloc] at bZ
  have hB0 : Below w.heap.size w ((w.alloc (.cells #[.slice none 0 0] 39)).alloc (.cells #[.int .u64 z] 141)) := ((Below.refl _ w).alloc (Nat.le_refl _) _).alloc (by simp) _
  refine rangeFunc_Z rfl (by decide) (gf := 132) (lb := #[.pointer (some ⟨w.heap.size + 1, 0, none⟩)]) rfl trivial (enters_of Tryz.func132 (by kernel_rfl) rfl)
    (Z := fun r => r = w.heap.size + 2 - 1 ∧ r ≠ w.heap.size) (fun k hk => by simp; omega)
    (encs := fun x : Int × Bool => #[.int .u8 x.1, .bool x.2]) (Kp := fun A B => B.heap[w.heap.size + 1]? = A.heap[w.heap.size + 1]?) (S := fun ys => ys = groups 9 z) (Sp := fun _ => True) (N := 9) ?iter
    (fun h k => k.trans h) (fun W l o hl => World.putObj_heap_other (by simp at hl; omega)) (fun _ => rfl)
    (fun pre W => (∃ v, Boxed W w.heap.size 39 v ∧ W.ownsRow (w.heap.size + 2) 5 1 v pre.length ((pre.map byteOf).map (Value.int .u8))) ∧ (Below w.heap.size w W ∧ w.heap.size + 2 ≤ W.heap.size))
    (fun _ _ _ => False)
    (OwnZ.and (holds_Z w.heap.size w.heap.size (w.heap.size + 2) 39 5 (by omega) _ (by simp) (fun pre => (pre.map byteOf).map (Value.int .u8))) (below_Z _ w (Nat.le_refl _) _ (by intro r hr; omega) _ (by simp; omega) _))
    (fun _ _ _ _ _ hs _ _ => hs)
    ⟨⟨_, bO.alloc _, World.ownsRow_nil _ _ _ _⟩, hB0, by simp⟩ ?round ?done ?stop
  case iter =>
    intro l J Jx W hW hJ hJx hY hJ0
    exact iter_in l (w.heap.size + 1) 8 z hz0 (by omega) (by simpa using hz1) J Jx _ (fun r hr => by omega) hJ hY W (bZ.kept hW (by simp)) hJ0
  case round =>
    rintro l pre x W ⟨⟨v, hv, hrow⟩, hB, hs⟩ hlt
    gi_wp2
    refine ⟨trivial, ?_⟩
    clear hv hrow hB hs v
    rintro V ⟨⟨v, hv, hrow⟩, hB, hs⟩
    have hc := hv.cell
    have hrow0 := hrow.mono (base' := w.heap.size) (by omega)
    have hown : ∀ k, v.ownBlock = some k → w.heap.size + 2 ≤ k := fun k e => (hrow.lt k e).1
    obtain ⟨g, last⟩ := x
    cases last
    all_goals
      gi_wp2_with (gi_at_builtin; refine wpListIn_append_own _ rfl _ _ 39 rfl (w.heap.size + 2) 5 i0 (.int .u8 0) 1 1 Tryz.underlying39 hi hi0 hi1 hi2 rfl (by decide) _ _ _ rfl (hrow.alloc _) ⟨V.heap.size, 0, none⟩ 1 1 [_] rfl rfl (cell_one_new _ _ _) (by simp [Value.oneCell']) (by unfold maxLen; omega) (by omega) (by simp; omega) ?_; intro v' w1 hown' hgrow _; obtain ⟨g', cap', rfl⟩ := ownsRow_succ hown'; obtain ⟨hv1, hv2, hr2, hk2, hb2⟩ := hv.appended (by decide) hrow0 hB.size (Nat.le_refl _) (hown'.mono (base' := w.heap.size) (by omega)) hgrow; have hr3 := hown'.kept (grownBy_setCell' w1 w.heap.size (.slice (some ⟨g', 0, none⟩) (pre.length + 1) cap')) (.inr (by have := (hown'.lt g' rfl).1; simp [Value.ownBlock]; omega)); have hc1 := hv1.cell; have hf1 := hv1.frozen)
      refine ⟨hk2.from _, ?_, ⟨_, hv2, ?_⟩, hB.trans hb2, Nat.le_trans hs hb2.size⟩
      · refine (Below.heap_setCell _ _ _ _ (by simp)).trans ((hgrow.block _ (by simp; omega) (fun e => ?_)).trans (Below.heap_alloc _ _ _ (by omega)))
        have := hown _ e.symm
        omega
      · simpa [byteOf] using hr3
  case done =>
    rintro D ys W hD rfl ⟨⟨v, hv, hrow⟩, hB, _⟩ hK
    have hc := hv.cell
    have kv := own_string (P := Tryz.prog) (src := 39) (dst := 9) Tryz.underlying39 Tryz.underlying5 Tryz.underlying9 hrow
    gi_wp2
    refine ⟨by simp, .inl ⟨_, _, rfl, run_takeDeferred hK, ?_⟩⟩
    exact ⟨.tuple #[.string (leb z), .int .i64 0], by simp [results, Tryz.results96, go_sem, leb], rfl, hB.trans (belowK_b (w := w) (Nat.le_refl _) W D _ _ (by simp at hD; omega) hK rfl rfl)⟩
  case stop =>
    rintro D c pre W _ _ h _
    exact h.elim
end Go.Proofs.YtniegajdmbepbaaGreatDoor.Wire
