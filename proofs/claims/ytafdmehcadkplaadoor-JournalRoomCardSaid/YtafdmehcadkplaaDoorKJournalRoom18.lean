/- For JournalRoom: a group that is too long; a disk without power; rows appended. Condition: none. JournalRoom: the law's function returns true. Condition: none. -/
import Derived.Test.YtafdmehcadkplaaDoorKJournalRoom17
import Derived.Laws.AppendOwnNone
set_option linter.unusedVariables false
set_option linter.unusedSimpArgs false
namespace Go.Proofs.YtafdmehcadkplaaDoor.Jm
open Go Go.RowKit Go.Proofs.YtafdmehcadkplaaDoorW.PrintWords Go.Proofs.YtafdmehcadkplaaDoorW.PrintMore Go.Proofs.YtafdmehcadkplaaDoor.Pl Go.Proofs.YtafdmehcadkplaaDoor.Pr

theorem ref_ints : ∀ n : Fin 101, (clearwayref01_PutInt.f 6 ((n.val : Nat) : Int)).map (fun x => (x.1.size, x.2)) = some ((Code.enc ((n.val : Nat) : Int)).length, 0) := by decide +kernel
/-- The reference's encoding of a short string has the length that the law reckons with. -/
theorem ref_str (s : ByteArray) (h : s.size ≤ 100) : ∃ r, clearwayref01_PutString.f 6 s = some (r, 0) ∧ r.size = (encS s).length := by
 have h1 := ref_ints ⟨s.size, by omega⟩
 simp only at h1
 unfold clearwayref01_PutString.f
 rw [if_neg (by omega)]
 cases hp : clearwayref01_PutInt.f 6 (s.size : Int) with
 | none => rw [hp] at h1; cases h1
 | some x =>
  obtain ⟨r, c⟩ := x
  rw [hp, Option.map_some] at h1
  have h2 : (r.size, c) = ((Code.enc (s.size : Int)).length, (0 : Int)) := Option.some.inj h1
  obtain ⟨h3, rfl⟩ := Prod.mk.injEq .. ▸ h2
  have h4 := Code.enc_len (n := (s.size : Int)) (by unfold Code.maxInt; omega) (by unfold Code.maxInt; omega)
  rw [Option.bind_some, if_pos (by show r.size + s.size ≤ _; omega)]
  refine ⟨r ++ s, rfl, ?_⟩
  unfold encS
  rw [ByteArray.size_append, List.length_append, bl_length, h3]
/-- The bytes that a group takes. -/
def needF (l : List ByteArray) : Nat := (l.map fun r => (encS r).length + 33).sum
theorem needF_snoc (l : List ByteArray) (s : ByteArray) : needF (l ++ [s]) = needF l + ((encS s).length + 33) := by unfold needF; simp
theorem encS_small (s : ByteArray) (h : s.size ≤ 100000) : (encS s).length ≤ 100010 := by
 unfold encS
 rw [List.length_append, bl_length]
 have := Code.enc_len (n := (s.size : Int)) (by unfold Code.maxInt; omega) (by unfold Code.maxInt; omega)
 omega
theorem needF_le : ∀ (l : List ByteArray), (∀ s ∈ l, s.size ≤ 100) → needF l ≤ l.length * 200
 | [], _ => Nat.zero_le _
 | s :: l, h => by
  have h1 := needF_le l fun x hx => h x (List.mem_cons_of_mem _ hx)
  have h2 : (encS s).length ≤ 110 := by
   unfold encS
   rw [List.length_append, bl_length]
   have := h s List.mem_cons_self
   have := Code.enc_len (n := (s.size : Int)) (by unfold Code.maxInt; omega) (by unfold Code.maxInt; omega)
   omega
  show (encS s).length + 33 + needF l ≤ (l.length + 1) * 200
  omega
theorem Good.app_long {w : World} {B j : Nat} {D : Dsk} {dk : Dk} {jr : Jr} {m N : Nat} {a : Addr} (h : Good w B j D dk jr m N) (ha : Ambs a D w) {v : Value} {l : List ByteArray} (hl : Strs w v l) (hn : l.length ≤ 1000) (hs : ∀ s ∈ l, s.size ≤ 70000)
  (hlong : ∃ s ∈ l, 65536 < s.size) :
  Calls Tryd.prog 11 #[.pointer (some ⟨j, 0, none⟩), v] w fun e w' => e = .returned (.int .i64 290) ∧ Good w' B j D dk jr m N ∧ Ambs a D w' ∧ Below D.B w w' ∧ Oj D j w w' := by
 refine (h.append ha hl hn 70000 (by omega) hs).mono ?_
 have hap : appendM chF dk jr l = (dk, jr, 290) := by
  refine appendM_long dk jr l (List.any_eq_true.2 ?_)
  obtain ⟨s, h1, h2⟩ := hlong
  exact ⟨s, h1, decide_eq_true h2⟩
 rw [hap]
 rintro e w' ⟨he, hd, hj, ho, ha2, hb⟩
 exact ⟨he, ⟨hd, hj, h.fine, h.tot, h.small, h.hj⟩, ha2, hb, ho⟩
/-- A journal on a disk that is without power. -/
structure Dead (w : World) (B j : Nat) (D : Dsk) (dk : Dk) (jr : Jr) (m N : Nat) : Prop where
 disk : DiskAt w D dk
 jour : JrAt w B j D jr
 off : dk.off = true
 pend : dk.pend = []
 dur : dk.dur.length = N
 head : jr.head.size = 32
 recs : jr.records.length ≤ N
 tot : jr.size + m = N
 small : N ≤ 1000000
 hj : D.B ≤ j
theorem Dead.keep {w W : World} {B j : Nat} {D : Dsk} {dk : Dk} {jr : Jr} {m N : Nat} (h : Dead w B j D dk jr m N) (k : Below w.heap.size w W) : Dead W B j D dk jr m N :=
 ⟨h.disk.keep k, h.jour.keep k, h.off, h.pend, h.dur, h.head, h.recs, h.tot, h.small, h.hj⟩
theorem Dead.room {w : World} {B j : Nat} {D : Dsk} {dk : Dk} {jr : Jr} {m N : Nat} (h : Dead w B j D dk jr m N) :
  Calls Tryd.prog 12 #[.pointer (some ⟨j, 0, none⟩)] w fun e w' => e = .returned (.int .i64 (m : Int)) ∧ Below w.heap.size w w' := by
 have := h.tot
 have := h.small
 refine (room_calls h.jour h.disk (by omega)).mono ?_
 rintro e w' ⟨rfl, hb⟩
 rw [h.dur]
 exact ⟨by congr 2; omega, hb⟩
theorem Dead.append {w : World} {B j : Nat} {D : Dsk} {dk : Dk} {jr : Jr} {m N : Nat} {a : Addr} (h : Dead w B j D dk jr m N) (ha : Ambs a D w) {v : Value} {l : List ByteArray} (hl : Strs w v l) (hn : l.length ≤ 10) (hs : ∀ s ∈ l, s.size ≤ 100) (jr' : Jr) (c : Int)
  (hap : appendM chF dk jr l = (dk, jr', c)) :
  Calls Tryd.prog 11 #[.pointer (some ⟨j, 0, none⟩), v] w fun e w' => e = .returned (.int .i64 c) ∧ DiskAt w' D dk ∧ JrAt w' B j D jr' ∧ Ambs a D w' ∧ Below D.B w w' ∧ Oj D j w w' := by
 have hb := stored_bound 100 (by omega) l jr.head hs
 have hb2 : l.length * (100 + 42) ≤ 10 * (100 + 42) := Nat.mul_le_mul_right _ hn
 have := h.tot
 have := h.small
 have := h.recs
 refine (append_calls h.jour h.disk hl ha.amb h.head (by omega) (by omega) (by omega) (by omega) (by rw [h.pend]; decide) h.hj).mono ?_
 rw [hap]
 rintro e w' ⟨he, hd, hj, ho⟩
 have hbl := ho.below h.disk.sizeB
 exact ⟨he, hd, hj, ha.keep hbl, hbl, ho⟩
theorem strs_nil (w : World) : Strs w (.slice none 0 0) [] := ⟨none, 0, rfl, .inl rfl⟩
/-- Nothing is appended: no error if the journal isn't broken. -/
theorem Dead.app_nil {w : World} {B j : Nat} {D : Dsk} {dk : Dk} {jr : Jr} {m N : Nat} {a : Addr} (h : Dead w B j D dk jr m N) (ha : Ambs a D w) :
  Calls Tryd.prog 11 #[.pointer (some ⟨j, 0, none⟩), .slice none 0 0] w fun e w' => e = .returned (.int .i64 (if jr.broken = true then 290 else 0)) ∧ Dead w' B j D dk jr m N ∧ Ambs a D w' ∧ Below D.B w w' ∧ Oj D j w w' := by
 have hap : appendM chF dk jr [] = (dk, jr, if jr.broken = true then 290 else 0) := by
  have := h.tot
  have := h.dur
  cases hb : jr.broken with
  | true => rw [appendM_broken dk jr [] hb, if_pos rfl]
  | false =>
   rw [if_neg (by decide)]
   exact appendM_none dk jr [] hb rfl (by show ¬ dk.dur.length < jr.size + 0; omega) rfl
 refine (h.append ha (strs_nil w) (by simp) (by simp) jr _ hap).mono ?_
 rintro e w' ⟨he, hd, hj, ha2, hb, ho⟩
 exact ⟨he, ⟨hd, hj, h.off, h.pend, h.dur, h.head, h.recs, h.tot, h.small, h.hj⟩, ha2, hb, ho⟩
theorem len_x : (encS (⟨#[120]⟩ : ByteArray)).length = 2 := by
 have h1 : Code.enc 1 = [2] := by decide +kernel
 unfold encS
 rw [show ((⟨#[120]⟩ : ByteArray).size : Int) = 1 from rfl, h1]
 rfl
theorem Dead.app_x {w : World} {B j : Nat} {D : Dsk} {dk : Dk} {jr : Jr} {m N : Nat} {a : Addr} (h : Dead w B j D dk jr m N) (hb : jr.broken = false) (ha : Ambs a D w) {v : Value} (hl : Strs w v [(⟨#[120]⟩ : ByteArray)]) :
  Calls Tryd.prog 11 #[.pointer (some ⟨j, 0, none⟩), v] w fun e w' => e = .returned (.int .i64 (if m < 35 then 291 else 281)) ∧ Dead w' B j D dk { jr with broken := decide (35 ≤ m) } m N ∧ Ambs a D w' ∧ Below D.B w w' ∧ Oj D j w w' := by
 have ht := h.tot
 have hd0 := h.dur
 have hst : (stored chF jr.head [(⟨#[120]⟩ : ByteArray)]).length = 35 := by
  rw [stored_len]
  simp [len_x]
 have hany : ([(⟨#[120]⟩ : ByteArray)].any fun s => decide (65536 < s.size)) = false := by decide
 have hap : appendM chF dk jr [⟨#[120]⟩] = (dk, { jr with broken := decide (35 ≤ m) }, if m < 35 then 291 else 281) := by
  by_cases hm : m < 35
  ·rw [if_pos hm, decide_eq_false (by omega), appendM_full dk jr _ hb hany (by rw [hst]; omega)]
   rw [← hb]
  ·rw [if_neg hm, decide_eq_true (by omega)]
   have hw : dk.write ((jr.size : Int) + 1) (ofB (stored chF jr.head [(⟨#[120]⟩ : ByteArray)]).tail) = (dk, 281) := by unfold Dk.write; rw [if_pos h.off]
   unfold appendM
   rw [if_neg (by rw [hb, hany]; simp)]
   dsimp only
   rw [if_neg (by rw [hst]; omega), if_neg (by intro h0; rw [h0] at hst; cases hst), hw]
   rfl
 refine (h.append ha hl (by simp) (by intro s hs; simp at hs; subst hs; decide) _ _ hap).mono ?_
 rintro e w' ⟨he, hd, hj, ha2, hb, ho⟩
 exact ⟨he, ⟨hd, hj, h.off, h.pend, h.dur, h.head, h.recs, h.tot, h.small, h.hj⟩, ha2, hb, ho⟩
theorem own_strs {w : World} {base : Nat} {v : Value} {l : List ByteArray} (h : w.ownsRow base 9 1 v l.length (l.map Value.string)) : Strs w v l :=
 strs_R (Kd.R_of_own (h1 := fun _ => rfl) (ok := fun _ => True) h fun _ _ => trivial)
theorem own_new (w : World) (l : List ByteArray) (hl : l.length ≤ 1000) : (w.alloc (.cells (l.map Value.string).toArray 9)).ownsRow w.heap.size 9 1 (.slice (some ⟨w.heap.size, 0, none⟩) l.length l.length) l.length (l.map Value.string) :=
 ⟨by simp, .inr ⟨w.heap.size, l.length, _, rfl, Nat.le_refl _, heap_alloc_new w _, Nat.le_refl _, by unfold maxLen; omega, by simp, by rw [Nat.mul_one]; exact List.take_of_length_le (by simp)⟩⟩
theorem own_oj {w W : World} {base n B j : Nat} {v : Value} {xs : List Value} {D : Dsk} {dk : Dk} {jr : Jr} (h : w.ownsRow base 9 1 v n xs) (o : Oj D j w W) (hd : DiskAt w D dk) (hj : JrAt w B j D jr) : W.ownsRow base 9 1 v n xs := by
 refine own_keep h fun g hg => ?_
 obtain ⟨cs, hc⟩ := own_block h hg
 obtain ⟨pv, hd⟩ := hd
 obtain ⟨rv, hj⟩ := hj
 rw [hc]
 exact o.block g _ hc (.inr ⟨cells_ne hc hd.blk (by decide), cells_ne hc hd.dur (by decide), cells_ne hc hd.vis (by decide), fun hh => absurd (show (9 : Nat) = 76 from hh) (by decide), cells_ne hc hj.tape.blk (by decide)⟩)
theorem own_off {w W : World} {base n : Nat} {v : Value} {xs : List Value} {D : Dsk} {dk : Dk} (h : w.ownsRow base 9 1 v n xs) (o : Off D w W) (hd : DiskAt w D dk) : W.ownsRow base 9 1 v n xs := by
 refine own_keep h fun g hg => ?_
 obtain ⟨cs, hc⟩ := own_block h hg
 rw [hc]
 exact o.stands hd hc (by decide) (by decide) (by decide)
/-- The power fails at once. -/
theorem Good.cut {w : World} {B j : Nat} {D : Dsk} {dk : Dk} {jr : Jr} {m N : Nat} {a : Addr} (h : Good w B j D dk jr m N) (ha : Ambs a D w) :
  Calls Tryd.prog 15 #[.pointer (some ⟨D.d, 0, none⟩), .int .i64 0] w fun e w' => e = .returned (.int .i64 0) ∧ Dead w' B j D { dk with off := true, left := 0 } jr m N ∧ Ambs a D w' ∧ Below D.B w w' ∧ Off D w w' := by
 have hce : dk.cut 0 = ({ dk with off := true, left := 0 }, 0) := by
  unfold Dk.cut
  rw [if_neg (by rw [h.fine.on]; decide), if_neg (by decide)]
  rfl
 refine (cut_calls h.disk 0 (by decide)).mono ?_
 rw [hce]
 rintro e w' ⟨he, hd, ho⟩
 have hbl := ho.below h.disk.sizeB
 refine ⟨he, ⟨hd, h.jour.off ho h.disk, rfl, h.fine.pend, h.dur, ?_, ?_, h.tot, h.small, h.hj⟩, ha.keep hbl, hbl, ho⟩
 ·rw [h.fine.head]; exact headOf_size z32 z32_size _
 ·have := rec_le jr.records z32
  rw [← h.fine.size] at this
  have := h.tot
  omega
theorem own_R {w : World} {base : Nat} {ok : Nat → Prop} {v : Value} {l : List ByteArray} (h : Kd.R Kd.string 9 w base ok v l) : w.ownsRow base 9 1 v l.length (l.map Value.string) := Kd.own_of_R h
theorem wpl_app {ops : Array Oper} {rest : List Oper} {o : Oper} {a : Act} {Q : Exit → Act → World → Prop} {w : World} (hgd : o.guard = none) (s x : Operand)
  (ho : o.op = .call { callee := .builtin .append, args := #[s, x], argTypes := #[22, 22] }) (base b2 : Nat) (v vx : Value) (xs ys : List ByteArray)
  (hs : a.eval s = v) (hown : w.ownsRow base 9 1 v xs.length (xs.map Value.string)) (hx : a.eval x = vx) (hox : w.ownsRow b2 9 1 vx ys.length (ys.map Value.string))
  (hlen : xs.length + ys.length ≤ 1000) (hbase : base ≤ w.heap.size)
  (h : ∀ v' w', w'.ownsRow base 9 1 v' (xs ++ ys).length ((xs ++ ys).map Value.string) → Below base w w' → wpList Tryd.prog ops Q rest (a.put o.dst v') w') :
  wpList Tryd.prog ops Q (o :: rest) a w := by
 obtain ⟨i0, hi0, hz0, hz1, hz2⟩ := info_parts infoS
 rcases id hox.2 with ⟨rfl, h0⟩ | ⟨g, cap, cur, rfl, hb, hg, r⟩
 ·refine wpList_append_own_none hgd s x 22 ho base 9 i0 1 Tryd.underlying22 hi0 v _ _ hs hown hx ?_
  obtain rfl := List.eq_nil_of_length_eq_zero h0
  refine h v w (by rw [List.append_nil]; exact hown) (Below.refl _ _)
 ·refine wpList_append_own (P := Tryd.prog) w hgd s x 22 ho base 9 i0 _ 1 16 Tryd.underlying22 hi0 hz0 hz1 hz2 rfl (by decide) v _ _ hs hown ⟨g, 0, none⟩ ys.length cap (ys.map Value.string) hx (by simp) (fun j u hu => hox.cells (g := g) rfl j u hu)
   (by intro u hu; obtain ⟨y, _, rfl⟩ := List.mem_map.1 hu; rfl) (by unfold maxLen; omega) (by omega) hbase ?_
  intro v' w' h2 h3 h4
  refine h v' w' (by rw [List.length_append, List.map_append]; exact h2) ((Below.refl base w).grown h3 hbase (fun k hk => own_base hown k hk))
end Go.Proofs.YtafdmehcadkplaaDoor.Jm

set_option linter.unusedVariables false
set_option linter.unusedSimpArgs false
namespace Go.Proofs.YtafdmehcadkplaaDoor.Jm
open Go Go.RowKit Go.Proofs.YtafdmehcadkplaaDoorW.PrintWords Go.Proofs.YtafdmehcadkplaaDoorW.PrintMore Go.Proofs.YtafdmehcadkplaaDoor.Pl Go.Proofs.YtafdmehcadkplaaDoor.Pr

set_option maxRecDepth 100000 in
set_option maxHeartbeats 8000000 in
theorem room (w : World) (n : Int) (A : Option Addr) (len cap : Nat) (z : List ByteArray) (more : Int) (hn : (Lit.int .i64 n).wf = true)
    (hz : z.length = len ∧ len ≤ cap ∧ cap ≤ maxLen ∧ Kd.C Kd.string w A len z ∧ ∀ x ∈ z, x.size ≤ maxLen) (hm : (Lit.int .i64 more).wf = true) (hA : Sha.Amb w ∧ ∃ a, AmbE a w) :
    Calls Tryd.prog 3 #[.int .i64 n, .slice A len cap, .int .i64 more] w fun e w' => e = .returned (.bool true) ∧ Below w.heap.size w w' := by
  obtain ⟨rfl, hcap, hmax, hC, _⟩ := hz
  obtain ⟨hA, a, hE⟩ := hA
  have g1 : 4 < w.heap.size := (Array.getElem?_eq_some_iff.1 hA.choose_spec.choose_spec).1
  have g2 : 0 < w.heap.size := (Array.getElem?_eq_some_iff.1 hE.choose_spec.choose_spec).1
  obtain ⟨hn1, hn2⟩ : -9223372036854775808 ≤ n ∧ n ≤ 9223372036854775807 := by simpa [Lit.wf, IntKind.min, IntKind.max, IntKind.signed, IntKind.bits] using hn
  obtain ⟨hm1, hm2⟩ : -9223372036854775808 ≤ more ∧ more ≤ 9223372036854775807 := by simpa [Lit.wf, IntKind.min, IntKind.max, IntKind.signed, IntKind.bits] using hm
  obtain ⟨N, hN, hN1, hN2⟩ := size_f n hn1 hn2
  obtain ⟨k, hk, hk2⟩ := pick_f more 100 hm1 hm2 (by decide)
  have hlen : z.length ≤ 9223372036854775807 := by unfold maxLen at hmax; omega
  have hFl := fewF_length z
  have hFs := fewF_size z
  go_enter Tryd.func3, Tryd.ntmps3
  go_upto_region 2 with (go_at_call 5; refine (sane_calls w a hA hE).mono ?_; rintro e w0 ⟨rfl, b0⟩)
  go_upto_region 3 with (first
    | (go_at_call 7; refine (lawsize_calls _ n N hN).mono ?_; rintro e w1 ⟨rfl, b1⟩)
    | (go_at_call 6; refine (new_calls w1 N hN1 (by omega)).mono ?_; rintro e w2 ⟨D, rfl, hd2, b2, hDB⟩))
  have b02 : Below w.heap.size w w1 := b0.trans (b1.mono b0.size)
  have hDw : w.heap.size ≤ D.B := by rw [hDB]; exact b02.size
  have B2 : Below w.heap.size w w2 := b02.trans (b2.mono b02.size)
  have a2 : Ambs a D w2 := ⟨hA.below_block B2, hE.keep (B2.block _ g2), by omega, by omega⟩
  go_upto_region 4 with (go_at_call 8; refine (open_new hd2 (by omega) a2).mono ?_; rintro e w3 ⟨j, rfl, h3, o3, a3, b3⟩)
  have B3 : Below w.heap.size w w3 := B2.trans (b3.mono hDw)
  have hC3 := Kd.C_below hC B3
  obtain ⟨Bj, hBj⟩ : ∃ Bj, w2.heap.size = Bj := ⟨_, rfl⟩
  rw [hBj] at h3
  go_upto_region 7 with (go_at_call 9; refine (few_calls w3 A cap z hC3 hcap).mono ?_; rintro e w4 ⟨vF, rfl, hR, _, b4⟩
                         have hRo := own_R hR
                         obtain ⟨A6, c6, rfl⟩ := own_form hRo)
  generalize fewF z = F at hFl hFs hR hRo
  obtain ⟨b0', hb0⟩ : ∃ b, w3.heap.size = b := ⟨_, rfl⟩
  rw [hb0] at hRo
  refine wp_world (fun W => Good W Bj j D (newDk N) ⟨[], z32, 0, false⟩ N N ∧ Ambs a D W ∧ Below w.heap.size w W ∧ W.ownsRow b0' 9 1 (.slice A6 F.length c6) F.length (F.map Value.string)) ⟨h3.keep b4, a3.keep' b4, B3.trans (b4.mono B3.size), hRo⟩ ?_
  clear hRo hR b4 B3 B2 b02 b3 b2 b1 b0 o3 h3 a3 a2 hd2 hBj hDB hC3 hb0
  rintro W4 ⟨h4, a4, b4, r4⟩
  go_wp2_with fail
  go_loopw [12, 13] (fun v u wr => ∃ i : Nat, v = .int .i64 ((needF (F.take i) : Nat) : Int) ∧ u = .int .i64 (i : Int) ∧ i ≤ F.length ∧ Good wr Bj j D (newDk N) ⟨[], z32, 0, false⟩ N N ∧ Ambs a D wr ∧ Below w.heap.size w wr ∧ wr.ownsRow b0' 9 1 (.slice A6 F.length c6) F.length (F.map Value.string)) (fun _ u _ => F.length - (intOf u).toNat)
  case atStart => exact ⟨0, rfl, rfl, Nat.zero_le _, h4, a4, b4, r4⟩
  case round =>
    clear h4 a4 b4 r4
    obtain ⟨i, rfl, rfl, hi, I, aI, bI, rI⟩ := hrel
    by_cases h1 : i < F.length
    · have x1 : decide ((i : Int) < (F.length : Int)) = true := decide_eq_true (by omega)
      have x2 : ((i : Int) < (F.length : Int)) = True := eq_true (by omega)
      obtain ⟨s, hs⟩ : ∃ s, F[i]? = some s := ⟨_, List.getElem?_eq_getElem h1⟩
      have hss := hFs s (List.mem_of_getElem? hs)
      obtain ⟨r, hr, hrs⟩ := ref_str s hss
      have htk : F.take (i + 1) = F.take i ++ [s] := by rw [List.take_add_one, hs]; rfl
      have hne := needF_le (F.take i) fun x hx => hFs x (List.mem_of_mem_take hx)
      rw [List.length_take] at hne
      have hsm := encS_small s (by omega)
      have hn1' : IntKind.i64.wrap ((i : Int) + 1) = ((i + 1 : Nat) : Int) := by rw [IntKind.wrap_i64]; omega
      have hn2' : IntKind.i64.wrap ((needF (F.take i) : Int) + 33) = ((needF (F.take i) + 33 : Nat) : Int) := by rw [IntKind.wrap_i64]; omega
      have hn3' : IntKind.i64.wrap (((needF (F.take i) + 33 : Nat) : Int) + (r.size : Int)) = ((needF (F.take (i + 1)) : Nat) : Int) := by rw [htk, needF_snoc, IntKind.wrap_i64, hrs]; omega
      rcases id rI.2 with ⟨_, h0⟩ | ⟨g, cap', cur, he, hb, hg, hrr⟩
      · omega
      injection he with e1 e2 e3
      subst e1
      subst e3
      have hcell : wr.cell? ⟨g, i, none⟩ = some (.string s) := by
        have := rI.cells (g := g) rfl i (.string s) (by rw [List.getElem?_map, hs]; rfl)
        cases i <;> simpa [Addr.add] using this
      clear hg hrr
      go_wp2_with (go_at_call 10; refine (clearwayref01_PutString.calls 6 s r 0 _ hr).mono ?_; rintro e wa ⟨rfl, ba⟩)
      go_roundw
      case rel =>
        refine ⟨i + 1, ?_, rfl, by omega, I.keep ba, aI.keep' ba, bI.trans (ba.mono bI.size), own_below rI ba⟩
        rw [htk, needF_snoc]
        congr 1
        omega
      case measure => simp [intOf]; omega
    · have x1 : decide ((i : Int) < (F.length : Int)) = false := decide_eq_false (by omega)
      have x2 : ((i : Int) < (F.length : Int)) = False := eq_false (by omega)
      have x3 : (i < F.length) = False := eq_false h1
      have hie : i = F.length := by omega
      rw [hie, List.take_length]
      have hst : (stored chF z32 F).length = needF F := stored_len F z32
      have hle := needF_le F hFs
      generalize needF F = L at hst hle ⊢
      have hap : Calls Tryd.prog 11 #[.pointer (some ⟨j, 0, none⟩), .slice A6 F.length c6] wr fun e w' => ∃ dk jr m, ∃ c : Int, e = .returned (.int .i64 c) ∧ Good w' Bj j D dk jr m N ∧ dk.left = 0 ∧ Ambs a D w' ∧ Below D.B wr w' ∧ Oj D j wr w' ∧ ((L ≤ N ∧ c = 0 ∧ m = N - L) ∨ (N < L ∧ c = 291 ∧ m = N)) := by
        rcases Nat.lt_or_ge N L with hc | hc
        · refine (I.app_full rfl aI (own_strs rI) (by omega) (fun s hs => by have := hFs s hs; omega) (by rw [show (⟨[], z32, 0, false⟩ : Jr).head = z32 from rfl, hst]; exact hc)).mono ?_
          rintro e w' ⟨he, hg, ho, ha, hb⟩
          exact ⟨_, _, _, _, he, hg, rfl, ha, hb, ho, .inr ⟨hc, rfl, rfl⟩⟩
        · refine (I.app_ok rfl aI (own_strs rI) (by omega) (fun s hs => by have := hFs s hs; omega) L hst hc).mono ?_
          rintro e w' ⟨dk', jr', he, hg, hr, hl, ho, ha, hb⟩
          exact ⟨_, _, _, _, he, hg, hl, ha, hb, ho, .inl ⟨hc, rfl, rfl⟩⟩
      go_upto_region 14 with (go_at_call 11; refine hap.mono ?_; rintro e w13 ⟨dk, jr, m, c, rfl, h13, l13, a13, b13, o13, hcs⟩)
      have B13 : Below w.heap.size w w13 := bI.trans (b13.mono hDw)
      have r13 : w13.ownsRow b0' 9 1 (.slice A6 F.length c6) F.length (F.map Value.string) := own_oj rI o13 I.disk I.jour
      go_upto_region 15 with (go_at_call 7; refine (lawsize_calls _ n N hN).mono ?_; rintro e w14 ⟨rfl, b14⟩)
      refine wp_world (fun W => Good W Bj j D dk jr m N ∧ Ambs a D W ∧ Below w.heap.size w W ∧ W.ownsRow b0' 9 1 (.slice A6 F.length c6) F.length (F.map Value.string)) ⟨h13.keep b14, a13.keep' b14, B13.trans (b14.mono B13.size), own_below r13 b14⟩ ?_
      clear r13 B13 b14 o13 b13 a13 h13 hap I aI bI rI hie h1 hi
      rintro W15 ⟨h15, a15, b15, r15⟩
      have hx : (L ≤ N ∧ N = m + L) ∨ (N < L ∧ m = N) := by omega
      rcases hcs with ⟨hf, rfl, hm⟩ | ⟨hf, rfl, hm⟩
      · have y1 : decide ((L : Int) ≤ (N : Int)) = true := decide_eq_true (by omega)
        have y2 : ((L : Int) ≤ (N : Int)) = True := eq_true (by omega)
        have y3 : (L ≤ N) = True := eq_true hf
        have y4 : IntKind.i64.wrap ((N : Int) - (L : Int)) = (m : Int) := by rw [IntKind.wrap_i64]; omega
        go_upto_region 17 with (first
          | (go_at_call 7; refine (lawsize_calls _ n N hN).mono ?_; rintro e w17 ⟨rfl, b17⟩)
          | (go_at_call 12; refine h15.room.mono ?_; rintro e w16 ⟨rfl, b16⟩))
        have K := b16.trans (b17.mono b16.size)
        refine wp_world (fun W => Good W Bj j D dk jr m N ∧ Ambs a D W ∧ Below w.heap.size w W ∧ W.ownsRow b0' 9 1 (.slice A6 F.length c6) F.length (F.map Value.string)) ⟨h15.keep K, a15.keep' K, b15.trans (K.mono b15.size), own_below r15 K⟩ ?_
        clear K b16 b17 h15 a15 b15 r15
        rintro W17 ⟨h17, a17, b17, r17⟩
        have hrl : jr.records.length ≤ 1000000 := by have h1 := rec_le jr.records z32; rw [← h17.fine.size] at h1; have := h17.tot; omega
        obtain ⟨R, hR⟩ : ∃ R, jr.records = R := ⟨_, rfl⟩
        have hrec := records_calls h17.jour (Nat.le_trans hrl (by decide))
        rw [hR] at hrec hrl
        go_upto_region 18 with (go_at_call 13; refine hrec.mono ?_; rintro e w18 ⟨v18, rfl, o18, b18⟩; obtain ⟨A18, c18, rfl⟩ := own_form o18)
        clear hrec
        obtain ⟨q, hq⟩ : ∃ q, W17.heap.size = q := ⟨_, rfl⟩
        have B18 := b17.trans (b18.mono b17.size)
        have H18 := h17.keep b18
        have A18' := a17.keep' b18
        have R18 := own_below r17 b18
        rw [hq] at o18
        refine wp_world (fun W => Good W Bj j D dk jr m N ∧ Ambs a D W ∧ Below w.heap.size w W ∧ W.ownsRow b0' 9 1 (.slice A6 F.length c6) F.length (F.map Value.string) ∧ W.ownsRow q 9 1 (.slice A18 R.length c18) R.length (R.map Value.string)) ⟨H18, A18', B18, R18, o18⟩ ?_
        clear B18 H18 A18' R18 o18 b18 h17 a17 b17 r17 hq
        rintro W18 ⟨h18, a18, b18, r18, s18⟩
        obtain ⟨M, hM⟩ : ∃ M, 65537 + k = M := ⟨_, rfl⟩
        have hMk : IntKind.i64.wrap (65537 + (k : Int)) = (M : Int) := by rw [IntKind.wrap_i64]; omega
        have hMk2 : (65537 : Int) + (k : Int) = (M : Int) := by omega
        have hmk : ∀ w, (Instr.makeSlice 38 (.int .i64 (M : Int)) (.int .i64 (M : Int))).run Tryd.prog w = .ok (.slice (some ⟨w.heap.size, 0, none⟩) M M) (w.alloc (.cells (bv (zeros M)).toArray 5)) := run_make_bytes M (by omega)
        have zM : (ofB (zeros M)).size = M := by rw [size_ofB (zeros_lt M), zeros_length]
        have cv := fun W => conv_zeros M W
        generalize ofB (zeros M) = Z at cv zM
        have hZn : (F ++ [Z]).length ≤ 1000 := by rw [List.length_append]; simp; omega
        have hZs : ∀ s ∈ F ++ [Z], s.size ≤ 70000 := by
          intro s hs
          rcases List.mem_append.1 hs with hs | hs
          · have := hFs s hs; omega
          · simp at hs; subst hs; omega
        have hZl : ∃ s ∈ F ++ [Z], 65536 < s.size := ⟨Z, by simp, by omega⟩
        have own0 := own_new W18 [] (by simp)
        have k0 := below_alloc (Below.refl W18.heap.size W18) (.cells (([] : List ByteArray).map Value.string).toArray 9)
        have r0 := own_below r18 k0
        have sz : ∀ (W : World) (X : Obj), (W.alloc X).heap.size = W.heap.size + 1 := fun W X => by simp
        go_upto_region 19 with (first
          | (go_at_call 11; refine ((h18.keep K8).app_long (a18.keep' K8) S2 hZn hZs hZl).mono ?_; rintro e w9 ⟨rfl, h9, a9, b9, o9⟩)
          | (at_builtin; refine wpl_app rfl (.tmp 108) (.tmp 114) rfl W18.heap.size (w5.heap.size + 1) (.slice A1 F.length c1) (.slice (some ⟨w5.heap.size + 1, 0, none⟩) 1 1) F [Z] rfl t7 rfl oz hlz K7.size ?_
             intro v2 Wb hown2 hb2; obtain ⟨A2, c2, rfl⟩ := own_form hown2
             have K8 := K7.trans hb2
             have S2 : Strs Wb (.slice A2 (F.length + 1) c2) (F ++ [Z]) := by have := own_strs hown2; rw [List.length_append] at this; exact this)
          | (go_at_call 14; refine (clearwaylaw29_pick.calls more 100 _ _ hk).mono ?_; rintro e w5 ⟨rfl, hdr⟩
             have hcv := cv w5
             have k4 := hdr.below
             have q1 : W18.heap.size ≤ Wa.heap.size := (k0.trans hb1).size
             have q5 : Wa.heap.size ≤ w5.heap.size := k4.size
             have k5 := below_alloc (Below.refl w5.heap.size w5) (.cells (bv (zeros M)).toArray 5)
             have k6 := below_alloc (Below.refl (w5.alloc (.cells (bv (zeros M)).toArray 5)).heap.size (w5.alloc (.cells (bv (zeros M)).toArray 5))) (.cells #[.string Z] 9)
             have t7 := own_below (own_below (own_below hown1 k4) k5) k6
             have oz := own_new (w5.alloc (.cells (bv (zeros M)).toArray 5)) [Z] (by simp)
             have K7 := (((k0.trans hb1).trans (k4.mono q1)).trans (k5.mono (Nat.le_trans q1 q5))).trans (k6.mono (by rw [sz]; omega))
             rw [sz w5] at oz
             have hlz : F.length + [Z].length ≤ 1000 := by simp; omega)
          | (at_builtin; refine wpl_app rfl (.tmp 106) (.tmp 107) rfl W18.heap.size b0' _ _ [] F rfl own0 rfl r0 (by simp; omega) (by simp) ?_
             intro v1 Wa hown1 hb1; obtain ⟨A1, c1, rfl⟩ := own_form hown1
             rw [List.nil_append] at hown1))
        have R9 := own_oj (own_below r18 K8) o9 (h18.keep K8).disk (h18.keep K8).jour
        have S9 := own_oj (own_below s18 K8) o9 (h18.keep K8).disk (h18.keep K8).jour
        have B9 : Below w.heap.size w w9 := (b18.trans (K8.mono b18.size)).trans (b9.mono hDw)
        refine wp_world (fun W => Good W Bj j D dk jr m N ∧ Ambs a D W ∧ Below w.heap.size w W ∧ W.ownsRow b0' 9 1 (.slice A6 F.length c6) F.length (F.map Value.string) ∧ W.ownsRow q 9 1 (.slice A18 R.length c18) R.length (R.map Value.string)) ⟨h9, a9, B9, R9, S9⟩ ?_
        clear R9 S9 B9 h9 a9 b9 o9 S2 K8 hown2 hb2 hlz oz K7 t7 k6 k5 q5 q1 k4 hcv hdr hown1 hb1 own0 k0 r0 sz hZn hZs hZl cv hmk h18 a18 b18 r18 s18
        rintro W9 ⟨h9, a9, b9, r9, s9⟩
        have hn9 := h9.app_ok l13 a9 (strs_nil W9) (by simp) (by simp) 0 rfl (Nat.zero_le m)
        go_upto_region 20 with (go_at_call 11; refine hn9.mono ?_; rintro e w10 ⟨dk2, jr2, rfl, h10, hr10, l10, o10, a10, b10⟩)
        have R10 := own_oj r9 o10 h9.disk h9.jour
        have S10 := own_oj s9 o10 h9.disk h9.jour
        have B10 : Below w.heap.size w w10 := b9.trans (b10.mono hDw)
        rw [Nat.sub_zero] at h10
        have hR2 : jr2.records = R := by rw [hr10, hR, List.append_nil]
        have hbr : jr2.broken = false := h10.fine.ok
        go_upto_region 21 with (go_at_call 15; refine (h10.cut a10).mono ?_; rintro e w11 ⟨rfl, h11, a11, b11, o11⟩)
        have R11 := own_off R10 o11 h10.disk
        have S11 := own_off S10 o11 h10.disk
        generalize ({ dk2 with off := true, left := 0 } : Dk) = dk3 at h11
        refine wp_world (fun W => Dead W Bj j D dk3 jr2 m N ∧ Ambs a D W ∧ Below w.heap.size w W ∧ W.ownsRow b0' 9 1 (.slice A6 F.length c6) F.length (F.map Value.string) ∧ W.ownsRow q 9 1 (.slice A18 R.length c18) R.length (R.map Value.string)) ⟨h11, a11, B10.trans (b11.mono hDw), R11, S11⟩ ?_
        clear R11 S11 h11 a11 b11 o11 R10 S10 B10 h10 hr10 l10 o10 a10 b10 hn9 h9 a9 b9 r9 s9
        rintro W11 ⟨h11, a11, b11, r11, s11⟩
        have k11 := below_alloc (Below.refl W11.heap.size W11) (.cells #[.string ⟨#[120]⟩] 9)
        have hS11 := strs_new W11 [(⟨#[120]⟩ : ByteArray)] 9
        have hx := (h11.keep k11).app_x hbr (a11.keep' k11) hS11
        obtain ⟨c1, c2, br, hdec, hx, hnl⟩ : ∃ (c1 c2 : Int) (br : Bool), ((m < 35 ∧ c1 = 291 ∧ c2 = 0) ∨ (35 ≤ m ∧ c1 = 281 ∧ c2 = 290)) ∧
            Calls Tryd.prog 11 #[.pointer (some ⟨j, 0, none⟩), .slice (some ⟨W11.heap.size, 0, none⟩) 1 1] (W11.alloc (.cells #[.string ⟨#[120]⟩] 9)) (fun e w' => e = .returned (.int .i64 c1) ∧ Dead w' Bj j D dk3 { jr2 with broken := br } m N ∧ Ambs a D w' ∧ Below D.B (W11.alloc (.cells #[.string ⟨#[120]⟩] 9)) w' ∧ Oj D j (W11.alloc (.cells #[.string ⟨#[120]⟩] 9)) w') ∧
            (if br = true then (290 : Int) else 0) = c2 := by
          rcases Nat.lt_or_ge m 35 with h35 | h35
          · refine ⟨291, 0, decide (35 ≤ m), .inl ⟨h35, rfl, rfl⟩, ?_, by rw [decide_eq_false (by omega)]; rfl⟩
            rw [if_pos h35] at hx
            exact hx
          · refine ⟨281, 290, decide (35 ≤ m), .inr ⟨h35, rfl, rfl⟩, ?_, by rw [decide_eq_true h35]; rfl⟩
            rw [if_neg (by omega)] at hx
            exact hx
        go_upto_region 22 with (go_at_call 11; refine hx.mono ?_; rintro e w12 ⟨rfl, h12, a12, b12, o12⟩)
        have R12 := own_oj (own_below r11 k11) o12 (h11.keep k11).disk (h11.keep k11).jour
        have S12 := own_oj (own_below s11 k11) o12 (h11.keep k11).disk (h11.keep k11).jour
        have B12 : Below w.heap.size w w12 := (b11.trans (k11.mono b11.size)).trans (b12.mono hDw)
        go_upto_region 23 with (go_at_call 12; refine h12.room.mono ?_; rintro e w13' ⟨rfl, b13'⟩)
        have hnn := (h12.keep b13').app_nil (a12.keep' b13')
        rw [show ({ jr2 with broken := br } : Jr).broken = br from rfl, hnl] at hnn
        go_upto_region 24 with (go_at_call 11; refine hnn.mono ?_; rintro e w14' ⟨rfl, h14, a14, b14', o14⟩)
        have R14 := own_oj (own_below R12 b13') o14 (h12.keep b13').disk (h12.keep b13').jour
        have S14 := own_oj (own_below S12 b13') o14 (h12.keep b13').disk (h12.keep b13').jour
        have B14 : Below w.heap.size w w14' := (B12.trans (b13'.mono B12.size)).trans (b14'.mono hDw)
        refine wp_world (fun W => JrAt W Bj j D { jr2 with broken := br } ∧ Below w.heap.size w W ∧ W.ownsRow b0' 9 1 (.slice A6 F.length c6) F.length (F.map Value.string) ∧ W.ownsRow q 9 1 (.slice A18 R.length c18) R.length (R.map Value.string)) ⟨h14.jour, B14, R14, S14⟩ ?_
        clear B14 R14 S14 h14 a14 b14' o14 hnn B12 S12 R12 b13' h12 a12 b12 o12 hx hS11 k11 h11 a11 b11 r11 s11
        rintro W14 ⟨j14, b14, r14, s14⟩
        have hrec := records_calls j14 (by rw [show ({ jr2 with broken := br } : Jr).records = jr2.records from rfl, hR2]; exact Nat.le_trans hrl (by decide))
        rw [show ({ jr2 with broken := br } : Jr).records = jr2.records from rfl, hR2] at hrec
        rcases hdec with hd35 | hd35
        · obtain ⟨h35, rfl, rfl⟩ := hd35
          have x1 : decide ((m : Int) < 35) = true := decide_eq_true (by omega)
          have x2 : ((m : Int) < 35) = True := eq_true (by omega)
          have x3 : (m < 35) = True := eq_true (by omega)
          go_wp2_with (first
            | (go_at_call 13; have _ := b17'; refine (records_nil _).mono ?_; rintro e w19' ⟨rfl, rfl⟩)
            | (go_at_call 12; refine (room_nil _).mono ?_; rintro e w18' ⟨rfl, rfl⟩)
            | (go_at_call 11; refine (append_nil w16' (.slice A6 F.length c6) (own_strs (own_below r14 K16))).mono ?_; rintro e w17' ⟨rfl, b17'⟩)
            | (go_at_call 16; refine (same_calls w15' _ _ (.slice A15 R.length c15) (.slice A18 R.length c18) R hrl o15 (own_below s14 b15)).mono ?_; rintro e w16' ⟨rfl, b16'⟩
               have K16 := b15.trans (b16'.mono b15.size))
            | (go_at_call 13; refine hrec.mono ?_; rintro e w15' ⟨v15, rfl, o15, b15⟩; obtain ⟨A15, c15, rfl⟩ := own_form o15))
          go_ret
          have hf := K16.trans (b17'.mono K16.size)
          exact ⟨rfl, b14.trans (hf.mono b14.size)⟩
        · obtain ⟨h35, rfl, rfl⟩ := hd35
          have x1 : decide ((m : Int) < 35) = false := decide_eq_false (by omega)
          have x2 : ((m : Int) < 35) = False := eq_false (by omega)
          have x3 : (m < 35) = False := eq_false (by omega)
          go_wp2_with (first
            | (go_at_call 13; have _ := b17'; refine (records_nil _).mono ?_; rintro e w19' ⟨rfl, rfl⟩)
            | (go_at_call 12; refine (room_nil _).mono ?_; rintro e w18' ⟨rfl, rfl⟩)
            | (go_at_call 11; refine (append_nil w16' (.slice A6 F.length c6) (own_strs (own_below r14 K16))).mono ?_; rintro e w17' ⟨rfl, b17'⟩)
            | (go_at_call 16; refine (same_calls w15' _ _ (.slice A15 R.length c15) (.slice A18 R.length c18) R hrl o15 (own_below s14 b15)).mono ?_; rintro e w16' ⟨rfl, b16'⟩
               have K16 := b15.trans (b16'.mono b15.size))
            | (go_at_call 13; refine hrec.mono ?_; rintro e w15' ⟨v15, rfl, o15, b15⟩; obtain ⟨A15, c15, rfl⟩ := own_form o15))
          go_ret
          have hf := K16.trans (b17'.mono K16.size)
          exact ⟨rfl, b14.trans (hf.mono b14.size)⟩
      · have y1 : decide ((L : Int) ≤ (N : Int)) = false := decide_eq_false (by omega)
        have y2 : ((L : Int) ≤ (N : Int)) = False := eq_false (by omega)
        have y3 : (L ≤ N) = False := eq_false (by omega)
        go_upto_region 17 with (first
          | (go_at_call 7; refine (lawsize_calls _ n N hN).mono ?_; rintro e w17 ⟨rfl, b17⟩)
          | (go_at_call 12; refine h15.room.mono ?_; rintro e w16 ⟨rfl, b16⟩))
        have K := b16.trans (b17.mono b16.size)
        refine wp_world (fun W => Good W Bj j D dk jr m N ∧ Ambs a D W ∧ Below w.heap.size w W ∧ W.ownsRow b0' 9 1 (.slice A6 F.length c6) F.length (F.map Value.string)) ⟨h15.keep K, a15.keep' K, b15.trans (K.mono b15.size), own_below r15 K⟩ ?_
        clear K b16 b17 h15 a15 b15 r15
        rintro W17 ⟨h17, a17, b17, r17⟩
        have hrl : jr.records.length ≤ 1000000 := by have h1 := rec_le jr.records z32; rw [← h17.fine.size] at h1; have := h17.tot; omega
        obtain ⟨R, hR⟩ : ∃ R, jr.records = R := ⟨_, rfl⟩
        have hrec := records_calls h17.jour (Nat.le_trans hrl (by decide))
        rw [hR] at hrec hrl
        go_upto_region 18 with (go_at_call 13; refine hrec.mono ?_; rintro e w18 ⟨v18, rfl, o18, b18⟩; obtain ⟨A18, c18, rfl⟩ := own_form o18)
        clear hrec
        obtain ⟨q, hq⟩ : ∃ q, W17.heap.size = q := ⟨_, rfl⟩
        have B18 := b17.trans (b18.mono b17.size)
        have H18 := h17.keep b18
        have A18' := a17.keep' b18
        have R18 := own_below r17 b18
        rw [hq] at o18
        refine wp_world (fun W => Good W Bj j D dk jr m N ∧ Ambs a D W ∧ Below w.heap.size w W ∧ W.ownsRow b0' 9 1 (.slice A6 F.length c6) F.length (F.map Value.string) ∧ W.ownsRow q 9 1 (.slice A18 R.length c18) R.length (R.map Value.string)) ⟨H18, A18', B18, R18, o18⟩ ?_
        clear B18 H18 A18' R18 o18 b18 h17 a17 b17 r17 hq
        rintro W18 ⟨h18, a18, b18, r18, s18⟩
        obtain ⟨M, hM⟩ : ∃ M, 65537 + k = M := ⟨_, rfl⟩
        have hMk : IntKind.i64.wrap (65537 + (k : Int)) = (M : Int) := by rw [IntKind.wrap_i64]; omega
        have hMk2 : (65537 : Int) + (k : Int) = (M : Int) := by omega
        have hmk : ∀ w, (Instr.makeSlice 38 (.int .i64 (M : Int)) (.int .i64 (M : Int))).run Tryd.prog w = .ok (.slice (some ⟨w.heap.size, 0, none⟩) M M) (w.alloc (.cells (bv (zeros M)).toArray 5)) := run_make_bytes M (by omega)
        have zM : (ofB (zeros M)).size = M := by rw [size_ofB (zeros_lt M), zeros_length]
        have cv := fun W => conv_zeros M W
        generalize ofB (zeros M) = Z at cv zM
        have hZn : (F ++ [Z]).length ≤ 1000 := by rw [List.length_append]; simp; omega
        have hZs : ∀ s ∈ F ++ [Z], s.size ≤ 70000 := by
          intro s hs
          rcases List.mem_append.1 hs with hs | hs
          · have := hFs s hs; omega
          · simp at hs; subst hs; omega
        have hZl : ∃ s ∈ F ++ [Z], 65536 < s.size := ⟨Z, by simp, by omega⟩
        have own0 := own_new W18 [] (by simp)
        have k0 := below_alloc (Below.refl W18.heap.size W18) (.cells (([] : List ByteArray).map Value.string).toArray 9)
        have r0 := own_below r18 k0
        have sz : ∀ (W : World) (X : Obj), (W.alloc X).heap.size = W.heap.size + 1 := fun W X => by simp
        go_upto_region 19 with (first
          | (go_at_call 11; refine ((h18.keep K8).app_long (a18.keep' K8) S2 hZn hZs hZl).mono ?_; rintro e w9 ⟨rfl, h9, a9, b9, o9⟩)
          | (at_builtin; refine wpl_app rfl (.tmp 108) (.tmp 114) rfl W18.heap.size (w5.heap.size + 1) (.slice A1 F.length c1) (.slice (some ⟨w5.heap.size + 1, 0, none⟩) 1 1) F [Z] rfl t7 rfl oz hlz K7.size ?_
             intro v2 Wb hown2 hb2; obtain ⟨A2, c2, rfl⟩ := own_form hown2
             have K8 := K7.trans hb2
             have S2 : Strs Wb (.slice A2 (F.length + 1) c2) (F ++ [Z]) := by have := own_strs hown2; rw [List.length_append] at this; exact this)
          | (go_at_call 14; refine (clearwaylaw29_pick.calls more 100 _ _ hk).mono ?_; rintro e w5 ⟨rfl, hdr⟩
             have hcv := cv w5
             have k4 := hdr.below
             have q1 : W18.heap.size ≤ Wa.heap.size := (k0.trans hb1).size
             have q5 : Wa.heap.size ≤ w5.heap.size := k4.size
             have k5 := below_alloc (Below.refl w5.heap.size w5) (.cells (bv (zeros M)).toArray 5)
             have k6 := below_alloc (Below.refl (w5.alloc (.cells (bv (zeros M)).toArray 5)).heap.size (w5.alloc (.cells (bv (zeros M)).toArray 5))) (.cells #[.string Z] 9)
             have t7 := own_below (own_below (own_below hown1 k4) k5) k6
             have oz := own_new (w5.alloc (.cells (bv (zeros M)).toArray 5)) [Z] (by simp)
             have K7 := (((k0.trans hb1).trans (k4.mono q1)).trans (k5.mono (Nat.le_trans q1 q5))).trans (k6.mono (by rw [sz]; omega))
             rw [sz w5] at oz
             have hlz : F.length + [Z].length ≤ 1000 := by simp; omega)
          | (at_builtin; refine wpl_app rfl (.tmp 106) (.tmp 107) rfl W18.heap.size b0' _ _ [] F rfl own0 rfl r0 (by simp; omega) (by simp) ?_
             intro v1 Wa hown1 hb1; obtain ⟨A1, c1, rfl⟩ := own_form hown1
             rw [List.nil_append] at hown1))
        have R9 := own_oj (own_below r18 K8) o9 (h18.keep K8).disk (h18.keep K8).jour
        have S9 := own_oj (own_below s18 K8) o9 (h18.keep K8).disk (h18.keep K8).jour
        have B9 : Below w.heap.size w w9 := (b18.trans (K8.mono b18.size)).trans (b9.mono hDw)
        refine wp_world (fun W => Good W Bj j D dk jr m N ∧ Ambs a D W ∧ Below w.heap.size w W ∧ W.ownsRow b0' 9 1 (.slice A6 F.length c6) F.length (F.map Value.string) ∧ W.ownsRow q 9 1 (.slice A18 R.length c18) R.length (R.map Value.string)) ⟨h9, a9, B9, R9, S9⟩ ?_
        clear R9 S9 B9 h9 a9 b9 o9 S2 K8 hown2 hb2 hlz oz K7 t7 k6 k5 q5 q1 k4 hcv hdr hown1 hb1 own0 k0 r0 sz hZn hZs hZl cv hmk h18 a18 b18 r18 s18
        rintro W9 ⟨h9, a9, b9, r9, s9⟩
        have hn9 := h9.app_ok l13 a9 (strs_nil W9) (by simp) (by simp) 0 rfl (Nat.zero_le m)
        go_upto_region 20 with (go_at_call 11; refine hn9.mono ?_; rintro e w10 ⟨dk2, jr2, rfl, h10, hr10, l10, o10, a10, b10⟩)
        have R10 := own_oj r9 o10 h9.disk h9.jour
        have S10 := own_oj s9 o10 h9.disk h9.jour
        have B10 : Below w.heap.size w w10 := b9.trans (b10.mono hDw)
        rw [Nat.sub_zero] at h10
        have hR2 : jr2.records = R := by rw [hr10, hR, List.append_nil]
        have hbr : jr2.broken = false := h10.fine.ok
        go_upto_region 21 with (go_at_call 15; refine (h10.cut a10).mono ?_; rintro e w11 ⟨rfl, h11, a11, b11, o11⟩)
        have R11 := own_off R10 o11 h10.disk
        have S11 := own_off S10 o11 h10.disk
        generalize ({ dk2 with off := true, left := 0 } : Dk) = dk3 at h11
        refine wp_world (fun W => Dead W Bj j D dk3 jr2 m N ∧ Ambs a D W ∧ Below w.heap.size w W ∧ W.ownsRow b0' 9 1 (.slice A6 F.length c6) F.length (F.map Value.string) ∧ W.ownsRow q 9 1 (.slice A18 R.length c18) R.length (R.map Value.string)) ⟨h11, a11, B10.trans (b11.mono hDw), R11, S11⟩ ?_
        clear R11 S11 h11 a11 b11 o11 R10 S10 B10 h10 hr10 l10 o10 a10 b10 hn9 h9 a9 b9 r9 s9
        rintro W11 ⟨h11, a11, b11, r11, s11⟩
        have k11 := below_alloc (Below.refl W11.heap.size W11) (.cells #[.string ⟨#[120]⟩] 9)
        have hS11 := strs_new W11 [(⟨#[120]⟩ : ByteArray)] 9
        have hx := (h11.keep k11).app_x hbr (a11.keep' k11) hS11
        obtain ⟨c1, c2, br, hdec, hx, hnl⟩ : ∃ (c1 c2 : Int) (br : Bool), ((m < 35 ∧ c1 = 291 ∧ c2 = 0) ∨ (35 ≤ m ∧ c1 = 281 ∧ c2 = 290)) ∧
            Calls Tryd.prog 11 #[.pointer (some ⟨j, 0, none⟩), .slice (some ⟨W11.heap.size, 0, none⟩) 1 1] (W11.alloc (.cells #[.string ⟨#[120]⟩] 9)) (fun e w' => e = .returned (.int .i64 c1) ∧ Dead w' Bj j D dk3 { jr2 with broken := br } m N ∧ Ambs a D w' ∧ Below D.B (W11.alloc (.cells #[.string ⟨#[120]⟩] 9)) w' ∧ Oj D j (W11.alloc (.cells #[.string ⟨#[120]⟩] 9)) w') ∧
            (if br = true then (290 : Int) else 0) = c2 := by
          rcases Nat.lt_or_ge m 35 with h35 | h35
          · refine ⟨291, 0, decide (35 ≤ m), .inl ⟨h35, rfl, rfl⟩, ?_, by rw [decide_eq_false (by omega)]; rfl⟩
            rw [if_pos h35] at hx
            exact hx
          · refine ⟨281, 290, decide (35 ≤ m), .inr ⟨h35, rfl, rfl⟩, ?_, by rw [decide_eq_true h35]; rfl⟩
            rw [if_neg (by omega)] at hx
            exact hx
        go_upto_region 22 with (go_at_call 11; refine hx.mono ?_; rintro e w12 ⟨rfl, h12, a12, b12, o12⟩)
        have R12 := own_oj (own_below r11 k11) o12 (h11.keep k11).disk (h11.keep k11).jour
        have S12 := own_oj (own_below s11 k11) o12 (h11.keep k11).disk (h11.keep k11).jour
        have B12 : Below w.heap.size w w12 := (b11.trans (k11.mono b11.size)).trans (b12.mono hDw)
        go_upto_region 23 with (go_at_call 12; refine h12.room.mono ?_; rintro e w13' ⟨rfl, b13'⟩)
        have hnn := (h12.keep b13').app_nil (a12.keep' b13')
        rw [show ({ jr2 with broken := br } : Jr).broken = br from rfl, hnl] at hnn
        go_upto_region 24 with (go_at_call 11; refine hnn.mono ?_; rintro e w14' ⟨rfl, h14, a14, b14', o14⟩)
        have R14 := own_oj (own_below R12 b13') o14 (h12.keep b13').disk (h12.keep b13').jour
        have S14 := own_oj (own_below S12 b13') o14 (h12.keep b13').disk (h12.keep b13').jour
        have B14 : Below w.heap.size w w14' := (B12.trans (b13'.mono B12.size)).trans (b14'.mono hDw)
        refine wp_world (fun W => JrAt W Bj j D { jr2 with broken := br } ∧ Below w.heap.size w W ∧ W.ownsRow b0' 9 1 (.slice A6 F.length c6) F.length (F.map Value.string) ∧ W.ownsRow q 9 1 (.slice A18 R.length c18) R.length (R.map Value.string)) ⟨h14.jour, B14, R14, S14⟩ ?_
        clear B14 R14 S14 h14 a14 b14' o14 hnn B12 S12 R12 b13' h12 a12 b12 o12 hx hS11 k11 h11 a11 b11 r11 s11
        rintro W14 ⟨j14, b14, r14, s14⟩
        have hrec := records_calls j14 (by rw [show ({ jr2 with broken := br } : Jr).records = jr2.records from rfl, hR2]; exact Nat.le_trans hrl (by decide))
        rw [show ({ jr2 with broken := br } : Jr).records = jr2.records from rfl, hR2] at hrec
        rcases hdec with hd35 | hd35
        · obtain ⟨h35, rfl, rfl⟩ := hd35
          have x1 : decide ((m : Int) < 35) = true := decide_eq_true (by omega)
          have x2 : ((m : Int) < 35) = True := eq_true (by omega)
          have x3 : (m < 35) = True := eq_true (by omega)
          go_wp2_with (first
            | (go_at_call 13; have _ := b17'; refine (records_nil _).mono ?_; rintro e w19' ⟨rfl, rfl⟩)
            | (go_at_call 12; refine (room_nil _).mono ?_; rintro e w18' ⟨rfl, rfl⟩)
            | (go_at_call 11; refine (append_nil w16' (.slice A6 F.length c6) (own_strs (own_below r14 K16))).mono ?_; rintro e w17' ⟨rfl, b17'⟩)
            | (go_at_call 16; refine (same_calls w15' _ _ (.slice A15 R.length c15) (.slice A18 R.length c18) R hrl o15 (own_below s14 b15)).mono ?_; rintro e w16' ⟨rfl, b16'⟩
               have K16 := b15.trans (b16'.mono b15.size))
            | (go_at_call 13; refine hrec.mono ?_; rintro e w15' ⟨v15, rfl, o15, b15⟩; obtain ⟨A15, c15, rfl⟩ := own_form o15))
          go_ret
          have hf := K16.trans (b17'.mono K16.size)
          exact ⟨rfl, b14.trans (hf.mono b14.size)⟩
        · obtain ⟨h35, rfl, rfl⟩ := hd35
          have x1 : decide ((m : Int) < 35) = false := decide_eq_false (by omega)
          have x2 : ((m : Int) < 35) = False := eq_false (by omega)
          have x3 : (m < 35) = False := eq_false (by omega)
          go_wp2_with (first
            | (go_at_call 13; have _ := b17'; refine (records_nil _).mono ?_; rintro e w19' ⟨rfl, rfl⟩)
            | (go_at_call 12; refine (room_nil _).mono ?_; rintro e w18' ⟨rfl, rfl⟩)
            | (go_at_call 11; refine (append_nil w16' (.slice A6 F.length c6) (own_strs (own_below r14 K16))).mono ?_; rintro e w17' ⟨rfl, b17'⟩)
            | (go_at_call 16; refine (same_calls w15' _ _ (.slice A15 R.length c15) (.slice A18 R.length c18) R hrl o15 (own_below s14 b15)).mono ?_; rintro e w16' ⟨rfl, b16'⟩
               have K16 := b15.trans (b16'.mono b15.size))
            | (go_at_call 13; refine hrec.mono ?_; rintro e w15' ⟨v15, rfl, o15, b15⟩; obtain ⟨A15, c15, rfl⟩ := own_form o15))
          go_ret
          have hf := K16.trans (b17'.mono K16.size)
          exact ⟨rfl, b14.trans (hf.mono b14.size)⟩
end Go.Proofs.YtafdmehcadkplaaDoor.Jm

