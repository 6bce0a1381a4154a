/- A journal's tape, by pointers: add. Condition: none. A journal's tape, by pointers: load reads the records of a content, or panics with errDamaged. Condition: none. A journal's tape, by pointers: the walk of load. Condition: none. -/
import Derived.Test.YtniegajdmbepbaaGreatDoorKJournalMatchesReference11
import Derived.Test.YtniegajdmbepbaaGreatDoorKJournalMatchesReference21
import Derived.Test.YtniegajdmbepbaaGreatDoorKJournalMatchesReference22
import Derived.Deep.LoopGhost
import Derived.Deep.RegionWith
set_option linter.unusedSimpArgs false
set_option linter.unusedVariables false
namespace Go.Proofs.YtniegajdmbepbaaGreatDoor.Jm
open Go Go.RowKit Go.Proofs.YtniegajdmbepbaaGreatDoorW.PrintWords Go.Proofs.YtniegajdmbepbaaGreatDoorW.PrintMore Go.Proofs.YtniegajdmbepbaaGreatDoor.Pr Go.Proofs.YtniegajdmbepbaaGreatDoor.WPure
theorem sumF_size (s : ByteArray) : (Sha.sumF s).size = 32 := by
  unfold Sha.sumF Sha.digW
  rw [strOfNums_size, List.length_map, Sha.dst_length]
def chF (a b : ByteArray) : ByteArray := Sha.chainF a b
theorem chF_size (a b : ByteArray) : (chF a b).size = 32 := sumF_size _
structure TAt (w : World) (base p : Nat) (T : TypeId) (rest : List Value) (rs : List ByteArray) (head : ByteArray) (size : Nat) (rv : Value) : Prop where
  blk : w.heap[p]? = some (.cells (rv :: .string head :: .int .i64 (size : Int) :: rest).toArray T (0, 0))
  own : w.ownsRow base 9 1 rv rs.length (rs.map Value.string)
  ne : T ≠ 9
  hp : base ≤ p
  hs : base ≤ w.heap.size
def TapeAt (w : World) (base p : Nat) (T : TypeId) (rest : List Value) (rs : List ByteArray) (head : ByteArray) (size : Nat) : Prop := ∃ rv, TAt w base p T rest rs head size rv
def isS : Obj → Prop
  | .cells _ t _ => t = 9
  | _ => False
structure Oft (base p : Nat) (w W : World) : Prop where
  os : W.os = w.os
  tape : W.tape = w.tape
  output : W.output = w.output
  size : w.heap.size ≤ W.heap.size
  block : ∀ k o, w.heap[k]? = some o → (k < base ∨ (k ≠ p ∧ ¬ isS o)) → W.heap[k]? = some o
theorem Oft.refl (base p : Nat) (w : World) : Oft base p w w := ⟨rfl, rfl, rfl, Nat.le_refl _, fun _ _ h _ => h⟩
theorem Oft.trans {base p : Nat} {a b c : World} (h : Oft base p a b) (k : Oft base p b c) : Oft base p a c :=
  ⟨k.os.trans h.os, k.tape.trans h.tape, k.output.trans h.output, Nat.le_trans h.size k.size, fun i o hi hc => k.block i o (h.block i o hi hc) hc⟩
theorem Oft.of_below {base p : Nat} {w W : World} (h : Below w.heap.size w W) : Oft base p w W :=
  ⟨h.os, h.tape, h.output, h.size, fun k o hk _ => (h.block k (Array.getElem?_eq_some_iff.1 hk).1).trans hk⟩
theorem Oft.then {base p : Nat} {a w W : World} (h : Oft base p a w) (k : Below w.heap.size w W) : Oft base p a W := h.trans (Oft.of_below k)
theorem Oft.below {base p : Nat} {w W : World} (h : Oft base p w W) (hB : base ≤ w.heap.size) : Below base w W := by
  refine ⟨h.os, h.tape, h.output, h.size, fun k hk => ?_⟩
  obtain ⟨o, ho⟩ : ∃ o, w.heap[k]? = some o := ⟨_, Array.getElem?_eq_getElem (by omega)⟩
  rw [ho]
  exact h.block k o ho (Or.inl hk)
theorem But.oft {base p : Nat} {w W : World} (h : But p w W) (hp : base ≤ p) : Oft base p w W := by
  refine ⟨h.os, h.tape, h.output, h.size, fun k o hk hc => ?_⟩
  rw [h.block k (Array.getElem?_eq_some_iff.1 hk).1 (by rcases hc with hc | hc <;> omega)]
  exact hk
theorem Oft.grown {base p : Nat} {w W : World} {v : Value} {n : Nat} {xs : List Value} (h : w.grownBy W v.ownBlock) (hown : w.ownsRow base 9 1 v n xs) : Oft base p w W := by
  refine ⟨h.os, h.tape, h.output, h.size, fun k o hk hc => ?_⟩
  rw [h.block k (Array.getElem?_eq_some_iff.1 hk).1 ?_]
  · exact hk
  · intro e
    obtain ⟨cs, hc2⟩ := own_block hown e.symm
    have hb := (hown.lt k e.symm).1
    rcases hc with hc | ⟨_, hc⟩
    · omega
    · rw [hk] at hc2
      obtain rfl := Option.some.inj hc2
      exact hc rfl
theorem TAt.lt {w : World} {base p : Nat} {T : TypeId} {rest : List Value} {rs : List ByteArray} {head : ByteArray} {size : Nat} {rv : Value} (h : TAt w base p T rest rs head size rv) : p < w.heap.size := (Array.getElem?_eq_some_iff.1 h.blk).1
theorem TAt.keep {w W : World} {base p : Nat} {T : TypeId} {rest : List Value} {rs : List ByteArray} {head : ByteArray} {size : Nat} {rv : Value} (h : TAt w base p T rest rs head size rv) (k : Below w.heap.size w W) : TAt W base p T rest rs head size rv :=
  ⟨(k.block _ h.lt).trans h.blk, own_keep h.own fun g hg => k.block g (h.own.lt g hg).2, h.ne, h.hp, Nat.le_trans h.hs k.size⟩
theorem TAt.put {w W : World} {base p : Nat} {T : TypeId} {rest : List Value} {rs : List ByteArray} {head head' : ByteArray} {size size' : Nat} {rv : Value} (h : TAt w base p T rest rs head size rv) (hb : But p w W)
    (hW : W.heap[p]? = some (.cells (rv :: .string head' :: .int .i64 (size' : Int) :: rest).toArray T (0, 0))) : TAt W base p T rest rs head' size' rv :=
  ⟨hW, own_keep h.own fun g hg => by
    obtain ⟨cs, hc⟩ := own_block h.own hg
    exact hb.block _ (h.own.lt g hg).2 (cells_ne hc h.blk (Ne.symm h.ne)), h.ne, h.hp, Nat.le_trans h.hs hb.size⟩
theorem TAt.cell0 {w : World} {base p : Nat} {T : TypeId} {rest : List Value} {rs : List ByteArray} {head : ByteArray} {size : Nat} {rv : Value} (h : TAt w base p T rest rs head size rv) : w.cell? ⟨p, 0, none⟩ = some rv := by simp [World.cell?, h.blk]
theorem TAt.cell1 {w : World} {base p : Nat} {T : TypeId} {rest : List Value} {rs : List ByteArray} {head : ByteArray} {size : Nat} {rv : Value} (h : TAt w base p T rest rs head size rv) : w.cell? ⟨p, 1, none⟩ = some (.string head) := by simp [World.cell?, h.blk]
theorem TAt.cell2 {w : World} {base p : Nat} {T : TypeId} {rest : List Value} {rs : List ByteArray} {head : ByteArray} {size : Nat} {rv : Value} (h : TAt w base p T rest rs head size rv) : w.cell? ⟨p, 2, none⟩ = some (.int .i64 (size : Int)) := by simp [World.cell?, h.blk]
theorem TAt.setHead {w : World} {base p : Nat} {T : TypeId} {rest : List Value} {rs : List ByteArray} {head : ByteArray} {size : Nat} {rv : Value} (h : TAt w base p T rest rs head size rv) (head' : ByteArray) :
    TAt (w.setCell ⟨p, 1, none⟩ (.string head')) base p T rest rs head' size rv := by
  refine h.put (But.setCell p 1 w _) ?_
  have := set_blk h.blk (j := 1) (.string head')
  simpa using this
theorem TAt.setSize {w : World} {base p : Nat} {T : TypeId} {rest : List Value} {rs : List ByteArray} {head : ByteArray} {size : Nat} {rv : Value} (h : TAt w base p T rest rs head size rv) (size' : Nat) :
    TAt (w.setCell ⟨p, 2, none⟩ (.int .i64 (size' : Int))) base p T rest rs head size' rv := by
  refine h.put (But.setCell p 2 w _) ?_
  have := set_blk h.blk (j := 2) (.int .i64 (size' : Int))
  simpa using this
theorem grown_keepS {base : Nat} {w W : World} {v : Value} {n : Nat} {xs : List Value} (h : w.grownBy W v.ownBlock) (hown : w.ownsRow base 9 1 v n xs) {k : Nat} {cs : Array Value} {t : TypeId} {f : Nat × Nat} (hk : w.heap[k]? = some (.cells cs t f)) (ht : t ≠ 9) :
    W.heap[k]? = some (.cells cs t f) := by
  rw [h.block k (Array.getElem?_eq_some_iff.1 hk).1 ?_]
  · exact hk
  · intro e
    obtain ⟨cs2, hc2⟩ := own_block hown e.symm
    exact cells_ne hk hc2 ht rfl
theorem TAt.setRecs {w W : World} {base p : Nat} {T : TypeId} {rest : List Value} {rs : List ByteArray} {head r : ByteArray} {size : Nat} {rv rv' : Value} (h : TAt w base p T rest rs head size rv) (hgr : w.grownBy W rv.ownBlock)
    (hown : W.ownsRow base 9 1 rv' (rs.length + 1) (rs.map Value.string ++ [.string r])) :
    TAt (W.setCell ⟨p, 0, none⟩ rv') base p T rest (rs ++ [r]) head size rv' ∧ Oft base p w (W.setCell ⟨p, 0, none⟩ rv') := by
  have hb := grown_keepS hgr h.own h.blk h.ne
  have hc := But.setCell p 0 W rv'
  refine ⟨⟨?_, ?_, h.ne, h.hp, Nat.le_trans h.hs (Nat.le_trans hgr.size hc.size)⟩, (Oft.grown hgr h.own).trans (hc.oft h.hp)⟩
  · have := set_blk hb (j := 0) rv'
    simpa using this
  · have hl : (rs ++ [r]).length = rs.length + 1 := by simp
    rw [hl, List.map_append]
    exact own_keep hown fun g hg => by
      obtain ⟨cs, hcs⟩ := own_block hown hg
      exact hc.block _ (hown.lt g hg).2 (cells_ne hcs hb (Ne.symm h.ne))
theorem infoS : (Tryz.prog.info? 9).map (fun i => (i.zero, i.size, i.bytes)) = some (some (.string ⟨#[]⟩), 1, 16) := by kernel_rfl
theorem nl_bl (s : ByteArray) : nl s = bl s := rfl
theorem recB_ofB (head r s : ByteArray) (hs : bl s = Code.enc r.size ++ bl r) : (⟨#[1]⟩ : ByteArray) ++ s ++ chF head r = ofB (recB chF head r) := by
  apply bl_inj
  rw [bl_append, bl_append, hs, bl_ofB]
  · rfl
  · intro b hb
    rcases List.mem_cons.1 hb with rfl | hb
    · decide
    · rcases List.mem_append.1 hb with hb | hb
      · rcases List.mem_append.1 hb with hb | hb
        · exact enc_all _ b hb
        · exact bl_lt _ b hb
      · exact bl_lt _ b hb
set_option maxRecDepth 100000 in
set_option maxHeartbeats 4000000 in
theorem tape_add_calls {w : World} {base p : Nat} {T : TypeId} {rest : List Value} {rs : List ByteArray} {head : ByteArray} {size : Nat} (h : TapeAt w base p T rest rs head size) (r : ByteArray)
    (hr : r.size ≤ 65536) (hh : head.size = 32) (hrs : rs.length + 1 ≤ 1099511627776) (hsz : size ≤ 1099511627776) (hA : Sha.Amb w) :
    Calls Tryz.prog 38 #[.pointer (some ⟨p, 0, none⟩), .string r] w fun e w' =>
      e = .returned (.string (ofB (recB chF head r))) ∧ TapeAt w' base p T rest (rs ++ [r]) (chF head r) (size + (recB chF head r).length) ∧ Oft base p w w' := by
  obtain ⟨rv, h⟩ := h
  obtain ⟨s, hp1, hp2⟩ := putString_in hr
  rw [nl_bl, nl_bl] at hp2
  have hlen : (recB chF head r).length = 1 + s.size + 32 := by
    rw [recB_length chF chF_size, show encS r = bl s from hp2.symm, bl_length]; omega
  have hsl : s.size ≤ 65600 := by
    have := congrArg List.length hp2
    rw [bl_length, List.length_append, bl_length] at this
    have := Code.enc_len (n := (r.size : Int)) (by unfold Code.maxInt; omega) (by unfold Code.maxInt; omega)
    omega
  have hout := recB_ofB head r s hp2
  have c1 := h.cell1
  have hch := chF_size head r
  have s1 : (⟨#[1]⟩ : ByteArray).size = 1 := rfl
  have hC : ∀ W, Sha.Amb W → Calls Tryz.prog 70 #[.string head, .string r] W fun e w' => e = .returned (.string (chF head r)) ∧ Below W.heap.size W w' := fun W hW => Sha.chain_calls head r W hW (by omega)
  have hos : (ofB (recB chF head r)).size = 1 + s.size + 32 := by
    rw [← hout, ByteArray.size_append, ByteArray.size_append, hch, s1]
  rw [hlen]
  clear hlen
  generalize ofB (recB chF head r) = out at hout hos ⊢
  generalize chF head r = hd at hC hout hch ⊢
  go_enter Tryz.func38, Tryz.ntmps38
  go_upto_region 2 with (go_at_call 70; refine (hC _ hA).mono ?_; rintro e w1 ⟨rfl, hb1⟩
                         have h1 := h.keep hb1
                         have c1 := h1.cell1
                         have f1 : w1.frozen? ⟨p, 1, none⟩ = false := frozen_of h1.blk 1)
  refine wp_world (fun W => TAt W base p T rest rs hd size rv ∧ Oft base p w W) ⟨h1.setHead _, (Oft.of_below hb1).trans ((But.setCell p 1 w1 _).oft h.hp)⟩ ?_
  clear c1 f1 h1 hb1
  rintro W2 ⟨H2, O2⟩
  obtain ⟨i0, hi0, hz0, hz1, hz2⟩ := info_parts infoS
  have c0 := H2.cell0
  have H3 := H2.keep (below_alloc (Below.refl W2.heap.size W2) (.cells #[.string r] 9))
  have O3 : Oft base p w (W2.alloc (.cells #[.string r] 9)) := O2.then (below_alloc (Below.refl W2.heap.size W2) _)
  have N3 := World.news_of_block (cs := #[.string r]) (t := 9) (fr := (0, 0)) (heap_alloc_new W2 (.cells #[.string r] 9))
  have hB3 := H3.hs
  have b1 : rs.length + 1 ≤ maxLen := by unfold maxLen; omega
  have b2 : (rs.length + 1) * 16 ≤ 140737488355328 := by omega
  refine wp_region_list ?_
  repeat (fail_if_success (refine wpList_append_own _ rfl (.tmp 21) (.tmp 23) 22 rfl base 9 i0 _ 1 16 Tryz.underlying22 hi0 hz0 hz1 hz2 rfl (by decide) rv _ _ rfl H3.own ⟨W2.heap.size, 0, none⟩ 1 1 [.string r] rfl rfl N3 (by intro u hu; simp at hu; rcases hu with rfl; rfl) b1 b2 hB3 ?_)); go_step
  refine wpList_append_own _ rfl (.tmp 21) (.tmp 23) 22 rfl base 9 i0 _ 1 16 Tryz.underlying22 hi0 hz0 hz1 hz2 rfl (by decide) rv _ _ rfl H3.own ⟨W2.heap.size, 0, none⟩ 1 1 [.string r] rfl rfl N3 (by intro u hu; simp at hu; rcases hu with rfl; rfl) b1 b2 hB3 ?_
  intro v' W3 hown hgr hnil
  obtain ⟨ao, c, rfl⟩ := own_form hown
  have P4 := H3.setRecs hgr hown
  have hb := grown_keepS hgr H3.own H3.blk H3.ne
  have f0 : W3.frozen? ⟨p, 0, none⟩ = false := frozen_of hb 0
  have c0' : W3.cell? ⟨p, 0, none⟩ = some rv := by simp [World.cell?, hb]
  clear hb c0 hnil
  go_upto_region 4 with (go_at_call 71; refine (wire_PutString.calls r s 0 _ hp1).mono ?_; rintro e w5 ⟨rfl, hb5⟩)
  refine wp_world (fun W => TapeAt W base p T rest (rs ++ [r]) hd size ∧ Oft base p w W) ⟨⟨_, P4.1.keep hb5⟩, (O3.trans P4.2).then hb5⟩ ?_
  clear f0 c0' hb5 P4 hgr hown N3 O3 H3 O2 H2
  rintro W5 ⟨⟨rv2, H5⟩, O5⟩
  have c1 := H5.cell1
  have H6 := H5.keep (below_alloc (Below.refl W5.heap.size W5) (.cells #[.int .u8 1] 5)).drew
  have O6 := O5.then (below_alloc (Below.refl W5.heap.size W5) (.cells #[.int .u8 1] 5)).drew
  have c1a : (W5.alloc (.cells #[.int .u8 1] 5)).cell? ⟨p, 1, none⟩ = some (.string hd) := H6.cell1
  have hcv := run_convert_bytes_arg (P := Tryz.prog) (W5.alloc (.cells #[.int .u8 1] 5)).drew 39 5 Tryz.underlying39 Tryz.underlying5 W5.heap.size 0 1 1 [1] rfl (fun i hi => by
    have : i = 0 := by simp at hi; omega
    subst this
    have := heap_alloc_new W5 (.cells #[.int .u8 1] 5)
    show World.cell? (W5.alloc (.cells #[.int .u8 1] 5)) ⟨W5.heap.size, 0, none⟩ = some (.int .u8 1)
    simp only [World.cell?, this]
    rfl) 9 Tryz.underlying9
  rw [show strOfNums [1] = (⟨#[1]⟩ : ByteArray) from rfl] at hcv
  have l1 : (9223372036854775807 < 1 + s.size) = False := eq_false (by omega)
  have l2 : (9223372036854775807 < 1 + s.size + 32) = False := eq_false (by omega)
  go_region
  go_upto_region 5 with (fail)
  refine wp_world (fun W => TAt W base p T rest (rs ++ [r]) hd size rv2 ∧ Oft base p w W) ⟨H6, O6⟩ ?_
  clear H6 O6 H5 O5 c1 c1a hcv
  rintro W7 ⟨H7, O7⟩
  have c2 := H7.cell2
  have f2 : W7.frozen? ⟨p, 2, none⟩ = false := frozen_of H7.blk 2
  have P8 := H7.setSize (size + (1 + s.size + 32))
  have B8 := (But.setCell p 2 W7 (.int .i64 ((size + (1 + s.size + 32) : Nat) : Int))).oft H7.hp
  have hw : IntKind.i64.wrap ((size : Int) + (out.size : Int)) = ((size + (1 + s.size + 32) : Nat) : Int) := by rw [IntKind.wrap_i64, hos]; omega
  clear hos hout
  go_wp2_with (fail)
  go_ret
  exact ⟨rfl, ⟨_, P8⟩, O7.trans B8⟩
open Go Go.RowKit Go.Proofs.YtniegajdmbepbaaGreatDoorW.PrintWords Go.Proofs.YtniegajdmbepbaaGreatDoorW.PrintMore Go.Proofs.YtniegajdmbepbaaGreatDoor.Pr Go.Proofs.YtniegajdmbepbaaGreatDoor.WPure
def AmbE (a : Addr) (w : World) : Prop := ∃ t fr, w.heap[0]? = some (.cells #[.iface 222 (.pointer (some a))] t fr)
theorem AmbE.keep {a : Addr} {w W : World} (h : AmbE a w) (k : W.heap[0]? = w.heap[0]?) : AmbE a W := let ⟨t, fr, h⟩ := h; ⟨t, fr, k.trans h⟩
theorem AmbE.cell {a : Addr} {w : World} (h : AmbE a w) : w.cell? ⟨0, 0, none⟩ = some (.iface 222 (.pointer (some a))) := by
 obtain ⟨t, fr, h⟩ := h
 simp [World.cell?, h]
def dmg (a : Addr) : PanicEntry := { v := .iface 222 (.pointer (some a)), recovered := false }
theorem check_true (w : World) : Calls Tryz.prog 100 #[.bool true] w fun e w' => e = .returned (.tuple #[]) ∧ w' = w := by
 go_enter Tryz.func100, Tryz.ntmps100
 go_wp2
 go_end0
 exact ⟨rfl, rfl⟩
theorem check_false (a : Addr) (w : World) (h : AmbE a w) : Calls Tryz.prog 100 #[.bool false] w fun e w' => e = .panicked [dmg a] ∧ w' = w := by
 have c0 := h.cell
 go_enter Tryz.func100, Tryz.ntmps100
 go_wp2
 exact ⟨rfl, rfl, rfl⟩
theorem idx_str (s : ByteArray) (n b : Nat) (h : (bl s)[n]? = some b) (w : World) : (Instr.index 9 (.string s) (.int .i64 (n : Int))).run Tryz.prog w = .ok (.int .u8 (b : Int)) w := by
 obtain ⟨hn, hb⟩ := List.getElem?_eq_some_iff.1 h
 have hn' : n < s.size := by rw [← bl_length]; exact hn
 have hb' : s[n].toNat = b := by
  have h2 := h
  simp only [bl, List.getElem?_map, Array.getElem?_toList] at h2
  rw [Array.getElem?_eq_getElem (show n < s.data.size from hn')] at h2
  exact Option.some.inj h2
 simp [Instr.index, run_underlying Tryz.underlying9, asIntOf, go_sem, hn', hb']
theorem parse_end (f : Nat) (h : ByteArray) (l : List Nat) (hf : 0 < f) (hl : l = [] ∨ l.head? = some 0) : parse chF f h l = some ([], 0) := by
 obtain ⟨g, rfl⟩ : ∃ g, f = g + 1 := ⟨f - 1, by omega⟩
 cases l with
 | nil => rfl
 | cons b r =>
  rcases hl with hl | hl
  ·cases hl
  ·have : b = 0 := by simpa using hl
   subst this
   rfl
theorem parse_bad (f : Nat) (h : ByteArray) (b : Nat) (r : List Nat) (h0 : b ≠ 0) (h1 : b ≠ 1) : parse chF (f + 1) h (b :: r) = none := by
 unfold parse
 simp [h0, h1]
theorem parse_dec (f : Nat) (h : ByteArray) (r : List Nat) (hd : decS r = none) : parse chF (f + 1) h (1 :: r) = none := by
 unfold parse
 simp [hd]
theorem parse_short (f : Nat) (h : ByteArray) (r : List Nat) (x : ByteArray) (c : Nat) (hd : decS r = some (x, c)) (hl : r.length < c + 32) : parse chF (f + 1) h (1 :: r) = none := by
 unfold parse
 simp [hd, hl]
theorem parse_other (f : Nat) (h : ByteArray) (r : List Nat) (x : ByteArray) (c : Nat) (hd : decS r = some (x, c)) (hl : ¬ r.length < c + 32) (hne : recB chF h x ≠ (1 :: r).take (c + 33)) : parse chF (f + 1) h (1 :: r) = none := by
 unfold parse
 dsimp only
 rw [if_neg (by decide), if_neg (by decide), hd]
 dsimp only
 rw [if_neg hl, if_neg hne]
theorem parse_next (f : Nat) (h : ByteArray) (r : List Nat) (x : ByteArray) (c : Nat) (hd : decS r = some (x, c)) (hl : ¬ r.length < c + 32) (hne : recB chF h x = (1 :: r).take (c + 33)) :
  parse chF (f + 1) h (1 :: r) = (parse chF f (chF h x) ((1 :: r).drop (c + 33))).map fun p => (x :: p.1, c + 33 + p.2) := by
 conv => lhs; unfold parse
 dsimp only
 rw [if_neg (by decide), if_neg (by decide), hd]
 dsimp only
 rw [if_neg hl, if_pos hne]
theorem bl_extract (s : ByteArray) (i j : Nat) : bl (s.extract i j) = ((bl s).take j).drop i := nl_extract s i j
theorem dec_rel (s : ByteArray) (a : Nat) (ha : a ≤ s.size) :
  (decS ((bl s).drop a) = none ∧ resS s a (Code.dec ((nl s).drop a)) = (⟨#[]⟩, 0, 10)) ∨
  ∃ x c, decS ((bl s).drop a) = some (x, c) ∧ resS s a (Code.dec ((nl s).drop a)) = (x, ((a + c : Nat) : Int), 0) ∧ a + c ≤ s.size ∧ x.size ≤ 65536 := by
 rw [nl_bl]
 unfold decS
 have hl : ((bl s).drop a).length = s.size - a := by rw [List.length_drop, bl_length]
 cases hd : Code.dec ((bl s).drop a) with
 | none => exact .inl ⟨rfl, rfl⟩
 | some q =>
  obtain ⟨n, c⟩ := q
  have hc : c ≤ ((bl s).drop a).length := by
   have hb : ∀ b ∈ (bl s).drop a, b < 256 := fun b hb => bl_lt s b (List.mem_of_mem_drop hb)
   exact (Code.dec_some hb hd).2.1
  rw [hl] at hc
  by_cases hn : 0 ≤ n ∧ n ≤ 65536 ∧ n ≤ (((bl s).drop a).length : Int) - (c : Int)
  ·refine .inr ⟨_, _, if_pos hn, ?_, ?_, ?_⟩
   ·rw [hl] at hn
    show (if 0 ≤ n ∧ n ≤ 65536 ∧ n ≤ (s.size : Int) - (a + c : Nat) then _ else _) = _
    rw [if_pos (by omega)]
    have : s.extract (a + c) (a + c + n.toNat) = ofB (List.take n.toNat (List.drop c (List.drop a (bl s)))) := by
     apply bl_inj
     rw [bl_extract, bl_ofB (fun b hb => bl_lt s b (List.mem_of_mem_drop (List.mem_of_mem_drop (List.mem_of_mem_take hb)))), List.drop_drop, List.drop_take]
     congr 1
     omega
    rw [this, Nat.add_assoc]
   ·rw [hl] at hn
    omega
   ·rw [hl] at hn
    rw [size_ofB (fun b hb => bl_lt s b (List.mem_of_mem_drop (List.mem_of_mem_drop (List.mem_of_mem_take hb)))), List.length_take]
    omega
  ·refine .inl ⟨if_neg hn, ?_⟩
   rw [hl] at hn
   show (if 0 ≤ n ∧ n ≤ 65536 ∧ n ≤ (s.size : Int) - (a + c : Nat) then _ else _) = _
   rw [if_neg (by omega)]
def loadPost (a : Addr) (base p : Nat) (T : TypeId) (rest : List Value) (head0 : ByteArray) (w : World) (P : Option (List ByteArray × Nat)) (e : Ending) (w' : World) : Prop :=
 Oft base p w w' ∧ match P with
  | some (rs, n) => e = .returned (.tuple #[]) ∧ TapeAt w' base p T rest rs (headOf chF head0 rs) n
  | none => e = .panicked [dmg a]
structure LoadI (base p : Nat) (T : TypeId) (rest : List Value) (head0 : ByteArray) (s : ByteArray) (w : World) (P : Option (List ByteArray × Nat)) (k : Nat) (wr : World) (rs : List ByteArray) (n : Nat) : Prop where
 hk : k = s.size - n
 hn : n ≤ s.size
 len : rs.length ≤ n
 tape : TapeAt wr base p T rest rs (headOf chF head0 rs) n
 off : Oft base p w wr
 par : P = (parse chF (k + 1) (headOf chF head0 rs) ((bl s).drop n)).map fun q => (rs ++ q.1, n + q.2)
theorem headOf_size (h : ByteArray) (hh : h.size = 32) : ∀ rs : List ByteArray, (headOf chF h rs).size = 32
 | [] => by
  unfold headOf
  rw [List.foldl_nil]
  exact hh
 | r :: rs => by
  have := headOf_size (chF h r) (chF_size _ _) rs
  unfold headOf at this ⊢
  rw [List.foldl_cons]
  exact this
theorem parse_fuel : ∀ (f g : Nat) (h : ByteArray) (l : List Nat), l.length < f → l.length < g → parse chF f h l = parse chF g h l := by
 intro f
 induction f with
 | zero => intro g h l hf; omega
 | succ f ih =>
  intro g h l hf hg
  obtain ⟨g, rfl⟩ : ∃ g', g = g' + 1 := ⟨g - 1, by omega⟩
  cases l with
  | nil => rfl
  | cons b r =>
   unfold parse
   dsimp only
   by_cases h0 : b = 0
   ·rw [if_pos h0, if_pos h0]
   ·rw [if_neg h0, if_neg h0]
    by_cases h1 : b ≠ 1
    ·rw [if_pos h1, if_pos h1]
    ·rw [if_neg h1, if_neg h1]
     cases decS r with
     | none => rfl
     | some q =>
      dsimp only
      by_cases hl : r.length < q.2 + 32
      ·rw [if_pos hl, if_pos hl]
      ·rw [if_neg hl, if_neg hl]
       by_cases he : recB chF h q.1 = (b :: r).take (q.2 + 33)
       ·rw [if_pos he, if_pos he, ih g (chF h q.1) _ (by simp only [List.length_drop, List.length_cons] at *; omega) (by simp only [List.length_drop, List.length_cons] at *; omega)]
       ·rw [if_neg he, if_neg he]
open Go Go.RowKit Go.Proofs.YtniegajdmbepbaaGreatDoorW.PrintWords Go.Proofs.YtniegajdmbepbaaGreatDoorW.PrintMore Go.Proofs.YtniegajdmbepbaaGreatDoor.Pr Go.Proofs.YtniegajdmbepbaaGreatDoor.WPure
set_option maxRecDepth 100000 in
set_option maxHeartbeats 4000000 in
theorem load_calls {w : World} {base p : Nat} {T : TypeId} {rest : List Value} {head0 : ByteArray} (h : TapeAt w base p T rest [] head0 0) (s : ByteArray) (a : Addr)
    (hs : s.size ≤ 4194304) (hh : head0.size = 32) (hA : Sha.Amb w) (hE : AmbE a w) (hg1 : 3 < base) (hg2 : 0 < base) (P : Option (List ByteArray × Nat)) (hP : P = parse chF (s.size + 1) head0 (bl s)) :
    Calls Tryz.prog 78 #[.pointer (some ⟨p, 0, none⟩), .string s] w fun e w' => loadPost a base p T rest head0 w P e w' := by
  have hbw : base ≤ w.heap.size := let ⟨_, h⟩ := h; h.hs
  have I0 : LoadI base p T rest head0 s w P s.size w [] 0 := ⟨rfl, Nat.zero_le _, Nat.le_refl _, h, Oft.refl _ _ _, by rw [hP]; show _ = (parse chF (s.size + 1) head0 ((bl s).drop 0)).map _; rw [List.drop_zero]; cases parse chF (s.size + 1) head0 (bl s) with | none => rfl | some q => simp⟩
  go_enter Tryz.func78, Tryz.ntmps78
  go_wp2_with fail
  go_loopg [4] (s.size) (fun k v wr => ∃ rs n, LoadI base p T rest head0 s w P k wr rs n)
  case atStart => exact ⟨[], 0, I0⟩
  case round =>
    obtain ⟨rs, n, I⟩ := hrel
    obtain ⟨rv, H⟩ := I.tape
    have c2 := H.cell2
    by_cases hn : n < s.size
    · obtain ⟨b, r, hbr⟩ : ∃ b r, (bl s).drop n = b :: r := by
        cases hd : (bl s).drop n with
        | nil => have := List.drop_eq_nil_iff.1 hd; rw [bl_length] at this; omega
        | cons b r => exact ⟨b, r, rfl⟩
      have hb : (bl s)[n]? = some b := by
        have := congrArg List.head? hbr
        rw [List.head?_drop] at this
        simpa using this
      have hix := idx_str s n b hb
      have x1 : ((n : Int) < (s.size : Int)) = True := eq_true (by omega)
      have x2 : decide ((n : Int) < (s.size : Int)) = true := decide_eq_true (by omega)
      by_cases h0 : b = 0
      · have y1 : ((b : Int) == 0) = true := by rw [h0]; rfl
        have y2 : ((b : Int) != 0) = false := by rw [h0]; rfl
        have y3 : (b : Int) = 0 := by rw [h0]; rfl
        have fin : loadPost a base p T rest head0 w P (.returned (.tuple #[])) wr := by
          refine ⟨I.off, ?_⟩
          rw [I.par, parse_end _ _ _ (by omega) (.inr (by rw [hbr, h0]; rfl))]
          exact ⟨rfl, by show TapeAt wr base p T rest (rs ++ []) (headOf chF head0 (rs ++ [])) (n + 0); rw [List.append_nil]; exact ⟨rv, H⟩⟩
        clear I
        go_wp2_with fail
        all_goals go_end0
        all_goals exact fin
      · have y1 : ((b : Int) == 0) = false := beq_eq_false_iff_ne.mpr (by omega)
        have y2 : ((b : Int) != 0) = true := bne_iff_ne.mpr (by omega)
        have y3 : ((b : Int) = 0) = False := eq_false (by omega)
        have hEr : AmbE a wr := hE.keep ((I.off.below hbw).block _ hg2)
        have hAr : Sha.Amb wr := let ⟨t, fr, h⟩ := hA; ⟨t, fr, ((I.off.below hbw).block _ hg1).trans h⟩
        have hk : gk = s.size - n := I.hk
        obtain ⟨f, hf⟩ : ∃ f, gk = f + 1 := ⟨gk - 1, by omega⟩
        by_cases h1 : b = 1
        · subst h1
          have hrl : r.length + 1 = s.size - n := by
            have := congrArg List.length hbr
            rw [List.length_drop, bl_length] at this
            simpa using this.symm
          have hdr : (bl s).drop (n + 1) = r := by
            rw [← List.drop_drop, hbr]
            rfl
          obtain ⟨q, hq⟩ : ∃ q, n + 1 = q := ⟨_, rfl⟩
          have k0 : IntKind.i64.wrap ((n : Int) + 1) = (q : Int) := by rw [IntKind.wrap_i64]; omega
          rcases dec_rel s (n + 1) (by omega) with ⟨hd, hr⟩ | ⟨x, c, hd, hr, hc, hx⟩
          · rw [hdr] at hd
            have hS := string_eq s (n + 1) 11 (by omega) (by omega) (by decide)
            rw [hr, hq] at hS
            have fin : ∀ w', Below wr.heap.size wr w' → loadPost a base p T rest head0 w P (.panicked [dmg a]) w' := by
              intro w' hw'
              refine ⟨I.off.then hw', ?_⟩
              rw [I.par, hbr, parse_dec _ _ _ hd]
              rfl
            clear I
            go_upto_region 3 with (go_at_call 100; refine (check_true _).mono ?_; rintro e w' ⟨rfl, rfl⟩)
            go_wp2_with (first
              | (go_at_call 101; refine (wire_String.calls 11 s (q : Int) _ _ _ _ hS).mono ?_; rintro e w2 ⟨rfl, hd2⟩
                 have hE2 : AmbE a w2 := hEr.keep (hd2.below.block _ (Array.getElem?_eq_some_iff.1 hEr.choose_spec.choose_spec).1))
              | (go_at_call 100; refine (check_false a _ hE2).mono ?_; rintro e w3 ⟨rfl, rfl⟩))
            all_goals exact ⟨rfl, fin _ hd2.below⟩
          · rw [hdr] at hd
            have hS := string_eq s (n + 1) 11 (by omega) (by omega) (by decide)
            obtain ⟨m, hm⟩ : ∃ m, q + c = m := ⟨_, rfl⟩
            rw [hr, hq, hm] at hS
            have k1 : IntKind.i64.wrap ((m : Int) + 32) = ((m + 32 : Nat) : Int) := by rw [IntKind.wrap_i64]; omega
            by_cases hl : r.length < c + 32
            · have fin : ∀ w', Below wr.heap.size wr w' → loadPost a base p T rest head0 w P (.panicked [dmg a]) w' := by
                intro w' hw'
                refine ⟨I.off.then hw', ?_⟩
                rw [I.par, hbr, parse_short _ _ _ _ _ hd hl]
                rfl
              have v1 : (((m + 32 : Nat) : Int) ≤ (s.size : Int)) = False := eq_false (by omega)
              have v2 : decide (((m + 32 : Nat) : Int) ≤ (s.size : Int)) = false := decide_eq_false (by omega)
              clear I
              obtain ⟨m2, hm2⟩ : ∃ m2, m + 32 = m2 := ⟨_, rfl⟩
              rw [hm2] at k1 v1 v2
              clear hm2
              go_upto_region 3 with (go_at_call 100; refine (check_true _).mono ?_; rintro e w' ⟨rfl, rfl⟩)
              go_wp2_with (first
                | (go_at_call 101; refine (wire_String.calls 11 s (q : Int) _ _ _ _ hS).mono ?_; rintro e w2 ⟨rfl, hd2⟩
                   have hE2 : AmbE a w2 := hEr.keep (hd2.below.block _ (Array.getElem?_eq_some_iff.1 hEr.choose_spec.choose_spec).1))
                | (go_at_call 100; refine (check_false a _ hE2).mono ?_; rintro e w3 ⟨rfl, rfl⟩))
              all_goals exact ⟨rfl, fin _ hd2.below⟩
            · have v1 : (((m + 32 : Nat) : Int) ≤ (s.size : Int)) = True := eq_true (by omega)
              have v2 : decide (((m + 32 : Nat) : Int) ≤ (s.size : Int)) = true := decide_eq_true (by omega)
              obtain ⟨m2, hm2⟩ : ∃ m2, m + 32 = m2 := ⟨_, rfl⟩
              rw [hm2] at k1 v1 v2
              have hm2s : m2 ≤ s.size := by omega
              have u1 : ((n : Int) ≤ (m2 : Int)) = True := eq_true (by omega)
              have u2 : n ≤ m2 := by omega
              have hhd := headOf_size head0 hh rs
              have hex : bl (s.extract n m2) = (1 :: r).take (c + 33) := by
                rw [bl_extract, List.drop_take, hbr]
                congr 1
                omega
              have hrb : recB chF (headOf chF head0 rs) x = (1 :: r).take (c + 33) ∨ recB chF (headOf chF head0 rs) x ≠ (1 :: r).take (c + 33) := Classical.em _
              have hlt : ∀ b ∈ recB chF (headOf chF head0 rs) x, b < 256 := by
                intro b hb
                exact stored_lt chF [x] (headOf chF head0 rs) b (by show b ∈ recB chF (headOf chF head0 rs) x ++ []; rw [List.append_nil]; exact hb)
              go_upto_region 5 with (first
                | (go_at_call 101; refine (wire_String.calls 11 s (q : Int) _ _ _ _ hS).mono ?_; rintro e w2 ⟨rfl, hd2⟩)
                | (go_at_call 100; refine (check_true _).mono ?_; rintro e w3 ⟨rfl, rfl⟩))
              have H2 := H.keep hd2.below.drew
              have hA2 : Sha.Amb w3.drew := hAr.below_block hd2.below.drew
              have hadd := tape_add_calls ⟨_, H2⟩ x hx hhd (by have := I.len; omega) (by omega) hA2
              rcases hrb with he | he
              · have eq : ofB (recB chF (headOf chF head0 rs) x) = s.extract n m2 := by
                  apply bl_inj
                  rw [bl_ofB hlt, hex, he]
                have hle : (recB chF (headOf chF head0 rs) x).length = c + 33 := by
                  rw [he, List.length_take, List.length_cons]
                  omega
                have I2 : ∀ w', TapeAt w' base p T rest (rs ++ [x]) (chF (headOf chF head0 rs) x) (n + (recB chF (headOf chF head0 rs) x).length) → Oft base p w3.drew w' → LoadI base p T rest head0 s w P (s.size - m2) w' (rs ++ [x]) m2 := by
                  intro w' ht ho
                  rw [hle, show n + (c + 33) = m2 by omega] at ht
                  have hH : headOf chF head0 (rs ++ [x]) = chF (headOf chF head0 rs) x := by unfold headOf; rw [List.foldl_append]; rfl
                  refine ⟨rfl, hm2s, by have := I.len; simp; omega, by rw [hH]; exact ht, (I.off.then hd2.below.drew).trans ho, ?_⟩
                  rw [I.par, hbr, parse_next _ _ _ _ _ hd hl he, hH, show (1 :: r).drop (c + 33) = (bl s).drop m2 by rw [← hbr, List.drop_drop]; congr 1; omega,
                    parse_fuel gk (s.size - m2 + 1) _ _ (by rw [List.length_drop, bl_length]; omega) (by rw [List.length_drop, bl_length]; omega)]
                  cases parse chF (s.size - m2 + 1) (chF (headOf chF head0 rs) x) (List.drop m2 (bl s)) with
                  | none => rfl
                  | some q2 => simp; omega
                rw [eq] at hadd
                clear eq he hlt hex I H2 hle
                have bq : ((s.extract n m2).toList == (s.extract n m2).toList) = true := beq_self_eq_true _
                go_region_with (first
                  | (go_at_call 38; refine hadd.mono ?_; rintro e w6 ⟨rfl, h6, o6⟩)
                  | (go_at_call 100; refine (check_true _).mono ?_; rintro e w7 ⟨rfl, rfl⟩))
                all_goals
                  have I3 := I2 _ h6 o6
                  clear I2
                  go_wp2_with fail
                  go_roundg (s.size - m2)
                  case measure => omega
                  case rel => exact ⟨rs ++ [x], m2, I3⟩
              · have eq : ((ofB (recB chF (headOf chF head0 rs) x)).toList == (s.extract n m2).toList) = false := by
                  rw [beq_eq_false_iff_ne]
                  intro e
                  apply he
                  rw [← hex, ← nl_toList.1 e, bl_ofB hlt]
                have fin : ∀ w', Oft base p w3.drew w' → loadPost a base p T rest head0 w P (.panicked [dmg a]) w' := by
                  intro w' ho
                  refine ⟨(I.off.then hd2.below.drew).trans ho, ?_⟩
                  rw [I.par, hbr]
                  obtain ⟨g, hg⟩ : ∃ g, gk = g := ⟨_, rfl⟩
                  rw [parse_other _ _ _ _ _ hd hl he]
                  rfl
                have hE3 : AmbE a w3.drew := hEr.keep (hd2.below.drew.block _ (Array.getElem?_eq_some_iff.1 hEr.choose_spec.choose_spec).1)
                have hb3 : base ≤ w3.drew.heap.size := H2.hs
                generalize ofB (recB chF (headOf chF head0 rs) x) = out at hadd eq
                clear he hlt hex I H2
                refine wp_region_any (by kernel_rfl) ?_
                try (change wpAny _ _ _ _ _ _ _ (World.drew _))
                refine wpAny_take (i := 0) (v := ?_) rfl (by kernel_rfl) (by kernel_rfl) (by kernel_rfl) (fun _ _ _ h => h) (Or.inl ⟨by rfl, ?_⟩) ?_
                rotate_left
                · intro w
                  go_simp
                  try with_reducible rfl
                refine wpAny_take (i := 1) (v := ?_) rfl (by kernel_rfl) (by kernel_rfl) (by kernel_rfl) (fun _ _ _ h => h) (Or.inl ⟨by rfl, ?_⟩) ?_
                rotate_left
                · intro w
                  go_simp
                  try with_reducible rfl
                refine wpAny_take (i := 3) (v := ?_) rfl (by kernel_rfl) (by kernel_rfl) (by kernel_rfl) (fun _ _ _ h => h) (Or.inl ⟨by rfl, ?_⟩) ?_
                rotate_left
                · intro w
                  go_simp
                  try with_reducible rfl
                refine wpAny_take (i := 4) (v := ?_) rfl (by kernel_rfl) (by kernel_rfl) (by kernel_rfl) (fun _ _ _ h => h) (Or.inl ⟨by rfl, ?_⟩) ?_
                rotate_left
                · intro w
                  go_simp
                  try with_reducible rfl
                refine wpAny_take (i := 5) (v := ?_) rfl (by kernel_rfl) (by kernel_rfl) (by kernel_rfl) (fun _ _ _ h => h) (Or.inl ⟨by rfl, ?_⟩) ?_
                rotate_left
                · intro w
                  go_simp
                  try with_reducible rfl
                refine wpAny_take (i := 6) (v := ?_) rfl (by kernel_rfl) (by kernel_rfl) (by kernel_rfl) (fun _ _ _ h => h) (Or.inl ⟨by rfl, ?_⟩) ?_
                rotate_left
                · intro w
                  go_simp
                  try with_reducible rfl
                refine wpAny_take (i := 7) (v := ?_) rfl (by kernel_rfl) (by kernel_rfl) (by kernel_rfl) (fun _ _ _ h => h) (Or.inl ⟨by rfl, ?_⟩) ?_
                rotate_left
                · intro w
                  go_simp
                  try with_reducible rfl
                refine wpAny_ready (rs := [2]) (by kernel_rfl) (by simp) ?_
                refine AllReady.cons rfl (fun K hK => ?_) AllReady.nil
                go_simp
                go_wp2_with (go_at_call 38; refine hadd.mono ?_; rintro e w6 ⟨rfl, h6, o6⟩)
                have hE6 : AmbE a w6 := hE3.keep ((o6.below hb3).block _ hg2)
                first | skip | (refine hK _ _ ?_)
                refine wpAny_take (i := 8) (v := ?_) rfl (by kernel_rfl) (by kernel_rfl) (by kernel_rfl) (fun _ _ _ h => h) (Or.inl ⟨by rfl, ?_⟩) ?_
                rotate_left
                · intro w
                  go_simp
                  try with_reducible rfl
                refine wpAny_ready (rs := [9]) (by kernel_rfl) (by simp) ?_
                refine AllReady.cons rfl (fun K hK => ?_) AllReady.nil
                go_simp
                go_at_call 100
                refine (check_false a _ hE6).mono ?_
                rintro e w7 ⟨rfl, rfl⟩
                exact ⟨rfl, fin _ o6⟩
        · have z1 : ((b : Int) == 1) = false := beq_eq_false_iff_ne.mpr (by omega)
          have z2 : ((b : Int) = 1) = False := eq_false (by omega)
          have fin : loadPost a base p T rest head0 w P (.panicked [dmg a]) wr := by
            refine ⟨I.off, ?_⟩
            rw [I.par, hbr, parse_bad _ _ _ _ h0 h1]
            rfl
          clear I
          go_wp2_with (go_at_call 100; refine (check_false a _ hEr).mono ?_; rintro e w' ⟨rfl, rfl⟩)
          all_goals exact ⟨rfl, fin⟩
    · have x1 : ((n : Int) < (s.size : Int)) = False := eq_false (by omega)
      have x2 : decide ((n : Int) < (s.size : Int)) = false := decide_eq_false (by omega)
      have fin : loadPost a base p T rest head0 w P (.returned (.tuple #[])) wr := by
        refine ⟨I.off, ?_⟩
        rw [I.par, parse_end _ _ _ (by omega) (.inl (List.drop_eq_nil_of_le (by rw [bl_length]; omega)))]
        exact ⟨rfl, by show TapeAt wr base p T rest (rs ++ []) (headOf chF head0 (rs ++ [])) (n + 0); rw [List.append_nil]; exact ⟨rv, H⟩⟩
      clear I
      go_wp2_with fail
      all_goals go_end0
      all_goals exact fin
end Go.Proofs.YtniegajdmbepbaaGreatDoor.Jm
