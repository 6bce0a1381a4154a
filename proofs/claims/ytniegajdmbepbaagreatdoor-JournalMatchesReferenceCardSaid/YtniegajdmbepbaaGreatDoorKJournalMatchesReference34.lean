/- The reference's Head and Stored, plainly. Condition: records of at most 65,536 bytes. -/
import Derived.Test.YtniegajdmbepbaaGreatDoorKJournalMatchesReference32
import Derived.Test.YtniegajdmbepbaaGreatDoorKJournalMatchesReference33
import Derived.Test.YtniegajdmbepbaaGreatDoorKJournalMatchesReference24
set_option linter.unusedSimpArgs false
set_option linter.unusedVariables false
namespace Go.Proofs.YtniegajdmbepbaaGreatDoor.Jm
open Go Go.RowKit Go.Proofs.YtniegajdmbepbaaGreatDoorW.PrintWords Go.Proofs.YtniegajdmbepbaaGreatDoorW.PrintMore Go.Proofs.YtniegajdmbepbaaGreatDoor.WPure
theorem rchain_f (h x : ByteArray) (hs : h.size + x.size ≤ 900000) (k : Nat) (hk : h.size + x.size + 2000 ≤ k) : Dm.clearwayref02_Chain.f k h x = some (chF h x) := Sha.ref_chain h x hs k hk
theorem rzeros_str : strOfNums (List.replicate 32 0) = z32 := by
 unfold z32
 rw [← str_ofB]
 rfl
set_option maxRecDepth 100000 in
set_option maxHeartbeats 2000000 in
theorem rhead_l0 (l : List ByteArray) (hl : ∀ r ∈ l, r.size ≤ 65536) (hn : l.length ≤ 1000000) : ∀ (d i k : Nat) (h : ByteArray), i + d = l.length → h.size = 32 → 70000 + d ≤ k →
  Dm.clearwayref02_Head.l0 k l h (i : Int) = some (headOf chF h (l.drop i)) := by
 intro d
 induction d with
 | zero =>
  intro i k h hi hh hk
  obtain ⟨k, rfl⟩ : ∃ m, k = m + 1 := ⟨k - 1, by omega⟩
  rw [Dm.clearwayref02_Head.l0, if_neg (by omega), List.drop_of_length_le (by omega)]
  unfold headOf
  rw [List.foldl_nil]
 | succ d ih =>
  intro i k h hi hh hk
  obtain ⟨k, rfl⟩ : ∃ m, k = m + 1 := ⟨k - 1, by omega⟩
  obtain ⟨x, hx⟩ : ∃ x, l[i]? = some x := ⟨_, List.getElem?_eq_getElem (by omega)⟩
  have hxs := hl x (List.mem_of_getElem? hx)
  have hrd : rdOf ByteArray.empty l (i : Int) = x := by
   unfold rdOf
   rw [Int.toNat_natCast, List.getD_eq_getElem?_getD, hx]
   rfl
  have hdr : l.drop i = x :: l.drop (i + 1) := by
   rw [List.drop_eq_getElem_cons (by omega)]
   congr 1
   exact (List.getElem?_eq_some_iff.1 hx).2
  rw [Dm.clearwayref02_Head.l0, if_pos (by omega), if_pos (by omega), hrd, rchain_f h x (by omega) k (by omega), Option.bind_some, w64_one i (by omega), ih (i + 1) k (chF h x) (by omega) (chF_size h x) (by omega), hdr]
  unfold headOf
  rw [List.foldl_cons]
theorem rhead_f (l : List ByteArray) (hl : ∀ r ∈ l, r.size ≤ 65536) (hn : l.length ≤ 1000000) : Dm.clearwayref02_Head.f (70001 + l.length) l = some (headOf chF z32 l) := by
 unfold Dm.clearwayref02_Head.f
 rw [if_pos (by decide), rzeros_str]
 have := rhead_l0 l hl hn l.length 0 (70001 + l.length) z32 (by omega) z32_size (by omega)
 rw [List.drop_zero] at this
 exact this
set_option maxRecDepth 100000 in
set_option maxHeartbeats 2000000 in
theorem rstored_f (h r : ByteArray) (hh : h.size = 32) (hr : r.size ≤ 65536) : Rw.clearwayref29_Stored.f 70000 h r = some (ofB (recB chF h r), chF h r) := by
 obtain ⟨s, hp1, hp2⟩ := putString_in hr
 rw [nl_bl, nl_bl] at hp2
 have hsl : s.size ≤ 65600 := by
  have := congrArg List.length hp2
  rw [bl_length, List.length_append, bl_length] at this
  have := Code.enc_len (n := (r.size : Int)) (by unfold Code.maxInt; omega) (by unfold Code.maxInt; omega)
  omega
 have hout := recB_ofB h r s hp2
 have s1 : (⟨#[1]⟩ : ByteArray).size = 1 := rfl
 unfold Rw.clearwayref29_Stored.f
 rw [rchain_f h r (by omega) 70000 (by omega), Option.bind_some, putString_same r 70000 (by omega), hp1, Option.bind_some]
 dsimp only
 rw [if_pos (by omega), if_pos (by rw [ByteArray.size_append, s1, chF_size]; omega), hout]
end Go.Proofs.YtniegajdmbepbaaGreatDoor.Jm
