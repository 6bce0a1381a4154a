/- No condition. -/
import Derived.Test.YtniegajdmbepbaaGreatDoorRows
import Derived.Test.YtniegajdmbepbaaGreatDoorKJournalMatchesReference17
import Derived.Lib.LaidTab
import Derived.KernelRfl
namespace Go.Proofs.YtniegajdmbepbaaGreatDoor.Sha
open Go
theorem gRound : Tryz.prog.globalNamed "clearway/digest.round" = some 3 := by kernel_rfl
theorem gRoundType : (Tryz.prog.globals[3]?).map (·.type) = some 214 := by kernel_rfl
theorem cellsRound : Tryz.prog.cellsOf 214 = 64 := by kernel_rfl
theorem cellsW32 : Tryz.prog.cellsOf 109 = 1 := by kernel_rfl
theorem rk_ints : rk.map u = [1116352408, 1899447441, 3049323471, 3921009573, 961987163, 1508970993, 2453635748, 2870763221, 3624381080, 310598401, 607225278, 1426881987, 1925078388, 2162078206, 2614888103, 3248222580, 3835390401, 4022224774, 264347078, 604807628, 770255983, 1249150122, 1555081692, 1996064986, 2554220882, 2821834349, 2952996808, 3210313671, 3336571891, 3584528711, 113926993, 338241895, 666307205, 773529912, 1294757372, 1396182291, 1695183700, 1986661051, 2177026350, 2456956037, 2730485921, 2820302411, 3259730800, 3345764771, 3516065817, 3600352804, 4094571909, 275423344, 430227734, 506948616, 659060556, 883997877, 958139571, 1322822218, 1537002063, 1747873779, 1955562222, 2024104815, 2227730452, 2361852424, 2428436474, 2756734187, 3204031479, 3329325298] := by decide
theorem laid_round {H : Type} : (Rows.laid_clearway_digest_round : DataW H) = Lib.tabData .u32 (rk.map u) := by rw [rk_ints]; rfl
theorem amb_tab {W : World} (h1 : Lib.TabIs Tryz.prog W "clearway/digest.round" .u32 (rk.map u)) : Amb W := by
  unfold Lib.TabIs World.var? at h1
  rw [gRound] at h1
  simp only [Option.bind_some] at h1
  split at h1
  · rename_i cs t fr hh
    refine ⟨t, fr, ?_⟩
    rw [hh, Option.some.inj h1, List.map_map]
    rfl
  · cases h1
end Go.Proofs.YtniegajdmbepbaaGreatDoor.Sha
