/- The plain law of AtlasChains: what the walk computes answers true.
   Conditions: those that each theorem states ahead of its colon, and no other. -/
import Derived.Test.YtfpppgbibgbllaaWalkAtlasChains
import Derived.Test.YtfpppgbibgbllaaPx
namespace Go.Proofs.Ytfpppgbibgbllaa.Sx
open Go
theorem awake25 : catenarylaw25_awake 60 = some true := by kernel_rfl
theorem chain_eq (key ch : Int) (hk : wfInt .u32 key) (hc : wfInt .i64 ch) (h1 : 1 ≤ ch) : ∃ r, atlas_Chain key ch = some r ∧ catenaryref25_Chain key ch = some r ∧ 0 ≤ r ∧ r < ch := by
  have hk := wfInt_u32.1 hk
  have hc := wfInt_i64.1 hc
  unfold atlas_Chain catenaryref25_Chain
  have e1 : IntKind.u64.wrap ch = ch := wu64 (by omega) (by omega)
  have e2 : IntKind.u64.wrap key = key := wu64 (by omega) (by omega)
  have e3 : IntKind.u64.wrap (key * 2654435761) = key * 2654435761 := wu64 (by omega) (by omega)
  rw [e1, e2, e3]
  have h0 : ¬ (decide (ch < 1)) = true := by simp; omega
  have h0' : ¬ (ch == 0) = true := by simp; omega
  rw [if_neg h0, if_neg h0', if_neg h0, if_neg h0', IntKind.wrap_u32]
  have hv : 0 ≤ key * 2654435761 := by omega
  rw [Int.tmod_eq_emod_of_nonneg hv, Int.fdiv_eq_ediv_of_nonneg _ (by decide), Int.tdiv_eq_ediv_of_nonneg (by omega)]
  generalize hm : key * 2654435761 % 4294967296 = m
  have hm0 : 0 ≤ m ∧ m < 4294967296 := by omega
  have e4 : IntKind.u64.wrap (m / 65536) = m / 65536 := wu64 (by omega) (by omega)
  have e5 : IntKind.i64.wrap (m / 2 ^ 16) = m / 65536 := by rw [show (2 : Int) ^ 16 = 65536 from rfl]; exact w64 (by omega) (by omega)
  rw [e4, e5]
  have hnn : 0 ≤ m / 65536 := by omega
  have ht : (m / 65536).tmod ch = m / 65536 % ch := Int.tmod_eq_emod_of_nonneg hnn
  have hr0 := Int.emod_nonneg (m / 65536) (show ch ≠ 0 by omega)
  have hr1 := Int.emod_lt_of_pos (m / 65536) (show 0 < ch by omega)
  rw [ht, w64 (n := m / 65536 % ch) (by omega) (by omega)]
  exact ⟨_, rfl, rfl, hr0, hr1⟩
theorem pureAtlasChains (key ch : Int) (hk : wfInt .u32 key) (hc : wfInt .i64 ch) : ∃ k, catenarylaw25_AtlasChains k key ch = some true := by
  refine ⟨60, ?_⟩
  unfold catenarylaw25_AtlasChains catenarylaw25_AtlasChains_r2
  rw [awake25]
  by_cases h1 : 1 ≤ ch
  · obtain ⟨r, e1, e2, h2, h3⟩ := chain_eq key ch hk hc h1
    rw [e1, e2]
    simp [h2, h3]
  · unfold atlas_Chain catenaryref25_Chain
    have h0 : (decide (ch < 1)) = true := by simp; omega
    rw [if_pos h0, if_pos h0]
    by_cases h2 : 0 < ch
    · omega
    · simp [h2]; omega
end Go.Proofs.Ytfpppgbibgbllaa.Sx
