/- The latest start: the exact law answers true. -/
import Derived.Test.YtgfliphofffcaaaGyQ
namespace Go.Sx
open Relax (g g_set)
set_option linter.unusedVariables false

theorem lat_len (n : Network) (h : NetS n) (a : ByteArray) (b : Int) : latV n a b = [] ∨ (latV n a b).length = (plcs n).length := by
  unfold latV
  split
  · exact .inr (Sweep.Y_len (by simp [y0N]) _)
  · exact .inl rfl
theorem last_eq (n : Network) (h : NetS n) (a b : ByteArray) (by0 : Int) (hb : by0 ≤ 9223372036854775807) : ∃ v, spec_LatestStart n a b by0 = some v ∧ impl_LatestStart n a b by0 = some v := by
  have hp := plcs_len n h
  obtain ⟨r1, r2, _⟩ := lat_eq n h b by0 hb
  unfold spec_LatestStart impl_LatestStart
  rw [spec_PlacesOf_eq n h, impl_PlacesOf_eq n h, r1, r2]
  simp only [Option.bind_some, placeAt_eq _ _ (show (plcs n).length ≤ 4000000 by omega), index_eq _ _ (show (plcs n).length ≤ 4000000 by omega)]
  by_cases h1 : idxV (plcs n) a < 0
  · refine ⟨-1, by simp [h1], ?_⟩
    simp only [h1, decide_true, cond_true]
    cases (((latV n b by0).length : Int) == 0) <;> rfl
  obtain ⟨t, e, ht⟩ := idx_lt h1
  rcases lat_len n h b by0 with h2 | h2
  · exact ⟨-1, by simp [h1, h2], by simp [h2]⟩
  · have hz : (((latV n b by0).length : Int) == 0) = false := by rw [h2]; exact beq_eq_false_iff_ne.2 (by omega)
    have hgt : gi (latV n b by0) (t : Int) = some (g (latV n b by0) t) := gi_g (by rw [h2]; exact ht)
    have h1' : decide (idxV (plcs n) a < 0) = false := by simp [h1]
    rw [hz, h1', e]
    simp only [cond_false, hgt, Option.bind_some]
    exact ⟨_, rfl, rfl⟩
theorem FnExactLatestStart_true (n : Network) (a b : ByteArray) (by0 : Int) (hN : NetIn n) (hb : (Lit.int .i64 by0).wf = true) : laws_FnExactLatestStart n a b by0 = some true := by
  unfold laws_FnExactLatestStart
  by_cases ha : (a.size : Int) > 1048576
  · simp [ha]
  by_cases hb2 : (b.size : Int) > 1048576
  · simp [hb2]
  obtain ⟨v, hv, hc⟩ := szNetwork_le n hN
  rw [hv]
  simp only [ha, hb2, decide_false, cond_false]
  by_cases hn : v < 0
  · simp [hn]
  obtain ⟨hS, hv1⟩ := hc.resolve_left hn
  obtain ⟨r, r1, r2⟩ := last_eq n hS a b by0 (wf_le hb)
  simp [hn, toNetwork_eq n hS, r1, r2, eqNetwork_refl n hS]
end Go.Sx
