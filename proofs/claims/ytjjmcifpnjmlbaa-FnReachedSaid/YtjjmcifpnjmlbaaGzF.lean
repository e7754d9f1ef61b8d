/- The laws about ways answer true: who starts later, a way over a third place, the latest start, the promise. -/
import Derived.Test.YtjjmcifpnjmlbaaGzE
namespace Go.Sx
open Relax (g g_set X)
set_option linter.unusedVariables false

theorem u8_wf {z : Int} (h : (Lit.int .u8 z).wf = true) : 0 ≤ z ∧ z ≤ 255 := by
  have h1 : IntKind.u8.min = 0 := rfl
  have h2 : IntKind.u8.max = 255 := rfl
  simp [Lit.wf, h1, h2] at h
  omega
theorem lawAt_ok (a : List Int) (ha : a.length ≤ 4096) (hv : ∀ x ∈ a, 0 ≤ x ∧ x ≤ 255) (i : Int) (hi : 0 ≤ i) : ∃ v, laws_at a i = some v ∧ 0 ≤ v ∧ v ≤ 255 := by
  unfold laws_at
  by_cases h : i ≥ (a.length : Int)
  · exact ⟨0, by simp [h], by omega, by omega⟩
  · have hl : i < a.length := by omega
    have := hv _ (List.getElem_mem (show i.toNat < a.length by omega))
    refine ⟨a[i.toNat]'(by omega), ?_, this.1, this.2⟩
    simp only [h, decide_false, cond_false, gi_eq hi hl, Option.bind_some]
    rw [w64_id (by omega) (by omega)]
theorem InI.w {x : Int} (h : InI x) : w64 x = x := w64_id h.1 h.2
theorem ear_start {n : Network} {a b : ByteArray} {t : Int} (h : 0 ≤ earV n a b t) : v0N t ≤ earV n a b t := by
  by_cases hc : Fine n a t ∧ ¬ idxV (plcs n) b < 0
  · rw [ear_fine hc.1 hc.2] at h ⊢
    exact XN_low hc.1.1 hc.1.lt hc.1.2.2 _ _ h
  · rw [ear_bad hc] at h; omega
theorem FnPromise_true (a : List Int) (hv : ∀ x ∈ a, 0 ≤ x ∧ x ≤ 255) : laws_FnPromise a = some true := by
  unfold laws_FnPromise laws_big
  simp only [Option.bind_some]
  by_cases hb : (a.length : Int) > 4096
  · simp [hb]
  simp only [hb, decide_false, cond_false]
  obtain ⟨⟨n, s, p, q, t⟩, e, hd, hs, hp, hq, ht⟩ := drawP_ok a (by omega)
  simp only at hd hs hp hq ht
  have hS := hd.S (by omega)
  obtain ⟨v, ev, v0, v1⟩ := lawAt_ok a (by omega) hv 1 (by omega)
  rw [e]
  simp only [Option.bind_some, prom_impl n hS, (ear_spec n hS p q t).2]
  have hlow := ear_neg n hS p q t
  have hbig := ear_big n p q t
  have ws : w64 (s + 1) = s + 1 := w64_id (by omega) (by omega)
  by_cases h1 : earV n p q t < 0 ∨ s < 1 ∨ s > 3
  · have hpv : proV n s p q t = -1 := by unfold proV; rw [if_pos h1]
    rw [hpv]
    simp only [show decide ((-1 : Int) < 0) = true from rfl, cond_true]
    by_cases a1 : earV n p q t < 0
    · simp [a1]
    · by_cases a2 : s < 1
      · simp [a1, a2]
      · have a3 : s > 3 := by omega
        simp [a1, a2, a3]
  have he0 : 0 ≤ earV n p q t := by omega
  have hd1 := day_in he0
  have hs' : s = 1 ∨ s = 2 ∨ s = 3 := by omega
  have hsq : 0 ≤ (s - 1) * (s - 1) ∧ (s - 1) * (s - 1) ≤ 4 := by rcases hs' with rfl | rfl | rfl <;> decide
  have hpv : proV n s p q t = (dayV (earV n p q t) + (s - 1) * (s - 1)) * 1440 + 1080 := by unfold proV; rw [if_neg h1]
  -- the day's minute
  have hge : earV n p q t ≤ proV n s p q t := by
    rw [hpv]
    have h3 := hd1.2.2
    split at h3 <;> omega
  have hmod : Int.tmod (proV n s p q t) 1440 = 1080 := by
    rw [Int.tmod_eq_emod_of_nonneg (by omega), hpv]
    omega
  have hp0 : ¬ proV n s p q t < 0 := by omega
  have hpe : ¬ proV n s p q t < earV n p q t := by omega
  have hmod' : (Int.tmod (proV n s p q t) 1440 != 1080) = false := by rw [hmod]; rfl
  -- who comes later
  have hlater : ∀ u, ¬ t < 0 → (t ≤ u) → ¬ proV n s p q u < 0 → proV n s p q t ≤ proV n s p q u := by
    intro u ht0 hu hpu
    by_cases h2 : earV n p q u < 0 ∨ s < 1 ∨ s > 3
    · exact absurd (show proV n s p q u < 0 by unfold proV; rw [if_pos h2]; omega) hpu
    · have := ear_later (n := n) (a := p) (b := q) (show 0 ≤ t by omega) hu (by omega)
      have hd2 := day_in (show 0 ≤ earV n p q u by omega)
      have hpu' : proV n s p q u = (dayV (earV n p q u) + (s - 1) * (s - 1)) * 1440 + 1080 := by unfold proV; rw [if_neg h2]
      rw [hpv, hpu']
      have h4 := hd1.2.2
      have h5 := hd2.2.2
      split at h4 <;> split at h5 <;> omega
  have hfin : ∀ u, (w64 (t + v)) = u → (bif decide (t < 0) then (some true : Option Bool) else bif decide (proV n s p q u < 0) then some true else some (decide (proV n s p q u ≥ proV n s p q t))) = some true := by
    intro u hu
    by_cases ht0 : t < 0
    · simp [ht0]
    · by_cases hpu : proV n s p q u < 0
      · simp [ht0, hpu]
      · have htb : t ≤ 100000 := by
          by_cases hc : Fine n p t ∧ ¬ idxV (plcs n) q < 0
          · have := hc.1.2.2; omega
          · rw [ear_bad hc] at he0; omega
        have : t ≤ u := by rw [← hu, w64_id (by omega) (by omega)]; omega
        have := hlater u ht0 this hpu
        simp [ht0, hpu, this]
  simp only [hp0, hpe, hmod', decide_false, cond_false, ws]
  by_cases h3 : s < 3
  · have hq1 : ¬ proV n (s + 1) p q t ≤ proV n s p q t := by
      have : proV n (s + 1) p q t = (dayV (earV n p q t) + (s + 1 - 1) * (s + 1 - 1)) * 1440 + 1080 := by unfold proV; rw [if_neg (by omega)]
      rw [this, hpv]
      rcases hs' with rfl | rfl | rfl <;> omega
    simp only [h3, decide_true, cond_true, hq1, decide_false, cond_false, ev, Option.bind_some]
    exact hfin _ rfl
  · simp only [h3, decide_false, cond_false, ev, Option.bind_some]
    exact hfin _ rfl
end Go.Sx
