/- The laws about ways answer true: who starts later, a way over a third place, the latest start, the promise. -/
import Derived.Test.YtnefegnodjaldaaGfE
namespace Go.Sx
open Relax (g g_set X)
set_option linter.unusedVariables false

theorem u8_wf {z : Int} (h : (Lit.int .u8 z).wf = true) : 0 ≤ z ∧ z ≤ 255 := by
  have h1 : IntKind.u8.min = 0 := rfl
  have h2 : IntKind.u8.max = 255 := rfl
  simp [Lit.wf, h1, h2] at h
  omega
theorem lawAt_ok (a : List Int) (ha : a.length ≤ 4096) (hv : ∀ x ∈ a, 0 ≤ x ∧ x ≤ 255) (i : Int) (hi : 0 ≤ i) : ∃ v, laws_at a i = some v ∧ 0 ≤ v ∧ v ≤ 255 := by
  unfold laws_at
  by_cases h : i ≥ (a.length : Int)
  · exact ⟨0, by simp [h], by omega, by omega⟩
  · have hl : i < a.length := by omega
    have := hv _ (List.getElem_mem (show i.toNat < a.length by omega))
    refine ⟨a[i.toNat]'(by omega), ?_, this.1, this.2⟩
    simp only [h, decide_false, cond_false, gi_eq hi hl, Option.bind_some]
    rw [w64_id (by omega) (by omega)]
theorem InI.w {x : Int} (h : InI x) : w64 x = x := w64_id h.1 h.2
theorem ear_start {n : Network} {a b : ByteArray} {t : Int} (h : 0 ≤ earV n a b t) : v0N t ≤ earV n a b t := by
  by_cases hc : Fine n a t ∧ ¬ idxV (plcs n) b < 0
  · rw [ear_fine hc.1 hc.2] at h ⊢
    exact XN_low hc.1.1 hc.1.lt hc.1.2.2 _ _ h
  · rw [ear_bad hc] at h; omega
end Go.Sx
