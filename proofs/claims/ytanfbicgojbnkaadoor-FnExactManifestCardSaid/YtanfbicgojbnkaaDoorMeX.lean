/- Both manifests are the same text: the law answers true. -/
import Derived.Test.YtanfbicgojbnkaaDoorMeM
import Derived.Test.YtanfbicgojbnkaaDoorMeE
namespace Go.Sx
set_option linter.unusedVariables false

theorem FnExactManifest_true (l : List Thing) (id : Int) (h0 : l.length ≤ maxLen) : laws_FnExactManifest l id = some true := by
  obtain ⟨v, h1, h2⟩ := szThingS_le l h0
  unfold laws_FnExactManifest
  rw [h1]
  simp only [bS]
  by_cases hv : v < 0
  · rw [decide_eq_true hv, cT]
  · have hl : l.length ≤ 1048576 := by omega
    rw [decide_eq_false hv, cF]
    simp only [toThingS_eq l hl, spec_Manifest_eq l id hl, impl_Manifest_eq l id hl, eqThingS_refl l hl, bS, beq_self_eq_true, nT, cF]
end Go.Sx
