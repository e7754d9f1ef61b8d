/- The exact laws over things: they answer true. -/
import Derived.Test.YtgipaamnefphgaaBxG
namespace Go.Sx
set_option linter.unusedVariables false

theorem FnExactAreThings_true (l : List Thing) (h0 : l.length ≤ maxLen) : laws_FnExactAreThings l = some true := by
  unfold laws_FnExactAreThings
  obtain ⟨v, hv, hc⟩ := szThingS_le l h0
  rw [hv]
  by_cases hn : v < 0
  · simp [hn]
  have hl : l.length ≤ 1048576 := by omega
  simp [hn, toThingS_eq l hl, spec_AreThings_eq l hl, impl_AreThings_eq l hl, eqThingS_refl l hl]
theorem FnExactDepthOf_true (l : List Thing) (id : Int) (h0 : l.length ≤ maxLen) : laws_FnExactDepthOf l id = some true := by
  unfold laws_FnExactDepthOf
  obtain ⟨v, hv, hc⟩ := szThingS_le l h0
  rw [hv]
  by_cases hn : v < 0
  · simp [hn]
  have hl : l.length ≤ 1048576 := by omega
  simp [hn, toThingS_eq l hl, spec_DepthOf_eq l id hl, impl_DepthOf_eq l id hl, eqThingS_refl l hl]
theorem FnExactGrossOf_true (l : List Thing) (id : Int) (h0 : l.length ≤ maxLen) : laws_FnExactGrossOf l id = some true := by
  unfold laws_FnExactGrossOf
  obtain ⟨v, hv, hc⟩ := szThingS_le l h0
  rw [hv]
  by_cases hn : v < 0
  · simp [hn]
  have hl : l.length ≤ 1048576 := by omega
  simp [hn, toThingS_eq l hl, spec_GrossOf_eq l id hl, impl_GrossOf_eq l id hl, eqThingS_refl l hl]
theorem FnExactOuterOf_true (l : List Thing) (id : Int) (h0 : l.length ≤ maxLen) : laws_FnExactOuterOf l id = some true := by
  unfold laws_FnExactOuterOf
  obtain ⟨v, hv, hc⟩ := szThingS_le l h0
  rw [hv]
  by_cases hn : v < 0
  · simp [hn]
  have hl : l.length ≤ 1048576 := by omega
  simp [hn, toThingS_eq l hl, spec_OuterOf_eq l id hl, impl_OuterOf_eq l id hl, eqThingS_refl l hl]
theorem FnExactIsLocked_true (l : List Thing) (id : Int) (h0 : l.length ≤ maxLen) : laws_FnExactIsLocked l id = some true := by
  unfold laws_FnExactIsLocked
  obtain ⟨v, hv, hc⟩ := szThingS_le l h0
  rw [hv]
  by_cases hn : v < 0
  · simp [hn]
  have hl : l.length ≤ 1048576 := by omega
  simp [hn, toThingS_eq l hl, spec_IsLocked_eq l id hl, impl_IsLocked_eq l id hl, eqThingS_refl l hl]
theorem FnExactInsideOf_true (l : List Thing) (id : Int) (h0 : l.length ≤ maxLen) : laws_FnExactInsideOf l id = some true := by
  unfold laws_FnExactInsideOf
  obtain ⟨v, hv, hc⟩ := szThingS_le l h0
  rw [hv]
  by_cases hn : v < 0
  · simp [hn]
  have hl : l.length ≤ 1048576 := by omega
  have hr : (insV l id).length ≤ 1048576 := by have := insV_le l id; omega
  obtain ⟨c1, m1, n1, e1, _⟩ := markThings l hl
  obtain ⟨c2, m2, n2, e2, e3⟩ := markInts (insV l id) hr
  simp [hn, toThingS_eq l hl, spec_InsideOf_eq l id hl, impl_InsideOf_eq l id hl, eqThingS_refl l hl, eqIntS_refl _ hr, e1, e2, e3, n1, n2]
theorem FnExactAllInside_true (l : List Thing) (id : Int) (h0 : l.length ≤ maxLen) : laws_FnExactAllInside l id = some true := by
  unfold laws_FnExactAllInside
  obtain ⟨v, hv, hc⟩ := szThingS_le l h0
  rw [hv]
  by_cases hn : v < 0
  · simp [hn]
  have hl : l.length ≤ 1048576 := by omega
  have hr : (allV' l id).length ≤ 1048576 := by have := allV'_le l id; omega
  obtain ⟨c1, m1, n1, e1, _⟩ := markThings l hl
  obtain ⟨c2, m2, n2, e2, e3⟩ := markInts (allV' l id) hr
  simp [hn, toThingS_eq l hl, spec_AllInside_eq l id hl, impl_AllInside_eq l id hl, eqThingS_refl l hl, eqIntS_refl _ hr, e1, e2, e3, n1, n2]
theorem FnExactSealBox_true (l : List Thing) (id : Int) (s : Bool) (h0 : l.length ≤ maxLen) : laws_FnExactSealBox l id s = some true := by
  unfold laws_FnExactSealBox
  obtain ⟨v, hv, hc⟩ := szThingS_le l h0
  rw [hv]
  by_cases hn : v < 0
  · simp [hn]
  have hl : l.length ≤ 1048576 := by omega
  have hr : (seaV l id s).1.length ≤ 1048576 := by rw [seaV_le]; exact hl
  obtain ⟨c1, m1, n1, e1, _⟩ := markThings l hl
  obtain ⟨c2, m2, n2, e2, e3⟩ := markThings (seaV l id s).1 hr
  simp [hn, toThingS_eq l hl, spec_SealBox_eq l id s hl, impl_SealBox_eq l id s hl, eqThingS_refl l hl, eqThingS_refl _ hr, e1, e2, e3, n1, n2]
theorem FnExactTakeFrom_true (l : List Thing) (id : Int) (h0 : l.length ≤ maxLen) : laws_FnExactTakeFrom l id = some true := by
  unfold laws_FnExactTakeFrom
  obtain ⟨v, hv, hc⟩ := szThingS_le l h0
  rw [hv]
  by_cases hn : v < 0
  · simp [hn]
  have hl : l.length ≤ 1048576 := by omega
  have hr : (takV l id).1.length ≤ 1048576 := by rw [takV_le]; exact hl
  obtain ⟨c1, m1, n1, e1, _⟩ := markThings l hl
  obtain ⟨c2, m2, n2, e2, e3⟩ := markThings (takV l id).1 hr
  simp [hn, toThingS_eq l hl, spec_TakeFrom_eq l id hl, impl_TakeFrom_eq l id hl, eqThingS_refl l hl, eqThingS_refl _ hr, e1, e2, e3, n1, n2]
theorem FnExactEmptyBox_true (l : List Thing) (id : Int) (h0 : l.length ≤ maxLen) : laws_FnExactEmptyBox l id = some true := by
  unfold laws_FnExactEmptyBox
  obtain ⟨v, hv, hc⟩ := szThingS_le l h0
  rw [hv]
  by_cases hn : v < 0
  · simp [hn]
  have hl : l.length ≤ 1048576 := by omega
  have hr : (empV l id).1.length ≤ 1048576 := by rw [empV_le]; exact hl
  obtain ⟨c1, m1, n1, e1, _⟩ := markThings l hl
  obtain ⟨c2, m2, n2, e2, e3⟩ := markThings (empV l id).1 hr
  simp [hn, toThingS_eq l hl, spec_EmptyBox_eq l id hl, impl_EmptyBox_eq l id hl, eqThingS_refl l hl, eqThingS_refl _ hr, e1, e2, e3, n1, n2]
theorem FnExactPutInto_true (l : List Thing) (id : Int) (box : Int) (h0 : l.length ≤ maxLen) : laws_FnExactPutInto l id box = some true := by
  unfold laws_FnExactPutInto
  obtain ⟨v, hv, hc⟩ := szThingS_le l h0
  rw [hv]
  by_cases hn : v < 0
  · simp [hn]
  have hl : l.length ≤ 1048576 := by omega
  have hr : (putV l id box).1.length ≤ 1048576 := by rw [putV_le]; exact hl
  obtain ⟨c1, m1, n1, e1, _⟩ := markThings l hl
  obtain ⟨c2, m2, n2, e2, e3⟩ := markThings (putV l id box).1 hr
  simp [hn, toThingS_eq l hl, spec_PutInto_eq l id box hl, impl_PutInto_eq l id box hl, eqThingS_refl l hl, eqThingS_refl _ hr, e1, e2, e3, n1, n2]
end Go.Sx
