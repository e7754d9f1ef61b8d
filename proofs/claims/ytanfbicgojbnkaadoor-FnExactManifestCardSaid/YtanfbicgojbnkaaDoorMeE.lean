/- The helpers of the exact laws over things: copies, comparisons, marks. -/
import Derived.Test.YtanfbicgojbnkaaDoorMeT
namespace Go.Sx
set_option linter.unusedVariables false

theorem toThingS_eq (a : List Thing) (hl : a.length ≤ 1048576) : laws_toThingS a = some a := by
  unfold laws_toThingS
  rw [mkM_eq hl (by omega)]
  show Option.bind (loopM (laws_toThingS_L1 a) big (List.replicate a.length default, 0)) laws_toThingS_L1_k = some a
  rw [show loopM (laws_toThingS_L1 a) big (List.replicate a.length default, 0) = some (.inl a) from copy_loop (ρ := List Thing) a laws_toThing (fun _ => rfl) hl]
  rfl
theorem eqThing_refl (x : Thing) : laws_eqThing x x = some true := by simp [laws_eqThing]
theorem eqThingS_refl (a : List Thing) (hl : a.length ≤ 1048576) : laws_eqThingS a a = some true := by
  unfold laws_eqThingS
  rw [show loopM (laws_eqThingS_L1 a a) big 0 = some (.inl ()) from eq_loop_refl a laws_eqThing eqThing_refl hl]
  simp [laws_eqThingS_L1_k, laws_eqThingS_L1_a]
theorem szThingS_le (a : List Thing) (h0 : a.length ≤ maxLen) : ∃ v, laws_szThingS a 1048576 = some v ∧ (v < 0 ∨ a.length ≤ 1048576) := by
  have h0' : a.length ≤ 9223372036854775807 := h0
  unfold laws_szThingS
  rw [w64_id (by omega) (by omega)]
  by_cases h : 1048576 - (a.length : Int) < 0
  · exact ⟨-1, by simp [h], .inl (by omega)⟩
  · exact ⟨1048576 - (a.length : Int), by simp [h], .inr (by omega)⟩
end Go.Sx
