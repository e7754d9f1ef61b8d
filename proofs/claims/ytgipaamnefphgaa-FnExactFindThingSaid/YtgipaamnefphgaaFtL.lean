/- Part of a proof: FtL. -/
import Derived.Test.YtgipaamnefphgaaFtW
import Derived.Test.YtgipaamnefphgaaSxQ
namespace Go.Sx
open Go.Proofs
set_option linter.unusedVariables false

theorem toThingS_eq (a : List Thing) (hl : a.length ≤ 1048576) : laws_toThingS a = some a := by
  unfold laws_toThingS
  rw [mkM_eq hl (by omega)]
  show Option.bind (loopM (laws_toThingS_L1 a) big (List.replicate a.length default, 0)) laws_toThingS_L1_k = some a
  rw [show loopM (laws_toThingS_L1 a) big (List.replicate a.length default, 0) = some (.inl a) from copy_loop (ρ := List Thing) a laws_toThing (fun _ => rfl) hl]
  rfl
theorem eqThing_refl (x : Thing) : laws_eqThing x x = some true := by simp [laws_eqThing]
theorem eqThingS_refl (a : List Thing) (hl : a.length ≤ 1048576) : laws_eqThingS a a = some true := by
  unfold laws_eqThingS
  rw [show loopM (laws_eqThingS_L1 a a) big 0 = some (.inl ()) from eq_loop_refl a laws_eqThing eqThing_refl hl]
  simp [laws_eqThingS_L1_k, laws_eqThingS_L1_a]
theorem szThingS_le (a : List Thing) (h0 : a.length ≤ maxLen) : ∃ v, laws_szThingS a 1048576 = some v ∧ (v < 0 ∨ a.length ≤ 1048576) := by
  have h0' : a.length ≤ 9223372036854775807 := h0
  unfold laws_szThingS
  rw [w64_id (by omega) (by omega)]
  by_cases h : 1048576 - (a.length : Int) < 0
  · exact ⟨-1, by simp [h], .inl (by omega)⟩
  · exact ⟨1048576 - (a.length : Int), by simp [h], .inr (by omega)⟩
theorem findThing_ends (a : List Thing) (k : Int) (hl : a.length ≤ 1048576) : ∃ v, spec_FindThing a k = some v ∧ impl_FindThing a k = some v := by
  have he : impl_FindThing a k = spec_FindThing a k := rfl
  rw [he]
  refine (?_ : ∃ v, spec_FindThing a k = some v).elim fun v h => ⟨v, h, h⟩
  unfold spec_FindThing
  refine (?_ : ∃ x, loopM (spec_FindThing_L1 a k) big 0 = some x ∧ True).elim fun x h => ?_
  · refine loopM_up a.length (fun i s => s = (i : Int)) _ (fun i s hi hs => ?_) (fun s hs => ?_) 0 rfl (big_pos hl)
    · subst hs
      by_cases hk : (a[i].Id == k) = true
      · exact .inr (.inr ⟨(i : Int), by simp [spec_FindThing_L1, spec_FindThing_L1_b, hi, gi_nat hi, hk], trivial⟩)
      · refine .inl ⟨((i + 1 : Nat) : Int), ?_, rfl⟩
        rw [Bool.not_eq_true] at hk
        simp [spec_FindThing_L1, spec_FindThing_L1_b, hi, gi_nat hi, hk]
        rw [w64_id (by omega) (by omega)]
    · subst hs
      exact .inl ⟨(), by simp [spec_FindThing_L1, spec_FindThing_L1_b], trivial⟩
  · rw [h.1]
    cases x with
    | inl t => exact ⟨_, rfl⟩
    | inr r => exact ⟨_, rfl⟩

theorem FnExactFindThing_true (a : List Thing) (k : Int) (h0 : a.length ≤ maxLen) : laws_FnExactFindThing a k = some true := by
  unfold laws_FnExactFindThing
  obtain ⟨v, hv, hc⟩ := szThingS_le a h0
  rw [hv]
  by_cases hn : v < 0
  · simp [hn]
  have hl : a.length ≤ 1048576 := by omega
  obtain ⟨u, h1, h2⟩ := findThing_ends a k hl
  simp [hn, toThingS_eq a hl, h1, h2, eqThingS_refl a hl]
end Go.Sx
