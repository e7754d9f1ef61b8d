/- The helpers of the exact laws over things: copies, comparisons, marks. -/
import Derived.Test.YtbeialanbblkoaaBpT
namespace Go.Sx
set_option linter.unusedVariables false

theorem toThingS_eq (a : List Thing) (hl : a.length ≤ 1048576) : laws_toThingS a = some a := by
  unfold laws_toThingS
  rw [mkM_eq hl (by omega)]
  show Option.bind (loopM (laws_toThingS_L1 a) big (List.replicate a.length default, 0)) laws_toThingS_L1_k = some a
  rw [show loopM (laws_toThingS_L1 a) big (List.replicate a.length default, 0) = some (.inl a) from copy_loop (ρ := List Thing) a laws_toThing (fun _ => rfl) hl]
  rfl
theorem eqThing_refl (x : Thing) : laws_eqThing x x = some true := by simp [laws_eqThing]
theorem eqThingS_refl (a : List Thing) (hl : a.length ≤ 1048576) : laws_eqThingS a a = some true := by
  unfold laws_eqThingS
  rw [show loopM (laws_eqThingS_L1 a a) big 0 = some (.inl ()) from eq_loop_refl a laws_eqThing eqThing_refl hl]
  simp [laws_eqThingS_L1_k, laws_eqThingS_L1_a]
theorem szThingS_le (a : List Thing) (h0 : a.length ≤ maxLen) : ∃ v, laws_szThingS a 1048576 = some v ∧ (v < 0 ∨ a.length ≤ 1048576) := by
  have h0' : a.length ≤ 9223372036854775807 := h0
  unfold laws_szThingS
  rw [w64_id (by omega) (by omega)]
  by_cases h : 1048576 - (a.length : Int) < 0
  · exact ⟨-1, by simp [h], .inl (by omega)⟩
  · exact ⟨1048576 - (a.length : Int), by simp [h], .inr (by omega)⟩
theorem eqIntS_refl (a : List Int) (hl : a.length ≤ 1048576) : laws_eqIntS a a = some true := by
  unfold laws_eqIntS
  have := loop_val (body := laws_eqIntS_L1 a a) a.length (fun i => (i : Int)) () hl (fun i hi => by simp [laws_eqIntS_L1, laws_eqIntS_L1_b, gi_nat hi, hi, w64_succ (Nat.le_of_lt (Nat.lt_of_lt_of_le hi hl))]) (by simp [laws_eqIntS_L1, laws_eqIntS_L1_b])
  rw [show ((0 : Nat) : Int) = 0 from rfl] at this
  rw [this]
  simp [laws_eqIntS_L1_k, laws_eqIntS_L1_a]
/-- a loop that marks a row from its head -/
theorem markIntS_eq (a : List Int) (hl : a.length ≤ 1048576) : ∃ l', laws_markIntS a 1 = some (1 + (a.length : Int), l') ∧ laws_heldIntS l' 1 = some (1 + (a.length : Int)) := by
  obtain ⟨l', h1, h2, h3⟩ := mark_up (body := laws_markIntS_L1) a 1 (fun i => 1 + (i : Int)) hl (fun i l hi h => by
      have hil : i < l.length := by omega
      have e1 : w64 (1 + 1 * (i : Int) + 1) = 1 + 1 * ((i + 1 : Nat) : Int) := by rw [w64_id (by omega) (by omega)]; omega
      simp only [laws_markIntS_L1, laws_markIntS_L1_b, gi_nat hil, Int.ofNat_lt, hil, decide_true, cond_true, Option.bind_some, e1, w64_succ (Nat.le_of_lt (Nat.lt_of_lt_of_le hi hl))]
      simp)
    (fun l h => by simp [laws_markIntS_L1, laws_markIntS_L1_b, h])
  refine ⟨l', by rw [laws_markIntS, h1]; simp [laws_markIntS_L1_k, laws_markIntS_L1_a], ?_⟩
  have hk := held_up (body := laws_heldIntS_L1 l') l' 1 (fun i => 1 + (i : Int)) (by omega) (by rw [h2]; exact h3) (fun i hi e => by
      have e1 : w64 (1 + 1 * (i : Int) + 1) = 1 + 1 * ((i + 1 : Nat) : Int) := by rw [w64_id (by omega) (by omega)]; omega
      simp only [laws_heldIntS_L1, laws_heldIntS_L1_b, gi_nat hi, Int.ofNat_lt, hi, decide_true, cond_true, Option.bind_some, e1, e, w64_succ (by omega : i ≤ 1048576)]
      simp)
    (by simp [laws_heldIntS_L1, laws_heldIntS_L1_b])
  rw [laws_heldIntS, hk]
  simp [laws_heldIntS_L1_k, laws_heldIntS_L1_a, h2]
def mkT (k : Int) : Thing := ⟨k, k + 1, k + 1 + 1, k + 1 + 1 + 1, Int.tmod (k + 1 + 1 + 1 + 1) 3 == 0, Int.tmod (k + 1 + 1 + 1 + 1 + 1) 3 == 0⟩
theorem w64_k {k : Int} (h0 : 0 ≤ k) (h1 : k ≤ 8388608) : w64 (k + 1) = k + 1 := w64_id (by omega) (by omega)
theorem markThingS_eq (a : List Thing) (hl : a.length ≤ 1048576) : ∃ l', laws_markThingS a 1 = some (1 + 6 * (a.length : Int), l') ∧ laws_heldThingS l' 1 = some (1 + 6 * (a.length : Int)) := by
  obtain ⟨l', h1, h2, h3⟩ := mark_up (body := laws_markThingS_L1) a 6 (fun i => mkT (1 + 6 * (i : Int))) hl (fun i l hi h => by
      have hil : i < l.length := by omega
      have hk : (0 : Int) ≤ 1 + 6 * (i : Int) ∧ 1 + 6 * (i : Int) ≤ 8000000 := by omega
      have e6 : 1 + 6 * ((i + 1 : Nat) : Int) = 1 + 6 * (i : Int) + 1 + 1 + 1 + 1 + 1 + 1 := by omega
      rw [e6]
      generalize 1 + 6 * (i : Int) = k at hk
      have w1 : w64 (k + 1) = k + 1 := w64_id (by omega) (by omega)
      have w2 : w64 (k + 1 + 1) = k + 1 + 1 := w64_id (by omega) (by omega)
      have w3 : w64 (k + 1 + 1 + 1) = k + 1 + 1 + 1 := w64_id (by omega) (by omega)
      have w4 : w64 (k + 1 + 1 + 1 + 1) = k + 1 + 1 + 1 + 1 := w64_id (by omega) (by omega)
      have w5 : w64 (k + 1 + 1 + 1 + 1 + 1) = k + 1 + 1 + 1 + 1 + 1 := w64_id (by omega) (by omega)
      have w6 : w64 (k + 1 + 1 + 1 + 1 + 1 + 1) = k + 1 + 1 + 1 + 1 + 1 + 1 := w64_id (by omega) (by omega)
      simp only [laws_markThingS_L1, laws_markThingS_L1_b, Int.ofNat_lt, hil, decide_true, cond_true, Int.toNat_natCast, w1, w2, w3, w4, w5, w6, w64_succ (Nat.le_of_lt (Nat.lt_of_lt_of_le hi hl)), gi_nat, List.length_set, List.set_set, List.getElem_set_self, Option.bind_some]
      rfl)
    (fun l h => by simp [laws_markThingS_L1, laws_markThingS_L1_b, h])
  refine ⟨l', by rw [laws_markThingS, h1]; simp [laws_markThingS_L1_k, laws_markThingS_L1_a], ?_⟩
  have hk := held_up (body := laws_heldThingS_L1 l') l' 6 (fun i => mkT (1 + 6 * (i : Int))) (by omega) (by rw [h2]; exact h3) (fun i hi e => by
      have hk : (0 : Int) ≤ 1 + 6 * (i : Int) ∧ 1 + 6 * (i : Int) ≤ 8000000 := by omega
      have e6 : 1 + 6 * ((i + 1 : Nat) : Int) = 1 + 6 * (i : Int) + 1 + 1 + 1 + 1 + 1 + 1 := by omega
      rw [e6]
      have hws := w64_succ (by omega : i ≤ 1048576)
      have hgi := gi_nat hi
      rw [e] at hgi
      simp only [laws_heldThingS_L1, laws_heldThingS_L1_b, Int.ofNat_lt, hi, decide_true, cond_true, hgi, hws]
      generalize 1 + 6 * (i : Int) = k at hk
      have w1 : w64 (k + 1) = k + 1 := w64_id (by omega) (by omega)
      have w2 : w64 (k + 1 + 1) = k + 1 + 1 := w64_id (by omega) (by omega)
      have w3 : w64 (k + 1 + 1 + 1) = k + 1 + 1 + 1 := w64_id (by omega) (by omega)
      have w4 : w64 (k + 1 + 1 + 1 + 1) = k + 1 + 1 + 1 + 1 := w64_id (by omega) (by omega)
      have w5 : w64 (k + 1 + 1 + 1 + 1 + 1) = k + 1 + 1 + 1 + 1 + 1 := w64_id (by omega) (by omega)
      have w6 : w64 (k + 1 + 1 + 1 + 1 + 1 + 1) = k + 1 + 1 + 1 + 1 + 1 + 1 := w64_id (by omega) (by omega)
      simp only [w1, w2, w3, w4, w5, w6, Option.bind_some]
      simp [mkT])
    (by simp [laws_heldThingS_L1, laws_heldThingS_L1_b])
  rw [laws_heldThingS, hk]
  simp [laws_heldThingS_L1_k, laws_heldThingS_L1_a, h2]
theorem markInts (a : List Int) (hl : a.length ≤ 1048576) : ∃ c l', ¬ c < 0 ∧ laws_markIntS a 1 = some (c, l') ∧ laws_heldIntS l' 1 = some c := by
  obtain ⟨l', h1, h2⟩ := markIntS_eq a hl
  exact ⟨_, l', by omega, h1, h2⟩
theorem markThings (a : List Thing) (hl : a.length ≤ 1048576) : ∃ c l', ¬ c < 0 ∧ laws_markThingS a 1 = some (c, l') ∧ laws_heldThingS l' 1 = some c := by
  obtain ⟨l', h1, h2⟩ := markThingS_eq a hl
  exact ⟨_, l', by omega, h1, h2⟩
end Go.Sx
