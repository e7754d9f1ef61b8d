/- The latest starts: what both functions compute; the exact laws answer true. -/
import Derived.Test.YtnefegnodjaldaaGfL
namespace Go.Sx
open Relax (g g_set)
set_option linter.unusedVariables false

def lfN (n : Network) (x i : Nat) (v : Int) : Option Int :=
  if v ≤ 9223372036854775807 then (match days.find? (lasB n i (if iB n i = x then v else w64 (v - n.Change))) with | some d => some (stT n ⟨i, d⟩) | none => none) else none
theorem las_trip {n : Network} (hn : netB n = true) {leg due : Int} {d : Nat} (h : days.find? (lasB n leg due) = some d) : tripB n ⟨leg, d⟩ = true ∧ enT n ⟨leg, d⟩ ≤ due := by
  have := List.find?_some h
  simp only [lasB, Bool.and_eq_true, decide_eq_true_eq] at this
  exact ⟨by simp [tripB, hn, this.1], this.2⟩
theorem lfN_in {n : Network} (hn : netB n = true) {x i : Nat} {v s : Int} (h0 : 0 ≤ v) (h : lfN n x i v = some s) : s < v ∧ s ≤ 90000 := by
  unfold lfN at h
  split at h
  · rename_i hv
    cases hf : days.find? (lasB n i (if iB n i = x then v else w64 (v - n.Change))) with
    | none => rw [hf] at h; cases h
    | some d =>
      rw [hf] at h
      injection h with h
      subst h
      obtain ⟨ht, hs⟩ := las_trip hn hf
      have hb := stT_in ht
      have hc := change_in hn
      have : (if iB n i = x then v else w64 (v - n.Change)) ≤ v := by
        split
        · exact Int.le_refl _
        · rw [w64_id (by omega) (by omega)]; omega
      omega
  · cases h
theorem sweep_ok {n : Network} (hn : netB n = true) (hL : 0 < n.Legs.length) {x : Nat} (hx : x < (plcs n).length) : Sweep.Ok (iA n) (lfN n x) (plcs n).length n.Legs.length x :=
  ⟨hL, fun i hi => (iA_spec hi).2, fun i v s hi h0 h => (lfN_in hn h0 h).1, hx⟩
abbrev YN (n : Network) (x : Nat) (y0 : List Int) (t : Nat) : List Int := Sweep.Y (iA n) (iB n) (lfN n x) x n.Legs.length y0 t
theorem set_g {l : List Int} {k : Nat} (h : k < l.length) : l.set k (g l k) = l := by
  apply List.ext_getElem?
  intro i
  by_cases hi : k = i
  · subst hi; simp [g, h]
  · rw [List.getElem?_set_ne hi]
theorem Y_big {n : Network} (hn : netB n = true) (hL : 0 < n.Legs.length) {x : Nat} (hx : x < (plcs n).length) {y0 : List Int} (h0 : y0.length = (plcs n).length) (hb : ∀ v, g y0 v ≤ 9223372036854775807) : ∀ t v, g (Sweep.Y (iA n) (iB n) (lfN n x) x n.Legs.length y0 t) v ≤ 9223372036854775807
  | 0, v => hb v
  | t + 1, v => by
    rcases Sweep.step_at (B := iB n) (sweep_ok hn hL hx) h0 t v with e | ⟨_, _, e2, e3, _⟩
    · rw [e]; exact Y_big hn hL hx h0 hb t v
    · have := (lfN_in hn e2 e3).2
      omega
theorem Y_goal {n : Network} (hn : netB n = true) (hL : 0 < n.Legs.length) {x : Nat} (hx : x < (plcs n).length) {y0 : List Int} (h0 : y0.length = (plcs n).length) : ∀ t, g (Sweep.Y (iA n) (iB n) (lfN n x) x n.Legs.length y0 t) x = g y0 x
  | 0 => rfl
  | t + 1 => by
    rcases Sweep.step_at (B := iB n) (sweep_ok hn hL hx) h0 t x with e | ⟨_, e, _⟩
    · rw [e]; exact Y_goal hn hL hx h0 t
    · exact absurd rfl e
end Go.Sx
