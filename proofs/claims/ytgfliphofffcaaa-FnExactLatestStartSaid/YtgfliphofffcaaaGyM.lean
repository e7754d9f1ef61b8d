/- The latest starts: what both functions compute; the exact laws answer true. -/
import Derived.Test.YtgfliphofffcaaaGyL
namespace Go.Sx
open Relax (g g_set)
set_option linter.unusedVariables false

def lfN (n : Network) (x i : Nat) (v : Int) : Option Int :=
  if v ≤ 9223372036854775807 then (match days.find? (lasB n i (if iB n i = x then v else w64 (v - n.Change))) with | some d => some (stT n ⟨i, d⟩) | none => none) else none
theorem las_trip {n : Network} (hn : netB n = true) {leg due : Int} {d : Nat} (h : days.find? (lasB n leg due) = some d) : tripB n ⟨leg, d⟩ = true ∧ enT n ⟨leg, d⟩ ≤ due := by
  have := List.find?_some h
  simp only [lasB, Bool.and_eq_true, decide_eq_true_eq] at this
  exact ⟨by simp [tripB, hn, this.1], this.2⟩
theorem lfN_in {n : Network} (hn : netB n = true) {x i : Nat} {v s : Int} (h0 : 0 ≤ v) (h : lfN n x i v = some s) : s < v ∧ s ≤ 90000 := by
  unfold lfN at h
  split at h
  · rename_i hv
    cases hf : days.find? (lasB n i (if iB n i = x then v else w64 (v - n.Change))) with
    | none => rw [hf] at h; cases h
    | some d =>
      rw [hf] at h
      injection h with h
      subst h
      obtain ⟨ht, hs⟩ := las_trip hn hf
      have hb := stT_in ht
      have hc := change_in hn
      have : (if iB n i = x then v else w64 (v - n.Change)) ≤ v := by
        split
        · exact Int.le_refl _
        · rw [w64_id (by omega) (by omega)]; omega
      omega
  · cases h
theorem sweep_ok {n : Network} (hn : netB n = true) (hL : 0 < n.Legs.length) {x : Nat} (hx : x < (plcs n).length) : Sweep.Ok (iA n) (lfN n x) (plcs n).length n.Legs.length x :=
  ⟨hL, fun i hi => (iA_spec hi).2, fun i v s hi h0 h => (lfN_in hn h0 h).1, hx⟩
abbrev YN (n : Network) (x : Nat) (y0 : List Int) (t : Nat) : List Int := Sweep.Y (iA n) (iB n) (lfN n x) x n.Legs.length y0 t
theorem set_g {l : List Int} {k : Nat} (h : k < l.length) : l.set k (g l k) = l := by
  apply List.ext_getElem?
  intro i
  by_cases hi : k = i
  · subst hi; simp [g, h]
  · rw [List.getElem?_set_ne hi]
theorem Y_big {n : Network} (hn : netB n = true) (hL : 0 < n.Legs.length) {x : Nat} (hx : x < (plcs n).length) {y0 : List Int} (h0 : y0.length = (plcs n).length) (hb : ∀ v, g y0 v ≤ 9223372036854775807) : ∀ t v, g (Sweep.Y (iA n) (iB n) (lfN n x) x n.Legs.length y0 t) v ≤ 9223372036854775807
  | 0, v => hb v
  | t + 1, v => by
    rcases Sweep.step_at (B := iB n) (sweep_ok hn hL hx) h0 t v with e | ⟨_, _, e2, e3, _⟩
    · rw [e]; exact Y_big hn hL hx h0 hb t v
    · have := (lfN_in hn e2 e3).2
      omega
theorem Y_goal {n : Network} (hn : netB n = true) (hL : 0 < n.Legs.length) {x : Nat} (hx : x < (plcs n).length) {y0 : List Int} (h0 : y0.length = (plcs n).length) : ∀ t, g (Sweep.Y (iA n) (iB n) (lfN n x) x n.Legs.length y0 t) x = g y0 x
  | 0 => rfl
  | t + 1 => by
    rcases Sweep.step_at (B := iB n) (sweep_ok hn hL hx) h0 t x with e | ⟨_, e, _⟩
    · rw [e]; exact Y_goal hn hL hx h0 t
    · exact absurd rfl e
/-- one leg of the inserting loop of the specification -/
theorem spec_leg (n : Network) (h : NetS n) (hn : netB n = true) {x : Nat} (hx : x < (plcs n).length) (l : List Int) (hl : l.length = (plcs n).length) (hb : ∀ v, g l v ≤ 9223372036854775807) (i : Nat) (hi : i < n.Legs.length) :
    spec_LatestStarts_L3 n (plcs n) (x : Int) (l, (i : Int)) = some (.next (Sweep.stp (iA n) (iB n) (lfN n x) x i l, ((i + 1 : Nat) : Int))) := by
  have hp := plcs_len n h
  have hL := h.legs
  obtain ⟨a1, a2⟩ := iA_spec hi
  obtain ⟨b1, b2⟩ := iB_spec hi
  have ga : gi l (iA n i : Int) = some (g l (iA n i)) := gi_g (by omega)
  have gb : gi l (iB n i : Int) = some (g l (iB n i)) := gi_g (by omega)
  have hws := w64_succ (Nat.le_of_lt (Nat.lt_of_lt_of_le hi hL))
  show spec_LatestStarts_L3_b n (plcs n) (x : Int) l (i : Int) = _
  unfold spec_LatestStarts_L3_b
  simp only [Int.ofNat_lt, hi, decide_true, cond_true, gi_nat hi, Option.bind_some, index_eq _ _ (show (plcs n).length ≤ 4000000 by omega), a1, b1, gb]
  have key : ∀ due : Int, due = (if iB n i = x then g l (iB n i) else w64 (g l (iB n i) - n.Change)) → spec_LatestStarts_j1 n (x : Int) l (i : Int) (iA n i : Int) (iB n i : Int) due = some (.next (Sweep.stp (iA n) (iB n) (lfN n x) x i l, ((i + 1 : Nat) : Int))) := fun due hdue => by
    unfold spec_LatestStarts_j1 Sweep.stp
    simp only [spec_last_eq n h hn, Option.bind_some, gb, ga, hws]
    by_cases h0 : g l (iB n i) < 0
    · simp [h0]
    · have hxa : ((iA n i : Int) == (x : Int)) = decide (iA n i = x) := by
        by_cases e : iA n i = x
        · simp [e]
        · simp only [e, decide_false]; exact beq_eq_false_iff_ne.2 (by omega)
      simp only [h0, decide_false, cond_false, false_or, hxa, lfN, if_pos (hb (iB n i)), ← hdue]
      cases hf : days.find? (lasB n i due) with
      | none =>
        by_cases e : iA n i = x <;> simp [e]
      | some d =>
        obtain ⟨ht, _⟩ := las_trip hn hf
        simp only [show ¬ (d : Int) < 0 by omega, decide_false, cond_false, starts_eq ht, Option.bind_some]
        by_cases e : iA n i = x
        · simp [e]
        · simp only [e, decide_false, cond_false, if_false, Int.toNat_natCast]
          by_cases hs : g l (iA n i) < stT n ⟨i, d⟩
          · simp [spec_Max, hs]
          · have : spec_Max (g l (iA n i)) (stT n ⟨i, d⟩) = some (g l (iA n i)) := by simp [spec_Max, hs]
            rw [this]
            simp only [Option.bind_some, if_neg hs]
            rw [set_g (by omega)]
  by_cases e : iB n i = x
  · have : ((iB n i : Int) != (x : Int)) = false := by simp [e]
    rw [this]
    exact key _ (by rw [if_pos e])
  · have : ((iB n i : Int) != (x : Int)) = true := by simp; omega
    rw [this]
    exact key _ (by rw [if_neg e])
end Go.Sx
