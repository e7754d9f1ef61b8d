/- What is reached by a time, and the choices: the exact laws answer true. -/
import Derived.Test.YtnefegnodjaldaaGfC
namespace Go.Sx
open Relax
set_option linter.unusedVariables false

theorem best_le (n : Network) (h : NetS n) (a : ByteArray) (at0 legs : Int) : (bestV n a at0 legs).length ≤ 40 ∧ (netB n = false → bestV n a at0 legs = []) := by
  unfold bestV
  split
  · rename_i hq
    obtain ⟨hq, h1, h2, h3⟩ := hq
    obtain ⟨st, e, hst⟩ := idx_lt h1
    obtain ⟨S, hs⟩ := x0_start hst h2
    rw [e, Int.toNat_natCast, X_len (A := iA n) (relax_ok hq st) S]
    have h20 : n.Legs.length ≤ 20 := by
      have hq' := hq
      simp only [netB, Bool.and_eq_true, decide_eq_true_eq] at hq'
      omega
    have := ins_len (nmL n.Legs) []
    rw [nmL_len] at this
    simp only [List.length_nil] at this
    refine ⟨by unfold plcs; omega, fun hf => by rw [hq] at hf; cases hf⟩
  · exact ⟨by simp, fun _ => rfl⟩
theorem plcs_le {n : Network} (hn : netB n = true) : (plcs n).length ≤ 40 := by
  have h20 : n.Legs.length ≤ 20 := by
    simp only [netB, Bool.and_eq_true, decide_eq_true_eq] at hn
    omega
  have := ins_len (nmL n.Legs) []
  rw [nmL_len] at this
  simp only [List.length_nil] at this
  unfold plcs
  omega
theorem gi_some_g {l : List Int} {i x : Int} (h : gi l i = some x) : g l i.toNat = x ∧ 0 ≤ i ∧ i.toNat < l.length := by
  obtain ⟨h0, h1⟩ := gi_map encI h
  rw [List.getElem?_map] at h1
  cases hy : l[i.toNat]? with
  | none => rw [hy] at h1; cases h1
  | some y =>
    rw [hy] at h1
    simp [encI] at h1
    exact ⟨by simp [g, hy, h1], h0, (List.getElem?_eq_some_iff.1 hy).1⟩
theorem best_val (n : Network) (h : NetS n) (a : ByteArray) (at0 legs : Int) {i x : Int} (hg : gi (bestV n a at0 legs) i = some x) : x = -1 ∨ 0 ≤ x := by
  obtain ⟨e, _, hlt⟩ := gi_some_g hg
  rcases best_len n h a at0 legs with h1 | ⟨_, h1⟩
  · rw [h1] at hlt; simp at hlt
  · rw [← e]; exact h1 _
def txt (k : Int) : ByteArray := (laws_markText k).getD ByteArray.empty
theorem txt_eq {k : Int} (h0 : 0 ≤ k) (h1 : k ≤ 100000000) : laws_markText k = some (txt k) := by
  obtain ⟨s, hs⟩ := text_tot k h0 h1
  simp [txt, hs]
end Go.Sx
