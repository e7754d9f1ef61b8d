/- What the functions of the program compute, said with the rounds and the sweeps. -/
import Derived.Test.YtnefegnodjaldaaGfG
namespace Go.Sx
open Relax (g g_set X)
set_option linter.unusedVariables false

theorem v0N_pos {a : Int} (h : 0 ≤ a) : v0N a = a := by unfold v0N; split <;> omega
/-- both places known, the start in range -/
def Fine (n : Network) (a : ByteArray) (at0 : Int) : Prop := netB n = true ∧ ¬ idxV (plcs n) a < 0 ∧ ¬ at0 > 100000
theorem best_fine {n : Network} {a : ByteArray} {at0 legs : Int} (h : Fine n a at0) (hl : 0 ≤ legs) : bestV n a at0 legs = XN n (idxV (plcs n) a).toNat at0 legs.toNat := by
  unfold bestV
  rw [if_pos ⟨h.1, h.2.1, h.2.2, by omega⟩]
theorem best_bad {n : Network} {a : ByteArray} {at0 legs : Int} (h : ¬ Fine n a at0) : bestV n a at0 legs = [] := by
  unfold bestV
  rw [if_neg (fun hh => h ⟨hh.1, hh.2.1, hh.2.2.1⟩)]
theorem Fine.lt {n : Network} {a : ByteArray} {at0 : Int} (h : Fine n a at0) : (idxV (plcs n) a).toNat < (plcs n).length := by
  obtain ⟨k, e, hk⟩ := idx_lt h.2.1
  rw [e]; exact hk
theorem XN_len {n : Network} (hn : netB n = true) {st : Nat} (hst : st < (plcs n).length) {at0 : Int} (ha : ¬ at0 > 100000) (k : Nat) : (XN n st at0 k).length = (plcs n).length := Relax.X_len (A := iA n) (relax_ok hn st) (x0_start hst ha).1 k
theorem XN_ne {n : Network} (hn : netB n = true) {st : Nat} (hst : st < (plcs n).length) {at0 : Int} (ha : ¬ at0 > 100000) (k : Nat) : XN n st at0 k ≠ [] := by
  intro e
  have := XN_len hn hst ha k
  rw [e] at this
  simp only [List.length_nil] at this
  omega
theorem ear_fine {n : Network} {a b : ByteArray} {at0 : Int} (h : Fine n a at0) (hb : ¬ idxV (plcs n) b < 0) : earV n a b at0 = DN n (idxV (plcs n) a).toNat at0 (idxV (plcs n) b).toNat := by
  unfold earV
  rw [best_fine h (by omega), if_neg]
  · rfl
  · intro hh
    rcases hh with hh | hh
    · exact hb hh
    · exact XN_ne h.1 h.lt h.2.2 _ hh
theorem ear_bad {n : Network} {a b : ByteArray} {at0 : Int} (h : ¬ (Fine n a at0 ∧ ¬ idxV (plcs n) b < 0)) : earV n a b at0 = -1 := by
  unfold earV
  by_cases hb : idxV (plcs n) b < 0
  · rw [if_pos (.inl hb)]
  · rw [if_pos (.inr (best_bad fun hf => h ⟨hf, hb⟩))]
/-- the earliest arrival grows with the start -/
theorem ear_later {n : Network} {a b : ByteArray} {t u : Int} (ht : 0 ≤ t) (htu : t ≤ u) (h : 0 ≤ earV n a b u) : 0 ≤ earV n a b t ∧ earV n a b t ≤ earV n a b u := by
  by_cases hc : Fine n a u ∧ ¬ idxV (plcs n) b < 0
  · have hf : Fine n a t := ⟨hc.1.1, hc.1.2.1, by have := hc.1.2.2; omega⟩
    rw [ear_fine hc.1 hc.2] at h ⊢
    rw [ear_fine hf hc.2]
    exact XN_later hc.1.1 hc.1.lt hc.1.2.2 (by rw [v0N_pos ht, v0N_pos (by omega)]; exact htu) hf.2.2 _ _ h
  · rw [ear_bad hc] at h
    omega
/-- the latest start -/
def lasV (n : Network) (a b : ByteArray) (b0 : Int) : Int := if netB n = true ∧ ¬ idxV (plcs n) a < 0 ∧ ¬ idxV (plcs n) b < 0 ∧ ¬ b0 < 0 then LN n (idxV (plcs n) b).toNat b0 (idxV (plcs n) a).toNat else -1
theorem las_low (n : Network) (a b : ByteArray) (b0 : Int) : -1 ≤ lasV n a b b0 := by
  unfold lasV
  split
  · rename_i h
    obtain ⟨k, e, hk⟩ := idx_lt h.2.2.1
    rw [e]
    rcases LN_neg h.1 hk (b := b0) (by omega) ((plcs n).length * n.Legs.length) (idxV (plcs n) a).toNat with h1 | h1
    · show -1 ≤ g (YN n k (y0N n k b0) ((plcs n).length * n.Legs.length)) _
      omega
    · show -1 ≤ g (YN n k (y0N n k b0) ((plcs n).length * n.Legs.length)) _
      omega
  · exact Int.le_refl _
/-- the promise -/
def dayV (e : Int) : Int := if Int.tmod e 1440 > 1080 then Int.tdiv e 1440 + 1 else Int.tdiv e 1440
def proV (n : Network) (s : Int) (a b : ByteArray) (t : Int) : Int := if earV n a b t < 0 ∨ s < 1 ∨ s > 3 then -1 else (dayV (earV n a b t) + (s - 1) * (s - 1)) * 1440 + 1080
theorem ear_big (n : Network) (a b : ByteArray) (t : Int) : earV n a b t ≤ 1000000 := by
  by_cases hc : Fine n a t ∧ ¬ idxV (plcs n) b < 0
  · rw [ear_fine hc.1 hc.2]
    exact XN_big hc.1.1 hc.1.lt hc.1.2.2 _ _
  · rw [ear_bad hc]; omega
theorem day_in {e : Int} (h : 0 ≤ e) : 0 ≤ dayV e ∧ dayV e ≤ e / 1440 + 1 ∧ dayV e = (if e % 1440 > 1080 then e / 1440 + 1 else e / 1440) := by
  have h1 : Int.tmod e 1440 = e % 1440 := Int.tmod_eq_emod_of_nonneg h
  have h2 : Int.tdiv e 1440 = e / 1440 := Int.tdiv_eq_ediv_of_nonneg h
  unfold dayV
  rw [h1, h2]
  refine ⟨?_, ?_, rfl⟩ <;> split <;> omega
end Go.Sx
