/- The laws about ways answer true: who starts later, a way over a third place, the latest start. -/
import Derived.Test.YtnefegnodjaldaaGfF
namespace Go.Sx
open Relax (g g_set X)
set_option linter.unusedVariables false

theorem best_vals {n : Network} {p : ByteArray} {t : Int} {k : Nat} (hf : Fine n p t) : bestV n p t (k : Int) = XN n (idxV (plcs n) p).toNat t k := by
  rw [best_fine hf (by omega), Int.toNat_natCast]
theorem lawIndex_eq (l : List ByteArray) (p : ByteArray) (hl : l.length ≤ 4000000) : laws_index l p = some (idxV l p) := by
  rw [← idx_loop (body := laws_index_L1 l p) l p hl (fun i hi => by
    show laws_index_L1_b l p _ = _
    unfold laws_index_L1_b
    simp only [Int.ofNat_lt, hi, decide_true, cond_true, gi_nat hi, Option.bind_some, bytes_eq_decide]
    rw [w64_id (by omega) (by omega)]
    by_cases h : l[i] = p <;> simp [h]) (by
    show laws_index_L1_b l p _ = _
    simp [laws_index_L1_b])]
  unfold laws_index
  congr 1
theorem las_fine {n : Network} {p q : ByteArray} {b : Int} (hn : netB n = true) (hp : ¬ idxV (plcs n) p < 0) (hq : ¬ idxV (plcs n) q < 0) (hb : 0 ≤ b) : lasV n p q b = LN n (idxV (plcs n) q).toNat b (idxV (plcs n) p).toNat := by
  unfold lasV
  rw [if_pos ⟨hn, hp, hq, by omega⟩]
theorem las_le {n : Network} {p q : ByteArray} {b : Int} (hn : netB n = true) (hp : ¬ idxV (plcs n) p < 0) (hq : ¬ idxV (plcs n) q < 0) (hb : 0 ≤ b) : lasV n p q b ≤ b := by
  rw [las_fine hn hp hq hb]
  obtain ⟨k, e, hk⟩ := idx_lt hq
  rw [e]
  by_cases h : 0 ≤ LN n k b (idxV (plcs n) p).toNat
  · exact LN_le hn hk _ _ h
  · simp only [Int.toNat_natCast]; omega
/-- the latest start and the earliest arrival are two sides of one thing -/
theorem dual {n : Network} {p q : ByteArray} {s b : Int} (hn : netB n = true) (hp : ¬ idxV (plcs n) p < 0) (hq : ¬ idxV (plcs n) q < 0) (hs0 : 0 ≤ s) (hs : s ≤ 100000) (hb0 : 0 ≤ b) (hb : b ≤ 100000) :
    (0 ≤ earV n p q s ∧ earV n p q s ≤ b) ↔ s ≤ lasV n p q b := by
  have hf : Fine n p s := ⟨hn, hp, by omega⟩
  have hx : (idxV (plcs n) q).toNat < (plcs n).length := (show Fine n q s from ⟨hn, hq, by omega⟩).lt
  rw [ear_fine hf hq, las_fine hn hp hq hb0]
  constructor
  · intro ⟨h1, h2⟩
    exact dual_2 hn hf.lt hx hs0 (by omega) hb0 hb h1 h2
  · intro h
    exact dual_1 hn hf.lt hx hs0 (by omega) hb0 hb h
end Go.Sx
