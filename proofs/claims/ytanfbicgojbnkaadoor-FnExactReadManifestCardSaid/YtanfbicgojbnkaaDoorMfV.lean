/- The exact law on reading answers true. -/
import Derived.Test.YtanfbicgojbnkaaDoorMfS
import Derived.Test.YtanfbicgojbnkaaDoorSxT
namespace Go.Sx
set_option linter.unusedVariables false
theorem eqPairS_refl (a : List Pair) (hl : a.length ≤ 1048576) : laws_eqPairS a a = some true := by
  unfold laws_eqPairS
  have := loop_val (body := laws_eqPairS_L1 a a) a.length (fun i => (i : Int)) () hl (fun i hi => by simp [laws_eqPairS_L1, laws_eqPairS_L1_b, gi_nat hi, hi, laws_eqPair, w64_succ (Nat.le_of_lt (Nat.lt_of_lt_of_le hi hl))]) (by simp [laws_eqPairS_L1, laws_eqPairS_L1_b])
  rw [show ((0 : Nat) : Int) = 0 from rfl] at this
  rw [this]
  simp [laws_eqPairS_L1_k, laws_eqPairS_L1_a]
def mkP (k : Int) : Pair := ⟨k, k + 1⟩
theorem markPairS_eq (a : List Pair) (hl : a.length ≤ 1048576) : ∃ l', laws_markPairS a 1 = some (1 + 2 * (a.length : Int), l') ∧ laws_heldPairS l' 1 = some (1 + 2 * (a.length : Int)) := by
  obtain ⟨l', h1, h2, h3⟩ := mark_up (body := laws_markPairS_L1) a 2 (fun i => mkP (1 + 2 * (i : Int))) hl (fun i l hi h => by
      have hil : i < l.length := by omega
      have hk : (0 : Int) ≤ 1 + 2 * (i : Int) ∧ 1 + 2 * (i : Int) ≤ 8000000 := by omega
      have e6 : 1 + 2 * ((i + 1 : Nat) : Int) = 1 + 2 * (i : Int) + 1 + 1 := by omega
      rw [e6]
      generalize 1 + 2 * (i : Int) = k at hk
      have w1 : w64 (k + 1) = k + 1 := w64_id (by omega) (by omega)
      have w2 : w64 (k + 1 + 1) = k + 1 + 1 := w64_id (by omega) (by omega)
      simp only [laws_markPairS_L1, laws_markPairS_L1_b, Int.ofNat_lt, hil, decide_true, cond_true, Int.toNat_natCast, w1, w2, w64_succ (Nat.le_of_lt (Nat.lt_of_lt_of_le hi hl)), gi_nat, List.length_set, List.set_set, List.getElem_set_self, Option.bind_some]
      rfl)
    (fun l h => by simp [laws_markPairS_L1, laws_markPairS_L1_b, h])
  refine ⟨l', by rw [laws_markPairS, h1]; simp [laws_markPairS_L1_k, laws_markPairS_L1_a], ?_⟩
  have hk := held_up (body := laws_heldPairS_L1 l') l' 2 (fun i => mkP (1 + 2 * (i : Int))) (by omega) (by rw [h2]; exact h3) (fun i hi e => by
      have hk : (0 : Int) ≤ 1 + 2 * (i : Int) ∧ 1 + 2 * (i : Int) ≤ 8000000 := by omega
      have e6 : 1 + 2 * ((i + 1 : Nat) : Int) = 1 + 2 * (i : Int) + 1 + 1 := by omega
      rw [e6]
      have hws := w64_succ (by omega : i ≤ 1048576)
      have hgi := gi_nat hi
      rw [e] at hgi
      simp only [laws_heldPairS_L1, laws_heldPairS_L1_b, Int.ofNat_lt, hi, decide_true, cond_true, hgi, hws]
      generalize 1 + 2 * (i : Int) = k at hk
      have w1 : w64 (k + 1) = k + 1 := w64_id (by omega) (by omega)
      have w2 : w64 (k + 1 + 1) = k + 1 + 1 := w64_id (by omega) (by omega)
      simp only [w1, w2, Option.bind_some]
      simp [mkP])
    (by simp [laws_heldPairS_L1, laws_heldPairS_L1_b])
  rw [laws_heldPairS, hk]
  simp [laws_heldPairS_L1_k, laws_heldPairS_L1_a, h2]
theorem FnExactReadManifest_true (s : ByteArray) : laws_FnExactReadManifest s = some true := by
  unfold laws_FnExactReadManifest
  by_cases hb : (s.size : Int) > 1048576
  · rw [decide_eq_true hb]; rfl
  rw [decide_eq_false hb]
  obtain ⟨⟨r1, r2⟩, h1, h2, h3⟩ := read_eq s (by omega)
  simp only at h3
  have hl : r1.length ≤ 1048576 := by omega
  obtain ⟨l', m1, m2⟩ := markPairS_eq r1 hl
  have c1 : decide (1 + 2 * (r1.length : Int) < 0) = false := by simp; omega
  simp only [cond_false, h1, h2, Option.bind_some, eqPairS_refl r1 hl, Bool.not_true, m1, m2, c1, beq_self_eq_true, bne_self_eq_false]
end Go.Sx
