/- FindWay: the exact law answers true. -/
import Derived.Test.YtnefegnodjaldaaGfV
namespace Go.Sx
open Relax (g g_set X)
set_option linter.unusedVariables false

theorem markTripS_eq (a : List Trip) (hl : a.length ≤ 1048576) : ∃ c l', ¬ c < 0 ∧ laws_markTripS a 1 = some (c, l') ∧ laws_heldTripS l' 1 = some c := by
  obtain ⟨l', h1, h2, h3⟩ := mark_up (body := laws_markTripS_L1) a 2 (fun i => Trip.mk (1 + 2 * (i : Int)) (1 + 2 * (i : Int) + 1)) hl (fun i l hi h => by
      have hil : i < l.length := by omega
      have e6 : 1 + 2 * ((i + 1 : Nat) : Int) = 1 + 2 * (i : Int) + 1 + 1 := by omega
      rw [e6]
      have hk : (0 : Int) ≤ 1 + 2 * (i : Int) ∧ 1 + 2 * (i : Int) ≤ 8000000 := by omega
      generalize 1 + 2 * (i : Int) = k at hk
      have w1 : w64 (k + 1) = k + 1 := w64_id (by omega) (by omega)
      have w2 : w64 (k + 1 + 1) = k + 1 + 1 := w64_id (by omega) (by omega)
      simp only [laws_markTripS_L1, laws_markTripS_L1_b, Int.ofNat_lt, hil, decide_true, cond_true, Int.toNat_natCast, w1, w2, w64_succ (Nat.le_of_lt (Nat.lt_of_lt_of_le hi hl)), gi_nat, List.length_set, List.set_set, List.getElem_set_self, Option.bind_some])
    (fun l h => by simp [laws_markTripS_L1, laws_markTripS_L1_b, h])
  refine ⟨1 + 2 * (a.length : Int), l', by omega, by rw [laws_markTripS, h1]; simp [laws_markTripS_L1_k, laws_markTripS_L1_a], ?_⟩
  have hk := held_up (body := laws_heldTripS_L1 l') l' 2 (fun i => Trip.mk (1 + 2 * (i : Int)) (1 + 2 * (i : Int) + 1)) (by omega) (by rw [h2]; exact h3) (fun i hi e => by
      have e6 : 1 + 2 * ((i + 1 : Nat) : Int) = 1 + 2 * (i : Int) + 1 + 1 := by omega
      rw [e6]
      have hws := w64_succ (by omega : i ≤ 1048576)
      have hgi := gi_nat hi
      rw [e] at hgi
      simp only [laws_heldTripS_L1, laws_heldTripS_L1_b, Int.ofNat_lt, hi, decide_true, cond_true, hgi, hws]
      have hk : (0 : Int) ≤ 1 + 2 * (i : Int) ∧ 1 + 2 * (i : Int) ≤ 8000000 := by omega
      generalize 1 + 2 * (i : Int) = k at hk
      have w1 : w64 (k + 1) = k + 1 := w64_id (by omega) (by omega)
      have w2 : w64 (k + 1 + 1) = k + 1 + 1 := w64_id (by omega) (by omega)
      simp only [w1, w2, Option.bind_some]
      simp)
    (by simp [laws_heldTripS_L1, laws_heldTripS_L1_b])
  rw [laws_heldTripS, hk]
  simp [laws_heldTripS_L1_k, laws_heldTripS_L1_a, h2]
theorem fw_len (n : Network) (a b : ByteArray) (t : Int) : (fwV n a b t).1.length ≤ 40 := by
  by_cases hE : earV n a b t < 0
  · unfold fwV
    rw [if_pos hE]; simp
  · obtain ⟨st, x, hf, e1, e2, hst, hx, hD, T, hV⟩ := fw_tight (n := n) (a := a) (b := b) (t := t) (by omega)
    obtain ⟨l1, _⟩ := lgs_spec n st t x
    have h40 := plcs_le hf.1
    rw [hV]
    show (bckW n st t (lgsN n st t x) x (DN n st t x)).length ≤ 40
    rw [bck_len hf.1 hst hf.2.2 _ _ _ T]
    omega
theorem FnExactFindWay_true (n : Network) (a b : ByteArray) (at0 : Int) (hN : NetIn n) : laws_FnExactFindWay n a b at0 = some true := by
  unfold laws_FnExactFindWay
  by_cases ha : (a.size : Int) > 1048576
  · simp [ha]
  by_cases hb2 : (b.size : Int) > 1048576
  · simp [hb2]
  obtain ⟨v, hv, hc⟩ := szNetwork_le n hN
  rw [hv]
  simp only [ha, hb2, decide_false, cond_false]
  by_cases hn : v < 0
  · simp [hn]
  obtain ⟨hS, hv1⟩ := hc.resolve_left hn
  have hr : (fwV n a b at0).1.length ≤ 1048576 := Nat.le_trans (fw_len n a b at0) (by omega)
  obtain ⟨k, n', k0, k1, e1⟩ := markNetwork_tot n hS
  obtain ⟨c3, m3, n3, e3, e4⟩ := markTripS_eq _ hr
  simp [hn, toNetwork_eq n hS, findWay_spec n hS, findWay_impl n hS, eqNetwork_refl n hS, eqTripS_refl _ hr, e1, e3, e4, n3, show ¬ k < 0 by omega]
end Go.Sx
