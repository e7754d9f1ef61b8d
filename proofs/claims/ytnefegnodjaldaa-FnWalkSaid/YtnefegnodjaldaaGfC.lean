/- Best arrivals, the earliest arrival, the promise: the exact laws answer true. -/
import Derived.Test.YtnefegnodjaldaaGfB
namespace Go.Sx
open Relax
set_option linter.unusedVariables false

theorem idx_lt {l : List ByteArray} {p : ByteArray} (h : ¬ idxV l p < 0) : ∃ k : Nat, idxV l p = (k : Int) ∧ k < l.length := by
  unfold idxV at *
  cases hf : l.findIdx? (fun x => decide (x = p)) with
  | none => rw [hf] at h; simp at h
  | some i => obtain ⟨hi, _⟩ := List.findIdx?_eq_some_iff_getElem.1 hf; exact ⟨i, rfl, hi⟩
def v0N (at0 : Int) : Int := if 0 > at0 then 0 else at0
def x0N (n : Network) (st : Nat) (at0 : Int) : List Int := (List.replicate (plcs n).length (-1)).set st (v0N at0)
theorem g_x0 {n : Network} {st : Nat} {at0 : Int} (hst : st < (plcs n).length) (v : Nat) : g (x0N n st at0) v = if v = st then v0N at0 else -1 := by
  unfold x0N
  rw [g_set (by simpa using hst)]
  by_cases hv : v = st
  · rw [if_pos hv, if_pos hv]
  · rw [if_neg hv, if_neg hv]
    unfold g
    by_cases h : v < (plcs n).length
    · simp [h]
    · simp [h]
theorem x0_start {n : Network} {st : Nat} {at0 : Int} (hst : st < (plcs n).length) (ha : ¬ at0 > 100000) : Relax.Start (plcs n).length (x0N n st at0) st ∧ g (x0N n st at0) st ≤ 100000 := by
  have hg := g_x0 (at0 := at0) hst
  have hv : 0 ≤ v0N at0 ∧ v0N at0 ≤ 100000 := by unfold v0N; split <;> omega
  refine ⟨⟨by simp [x0N], hst, by rw [hg, if_pos rfl]; exact hv.1, fun v hne => by rw [hg, if_neg hne]; omega⟩, by rw [hg, if_pos rfl]; exact hv.2⟩
theorem first_eq0 (n : Network) (h : NetS n) (st : Nat) (hst : st < (plcs n).length) (at0 : Int) : spec_l4First (plcs n) (st : Int) at0 = some (x0N n st at0) := by
  have hp := plcs_len n h
  have hlen : (x0N n st at0).length = (plcs n).length := by simp [x0N]
  unfold spec_l4First
  have := loop_go (body := spec_l4First_L1 (plcs n) (st : Int) at0) (plcs n).length (fun i => ((x0N n st at0).take i, (i : Int))) (x0N n st at0) (show (plcs n).length < 1000000000000 by omega) (fun i hi => by
    have hi' : i < (x0N n st at0).length := by omega
    have hget : (x0N n st at0)[i] = if i = st then v0N at0 else -1 := by
      have := g_x0 (at0 := at0) hst i
      simpa [g, hi'] using this
    have hM : spec_Max at0 0 = some (v0N at0) := by
      unfold spec_Max v0N
      by_cases hh : 0 > at0 <;> simp [hh]
    have hws : w64 ((i : Int) + 1) = ((i + 1 : Nat) : Int) := by rw [w64_id (by omega) (by omega)]; omega
    have hap : ∀ z : Int, ap 8 ((x0N n st at0).take i) ([z] : List Int) = some ((x0N n st at0).take i ++ [z]) := fun z => ap_eq (by simp; omega) (by omega)
    show spec_l4First_L1_b (plcs n) (st : Int) at0 _ _ = _
    unfold spec_l4First_L1_b
    rw [List.take_succ_eq_append_getElem hi', hget]
    simp only [Int.ofNat_lt, hi, decide_true, cond_true, hws, hM, hap, Option.bind_some]
    by_cases hs : i = st
    · subst hs; simp
    · have : ((i : Int) == (st : Int)) = false := by simp; omega
      simp [this, hs]) (by
    show spec_l4First_L1_b (plcs n) (st : Int) at0 _ _ = _
    rw [show (x0N n st at0).take (plcs n).length = x0N n st at0 by rw [← hlen, List.take_length]]
    simp [spec_l4First_L1_b])
  have : loopM (spec_l4First_L1 (plcs n) (st : Int) at0) big (([] : List Int), 0) = some (.inl (x0N n st at0)) := this
  rw [this]
  rfl
theorem fill_eq (n : Network) (h : NetS n) : loopM (impl_arrivals_at1fn83_L1 (plcs n)) big (([] : List Int), 0) = some (.inl (List.replicate (plcs n).length (-1))) := by
  have hp := plcs_len n h
  exact loop_go (body := impl_arrivals_at1fn83_L1 (plcs n)) (plcs n).length (fun i => (List.replicate i (-1), (i : Int))) (List.replicate (plcs n).length (-1)) (show (plcs n).length < 1000000000000 by omega) (fun i hi => by
    have hws : w64 ((i : Int) + 1) = ((i + 1 : Nat) : Int) := by rw [w64_id (by omega) (by omega)]; omega
    show impl_arrivals_at1fn83_L1_b (plcs n) _ _ = _
    unfold impl_arrivals_at1fn83_L1_b
    simp only [Int.ofNat_lt, hi, decide_true, cond_true]
    rw [ap_eq (by simp; omega) (by omega), hws, List.replicate_succ']
    rfl) (by
    show impl_arrivals_at1fn83_L1_b (plcs n) _ _ = _
    simp [impl_arrivals_at1fn83_L1_b])
def bestV (n : Network) (a : ByteArray) (at0 legs : Int) : List Int :=
  if netB n = true ∧ ¬ idxV (plcs n) a < 0 ∧ ¬ at0 > 100000 ∧ ¬ legs < 0 then X (iA n) (iB n) (arrN n (idxV (plcs n) a).toNat) n.Legs.length (x0N n (idxV (plcs n) a).toNat at0) legs.toNat else []
theorem best_spec (n : Network) (h : NetS n) (a : ByteArray) (at0 legs : Int) : spec_BestArrivals n a at0 legs = some (bestV n a at0 legs) := by
  have hp := plcs_len n h
  unfold spec_BestArrivals bestV
  rw [spec_PlacesOf_eq n h, spec_IsNetwork_eq n h]
  simp only [Option.bind_some, index_eq _ _ (show (plcs n).length ≤ 4000000 by omega)]
  cases hn : netB n with
  | false => simp
  | true =>
    by_cases h1 : idxV (plcs n) a < 0
    · simp [h1]
    by_cases h2 : at0 > 100000
    · simp [h1, h2]
    by_cases h3 : legs < 0
    · simp [h1, h2, h3]
    obtain ⟨st, e, hst⟩ := idx_lt h1
    obtain ⟨S, hs⟩ := x0_start hst h2
    simp only [h1, h2, h3, Bool.not_true, cond_false, decide_false, not_false_eq_true, and_self, if_true]
    rw [e, first_eq0 n h st hst]
    simp only [Option.bind_some, spec_rounds n h hn S hs legs (by omega), spec_BestArrivals_L1_k, spec_BestArrivals_L1_a, Int.toNat_natCast]
theorem best_impl (n : Network) (h : NetS n) (a : ByteArray) (at0 legs : Int) : impl_BestArrivals n a at0 legs = some (bestV n a at0 legs) := by
  have hp := plcs_len n h
  unfold impl_BestArrivals bestV
  rw [impl_IsNetwork_eq n h]
  cases hn : netB n with
  | false => simp
  | true =>
    simp only [Option.bind_some, Bool.not_true, cond_false, impl_nextOf, true_and]
    unfold impl_arrivals_at1fn83
    rw [impl_PlacesOf_eq n h]
    simp only [Option.bind_some, placeAt_eq _ _ (show (plcs n).length ≤ 4000000 by omega)]
    by_cases h1 : idxV (plcs n) a < 0
    · simp [h1]
    by_cases h2 : at0 > 100000
    · simp [h1, h2]
    by_cases h3 : legs < 0
    · simp [h1, h2, h3]
    obtain ⟨st, e, hst⟩ := idx_lt h1
    obtain ⟨S, hs⟩ := x0_start hst h2
    simp only [h1, h2, h3, cond_false, decide_false, not_false_eq_true, and_self, if_true]
    rw [fill_eq n h, e]
    have hg : gi (List.replicate (plcs n).length (-1 : Int)) (st : Int) = some (-1) := by rw [gi_nat (by simpa using hst)]; simp
    have hr := impl_rounds n h hn S hs legs (by omega)
    simp only [Option.bind_some, impl_arrivals_at1fn83_L1_k, impl_arrivals_at1fn83_L1_a, hg, Int.toNat_natCast]
    rw [show (List.replicate (plcs n).length (-1 : Int)).set st (if 0 > at0 then 0 else at0) = x0N n st at0 from rfl, hr]
    simp only [Option.bind_some, impl_arrivals_at1fn83_L2_k, impl_arrivals_at1fn83_L2_a]
theorem best_len (n : Network) (h : NetS n) (a : ByteArray) (at0 legs : Int) : bestV n a at0 legs = [] ∨ ((bestV n a at0 legs).length = (plcs n).length ∧ ∀ v, g (bestV n a at0 legs) v = -1 ∨ 0 ≤ g (bestV n a at0 legs) v) := by
  unfold bestV
  split
  · rename_i hc
    obtain ⟨hn, h1, h2, h3⟩ := hc
    obtain ⟨st, e, hst⟩ := idx_lt h1
    obtain ⟨S, hs⟩ := x0_start hst h2
    rw [e, Int.toNat_natCast]
    refine .inr ⟨X_len (A := iA n) (relax_ok hn st) S _, ?_⟩
    generalize legs.toNat = k
    induction k with
    | zero =>
      intro v
      show g (x0N n st at0) v = -1 ∨ _
      by_cases hv : v = st
      · subst hv; exact .inr S.pos
      · exact .inl (by rw [g_x0 hst, if_neg hv])
    | succ k ih =>
      intro v
      rcases (inv (A := iA n) (relax_ok hn st) _ (X_len (A := iA n) (relax_ok hn st) S k) n.Legs.length (Nat.le_refl _)).from_ v with e1 | ⟨e1, _⟩
      · have e1 : g (X (iA n) (iB n) (arrN n st) n.Legs.length (x0N n st at0) (k + 1)) v = g (X (iA n) (iB n) (arrN n st) n.Legs.length (x0N n st at0) k) v := e1
        rw [e1]; exact ih v
      · exact .inr e1
  · exact .inl rfl
def earV (n : Network) (a b : ByteArray) (at0 : Int) : Int := if idxV (plcs n) b < 0 ∨ bestV n a at0 (plcs n).length = [] then -1 else g (bestV n a at0 (plcs n).length) (idxV (plcs n) b).toNat
theorem ear_spec (n : Network) (h : NetS n) (a b : ByteArray) (at0 : Int) : spec_EarliestAt n a b at0 = some (earV n a b at0) ∧ impl_EarliestAt n a b at0 = some (earV n a b at0) := by
  have hp := plcs_len n h
  unfold spec_EarliestAt impl_EarliestAt earV
  rw [spec_PlacesOf_eq n h, impl_PlacesOf_eq n h]
  simp only [Option.bind_some, placeAt_eq _ _ (show (plcs n).length ≤ 4000000 by omega), index_eq _ _ (show (plcs n).length ≤ 4000000 by omega), best_spec n h, best_impl n h]
  by_cases h1 : idxV (plcs n) b < 0
  · simp [h1]
  obtain ⟨t, e, ht⟩ := idx_lt h1
  rcases best_len n h a at0 (plcs n).length with h2 | ⟨h2, _⟩
  · simp [h1, h2]
  · have hne : bestV n a at0 (plcs n).length ≠ [] := fun e0 => by rw [e0] at h2; simp only [List.length_nil] at h2; omega
    have hz : (((bestV n a at0 (plcs n).length).length : Int) == 0) = false := by rw [h2]; exact beq_eq_false_iff_ne.2 (by omega)
    simp only [h1, decide_false, cond_false, hz, e, gi_g (show t < (bestV n a at0 (plcs n).length).length by rw [h2]; exact ht), Option.bind_some, hne, or_self, if_false, Int.toNat_natCast]
    constructor <;> trivial
theorem ear_neg (n : Network) (h : NetS n) (a b : ByteArray) (at0 : Int) : earV n a b at0 = -1 ∨ 0 ≤ earV n a b at0 := by
  unfold earV
  split
  · exact .inl rfl
  · rename_i hc
    rcases best_len n h a at0 (plcs n).length with h2 | ⟨_, h2⟩
    · exact absurd (.inr h2) hc
    · exact h2 _
end Go.Sx
