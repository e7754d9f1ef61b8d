/- The best arrivals: rounds until nothing turns, and a fixed number of rounds, come to the same. -/
import Derived.Test.YtnefegnodjaldaaGfS
namespace Go.Sx
open Relax
set_option linter.unusedVariables false

theorem gi_g {l : List Int} {k : Nat} (h : k < l.length) : gi l (k : Int) = some (g l k) := by
  rw [gi_nat h]; simp [g, h]
theorem idx_in {l : List ByteArray} {p : ByteArray} (h : p ∈ l) : ∃ k : Nat, idxV l p = (k : Int) ∧ k < l.length := by
  unfold idxV
  cases hf : l.findIdx? (fun x => decide (x = p)) with
  | none => have := List.findIdx?_eq_none_iff.1 hf p h; simp at this
  | some i => obtain ⟨hi, _⟩ := List.findIdx?_eq_some_iff_getElem.1 hf; exact ⟨i, rfl, hi⟩
theorem plcs_mem (n : Network) (x : ByteArray) : x ∈ plcs n ↔ x ∈ nmL n.Legs := by
  have := (ins_fold (nmL n.Legs) [] (by simp [Inc])).2 x
  unfold plcs
  rw [this]; simp
def iA (n : Network) (i : Nat) : Nat := (idxV (plcs n) (n.Legs[i]?.getD default).From).toNat
def iB (n : Network) (i : Nat) : Nat := (idxV (plcs n) (n.Legs[i]?.getD default).To).toNat
theorem leg_mem {n : Network} {i : Nat} (hi : i < n.Legs.length) : n.Legs[i].From ∈ plcs n ∧ n.Legs[i].To ∈ plcs n := by
  rw [plcs_mem, plcs_mem]
  obtain ⟨h1, h2⟩ := nmL_get n.Legs i hi
  exact ⟨List.mem_of_getElem? h1, List.mem_of_getElem? h2⟩
theorem iA_spec {n : Network} {i : Nat} (hi : i < n.Legs.length) : idxV (plcs n) n.Legs[i].From = (iA n i : Int) ∧ iA n i < (plcs n).length := by
  obtain ⟨k, h1, h2⟩ := idx_in (leg_mem hi).1
  have : iA n i = k := by unfold iA; simp [hi, h1]
  rw [this]; exact ⟨h1, h2⟩
theorem iB_spec {n : Network} {i : Nat} (hi : i < n.Legs.length) : idxV (plcs n) n.Legs[i].To = (iB n i : Int) ∧ iB n i < (plcs n).length := by
  obtain ⟨k, h1, h2⟩ := idx_in (leg_mem hi).2
  have : iB n i = k := by unfold iB; simp [hi, h1]
  rw [this]; exact ⟨h1, h2⟩
def nxtB (n : Network) (leg at0 : Int) (d : Nat) : Bool := runB n leg d && decide (stT n ⟨leg, d⟩ ≥ at0)
theorem spec_next_eq (n : Network) (h : NetS n) (hn : netB n = true) (leg at0 : Int) : spec_l3Next n leg at0 = some (match (List.range 61).find? (nxtB n leg at0) with | some d => (d : Int) | none => -1) := by
  unfold spec_l3Next
  have := loopM_each' (body := spec_l3Next_L1 n leg at0) (X := Unit) (List.range 61) (fun _ i => i) (fun _ d _ => bif nxtB n leg at0 d then .inr (d : Int) else .inl ()) (fun x => x) () (fun i hi y => by
    have h61 : i < 61 := by simpa using hi
    have hle : (i : Int) ≤ 60 := by omega
    rw [range61 hi]
    simp only [spec_l3Next_L1, spec_l3Next_L1_b, hle, decide_true, cond_true, spec_runs_eq n h, Option.bind_some, w64_succ (by omega : i ≤ 1048576), nxtB]
    cases hr : runB n leg i with
    | false => simp [ctl]
    | true =>
      have ht : tripB n ⟨leg, i⟩ = true := by simp [tripB, hn, hr]
      simp only [cond_true, starts_eq ht, Option.bind_some, Bool.true_and]
      cases decide (stT n ⟨leg, i⟩ ≥ at0) <;> simp [ctl]) (fun x => by simp [spec_l3Next_L1, spec_l3Next_L1_b]) (by simp)
  rw [each_find (nxtB n leg at0) (fun d => (d : Int))] at this
  rw [this]
  cases (List.range 61).find? (nxtB n leg at0) <;> simp [fin, spec_l3Next_L1_k, spec_l3Next_L1_a]
theorem impl_next_eq (n : Network) (h : NetS n) (hn : netB n = true) (leg at0 : Int) : impl_next n leg at0 = some (match (List.range 61).find? (nxtB n leg at0) with | some d => (⟨leg, d⟩, true) | none => (⟨0, 0⟩, false)) := by
  unfold impl_next
  have := loopM_each' (body := impl_next_L1 n leg at0) (X := Unit) (List.range 61) (fun _ i => i) (fun _ d _ => bif nxtB n leg at0 d then .inr ((⟨leg, d⟩ : Trip), true) else .inl ()) (fun x => x) () (fun i hi y => by
    have h61 : i < 61 := by simpa using hi
    have hle : (i : Int) ≤ 60 := by omega
    rw [range61 hi]
    simp only [impl_next_L1, impl_next_L1_b, hle, decide_true, cond_true, impl_runs_eq n h, Option.bind_some, w64_succ (by omega : i ≤ 1048576), nxtB]
    cases hr : runB n leg i with
    | false => simp [ctl]
    | true =>
      have ht : tripB n ⟨leg, i⟩ = true := by simp [tripB, hn, hr]
      simp only [cond_true, starts_eq' ht, Option.bind_some, Bool.true_and]
      cases decide (stT n ⟨leg, i⟩ ≥ at0) <;> simp [ctl]) (fun x => by simp [impl_next_L1, impl_next_L1_b]) (by simp)
  rw [each_find (nxtB n leg at0) (fun d => ((⟨leg, d⟩ : Trip), true))] at this
  rw [this]
  cases (List.range 61).find? (nxtB n leg at0) <;> simp [fin, impl_next_L1_k, impl_next_L1_a]
def rdyN (n : Network) (st i : Nat) (x : Int) : Int := if iA n i = st then x else w64 (x + n.Change)
def arrN (n : Network) (st i : Nat) (x : Int) : Option Int :=
  if x ≤ 1000000 then (match (List.range 61).find? (nxtB n i (rdyN n st i x)) with | some d => some (enT n ⟨i, d⟩) | none => none) else none
theorem nxt_trip {n : Network} (hn : netB n = true) {leg at0 : Int} {d : Nat} (h : (List.range 61).find? (nxtB n leg at0) = some d) : tripB n ⟨leg, d⟩ = true ∧ at0 ≤ stT n ⟨leg, d⟩ := by
  have := List.find?_some h
  simp only [nxtB, Bool.and_eq_true, decide_eq_true_eq] at this
  exact ⟨by simp [tripB, hn, this.1], this.2⟩
theorem arrN_in {n : Network} (hn : netB n = true) {st i : Nat} {x e : Int} (h0 : 0 ≤ x) (h : arrN n st i x = some e) : x < e ∧ e ≤ 95000 := by
  unfold arrN at h
  split at h
  · rename_i hx
    cases hf : (List.range 61).find? (nxtB n i (rdyN n st i x)) with
    | none => rw [hf] at h; cases h
    | some d =>
      rw [hf] at h
      injection h with h
      subst h
      obtain ⟨ht, hs⟩ := nxt_trip hn hf
      have hb := stT_in ht
      have hc := change_in hn
      have : x ≤ rdyN n st i x := by
        unfold rdyN
        split
        · exact Int.le_refl _
        · rw [w64_id (by omega) (by omega)]; omega
      omega
  · cases h
theorem relax_ok {n : Network} (hn : netB n = true) (st : Nat) : Relax.Ok (iB n) (arrN n st) (plcs n).length n.Legs.length :=
  ⟨fun i hi => (iB_spec hi).2, fun i x e hi h0 h => (arrN_in hn h0 h).1⟩
theorem spec_round (n : Network) (h : NetS n) (hn : netB n = true) (st : Nat) (old : List Int) (hl : old.length = (plcs n).length) (hb : ∀ v, g old v ≤ 1000000) :
    spec_l4Round n (plcs n) old (st : Int) = some (rndI (iA n) (iB n) (arrN n st) old n.Legs.length).1 := by
  have hp := plcs_len n h
  have hL := h.legs
  unfold spec_l4Round spec_l1Ints
  rw [ap_eq (by simp; omega) (by omega)]
  have := loop_go (body := spec_l4Round_L1 n (plcs n) old (st : Int)) n.Legs.length (fun i => ((rndI (iA n) (iB n) (arrN n st) old i).1, (i : Int))) (rndI (iA n) (iB n) (arrN n st) old n.Legs.length).1 (big_pos hL) (fun i hi => by
    have I := inv (A := iA n) (relax_ok hn st) old hl i (Nat.le_of_lt hi)
    show spec_l4Round_L1_b n (plcs n) old (st : Int) (rndI (iA n) (iB n) (arrN n st) old i).1 (i : Int) = some (.next ((stp (iA n) (iB n) (arrN n st) old i (rndI (iA n) (iB n) (arrN n st) old i)).1, ((i + 1 : Nat) : Int)))
    generalize rndI (iA n) (iB n) (arrN n st) old i = s at I
    obtain ⟨a1, a2⟩ := iA_spec hi
    obtain ⟨b1, b2⟩ := iB_spec hi
    have ga : gi old (iA n i : Int) = some (g old (iA n i)) := gi_g (by omega)
    have gb : gi s.1 (iB n i : Int) = some (g s.1 (iB n i)) := gi_g (by rw [I.len]; exact b2)
    have hws := w64_succ (Nat.le_of_lt (Nat.lt_of_lt_of_le hi hL))
    unfold spec_l4Round_L1_b stp
    simp only [Int.ofNat_lt, hi, decide_true, cond_true, gi_nat hi, Option.bind_some, index_eq _ _ (show (plcs n).length ≤ 4000000 by omega), a1, b1, ga, gb, hws]
    by_cases h0 : g old (iA n i) < 0
    · simp [h0]
    · have hr : spec_l4Ready n (g old (iA n i)) ((iA n i : Int) == (st : Int)) = some (rdyN n st i (g old (iA n i))) := by
        unfold spec_l4Ready rdyN
        by_cases hs : iA n i = st
        · simp [hs]
        · have : ((iA n i : Int) == (st : Int)) = false := by simp; omega
          simp [this, hs]
      simp only [h0, decide_false, cond_false, if_false, hr, Option.bind_some, spec_next_eq n h hn, arrN, if_pos (hb (iA n i))]
      cases hf : (List.range 61).find? (nxtB n i (rdyN n st i (g old (iA n i)))) with
      | none => simp
      | some d =>
        obtain ⟨ht, _⟩ := nxt_trip hn hf
        simp only [show ¬ (d : Int) < 0 by omega, decide_false, cond_false, ends_eq ht, Option.bind_some, Int.toNat_natCast]
        by_cases h1 : g s.1 (iB n i) < 0
        · simp [h1]
        · by_cases h2 : enT n ⟨i, d⟩ < g s.1 (iB n i) <;> simp [h1, h2]) (by
    show spec_l4Round_L1_b n (plcs n) old (st : Int) _ _ = _
    simp [spec_l4Round_L1_b])
  have : loopM (spec_l4Round_L1 n (plcs n) old (st : Int)) big (old, 0) = some (.inl (rndI (iA n) (iB n) (arrN n st) old n.Legs.length).1) := this
  simp only [Option.bind_some, List.nil_append, this, spec_l4Round_L1_k, spec_l4Round_L1_a]
theorem impl_round (n : Network) (h : NetS n) (hn : netB n = true) (st : Nat) (old : List Int) (hl : old.length = (plcs n).length) (hb : ∀ v, g old v ≤ 1000000) :
    loopM (impl_arrivals_at1fn83_L3 n n (plcs n) (st : Int) old) big (old, false, 0) = some (.inl (rndI (iA n) (iB n) (arrN n st) old n.Legs.length)) := by
  have hp := plcs_len n h
  have hL := h.legs
  have := loop_go (body := impl_arrivals_at1fn83_L3 n n (plcs n) (st : Int) old) n.Legs.length (fun i => ((rndI (iA n) (iB n) (arrN n st) old i).1, (rndI (iA n) (iB n) (arrN n st) old i).2, (i : Int))) (rndI (iA n) (iB n) (arrN n st) old n.Legs.length) (big_pos hL) (fun i hi => by
    have I := inv (A := iA n) (relax_ok hn st) old hl i (Nat.le_of_lt hi)
    show impl_arrivals_at1fn83_L3_b n n (plcs n) (st : Int) old (rndI (iA n) (iB n) (arrN n st) old i).1 (rndI (iA n) (iB n) (arrN n st) old i).2 (i : Int) = some (.next ((stp (iA n) (iB n) (arrN n st) old i (rndI (iA n) (iB n) (arrN n st) old i)).1, (stp (iA n) (iB n) (arrN n st) old i (rndI (iA n) (iB n) (arrN n st) old i)).2, ((i + 1 : Nat) : Int)))
    generalize rndI (iA n) (iB n) (arrN n st) old i = s at I
    obtain ⟨a1, a2⟩ := iA_spec hi
    obtain ⟨b1, b2⟩ := iB_spec hi
    have ga : gi old (iA n i : Int) = some (g old (iA n i)) := gi_g (by omega)
    have gb : gi s.1 (iB n i : Int) = some (g s.1 (iB n i)) := gi_g (by rw [I.len]; exact b2)
    have hws := w64_succ (Nat.le_of_lt (Nat.lt_of_lt_of_le hi hL))
    unfold impl_arrivals_at1fn83_L3_b stp
    simp only [Int.ofNat_lt, hi, decide_true, cond_true, gi_nat hi, Option.bind_some, placeAt_eq _ _ (show (plcs n).length ≤ 4000000 by omega), a1, b1, ga, gb, hws]
    by_cases h0 : g old (iA n i) < 0
    · simp [h0]
    · have hr : impl_readyAt n (g old (iA n i)) ((iA n i : Int) == (st : Int)) = some (rdyN n st i (g old (iA n i))) := by
        unfold impl_readyAt rdyN
        by_cases hs : iA n i = st
        · simp [hs]
        · have : ((iA n i : Int) == (st : Int)) = false := by simp; omega
          simp [this, hs]
      simp only [h0, decide_false, cond_false, if_false, hr, Option.bind_some, impl_nextOf_c1, impl_next_eq n h hn, arrN, if_pos (hb (iA n i)), impl_arrivals_at1fn83_j1, gb, hws]
      cases hf : (List.range 61).find? (nxtB n i (rdyN n st i (g old (iA n i)))) with
      | none => simp
      | some d =>
        obtain ⟨ht, _⟩ := nxt_trip hn hf
        simp only [cond_true, ends_eq' ht, Option.bind_some, Int.toNat_natCast]
        by_cases h1 : g s.1 (iB n i) < 0
        · simp [h1]
        · by_cases h2 : enT n ⟨i, d⟩ < g s.1 (iB n i) <;> simp [h1, h2]) (by
    show impl_arrivals_at1fn83_L3_b n n (plcs n) (st : Int) old _ _ _ = _
    simp [impl_arrivals_at1fn83_L3_b])
  exact this
theorem X_big {n : Network} (hn : netB n = true) {st : Nat} {x0 : List Int} (S : Relax.Start (plcs n).length x0 st) (hs : g x0 st ≤ 100000) : ∀ k v, g (X (iA n) (iB n) (arrN n st) n.Legs.length x0 k) v ≤ 1000000
  | 0, v => by
    by_cases hv : v = st
    · subst hv; show g x0 v ≤ _; omega
    · have := S.other v hv; show g x0 v ≤ _; omega
  | k + 1, v => by
    rcases (inv (A := iA n) (relax_ok hn st) _ (X_len (A := iA n) (relax_ok hn st) S k) n.Legs.length (Nat.le_refl _)).from_ v with e | ⟨_, _, j, hj, _, h3, h4⟩
    · have e : g (X (iA n) (iB n) (arrN n st) n.Legs.length x0 (k + 1)) v = g (X (iA n) (iB n) (arrN n st) n.Legs.length x0 k) v := e
      rw [e]; exact X_big hn S hs k v
    · have := (arrN_in hn h3 h4).2
      exact Int.le_trans this (by omega)
theorem spec_rounds (n : Network) (h : NetS n) (hn : netB n = true) {st : Nat} {x0 : List Int} (S : Relax.Start (plcs n).length x0 st) (hs : g x0 st ≤ 100000) (legs : Int) (hg : 0 ≤ legs) :
    loopM (spec_BestArrivals_L1 n legs (plcs n) (st : Int)) big (x0, 0) = some (.inl (X (iA n) (iB n) (arrN n st) n.Legs.length x0 legs.toNat)) := by
  have H := relax_ok hn st
  have hp := plcs_len n h
  have hm : 0 < (plcs n).length := Nat.lt_of_le_of_lt (Nat.zero_le _) S.lt
  have hall : ∀ k, (plcs n).length ≤ k + 1 → X (iA n) (iB n) (arrN n st) n.Legs.length x0 k = X (iA n) (iB n) (arrN n st) n.Legs.length x0 ((plcs n).length - 1) := fun k hk => by
    have h1 := still (A := iA n) H S (k := (plcs n).length - 1) (by omega)
    have := still_on H S h1 (k - ((plcs n).length - 1))
    rw [show (plcs n).length - 1 + (k - ((plcs n).length - 1)) = k by omega] at this
    exact this
  have := loop_go (body := spec_BestArrivals_L1 n legs (plcs n) (st : Int)) (min legs.toNat (plcs n).length) (fun i => (X (iA n) (iB n) (arrN n st) n.Legs.length x0 i, (i : Int))) (X (iA n) (iB n) (arrN n st) n.Legs.length x0 legs.toNat) (show min legs.toNat (plcs n).length < 1000000000000 by omega) (fun i hi => by
    show spec_BestArrivals_L1_b n legs (plcs n) (st : Int) _ _ = _
    unfold spec_BestArrivals_L1_b
    have h1 : (i : Int) < legs := by omega
    have h2 : (i : Int) < ((plcs n).length : Int) := by omega
    simp only [h1, h2, decide_true, cond_true, spec_round n h hn st _ (X_len (A := iA n) H S i) (X_big hn S hs i), Option.bind_some]
    rw [show w64 ((i : Int) + 1) = ((i + 1 : Nat) : Int) by rw [w64_id (by omega) (by omega)]; omega]
    rfl) (by
    show spec_BestArrivals_L1_b n legs (plcs n) (st : Int) _ _ = _
    unfold spec_BestArrivals_L1_b
    by_cases hc : legs.toNat ≤ (plcs n).length
    · have h1 : ¬ ((min legs.toNat (plcs n).length : Nat) : Int) < legs := by omega
      rw [show min legs.toNat (plcs n).length = legs.toNat by omega] at h1 ⊢
      simp only [h1, decide_false, cond_false]
    · have h1 : ¬ ((min legs.toNat (plcs n).length : Nat) : Int) < ((plcs n).length : Int) := by omega
      have e : X (iA n) (iB n) (arrN n st) n.Legs.length x0 legs.toNat = X (iA n) (iB n) (arrN n st) n.Legs.length x0 (min legs.toNat (plcs n).length) := by rw [hall _ (by omega), hall (min legs.toNat (plcs n).length) (by omega)]
      rw [e]
      simp only [h1, decide_false, cond_false]
      cases decide (((min legs.toNat (plcs n).length : Nat) : Int) < legs) <;> rfl)
  exact this
theorem impl_rounds (n : Network) (h : NetS n) (hn : netB n = true) {st : Nat} {x0 : List Int} (S : Relax.Start (plcs n).length x0 st) (hs : g x0 st ≤ 100000) (legs : Int) (hg : 0 ≤ legs) :
    loopM (impl_arrivals_at1fn83_L2 n n legs (plcs n) (st : Int)) big (x0, 0) = some (.inl (X (iA n) (iB n) (arrN n st) n.Legs.length x0 legs.toNat)) := by
  have H := relax_ok hn st
  have hp := plcs_len n h
  have step : ∀ k : Nat, ((k : Int) < legs) → impl_arrivals_at1fn83_L2 n n legs (plcs n) (st : Int) (X (iA n) (iB n) (arrN n st) n.Legs.length x0 k, (k : Int)) = bif (rndI (iA n) (iB n) (arrN n st) (X (iA n) (iB n) (arrN n st) n.Legs.length x0 k) n.Legs.length).2 then some (.next (X (iA n) (iB n) (arrN n st) n.Legs.length x0 (k + 1), w64 ((k : Int) + 1))) else some (.brk (X (iA n) (iB n) (arrN n st) n.Legs.length x0 (k + 1))) := fun k hk => by
    show impl_arrivals_at1fn83_L2_b n n legs (plcs n) (st : Int) _ _ = _
    unfold impl_arrivals_at1fn83_L2_b
    have hlen := X_len (A := iA n) H S k
    simp only [hk, decide_true, cond_true]
    rw [ap_eq (by simp; omega) (by omega)]
    simp only [Option.bind_some, List.nil_append]
    rw [impl_round n h hn st _ hlen (X_big hn S hs k)]
    simp only [Option.bind_some, impl_arrivals_at1fn83_L3_k, impl_arrivals_at1fn83_L3_a]
    cases (rndI (iA n) (iB n) (arrN n st) (X (iA n) (iB n) (arrN n st) n.Legs.length x0 k) n.Legs.length).2 <;> rfl
  have done : ∀ k : Nat, k ≤ legs.toNat → X (iA n) (iB n) (arrN n st) n.Legs.length x0 (k + 1) = X (iA n) (iB n) (arrN n st) n.Legs.length x0 k → X (iA n) (iB n) (arrN n st) n.Legs.length x0 (k + 1) = X (iA n) (iB n) (arrN n st) n.Legs.length x0 legs.toNat := fun k hk e => by
    have := still_on H S e (legs.toNat - k)
    rw [show k + (legs.toNat - k) = legs.toNat by omega] at this
    rw [this]; exact e
  have stop : ∀ k : Nat, k ≤ legs.toNat → ¬ (k : Int) < legs → impl_arrivals_at1fn83_L2 n n legs (plcs n) (st : Int) (X (iA n) (iB n) (arrN n st) n.Legs.length x0 k, (k : Int)) = some (.brk (X (iA n) (iB n) (arrN n st) n.Legs.length x0 legs.toNat)) := fun k hk hn' => by
    show impl_arrivals_at1fn83_L2_b n n legs (plcs n) (st : Int) _ _ = _
    unfold impl_arrivals_at1fn83_L2_b
    have : k = legs.toNat := by omega
    subst this
    simp only [hn', decide_false, cond_false]
  obtain ⟨x, h1, h2⟩ := loopM_up (body := impl_arrivals_at1fn83_L2 n n legs (plcs n) (st : Int)) (plcs n).length (fun k s => s = (X (iA n) (iB n) (arrN n st) n.Legs.length x0 k, (k : Int)) ∧ k ≤ legs.toNat) (fun x => x = .inl (X (iA n) (iB n) (arrN n st) n.Legs.length x0 legs.toNat)) (fun k s hk hs' => by
    obtain ⟨rfl, hle⟩ := hs'
    by_cases hlt : (k : Int) < legs
    · rw [step k hlt]
      cases hf : (rndI (iA n) (iB n) (arrN n st) (X (iA n) (iB n) (arrN n st) n.Legs.length x0 k) n.Legs.length).2 with
      | true => exact .inl ⟨_, rfl, by rw [show w64 ((k : Int) + 1) = ((k + 1 : Nat) : Int) by rw [w64_id (by omega) (by omega)]; omega], by omega⟩
      | false =>
        have e := (inv (A := iA n) H _ (X_len (A := iA n) H S k) n.Legs.length (Nat.le_refl _)).no hf
        exact .inr (.inl ⟨_, rfl, by rw [done k hle e]⟩)
    · exact .inr (.inl ⟨_, stop k hle hlt, rfl⟩)) (fun s hs' => by
    obtain ⟨rfl, hle⟩ := hs'
    by_cases hlt : ((plcs n).length : Int) < legs
    · rw [step _ hlt]
      have e := still (A := iA n) H S (k := (plcs n).length) (by omega)
      cases hf : (rndI (iA n) (iB n) (arrN n st) (X (iA n) (iB n) (arrN n st) n.Legs.length x0 (plcs n).length) n.Legs.length).2 with
      | true =>
        obtain ⟨v, _, hv⟩ := (inv (A := iA n) H _ (X_len (A := iA n) H S (plcs n).length) n.Legs.length (Nat.le_refl _)).yes hf
        have e' : (rndI (iA n) (iB n) (arrN n st) (X (iA n) (iB n) (arrN n st) n.Legs.length x0 (plcs n).length) n.Legs.length).1 = X (iA n) (iB n) (arrN n st) n.Legs.length x0 (plcs n).length := e
        exact absurd (by rw [e']) hv
      | false => exact .inl ⟨_, rfl, by rw [done _ hle e]⟩
    · exact .inl ⟨_, stop _ hle hlt, rfl⟩) (x0, 0) ⟨rfl, Nat.zero_le _⟩ (show (plcs n).length < 1000000000000 by omega)
  rw [h1, h2]
end Go.Sx
