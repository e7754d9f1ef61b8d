/- Part of a proof: GdB GdC GdR GdL GdM GdN GdO GdQ GdU GdZ. -/
import Derived.Test.YtpgpgangmkjhlaaGdP1
import Derived.Test.YtpgpgangmkjhlaaSxUs
import Derived.Test.YtpgpgangmkjhlaaSxUs
section
/- The best arrivals: rounds until nothing turns, and a fixed number of rounds, come to the same. -/
namespace Go.Sx
open Relax
set_option linter.unusedVariables false

theorem gi_g {l : List Int} {k : Nat} (h : k < l.length) : gi l (k : Int) = some (g l k) := by
  rw [gi_nat h]; simp [g, h]
theorem idx_in {l : List ByteArray} {p : ByteArray} (h : p ∈ l) : ∃ k : Nat, idxV l p = (k : Int) ∧ k < l.length := by
  unfold idxV
  cases hf : l.findIdx? (fun x => decide (x = p)) with
  | none => have := List.findIdx?_eq_none_iff.1 hf p h; simp at this
  | some i => obtain ⟨hi, _⟩ := List.findIdx?_eq_some_iff_getElem.1 hf; exact ⟨i, rfl, hi⟩
theorem plcs_mem (n : Network) (x : ByteArray) : x ∈ plcs n ↔ x ∈ nmL n.Legs := by
  have := (ins_fold (nmL n.Legs) [] (by simp [Inc])).2 x
  unfold plcs
  rw [this]; simp
def iA (n : Network) (i : Nat) : Nat := (idxV (plcs n) (n.Legs[i]?.getD default).From).toNat
def iB (n : Network) (i : Nat) : Nat := (idxV (plcs n) (n.Legs[i]?.getD default).To).toNat
theorem leg_mem {n : Network} {i : Nat} (hi : i < n.Legs.length) : n.Legs[i].From ∈ plcs n ∧ n.Legs[i].To ∈ plcs n := by
  rw [plcs_mem, plcs_mem]
  obtain ⟨h1, h2⟩ := nmL_get n.Legs i hi
  exact ⟨List.mem_of_getElem? h1, List.mem_of_getElem? h2⟩
theorem iA_spec {n : Network} {i : Nat} (hi : i < n.Legs.length) : idxV (plcs n) n.Legs[i].From = (iA n i : Int) ∧ iA n i < (plcs n).length := by
  obtain ⟨k, h1, h2⟩ := idx_in (leg_mem hi).1
  have : iA n i = k := by unfold iA; simp [hi, h1]
  rw [this]; exact ⟨h1, h2⟩
theorem iB_spec {n : Network} {i : Nat} (hi : i < n.Legs.length) : idxV (plcs n) n.Legs[i].To = (iB n i : Int) ∧ iB n i < (plcs n).length := by
  obtain ⟨k, h1, h2⟩ := idx_in (leg_mem hi).2
  have : iB n i = k := by unfold iB; simp [hi, h1]
  rw [this]; exact ⟨h1, h2⟩
def nxtB (n : Network) (leg at0 : Int) (d : Nat) : Bool := runB n leg d && decide (stT n ⟨leg, d⟩ ≥ at0)
theorem spec_next_eq (n : Network) (h : NetS n) (hn : netB n = true) (leg at0 : Int) : spec_l3Next n leg at0 = some (match (List.range 61).find? (nxtB n leg at0) with | some d => (d : Int) | none => -1) := by
  unfold spec_l3Next
  have := loopM_each' (body := spec_l3Next_L1 n leg at0) (X := Unit) (List.range 61) (fun _ i => i) (fun _ d _ => bif nxtB n leg at0 d then .inr (d : Int) else .inl ()) (fun x => x) () (fun i hi y => by
    have h61 : i < 61 := by simpa using hi
    have hle : (i : Int) ≤ 60 := by omega
    rw [range61 hi]
    simp only [spec_l3Next_L1, spec_l3Next_L1_b, hle, decide_true, cond_true, spec_runs_eq n h, Option.bind_some, w64_succ (by omega : i ≤ 1048576), nxtB]
    cases hr : runB n leg i with
    | false => simp [ctl]
    | true =>
      have ht : tripB n ⟨leg, i⟩ = true := by simp [tripB, hn, hr]
      simp only [cond_true, starts_eq ht, Option.bind_some, Bool.true_and]
      cases decide (stT n ⟨leg, i⟩ ≥ at0) <;> simp [ctl]) (fun x => by simp [spec_l3Next_L1, spec_l3Next_L1_b]) (by simp)
  rw [each_find (nxtB n leg at0) (fun d => (d : Int))] at this
  rw [this]
  cases (List.range 61).find? (nxtB n leg at0) <;> simp [fin, spec_l3Next_L1_k, spec_l3Next_L1_a]
def rdyN (n : Network) (st i : Nat) (x : Int) : Int := if iA n i = st then x else w64 (x + n.Change)
def arrN (n : Network) (st i : Nat) (x : Int) : Option Int :=
  if x ≤ 1000000 then (match (List.range 61).find? (nxtB n i (rdyN n st i x)) with | some d => some (enT n ⟨i, d⟩) | none => none) else none
theorem nxt_trip {n : Network} (hn : netB n = true) {leg at0 : Int} {d : Nat} (h : (List.range 61).find? (nxtB n leg at0) = some d) : tripB n ⟨leg, d⟩ = true ∧ at0 ≤ stT n ⟨leg, d⟩ := by
  have := List.find?_some h
  simp only [nxtB, Bool.and_eq_true, decide_eq_true_eq] at this
  exact ⟨by simp [tripB, hn, this.1], this.2⟩
theorem arrN_in {n : Network} (hn : netB n = true) {st i : Nat} {x e : Int} (h0 : 0 ≤ x) (h : arrN n st i x = some e) : x < e ∧ e ≤ 95000 := by
  unfold arrN at h
  split at h
  · rename_i hx
    cases hf : (List.range 61).find? (nxtB n i (rdyN n st i x)) with
    | none => rw [hf] at h; cases h
    | some d =>
      rw [hf] at h
      injection h with h
      subst h
      obtain ⟨ht, hs⟩ := nxt_trip hn hf
      have hb := stT_in ht
      have hc := change_in hn
      have : x ≤ rdyN n st i x := by
        unfold rdyN
        split
        · exact Int.le_refl _
        · rw [w64_id (by omega) (by omega)]; omega
      omega
  · cases h
theorem relax_ok {n : Network} (hn : netB n = true) (st : Nat) : Relax.Ok (iB n) (arrN n st) (plcs n).length n.Legs.length :=
  ⟨fun i hi => (iB_spec hi).2, fun i x e hi h0 h => (arrN_in hn h0 h).1⟩
theorem spec_round (n : Network) (h : NetS n) (hn : netB n = true) (st : Nat) (old : List Int) (hl : old.length = (plcs n).length) (hb : ∀ v, g old v ≤ 1000000) :
    spec_l4Round n (plcs n) old (st : Int) = some (rndI (iA n) (iB n) (arrN n st) old n.Legs.length).1 := by
  have hp := plcs_len n h
  have hL := h.legs
  unfold spec_l4Round spec_l1Ints
  rw [ap_eq (by simp; omega) (by omega)]
  have := loop_go (body := spec_l4Round_L1 n (plcs n) old (st : Int)) n.Legs.length (fun i => ((rndI (iA n) (iB n) (arrN n st) old i).1, (i : Int))) (rndI (iA n) (iB n) (arrN n st) old n.Legs.length).1 (big_pos hL) (fun i hi => by
    have I := inv (A := iA n) (relax_ok hn st) old hl i (Nat.le_of_lt hi)
    show spec_l4Round_L1_b n (plcs n) old (st : Int) (rndI (iA n) (iB n) (arrN n st) old i).1 (i : Int) = some (.next ((stp (iA n) (iB n) (arrN n st) old i (rndI (iA n) (iB n) (arrN n st) old i)).1, ((i + 1 : Nat) : Int)))
    generalize rndI (iA n) (iB n) (arrN n st) old i = s at I
    obtain ⟨a1, a2⟩ := iA_spec hi
    obtain ⟨b1, b2⟩ := iB_spec hi
    have ga : gi old (iA n i : Int) = some (g old (iA n i)) := gi_g (by omega)
    have gb : gi s.1 (iB n i : Int) = some (g s.1 (iB n i)) := gi_g (by rw [I.len]; exact b2)
    have hws := w64_succ (Nat.le_of_lt (Nat.lt_of_lt_of_le hi hL))
    unfold spec_l4Round_L1_b stp
    simp only [Int.ofNat_lt, hi, decide_true, cond_true, gi_nat hi, Option.bind_some, index_eq _ _ (show (plcs n).length ≤ 4000000 by omega), a1, b1, ga, gb, hws]
    by_cases h0 : g old (iA n i) < 0
    · simp [h0]
    · have hr : spec_l4Ready n (g old (iA n i)) ((iA n i : Int) == (st : Int)) = some (rdyN n st i (g old (iA n i))) := by
        unfold spec_l4Ready rdyN
        by_cases hs : iA n i = st
        · simp [hs]
        · have : ((iA n i : Int) == (st : Int)) = false := by simp; omega
          simp [this, hs]
      simp only [h0, decide_false, cond_false, if_false, hr, Option.bind_some, spec_next_eq n h hn, arrN, if_pos (hb (iA n i))]
      cases hf : (List.range 61).find? (nxtB n i (rdyN n st i (g old (iA n i)))) with
      | none => simp
      | some d =>
        obtain ⟨ht, _⟩ := nxt_trip hn hf
        simp only [show ¬ (d : Int) < 0 by omega, decide_false, cond_false, ends_eq ht, Option.bind_some, Int.toNat_natCast]
        by_cases h1 : g s.1 (iB n i) < 0
        · simp [h1]
        · by_cases h2 : enT n ⟨i, d⟩ < g s.1 (iB n i) <;> simp [h1, h2]) (by
    show spec_l4Round_L1_b n (plcs n) old (st : Int) _ _ = _
    simp [spec_l4Round_L1_b])
  have : loopM (spec_l4Round_L1 n (plcs n) old (st : Int)) big (old, 0) = some (.inl (rndI (iA n) (iB n) (arrN n st) old n.Legs.length).1) := this
  simp only [Option.bind_some, List.nil_append, this, spec_l4Round_L1_k, spec_l4Round_L1_a]
theorem X_big {n : Network} (hn : netB n = true) {st : Nat} {x0 : List Int} (S : Relax.Start (plcs n).length x0 st) (hs : g x0 st ≤ 100000) : ∀ k v, g (X (iA n) (iB n) (arrN n st) n.Legs.length x0 k) v ≤ 1000000
  | 0, v => by
    by_cases hv : v = st
    · subst hv; show g x0 v ≤ _; omega
    · have := S.other v hv; show g x0 v ≤ _; omega
  | k + 1, v => by
    rcases (inv (A := iA n) (relax_ok hn st) _ (X_len (A := iA n) (relax_ok hn st) S k) n.Legs.length (Nat.le_refl _)).from_ v with e | ⟨_, _, j, hj, _, h3, h4⟩
    · have e : g (X (iA n) (iB n) (arrN n st) n.Legs.length x0 (k + 1)) v = g (X (iA n) (iB n) (arrN n st) n.Legs.length x0 k) v := e
      rw [e]; exact X_big hn S hs k v
    · have := (arrN_in hn h3 h4).2
      exact Int.le_trans this (by omega)
theorem spec_rounds (n : Network) (h : NetS n) (hn : netB n = true) {st : Nat} {x0 : List Int} (S : Relax.Start (plcs n).length x0 st) (hs : g x0 st ≤ 100000) (legs : Int) (hg : 0 ≤ legs) :
    loopM (spec_BestArrivals_L1 n legs (plcs n) (st : Int)) big (x0, 0) = some (.inl (X (iA n) (iB n) (arrN n st) n.Legs.length x0 legs.toNat)) := by
  have H := relax_ok hn st
  have hp := plcs_len n h
  have hm : 0 < (plcs n).length := Nat.lt_of_le_of_lt (Nat.zero_le _) S.lt
  have hall : ∀ k, (plcs n).length ≤ k + 1 → X (iA n) (iB n) (arrN n st) n.Legs.length x0 k = X (iA n) (iB n) (arrN n st) n.Legs.length x0 ((plcs n).length - 1) := fun k hk => by
    have h1 := still (A := iA n) H S (k := (plcs n).length - 1) (by omega)
    have := still_on H S h1 (k - ((plcs n).length - 1))
    rw [show (plcs n).length - 1 + (k - ((plcs n).length - 1)) = k by omega] at this
    exact this
  have := loop_go (body := spec_BestArrivals_L1 n legs (plcs n) (st : Int)) (min legs.toNat (plcs n).length) (fun i => (X (iA n) (iB n) (arrN n st) n.Legs.length x0 i, (i : Int))) (X (iA n) (iB n) (arrN n st) n.Legs.length x0 legs.toNat) (show min legs.toNat (plcs n).length < 1000000000000 by omega) (fun i hi => by
    show spec_BestArrivals_L1_b n legs (plcs n) (st : Int) _ _ = _
    unfold spec_BestArrivals_L1_b
    have h1 : (i : Int) < legs := by omega
    have h2 : (i : Int) < ((plcs n).length : Int) := by omega
    simp only [h1, h2, decide_true, cond_true, spec_round n h hn st _ (X_len (A := iA n) H S i) (X_big hn S hs i), Option.bind_some]
    rw [show w64 ((i : Int) + 1) = ((i + 1 : Nat) : Int) by rw [w64_id (by omega) (by omega)]; omega]
    rfl) (by
    show spec_BestArrivals_L1_b n legs (plcs n) (st : Int) _ _ = _
    unfold spec_BestArrivals_L1_b
    by_cases hc : legs.toNat ≤ (plcs n).length
    · have h1 : ¬ ((min legs.toNat (plcs n).length : Nat) : Int) < legs := by omega
      rw [show min legs.toNat (plcs n).length = legs.toNat by omega] at h1 ⊢
      simp only [h1, decide_false, cond_false]
    · have h1 : ¬ ((min legs.toNat (plcs n).length : Nat) : Int) < ((plcs n).length : Int) := by omega
      have e : X (iA n) (iB n) (arrN n st) n.Legs.length x0 legs.toNat = X (iA n) (iB n) (arrN n st) n.Legs.length x0 (min legs.toNat (plcs n).length) := by rw [hall _ (by omega), hall (min legs.toNat (plcs n).length) (by omega)]
      rw [e]
      simp only [h1, decide_false, cond_false]
      cases decide (((min legs.toNat (plcs n).length : Nat) : Int) < legs) <;> rfl)
  exact this
end Go.Sx
end
section
/- Best arrivals, the earliest arrival, the promise: the exact laws answer true. -/
namespace Go.Sx
open Relax
set_option linter.unusedVariables false

theorem idx_lt {l : List ByteArray} {p : ByteArray} (h : ¬ idxV l p < 0) : ∃ k : Nat, idxV l p = (k : Int) ∧ k < l.length := by
  unfold idxV at *
  cases hf : l.findIdx? (fun x => decide (x = p)) with
  | none => rw [hf] at h; simp at h
  | some i => obtain ⟨hi, _⟩ := List.findIdx?_eq_some_iff_getElem.1 hf; exact ⟨i, rfl, hi⟩
def v0N (at0 : Int) : Int := if 0 > at0 then 0 else at0
def x0N (n : Network) (st : Nat) (at0 : Int) : List Int := (List.replicate (plcs n).length (-1)).set st (v0N at0)
theorem g_x0 {n : Network} {st : Nat} {at0 : Int} (hst : st < (plcs n).length) (v : Nat) : g (x0N n st at0) v = if v = st then v0N at0 else -1 := by
  unfold x0N
  rw [g_set (by simpa using hst)]
  by_cases hv : v = st
  · rw [if_pos hv, if_pos hv]
  · rw [if_neg hv, if_neg hv]
    unfold g
    by_cases h : v < (plcs n).length
    · simp [h]
    · simp [h]
theorem x0_start {n : Network} {st : Nat} {at0 : Int} (hst : st < (plcs n).length) (ha : ¬ at0 > 100000) : Relax.Start (plcs n).length (x0N n st at0) st ∧ g (x0N n st at0) st ≤ 100000 := by
  have hg := g_x0 (at0 := at0) hst
  have hv : 0 ≤ v0N at0 ∧ v0N at0 ≤ 100000 := by unfold v0N; split <;> omega
  refine ⟨⟨by simp [x0N], hst, by rw [hg, if_pos rfl]; exact hv.1, fun v hne => by rw [hg, if_neg hne]; omega⟩, by rw [hg, if_pos rfl]; exact hv.2⟩
theorem first_eq0 (n : Network) (h : NetS n) (st : Nat) (hst : st < (plcs n).length) (at0 : Int) : spec_l4First (plcs n) (st : Int) at0 = some (x0N n st at0) := by
  have hp := plcs_len n h
  have hlen : (x0N n st at0).length = (plcs n).length := by simp [x0N]
  unfold spec_l4First
  have := loop_go (body := spec_l4First_L1 (plcs n) (st : Int) at0) (plcs n).length (fun i => ((x0N n st at0).take i, (i : Int))) (x0N n st at0) (show (plcs n).length < 1000000000000 by omega) (fun i hi => by
    have hi' : i < (x0N n st at0).length := by omega
    have hget : (x0N n st at0)[i] = if i = st then v0N at0 else -1 := by
      have := g_x0 (at0 := at0) hst i
      simpa [g, hi'] using this
    have hM : spec_Max at0 0 = some (v0N at0) := by
      unfold spec_Max v0N
      by_cases hh : 0 > at0 <;> simp [hh]
    have hws : w64 ((i : Int) + 1) = ((i + 1 : Nat) : Int) := by rw [w64_id (by omega) (by omega)]; omega
    have hap : ∀ z : Int, ap 8 ((x0N n st at0).take i) ([z] : List Int) = some ((x0N n st at0).take i ++ [z]) := fun z => ap_eq (by simp; omega) (by omega)
    show spec_l4First_L1_b (plcs n) (st : Int) at0 _ _ = _
    unfold spec_l4First_L1_b
    rw [List.take_succ_eq_append_getElem hi', hget]
    simp only [Int.ofNat_lt, hi, decide_true, cond_true, hws, hM, hap, Option.bind_some]
    by_cases hs : i = st
    · subst hs; simp
    · have : ((i : Int) == (st : Int)) = false := by simp; omega
      simp [this, hs]) (by
    show spec_l4First_L1_b (plcs n) (st : Int) at0 _ _ = _
    rw [show (x0N n st at0).take (plcs n).length = x0N n st at0 by rw [← hlen, List.take_length]]
    simp [spec_l4First_L1_b])
  have : loopM (spec_l4First_L1 (plcs n) (st : Int) at0) big (([] : List Int), 0) = some (.inl (x0N n st at0)) := this
  rw [this]
  rfl
def bestV (n : Network) (a : ByteArray) (at0 legs : Int) : List Int :=
  if netB n = true ∧ ¬ idxV (plcs n) a < 0 ∧ ¬ at0 > 100000 ∧ ¬ legs < 0 then X (iA n) (iB n) (arrN n (idxV (plcs n) a).toNat) n.Legs.length (x0N n (idxV (plcs n) a).toNat at0) legs.toNat else []
theorem best_spec (n : Network) (h : NetS n) (a : ByteArray) (at0 legs : Int) : spec_BestArrivals n a at0 legs = some (bestV n a at0 legs) := by
  have hp := plcs_len n h
  unfold spec_BestArrivals bestV
  rw [spec_PlacesOf_eq n h, spec_IsNetwork_eq n h]
  simp only [Option.bind_some, index_eq _ _ (show (plcs n).length ≤ 4000000 by omega)]
  cases hn : netB n with
  | false => simp
  | true =>
    by_cases h1 : idxV (plcs n) a < 0
    · simp [h1]
    by_cases h2 : at0 > 100000
    · simp [h1, h2]
    by_cases h3 : legs < 0
    · simp [h1, h2, h3]
    obtain ⟨st, e, hst⟩ := idx_lt h1
    obtain ⟨S, hs⟩ := x0_start hst h2
    simp only [h1, h2, h3, Bool.not_true, cond_false, decide_false, not_false_eq_true, and_self, if_true]
    rw [e, first_eq0 n h st hst]
    simp only [Option.bind_some, spec_rounds n h hn S hs legs (by omega), spec_BestArrivals_L1_k, spec_BestArrivals_L1_a, Int.toNat_natCast]
theorem best_len (n : Network) (h : NetS n) (a : ByteArray) (at0 legs : Int) : bestV n a at0 legs = [] ∨ ((bestV n a at0 legs).length = (plcs n).length ∧ ∀ v, g (bestV n a at0 legs) v = -1 ∨ 0 ≤ g (bestV n a at0 legs) v) := by
  unfold bestV
  split
  · rename_i hc
    obtain ⟨hn, h1, h2, h3⟩ := hc
    obtain ⟨st, e, hst⟩ := idx_lt h1
    obtain ⟨S, hs⟩ := x0_start hst h2
    rw [e, Int.toNat_natCast]
    refine .inr ⟨X_len (A := iA n) (relax_ok hn st) S _, ?_⟩
    generalize legs.toNat = k
    induction k with
    | zero =>
      intro v
      show g (x0N n st at0) v = -1 ∨ _
      by_cases hv : v = st
      · subst hv; exact .inr S.pos
      · exact .inl (by rw [g_x0 hst, if_neg hv])
    | succ k ih =>
      intro v
      rcases (inv (A := iA n) (relax_ok hn st) _ (X_len (A := iA n) (relax_ok hn st) S k) n.Legs.length (Nat.le_refl _)).from_ v with e1 | ⟨e1, _⟩
      · have e1 : g (X (iA n) (iB n) (arrN n st) n.Legs.length (x0N n st at0) (k + 1)) v = g (X (iA n) (iB n) (arrN n st) n.Legs.length (x0N n st at0) k) v := e1
        rw [e1]; exact ih v
      · exact .inr e1
  · exact .inl rfl
def earV (n : Network) (a b : ByteArray) (at0 : Int) : Int := if idxV (plcs n) b < 0 ∨ bestV n a at0 (plcs n).length = [] then -1 else g (bestV n a at0 (plcs n).length) (idxV (plcs n) b).toNat
theorem ear_spec (n : Network) (h : NetS n) (a b : ByteArray) (at0 : Int) : spec_EarliestAt n a b at0 = some (earV n a b at0) := by
  have hp := plcs_len n h
  unfold spec_EarliestAt earV
  rw [spec_PlacesOf_eq n h]
  simp only [Option.bind_some, index_eq _ _ (show (plcs n).length ≤ 4000000 by omega), best_spec n h]
  by_cases h1 : idxV (plcs n) b < 0
  · simp [h1]
  obtain ⟨t, e, ht⟩ := idx_lt h1
  rcases best_len n h a at0 (plcs n).length with h2 | ⟨h2, _⟩
  · simp [h1, h2]
  · have hne : bestV n a at0 (plcs n).length ≠ [] := fun e0 => by rw [e0] at h2; simp only [List.length_nil] at h2; omega
    have hz : (((bestV n a at0 (plcs n).length).length : Int) == 0) = false := by rw [h2]; exact beq_eq_false_iff_ne.2 (by omega)
    simp only [h1, decide_false, cond_false, hz, e, gi_g (show t < (bestV n a at0 (plcs n).length).length by rw [h2]; exact ht), Option.bind_some, hne, or_self, if_false, Int.toNat_natCast]
    simp [show ¬ ((t : Nat) : Int) < 0 by omega]
theorem ear_neg (n : Network) (h : NetS n) (a b : ByteArray) (at0 : Int) : earV n a b at0 = -1 ∨ 0 ≤ earV n a b at0 := by
  unfold earV
  split
  · exact .inl rfl
  · rename_i hc
    rcases best_len n h a at0 (plcs n).length with h2 | ⟨_, h2⟩
    · exact absurd (.inr h2) hc
    · exact h2 _
end Go.Sx
end
section
/- What is reached by a time, and the choices: the exact laws answer true. -/
namespace Go.Sx
open Relax
set_option linter.unusedVariables false

theorem best_le (n : Network) (h : NetS n) (a : ByteArray) (at0 legs : Int) : (bestV n a at0 legs).length ≤ 40 ∧ (netB n = false → bestV n a at0 legs = []) := by
  unfold bestV
  split
  · rename_i hq
    obtain ⟨hq, h1, h2, h3⟩ := hq
    obtain ⟨st, e, hst⟩ := idx_lt h1
    obtain ⟨S, hs⟩ := x0_start hst h2
    rw [e, Int.toNat_natCast, X_len (A := iA n) (relax_ok hq st) S]
    have h20 : n.Legs.length ≤ 20 := by
      have hq' := hq
      simp only [netB, Bool.and_eq_true, decide_eq_true_eq] at hq'
      omega
    have := ins_len (nmL n.Legs) []
    rw [nmL_len] at this
    simp only [List.length_nil] at this
    refine ⟨by unfold plcs; omega, fun hf => by rw [hq] at hf; cases hf⟩
  · exact ⟨by simp, fun _ => rfl⟩
theorem plcs_le {n : Network} (hn : netB n = true) : (plcs n).length ≤ 40 := by
  have h20 : n.Legs.length ≤ 20 := by
    simp only [netB, Bool.and_eq_true, decide_eq_true_eq] at hn
    omega
  have := ins_len (nmL n.Legs) []
  rw [nmL_len] at this
  simp only [List.length_nil] at this
  unfold plcs
  omega
theorem gi_some_g {l : List Int} {i x : Int} (h : gi l i = some x) : g l i.toNat = x ∧ 0 ≤ i ∧ i.toNat < l.length := by
  obtain ⟨h0, h1⟩ := gi_map encI h
  rw [List.getElem?_map] at h1
  cases hy : l[i.toNat]? with
  | none => rw [hy] at h1; cases h1
  | some y =>
    rw [hy] at h1
    simp [encI] at h1
    exact ⟨by simp [g, hy, h1], h0, (List.getElem?_eq_some_iff.1 hy).1⟩
theorem best_val (n : Network) (h : NetS n) (a : ByteArray) (at0 legs : Int) {i x : Int} (hg : gi (bestV n a at0 legs) i = some x) : x = -1 ∨ 0 ≤ x := by
  obtain ⟨e, _, hlt⟩ := gi_some_g hg
  rcases best_len n h a at0 legs with h1 | ⟨_, h1⟩
  · rw [h1] at hlt; simp at hlt
  · rw [← e]; exact h1 _
end Go.Sx
end
section
/- The latest starts: sweeps until nothing turns, and a fixed number of sweeps, come to the same. -/
namespace Go.Sx
open Relax (g g_set)
set_option linter.unusedVariables false

def lasB (n : Network) (leg due : Int) (d : Nat) : Bool := runB n leg d && decide (enT n ⟨leg, d⟩ ≤ due)
def days : List Nat := (List.range 61).reverse
theorem fold_last (p : Nat → Bool) : ∀ (l : List Nat) (i : Nat) (x : Int), each (X := Int) (R := Int) (fun _ d x => .inl (bif p d then (d : Int) else x)) i l x = .inl (match l.reverse.find? p with | some d => (d : Int) | none => x)
  | [], _, x => rfl
  | a :: l, i, x => by
    rw [each]
    show each _ (i + 1) l _ = _
    rw [fold_last p l (i + 1)]
    rw [List.reverse_cons, List.find?_append]
    cases h : l.reverse.find? p with
    | some d => rfl
    | none =>
      cases hp : p a <;> simp [hp]
theorem days_get {i : Nat} (h : i < days.length) : days[i] = 60 - i := by
  have h61 : i < 61 := by simpa [days] using h
  have key : ∀ i < 61, days[i]? = some (60 - i) := by decide
  have := key i h61
  rw [List.getElem?_eq_getElem h] at this
  injection this
end Go.Sx
end
section
/- The latest starts: what both functions compute; the exact laws answer true. -/
namespace Go.Sx
open Relax (g g_set)
set_option linter.unusedVariables false

def lfN (n : Network) (x i : Nat) (v : Int) : Option Int :=
  if v ≤ 9223372036854775807 then (match days.find? (lasB n i (if iB n i = x then v else w64 (v - n.Change))) with | some d => some (stT n ⟨i, d⟩) | none => none) else none
theorem las_trip {n : Network} (hn : netB n = true) {leg due : Int} {d : Nat} (h : days.find? (lasB n leg due) = some d) : tripB n ⟨leg, d⟩ = true ∧ enT n ⟨leg, d⟩ ≤ due := by
  have := List.find?_some h
  simp only [lasB, Bool.and_eq_true, decide_eq_true_eq] at this
  exact ⟨by simp [tripB, hn, this.1], this.2⟩
theorem lfN_in {n : Network} (hn : netB n = true) {x i : Nat} {v s : Int} (h0 : 0 ≤ v) (h : lfN n x i v = some s) : s < v ∧ s ≤ 90000 := by
  unfold lfN at h
  split at h
  · rename_i hv
    cases hf : days.find? (lasB n i (if iB n i = x then v else w64 (v - n.Change))) with
    | none => rw [hf] at h; cases h
    | some d =>
      rw [hf] at h
      injection h with h
      subst h
      obtain ⟨ht, hs⟩ := las_trip hn hf
      have hb := stT_in ht
      have hc := change_in hn
      have : (if iB n i = x then v else w64 (v - n.Change)) ≤ v := by
        split
        · exact Int.le_refl _
        · rw [w64_id (by omega) (by omega)]; omega
      omega
  · cases h
theorem sweep_ok {n : Network} (hn : netB n = true) (hL : 0 < n.Legs.length) {x : Nat} (hx : x < (plcs n).length) : Sweep.Ok (iA n) (lfN n x) (plcs n).length n.Legs.length x :=
  ⟨hL, fun i hi => (iA_spec hi).2, fun i v s hi h0 h => (lfN_in hn h0 h).1, hx⟩
abbrev YN (n : Network) (x : Nat) (y0 : List Int) (t : Nat) : List Int := Sweep.Y (iA n) (iB n) (lfN n x) x n.Legs.length y0 t
theorem set_g {l : List Int} {k : Nat} (h : k < l.length) : l.set k (g l k) = l := by
  apply List.ext_getElem?
  intro i
  by_cases hi : k = i
  · subst hi; simp [g, h]
  · rw [List.getElem?_set_ne hi]
theorem Y_big {n : Network} (hn : netB n = true) (hL : 0 < n.Legs.length) {x : Nat} (hx : x < (plcs n).length) {y0 : List Int} (h0 : y0.length = (plcs n).length) (hb : ∀ v, g y0 v ≤ 9223372036854775807) : ∀ t v, g (Sweep.Y (iA n) (iB n) (lfN n x) x n.Legs.length y0 t) v ≤ 9223372036854775807
  | 0, v => hb v
  | t + 1, v => by
    rcases Sweep.step_at (B := iB n) (sweep_ok hn hL hx) h0 t v with e | ⟨_, _, e2, e3, _⟩
    · rw [e]; exact Y_big hn hL hx h0 hb t v
    · have := (lfN_in hn e2 e3).2
      omega
theorem Y_goal {n : Network} (hn : netB n = true) (hL : 0 < n.Legs.length) {x : Nat} (hx : x < (plcs n).length) {y0 : List Int} (h0 : y0.length = (plcs n).length) : ∀ t, g (Sweep.Y (iA n) (iB n) (lfN n x) x n.Legs.length y0 t) x = g y0 x
  | 0 => rfl
  | t + 1 => by
    rcases Sweep.step_at (B := iB n) (sweep_ok hn hL hx) h0 t x with e | ⟨_, e, _⟩
    · rw [e]; exact Y_goal hn hL hx h0 t
    · exact absurd rfl e
end Go.Sx
end
section
/- The latest starts: whole sweeps. -/
namespace Go.Sx
open Relax (g g_set)
set_option linter.unusedVariables false

theorem mul_mod {k L i : Nat} (h : i < L) : (k * L + i) % L = i := by
  rw [Nat.mul_comm, Nat.mul_add_mod]; exact Nat.mod_eq_of_lt h
end Go.Sx
end
section
/- The latest starts: the sweeps of the program, and the exact laws. -/
namespace Go.Sx
open Relax (g g_set)
set_option linter.unusedVariables false

theorem g_ext {l l' : List Int} (hl : l.length = l'.length) (h : ∀ v, g l v = g l' v) : l = l' := by
  apply List.ext_getElem hl
  intro i h1 h2
  have := h i
  simpa [g, h1, h2] using this
section
variable {n : Network} {x : Nat} {y0 : List Int}
theorem Y_shift (k : Nat) : ∀ t, Sweep.Y (iA n) (iB n) (lfN n x) x n.Legs.length y0 (k * n.Legs.length + t) = Sweep.Y (iA n) (iB n) (lfN n x) x n.Legs.length (Sweep.Y (iA n) (iB n) (lfN n x) x n.Legs.length y0 (k * n.Legs.length)) t
  | 0 => rfl
  | t + 1 => by
    show Sweep.stp (iA n) (iB n) (lfN n x) x ((k * n.Legs.length + t) % n.Legs.length) _ = Sweep.stp (iA n) (iB n) (lfN n x) x (t % n.Legs.length) _
    have e : (k * n.Legs.length + t) % n.Legs.length = t % n.Legs.length := by rw [Nat.mul_comm, Nat.mul_add_mod]
    rw [e]
    exact congrArg _ (Y_shift k t)
theorem Y_const {k : Nat} (h : Sweep.Y (iA n) (iB n) (lfN n x) x n.Legs.length y0 ((k + 1) * n.Legs.length) = Sweep.Y (iA n) (iB n) (lfN n x) x n.Legs.length y0 (k * n.Legs.length)) : ∀ j, Sweep.Y (iA n) (iB n) (lfN n x) x n.Legs.length y0 ((k + j) * n.Legs.length) = Sweep.Y (iA n) (iB n) (lfN n x) x n.Legs.length y0 (k * n.Legs.length)
  | 0 => rfl
  | j + 1 => by
    have ih := Y_const h j
    rw [show (k + (j + 1)) * n.Legs.length = (k + j) * n.Legs.length + n.Legs.length by rw [← Nat.add_assoc, Nat.add_mul, Nat.one_mul], Y_shift, ih, ← Y_shift, show k * n.Legs.length + n.Legs.length = (k + 1) * n.Legs.length by rw [Nat.add_mul, Nat.one_mul]]
    exact h
end
end Go.Sx
end
section
/- The latest starts: the exact law answers true. -/
namespace Go.Sx
open Relax (g g_set)
set_option linter.unusedVariables false

theorem wf_le {z : Int} (h : (Lit.int .i64 z).wf = true) : z ≤ 9223372036854775807 := by
  simp [Lit.wf, IntKind.signed, IntKind.bits] at h
  omega
def y0N (n : Network) (x : Nat) (b : Int) : List Int := (List.replicate (plcs n).length (-1)).set x b
theorem g_y0 {n : Network} {x : Nat} {b : Int} (hx : x < (plcs n).length) (v : Nat) : g (y0N n x b) v = if v = x then b else -1 := by
  unfold y0N
  rw [g_set (by simpa using hx)]
  by_cases hv : v = x
  · rw [if_pos hv, if_pos hv]
  · rw [if_neg hv, if_neg hv]
    unfold g
    by_cases h : v < (plcs n).length
    · simp [h]
    · simp [h]
def latV (n : Network) (a : ByteArray) (b : Int) : List Int :=
  if netB n = true ∧ ¬ idxV (plcs n) a < 0 ∧ ¬ b < 0 then Sweep.Y (iA n) (iB n) (lfN n (idxV (plcs n) a).toNat) (idxV (plcs n) a).toNat n.Legs.length (y0N n (idxV (plcs n) a).toNat b) ((plcs n).length * n.Legs.length) else []
end Go.Sx
end
section
/- The latest start: the exact law answers true. -/
namespace Go.Sx
open Relax (g g_set)
set_option linter.unusedVariables false

theorem lat_len (n : Network) (h : NetS n) (a : ByteArray) (b : Int) : latV n a b = [] ∨ (latV n a b).length = (plcs n).length := by
  unfold latV
  split
  · exact .inr (Sweep.Y_len (by simp [y0N]) _)
  · exact .inl rfl
end Go.Sx
end
section
/- What the best arrivals and the latest starts mean. -/
namespace Go.Sx
open Relax (g g_set X)
set_option linter.unusedVariables false

theorem nxt_mono {n : Network} {leg r r' : Int} {d : Nat} (hr : r' ≤ r) (h : (List.range 61).find? (nxtB n leg r) = some d) : ∃ d', (List.range 61).find? (nxtB n leg r') = some d' ∧ d' ≤ d := by
  obtain ⟨h1, h2, h3⟩ := List.find?_range_eq_some.1 h
  have h1' : nxtB n leg r' d = true := by
    simp only [nxtB, Bool.and_eq_true, decide_eq_true_eq] at h1 ⊢
    exact ⟨h1.1, by omega⟩
  cases hf : (List.range 61).find? (nxtB n leg r') with
  | none => exact absurd h1' (by simpa using List.find?_eq_none.1 hf d h2)
  | some d' =>
    refine ⟨d', rfl, ?_⟩
    obtain ⟨g1, g2, g3⟩ := List.find?_range_eq_some.1 hf
    by_cases hh : d < d'
    · have := g3 d hh
      rw [h1'] at this; cases this
    · omega
theorem enT_mono (n : Network) (leg : Int) {d d' : Nat} (h : d' ≤ d) : enT n ⟨leg, d'⟩ ≤ enT n ⟨leg, d⟩ ∧ stT n ⟨leg, d'⟩ ≤ stT n ⟨leg, d⟩ := by
  unfold enT stT
  simp only
  omega
theorem las_mono {n : Network} {leg u : Int} {d : Nat} (hd : d < 61) (hr : runB n leg d = true) (hu : enT n ⟨leg, d⟩ ≤ u) : ∃ d', days.find? (lasB n leg u) = some d' ∧ d ≤ d' := by
  have h1 : lasB n leg u d = true := by simp [lasB, hr, hu]
  have hm : d ∈ days := by simp [days]; exact hd
  cases hf : days.find? (lasB n leg u) with
  | none => exact absurd h1 (by simpa using List.find?_eq_none.1 hf d hm)
  | some d' =>
    refine ⟨d', rfl, ?_⟩
    obtain ⟨g1, i, hi, g2, g3⟩ := List.find?_eq_some_iff_getElem.1 hf
    have hdl : 60 - d < days.length := by simp [days]; omega
    have e1 := days_get hdl
    have e2 := days_get hi
    by_cases hh : 60 - d < i
    · have := g3 (60 - d) hh
      rw [e1, show 60 - (60 - d) = d by omega, h1] at this
      cases this
    · simp [days] at hi
      omega
theorem rdy_eq {n : Network} (hn : netB n = true) {st i : Nat} {x : Int} (h0 : 0 ≤ x) (h1 : x ≤ 1000000) : rdyN n st i x = if iA n i = st then x else x + n.Change := by
  have := change_in hn
  unfold rdyN
  rw [w64_id (by omega) (by omega)]
/-- an arrival along one leg, said without the search -/
theorem arr_some {n : Network} {st i : Nat} {x e : Int} (h : arrN n st i x = some e) : x ≤ 1000000 ∧ ∃ d, (List.range 61).find? (nxtB n i (rdyN n st i x)) = some d ∧ e = enT n ⟨i, d⟩ := by
  unfold arrN at h
  split at h
  · rename_i hx
    refine ⟨hx, ?_⟩
    cases hf : (List.range 61).find? (nxtB n i (rdyN n st i x)) with
    | none => rw [hf] at h; cases h
    | some d => rw [hf] at h; injection h with h; exact ⟨d, rfl, h.symm⟩
  · cases h
/-- WHO IS READY EARLIER ARRIVES NO LATER -/
theorem arr_mono {n : Network} (hn : netB n = true) {st st' i : Nat} {x x' e : Int} (h0 : 0 ≤ x') (hx : x' ≤ 1000000) (hr : rdyN n st' i x' ≤ rdyN n st i x) (h : arrN n st i x = some e) : ∃ e', arrN n st' i x' = some e' ∧ e' ≤ e := by
  obtain ⟨_, d, hd, rfl⟩ := arr_some h
  obtain ⟨d', h1, h2⟩ := nxt_mono hr hd
  refine ⟨enT n ⟨i, d'⟩, ?_, (enT_mono n i h2).1⟩
  unfold arrN
  rw [if_pos hx, h1]

/-- the rounds from a place at a time -/
abbrev XN (n : Network) (st : Nat) (at0 : Int) (k : Nat) : List Int := X (iA n) (iB n) (arrN n st) n.Legs.length (x0N n st at0) k
/-- the end of the rounds -/
abbrev DN (n : Network) (st : Nat) (at0 : Int) (v : Nat) : Int := g (XN n st at0 (plcs n).length) v
section
variable {n : Network} (hn : netB n = true) {st : Nat} (hst : st < (plcs n).length) {at0 : Int} (ha : ¬ at0 > 100000)
include hn hst ha
theorem XN_big (k v : Nat) : g (XN n st at0 k) v ≤ 1000000 := X_big hn (x0_start hst ha).1 (x0_start hst ha).2 k v
theorem XN_st (k : Nat) : g (XN n st at0 k) st = v0N at0 := by
  have := Relax.X_start (A := iA n) (relax_ok hn st) (x0_start hst ha).1 k
  rw [this, g_x0 hst, if_pos rfl]
theorem XN_low (k v : Nat) (h : 0 ≤ g (XN n st at0 k) v) : v0N at0 ≤ g (XN n st at0 k) v := by
  have := Relax.X_low (A := iA n) (relax_ok hn st) (x0_start hst ha).1 k v h
  rw [g_x0 hst, if_pos rfl] at this
  exact this
theorem XN_more (k j v : Nat) (h : 0 ≤ g (XN n st at0 k) v) : 0 ≤ g (XN n st at0 (k + j)) v ∧ g (XN n st at0 (k + j)) v ≤ g (XN n st at0 k) v :=
  Relax.X_mono (A := iA n) (relax_ok hn st) (x0_start hst ha).1 k v h j
theorem XN_neg (k v : Nat) : g (XN n st at0 k) v = -1 ∨ 0 ≤ g (XN n st at0 k) v := by
  induction k with
  | zero =>
    have h0 := g_x0 (at0 := at0) hst v
    show g (x0N n st at0) v = -1 ∨ 0 ≤ g (x0N n st at0) v
    rw [h0]
    split
    · refine .inr ?_; unfold v0N; split <;> omega
    · exact .inl rfl
  | succ k ih =>
    rcases (Relax.inv (A := iA n) (relax_ok hn st) _ (Relax.X_len (A := iA n) (relax_ok hn st) (x0_start hst ha).1 k) n.Legs.length (Nat.le_refl _)).from_ v with e | ⟨e1, _⟩
    · have e : g (XN n st at0 (k + 1)) v = g (XN n st at0 k) v := e
      rw [e]
      exact ih
    · exact .inr e1
theorem XN_step {k i : Nat} {e : Int} (hi : i < n.Legs.length) (h0 : 0 ≤ g (XN n st at0 k) (iA n i)) (he : arrN n st i (g (XN n st at0 k) (iA n i)) = some e) :
    0 ≤ g (XN n st at0 (k + 1)) (iB n i) ∧ g (XN n st at0 (k + 1)) (iB n i) ≤ e := Relax.X_step (relax_ok hn st) (x0_start hst ha).1 hi h0 he
theorem DN_closed {i : Nat} {e : Int} (hi : i < n.Legs.length) (h0 : 0 ≤ DN n st at0 (iA n i)) (he : arrN n st i (DN n st at0 (iA n i)) = some e) :
    0 ≤ DN n st at0 (iB n i) ∧ DN n st at0 (iB n i) ≤ e := Relax.X_closed (relax_ok hn st) (x0_start hst ha).1 (Nat.le_succ _) hi h0 he
theorem XN_end {k : Nat} (hk : (plcs n).length ≤ k) : XN n st at0 k = XN n st at0 (plcs n).length := Relax.X_end (A := iA n) (relax_ok hn st) (x0_start hst ha).1 hk
theorem XN_ind (P : Nat → Nat → Int → Prop) (h0 : P 0 st (v0N at0)) (hk : ∀ k v u, P k v u → P (k + 1) v u)
    (hs : ∀ k i u e, i < n.Legs.length → 0 ≤ u → P k (iA n i) u → arrN n st i u = some e → P (k + 1) (iB n i) e) : ∀ k v, 0 ≤ g (XN n st at0 k) v → P k v (g (XN n st at0 k) v) :=
  Relax.X_ind (relax_ok hn st) (x0_start hst ha).1 P (by rw [g_x0 hst, if_pos rfl]; exact h0) hk hs
end
/-- WHO STARTS LATER ARRIVES NO EARLIER -/
theorem XN_later {n : Network} (hn : netB n = true) {st : Nat} (hst : st < (plcs n).length) {a b : Int} (hb : ¬ b > 100000) (hab : v0N a ≤ v0N b) (ha : ¬ a > 100000) (k v : Nat)
    (h : 0 ≤ g (XN n st b k) v) : 0 ≤ g (XN n st a k) v ∧ g (XN n st a k) v ≤ g (XN n st b k) v := by
  have h00 : 0 ≤ v0N a := by unfold v0N; split <;> omega
  refine XN_ind hn hst hb (fun k v u => 0 ≤ g (XN n st a k) v ∧ g (XN n st a k) v ≤ u) ?_ ?_ ?_ k v h
  · have := XN_st hn hst ha 0
    rw [this]; omega
  · intro k v u ⟨h1, h2⟩
    have := XN_more hn hst ha k 1 v h1
    omega
  · intro k i u e hi hu ⟨h1, h2⟩ he
    have hbg := XN_big hn hst ha k (iA n i)
    have hub := (arr_some he).1
    obtain ⟨e', h3, h4⟩ := arr_mono hn h1 hbg (st' := st) (by rw [rdy_eq hn h1 hbg, rdy_eq hn hu hub]; split <;> omega) he
    have := XN_step hn hst ha hi h1 h3
    omega
/-- A WAY OVER A THIRD PLACE IS NEVER EARLIER -/
theorem DN_over {n : Network} (hn : netB n = true) {st so : Nat} (hst : st < (plcs n).length) (hso : so < (plcs n).length) {a : Int} (ha : ¬ a > 100000) (h0 : 0 ≤ DN n st a so)
    (hb : ¬ DN n st a so + n.Change > 100000) (k v : Nat) (h : 0 ≤ g (XN n so (DN n st a so + n.Change) k) v) : 0 ≤ DN n st a v ∧ DN n st a v ≤ g (XN n so (DN n st a so + n.Change) k) v := by
  have hc := change_in hn
  have hv0 : v0N (DN n st a so + n.Change) = DN n st a so + n.Change := by unfold v0N; split <;> omega
  suffices H : 0 ≤ DN n st a v ∧ DN n st a v ≤ g (XN n so (DN n st a so + n.Change) k) v ∧ DN n st a so + n.Change ≤ g (XN n so (DN n st a so + n.Change) k) v from ⟨H.1, H.2.1⟩
  refine XN_ind hn hso hb (fun k v u => 0 ≤ DN n st a v ∧ DN n st a v ≤ u ∧ DN n st a so + n.Change ≤ u) ?_ (fun _ _ _ h => h) ?_ k v h
  · rw [hv0]; omega
  · intro k i u e hi hu ⟨h1, h2, h3⟩ he
    have hbg := XN_big hn hst ha (plcs n).length (iA n i)
    have hub := (arr_some he).1
    have hlt := (arrN_in hn hu he).1
    obtain ⟨e', h4, h5⟩ := arr_mono hn h1 hbg (st' := st) (by
      rw [rdy_eq hn h1 hbg, rdy_eq hn hu hub]
      by_cases e1 : iA n i = st
      · rw [if_pos e1]
        split <;> omega
      · rw [if_neg e1]
        by_cases e2 : iA n i = so
        · rw [if_pos e2]
          have : DN n st a (iA n i) = DN n st a so := by rw [e2]
          omega
        · rw [if_neg e2]; omega) he
    have := DN_closed hn hst ha hi h1 h4
    omega
/-- the end of the sweeps -/
abbrev LN (n : Network) (x : Nat) (b : Int) (v : Nat) : Int := g (YN n x (y0N n x b) ((plcs n).length * n.Legs.length)) v
theorem places_legs {n : Network} {x : Nat} (hx : x < (plcs n).length) : 0 < n.Legs.length := by
  cases hL : n.Legs with
  | nil =>
    have : plcs n = [] := by simp [plcs, hL, nmL]
    rw [this] at hx
    exact absurd hx (Nat.not_lt_zero _)
  | cons a l => simp
theorem lf_some {n : Network} {x i : Nat} {v s : Int} (h : lfN n x i v = some s) : ∃ d, days.find? (lasB n i (if iB n i = x then v else w64 (v - n.Change))) = some d ∧ s = stT n ⟨i, d⟩ := by
  unfold lfN at h
  split at h
  · cases hf : days.find? (lasB n i (if iB n i = x then v else w64 (v - n.Change))) with
    | none => rw [hf] at h; cases h
    | some d => rw [hf] at h; injection h with h; exact ⟨d, rfl, h.symm⟩
  · cases h
theorem y0_len (n : Network) (x : Nat) (b : Int) : (y0N n x b).length = (plcs n).length := by simp [y0N]
section
variable {n : Network} (hn : netB n = true) {x : Nat} (hx : x < (plcs n).length) {b : Int} (hb0 : 0 ≤ b)
include hn hx
theorem LN_goal (t : Nat) : g (YN n x (y0N n x b) t) x = b := by
  have hL := places_legs hx
  rw [Y_goal hn hL hx (y0_len n x b), g_y0 hx, if_pos rfl]
theorem LN_le (t v : Nat) (h : 0 ≤ g (YN n x (y0N n x b) t) v) : g (YN n x (y0N n x b) t) v ≤ b := by
  have hL := places_legs hx
  refine Sweep.Y_ind (sweep_ok hn hL hx) (y0_len n x b) (fun _ u => u ≤ b) (by rw [g_y0 hx, if_pos rfl]; exact Int.le_refl _) (fun v hv => by rw [g_y0 hx, if_neg hv]; omega) ?_ t v h
  intro i u s hi hA hu hP hf
  have := (lfN_in hn hu hf).1
  omega
theorem LN_closed {i : Nat} {s : Int} (hi : i < n.Legs.length) (hA : iA n i ≠ x) (h0 : 0 ≤ LN n x b (iB n i)) (hf : lfN n x i (LN n x b (iB n i)) = some s) : s ≤ LN n x b (iA n i) := by
  have hL := places_legs hx
  exact Sweep.Y_closed (sweep_ok hn hL hx) (y0_len n x b) (by rw [Nat.mul_div_cancel _ hL]; omega) hi hA h0 hf
include hb0 in
theorem LN_neg (t v : Nat) : g (YN n x (y0N n x b) t) v = -1 ∨ 0 ≤ g (YN n x (y0N n x b) t) v := by
  have hL := places_legs hx
  induction t with
  | zero =>
    show g (y0N n x b) v = -1 ∨ 0 ≤ g (y0N n x b) v
    rw [g_y0 hx]
    split
    · exact .inr hb0
    · exact .inl rfl
  | succ t ih =>
    rcases Sweep.step_at (B := iB n) (sweep_ok hn hL hx) (y0_len n x b) t v with e | ⟨_, _, h2, h3, h4⟩
    · rw [e]; exact ih
    · refine .inr ?_
      obtain ⟨d, hd, hs⟩ := lf_some h3
      have h5 := (stT_in (las_trip hn hd).1).1
      rw [← hs] at h5
      exact h5
end
/-- WHO LEAVES AT THE LATEST START ARRIVES IN TIME -/
theorem dual_1 {n : Network} (hn : netB n = true) {st x : Nat} (hst : st < (plcs n).length) (hx : x < (plcs n).length) {a b : Int} (ha0 : 0 ≤ a) (ha : ¬ a > 100000) (hb0 : 0 ≤ b) (hb : b ≤ 100000)
    (h : a ≤ LN n x b st) : 0 ≤ DN n st a x ∧ DN n st a x ≤ b := by
  have hc := change_in hn
  have hL := places_legs hx
  have hv0 : v0N a = a := by unfold v0N; split <;> omega
  have hs := XN_st hn hst ha (plcs n).length
  have key := Sweep.Y_ind (B := iB n) (sweep_ok hn hL hx) (y0_len n x b) (fun v u => u ≤ b ∧ (0 ≤ DN n st a v → (if v = st then DN n st a v else DN n st a v + n.Change) ≤ u → 0 ≤ DN n st a x ∧ DN n st a x ≤ b)) ?_ (fun v hv => by rw [g_y0 hx, if_neg hv]; omega) ?_ ((plcs n).length * n.Legs.length) st (by show 0 ≤ LN n x b st; omega)
  · exact key.2 (by show 0 ≤ g (XN n st a (plcs n).length) st; omega) (by rw [if_pos rfl]; show g (XN n st a (plcs n).length) st ≤ LN n x b st; omega)
  · rw [g_y0 hx, if_pos rfl]
    refine ⟨Int.le_refl _, fun h1 h2 => ⟨h1, ?_⟩⟩
    split at h2 <;> omega
  · intro i u s hi hA hu ⟨hub', hP⟩ hf
    have hlt := (lfN_in hn hu hf).1
    refine ⟨by omega, fun h1 h2 => ?_⟩
    obtain ⟨d, hd, rfl⟩ := lf_some hf
    obtain ⟨ht, he⟩ := las_trip hn hd
    have hbg := XN_big hn hst ha (plcs n).length (iA n i)
    have hrun : runB n i d = true := by have := ht; simp [tripB, hn] at this; exact this
    have hd61 := (trip_in ht).2.2.2.2
    have hcan : nxtB n i (rdyN n st i (DN n st a (iA n i))) d = true := by
      rw [rdy_eq hn h1 hbg]
      simp only [nxtB, hrun, Bool.true_and, decide_eq_true_eq]
      exact h2
    cases hf2 : (List.range 61).find? (nxtB n i (rdyN n st i (DN n st a (iA n i)))) with
    | none => exact absurd hcan (by simpa using List.find?_eq_none.1 hf2 d (by simp; simp only at hd61; omega))
    | some d' =>
      have hdd : d' ≤ d := by
        obtain ⟨g1, g2, g3⟩ := List.find?_range_eq_some.1 hf2
        by_cases hh : d < d'
        · have := g3 d hh
          rw [hcan] at this; cases this
        · omega
      have harr : arrN n st i (DN n st a (iA n i)) = some (enT n ⟨i, d'⟩) := by
        unfold arrN
        rw [if_pos hbg, hf2]
      have hcl := DN_closed hn hst ha hi h1 harr
      have hem := (enT_mono n i hdd).1
      by_cases e1 : iB n i = x
      · rw [if_pos e1] at he
        rw [e1] at hcl
        omega
      · rw [if_neg e1, w64_id (by omega) (by omega)] at he
        refine hP hcl.1 ?_
        split <;> omega
/-- WHO ARRIVES IN TIME LEFT AT THE LATEST START OR BEFORE -/
theorem dual_2 {n : Network} (hn : netB n = true) {st x : Nat} (hst : st < (plcs n).length) (hx : x < (plcs n).length) {a b : Int} (ha0 : 0 ≤ a) (ha : ¬ a > 100000) (hb0 : 0 ≤ b) (hb : b ≤ 100000)
    (h0 : 0 ≤ DN n st a x) (h : DN n st a x ≤ b) : a ≤ LN n x b st := by
  have hc := change_in hn
  have hv0 : v0N a = a := by unfold v0N; split <;> omega
  have hg := LN_goal hn hx (b := b) ((plcs n).length * n.Legs.length)
  have key := XN_ind hn hst ha (fun _ v u => a ≤ u ∧ ((if v = x then u ≤ b else (if v = st then u else u + n.Change) ≤ LN n x b v) → a ≤ LN n x b st)) ?_ (fun _ _ _ h => h) ?_ (plcs n).length x h0
  · exact key.2 (by rw [if_pos rfl]; exact h)
  · rw [hv0]
    refine ⟨Int.le_refl _, fun hh => ?_⟩
    by_cases e : st = x
    · rw [if_pos e] at hh
      rw [e]
      show a ≤ g (YN n x (y0N n x b) ((plcs n).length * n.Legs.length)) x
      omega
    · rw [if_neg e, if_pos rfl] at hh; exact hh
  · intro k i u e hi hu ⟨hau, hP⟩ he
    have hlt := (arrN_in hn hu he).1
    refine ⟨by omega, fun hh => ?_⟩
    obtain ⟨hub, d, hd, rfl⟩ := arr_some he
    obtain ⟨ht, hs⟩ := nxt_trip hn hd
    rw [rdy_eq hn hu hub] at hs
    have hrun : runB n i d = true := by have := ht; simp [tripB, hn] at this; exact this
    have hd61 : d < 61 := by have := (trip_in ht).2.2.2.2; simp only at this; omega
    have hen := stT_in ht
    by_cases hB : iB n i = x
    · rw [if_pos hB] at hh
      obtain ⟨d', h1, h2⟩ := las_mono hd61 hrun hh
      have hLx : LN n x b (iB n i) = b := by rw [hB]; exact hg
      have hlf : lfN n x i (LN n x b (iB n i)) = some (stT n ⟨i, d'⟩) := by
        rw [hLx]
        unfold lfN
        rw [if_pos hB, if_pos (by omega), h1]
      have hst2 := (enT_mono n i h2).2
      apply hP
      by_cases hA : iA n i = x
      · rw [if_pos hA]; omega
      · rw [if_neg hA]
        have := LN_closed hn hx hi hA (by rw [hLx]; exact hb0) hlf
        split at hs <;> split <;> omega
    · rw [if_neg hB] at hh
      by_cases hBs : iB n i = st
      · rw [if_pos hBs, hBs] at hh
        omega
      · rw [if_neg hBs] at hh
        have hL0 : 0 ≤ LN n x b (iB n i) := by omega
        have hLb' : LN n x b (iB n i) ≤ b := LN_le hn hx ((plcs n).length * n.Legs.length) (iB n i) hL0
        obtain ⟨d', h1, h2⟩ := las_mono (u := LN n x b (iB n i) - n.Change) hd61 hrun (by omega)
        have hlf : lfN n x i (LN n x b (iB n i)) = some (stT n ⟨i, d'⟩) := by
          unfold lfN
          rw [if_neg hB, w64_id (by omega) (by omega), if_pos (by omega), h1]
        have hst2 := (enT_mono n i h2).2
        apply hP
        by_cases hA : iA n i = x
        · rw [if_pos hA]; omega
        · rw [if_neg hA]
          have := LN_closed hn hx hi hA hL0 hlf
          split at hs <;> split <;> omega
end Go.Sx
end
